/- The law MovesUndone of headlandlaw20 returns true, at arguments of the row's types whose lengths are at most uptoBulk: a move that Do and Back accept is undone by the move that Back returns. Conditions: those of the given row (Rows.MovesUndoneUptoCardSaid), and no others. Part 8 of the proof: Ct Gl Li Ca. -/
import Derived.Test.YtfephppemgmokaaGreatDoorBg
import Derived.WalkKit
import Derived.ProofKit
import Derived.OpenShut
import Derived.Deep.DeepHandedRow
import Derived.Lib.LaidTab
import Derived.Shelf.Strings.Shaped
import Derived.Test.YtfephppemgmokaaGreatDoorCards
import Derived.Test.YtfephppemgmokaaGreatDoorTie
set_option linter.unusedVariables false
set_option linter.unusedSimpArgs false
set_option linter.unusedSectionVars false
section
/- What the law's function does, for every argument and world. -/
open Go Go.Proofs Go.Sym Go.RowKit Go.ChangeShapes Go.WideShapes Go.ChangeAt Go.Proofs.YtfephppemgmokaaGreatDoor
namespace T
def typesS : List Nat := [26, 29, 32, 22, 23, 24, 27, 30, 50, 52, 54, 73, 75, 79, 80, 82, 84, 86, 88, 90, 132, 209, 3, 9]
theorem typesOK : ∀ t ∈ typesS, plainT Tryz.prog typesS t = true := by
  have h : typesS.all (fun t => plainT Tryz.prog typesS t) = true := by kernel_rfl
  exact fun t ht => List.all_eq_true.1 h t ht
set_option maxRecDepth 100000
theorem agg_of {W : World} {base : Nat} {t : TypeId} {v : Value} {fs : Array Field} (hu : Tryz.prog.underlying t = some (.struct fs)) (h : Value.okWide Tryz.prog W .any base t v) : ∃ cs, v = .agg cs := by
  unfold Value.okWide at h
  rw [hu] at h
  obtain ⟨cs, h, _⟩ := h
  exact ⟨cs, h⟩
theorem contract (H : Type) (enc : TypeId × Value → H) (W : World) (base : Nat) (args : Array Value) (ds gs : List (DataW H)) (before : List MemPlace)
    (hval : ∀ (j : Nat) t v, Tryz.f4.params[j]? = some t → args[j]? = some v → Value.okWide Tryz.prog W .any base t v)
    (hW : DataW.Whole enc Tryz.prog Tryz.f4.params.toList Rows.movesUndoneSpec.vars false W args.toList ds gs before) (hk : Rows.uptoBulkAll ds ≤ 1048576) (hg : GlobOK W W.heap.size) :
    Calls Tryz.prog 4 args W fun e W' => ∃ v, e = .returned v ∧ Rows.movesUndoneSpec.post enc Tryz.prog Tryz.f4 false true false false W args v W' := by
  have hW' := hW
  obtain ⟨p, q, hA0, hV, rfl, hfz, hnd⟩ := hW
  have hA : DataW.TrodAll enc Tryz.prog W 0 (fun _ => true) true Tryz.f4.params.toList args.toList ds p := hA0
  rw [Tryz.params4] at hA hval
  obtain ⟨v0, vs0, d0, ds0, p0, q0, hargs, rfl, rfl, h0, r0⟩ := trodAll_cons hA
  obtain ⟨v1, vs1, d1, ds1, p1, q1, rfl, rfl, rfl, h1, r1⟩ := trodAll_cons r0
  obtain ⟨v2, vs2, d2, ds2, p2, q2, rfl, rfl, rfl, h2, r2⟩ := trodAll_cons r1
  obtain ⟨rfl, rfl, rfl⟩ := trodAll_nil r2
  obtain rfl : args = #[v0, v1, v2] := by simpa using congrArg List.toArray hargs
  obtain ⟨rfl, rfl⟩ := trodVars_none hV
  have f0 := agg_of Tryz.underlying26 (hval 0 26 v0 (by simp) (by simp))
  have f1 := agg_of Tryz.underlying29 (hval 1 29 v1 (by simp) (by simp))
  have f2 := agg_of Tryz.underlying32 (hval 2 32 v2 (by simp) (by simp))
  obtain ⟨c0, rfl⟩ := f0
  obtain ⟨c1, rfl⟩ := f1
  obtain ⟨c2, rfl⟩ := f2
  obtain ⟨n0, h0⟩ := h0
  obtain ⟨n1, h1⟩ := h1
  obtain ⟨n2, h2⟩ := h2
  obtain ⟨vs0, a0, ok0, _⟩ := trod_av typesS typesOK n0 26 _ _ _ (by decide) h0
  obtain ⟨vs1, a1, ok1, _⟩ := trod_av typesS typesOK n1 29 _ _ _ (by decide) h1
  obtain ⟨vs2, a2, ok2, _⟩ := trod_av typesS typesOK n2 32 _ _ _ (by decide) h2
  simp only [Rows.uptoBulkAll] at hk
  have l0 := av_len n0 26 d0 vs0 a0 1048576 (by omega)
  have l1 := av_len n1 29 d1 vs1 a1 1048576 (by omega)
  have l2 := av_len n2 32 d2 vs2 a2 1048576 (by omega)
  obtain ⟨t, rfl⟩ := i26 n0 d0 vs0 a0
  obtain ⟨tb, rfl⟩ := i29 n1 d1 vs1 a1
  obtain ⟨m, rfl, hk1, hk2⟩ := i32 n2 d2 vs2 a2
  have hN : (1048576 : Nat) ≤ 1073741823 := by decide
  obtain ⟨t1, t2⟩ := ok_table hN l1
  have lm := ok_ints hN l2.2.2.2.2.1
  have hu := undone t (ok_pt hN l0) tb t1 t2 m (by omega) hk1 hk2
  have hrep : RepL (topL W) W [.agg t.p.cs, .agg [tabV tb], .agg m.cs] #[Value.agg c0, .agg c1, .agg c2].toList := by
    simp only [RepL, Rep]
    exact ⟨_, _, rfl, ⟨c0, rfl, ok0.1⟩, _, _, rfl, ⟨c1, rfl, ok1.1⟩, _, _, rfl, ⟨c2, rfl, ok2.1⟩, rfl⟩
  refine Calls.mono (top_bool xOK (by decide) hu hg hrep) ?_
  rintro e W' ⟨rfl, hb⟩
  refine ⟨_, rfl, post_keep (pa := p0 ++ (p1 ++ (p2 ++ []))) (pv := []) hW' (fun _ _ _ => trodAll_cons_mk (shut_bool Tryz.underlying4 _) trodAll_mk0) (fun sp hsp => ?_) (fun _ _ => rfl) rfl ?_ (fun b off hp => ?_) (ok_one (by kernel_rfl) rfl (okWide_bool_mk Tryz.underlying4 _))⟩
  · have s0 : ∀ p ∈ p0, sp p.block = true := fun p hp => hsp p (by simp [hp])
    have s1 : ∀ p ∈ p1, sp p.block = true := fun p hp => hsp p (by simp [hp])
    have s2 : ∀ p ∈ p2, sp p.block = true := fun p hp => hsp p (by simp [hp])
    rw [Tryz.params4]
    exact ⟨p0, p1 ++ (p2 ++ []), ⟨n0, trod_keep typesS typesOK hb n0 26 _ _ _ (by decide) h0 sp s0⟩, ⟨p1, p2 ++ [], ⟨n1, trod_keep typesS typesOK hb n1 29 _ _ _ (by decide) h1 sp s1⟩, ⟨p2, [], ⟨n2, trod_keep typesS typesOK hb n2 32 _ _ _ (by decide) h2 sp s2⟩, rfl, rfl⟩, rfl⟩, rfl⟩
  · refine ⟨hb.os, hb.output, fun i hi => ?_⟩
    rw [hb.block i hi]
    cases W.heap[i]? with
    | none => rfl
    | some o => cases o <;> simp
  · have hlt := hW'.lt _ hp
    have hlt : b < W.heap.size := hlt
    simp [World.frozen?, hb.block b hlt]
end T
end

section
/- The package variable, from the world's shape. -/
open Go Go.Proofs Go.Sym
namespace T
theorem glob_of {W : World} (h : W.ShapedOpen Tryz.prog) : GlobOK W W.heap.size := by
  obtain ⟨m, hm⟩ : ∃ m, W.cell? ⟨1, 0, none⟩ = some (.int .i64 m) := Go.Proofs.cell_of_shapedOpen_int (zero := #[.int .i64 0]) (t := 3) h (of_decide_eq_true (by kernel_rfl)) (by kernel_rfl) rfl (by kernel_rfl) (by kernel_rfl) Tryz.underlying3
  refine ⟨?_, m, hm⟩
  show 1 < W.heap.size
  unfold World.cell? at hm
  cases hh : W.heap[1]? with
  | none => simp [hh] at hm
  | some y => exact (Array.getElem?_eq_some_iff.1 hh).1
end T
end

section
/- The row's step (the witness is open). -/
open Go Go.Proofs Go.Sym Go.RowKit Go.ChangeShapes Go.WideShapes Go.ChangeAt Go.Proofs.YtfephppemgmokaaGreatDoor
namespace T
theorem own : ownKnob Tryz.prog.godebug = none := by kernel_rfl
def cellsD : DataW Unit → Array Value
  | .agg ds => (ds.map fun | .lit (.int k n) => Value.int k n | _ => undef).toArray
  | _ => #[]
def setC (c : Array Value) : Obj → Obj
  | .cells _ t frozen => .cells c t frozen
  | o => o
noncomputable def laidWorld (os : Os) : World :=
  { World.holding Tryz.prog os ⟨#[], #[], []⟩ with heap := (((World.holding Tryz.prog os ⟨#[], #[], []⟩).heap.modify 2 (setC (cellsD Rows.laid_math_bits_deBruijn32tab))).modify 3 (setC (cellsD Rows.laid_math_bits_deBruijn64tab))).modify 0 (setC (cellsD Rows.laid_internal_strconv_uint64pow10)) }
def wit : Array Value := #[.agg #[.slice none 0 0, .slice none 0 0, .slice none 0 0], .agg #[.slice none 0 0], .agg #[.int .i64 0, .int .i64 0, .int .i64 0, .int .i64 0, .slice none 0 0]]
theorem laid_met (os : Os) : laidMet Tryz.prog Rows.movesUndoneUptoRow.laid ((laidWorld os).forCall (fun _ _ => 0) ⟨#[], wit, []⟩).memory :=
  laidMet_of_run' 8 (by kernel_rfl) (by kernel_rfl)
set_option maxRecDepth 100000 in
theorem liftedUpto (os : Os) (started : os.Started) (H : Type) (enc : TypeId × Value → H) (F : Stop.Interp) :
    ReturnsInHanded {} Tryz.checked os 4 .any ((Rows.OpenSpec.upto Rows.movesUndoneSpec).preRow enc Tryz.prog Tryz.f4 Rows.movesUndoneUptoRow.domain false Rows.movesUndoneUptoRow.laid) (((Rows.OpenSpec.upto Rows.movesUndoneSpec).at F).post enc Tryz.prog Tryz.f4 false true false false) := by
  refine returnsInHanded_of_row (C := Tryz.checked) (s := Rows.OpenSpec.upto Rows.movesUndoneSpec) own started (by kernel_rfl) Tryz.func4 (by
      obtain ⟨places, hx⟩ : ∃ places, DataW.whole enc Tryz.prog ((laidWorld os).forCall (fun _ _ => 0) ⟨#[], wit, []⟩).memory Tryz.f4.params.toList Rows.movesUndoneSpec.vars false wit.toList 8 = some ([.agg [.nil, .nil, .nil], .agg [.nil], .agg [.lit (.int .i64 0), .lit (.int .i64 0), .lit (.int .i64 0), .lit (.int .i64 0), .nil]], [], places) := ⟨[], by kernel_rfl⟩
      exact witness_row_at (enc := enc) (C := Tryz.checked) false (laidWorld os) wit rfl (by kernel_rfl) (by kernel_rfl) (by kernel_rfl) (OpenSpec.preRow_of_cond 8 hx (by kernel_rfl) (fun k hk => by cases hk; kernel_rfl) (by kernel_rfl) (laid_met os))) ?_
  intro W base args ds gs before hval hW _ hcond _ hL hsh _
  have hgs : gs = [] := by
    obtain ⟨p, q, _, hV, _⟩ := hW
    exact (trodVars_none hV).1
  have hk : Rows.uptoBulkAll (ds ++ gs) ≤ 1048576 := of_decide_eq_true (hcond _ rfl)
  rw [hgs, List.append_nil] at hk
  exact contract H enc W base args ds gs before hval hW hk (glob_of hsh)
end T
end

section
/- The row, and its card. -/
open Go Go.Proofs Go.Sym Go.RowKit Go.ChangeShapes Go.WideShapes Go.ChangeAt Go.Proofs.YtfephppemgmokaaGreatDoor
namespace Go.Proofs.YtfephppemgmokaaGreatDoor.movesUndone
set_option maxRecDepth 100000
theorem saidUpto : Rows.MovesUndoneUptoSaid :=
  OpenClaim.holds_of_cond 4 Tryz.f4 rfl rfl rfl rfl rfl rfl rfl ⟨rfl, rfl, rfl, rfl, rfl⟩ rfl rfl rfl rfl rfl (by kernel_rfl) Tryz.func4 (by kernel_rfl)
    (of_decide_eq_true (by kernel_rfl)) (by unfold Func.isWrapper; first | (rw [if_pos (by decide +kernel)]; kernel_rfl) | (rw [if_neg (by decide +kernel)]; exact ⟨rfl, rfl⟩))
    (fun os started H enc _ F => by rw [OpenClaim.pre_eq_preRow]; exact T.liftedUpto os started H enc F)
theorem plain (f : FuncId) (fn : Func) (hf : Tryz.pinned.checked.prog.funcNamed "headland/headlandlaw20.MovesUndone" = some f) (hfn : Tryz.pinned.checked.prog.funcs[f]? = some fn) :
    true = Tryz.pinned.checked.prog.looks [] ∧ ∀ (j : Nat) t, fn.params[j]? = some t → Tryz.pinned.checked.prog.wantsStandIn t = false := by
  obtain rfl : f = 4 := Option.some.inj ((show Tryz.prog.funcNamed "headland/headlandlaw20.MovesUndone" = some 4 by kernel_rfl).symm.trans hf) |>.symm
  obtain rfl : fn = Tryz.f4 := (Option.some.inj (Tryz.func4.symm.trans hfn)).symm
  refine ⟨by kernel_rfl, fun j t ht => ?_⟩
  rw [Tryz.params4] at ht
  have h : t = 26 ∨ t = 29 ∨ t = 32 := by simpa using Array.mem_of_getElem? ht
  rcases h with rfl | rfl | rfl
  · exact (show Tryz.prog.wantsStandIn 26 = false by kernel_rfl)
  · exact (show Tryz.prog.wantsStandIn 29 = false by kernel_rfl)
  · exact (show Tryz.prog.wantsStandIn 32 = false by kernel_rfl)
theorem cardUpto : Rows.MovesUndoneUptoCardSaid :=
  Claim7.holds_tied_plain_at .later [] _ _ _ _ saidUpto (fun _ h => by cases h) (by kernel_rfl) (fun _ h => by cases h) movesUndoneUpto_row_tie rfl ⟨rfl, rfl⟩ (by kernel_rfl) rfl plain (by kernel_rfl)
end Go.Proofs.YtfephppemgmokaaGreatDoor.movesUndone
end
