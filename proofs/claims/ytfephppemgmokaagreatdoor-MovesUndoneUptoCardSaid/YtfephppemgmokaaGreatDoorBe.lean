/- The law MovesUndone of headlandlaw20 returns true, at arguments of the row's types whose lengths are at most uptoBulk: a move that Do and Back accept is undone by the move that Back returns. Conditions: those of the given row (Rows.MovesUndoneUptoCardSaid), and no others. Part 5 of the proof: M0 M1 M2 M3 M4 M5 M6 Sh Pr Fa Aw Cx0 Cx Cw Ax Cy Ty Lb F1 F2. -/
import Derived.Test.YtfephppemgmokaaGreatDoorAd
import Derived.Shelf.Spec.SlicesInsertGrow
import Derived.Test.YtfephppemgmokaaGreatDoorProg
import Derived.Deep.RegionLaw
import Derived.Deep.LoopGhost
import Derived.Shelf.Strings.OnBuilder
import Derived.Shelf.Strconv.Itoa3
import Derived.Shelf.Strings.Search3
import Derived.WalkKit
import Derived.BigCall
set_option linter.unusedVariables false
set_option linter.unusedSimpArgs false
set_option linter.unusedSectionVars false
section
/- 'copy' at elements of any size, slices.overlaps at two blocks, in memory. -/
namespace Go.Sym
open Go.RowKit
theorem run_copy_n {P : Program} (w : World) (dT sT ty elem : TypeId) (b o dLen dCap : Nat) (a : Addr) (sLen sCap k m : Nat) (cs : List Value)
    (hu : P.underlying dT = some (.slice elem)) (hs : (P.info? elem).map (·.size) = some k) (hm : Nat.min sLen dLen = m) (hn : cs.length = m * k)
    (hsrc : ∀ j v, cs[j]? = some v → w.cell? (a.add j) = some v) (hc : ∀ j, j < cs.length → (w.cell? ⟨b, o + j, none⟩).isSome = true) (hf : ∀ j, j < cs.length → w.frozen? ⟨b, o + j, none⟩ = false) (h1 : ∀ v ∈ cs, v.oneCell' = true) :
    (Builtin.copy_ #[dT, sT] ty #[.slice (some ⟨b, o, none⟩) dLen dCap, .slice (some a) sLen sCap]).run P w = .ok (goInt m) (w.setCells b o cs) := by
  have hl := run_loadCells_list (P := P) w a cs hsrc
  have hst := run_storeCells_cells (P := P) b o cs 0 w (by simpa using hc) (by simpa using hf) h1
  cases hq : P.info? elem with
  | none => simp [hq] at hs
  | some i =>
    have hi : i.size = k := by simpa [hq] using hs
    simp [Builtin.copy_, run_underlying hu, Builtin.lenOf, Builtin.firstCells, sizeOf, typeInfo, hq, hi, hm, ← hn, hl, hst]
theorem run_overlaps_two {P : Program} (w : World) (tS tR e : TypeId) (ht : P.underlying tS = some (.slice e)) (size : Nat) (hz : ∀ w, (Go.sizeOf e).run P w = .ok size w)
    (a b : Addr) (la ca lb cb : Nat) (hne : a.block ≠ b.block) (tA tB : TypeId) (kA kB : Nat) (hsa : w.shape? a.block = some (tA, kA)) (hsb : w.shape? b.block = some (tB, kB)) (hkA : kA ≠ 0)
    (hfb : w.frozen? b = false) (hfe : w.frozen? { block := b.block, off := kB } = false) :
    (Extern.SlicesOverlaps.overlaps #[tS, tS] #[tR] #[.slice (some a) la ca, .slice (some b) lb cb]).run P w = .ok (.bool false) w := by
  have hnb : (a.block != b.block) = true := by simpa using hne
  have hnb' : (a.block == b.block) = false := by simpa using hne
  change Sem.run P (Bind.bind (underlying tS) _) w = _
  by_cases h0 : la = 0 ∨ lb = 0 ∨ size = 0
  · simp [run_underlying ht, hz, h0]
  · cases kA with
    | zero => exact absurd rfl hkA
    | succ kA =>
      simp [run_underlying ht, hz, h0, hnb, hnb', frozen, noView, viewAt, mayBeOne, stringish, shape, Sem.run, hsa, hsb, hfb, hfe]
end Go.Sym
end

section
/- slices.Insert at rows, in memory: in place. -/
namespace Go.Sym
open Go.RowKit Go.Proofs Go.Lib
theorem hsz54 : (Tryz.prog.info? 54).map (·.size) = some 3 := by kernel_rfl
theorem hinfo54 : (Tryz.prog.info? 54).map (fun i => (i.size, i.bytes)) = some (3, 40) := by kernel_rfl
set_option maxHeartbeats 4000000 in
set_option maxRecDepth 100000 in
/-- There is room, the place is ahead of the end: in place. -/
theorem ins_shift (b off n c i vb voff m vc : Nat) (cs vs : List Value) (w : World) (hi : i < n) (hm : 0 < m) (hroom : n + m ≤ c) (hc63 : c ≤ 9223372036854775807) (hvb : vb ≠ b)
    (hcl : cs.length = n * 3) (hvl : vs.length = m * 3)
    (hcs : ∀ j v, cs[j]? = some v → w.cell? ⟨b, off + j, none⟩ = some v) (hsp : ∀ j, j < (n + m) * 3 → (w.cell? ⟨b, off + j, none⟩).isSome = true) (hfz : ∀ j, w.frozen? ⟨b, j, none⟩ = false)
    (hvs : ∀ j v, vs[j]? = some v → w.cell? ⟨vb, voff + j, none⟩ = some v) (h1c : ∀ v ∈ cs, v.oneCell' = true) (h1v : ∀ v ∈ vs, v.oneCell' = true)
    (tA tB : TypeId) (kA kB : Nat) (hsa : w.shape? vb = some (tA, kA)) (hkA : kA ≠ 0) (hsb : w.shape? b = some (tB, kB)) :
    Calls Tryz.prog 84 #[.slice (some ⟨b, off, none⟩) n c, .int .i64 i, .slice (some ⟨vb, voff, none⟩) m vc] w fun e w' =>
      e = .returned (.slice (some ⟨b, off, none⟩) (n + m) c) ∧ w' = (w.drew.setCells b (off + (i + m) * 3) (cs.drop (i * 3))).setCells b (off + i * 3) vs := by
  have mixed : Tryz.prog.follows .mixedOrders = true := by kernel_rfl
  have hz1 : ¬ ((m : Int) = 0) := by omega
  have hz2 : ¬ ((i : Int) = (n : Int)) := by omega
  have hov : ∀ lb cb, (callFunc 124 #[.slice (some ⟨vb, voff, none⟩) m vc, .slice (some ⟨b, off + (i + m) * 3, none⟩) lb cb]).run Tryz.prog w = .ok (.value (.bool false)) w := fun lb cb => by
    rw [run_callFunc_extern Tryz.func124 (by kernel_rfl) (by kernel_rfl) (by kernel_rfl) (e := Extern.SlicesOverlaps.overlaps #[50, 50] #[4]) (by kernel_rfl),
      run_overlaps_two w 50 4 54 Tryz.underlying50 3 Tryz.sizeOf54 ⟨vb, voff, none⟩ ⟨b, off + (i + m) * 3, none⟩ m vc lb cb hvb tA tB kA kB hsa hsb hkA (hfz _) (hfz _)]
    rfl
  have hdl : (cs.drop (i * 3)).length = (n - i) * 3 := by rw [List.length_drop, hcl]; omega
  have hw1 : IntKind.i64.wrap ((i : Int) + (m : Int)) = (i : Int) + (m : Int) := by rw [IntKind.wrap_i64]; omega
  have hb1 : (0 : Int) ≤ (i : Int) + (m : Int) := by omega
  have hin : i ≤ n := by omega
  have htn : ((i : Int) + (m : Int)).toNat = i + m := by omega
  have hb2 : ¬ (c = i + m) := by omega
  have hb3 : (i : Int) ≤ (n : Int) + (m : Int) := by omega
  have hb4 : ¬ (c = i) := by omega
  have hcp1 : ∀ ty dc sc, (Builtin.copy_ #[50, 50] ty #[.slice (some ⟨b, off + (i + m) * 3, none⟩) (n + m - (i + m)) dc, .slice (some ⟨b, off + i * 3, none⟩) (n + m - i) sc]).run Tryz.prog w.drew = .ok (goInt ((n - i : Nat) : Int)) (w.drew.setCells b (off + (i + m) * 3) (cs.drop (i * 3))) := fun ty dc sc =>
    run_copy_n w.drew _ _ ty 54 b (off + (i + m) * 3) (n + m - (i + m)) dc ⟨b, off + i * 3, none⟩ (n + m - i) sc 3 (n - i) (cs.drop (i * 3)) Tryz.underlying50 hsz54 (by simp only [Nat.min_def]; split <;> omega) hdl
      (fun j v hj => by rw [Addr.add_lit, Nat.add_assoc]; exact hcs (i * 3 + j) v (by rwa [List.getElem?_drop] at hj))
      (fun j hj => by rw [Nat.add_assoc]; exact hsp _ (by omega)) (fun j hj => hfz _) (fun v hv => h1c v (List.mem_of_mem_drop hv))
  obtain ⟨W1, hW1⟩ : ∃ W1, W1 = w.drew.setCells b (off + (i + m) * 3) (cs.drop (i * 3)) := ⟨_, rfl⟩
  have hsp1 : ∀ k, k < (n + m) * 3 → (W1.cell? ⟨b, off + k, none⟩).isSome = true := fun k hk => by
    rw [hW1]
    exact isSome_setCells b _ _ _ (fun j hj => by rw [Nat.add_assoc]; exact hsp _ (by omega)) _ (hsp k hk)
  have hcp2 : ∀ (W : World), (∀ x, W.cell? x = W1.cell? x) → (∀ x, W.frozen? x = W1.frozen? x) → ∀ ty dc, (Builtin.copy_ #[50, 50] ty #[.slice (some ⟨b, off + i * 3, none⟩) (n + m - i) dc, .slice (some ⟨vb, voff, none⟩) m vc]).run Tryz.prog W = .ok (goInt m) (W.setCells b (off + i * 3) vs) := fun W hWc hWf ty dc =>
    run_copy_n W _ _ ty 54 b (off + i * 3) (n + m - i) dc ⟨vb, voff, none⟩ m vc 3 m vs Tryz.underlying50 hsz54 (by simp only [Nat.min_def]; split <;> omega) hvl
      (fun j v hj => by
        rw [Addr.add_lit, hWc, hW1, World.cell?_setCells_out b _ _ _ _ (fun h _ => absurd h hvb)]
        exact hvs j v hj)
      (fun j hj => by rw [hWc, Nat.add_assoc]; exact hsp1 _ (by omega)) (fun j hj => by rw [hWf, hW1, World.frozen?_setCells]; exact hfz _) h1v
  rw [← hW1] at hcp1
  go_enter Tryz.func84, Tryz.ntmps84
  go_wp2_with (simp only [hov])
  go_region_law_o (refine step_copy_runI rfl _ _ 50 50 rfl _ _ (by simp [Act.eval, Act.put]) (by simp [Act.eval, Act.put]) (hcp1 _ _ _) ?_)
  go_wp2_with (at_builtin; refine wpList_copy_runI _ rfl _ _ 50 50 rfl _ _ rfl rfl (hcp2 _ (fun _ => rfl) (fun _ => rfl) _ _) ?_)
  go_ret
  first | exact ⟨rfl, rfl⟩ | exact ⟨rfl, by rw [hW1]⟩
end Go.Sym
end

section
/- slices.Insert at rows, in memory: at the end. -/
namespace Go.Sym
open Go.RowKit Go.Proofs Go.Lib
theorem i54 : ∃ (i : TypeInfo) (z : Value), Tryz.prog.info? 54 = some i ∧ i.zero = some z ∧ i.size = 3 ∧ i.bytes ≤ 64 ∧ z.cells.size = 3 := by
  have h : ((Tryz.prog.info? 54).map fun i => (i.zero.map fun z => z.cells.size, i.size, decide (i.bytes ≤ 64))) = some (some 3, 3, true) := by kernel_rfl
  obtain ⟨i, hi, h⟩ := Option.map_eq_some_iff.1 h
  simp only [Prod.mk.injEq, decide_eq_true_eq] at h
  obtain ⟨z, hz, h1⟩ := Option.map_eq_some_iff.1 h.1
  exact ⟨i, z, hi, hz, h.2.1, h.2.2, h1⟩
set_option maxHeartbeats 4000000 in
set_option maxRecDepth 100000 in
/-- At the end, there is room: the spare cells behind the elements. -/
theorem ins_end_room (b off n c vb voff m vc : Nat) (vs : List Value) (w : World) (hm : 0 < m) (hroom : n + m ≤ c) (hc63 : c ≤ 9223372036854775807)
    (hvl : vs.length = m * 3) (hsp : ∀ j, j < (n + m) * 3 → (w.cell? ⟨b, off + j, none⟩).isSome = true) (hfz : ∀ j, w.frozen? ⟨b, j, none⟩ = false)
    (hvs : ∀ j v, vs[j]? = some v → w.cell? ⟨vb, voff + j, none⟩ = some v) (h1v : ∀ v ∈ vs, v.oneCell' = true) :
    Calls Tryz.prog 84 #[.slice (some ⟨b, off, none⟩) n c, .int .i64 n, .slice (some ⟨vb, voff, none⟩) m vc] w fun e w' =>
      e = .returned (.slice (some ⟨b, off, none⟩) (n + m) c) ∧ w' = w.setCells b (off + n * 3) vs := by
  have mixed : Tryz.prog.follows .mixedOrders = true := by kernel_rfl
  have hz1 : ¬ ((m : Int) = 0) := by omega
  obtain ⟨i, z, hi, hz, hs, hb, _⟩ := i54
  have hsrc : Src Tryz.prog i.size 50 (.slice (some ⟨vb, voff, none⟩) m vc) m vs w := Src.ofSlice w Tryz.underlying50 ⟨vb, voff, none⟩ m vc vs (by rw [hs]; exact hvl) (fun j u hj => by rw [Addr.add_lit]; exact hvs j u hj) h1v
  have hsp' : ∀ j, j < vs.length → (w.cell? ⟨b, off + n * i.size + j, none⟩).isSome = true := fun j hj => by
    rw [hs, Nat.add_assoc]; exact hsp _ (by omega)
  have e3 : off + n * i.size = off + n * 3 := by rw [hs]
  go_enter Tryz.func84, Tryz.ntmps84
  go_wp2_with (at_builtin; refine wpList_append_room_src _ rfl _ _ 50 50 rfl 54 _ Tryz.underlying50 hi b off n c rfl _ rfl m vs hsrc hroom hsp' (fun j _ => hfz _) ?_)
  go_ret
  exact ⟨rfl, rfl⟩
set_option maxHeartbeats 4000000 in
set_option maxRecDepth 100000 in
/-- At the end, there is no room: a new block. -/
theorem ins_end_grow (b off n c vb voff m vc : Nat) (cs vs : List Value) (w : World) (hm : 0 < m) (hnc : n ≤ c) (hroom : c < n + m) (hbig : n + m ≤ 1073741824) (z : Value) (hz : ∃ i, Tryz.prog.info? 54 = some i ∧ i.zero = some z ∧ i.size = 3 ∧ i.bytes ≤ 64)
    (hcl : cs.length = n * 3) (hvl : vs.length = m * 3)
    (hcs : ∀ j v, cs[j]? = some v → w.cell? ⟨b, off + j, none⟩ = some v)
    (hvs : ∀ j v, vs[j]? = some v → w.cell? ⟨vb, voff + j, none⟩ = some v) (h1v : ∀ v ∈ vs, v.oneCell' = true) :
    Calls Tryz.prog 84 #[.slice (some ⟨b, off, none⟩) n c, .int .i64 n, .slice (some ⟨vb, voff, none⟩) m vc] w fun e w' =>
      e = .returned (.slice (some ⟨w.heap.size, 0, none⟩) (n + m) (grownCap w (n + m) c 54)) ∧
      w' = w.drew.alloc (.cells ((cs ++ vs).toArray ++ Builtin.zeroCells z.cells (grownCap w (n + m) c 54 - (n + m))) 54) := by
  have mixed : Tryz.prog.follows .mixedOrders = true := by kernel_rfl
  obtain ⟨i, hi, hz, hs, hb⟩ := hz
  have hz1 : ¬ ((m : Int) = 0) := by omega
  have hsrc : Src Tryz.prog i.size 50 (.slice (some ⟨vb, voff, none⟩) m vc) m vs w := Src.ofSlice w Tryz.underlying50 ⟨vb, voff, none⟩ m vc vs (by rw [hs]; exact hvl) (fun j u hj => by rw [Addr.add_lit]; exact hvs j u hj) h1v
  have hold : (Builtin.firstCells i.size n (.slice (some ⟨b, off, none⟩) n c)).run Tryz.prog w.drew = .ok cs.toArray w.drew := by
    rw [hs]
    exact run_firstCells_some w.drew 3 n ⟨b, off, none⟩ n c cs hcl (fun j v hj => by rw [Addr.add_lit]; exact hcs j v hj)
  have hfit : Builtin.nextslicecap (n + m) c * i.bytes ≤ 281474976710656 := growslice_fits hroom (Nat.le_trans (Nat.mul_le_mul hbig hb) (by decide))
  have hrun : ∀ ty, (Builtin.append_ #[50, 50] ty #[.slice (some ⟨b, off, none⟩) n c, .slice (some ⟨vb, voff, none⟩) m vc]).run Tryz.prog w = _ := fun ty =>
    run_append_grow_src w 50 50 ty 54 i _ Tryz.underlying50 hi hz (some ⟨b, off, none⟩) n c cs hold _ m vs hsrc hroom (by omega) hfit
  go_enter Tryz.func84, Tryz.ntmps84
  go_wp2_with (at_builtin; refine Lib.wpList_append_run _ rfl _ _ _ _ rfl _ _ rfl rfl _ _ (hrun _) ?_)
  all_goals (go_ret; exact ⟨rfl, rfl⟩)
end Go.Sym
end

section
/- slices.Insert at rows, in memory: ahead of the end, no room. -/
namespace Go.Sym
open Go.RowKit Go.Proofs Go.Lib
set_option maxHeartbeats 4000000 in
set_option maxRecDepth 100000 in
theorem ins_grow (b off n c i vb voff m vc : Nat) (cs vs : List Value) (w : World) (hi : i < n) (hm : 0 < m) (hnc : n ≤ c) (hroom : c < n + m) (hbig : n + m ≤ 1073741824) (z : Value) (hz : ∃ i, Tryz.prog.info? 54 = some i ∧ i.zero = some z ∧ i.size = 3 ∧ i.bytes ≤ 64) (hz3 : z.cells.size = 3)
    (hcl : cs.length = n * 3) (hvl : vs.length = m * 3)
    (hcs : ∀ j v, cs[j]? = some v → w.cell? ⟨b, off + j, none⟩ = some v)
    (hvs : ∀ j v, vs[j]? = some v → w.cell? ⟨vb, voff + j, none⟩ = some v) (h1c : ∀ v ∈ cs, v.oneCell' = true) (h1v : ∀ v ∈ vs, v.oneCell' = true) :
    Calls Tryz.prog 84 #[.slice (some ⟨b, off, none⟩) n c, .int .i64 i, .slice (some ⟨vb, voff, none⟩) m vc] w fun e w' =>
      e = .returned (.slice (some ⟨w.heap.size, 0, none⟩) (n + m) (grownCap w (n + m) c 54)) ∧
      w' = (((w.alloc (.cells ((cs.take (i * 3)).toArray ++ Builtin.zeroCells z.cells (n + m - i) ++ Builtin.zeroCells z.cells (grownCap w (n + m) c 54 - (n + m))) 54)).drew.setCells w.heap.size (i * 3) vs).drew).setCells w.heap.size ((i + m) * 3) (cs.drop (i * 3)) := by
  have mixed : Tryz.prog.follows .mixedOrders = true := by kernel_rfl
  obtain ⟨i0, hi0, hz0, hzs, hzb⟩ := hz
  have hz1 : ¬ ((m : Int) = 0) := by omega
  have hz2 : ¬ ((i : Int) = (n : Int)) := by omega
  have hz3' : (c : Int) < (n : Int) + (m : Int) := by omega
  have hbw : b < w.heap.size := block_lt_of_cell (hcs 0 _ (List.getElem?_eq_getElem (by omega)))
  have hvw : vb < w.heap.size := block_lt_of_cell (hvs 0 _ (List.getElem?_eq_getElem (by omega)))
  have hkk : (n : Int) + (m : Int) - (i : Int) = ((n + m - i : Nat) : Int) := by omega
  have hik : i + (n + m - i) = n + m := by omega
  have hold : (Builtin.firstCells i0.size i (.slice (some ⟨b, off, none⟩) i c)).run Tryz.prog w.drew = .ok (cs.take (i * 3)).toArray w.drew := by
    rw [hzs]
    exact run_firstCells_some w.drew 3 i ⟨b, off, none⟩ i c (cs.take (i * 3)) (by rw [List.length_take]; omega) (fun j v hj => by
      rw [Addr.add_lit]
      rw [List.getElem?_take] at hj
      split at hj
      · exact hcs j v hj
      · cases hj)
  have hfit : Builtin.nextslicecap (n + m) c * i0.bytes ≤ 281474976710656 := growslice_fits hroom (Nat.le_trans (Nat.mul_le_mul hbig hzb) (by decide))
  have hk48 : (n + m - i) * i0.bytes ≤ 281474976710656 := Nat.le_trans (Nat.mul_le_mul (show n + m - i ≤ 1073741824 by omega) hzb) (by decide)
  have hrz : ∀ ty, (Builtin.append_ #[50, 3] ty #[.slice (some ⟨b, off, none⟩) i c, .int .i64 ((n : Int) + (m : Int) - (i : Int))]).run Tryz.prog w =
      .ok (.slice (some ⟨w.heap.size, 0, none⟩) (n + m) (grownCap w (n + m) c 54)) (w.drew.alloc (.cells ((cs.take (i * 3)).toArray ++ Builtin.zeroCells z.cells (n + m - i) ++ Builtin.zeroCells z.cells (grownCap w (n + m) c 54 - (n + m))) 54)) := fun ty => by
    have h := Lib.run_append_grow_zeros w 50 3 ty 54 i0 _ .i64 .i64 Tryz.underlying50 Tryz.underlying3 hi0 hz0 (some ⟨b, off, none⟩) i c (cs.take (i * 3)) hold (n + m - i) (by omega) (by omega) (by omega) (by omega) hk48 (by rw [hik]; exact hfit)
    rw [hik] at h
    rw [hkk]
    exact h
  obtain ⟨G, hG⟩ : ∃ G, G = grownCap w (n + m) c 54 := ⟨_, rfl⟩
  obtain ⟨ROW, hROW⟩ : ∃ ROW : Array Value, ROW = (cs.take (i * 3)).toArray ++ Builtin.zeroCells z.cells (n + m - i) ++ Builtin.zeroCells z.cells (G - (n + m)) := ⟨_, rfl⟩
  rw [← hG] at hrz ⊢
  rw [← hROW] at hrz ⊢
  have hRl : (n + m) * 3 ≤ ROW.size := by
    rw [hROW]
    simp only [Array.size_append, List.size_toArray, List.length_take, size_zeroCells, hz3, hcl]
    omega
  obtain ⟨W1, hW1⟩ : ∃ W1, W1 = w.drew.alloc (.cells ROW 54) := ⟨_, rfl⟩
  rw [← hW1] at hrz
  have hN : ∀ j, j < (n + m) * 3 → (W1.cell? ⟨w.heap.size, j, none⟩).isSome = true := fun j hj => by
    rw [hW1, World.cell?_alloc_at (w := w.drew) ROW _ w.heap.size j rfl, Array.getElem?_eq_getElem (by omega)]; rfl
  have hNf : ∀ j, W1.frozen? ⟨w.heap.size, j, none⟩ = false := fun j => by rw [hW1]; exact World.frozen?_alloc_at (w := w.drew) ROW _ w.heap.size j rfl
  have hOb : ∀ j v, w.cell? ⟨b, j, none⟩ = some v → W1.cell? ⟨b, j, none⟩ = some v := fun j v h => by rw [hW1, World.cell?_alloc_past (w := w.drew) _ b j hbw]; exact h
  have hOv : ∀ j v, w.cell? ⟨vb, j, none⟩ = some v → W1.cell? ⟨vb, j, none⟩ = some v := fun j v h => by rw [hW1, World.cell?_alloc_past (w := w.drew) _ vb j hvw]; exact h
  have hcpA : ∀ (W : World), (∀ x, W.cell? x = W1.cell? x) → (∀ x, W.frozen? x = W1.frozen? x) → ∀ ty dc, (Builtin.copy_ #[50, 50] ty #[.slice (some ⟨w.heap.size, i * 3, none⟩) (n + m - i) dc, .slice (some ⟨vb, voff, none⟩) m vc]).run Tryz.prog W = .ok (goInt m) (W.setCells w.heap.size (i * 3) vs) := fun W hWc hWf ty dc =>
    run_copy_n W _ _ ty 54 w.heap.size (i * 3) (n + m - i) dc ⟨vb, voff, none⟩ m vc 3 m vs Tryz.underlying50 hsz54 (by simp only [Nat.min_def]; split <;> omega) hvl
      (fun j v hj => by rw [Addr.add_lit, hWc]; exact hOv _ v (hvs j v hj))
      (fun j hj => by rw [hWc]; exact hN _ (by omega)) (fun j hj => by rw [hWf]; exact hNf _) h1v
  have hGn : n + m ≤ G := by rw [hG]; exact grownCap_ge w _ _ _
  have hG63 : G ≤ 9223372036854775807 := by
    have := grownCap_le_maxLen w (n + m) c 54 (by unfold maxLen; omega)
    rw [← hG] at this
    unfold maxLen at this
    omega
  have hGi : ¬ (G = i) := by omega
  have hGim : ¬ (G = i + m) := by omega
  have hci : ¬ (c = i) := by omega
  have hbN : b ≠ w.heap.size := by omega
  have hdl : (cs.drop (i * 3)).length = (n - i) * 3 := by rw [List.length_drop, hcl]; omega
  have hcpB : ∀ (W : World), (∀ x, W.cell? x = (W1.setCells w.heap.size (i * 3) vs).cell? x) → (∀ x, W.frozen? x = (W1.setCells w.heap.size (i * 3) vs).frozen? x) → ∀ ty dc sc, (Builtin.copy_ #[50, 50] ty #[.slice (some ⟨w.heap.size, (i + m) * 3, none⟩) (n + m - (i + m)) dc, .slice (some ⟨b, off + i * 3, none⟩) (n - i) sc]).run Tryz.prog W = .ok (goInt ((n - i : Nat) : Int)) (W.setCells w.heap.size ((i + m) * 3) (cs.drop (i * 3))) := fun W hWc hWf ty dc sc =>
    run_copy_n W _ _ ty 54 w.heap.size ((i + m) * 3) (n + m - (i + m)) dc ⟨b, off + i * 3, none⟩ (n - i) sc 3 (n - i) (cs.drop (i * 3)) Tryz.underlying50 hsz54 (by simp only [Nat.min_def]; split <;> omega) hdl
      (fun j v hj => by
        rw [Addr.add_lit, hWc, World.cell?_setCells_out _ _ _ _ _ (fun h _ => absurd h hbN), Nat.add_assoc]
        exact hOb _ v (hcs (i * 3 + j) v (by rwa [List.getElem?_drop] at hj)))
      (fun j hj => by rw [hWc]; exact isSome_setCells _ _ _ _ (fun t ht => hN _ (by omega)) _ (hN _ (by omega)))
      (fun j hj => by rw [hWf, World.frozen?_setCells]; exact hNf _) (fun v hv => h1c v (List.mem_of_mem_drop hv))
  subst hW1
  have hE1 : ∀ x, ((w.alloc (.cells ROW 54)).drew).cell? x = (w.drew.alloc (.cells ROW 54)).cell? x := fun x => rfl
  have hE2 : ∀ x, ((w.alloc (.cells ROW 54)).drew).frozen? x = (w.drew.alloc (.cells ROW 54)).frozen? x := fun x => rfl
  have hF1 : ∀ x, (((w.alloc (.cells ROW 54)).drew.setCells w.heap.size (i * 3) vs).drew).cell? x = ((w.drew.alloc (.cells ROW 54)).setCells w.heap.size (i * 3) vs).cell? x := fun x => rfl
  have hF2 : ∀ x, (((w.alloc (.cells ROW 54)).drew.setCells w.heap.size (i * 3) vs).drew).frozen? x = ((w.drew.alloc (.cells ROW 54)).setCells w.heap.size (i * 3) vs).frozen? x := fun x => rfl
  have hw1 : IntKind.i64.wrap ((i : Int) + (m : Int)) = (i : Int) + (m : Int) := by rw [IntKind.wrap_i64]; omega
  have hb1 : (0 : Int) ≤ (i : Int) + (m : Int) := by omega
  have hin : i ≤ n := by omega
  have htn : ((i : Int) + (m : Int)).toNat = i + m := by omega
  have hb3 : (i : Int) ≤ (n : Int) := by omega
  clear hkk hik hold hROW hG hRl hfit hk48
  go_enter Tryz.func84, Tryz.ntmps84
  go_wp2_with (first
    | (at_builtin; refine Lib.wpList_append_run _ rfl _ _ _ _ rfl _ _ rfl rfl _ _ (hrz _) ?_)
    | (at_builtin; refine wpList_copy_runI _ rfl _ _ 50 50 rfl _ _ rfl rfl (hcpA _ hE1 hE2 _ _) ?_)
    | (at_builtin; refine wpList_copy_runI _ rfl _ _ 50 50 rfl _ _ rfl rfl (hcpB _ (fun _ => rfl) (fun _ => rfl) _ _ _) ?_))
  go_region_law_o (refine step_copy_runI rfl _ _ 50 50 rfl (.slice (some ⟨w.heap.size, (i + m) * 3, none⟩) (n + m - (i + m)) (G - (i + m))) (.slice (some ⟨b, off + i * 3, none⟩) (n - i) (c - i)) (by simp [Act.eval, Act.put]) (by simp [Act.eval, Act.put]) (hcpB _ hF1 hF2 3 (G - (i + m)) (c - i)) ?_)
  go_wp2
  go_ret
  exact ⟨rfl, rfl⟩
end Go.Sym
end

section
/- slices.Delete of one row, in memory. -/
namespace Go.Sym
open Go.RowKit Go.Proofs Go.Lib
theorem run_clear_n {P : Program} (w : World) (t e ty : TypeId) (z : Value) (ht : P.underlying t = some (.slice e)) (hv : ∀ w, (zeroValue e).run P w = .ok z w) (h1 : ∀ v ∈ z.cells.toList, v.oneCell' = true) (b o c : Nat)
    (hc : ∀ j, j < z.cells.size → (w.cell? ⟨b, o + j, none⟩).isSome = true) (hf : ∀ j, j < z.cells.size → w.frozen? ⟨b, o + j, none⟩ = false) :
    (Builtin.clear_ #[t] ty #[.slice (some ⟨b, o, none⟩) 1 c]).run P w = .ok (.tuple #[]) (w.setCells b o z.cells.toList) := by
  have hzc : (Builtin.zeroCells z.cells 1).toList = z.cells.toList := by
    apply List.ext_getElem
    · simp [Builtin.zeroCells]
    · intro i h1 h2
      have hi : i < z.cells.size := by simpa using h2
      simp [Builtin.zeroCells, Nat.mod_eq_of_lt hi, hi]
  have hst := run_storeCells_cells (P := P) b o z.cells.toList 0 w (by simpa using hc) (by simpa using hf) h1
  simp only [Nat.add_zero] at hst
  simp [Builtin.clear_, run_underlying ht, hv, hzc, hst]
def zRow : Value := .agg #[.slice none 0 0, .int .i64 0, .int .i64 0]
set_option maxHeartbeats 4000000 in
set_option maxRecDepth 1000000 in
theorem del_one (b off n c i : Nat) (cs : List Value) (w : World) (hi : i < n) (hnc : n ≤ c) (hc63 : c ≤ 9223372036854775807)
    (hcl : cs.length = n * 3) (hcs : ∀ j v, cs[j]? = some v → w.cell? ⟨b, off + j, none⟩ = some v) (hfz : ∀ j, w.frozen? ⟨b, j, none⟩ = false) (h1c : ∀ v ∈ cs, v.oneCell' = true) :
    Calls Tryz.prog 89 #[.slice (some ⟨b, off, none⟩) n c, .int .i64 i, .int .i64 ((i + 1 : Nat) : Int)] w fun e w' =>
      e = .returned (.slice (some ⟨b, off, none⟩) (n - 1) c) ∧ w' = (w.drew.setCells b (off + i * 3) (cs.drop ((i + 1) * 3))).setCells b (off + (n - 1) * 3) zRow.cells.toList := by
  have mixed : Tryz.prog.follows .mixedOrders = true := by kernel_rfl
  obtain ⟨i0, z0, hi0, hz0, hs0, hb0, _⟩ := i54
  have hl : ∀ j, j < n * 3 → (w.cell? ⟨b, off + j, none⟩).isSome = true := fun j hj => by
    rw [hcs j _ (List.getElem?_eq_getElem (by omega))]; rfl
  obtain ⟨news, hnews⟩ : ∃ news, news = cs.drop ((i + 1) * 3) := ⟨_, rfl⟩
  have hlen : news.length = (n - (i + 1)) * 3 := by rw [hnews, List.length_drop, hcl]; omega
  obtain ⟨A, hA, hsrc⟩ : ∃ A : Addr, (if c = i + 1 then some (⟨b, off, none⟩ : Addr) else some ⟨b, off + (i + 1) * 3, none⟩) = some A ∧ Hid (∀ t u, news[t]? = some u → w.drew.cell? (A.add t) = some u) := by
    by_cases h : c = i + 1
    · refine ⟨⟨b, off, none⟩, by simp [h], fun t u hu => ?_⟩
      have h0 : news.length = 0 := by rw [hlen]; omega
      rw [List.length_eq_zero_iff.1 h0] at hu
      simp at hu
    · refine ⟨⟨b, off + (i + 1) * 3, none⟩, by simp [h], fun t u hu => ?_⟩
      rw [Addr.add_lit, Nat.add_assoc]
      rw [hnews, List.getElem?_drop] at hu
      exact hcs _ u hu
  have s1 : Hid (news.length = (n - (i + 1)) * 3) := hlen
  have s2 : Hid (∀ u ∈ news, u.oneCell' = true) := fun u hu => h1c u (List.mem_of_mem_drop (by rw [hnews] at hu; exact hu))
  have s3 : Hid (∀ t, t < news.length → (w.drew.cell? ⟨b, off + i * 3 + t, none⟩).isSome = true ∧ w.drew.frozen? ⟨b, off + i * 3 + t, none⟩ = false) := fun t ht => by
    rw [hlen] at ht
    rw [Nat.add_assoc]
    exact ⟨hl _ (by omega), hfz _⟩
  obtain ⟨W1, hW1⟩ : ∃ W1, W1 = w.drew.setCells b (off + i * 3) news := ⟨_, rfl⟩
  have hl1 : ∀ j, j < n * 3 → (W1.cell? ⟨b, off + j, none⟩).isSome = true := fun j hj => by
    rw [hW1]
    exact isSome_setCells b _ _ _ (fun j hj => by rw [Nat.add_assoc]; exact hl _ (by omega)) _ (hl j hj)
  have hcl : ∀ ty dc, (Builtin.clear_ #[50] ty #[.slice (some ⟨b, off + (i + (n - (i + 1))) * 3, none⟩) (n - (i + (n - (i + 1)))) dc]).run Tryz.prog W1 = .ok (.tuple #[]) (W1.setCells b (off + (n - 1) * 3) zRow.cells.toList) := fun ty dc => by
    rw [show i + (n - (i + 1)) = n - 1 by omega, show n - (n - 1) = 1 by omega]
    exact run_clear_n W1 50 54 ty zRow Tryz.underlying50 Tryz.zeroValue54 (by decide) b (off + (n - 1) * 3) dc (fun j hj => by
      have hj' : j < 3 := hj
      rw [Nat.add_assoc]; exact hl1 _ (by omega)) (fun j _ => by rw [hW1, World.frozen?_setCells]; exact hfz _)
  obtain ⟨Z, hZ⟩ : ∃ Z, Z = zRow.cells.toList := ⟨_, rfl⟩
  rw [← hZ] at hcl ⊢
  have hW : Hid (W1 = w.drew.setCells b (off + i * 3) news) := hW1
  have hic : i ≤ c := by omega
  have hjc : i + 1 ≤ c := by omega
  have hin : i ≤ n := by omega
  have hjn : i + 1 ≤ n := by omega
  have hne : ¬ ((i : Int) = (i : Int) + 1) := by omega
  have hj1 : (i : Int) + 1 ≤ (n : Int) := by omega
  have hj0 : (0 : Int) ≤ (i : Int) + 1 := by omega
  have hw1 : n - 1 = i + (n - (i + 1)) := by omega
  subst hnews
  clear hW1 hlen hl hl1 hZ
  go_enter Tryz.func89, Tryz.ntmps89
  go_wp2_with fail
  go_region_law_o (refine step_append_room rfl (.tmp 22) (.tmp 25) 50 rfl 54 i0 3 Tryz.underlying50 hi0 hs0 b off i c (by simp [Act.eval, Act.put]) A (n - (i + 1)) (c - (i + 1)) (cs.drop ((i + 1) * 3)) (by simp [Act.eval, Act.put]) s1.out hsrc.out s2.out (by omega) s3.out ?_; rw [← hW.out])
  go_wp2
  go_ret
  refine ⟨?_, ?_⟩
  · rw [hw1]; rfl
  · rw [hW.out, hw1]
end Go.Sym
end

section
/- slices.Insert and slices.Delete at rows: what they do to abstract blocks. -/
namespace Go.Sym
open Go.RowKit Go.Proofs Go.Lib
theorem setCells_get (b : Nat) (vs : List Value) (o : Nat) (w : World) (h : ∀ j, j < vs.length → (w.cell? ⟨b, o + j, none⟩).isSome = true) (x : Nat) :
    (w.setCells b o vs).cell? ⟨b, x, none⟩ = if o ≤ x ∧ x < o + vs.length then vs[x - o]? else w.cell? ⟨b, x, none⟩ := by
  split
  · rename_i hx
    have := World.cell?_setCells_in b vs o w h (x - o) (by omega)
    rw [show o + (x - o) = x by omega] at this
    rw [this, List.getElem?_eq_getElem]
  · rename_i hx
    exact World.cell?_setCells_out b vs o w ⟨b, x, none⟩ (fun _ _ => by simp only at *; omega)
/-- What a window of a block is in memory. -/
theorem win_mem {L : Lay} {H : List Blk} {K : List Nat} {w : World} {base : Nat} (hi : Inv L (lH H) (lK K) w base) {b off n : Nat} {cap : Option Nat} {k : Blk} {u : Value} (hk : H[b]? = some k) (hkd : rngB k.kind = false) (hsz : k.sz = 3) (hn : 0 < n)
    (hl : off + n ≤ k.rows.length) (hp : purR ((k.rows.drop off).take n) = true) (h : Rep L w (.win b off n cap) u) :
    ∃ (r cp : Nat) (cs : Array Value) (e : TypeId) (us : List Value), L.hp b = some (r, 3) ∧ u = .slice (some ⟨r, off * 3, none⟩) n cp ∧ n ≤ cp ∧ cp ≤ 9223372036854775807 ∧ w.heap[r]? = some (.cells cs e (0, 0)) ∧ RoomOK w r ((off + cp) * 3) ∧
      RowsV L w 3 (((k.rows.drop off).take n).map normL) us ∧ us.length = n * 3 ∧ (∀ j v, us[j]? = some v → w.cell? ⟨r, off * 3 + j, none⟩ = some v) := by
  obtain ⟨r, sz, a, cp, hr, rfl, h1, h2, _, h3, hro⟩ := by simpa only [Rep] using h
  obtain ⟨k', hk', rfl⟩ := hi.dom' b r sz hr
  have e : k' = k := by
    have : H[b]? = some k' := hk'
    rw [hk] at this
    cases this
    rfl
  subst e
  have hbk := hi.blk b k' r k'.sz hk' hr
  obtain ⟨cs, e, hm, hs, hc⟩ := hbk.mem hkd
  rw [hsz] at hr h3 hro hc
  obtain rfl : a = ⟨r, off * 3, none⟩ := h3.resolve_left (by omega)
  obtain ⟨us, u1, u2, u3⟩ := rowsV_norm (L := L) (w := w) (cs := cs) (sz := 3) (p := off * 3) hp (fun i row hrow => by
    rw [List.getElem?_take] at hrow
    split at hrow
    · rw [List.getElem?_drop] at hrow
      obtain ⟨c1, c2⟩ := hc _ row hrow
      refine ⟨c1, fun o v hv => ?_⟩
      obtain ⟨_, _, u, hu, hx⟩ := c2 o v hv
      exact ⟨u, by rwa [show off * 3 + i * 3 + o = (off + i) * 3 + o by omega], hx⟩
    · cases hrow)
  refine ⟨r, cp, cs, e, us, hr, rfl, h1, h2, hm, hro, u1, by rw [u2]; simp; omega, fun j v hj => ?_⟩
  rw [cell_of_row w r _ cs e (0, 0) hm]
  exact u3 j v hj
theorem frozen_no {w : World} {r : Nat} {cs : Array Value} {e : TypeId} (hm : w.heap[r]? = some (.cells cs e (0, 0))) (j : Nat) : w.frozen? ⟨r, j, none⟩ = false := by
  simp [World.frozen?, hm]
theorem shape_of_cell {w : World} {g p : Nat} {v : Value} (h : w.cell? ⟨g, p, none⟩ = some v) : ∃ e n, w.shape? g = some (e, n) ∧ n ≠ 0 := by
  unfold World.cell? at h
  unfold World.shape?
  cases hm : w.heap[g]? with
  | none => simp [hm] at h
  | some o =>
    rw [hm] at h
    cases o with
    | cells c e f =>
      refine ⟨e, c.size, rfl, fun h0 => ?_⟩
      simp at h
      obtain ⟨hl, _⟩ := Array.getElem?_eq_some_iff.1 h
      omega
    | _ => cases h
/-- A slice of which only the elements are known. -/
def lstN (n : Nat) (rows : List (List AV)) : AV := .lst (szOf n rows) rows .no
def insF : List AV → List Blk → List Nat → Option (Res × List Blk × List Nat)
  | [.win b off n _, .int .i64 i, .lst 3 vs _], H, K => match H[b]? with
    | some k => if rngB k.kind = false ∧ k.sz = 3 ∧ 0 < n ∧ off + n ≤ k.rows.length ∧ purR ((k.rows.drop off).take n) = true ∧ 0 ≤ i ∧ i ≤ n ∧ 0 < vs.length ∧ n + vs.length ≤ 1073741824 then
        some (.ret (lstN 3 ((((k.rows.drop off).take n).map normL).take i.toNat ++ vs ++ (((k.rows.drop off).take n).map normL).drop i.toNat)), H.set b ⟨3, [], .dead⟩, K) else none
    | none => none
  | _, _, _ => none
theorem ins_sound {args : List AV} {H : List Blk} {K : List Nat} {q : Res × List Blk × List Nat} (h : insF args H K = some q) :
    (H.length ≤ q.2.1.length ∧ K.length ≤ q.2.2.length ∧ ∀ n, n ≤ H.length → OldB n (lH H) → OldB n (lH q.2.1)) ∧
    ∀ L w base (us : Array Value), Inv L (lH H) (lK K) w base → RepL L w args us.toList → Calls Tryz.prog 84 us w (Ends base L w q) := by
  unfold insF at h
  split at h
  · rename_i b off n cap i vs c
    split at h
    · rename_i k hk
      split at h
      · rename_i hcond
        obtain ⟨hkd, hsz, hn, hl, hp, hi0, hin, hv0, hbig⟩ := hcond
        cases h
        have hbl : b < H.length := (List.getElem?_eq_some_iff.1 hk).1
        refine ⟨⟨by simp, Nat.le_refl _, fun n _ ho => oldB_dead hbl ho⟩, fun L w base us hi hr => ?_⟩
        obtain ⟨u0, q0, e0, r0, hr⟩ := by simpa only [RepL] using hr
        obtain ⟨u1, q1, e1, r1, hr⟩ := by simpa only [RepL] using hr
        obtain ⟨u2, q2, e2, r2, hr⟩ := by simpa only [RepL] using hr
        obtain rfl : q2 = [] := by simpa only [RepL] using hr
        subst e2 e1
        obtain rfl : us = #[u0, u1, u2] := by
          have := congrArg List.toArray e0
          simpa using this
        obtain ⟨r, cp, cs, e, cv, hrb, rfl, hncp, hcp63, hm, hro, hrow, hcl, hcs⟩ := win_mem hi hk hkd hsz hn hl hp r0
        obtain rfl : u1 = .int .i64 i := by simpa only [Rep] using r1
        obtain ⟨i, rfl⟩ : ∃ j : Nat, i = j := ⟨i.toNat, by omega⟩
        simp only [Int.toNat_natCast]
        obtain ⟨ad, m, vc, rfl, hvm, hmv, hvc63, hvr, _⟩ := by simpa only [Rep] using r2
        obtain ⟨g, p, rfl, hvr'⟩ := hvr.resolve_left (fun e => by rw [e] at hv0; simp at hv0)
        obtain ⟨vv, hvrow, hvcell⟩ := rowsV_mem hvr'
        have hvl : vv.length = m * 3 := by rw [hvrow.length, hvm]
        have hm0 : 0 < m := by omega
        have hrb' : L.hp b = some (r, k.sz) := by rw [hsz]; exact hrb
        have hdd : deadB k.kind = false := live_of hkd
        obtain ⟨hS, hB⟩ := hi.apart b k r k.sz hk hdd hrb'
        have hgr : g ≠ r := by
          intro e
          subst e
          cases vs with
          | nil => simp at hv0
          | cons row rest =>
            obtain ⟨hrl, hrc, _⟩ := by simpa only [RepR] using hvr'
            cases row with
            | nil => simp at hrl
            | cons x y =>
              obtain ⟨hq, _⟩ := by simpa only [RepC] using hrc
              rcases hq with hq | ⟨_, hq⟩
              · exact hS _ hq
              · exact hB hq
        have hfz := frozen_no (w := w) hm
        have hone := hrow.one
        have honev := hvrow.one
        have hb0 : base ≤ r := (hi.blk b k r k.sz hk hrb').base
        have hlr : r < w.heap.size := (Array.getElem?_eq_some_iff.1 hm).1
        obtain ⟨z, hz⟩ : ∃ z, (∃ i, Tryz.prog.info? 54 = some i ∧ i.zero = some z ∧ i.size = 3 ∧ i.bytes ≤ 64) ∧ z.cells.size = 3 := by
          obtain ⟨i, z, h1, h2, h3, h4, h5⟩ := i54
          exact ⟨z, ⟨i, h1, h2, h3, h4⟩, h5⟩
        have hrows : RowsV L w 3 ((((k.rows.drop off).take n).map normL).take i ++ vs ++ (((k.rows.drop off).take n).map normL).drop i) (cv.take (i * 3) ++ vv ++ cv.drop (i * 3)) := ((hrow.take i).append hvrow).append (hrow.drop i)
        have hlen : ((((k.rows.drop off).take n).map normL).take i ++ vs ++ (((k.rows.drop off).take n).map normL).drop i).length = n + m := by simp; omega
        have hvlen : (cv.take (i * 3) ++ vv ++ cv.drop (i * 3)).length = (n + m) * 3 := by rw [hrows.length, hlen]
        generalize (((k.rows.drop off).take n).map normL).take i ++ vs ++ (((k.rows.drop off).take n).map normL).drop i = rows' at *
        have hget : ∀ j v, (cv.take (i * 3) ++ vv ++ cv.drop (i * 3))[j]? = some v → (j < i * 3 ∧ cv[j]? = some v) ∨ (i * 3 ≤ j ∧ j < (i + m) * 3 ∧ vv[j - i * 3]? = some v) ∨ ((i + m) * 3 ≤ j ∧ j < (n + m) * 3 ∧ (cv.drop (i * 3))[j - (i + m) * 3]? = some v) := fun j v hj => by
          have hjl : j < (n + m) * 3 := by rw [← hvlen]; exact (List.getElem?_eq_some_iff.1 hj).1
          have htl : (cv.take (i * 3)).length = i * 3 := by rw [List.length_take]; omega
          by_cases h1 : j < i * 3
          · rw [List.append_assoc, List.getElem?_append_left (by omega), List.getElem?_take, if_pos h1] at hj
            exact .inl ⟨h1, hj⟩
          · rw [List.append_assoc, List.getElem?_append_right (by omega), htl] at hj
            by_cases h2 : j < (i + m) * 3
            · rw [List.getElem?_append_left (by omega)] at hj
              exact .inr (.inl ⟨by omega, h2, hj⟩)
            · rw [List.getElem?_append_right (by omega), hvl] at hj
              exact .inr (.inr ⟨by omega, hjl, by rwa [show j - i * 3 - m * 3 = j - (i + m) * 3 by omega] at hj⟩)
        have fin : ∀ (gg p0 N cc : Nat) (w' : World), (gg = r ∨ w.heap.size ≤ gg) → gg < w'.heap.size → Below base w w' → (∀ x, x < w.heap.size → x ≠ r → w'.heap[x]? = w.heap[x]?) → (∀ o : Nat, (w.cell? ⟨r, o, none⟩).isSome = true → (w'.cell? ⟨r, o, none⟩).isSome = true) →
            p0 + (n + m) * 3 ≤ N → n + m ≤ cc → cc ≤ 9223372036854775807 → (∀ j v, (cv.take (i * 3) ++ vv ++ cv.drop (i * 3))[j]? = some v → w'.cell? ⟨gg, p0 + j, none⟩ = some v) →
            Ends base L w (.ret (lstN 3 rows'), H.set b ⟨3, [], .dead⟩, K) (.returned (.slice (some ⟨gg, p0, none⟩) (n + m) cc)) w' := fun gg p0 N cc w' h1 h2 h3 h4 h5 h6 h7 h8 h9 => by
          obtain ⟨hx, hi'⟩ := take_dead (N := N) hi hk hdd hrb' h1 h2 h3 h4 h5 ⟨cs, e, hm⟩
          rw [hsz] at hi'
          refine ⟨_, hx, hi', Rep.szOf ?_⟩
          simp only [Rep]
          refine ⟨some ⟨gg, p0, none⟩, n + m, cc, rfl, hlen, h7, h8, .inr ⟨gg, p0, rfl, ?_⟩, trivial⟩
          exact repR_of' (hrows.ext hx) (fun j hj => .inr ⟨rfl, by rw [hvlen] at hj; omega⟩) h9
        by_cases hroom : n + m ≤ cp
        · have hsp : ∀ j, j < (n + m) * 3 → (w.cell? ⟨r, off * 3 + j, none⟩).isSome = true := fun j hj => hro _ (by rw [Nat.add_mul]; omega)
          by_cases hlt : i < n
          · obtain ⟨eA, kA, hsA, hkA⟩ := shape_of_cell (hvcell 0 _ (List.getElem?_eq_getElem (by omega)))
            refine Calls.mono (ins_shift r (off * 3) n cp i g p m vc cv vv w hlt hm0 hroom hcp63 hgr hcl hvl hcs hsp hfz hvcell hone honev eA e kA cs.size hsA hkA (by simp [World.shape?, hm])) ?_
            rintro ee w' ⟨rfl, rfl⟩
            refine fin r (off * 3) ((off + (n + m)) * 3) cp _ (.inl rfl) ?_ ?_ ?_ ?_ (by omega) hroom hcp63 ?_
            · have := (below_setCells (B := 0) r (Nat.zero_le _) vv (off * 3 + i * 3) (below_setCells (B := 0) r (Nat.zero_le _) (cv.drop (i * 3)) (off * 3 + (i + m) * 3) ((Below.refl 0 w).drew))).size
              omega
            · exact below_setCells r hb0 _ _ (below_setCells r hb0 _ _ ((Below.refl base w).drew))
            · intro x _ hx
              rw [setCells_heap _ _ _ _ _ hx, setCells_heap _ _ _ _ _ hx]
              rfl
            · intro o ho
              exact setCells_some _ _ _ _ _ (setCells_some _ _ _ _ _ ho)
            · intro j v hj
              have hd1 : (cv.drop (i * 3)).length = (n - i) * 3 := by rw [List.length_drop, hcl]; omega
              rw [setCells_get _ _ _ _ (fun t ht => setCells_some _ _ _ _ _ (by show (w.cell? _).isSome = true; rw [Nat.add_assoc]; exact hsp _ (by omega))),
                setCells_get _ _ _ _ (fun t ht => by show (w.cell? _).isSome = true; rw [Nat.add_assoc]; exact hsp _ (by omega))]
              rcases hget j v hj with ⟨a1, a2⟩ | ⟨a1, a2, a3⟩ | ⟨a1, a2, a3⟩
              · rw [if_neg (by omega), if_neg (by omega)]
                exact hcs j v a2
              · rw [if_pos (by omega), show off * 3 + j - (off * 3 + i * 3) = j - i * 3 by omega]
                exact a3
              · rw [if_neg (by omega), if_pos (by omega), show off * 3 + j - (off * 3 + (i + m) * 3) = j - (i + m) * 3 by omega]
                exact a3
          · obtain rfl : i = n := by omega
            refine Calls.mono (ins_end_room r (off * 3) i cp g p m vc vv w hm0 hroom hcp63 hvl hsp hfz hvcell honev) ?_
            rintro ee w' ⟨rfl, rfl⟩
            refine fin r (off * 3) ((off + (i + m)) * 3) cp _ (.inl rfl) ?_ ?_ ?_ ?_ (by omega) hroom hcp63 ?_
            · have := (below_setCells (B := 0) r (Nat.zero_le _) vv (off * 3 + i * 3) (Below.refl 0 w)).size
              omega
            · exact below_setCells r hb0 _ _ (Below.refl base w)
            · intro x _ hx
              rw [setCells_heap _ _ _ _ _ hx]
            · intro o ho
              exact setCells_some _ _ _ _ _ ho
            · intro j v hj
              rw [setCells_get _ _ _ _ (fun t ht => by rw [Nat.add_assoc]; exact hsp _ (by omega))]
              rcases hget j v hj with ⟨a1, a2⟩ | ⟨a1, a2, a3⟩ | ⟨a1, a2, a3⟩
              · rw [if_neg (by omega)]
                exact hcs j v a2
              · rw [if_pos (by omega), show off * 3 + j - (off * 3 + i * 3) = j - i * 3 by omega]
                exact a3
              · omega
        · have hgc : n + m ≤ grownCap w (n + m) cp 54 ∧ grownCap w (n + m) cp 54 ≤ 9223372036854775807 := by
            refine ⟨grownCap_ge w _ _ _, ?_⟩
            have := grownCap_le_maxLen w (n + m) cp 54 (by unfold maxLen; omega)
            unfold maxLen at this
            omega
          obtain ⟨hG1, hG2⟩ := hgc
          by_cases hlt : i < n
          · refine Calls.mono (ins_grow r (off * 3) n cp i g p m vc cv vv w hlt hm0 hncp (by omega) (by omega) z hz.1 hz.2 hcl hvl hcs hvcell hone honev) ?_
            rintro ee w' ⟨rfl, rfl⟩
            generalize hG : grownCap w (n + m) cp 54 = G at *
            generalize hR : (cv.take (i * 3)).toArray ++ Builtin.zeroCells z.cells (n + m - i) ++ Builtin.zeroCells z.cells (G - (n + m)) = ROW
            have hRl : (n + m) * 3 ≤ ROW.size := by
              rw [← hR]
              simp only [Array.size_append, List.size_toArray, List.length_take, size_zeroCells, hz.2, hcl]
              omega
            have hRg : ∀ j v, j < i * 3 → cv[j]? = some v → ROW[j]? = some v := fun j v hj hv => by
              have htl : (cv.take (i * 3)).length = i * 3 := by rw [List.length_take]; omega
              rw [← hR, Array.append_assoc, Array.getElem?_append_left (by simpa [htl] using hj)]
              simpa [List.getElem?_take, hj] using hv
            have hbw : Below w.heap.size w (((w.alloc (.cells ROW 54)).drew.setCells w.heap.size (i * 3) vv).drew.setCells w.heap.size ((i + m) * 3) (cv.drop (i * 3))) :=
              below_setCells _ (Nat.le_refl _) _ _ (below_setCells _ (Nat.le_refl _) _ _ ((Below.refl _ w).alloc (Nat.le_refl _) _).drew).drew
            have hd1 : (cv.drop (i * 3)).length = (n - i) * 3 := by rw [List.length_drop, hcl]; omega
            have hN : ∀ j, j < (n + m) * 3 → ((w.alloc (.cells ROW 54)).drew.cell? ⟨w.heap.size, j, none⟩).isSome = true := fun j hj => by
              show ((w.alloc (.cells ROW 54)).cell? ⟨w.heap.size, j, none⟩).isSome = true
              rw [cell_of_row _ _ _ ROW 54 (0, 0) (heap_alloc_new w _), Array.getElem?_eq_getElem (by omega)]; rfl
            refine fin w.heap.size 0 ((n + m) * 3) G _ (.inr (Nat.le_refl _)) ?_ (hbw.mono hi.top) (fun x hx _ => hbw.block x hx) (fun o ho => ?_) (by omega) hG1 hG2 ?_
            · have : w.heap.size < (w.alloc (.cells ROW 54)).heap.size := by simp
              refine Nat.lt_of_lt_of_le this ?_
              exact ((below_setCells (B := 0) w.heap.size (Nat.zero_le _) (cv.drop (i * 3)) ((i + m) * 3) (below_setCells (B := 0) w.heap.size (Nat.zero_le _) vv (i * 3) (Below.refl 0 (w.alloc (.cells ROW 54))).drew).drew)).size
            · rw [cell_of_heap (hbw.block r hlr)]; exact ho
            · intro j v hj
              rw [Nat.zero_add, setCells_get w.heap.size (cv.drop (i * 3)) ((i + m) * 3) (((w.alloc (.cells ROW 54)).drew.setCells w.heap.size (i * 3) vv).drew) (fun t ht => by
                show ((((w.alloc (.cells ROW 54)).drew).setCells w.heap.size (i * 3) vv).cell? _).isSome = true
                exact setCells_some _ _ _ _ _ (hN _ (by omega)))]
              rcases hget j v hj with ⟨a1, a2⟩ | ⟨a1, a2, a3⟩ | ⟨a1, a2, a3⟩
              · rw [if_neg (by omega)]
                show (((w.alloc (.cells ROW 54)).drew).setCells w.heap.size (i * 3) vv).cell? ⟨w.heap.size, j, none⟩ = _
                rw [setCells_get _ _ _ _ (fun t ht => hN _ (by omega)), if_neg (by omega)]
                show (w.alloc (.cells ROW 54)).cell? ⟨w.heap.size, j, none⟩ = _
                rw [cell_of_row _ _ _ ROW 54 (0, 0) (heap_alloc_new w _)]
                exact hRg j v a1 a2
              · rw [if_neg (by omega)]
                show (((w.alloc (.cells ROW 54)).drew).setCells w.heap.size (i * 3) vv).cell? ⟨w.heap.size, j, none⟩ = _
                rw [setCells_get _ _ _ _ (fun t ht => hN _ (by omega)), if_pos (by omega)]
                exact a3
              · rw [if_pos (by omega)]
                exact a3
          · obtain rfl : i = n := by omega
            refine Calls.mono (ins_end_grow r (off * 3) i cp g p m vc cv vv w hm0 hncp (by omega) (by omega) z hz.1 hcl hvl hcs hvcell honev) ?_
            rintro ee w' ⟨rfl, rfl⟩
            generalize hG : grownCap w (i + m) cp 54 = G at *
            have hbw : Below w.heap.size w (w.drew.alloc (.cells ((cv ++ vv).toArray ++ Builtin.zeroCells z.cells (G - (i + m))) 54)) := ((Below.refl _ w).drew).alloc (Nat.le_refl _) _
            refine fin w.heap.size 0 ((i + m) * 3) G _ (.inr (Nat.le_refl _)) ?_ (hbw.mono hi.top) (fun x hx _ => hbw.block x hx) (fun o ho => ?_) (by omega) hG1 hG2 ?_
            · simp
            · rw [cell_of_heap (hbw.block r hlr)]; exact ho
            · intro j v hj
              have hjl : j < (i + m) * 3 := by rw [← hvlen]; exact (List.getElem?_eq_some_iff.1 hj).1
              rw [Nat.zero_add, cell_of_row _ w.heap.size _ _ 54 (0, 0) (heap_alloc_new w.drew _), Array.getElem?_append_left (by simp [hcl, hvl]; omega)]
              have e1 : cv.take (i * 3) = cv := List.take_of_length_le (by omega)
              have e2 : cv.drop (i * 3) = [] := List.drop_of_length_le (by omega)
              rw [e1, e2, List.append_nil] at hj
              simpa using hj
      · cases h
    · cases h
  · cases h
end Go.Sym
end

section
/- slices.Delete at rows: what it does to abstract blocks; the two as calls known otherwise. -/
namespace Go.Sym
open Go.RowKit Go.Proofs Go.Lib
def delF : List AV → List Blk → List Nat → Option (Res × List Blk × List Nat)
  | [.win b off n _, .int .i64 i, .int .i64 j], H, K => match H[b]? with
    | some k => if rngB k.kind = false ∧ k.sz = 3 ∧ 0 < n ∧ off + n ≤ k.rows.length ∧ purR ((k.rows.drop off).take n) = true ∧ 0 ≤ i ∧ i < n ∧ j = i + 1 then
        some (.ret (lstN 3 ((((k.rows.drop off).take n).map normL).take i.toNat ++ (((k.rows.drop off).take n).map normL).drop (i.toNat + 1))), H.set b ⟨3, [], .dead⟩, K) else none
    | none => none
  | _, _, _ => none
theorem del_sound {args : List AV} {H : List Blk} {K : List Nat} {q : Res × List Blk × List Nat} (h : delF args H K = some q) :
    (H.length ≤ q.2.1.length ∧ K.length ≤ q.2.2.length ∧ ∀ n, n ≤ H.length → OldB n (lH H) → OldB n (lH q.2.1)) ∧
    ∀ L w base (us : Array Value), Inv L (lH H) (lK K) w base → RepL L w args us.toList → Calls Tryz.prog 89 us w (Ends base L w q) := by
  unfold delF at h
  split at h
  · rename_i b off n cap i j
    split at h
    · rename_i k hk
      split at h
      · rename_i hcond
        obtain ⟨hkd, hsz, hn, hl, hp, hi0, hin, rfl⟩ := hcond
        cases h
        have hbl : b < H.length := (List.getElem?_eq_some_iff.1 hk).1
        refine ⟨⟨by simp, Nat.le_refl _, fun n _ ho => oldB_dead hbl ho⟩, fun L w base us hi hr => ?_⟩
        obtain ⟨u0, q0, e0, r0, hr⟩ := by simpa only [RepL] using hr
        obtain ⟨u1, q1, e1, r1, hr⟩ := by simpa only [RepL] using hr
        obtain ⟨u2, q2, e2, r2, hr⟩ := by simpa only [RepL] using hr
        obtain rfl : q2 = [] := by simpa only [RepL] using hr
        subst e2 e1
        obtain rfl : us = #[u0, u1, u2] := by
          have := congrArg List.toArray e0
          simpa using this
        obtain ⟨r, cp, cs, e, cv, hrb, rfl, hncp, hcp63, hm, hro, hrow, hcl, hcs⟩ := win_mem hi hk hkd hsz hn hl hp r0
        obtain rfl : u1 = .int .i64 i := by simpa only [Rep] using r1
        obtain rfl : u2 = .int .i64 (i + 1) := by simpa only [Rep] using r2
        obtain ⟨i, rfl⟩ : ∃ j : Nat, i = j := ⟨i.toNat, by omega⟩
        simp only [Int.toNat_natCast]
        have hrb' : L.hp b = some (r, k.sz) := by rw [hsz]; exact hrb
        have hdd : deadB k.kind = false := live_of hkd
        have hfz := frozen_no (w := w) hm
        have hone := hrow.one
        have hb0 : base ≤ r := (hi.blk b k r k.sz hk hrb').base
        have hlr : r < w.heap.size := (Array.getElem?_eq_some_iff.1 hm).1
        have hrows : RowsV L w 3 ((((k.rows.drop off).take n).map normL).take i ++ (((k.rows.drop off).take n).map normL).drop (i + 1)) (cv.take (i * 3) ++ cv.drop ((i + 1) * 3)) := (hrow.take i).append (hrow.drop (i + 1))
        have hlen : ((((k.rows.drop off).take n).map normL).take i ++ (((k.rows.drop off).take n).map normL).drop (i + 1)).length = n - 1 := by simp; omega
        have hvlen : (cv.take (i * 3) ++ cv.drop ((i + 1) * 3)).length = (n - 1) * 3 := by rw [hrows.length, hlen]
        generalize (((k.rows.drop off).take n).map normL).take i ++ (((k.rows.drop off).take n).map normL).drop (i + 1) = rows' at *
        have hsp : ∀ j, j < n * 3 → (w.cell? ⟨r, off * 3 + j, none⟩).isSome = true := fun j hj => by rw [hcs j _ (List.getElem?_eq_getElem (by omega))]; rfl
        refine Calls.mono (del_one r (off * 3) n cp i cv w (by omega) hncp hcp63 hcl hcs hfz hone) ?_
        rintro ee w' ⟨rfl, rfl⟩
        have hd1 : (cv.drop ((i + 1) * 3)).length = (n - (i + 1)) * 3 := by rw [List.length_drop, hcl]; omega
        have hz3 : zRow.cells.toList.length = 3 := rfl
        obtain ⟨hx, hi'⟩ := take_dead (g := r) (N := (off + n) * 3) (w' := (w.drew.setCells r (off * 3 + i * 3) (cv.drop ((i + 1) * 3))).setCells r (off * 3 + (n - 1) * 3) zRow.cells.toList) hi hk hdd hrb' (.inl rfl) (by
            have := (below_setCells (B := 0) r (Nat.zero_le _) zRow.cells.toList (off * 3 + (n - 1) * 3) (below_setCells (B := 0) r (Nat.zero_le _) (cv.drop ((i + 1) * 3)) (off * 3 + i * 3) ((Below.refl 0 w).drew))).size
            omega) (below_setCells r hb0 _ _ (below_setCells r hb0 _ _ ((Below.refl base w).drew))) (fun x _ hx => by
            rw [setCells_heap _ _ _ _ _ hx, setCells_heap _ _ _ _ _ hx]
            rfl) (fun o ho => setCells_some _ _ _ _ _ (setCells_some _ _ _ _ _ ho)) ⟨cs, e, hm⟩
        rw [hsz] at hi'
        refine ⟨_, hx, hi', Rep.szOf ?_⟩
        simp only [Rep]
        refine ⟨some ⟨r, off * 3, none⟩, n - 1, cp, rfl, hlen, by omega, hcp63, .inr ⟨r, off * 3, rfl, ?_⟩, trivial⟩
        refine repR_of' (hrows.ext hx) (fun j hj => .inr ⟨rfl, by rw [hvlen] at hj; omega⟩) fun j v hj => ?_
        have hjl : j < (n - 1) * 3 := by rw [← hvlen]; exact (List.getElem?_eq_some_iff.1 hj).1
        have htl : (cv.take (i * 3)).length = i * 3 := by rw [List.length_take]; omega
        rw [setCells_get _ _ _ _ (fun t ht => setCells_some _ _ _ _ _ (by rw [hz3] at ht; show (w.cell? _).isSome = true; rw [Nat.add_assoc]; exact hsp _ (by omega))),
          setCells_get _ _ _ _ (fun t ht => by show (w.cell? _).isSome = true; rw [Nat.add_assoc]; exact hsp _ (by omega)), if_neg (by omega)]
        by_cases h1 : j < i * 3
        · rw [List.getElem?_append_left (by omega), List.getElem?_take, if_pos h1] at hj
          rw [if_neg (by omega)]
          exact hcs j v hj
        · rw [List.getElem?_append_right (by omega), htl] at hj
          rw [if_pos (by omega), show off * 3 + j - (off * 3 + i * 3) = j - i * 3 by omega]
          exact hj
      · cases h
    · cases h
  · cases h
end Go.Sym
end

section
/- Contracts of Go's library at this seat's translation, laid by the kit's own command. -/
namespace Go.Proofs
open Go.Shelf
def Tryz.lays156_ren : Go.Shelf.Ren := ⟨fun | 156 => 74 | 165 => 119 | 166 => 34 | 169 => 38 | 240 => 72 | 241 => 143 | 276 => 117 | 277 => 157 | n => n, fun | 31 => 22 | 9 => 9 | 3 => 3 | 4 => 4 | 0 => 0 | 20 => 20 | 72 => 103 | 76 => 106 | 70 => 100 | 37 => 101 | 75 => 105 | 127 => 147 | 164 => 185 | 5 => 5 | 80 => 111 | n => n, fun | n => n⟩
theorem Tryz.lays156 : Go.Proofs.Lays.n156 Tryz.prog Tryz.lays156_ren := {
  mixed := by kernel_rfl
  f156 := Tryz.func74.trans (congrArg some (by kernel_rfl))
  f165 := Tryz.func119.trans (congrArg some (by kernel_rfl))
  f166 := Tryz.func34.trans (congrArg some (by kernel_rfl))
  f169 := Tryz.func38.trans (congrArg some (by kernel_rfl))
  f240 := Tryz.func72.trans (congrArg some (by kernel_rfl))
  f241 := Tryz.func143.trans (congrArg some (by kernel_rfl))
  f276 := Tryz.func117.trans (congrArg some (by kernel_rfl))
  f277 := Tryz.func157.trans (congrArg some (by kernel_rfl))
  t0 := Tryz.underlying0
  a0 := Tryz.isAgg0
  z0 := Tryz.sizeOf0
  v0 := Tryz.zeroValue0
  t3 := Tryz.underlying3
  a3 := Tryz.isAgg3
  z3 := Tryz.sizeOf3
  v3 := Tryz.zeroValue3
  t4 := Tryz.underlying4
  a4 := Tryz.isAgg4
  z4 := Tryz.sizeOf4
  v4 := Tryz.zeroValue4
  t9 := Tryz.underlying9
  a9 := Tryz.isAgg9
  z9 := Tryz.sizeOf9
  v9 := Tryz.zeroValue9
  t20 := Tryz.underlying20
  a20 := Tryz.isAgg20
  z20 := Tryz.sizeOf20
  v20 := Tryz.zeroValue20
  t31 := Tryz.underlying22
  a31 := Tryz.isAgg22
  z31 := Tryz.sizeOf22
  v31 := Tryz.zeroValue22
  t37 := Tryz.underlying101
  a37 := Tryz.isAgg101
  z37 := Tryz.sizeOf101
  v37 := Tryz.zeroValue101
  t70 := Tryz.underlying100
  a70 := Tryz.isAgg100
  z70 := Tryz.sizeOf100
  v70 := Tryz.zeroValue100
  t72 := Tryz.underlying103
  a72 := Tryz.isAgg103
  z72 := Tryz.sizeOf103
  v72 := Tryz.zeroValue103
  t75 := Tryz.underlying105
  a75 := Tryz.isAgg105
  z75 := Tryz.sizeOf105
  v75 := Tryz.zeroValue105
  t76 := Tryz.underlying106
  a76 := Tryz.isAgg106
  z76 := Tryz.sizeOf106
  v76 := Tryz.zeroValue106
  t127 := Tryz.underlying147
  a127 := Tryz.isAgg147
  z127 := Tryz.sizeOf147
  v127 := Tryz.zeroValue147
  t164 := Tryz.underlying185
  a164 := Tryz.isAgg185
  z164 := Tryz.sizeOf185
  v164 := Tryz.zeroValue185 }
theorem Tryz.Builder_Extra_156 : Builder.Extra Tryz.prog Tryz.lays156_ren := {
  sizeBuilder := by kernel_rfl
  liesBuilder := by kernel_rfl
  t5 := Tryz.underlying5
  a5 := Tryz.isAgg5
  z5 := Tryz.sizeOf5
  v5 := Tryz.zeroValue5
  infoByte := by kernel_rfl
  cellsByte := by kernel_rfl
  sizeByte := by kernel_rfl
  neB5 := by decide }
open Go.RowKit in
/-- strings.Join, laid at this program. -/
theorem Tryz.strings_Join (bk o c : Nat) (xs : List ByteArray) (sep : ByteArray) (w : World) (hcells : ∀ (j : Nat) x, xs[j]? = some x → w.cell? ⟨bk, o + j, none⟩ = some (.string x)) (hbk : bk < w.heap.size) (hN : xs.length ≤ 140737488355328) (hcap : xs.length ≤ c) (hlen : (Lib.join (xs.map (·.data.toList)) sep.data.toList).length ≤ 140737488355328) :
    Calls Tryz.prog 74 #[.slice (some ⟨bk, o, none⟩) xs.length c, .string sep] w fun e w' => e = .returned (.string ⟨(Lib.join (xs.map (·.data.toList)) sep.data.toList).toArray⟩) ∧ Below w.heap.size w w' := Any.strings_Join Tryz.lays156 Tryz.Builder_Extra_156 bk o c xs sep w hcells hbk hN hcap hlen
def Tryz.lays171_ren : Go.Shelf.Ren := ⟨fun | 171 => 35 | 243 => 73 | 246 => 118 | 283 => 139 | 284 => 140 | 285 => 141 | 286 => 142 | 129 => 153 | 317 => 152 | 318 => 154 | 319 => 155 | 320 => 156 | 337 => 170 | 338 => 171 | n => n, fun | 3 => 3 | 9 => 9 | 2 => 2 | 4 => 4 | 171 => 211 | 0 => 0 | 53 => 212 | 37 => 101 | 5 => 5 | 173 => 215 | 212 => 227 | 51 => 228 | 20 => 20 | 213 => 229 | 46 => 230 | 232 => 246 | 233 => 247 | n => n, fun | 17 => 0 | 18 => 2 | 19 => 3 | n => n⟩
theorem Tryz.lays171 : Go.Proofs.Lays.n171 Tryz.prog Tryz.lays171_ren := {
  mixed := by kernel_rfl
  f129 := Tryz.func153.trans (congrArg some (by kernel_rfl))
  f171 := Tryz.func35.trans (congrArg some (by kernel_rfl))
  f243 := Tryz.func73.trans (congrArg some (by kernel_rfl))
  f246 := Tryz.func118.trans (congrArg some (by kernel_rfl))
  f283 := Tryz.func139.trans (congrArg some (by kernel_rfl))
  f284 := Tryz.func140.trans (congrArg some (by kernel_rfl))
  f285 := Tryz.func141.trans (congrArg some (by kernel_rfl))
  f286 := Tryz.func142.trans (congrArg some (by kernel_rfl))
  f317 := Tryz.func152.trans (congrArg some (by kernel_rfl))
  f318 := Tryz.func154.trans (congrArg some (by kernel_rfl))
  f319 := Tryz.func155.trans (congrArg some (by kernel_rfl))
  f320 := Tryz.func156.trans (congrArg some (by kernel_rfl))
  f337 := Tryz.func170.trans (congrArg some (by kernel_rfl))
  f338 := Tryz.func171.trans (congrArg some (by kernel_rfl))
  t0 := Tryz.underlying0
  a0 := Tryz.isAgg0
  z0 := Tryz.sizeOf0
  v0 := Tryz.zeroValue0
  t2 := Tryz.underlying2
  a2 := Tryz.isAgg2
  z2 := Tryz.sizeOf2
  v2 := Tryz.zeroValue2
  t3 := Tryz.underlying3
  a3 := Tryz.isAgg3
  z3 := Tryz.sizeOf3
  v3 := Tryz.zeroValue3
  t4 := Tryz.underlying4
  a4 := Tryz.isAgg4
  z4 := Tryz.sizeOf4
  v4 := Tryz.zeroValue4
  t5 := Tryz.underlying5
  a5 := Tryz.isAgg5
  z5 := Tryz.sizeOf5
  v5 := Tryz.zeroValue5
  t9 := Tryz.underlying9
  a9 := Tryz.isAgg9
  z9 := Tryz.sizeOf9
  v9 := Tryz.zeroValue9
  t20 := Tryz.underlying20
  a20 := Tryz.isAgg20
  z20 := Tryz.sizeOf20
  v20 := Tryz.zeroValue20
  t37 := Tryz.underlying101
  a37 := Tryz.isAgg101
  z37 := Tryz.sizeOf101
  v37 := Tryz.zeroValue101
  t46 := Tryz.underlying230
  a46 := Tryz.isAgg230
  z46 := Tryz.sizeOf230
  v46 := Tryz.zeroValue230
  t51 := Tryz.underlying228
  a51 := Tryz.isAgg228
  z51 := Tryz.sizeOf228
  v51 := Tryz.zeroValue228
  t53 := Tryz.underlying212
  a53 := Tryz.isAgg212
  z53 := Tryz.sizeOf212
  v53 := Tryz.zeroValue212
  t171 := Tryz.underlying211
  a171 := Tryz.isAgg211
  z171 := Tryz.sizeOf211
  v171 := Tryz.zeroValue211
  t173 := Tryz.underlying215
  a173 := Tryz.isAgg215
  z173 := Tryz.sizeOf215
  v173 := Tryz.zeroValue215
  t212 := Tryz.underlying227
  a212 := Tryz.isAgg227
  z212 := Tryz.sizeOf227
  v212 := Tryz.zeroValue227
  t213 := Tryz.underlying229
  a213 := Tryz.isAgg229
  z213 := Tryz.sizeOf229
  t232 := Tryz.underlying246
  a232 := Tryz.isAgg246
  z232 := Tryz.sizeOf246
  v232 := Tryz.zeroValue246
  t233 := Tryz.underlying247
  a233 := Tryz.isAgg247
  z233 := Tryz.sizeOf247
  v233 := Tryz.zeroValue247
  g17 := by kernel_rfl
  g18 := by kernel_rfl
  g19 := by kernel_rfl }
open Go.RowKit Go.Sort Go.Lib in
/-- strconv.Itoa below 100, laid at this program. -/
theorem Tryz.strconv_Itoa_small (i : Nat) (hi : i < 100) (w : World) :
    Calls Tryz.prog 35 #[.int .i64 i] w fun e w' => e = .returned (.string ⟨(Lib.decDigits i).toArray⟩) ∧ w' = w := Any.strconv_Itoa_small Tryz.lays171 i hi w
def Tryz.lays144_ren : Go.Shelf.Ren := ⟨fun | 144 => 168 | 143 => 174 | 219 => 175 | 217 => 176 | 225 => 177 | 224 => 178 | 267 => 179 | 266 => 180 | 314 => 181 | n => n, fun | 9 => 9 | 4 => 4 | 3 => 3 | 5 => 5 | 46 => 230 | 146 => 249 | 51 => 228 | n => n, fun | 1 => 1 | n => n⟩
theorem Tryz.lays144 : Go.Proofs.Lays.n144 Tryz.prog Tryz.lays144_ren := {
  mixed := by kernel_rfl
  f143 := Tryz.func174.trans (congrArg some (by kernel_rfl))
  f144 := Tryz.func168.trans (congrArg some (by kernel_rfl))
  f217 := Tryz.func176.trans (congrArg some (by kernel_rfl))
  f219 := Tryz.func175.trans (congrArg some (by kernel_rfl))
  f224 := Tryz.func178.trans (congrArg some (by kernel_rfl))
  f225 := Tryz.func177.trans (congrArg some (by kernel_rfl))
  f266 := Tryz.func180.trans (congrArg some (by kernel_rfl))
  f267 := Tryz.func179.trans (congrArg some (by kernel_rfl))
  f314 := Tryz.func181.trans (congrArg some (by kernel_rfl))
  t3 := Tryz.underlying3
  a3 := Tryz.isAgg3
  z3 := Tryz.sizeOf3
  v3 := Tryz.zeroValue3
  t4 := Tryz.underlying4
  a4 := Tryz.isAgg4
  z4 := Tryz.sizeOf4
  v4 := Tryz.zeroValue4
  t5 := Tryz.underlying5
  a5 := Tryz.isAgg5
  z5 := Tryz.sizeOf5
  v5 := Tryz.zeroValue5
  t9 := Tryz.underlying9
  a9 := Tryz.isAgg9
  z9 := Tryz.sizeOf9
  v9 := Tryz.zeroValue9
  t46 := Tryz.underlying230
  a46 := Tryz.isAgg230
  z46 := Tryz.sizeOf230
  v46 := Tryz.zeroValue230
  t51 := Tryz.underlying228
  a51 := Tryz.isAgg228
  z51 := Tryz.sizeOf228
  v51 := Tryz.zeroValue228
  t146 := Tryz.underlying249
  a146 := Tryz.isAgg249
  z146 := Tryz.sizeOf249
  v146 := Tryz.zeroValue249
  g1 := by kernel_rfl }
open Go.RowKit Go.Lib in
/-- strings.Contains, laid at this program. -/
theorem Tryz.strings_Contains (s sub : ByteArray) (m : Int) (w : World) (hs : s.size < 4294967281) (hm : w.cell? ⟨1, 0, none⟩ = some (.int .i64 m)) :
    Calls Tryz.prog 168 #[.string s, .string sub] w fun e w' => e = .returned (.bool (Lib.contains s.data.toList sub.data.toList)) ∧ w' = w := Any.strings_Contains Tryz.lays144 s sub m w hs hm
end Go.Proofs
end

section
/- Calls of Go's library that are known from the kit's contracts. -/
open Go Go.Proofs Go.Sym Go.RowKit
namespace T
theorem ends_below {L : Lay} {w w' : World} (hi : Inv L (lH []) (lK []) w w.heap.size) (hb : Below w.heap.size w w') {v : AV} {u : Value} (hr : ∀ L w, Rep L w v u) : Ends w.heap.size L w (.ret v, [], []) (.returned u) w' :=
  ⟨L, Ext.grow hi hb, hi.grow hb, hr _ _⟩
/-- strings.Contains -/
def containsF : List AV → Option IRes
  | [.str s, .str q] => if s.size < 4294967281 then some (.ret (.bool (Lib.contains s.data.toList q.data.toList))) else none
  | _ => none
theorem p168 (args : List AV) (r : IRes) (h : containsF args = some r) (hbody : Body Tryz.prog 168) : Body Tryz.prog 168 ∧ ∃ (own : Bool) (q : Res × List Blk × List Nat),
      (match q.1 with | .ret v => iret own q.2.2 v | .panic v => if pureB v = true then some (.panic v) else none) = some r ∧
      ∀ L w (us : Array Value), Inv L (lH []) (lK []) w w.heap.size → RepL L w args us.toList → Calls Tryz.prog 168 us w (Ends w.heap.size L w q) := by
  unfold containsF at h
  split at h
  · rename_i s q
    split at h
    · rename_i hs
      cases h
      refine ⟨hbody, false, (.ret (.bool (Lib.contains s.data.toList q.data.toList)), [], []), rfl, fun L w us hi hr => ?_⟩
      obtain ⟨u0, q0, e0, r0, hr⟩ := by simpa only [RepL] using hr
      obtain ⟨u1, q1, e1, r1, hr⟩ := by simpa only [RepL] using hr
      obtain rfl : q1 = [] := by simpa only [RepL] using hr
      subst e1
      obtain rfl : us = #[u0, u1] := by simpa using congrArg List.toArray e0
      obtain rfl : u0 = .string s := by simpa only [Rep] using r0
      obtain rfl : u1 = .string q := by simpa only [Rep] using r1
      obtain ⟨_, m, hm⟩ := hi.glob
      refine Calls.mono (Tryz.strings_Contains s q m w hs hm) ?_
      rintro e w' ⟨rfl, rfl⟩
      exact ends_below hi (Below.refl _ _) fun _ _ => rfl
    · cases h
  · cases h
/-- strconv.Itoa of a small number -/
def itoaF : List AV → Option IRes
  | [.int .i64 i] => if 0 ≤ i ∧ i < 100 then some (.ret (.str ⟨(Lib.decDigits i.toNat).toArray⟩)) else none
  | _ => none
theorem p35 (args : List AV) (r : IRes) (h : itoaF args = some r) (hbody : Body Tryz.prog 35) : Body Tryz.prog 35 ∧ ∃ (own : Bool) (q : Res × List Blk × List Nat),
      (match q.1 with | .ret v => iret own q.2.2 v | .panic v => if pureB v = true then some (.panic v) else none) = some r ∧
      ∀ L w (us : Array Value), Inv L (lH []) (lK []) w w.heap.size → RepL L w args us.toList → Calls Tryz.prog 35 us w (Ends w.heap.size L w q) := by
  unfold itoaF at h
  split at h
  · rename_i i
    split at h
    · rename_i hs
      cases h
      refine ⟨hbody, false, (.ret (.str ⟨(Lib.decDigits i.toNat).toArray⟩), [], []), rfl, fun L w us hi hr => ?_⟩
      obtain ⟨u0, q0, e0, r0, hr⟩ := by simpa only [RepL] using hr
      obtain rfl : q0 = [] := by simpa only [RepL] using hr
      obtain rfl : us = #[u0] := by simpa using congrArg List.toArray e0
      obtain rfl : u0 = .int .i64 i := by simpa only [Rep] using r0
      obtain ⟨n, rfl⟩ : ∃ n : Nat, i = n := ⟨i.toNat, by omega⟩
      refine Calls.mono (Tryz.strconv_Itoa_small n (by omega) w) ?_
      rintro e w' ⟨rfl, rfl⟩
      exact ends_below hi (Below.refl _ _) fun _ _ => rfl
    · cases h
  · cases h
/-- strings.Join -/
def strsOf : List (List AV) → Option (List ByteArray)
  | [] => some []
  | [.str s] :: r => ob (strsOf r) fun l => some (s :: l)
  | _ => none
def joinF : List AV → Option IRes
  | [.lst 1 rows .no, .str sep] => ob (strsOf rows) fun xs => if 0 < xs.length ∧ xs.length ≤ 1073741824 ∧ (Lib.join (xs.map (·.data.toList)) sep.data.toList).length ≤ 1073741824 then some (.ret (.str ⟨(Lib.join (xs.map (·.data.toList)) sep.data.toList).toArray⟩)) else none
  | _ => none
theorem strsOf_len : ∀ {rows : List (List AV)} {xs : List ByteArray}, strsOf rows = some xs → xs.length = rows.length
  | [], xs, h => by simp [strsOf] at h; simp [← h]
  | row :: r, xs, h => by
    unfold strsOf at h
    split at h
    · rename_i e; cases e
    · rename_i s r' e
      cases e
      obtain ⟨l, hl, h⟩ := ob_eq h
      cases h
      simp [strsOf_len hl]
    · cases h
theorem strsOf_get : ∀ {rows : List (List AV)} {xs : List ByteArray}, strsOf rows = some xs → ∀ (j : Nat) x, xs[j]? = some x → rows[j]? = some [.str x]
  | [], xs, h, j, x, hx => by simp [strsOf] at h; subst h; simp at hx
  | row :: r, xs, h, j, x, hx => by
    unfold strsOf at h
    split at h
    · rename_i e; cases e
    · rename_i s r' e
      cases e
      obtain ⟨l, hl, h⟩ := ob_eq h
      cases h
      cases j with
      | zero => cases hx; rfl
      | succ j => simpa using strsOf_get hl j x (by simpa using hx)
    · cases h
theorem p74 (args : List AV) (r : IRes) (h : joinF args = some r) (hbody : Body Tryz.prog 74) : Body Tryz.prog 74 ∧ ∃ (own : Bool) (q : Res × List Blk × List Nat),
      (match q.1 with | .ret v => iret own q.2.2 v | .panic v => if pureB v = true then some (.panic v) else none) = some r ∧
      ∀ L w (us : Array Value), Inv L (lH []) (lK []) w w.heap.size → RepL L w args us.toList → Calls Tryz.prog 74 us w (Ends w.heap.size L w q) := by
  unfold joinF at h
  split at h
  · rename_i rows sep
    obtain ⟨xs, hxs, h⟩ := ob_eq h
    split at h
    · rename_i hs
      cases h
      refine ⟨hbody, false, (.ret (.str ⟨(Lib.join (xs.map (·.data.toList)) sep.data.toList).toArray⟩), [], []), rfl, fun L w us hi hr => ?_⟩
      obtain ⟨u0, q0, e0, r0, hr⟩ := by simpa only [RepL] using hr
      obtain ⟨u1, q1, e1, r1, hr⟩ := by simpa only [RepL] using hr
      obtain rfl : q1 = [] := by simpa only [RepL] using hr
      subst e1
      obtain rfl : us = #[u0, u1] := by simpa using congrArg List.toArray e0
      obtain rfl : u1 = .string sep := by simpa only [Rep] using r1
      obtain ⟨ad, n, cap, rfl, hn, hcap, hmax, hrows, _⟩ := by simpa only [Rep] using r0
      have hl := strsOf_len hxs
      obtain ⟨g, p, rfl, hrow⟩ := hrows.resolve_left (fun e => by rw [e] at hl; simp at hl; simp [hl] at hs)
      have hcells : ∀ (j : Nat) x, xs[j]? = some x → w.cell? ⟨g, p + j, none⟩ = some (.string x) := fun j x hx => by
        obtain ⟨_, hc⟩ := hrow.get (strsOf_get hxs j x hx)
        rw [Nat.mul_one] at hc
        obtain ⟨_, _, _, ⟨u, hu, hv⟩, _⟩ := by simpa only [RepC] using hc
        rw [hu]
        have : u = .string x := by simpa only [Rep] using hv
        rw [this]
      have hg : g < w.heap.size := by
        have h0 := hcells 0 _ (List.getElem?_eq_getElem hs.1)
        unfold World.cell? at h0
        cases hh2 : w.heap[g]? with
        | none => simp [hh2] at h0
        | some y => exact (Array.getElem?_eq_some_iff.1 hh2).1
      obtain rfl : n = xs.length := by omega
      refine Calls.mono (Tryz.strings_Join g p cap xs sep w hcells hg (by omega) hcap (by omega)) ?_
      rintro e w' ⟨rfl, hb⟩
      exact ends_below hi hb fun _ _ => rfl
    · cases h
  · cases h
end T
end

section
/- What the program's types say. Printed by a program from the values that Lean computes; each is checked by the kernel. -/
open Go Go.Proofs Go.Sym
namespace T
theorem q_apT_22_22 : apT Tryz.prog 22 22 = some 1 := by kernel_rfl
theorem q_apT_24_24 : apT Tryz.prog 24 24 = some 19 := by kernel_rfl
theorem q_apT_27_27 : apT Tryz.prog 27 27 = some 1 := by kernel_rfl
theorem q_apT_30_30 : apT Tryz.prog 30 30 = some 1 := by kernel_rfl
theorem q_apT_50_50 : apT Tryz.prog 50 50 = some 3 := by kernel_rfl
theorem q_apT_60_60 : apT Tryz.prog 60 60 = some 22 := by kernel_rfl
theorem q_apT_73_73 : apT Tryz.prog 73 73 = some 2 := by kernel_rfl
theorem q_apT_80_80 : apT Tryz.prog 80 80 = some 7 := by kernel_rfl
theorem q_apT_86_86 : apT Tryz.prog 86 86 = some 1 := by kernel_rfl
theorem q_apT_96_96 : apT Tryz.prog 96 96 = some 2 := by kernel_rfl
theorem q_apT_101_101 : apT Tryz.prog 101 101 = some 1 := by kernel_rfl
theorem q_apT_118_118 : apT Tryz.prog 118 118 = some 23 := by kernel_rfl
theorem q_apT_122_122 : apT Tryz.prog 122 122 = some 1 := by kernel_rfl
theorem q_apT_156_156 : apT Tryz.prog 156 156 = some 22 := by kernel_rfl
theorem q_arrAt_211 : arrAt Tryz.prog 211 = some (24, 1) := by kernel_rfl
theorem q_arrAt_227 : arrAt Tryz.prog 227 = some (20, 1) := by kernel_rfl
theorem q_arrAt_229 : arrAt Tryz.prog 229 = some (65, 1) := by kernel_rfl
theorem q_arrAt_246 : arrAt Tryz.prog 246 = some (32, 1) := by kernel_rfl
theorem q_arrAt_247 : arrAt Tryz.prog 247 = some (64, 1) := by kernel_rfl
theorem q_convT_2_212 : convT Tryz.prog 2 212 = some IntKind.u64 := by kernel_rfl
theorem q_convT_3_212 : convT Tryz.prog 3 212 = some IntKind.u64 := by kernel_rfl
theorem q_convT_3_230 : convT Tryz.prog 3 230 = some IntKind.u64 := by kernel_rfl
theorem q_convT_5_3 : convT Tryz.prog 5 3 = some IntKind.i64 := by kernel_rfl
theorem q_convT_5_228 : convT Tryz.prog 5 228 = some IntKind.u32 := by kernel_rfl
theorem q_convT_212_5 : convT Tryz.prog 212 5 = some IntKind.u8 := by kernel_rfl
theorem q_convT_212_228 : convT Tryz.prog 212 228 = some IntKind.u32 := by kernel_rfl
theorem q_convT_228_5 : convT Tryz.prog 228 5 = some IntKind.u8 := by kernel_rfl
theorem q_convT_230_228 : convT Tryz.prog 230 228 = some IntKind.u32 := by kernel_rfl
theorem q_elemSz_22 : elemSz Tryz.prog 22 = some (1, 16) := by kernel_rfl
theorem q_elemSz_23 : elemSz Tryz.prog 23 = some (2, 40) := by kernel_rfl
theorem q_elemSz_24 : elemSz Tryz.prog 24 = some (19, 304) := by kernel_rfl
theorem q_elemSz_27 : elemSz Tryz.prog 27 = some (1, 24) := by kernel_rfl
theorem q_elemSz_30 : elemSz Tryz.prog 30 = some (1, 8) := by kernel_rfl
theorem q_elemSz_49 : elemSz Tryz.prog 49 = some (1, 24) := by kernel_rfl
theorem q_elemSz_50 : elemSz Tryz.prog 50 = some (3, 40) := by kernel_rfl
theorem q_elemSz_60 : elemSz Tryz.prog 60 = some (22, 376) := by kernel_rfl
theorem q_elemSz_73 : elemSz Tryz.prog 73 = some (2, 32) := by kernel_rfl
theorem q_elemSz_80 : elemSz Tryz.prog 80 = some (7, 104) := by kernel_rfl
theorem q_elemSz_86 : elemSz Tryz.prog 86 = some (1, 24) := by kernel_rfl
theorem q_elemSz_96 : elemSz Tryz.prog 96 = some (2, 32) := by kernel_rfl
theorem q_elemSz_101 : elemSz Tryz.prog 101 = some (1, 1) := by kernel_rfl
theorem q_elemSz_118 : elemSz Tryz.prog 118 = some (23, 400) := by kernel_rfl
theorem q_elemSz_122 : elemSz Tryz.prog 122 = some (1, 24) := by kernel_rfl
theorem q_elemSz_131 : elemSz Tryz.prog 131 = some (1, 24) := by kernel_rfl
theorem q_elemSz_132 : elemSz Tryz.prog 132 = some (4, 48) := by kernel_rfl
theorem q_elemSz_156 : elemSz Tryz.prog 156 = some (22, 376) := by kernel_rfl
theorem q_fieldAt_26_0 : fieldAt Tryz.prog 26 0 = some (0, 1) := by kernel_rfl
theorem q_fieldAt_26_1 : fieldAt Tryz.prog 26 1 = some (1, 1) := by kernel_rfl
theorem q_fieldAt_26_2 : fieldAt Tryz.prog 26 2 = some (2, 1) := by kernel_rfl
theorem q_fieldAt_29_0 : fieldAt Tryz.prog 29 0 = some (0, 1) := by kernel_rfl
theorem q_fieldAt_32_0 : fieldAt Tryz.prog 32 0 = some (0, 1) := by kernel_rfl
theorem q_fieldAt_32_1 : fieldAt Tryz.prog 32 1 = some (1, 1) := by kernel_rfl
theorem q_fieldAt_32_2 : fieldAt Tryz.prog 32 2 = some (2, 1) := by kernel_rfl
theorem q_fieldAt_32_3 : fieldAt Tryz.prog 32 3 = some (3, 1) := by kernel_rfl
theorem q_fieldAt_32_4 : fieldAt Tryz.prog 32 4 = some (4, 1) := by kernel_rfl
theorem q_fieldAt_38_0 : fieldAt Tryz.prog 38 0 = some (0, 1) := by kernel_rfl
theorem q_fieldAt_38_1 : fieldAt Tryz.prog 38 1 = some (1, 1) := by kernel_rfl
theorem q_fieldAt_38_2 : fieldAt Tryz.prog 38 2 = some (2, 1) := by kernel_rfl
theorem q_fieldAt_38_3 : fieldAt Tryz.prog 38 3 = some (3, 1) := by kernel_rfl
theorem q_fieldAt_38_4 : fieldAt Tryz.prog 38 4 = some (4, 1) := by kernel_rfl
theorem q_fieldAt_52_0 : fieldAt Tryz.prog 52 0 = some (0, 1) := by kernel_rfl
theorem q_fieldAt_52_1 : fieldAt Tryz.prog 52 1 = some (1, 1) := by kernel_rfl
theorem q_fieldAt_54_0 : fieldAt Tryz.prog 54 0 = some (0, 2) := by kernel_rfl
theorem q_fieldAt_54_1 : fieldAt Tryz.prog 54 1 = some (2, 1) := by kernel_rfl
theorem q_fieldAt_62_0 : fieldAt Tryz.prog 62 0 = some (0, 1) := by kernel_rfl
theorem q_fieldAt_62_1 : fieldAt Tryz.prog 62 1 = some (1, 1) := by kernel_rfl
theorem q_fieldAt_62_2 : fieldAt Tryz.prog 62 2 = some (2, 1) := by kernel_rfl
theorem q_fieldAt_75_0 : fieldAt Tryz.prog 75 0 = some (0, 1) := by kernel_rfl
theorem q_fieldAt_75_1 : fieldAt Tryz.prog 75 1 = some (1, 1) := by kernel_rfl
theorem q_fieldAt_79_0 : fieldAt Tryz.prog 79 0 = some (0, 1) := by kernel_rfl
theorem q_fieldAt_79_1 : fieldAt Tryz.prog 79 1 = some (1, 1) := by kernel_rfl
theorem q_fieldAt_82_0 : fieldAt Tryz.prog 82 0 = some (0, 1) := by kernel_rfl
theorem q_fieldAt_82_1 : fieldAt Tryz.prog 82 1 = some (1, 1) := by kernel_rfl
theorem q_fieldAt_82_2 : fieldAt Tryz.prog 82 2 = some (2, 2) := by kernel_rfl
theorem q_fieldAt_82_3 : fieldAt Tryz.prog 82 3 = some (4, 2) := by kernel_rfl
theorem q_fieldAt_82_4 : fieldAt Tryz.prog 82 4 = some (6, 1) := by kernel_rfl
theorem q_fieldAt_84_0 : fieldAt Tryz.prog 84 0 = some (0, 1) := by kernel_rfl
theorem q_fieldAt_88_0 : fieldAt Tryz.prog 88 0 = some (0, 1) := by kernel_rfl
theorem q_fieldAt_88_1 : fieldAt Tryz.prog 88 1 = some (1, 1) := by kernel_rfl
theorem q_fieldAt_90_0 : fieldAt Tryz.prog 90 0 = some (0, 1) := by kernel_rfl
theorem q_fieldAt_90_1 : fieldAt Tryz.prog 90 1 = some (1, 1) := by kernel_rfl
theorem q_fieldAt_90_2 : fieldAt Tryz.prog 90 2 = some (2, 1) := by kernel_rfl
theorem q_fieldAt_90_3 : fieldAt Tryz.prog 90 3 = some (3, 1) := by kernel_rfl
theorem q_fieldAt_90_4 : fieldAt Tryz.prog 90 4 = some (4, 1) := by kernel_rfl
theorem q_fieldAt_90_5 : fieldAt Tryz.prog 90 5 = some (5, 1) := by kernel_rfl
theorem q_fieldAt_90_6 : fieldAt Tryz.prog 90 6 = some (6, 2) := by kernel_rfl
theorem q_fieldAt_90_7 : fieldAt Tryz.prog 90 7 = some (8, 2) := by kernel_rfl
theorem q_fieldAt_90_8 : fieldAt Tryz.prog 90 8 = some (10, 7) := by kernel_rfl
theorem q_fieldAt_90_9 : fieldAt Tryz.prog 90 9 = some (17, 1) := by kernel_rfl
theorem q_fieldAt_90_10 : fieldAt Tryz.prog 90 10 = some (18, 1) := by kernel_rfl
theorem q_fieldAt_98_0 : fieldAt Tryz.prog 98 0 = some (0, 1) := by kernel_rfl
theorem q_fieldAt_98_1 : fieldAt Tryz.prog 98 1 = some (1, 1) := by kernel_rfl
theorem q_fieldAt_103_0 : fieldAt Tryz.prog 103 0 = some (0, 1) := by kernel_rfl
theorem q_fieldAt_103_1 : fieldAt Tryz.prog 103 1 = some (1, 1) := by kernel_rfl
theorem q_fieldAt_121_0 : fieldAt Tryz.prog 121 0 = some (0, 1) := by kernel_rfl
theorem q_fieldAt_121_1 : fieldAt Tryz.prog 121 1 = some (1, 1) := by kernel_rfl
theorem q_fieldAt_124_0 : fieldAt Tryz.prog 124 0 = some (0, 22) := by kernel_rfl
theorem q_fieldAt_124_1 : fieldAt Tryz.prog 124 1 = some (22, 1) := by kernel_rfl
theorem q_fieldAt_137_0 : fieldAt Tryz.prog 137 0 = some (0, 1) := by kernel_rfl
theorem q_fieldAt_137_1 : fieldAt Tryz.prog 137 1 = some (1, 1) := by kernel_rfl
theorem q_fieldAt_137_2 : fieldAt Tryz.prog 137 2 = some (2, 19) := by kernel_rfl
theorem q_fieldAt_165_0 : fieldAt Tryz.prog 165 0 = some (0, 3) := by kernel_rfl
theorem q_fieldAt_165_1 : fieldAt Tryz.prog 165 1 = some (3, 1) := by kernel_rfl
theorem q_fieldAt_198_0 : fieldAt Tryz.prog 198 0 = some (0, 3) := by kernel_rfl
theorem q_fieldAt_198_1 : fieldAt Tryz.prog 198 1 = some (3, 1) := by kernel_rfl
theorem q_fieldAt_209_0 : fieldAt Tryz.prog 209 0 = some (0, 1) := by kernel_rfl
theorem q_fieldAt_209_1 : fieldAt Tryz.prog 209 1 = some (1, 1) := by kernel_rfl
theorem q_fieldAt_209_2 : fieldAt Tryz.prog 209 2 = some (2, 2) := by kernel_rfl
theorem q_fieldAt_222_0 : fieldAt Tryz.prog 222 0 = some (0, 19) := by kernel_rfl
theorem q_fieldAt_223_0 : fieldAt Tryz.prog 223 0 = some (0, 19) := by kernel_rfl
theorem q_fieldAt_224_0 : fieldAt Tryz.prog 224 0 = some (0, 19) := by kernel_rfl
theorem q_ifaceT_20 : ifaceT Tryz.prog 20 = true := by kernel_rfl
theorem q_ixT_67 : ixT Tryz.prog 67 = some (false, 1, 1, 8) := by kernel_rfl
theorem q_mkT_27 : mkT Tryz.prog 27 = some ([AV.lst 0 [] Cap.nil], 1) := by kernel_rfl
theorem q_mkT_30 : mkT Tryz.prog 30 = some ([AV.int IntKind.i64 0], 1) := by kernel_rfl
theorem q_mkT_132 : mkT Tryz.prog 132 = some ([AV.int IntKind.i64 0, AV.int IntKind.i64 0, AV.lst 0 [] Cap.nil, AV.int IntKind.i64 0], 4) := by kernel_rfl
theorem q_notIf_9 : notIf Tryz.prog 9 = true := by kernel_rfl
theorem q_notIf_163 : notIf Tryz.prog 163 = true := by kernel_rfl
theorem q_notIf_222 : notIf Tryz.prog 222 = true := by kernel_rfl
theorem q_notIf_223 : notIf Tryz.prog 223 = true := by kernel_rfl
theorem q_notIf_224 : notIf Tryz.prog 224 = true := by kernel_rfl
theorem q_placeF_26 : placeF Tryz.prog 26 = some (plc [(0, 1), (1, 1), (2, 1)]) := by kernel_rfl
theorem q_placeF_29 : placeF Tryz.prog 29 = some (plc [(0, 1)]) := by kernel_rfl
theorem q_placeF_32 : placeF Tryz.prog 32 = some (plc [(0, 1), (1, 1), (2, 1), (3, 1), (4, 1)]) := by kernel_rfl
theorem q_placeF_38 : placeF Tryz.prog 38 = some (plc [(0, 1), (1, 1), (2, 1), (3, 1), (4, 1)]) := by kernel_rfl
theorem q_placeF_52 : placeF Tryz.prog 52 = some (plc [(0, 1), (1, 1)]) := by kernel_rfl
theorem q_placeF_54 : placeF Tryz.prog 54 = some (plc [(0, 2), (2, 1)]) := by kernel_rfl
theorem q_placeF_62 : placeF Tryz.prog 62 = some (plc [(0, 1), (1, 1), (2, 1)]) := by kernel_rfl
theorem q_placeF_67 : placeF Tryz.prog 67 = some (plca 1) := by kernel_rfl
theorem q_placeF_75 : placeF Tryz.prog 75 = some (plc [(0, 1), (1, 1)]) := by kernel_rfl
theorem q_placeF_79 : placeF Tryz.prog 79 = some (plc [(0, 1), (1, 1)]) := by kernel_rfl
theorem q_placeF_82 : placeF Tryz.prog 82 = some (plc [(0, 1), (1, 1), (2, 2), (4, 2), (6, 1)]) := by kernel_rfl
theorem q_placeF_84 : placeF Tryz.prog 84 = some (plc [(0, 1)]) := by kernel_rfl
theorem q_placeF_88 : placeF Tryz.prog 88 = some (plc [(0, 1), (1, 1)]) := by kernel_rfl
theorem q_placeF_90 : placeF Tryz.prog 90 = some (plc [(0, 1), (1, 1), (2, 1), (3, 1), (4, 1), (5, 1), (6, 2), (8, 2), (10, 7), (17, 1), (18, 1)]) := by kernel_rfl
theorem q_placeF_98 : placeF Tryz.prog 98 = some (plc [(0, 1), (1, 1), (2, 19), (21, 1)]) := by kernel_rfl
theorem q_placeF_121 : placeF Tryz.prog 121 = some (plc [(0, 1), (1, 1), (2, 19), (21, 1)]) := by kernel_rfl
theorem q_placeF_124 : placeF Tryz.prog 124 = some (plc [(0, 22), (22, 1)]) := by kernel_rfl
theorem q_placeF_137 : placeF Tryz.prog 137 = some (plc [(0, 1), (1, 1), (2, 19)]) := by kernel_rfl
theorem q_placeF_165 : placeF Tryz.prog 165 = some (plc [(0, 3), (3, 1)]) := by kernel_rfl
theorem q_placeF_198 : placeF Tryz.prog 198 = some (plc [(0, 3), (3, 1)]) := by kernel_rfl
theorem q_placeF_209 : placeF Tryz.prog 209 = some (plc [(0, 1), (1, 1), (2, 2)]) := by kernel_rfl
theorem q_placeF_222 : placeF Tryz.prog 222 = some (plc [(0, 19)]) := by kernel_rfl
theorem q_placeF_223 : placeF Tryz.prog 223 = some (plc [(0, 19)]) := by kernel_rfl
theorem q_placeF_224 : placeF Tryz.prog 224 = some (plc [(0, 19)]) := by kernel_rfl
theorem q_slT_22 : slT Tryz.prog 22 = some 1 := by kernel_rfl
theorem q_slT_30 : slT Tryz.prog 30 = some 1 := by kernel_rfl
theorem q_slT_50 : slT Tryz.prog 50 = some 3 := by kernel_rfl
theorem q_slT_101 : slT Tryz.prog 101 = some 1 := by kernel_rfl
theorem q_sliceT_22 : sliceT Tryz.prog 22 = true := by kernel_rfl
theorem q_sliceT_23 : sliceT Tryz.prog 23 = true := by kernel_rfl
theorem q_sliceT_24 : sliceT Tryz.prog 24 = true := by kernel_rfl
theorem q_sliceT_27 : sliceT Tryz.prog 27 = true := by kernel_rfl
theorem q_sliceT_30 : sliceT Tryz.prog 30 = true := by kernel_rfl
theorem q_sliceT_49 : sliceT Tryz.prog 49 = true := by kernel_rfl
theorem q_sliceT_50 : sliceT Tryz.prog 50 = true := by kernel_rfl
theorem q_sliceT_60 : sliceT Tryz.prog 60 = true := by kernel_rfl
theorem q_sliceT_73 : sliceT Tryz.prog 73 = true := by kernel_rfl
theorem q_sliceT_80 : sliceT Tryz.prog 80 = true := by kernel_rfl
theorem q_sliceT_86 : sliceT Tryz.prog 86 = true := by kernel_rfl
theorem q_sliceT_101 : sliceT Tryz.prog 101 = true := by kernel_rfl
theorem q_sliceT_118 : sliceT Tryz.prog 118 = true := by kernel_rfl
theorem q_sliceT_122 : sliceT Tryz.prog 122 = true := by kernel_rfl
theorem q_sliceT_131 : sliceT Tryz.prog 131 = true := by kernel_rfl
theorem q_sliceT_132 : sliceT Tryz.prog 132 = true := by kernel_rfl
theorem q_sliceT_156 : sliceT Tryz.prog 156 = true := by kernel_rfl
theorem q_strT_9 : strT Tryz.prog 9 = true := by kernel_rfl
theorem q_tyOf_3 : tyOf Tryz.prog 3 = some (false, 1) := by kernel_rfl
theorem q_tyOf_4 : tyOf Tryz.prog 4 = some (false, 1) := by kernel_rfl
theorem q_tyOf_5 : tyOf Tryz.prog 5 = some (false, 1) := by kernel_rfl
theorem q_tyOf_9 : tyOf Tryz.prog 9 = some (false, 1) := by kernel_rfl
theorem q_tyOf_22 : tyOf Tryz.prog 22 = some (false, 1) := by kernel_rfl
theorem q_tyOf_23 : tyOf Tryz.prog 23 = some (false, 1) := by kernel_rfl
theorem q_tyOf_24 : tyOf Tryz.prog 24 = some (false, 1) := by kernel_rfl
theorem q_tyOf_26 : tyOf Tryz.prog 26 = some (true, 3) := by kernel_rfl
theorem q_tyOf_27 : tyOf Tryz.prog 27 = some (false, 1) := by kernel_rfl
theorem q_tyOf_29 : tyOf Tryz.prog 29 = some (true, 1) := by kernel_rfl
theorem q_tyOf_30 : tyOf Tryz.prog 30 = some (false, 1) := by kernel_rfl
theorem q_tyOf_32 : tyOf Tryz.prog 32 = some (true, 5) := by kernel_rfl
theorem q_tyOf_35 : tyOf Tryz.prog 35 = some (false, 1) := by kernel_rfl
theorem q_tyOf_38 : tyOf Tryz.prog 38 = some (true, 5) := by kernel_rfl
theorem q_tyOf_50 : tyOf Tryz.prog 50 = some (false, 1) := by kernel_rfl
theorem q_tyOf_52 : tyOf Tryz.prog 52 = some (true, 2) := by kernel_rfl
theorem q_tyOf_54 : tyOf Tryz.prog 54 = some (true, 3) := by kernel_rfl
theorem q_tyOf_60 : tyOf Tryz.prog 60 = some (false, 1) := by kernel_rfl
theorem q_tyOf_62 : tyOf Tryz.prog 62 = some (true, 3) := by kernel_rfl
theorem q_tyOf_67 : tyOf Tryz.prog 67 = some (true, 8) := by kernel_rfl
theorem q_tyOf_73 : tyOf Tryz.prog 73 = some (false, 1) := by kernel_rfl
theorem q_tyOf_75 : tyOf Tryz.prog 75 = some (true, 2) := by kernel_rfl
theorem q_tyOf_79 : tyOf Tryz.prog 79 = some (true, 2) := by kernel_rfl
theorem q_tyOf_80 : tyOf Tryz.prog 80 = some (false, 1) := by kernel_rfl
theorem q_tyOf_82 : tyOf Tryz.prog 82 = some (true, 7) := by kernel_rfl
theorem q_tyOf_84 : tyOf Tryz.prog 84 = some (true, 1) := by kernel_rfl
theorem q_tyOf_86 : tyOf Tryz.prog 86 = some (false, 1) := by kernel_rfl
theorem q_tyOf_88 : tyOf Tryz.prog 88 = some (true, 2) := by kernel_rfl
theorem q_tyOf_90 : tyOf Tryz.prog 90 = some (true, 19) := by kernel_rfl
theorem q_tyOf_98 : tyOf Tryz.prog 98 = some (true, 22) := by kernel_rfl
theorem q_tyOf_100 : tyOf Tryz.prog 100 = some (false, 1) := by kernel_rfl
theorem q_tyOf_101 : tyOf Tryz.prog 101 = some (false, 1) := by kernel_rfl
theorem q_tyOf_121 : tyOf Tryz.prog 121 = some (true, 22) := by kernel_rfl
theorem q_tyOf_122 : tyOf Tryz.prog 122 = some (false, 1) := by kernel_rfl
theorem q_tyOf_124 : tyOf Tryz.prog 124 = some (true, 23) := by kernel_rfl
theorem q_tyOf_132 : tyOf Tryz.prog 132 = some (false, 1) := by kernel_rfl
theorem q_tyOf_137 : tyOf Tryz.prog 137 = some (true, 21) := by kernel_rfl
theorem q_tyOf_151 : tyOf Tryz.prog 151 = some (false, 1) := by kernel_rfl
theorem q_tyOf_163 : tyOf Tryz.prog 163 = some (true, 0) := by kernel_rfl
theorem q_tyOf_165 : tyOf Tryz.prog 165 = some (true, 4) := by kernel_rfl
theorem q_tyOf_168 : tyOf Tryz.prog 168 = some (false, 1) := by kernel_rfl
theorem q_tyOf_169 : tyOf Tryz.prog 169 = some (false, 1) := by kernel_rfl
theorem q_tyOf_209 : tyOf Tryz.prog 209 = some (true, 4) := by kernel_rfl
theorem q_tyOf_212 : tyOf Tryz.prog 212 = some (false, 1) := by kernel_rfl
theorem q_zeroAt_3 : zeroAt Tryz.prog 3 = some [AV.int IntKind.i64 0] := by kernel_rfl
theorem q_zeroAt_4 : zeroAt Tryz.prog 4 = some [AV.bool false] := by kernel_rfl
theorem q_zeroAt_26 : zeroAt Tryz.prog 26 = some [AV.lst 0 [] Cap.nil, AV.lst 0 [] Cap.nil, AV.lst 0 [] Cap.nil] := by kernel_rfl
theorem q_zeroAt_29 : zeroAt Tryz.prog 29 = some [AV.lst 0 [] Cap.nil] := by kernel_rfl
theorem q_zeroAt_32 : zeroAt Tryz.prog 32 = some [AV.int IntKind.i64 0, AV.int IntKind.i64 0, AV.int IntKind.i64 0, AV.int IntKind.i64 0, AV.lst 0 [] Cap.nil] := by kernel_rfl
theorem q_zeroAt_35 : zeroAt Tryz.prog 35 = some [AV.int IntKind.i64 0] := by kernel_rfl
theorem q_zeroAt_38 : zeroAt Tryz.prog 38 = some [AV.int IntKind.i64 0, AV.int IntKind.i64 0, AV.int IntKind.i64 0, AV.int IntKind.i64 0, AV.lst 0 [] Cap.nil] := by kernel_rfl
theorem q_zeroAt_52 : zeroAt Tryz.prog 52 = some [AV.lst 0 [] Cap.nil, AV.int IntKind.i64 0] := by kernel_rfl
theorem q_zeroAt_54 : zeroAt Tryz.prog 54 = some [AV.lst 0 [] Cap.nil, AV.int IntKind.i64 0, AV.int IntKind.i64 0] := by kernel_rfl
theorem q_zeroAt_60 : zeroAt Tryz.prog 60 = some [AV.lst 0 [] Cap.nil] := by kernel_rfl
theorem q_zeroAt_62 : zeroAt Tryz.prog 62 = some [AV.lst 0 [] Cap.nil, AV.int IntKind.i64 0, AV.lst 0 [] Cap.nil] := by kernel_rfl
theorem q_zeroAt_67 : zeroAt Tryz.prog 67 = some [AV.nilfn, AV.nilfn, AV.nilfn, AV.nilfn, AV.nilfn, AV.nilfn, AV.nilfn, AV.nilfn] := by kernel_rfl
theorem q_zeroAt_75 : zeroAt Tryz.prog 75 = some [AV.str ⟨#[]⟩, AV.lst 0 [] Cap.nil] := by kernel_rfl
theorem q_zeroAt_79 : zeroAt Tryz.prog 79 = some [AV.int IntKind.i64 0, AV.lst 0 [] Cap.nil] := by kernel_rfl
theorem q_zeroAt_82 : zeroAt Tryz.prog 82 = some [AV.int IntKind.i64 0, AV.int IntKind.i64 0, AV.lst 0 [] Cap.nil, AV.int IntKind.i64 0, AV.int IntKind.i64 0, AV.lst 0 [] Cap.nil, AV.lst 0 [] Cap.nil] := by kernel_rfl
theorem q_zeroAt_84 : zeroAt Tryz.prog 84 = some [AV.lst 0 [] Cap.nil] := by kernel_rfl
theorem q_zeroAt_88 : zeroAt Tryz.prog 88 = some [AV.int IntKind.i64 0, AV.lst 0 [] Cap.nil] := by kernel_rfl
theorem q_zeroAt_90 : zeroAt Tryz.prog 90 = some [AV.int IntKind.i64 0, AV.str ⟨#[]⟩, AV.lst 0 [] Cap.nil, AV.lst 0 [] Cap.nil, AV.int IntKind.i64 0, AV.int IntKind.i64 0, AV.int IntKind.i64 0, AV.lst 0 [] Cap.nil, AV.int IntKind.i64 0, AV.lst 0 [] Cap.nil, AV.int IntKind.i64 0, AV.int IntKind.i64 0, AV.lst 0 [] Cap.nil, AV.int IntKind.i64 0, AV.int IntKind.i64 0, AV.lst 0 [] Cap.nil, AV.lst 0 [] Cap.nil, AV.lst 0 [] Cap.nil, AV.lst 0 [] Cap.nil] := by kernel_rfl
theorem q_zeroAt_98 : zeroAt Tryz.prog 98 = some [AV.lst 0 [] Cap.nil, AV.lst 0 [] Cap.nil, AV.int IntKind.i64 0, AV.str ⟨#[]⟩, AV.lst 0 [] Cap.nil, AV.lst 0 [] Cap.nil, AV.int IntKind.i64 0, AV.int IntKind.i64 0, AV.int IntKind.i64 0, AV.lst 0 [] Cap.nil, AV.int IntKind.i64 0, AV.lst 0 [] Cap.nil, AV.int IntKind.i64 0, AV.int IntKind.i64 0, AV.lst 0 [] Cap.nil, AV.int IntKind.i64 0, AV.int IntKind.i64 0, AV.lst 0 [] Cap.nil, AV.lst 0 [] Cap.nil, AV.lst 0 [] Cap.nil, AV.lst 0 [] Cap.nil, AV.lst 0 [] Cap.nil] := by kernel_rfl
theorem q_zeroAt_103 : zeroAt Tryz.prog 103 = some [AV.nilp, AV.lst 0 [] Cap.nil] := by kernel_rfl
theorem q_zeroAt_121 : zeroAt Tryz.prog 121 = some [AV.lst 0 [] Cap.nil, AV.lst 0 [] Cap.nil, AV.int IntKind.i64 0, AV.str ⟨#[]⟩, AV.lst 0 [] Cap.nil, AV.lst 0 [] Cap.nil, AV.int IntKind.i64 0, AV.int IntKind.i64 0, AV.int IntKind.i64 0, AV.lst 0 [] Cap.nil, AV.int IntKind.i64 0, AV.lst 0 [] Cap.nil, AV.int IntKind.i64 0, AV.int IntKind.i64 0, AV.lst 0 [] Cap.nil, AV.int IntKind.i64 0, AV.int IntKind.i64 0, AV.lst 0 [] Cap.nil, AV.lst 0 [] Cap.nil, AV.lst 0 [] Cap.nil, AV.lst 0 [] Cap.nil, AV.lst 0 [] Cap.nil] := by kernel_rfl
theorem q_zeroAt_124 : zeroAt Tryz.prog 124 = some [AV.lst 0 [] Cap.nil, AV.lst 0 [] Cap.nil, AV.int IntKind.i64 0, AV.str ⟨#[]⟩, AV.lst 0 [] Cap.nil, AV.lst 0 [] Cap.nil, AV.int IntKind.i64 0, AV.int IntKind.i64 0, AV.int IntKind.i64 0, AV.lst 0 [] Cap.nil, AV.int IntKind.i64 0, AV.lst 0 [] Cap.nil, AV.int IntKind.i64 0, AV.int IntKind.i64 0, AV.lst 0 [] Cap.nil, AV.int IntKind.i64 0, AV.int IntKind.i64 0, AV.lst 0 [] Cap.nil, AV.lst 0 [] Cap.nil, AV.lst 0 [] Cap.nil, AV.lst 0 [] Cap.nil, AV.lst 0 [] Cap.nil, AV.lst 0 [] Cap.nil] := by kernel_rfl
theorem q_zeroAt_137 : zeroAt Tryz.prog 137 = some [AV.lst 0 [] Cap.nil, AV.lst 0 [] Cap.nil, AV.int IntKind.i64 0, AV.str ⟨#[]⟩, AV.lst 0 [] Cap.nil, AV.lst 0 [] Cap.nil, AV.int IntKind.i64 0, AV.int IntKind.i64 0, AV.int IntKind.i64 0, AV.lst 0 [] Cap.nil, AV.int IntKind.i64 0, AV.lst 0 [] Cap.nil, AV.int IntKind.i64 0, AV.int IntKind.i64 0, AV.lst 0 [] Cap.nil, AV.int IntKind.i64 0, AV.int IntKind.i64 0, AV.lst 0 [] Cap.nil, AV.lst 0 [] Cap.nil, AV.lst 0 [] Cap.nil, AV.lst 0 [] Cap.nil] := by kernel_rfl
theorem q_zeroAt_163 : zeroAt Tryz.prog 163 = some [] := by kernel_rfl
theorem q_zeroAt_165 : zeroAt Tryz.prog 165 = some [AV.lst 0 [] Cap.nil, AV.lst 0 [] Cap.nil, AV.lst 0 [] Cap.nil, AV.int IntKind.i64 0] := by kernel_rfl
theorem q_zeroAt_169 : zeroAt Tryz.prog 169 = some [AV.nilfn] := by kernel_rfl
theorem q_zeroAt_198 : zeroAt Tryz.prog 198 = some [AV.lst 0 [] Cap.nil, AV.lst 0 [] Cap.nil, AV.lst 0 [] Cap.nil, AV.int IntKind.i64 0] := by kernel_rfl
theorem q_zeroAt_209 : zeroAt Tryz.prog 209 = some [AV.int IntKind.i64 0, AV.int IntKind.i64 0, AV.lst 0 [] Cap.nil, AV.int IntKind.i64 0] := by kernel_rfl
theorem q_zeroAt_211 : zeroAt Tryz.prog 211 = some [AV.int IntKind.u8 0, AV.int IntKind.u8 0, AV.int IntKind.u8 0, AV.int IntKind.u8 0, AV.int IntKind.u8 0, AV.int IntKind.u8 0, AV.int IntKind.u8 0, AV.int IntKind.u8 0, AV.int IntKind.u8 0, AV.int IntKind.u8 0, AV.int IntKind.u8 0, AV.int IntKind.u8 0, AV.int IntKind.u8 0, AV.int IntKind.u8 0, AV.int IntKind.u8 0, AV.int IntKind.u8 0, AV.int IntKind.u8 0, AV.int IntKind.u8 0, AV.int IntKind.u8 0, AV.int IntKind.u8 0, AV.int IntKind.u8 0, AV.int IntKind.u8 0, AV.int IntKind.u8 0, AV.int IntKind.u8 0] := by kernel_rfl
theorem q_zeroAt_222 : zeroAt Tryz.prog 222 = some [AV.int IntKind.i64 0, AV.str ⟨#[]⟩, AV.lst 0 [] Cap.nil, AV.lst 0 [] Cap.nil, AV.int IntKind.i64 0, AV.int IntKind.i64 0, AV.int IntKind.i64 0, AV.lst 0 [] Cap.nil, AV.int IntKind.i64 0, AV.lst 0 [] Cap.nil, AV.int IntKind.i64 0, AV.int IntKind.i64 0, AV.lst 0 [] Cap.nil, AV.int IntKind.i64 0, AV.int IntKind.i64 0, AV.lst 0 [] Cap.nil, AV.lst 0 [] Cap.nil, AV.lst 0 [] Cap.nil, AV.lst 0 [] Cap.nil] := by kernel_rfl
theorem q_zeroAt_223 : zeroAt Tryz.prog 223 = some [AV.int IntKind.i64 0, AV.str ⟨#[]⟩, AV.lst 0 [] Cap.nil, AV.lst 0 [] Cap.nil, AV.int IntKind.i64 0, AV.int IntKind.i64 0, AV.int IntKind.i64 0, AV.lst 0 [] Cap.nil, AV.int IntKind.i64 0, AV.lst 0 [] Cap.nil, AV.int IntKind.i64 0, AV.int IntKind.i64 0, AV.lst 0 [] Cap.nil, AV.int IntKind.i64 0, AV.int IntKind.i64 0, AV.lst 0 [] Cap.nil, AV.lst 0 [] Cap.nil, AV.lst 0 [] Cap.nil, AV.lst 0 [] Cap.nil] := by kernel_rfl
theorem q_zeroAt_224 : zeroAt Tryz.prog 224 = some [AV.int IntKind.i64 0, AV.str ⟨#[]⟩, AV.lst 0 [] Cap.nil, AV.lst 0 [] Cap.nil, AV.int IntKind.i64 0, AV.int IntKind.i64 0, AV.int IntKind.i64 0, AV.lst 0 [] Cap.nil, AV.int IntKind.i64 0, AV.lst 0 [] Cap.nil, AV.int IntKind.i64 0, AV.int IntKind.i64 0, AV.lst 0 [] Cap.nil, AV.int IntKind.i64 0, AV.int IntKind.i64 0, AV.lst 0 [] Cap.nil, AV.lst 0 [] Cap.nil, AV.lst 0 [] Cap.nil, AV.lst 0 [] Cap.nil] := by kernel_rfl
theorem q_zeroAt_229 : zeroAt Tryz.prog 229 = some (List.replicate 65 (.int .u8 0)) := by kernel_rfl
attribute [simp] q_apT_22_22 q_apT_24_24 q_apT_27_27 q_apT_30_30 q_apT_50_50 q_apT_60_60 q_apT_73_73 q_apT_80_80
attribute [simp] q_apT_86_86 q_apT_96_96 q_apT_101_101 q_apT_118_118 q_apT_122_122 q_apT_156_156 q_arrAt_211 q_arrAt_227
attribute [simp] q_arrAt_229 q_arrAt_246 q_arrAt_247 q_convT_2_212 q_convT_3_212 q_convT_3_230 q_convT_5_3 q_convT_5_228
attribute [simp] q_convT_212_5 q_convT_212_228 q_convT_228_5 q_convT_230_228 q_elemSz_22 q_elemSz_23 q_elemSz_24 q_elemSz_27
attribute [simp] q_elemSz_30 q_elemSz_49 q_elemSz_50 q_elemSz_60 q_elemSz_73 q_elemSz_80 q_elemSz_86 q_elemSz_96
attribute [simp] q_elemSz_101 q_elemSz_118 q_elemSz_122 q_elemSz_131 q_elemSz_132 q_elemSz_156 q_fieldAt_26_0 q_fieldAt_26_1
attribute [simp] q_fieldAt_26_2 q_fieldAt_29_0 q_fieldAt_32_0 q_fieldAt_32_1 q_fieldAt_32_2 q_fieldAt_32_3 q_fieldAt_32_4 q_fieldAt_38_0
attribute [simp] q_fieldAt_38_1 q_fieldAt_38_2 q_fieldAt_38_3 q_fieldAt_38_4 q_fieldAt_52_0 q_fieldAt_52_1 q_fieldAt_54_0 q_fieldAt_54_1
attribute [simp] q_fieldAt_62_0 q_fieldAt_62_1 q_fieldAt_62_2 q_fieldAt_75_0 q_fieldAt_75_1 q_fieldAt_79_0 q_fieldAt_79_1 q_fieldAt_82_0
attribute [simp] q_fieldAt_82_1 q_fieldAt_82_2 q_fieldAt_82_3 q_fieldAt_82_4 q_fieldAt_84_0 q_fieldAt_88_0 q_fieldAt_88_1 q_fieldAt_90_0
attribute [simp] q_fieldAt_90_1 q_fieldAt_90_2 q_fieldAt_90_3 q_fieldAt_90_4 q_fieldAt_90_5 q_fieldAt_90_6 q_fieldAt_90_7 q_fieldAt_90_8
attribute [simp] q_fieldAt_90_9 q_fieldAt_90_10 q_fieldAt_98_0 q_fieldAt_98_1 q_fieldAt_103_0 q_fieldAt_103_1 q_fieldAt_121_0 q_fieldAt_121_1
attribute [simp] q_fieldAt_124_0 q_fieldAt_124_1 q_fieldAt_137_0 q_fieldAt_137_1 q_fieldAt_137_2 q_fieldAt_165_0 q_fieldAt_165_1 q_fieldAt_198_0
attribute [simp] q_fieldAt_198_1 q_fieldAt_209_0 q_fieldAt_209_1 q_fieldAt_209_2 q_fieldAt_222_0 q_fieldAt_223_0 q_fieldAt_224_0 q_ifaceT_20
attribute [simp] q_ixT_67 q_mkT_27 q_mkT_30 q_mkT_132 q_notIf_9 q_notIf_163 q_notIf_222 q_notIf_223
attribute [simp] q_notIf_224 q_placeF_26 q_placeF_29 q_placeF_32 q_placeF_38 q_placeF_52 q_placeF_54 q_placeF_62
attribute [simp] q_placeF_67 q_placeF_75 q_placeF_79 q_placeF_82 q_placeF_84 q_placeF_88 q_placeF_90 q_placeF_98
attribute [simp] q_placeF_121 q_placeF_124 q_placeF_137 q_placeF_165 q_placeF_198 q_placeF_209 q_placeF_222 q_placeF_223
attribute [simp] q_placeF_224 q_slT_22 q_slT_30 q_slT_50 q_slT_101 q_sliceT_22 q_sliceT_23 q_sliceT_24
attribute [simp] q_sliceT_27 q_sliceT_30 q_sliceT_49 q_sliceT_50 q_sliceT_60 q_sliceT_73 q_sliceT_80 q_sliceT_86
attribute [simp] q_sliceT_101 q_sliceT_118 q_sliceT_122 q_sliceT_131 q_sliceT_132 q_sliceT_156 q_strT_9 q_tyOf_3
attribute [simp] q_tyOf_4 q_tyOf_5 q_tyOf_9 q_tyOf_22 q_tyOf_23 q_tyOf_24 q_tyOf_26 q_tyOf_27
attribute [simp] q_tyOf_29 q_tyOf_30 q_tyOf_32 q_tyOf_35 q_tyOf_38 q_tyOf_50 q_tyOf_52 q_tyOf_54
attribute [simp] q_tyOf_60 q_tyOf_62 q_tyOf_67 q_tyOf_73 q_tyOf_75 q_tyOf_79 q_tyOf_80 q_tyOf_82
attribute [simp] q_tyOf_84 q_tyOf_86 q_tyOf_88 q_tyOf_90 q_tyOf_98 q_tyOf_100 q_tyOf_101 q_tyOf_121
attribute [simp] q_tyOf_122 q_tyOf_124 q_tyOf_132 q_tyOf_137 q_tyOf_151 q_tyOf_163 q_tyOf_165 q_tyOf_168
attribute [simp] q_tyOf_169 q_tyOf_209 q_tyOf_212 q_zeroAt_3 q_zeroAt_4 q_zeroAt_26 q_zeroAt_29 q_zeroAt_32
attribute [simp] q_zeroAt_35 q_zeroAt_38 q_zeroAt_52 q_zeroAt_54 q_zeroAt_60 q_zeroAt_62 q_zeroAt_67 q_zeroAt_75
attribute [simp] q_zeroAt_79 q_zeroAt_82 q_zeroAt_84 q_zeroAt_88 q_zeroAt_90 q_zeroAt_98 q_zeroAt_103 q_zeroAt_121
attribute [simp] q_zeroAt_124 q_zeroAt_137 q_zeroAt_163 q_zeroAt_165 q_zeroAt_169 q_zeroAt_198 q_zeroAt_209 q_zeroAt_211
attribute [simp] q_zeroAt_222 q_zeroAt_223 q_zeroAt_224 q_zeroAt_229
end T
end

section
/- sched.Text, walked at a schedule of one statement with two rows. -/
namespace Go.Proofs
open Go.RowKit
theorem Tryz.bWrite (B b : Nat) (bs : List Value) (s : ByteArray) (w : World) (h : Lib.IsBuilder 103 5 B b bs w) (hlen : bs.length + s.size ≤ 140737488355328) (hBw : B ≤ w.heap.size) :
    Calls Tryz.prog 34 #[.pointer (some ⟨b, 0, none⟩), .string s] w fun e w' => e = .returned (.tuple #[.int .i64 s.size, .nilIface]) ∧ (Lib.IsBuilder 103 5 B b (bs ++ Lib.strCells s) w' ∧ Below B w w') :=
  (Any.Builder_WriteString { Tryz.lays156 with } Tryz.Builder_Extra_156 B b bs s w h hlen hBw).mono fun _ _ h => ⟨h.1, .inr h.2.1, h.2.2⟩
theorem Tryz.bString (B b : Nat) (l : List UInt8) (w : World) (h : Lib.IsBuilder 103 5 B b (Lib.byteCells l) w) (hBw : B ≤ w.heap.size) :
    Calls Tryz.prog 38 #[.pointer (some ⟨b, 0, none⟩)] w fun e w' => e = .returned (.string ⟨l.toArray⟩) ∧ Below B w w' :=
  Any.Builder_String_any { Tryz.lays156 with } Tryz.Builder_Extra_156 B b l w h hBw
set_option maxHeartbeats 1000000 in
set_option maxRecDepth 100000 in
theorem Tryz.bLen (B b : Nat) (bs : List Value) (w : World) (h : Lib.IsBuilder 103 5 B b bs w) :
    Calls Tryz.prog 37 #[.pointer (some ⟨b, 0, none⟩)] w fun e w' => e = .returned (.int .i64 bs.length) ∧ w' = w := by
  obtain ⟨p, hB, v, hbk, hown, hne⟩ : ∃ p, Lib.BuilderAt 103 5 B b p bs w := by
    rcases h with h | h
    · exact ⟨_, h⟩
    · exact ⟨_, h⟩
  obtain ⟨ao, cap, rfl⟩ : ∃ ao cap, v = .slice ao bs.length cap := by
    rcases hown.2 with ⟨hv, h0⟩ | ⟨g, cap, cur, hv, _⟩
    · exact ⟨none, 0, by rw [hv, h0]⟩
    · exact ⟨_, _, hv⟩
  have c1 : w.cell? ⟨b, 1, none⟩ = some (.slice ao bs.length cap) := by rw [Lib.cell_of_heap hbk]; rfl
  have mixed : Tryz.prog.follows .mixedOrders = true := by kernel_rfl
  go_enter Tryz.func37, Tryz.ntmps37
  go_wp2
  go_ret
  exact ⟨rfl, rfl⟩
theorem Tryz.bKeep {B b : Nat} {bs : List Value} {w w' : World} (h : Lib.IsBuilder 103 5 B b bs w) (hb : Below w.heap.size w w') : Lib.IsBuilder 103 5 B b bs w' := by
  have go : ∀ {p}, Lib.BuilderAt 103 5 B b p bs w → Lib.BuilderAt 103 5 B b p bs w' := fun {p} h => by
    obtain ⟨hB, v, hbk, hown, hne⟩ := h
    refine ⟨hB, v, by rw [hb.block b (Array.getElem?_eq_some_iff.1 hbk).1]; exact hbk, ⟨hown.1, ?_⟩, hne⟩
    rcases hown.2 with h | ⟨g, cap, cur, h1, h2, h3, h4⟩
    · exact .inl h
    · exact .inr ⟨g, cap, cur, h1, h2, by rw [hb.block g (Array.getElem?_eq_some_iff.1 h3).1]; exact h3, h4⟩
  exact h.imp go go
set_option maxHeartbeats 4000000 in
set_option maxRecDepth 100000 in
theorem Tryz.text_walk (a b c : Value) (g p cap g2 p2 cap2 : Nat) (ad1 ad2 : Option Addr) (n1 cp1 n2 cp2 : Nat) (k1 d1 k2 d2 : Int) (s1 s2 : ByteArray) (w : World)
    (hg : g < w.heap.size) (hg2 : g2 < w.heap.size) (hcap : 1 ≤ cap) (hcap2 : 2 ≤ cap2)
    (h0 : w.cell? ⟨g, p, none⟩ = some (.slice (some ⟨g2, p2, none⟩) 2 cap2))
    (h1 : w.cell? ⟨g2, p2, none⟩ = some (.slice ad1 n1 cp1)) (h2 : w.cell? ⟨g2, p2 + 1, none⟩ = some (.int .i64 k1)) (h3 : w.cell? ⟨g2, p2 + 2, none⟩ = some (.int .i64 d1))
    (h4 : w.cell? ⟨g2, p2 + 3, none⟩ = some (.slice ad2 n2 cp2)) (h5 : w.cell? ⟨g2, p2 + 4, none⟩ = some (.int .i64 k2)) (h6 : w.cell? ⟨g2, p2 + 5, none⟩ = some (.int .i64 d2))
    (hs1 : s1.size ≤ 1000) (hs2 : s2.size ≤ 1000)
    (h33 : ∀ w', Below w.heap.size w w' → Calls Tryz.prog 33 #[.agg #[a, b, c], .agg #[.slice (some ⟨g, p, none⟩) 1 cap]] w' fun e w'' => e = .returned (.int .i64 0) ∧ Below w'.heap.size w' w'')
    (h36a : ∀ w', Below w.heap.size w w' → Calls Tryz.prog 36 #[.agg #[.slice ad1 n1 cp1, .int .i64 k1, .int .i64 d1]] w' fun e w'' => e = .returned (.string s1) ∧ Below w'.heap.size w' w'')
    (h36b : ∀ w', Below w.heap.size w w' → Calls Tryz.prog 36 #[.agg #[.slice ad2 n2 cp2, .int .i64 k2, .int .i64 d2]] w' fun e w'' => e = .returned (.string s2) ∧ Below w'.heap.size w' w'') :
    Calls Tryz.prog 18 #[.agg #[a, b, c], .agg #[.slice (some ⟨g, p, none⟩) 1 cap]] w fun e w' =>
      e = .returned (.tuple #[.string ⟨(83 :: 48 :: 58 :: (s1.data.toList ++ (s2.data.toList ++ [10]))).toArray⟩, .int .i64 0]) ∧ Below w.heap.size w w' := by
  have mixed : Tryz.prog.follows .mixedOrders = true := by kernel_rfl
  go_enter Tryz.func18, Tryz.ntmps18
  go_wp2_with (go_at_call 33; refine (h33 _ ?hb).mono ?_)
  case hb => exact ((Below.refl _ w).alloc (Nat.le_refl _) _).alloc (by simp) _
  rintro e w1 ⟨rfl, hb1⟩
  have hz : w.heap.size + 2 ≤ w1.heap.size := by have := hb1.size; simpa using this
  have H1 := Any.hidJ (((Below.refl _ w).alloc (Nat.le_refl _) _).alloc (by simp) _ |>.trans (hb1.mono (by simp; omega)))
  have cS : (w1.alloc (.cells #[.pointer none, .slice none 0 0] 103)).cell? ⟨w.heap.size + 1, 0, none⟩ = some (.slice (some ⟨g, p, none⟩) 1 cap) := by
    rw [World.cell?_alloc_past _ _ _ (by omega), hb1.cell (p := ⟨w.heap.size + 1, 0, none⟩) (by simp)]
    exact World.cell?_alloc_at _ _ _ _ (by simp)
  have HB0 := Any.hidJ (Lib.fresh_isBuilder 103 5 w1)
  have HW0 := Any.hidJ (H1.out.alloc (by omega : w.heap.size ≤ w1.heap.size) (.cells #[.pointer none, .slice none 0 0] 103))
  clear hb1
  go_wp2_with fail
  go_loopw [21] (fun i wr => Hid (Below w.heap.size w wr) ∧ ((i = .int .i64 0 ∧ Hid (Lib.IsBuilder 103 5 w1.heap.size w1.heap.size [] wr)) ∨ (i = .int .i64 1 ∧ Hid (Lib.IsBuilder 103 5 w1.heap.size w1.heap.size (Lib.byteCells ([83, 48, 58] ++ s1.data.toList ++ s2.data.toList ++ [10])) wr)))) (fun i _ => 1 - (intOf i).toNat)
  case atStart => exact ⟨HW0, .inl ⟨rfl, HB0⟩⟩
  case round =>
    obtain ⟨HW, ⟨rfl, HB⟩ | ⟨rfl, HB⟩⟩ := hrel
    · have hBw : w1.heap.size ≤ wr.heap.size := by
        have : ∀ q, Lib.BuilderAt 103 5 w1.heap.size w1.heap.size q [] wr → w1.heap.size ≤ wr.heap.size := fun q h => by
          obtain ⟨_, v, hb, _⟩ := h
          exact Nat.le_of_lt (Array.getElem?_eq_some_iff.1 hb).1
        exact HB.out.elim (this _) (this _)
      have r0 : wr.cell? ⟨g, p, none⟩ = some (.slice (some ⟨g2, p2, none⟩) 2 cap2) := by rw [HW.out.cell (p := ⟨g, p, none⟩) hg]; exact h0
      have hItoa : ∀ w', Calls Tryz.prog 35 #[.int .i64 0] w' fun e w'' => e = .returned (.string ⟨#[48]⟩) ∧ w'' = w' := fun w' => by
        have h := Tryz.strconv_Itoa_small 0 (by decide) w'
        have e : Lib.decDigits 0 = [48] := by kernel_rfl
        rwa [e] at h
      go_wp2_with (go_at_call 35; refine (hItoa _).mono ?_)
      rintro e w2 ⟨rfl, rfl⟩
      go_wp2_with (go_at_call 34; refine (Tryz.bWrite w1.heap.size w1.heap.size [] _ _ HB.out (by decide) hBw).mono ?_)
      rintro e w3 ⟨rfl, h3, hb3⟩
      have e3 : ([] : List Value) ++ Lib.strCells (⟨#[83]⟩ ++ ⟨#[48]⟩ ++ ⟨#[58]⟩) = Lib.byteCells [83, 48, 58] := by rfl
      rw [e3] at h3
      have HB3 := Any.hidJ h3
      have HW3 := Any.hidJ (HW.out.trans (hb3.mono (by omega)))
      have hB3w : w1.heap.size ≤ w3.heap.size := Nat.le_trans hBw hb3.size
      clear h3 hb3 e3
      go_wp2_with fail
      go_loopw [33] (fun j wr2 => Hid (Below w.heap.size w wr2) ∧ Hid (w1.heap.size ≤ wr2.heap.size) ∧ ((j = .int .i64 0 ∧ Hid (Lib.IsBuilder 103 5 w1.heap.size w1.heap.size (Lib.byteCells [83, 48, 58]) wr2)) ∨
        (j = .int .i64 1 ∧ Hid (Lib.IsBuilder 103 5 w1.heap.size w1.heap.size (Lib.byteCells ([83, 48, 58] ++ s1.data.toList)) wr2)) ∨
        (j = .int .i64 2 ∧ Hid (Lib.IsBuilder 103 5 w1.heap.size w1.heap.size (Lib.byteCells ([83, 48, 58] ++ s1.data.toList ++ s2.data.toList)) wr2)))) (fun j _ => 2 - (intOf j).toNat)
      case atStart => exact ⟨HW3, hB3w, .inl ⟨rfl, HB3⟩⟩
      case round =>
        obtain ⟨HW4, hw4, ⟨rfl, HB4⟩ | ⟨rfl, HB4⟩ | ⟨rfl, HB4⟩⟩ := hrel
        · have q1 : wr.cell? ⟨g2, p2, none⟩ = some (.slice ad1 n1 cp1) := by rw [HW4.out.cell (p := ⟨g2, p2, none⟩) hg2]; exact h1
          have q2 : wr.cell? ⟨g2, p2 + 1, none⟩ = some (.int .i64 k1) := by rw [HW4.out.cell (p := ⟨g2, p2 + 1, none⟩) hg2]; exact h2
          have q3 : wr.cell? ⟨g2, p2 + 2, none⟩ = some (.int .i64 d1) := by rw [HW4.out.cell (p := ⟨g2, p2 + 2, none⟩) hg2]; exact h3
          go_wp2_with (go_at_call 36; refine (h36a _ ?hb).mono ?_)
          case hb => exact HW4.out.alloc HW4.out.size _
          rintro e w5 ⟨rfl, hb5⟩
          have HB5 := Any.hidJ (Tryz.bKeep (Tryz.bKeep HB4.out ((Below.refl _ wr).alloc (Nat.le_refl _) _)) hb5)
          have HW5 := Any.hidJ ((HW4.out.alloc HW4.out.size _).trans (hb5.mono (by simp; have := HW4.out.size; omega)))
          have hw5 : w1.heap.size ≤ w5.heap.size := by have h1 : w1.heap.size ≤ wr.heap.size := hw4; have h2 := hb5.size; simp at h2; omega
          clear hb5
          go_wp2_with (go_at_call 34; refine (Tryz.bWrite w1.heap.size w1.heap.size _ s1 _ HB5.out (by simp [Lib.byteCells_length]; have a1 : s1.data.size = s1.size := rfl; have a2 : s2.data.size = s2.size := rfl; have a3 : (⟨#[10]⟩ : ByteArray).size = 1 := rfl; omega) hw5).mono ?_)
          rintro e w6 ⟨rfl, h6, hb6⟩
          have e6 : Lib.byteCells ([83, 48, 58]) ++ Lib.strCells s1 = Lib.byteCells ([83, 48, 58] ++ s1.data.toList) := by rw [Lib.strCells_eq, ← Lib.byteCells_append]
          rw [e6] at h6
          have HB6 := Any.hidJ h6
          have HW6 := Any.hidJ (HW5.out.trans (hb6.mono (by omega)))
          have hw6 := Any.hidJ (Nat.le_trans hw5 hb6.size)
          clear h6 hb6 e6
          go_wp2
          exact ⟨⟨HW6, hw6, .inr <| .inl ⟨by go_num, HB6⟩⟩, by simp [intOf]⟩
        · have q1 : wr.cell? ⟨g2, p2 + 3, none⟩ = some (.slice ad2 n2 cp2) := by rw [HW4.out.cell (p := ⟨g2, p2 + 3, none⟩) hg2]; exact h4
          have q2 : wr.cell? ⟨g2, p2 + 3 + 1, none⟩ = some (.int .i64 k2) := by rw [HW4.out.cell (p := ⟨g2, p2 + 3 + 1, none⟩) hg2]; exact h5
          have q3 : wr.cell? ⟨g2, p2 + 3 + 2, none⟩ = some (.int .i64 d2) := by rw [HW4.out.cell (p := ⟨g2, p2 + 3 + 2, none⟩) hg2]; exact h6
          go_wp2_with (go_at_call 36; refine (h36b _ ?hb).mono ?_)
          case hb => exact HW4.out.alloc HW4.out.size _
          rintro e w5 ⟨rfl, hb5⟩
          have HB5 := Any.hidJ (Tryz.bKeep (Tryz.bKeep HB4.out ((Below.refl _ wr).alloc (Nat.le_refl _) _)) hb5)
          have HW5 := Any.hidJ ((HW4.out.alloc HW4.out.size _).trans (hb5.mono (by simp; have := HW4.out.size; omega)))
          have hw5 : w1.heap.size ≤ w5.heap.size := by have h1 : w1.heap.size ≤ wr.heap.size := hw4; have h2 := hb5.size; simp at h2; omega
          clear hb5
          go_wp2_with (go_at_call 34; refine (Tryz.bWrite w1.heap.size w1.heap.size _ s2 _ HB5.out (by simp [Lib.byteCells_length]; have a1 : s1.data.size = s1.size := rfl; have a2 : s2.data.size = s2.size := rfl; have a3 : (⟨#[10]⟩ : ByteArray).size = 1 := rfl; omega) hw5).mono ?_)
          rintro e w6 ⟨rfl, h6, hb6⟩
          have e6 : Lib.byteCells ([83, 48, 58] ++ s1.data.toList) ++ Lib.strCells s2 = Lib.byteCells ([83, 48, 58] ++ s1.data.toList ++ s2.data.toList) := by rw [Lib.strCells_eq, ← Lib.byteCells_append]
          rw [e6] at h6
          have HB6 := Any.hidJ h6
          have HW6 := Any.hidJ (HW5.out.trans (hb6.mono (by omega)))
          have hw6 := Any.hidJ (Nat.le_trans hw5 hb6.size)
          clear h6 hb6 e6
          go_wp2
          exact ⟨⟨HW6, hw6, .inr <| .inr ⟨by go_num, HB6⟩⟩, by simp [intOf]⟩
        · go_wp2_with (go_at_call 34; refine (Tryz.bWrite w1.heap.size w1.heap.size (Lib.byteCells ([83, 48, 58] ++ s1.data.toList ++ s2.data.toList)) ⟨#[10]⟩ wr HB4.out (by simp [Lib.byteCells_length]; have a1 : s1.data.size = s1.size := rfl; have a2 : s2.data.size = s2.size := rfl; have a3 : (⟨#[10]⟩ : ByteArray).size = 1 := rfl; omega) hw4).mono ?_)
          rintro e w6 ⟨rfl, h6, hb6⟩
          have e6 : Lib.byteCells ([83, 48, 58] ++ s1.data.toList ++ s2.data.toList) ++ Lib.strCells ⟨#[10]⟩ = Lib.byteCells ([83, 48, 58] ++ s1.data.toList ++ s2.data.toList ++ [10]) := by rw [Lib.strCells_eq, ← Lib.byteCells_append]
          rw [e6] at h6
          have HB6 := Any.hidJ h6
          have HW6 := Any.hidJ (HW4.out.trans (hb6.mono (by have := H1.out.size; omega)))
          clear h6 hb6 e6
          go_wp2
          exact ⟨⟨HW6, .inr ⟨by go_num, HB6⟩⟩, by simp [intOf]⟩
    · have hBw : w1.heap.size ≤ wr.heap.size := by
        have : ∀ q x, Lib.BuilderAt 103 5 w1.heap.size w1.heap.size q x wr → w1.heap.size ≤ wr.heap.size := fun q x h => by
          obtain ⟨_, v, hb, _⟩ := h
          exact Nat.le_of_lt (Array.getElem?_eq_some_iff.1 hb).1
        exact HB.out.elim (this _ _) (this _ _)
      have hl : (Lib.byteCells ([83, 48, 58] ++ s1.data.toList ++ s2.data.toList ++ [10])).length ≤ 2004 := by simp [Lib.byteCells_length]; have a1 : s1.data.size = s1.size := rfl; have a2 : s2.data.size = s2.size := rfl; have a3 : (⟨#[10]⟩ : ByteArray).size = 1 := rfl; omega
      go_wp2_with (go_at_call 37; refine (Tryz.bLen w1.heap.size w1.heap.size (Lib.byteCells ([83, 48, 58] ++ s1.data.toList ++ s2.data.toList ++ [10])) wr HB.out).mono ?_)
      rintro e w2 ⟨rfl, rfl⟩
      have hl2 : ((Lib.byteCells ([83, 48, 58] ++ s1.data.toList ++ s2.data.toList ++ [10])).length : Int) ≤ 16384 := by omega
      generalize (Lib.byteCells ([83, 48, 58] ++ s1.data.toList ++ s2.data.toList ++ [10])).length = LL at hl hl2 ⊢
      go_wp2_with (go_at_call 38; refine (Tryz.bString w1.heap.size w1.heap.size ([83, 48, 58] ++ s1.data.toList ++ s2.data.toList ++ [10]) w2 HB.out hBw).mono ?_)
      rintro e w7 ⟨rfl, hb7⟩
      go_wp2
      go_ret2
      exact ⟨rfl, HW.out.trans (hb7.mono (by have := H1.out.size; omega))⟩
end Go.Proofs
end

section
/- The context of the round's program. Printed by a program: the slots that loops keep are those that are live at their heads. -/
open Go Go.Proofs Go.Sym
namespace T
def keepT : FuncId → Nat → List Nat := fun f r => match f, r with
  | 5, 3 => [2, 5, 12, 13, 14]
  | 5, 9 => [2, 5, 12, 13, 14, 26, 27, 28]
  | 5, 13 => [2, 5, 12, 13, 14, 26, 27, 28, 40, 41, 42]
  | 10, 19 => [5, 6, 10, 66, 67, 68]
  | 11, 19 => [5, 6, 10, 66, 67, 68]
  | 12, 4 => [2, 3, 17, 18]
  | 12, 9 => [2, 3, 5, 17, 18, 38, 39, 40]
  | 15, 3 => [1, 2, 5, 12, 13, 14]
  | 17, 6 => [1, 2, 4, 6, 7, 28, 29]
  | 17, 12 => [2, 4, 6, 7, 48, 49]
  | 17, 14 => [2, 4, 6, 7, 9, 48, 49]
  | 17, 20 => [2, 6, 12, 85, 86]
  | 17, 24 => [2, 6, 12, 13, 85, 86, 93, 94]
  | 18, 6 => [7, 19, 20, 21]
  | 18, 10 => [7, 19, 20, 21, 31, 32, 33]
  | 22, 8 => [3, 6, 29, 30, 31]
  | 22, 14 => [3, 6, 40, 41, 42]
  | 22, 20 => [6, 56, 57, 58]
  | 22, 23 => [6, 11, 56, 57, 58, 63, 64, 65]
  | 23, 6 => [5, 6, 9, 34, 35, 36]
  | 23, 23 => [5, 6, 9, 10, 12, 13, 34, 35, 36, 149, 150, 151]
  | 23, 39 => [6, 9, 235, 236, 237]
  | 23, 42 => [6, 9, 235, 236, 237, 241, 242, 243]
  | 24, 4 => [2, 3, 22, 23]
  | 25, 2 => [0, 1, 7, 8]
  | 26, 3 => [1, 5, 14, 15, 16]
  | 26, 7 => [1, 5, 7, 14, 15, 16, 36, 37, 38]
  | 26, 10 => [1, 5, 7, 14, 15, 16, 36, 37, 38, 43, 44, 45]
  | 26, 16 => [1, 5, 7, 14, 15, 16, 58, 59, 60]
  | 30, 5 => [1, 2, 3, 7, 8, 9, 27, 28, 29]
  | 32, 2 => [0, 1, 7, 8, 9]
  | 36, 3 => [1, 3, 16, 17, 18]
  | 44, 4 => [2, 3, 6]
  | 47, 3 => [1, 5, 11, 12, 13]
  | 48, 2 => [1, 7, 8, 9]
  | 51, 3 => [1, 3, 15, 16, 17]
  | 51, 7 => [1, 3, 5, 6, 7, 15, 16, 17]
  | 52, 2 => [1, 6, 7, 8]
  | 53, 26 => [2, 3, 5, 6]
  | 53, 38 => [5, 157, 158, 159]
  | 54, 3 => [1, 2, 6, 7, 18, 19, 20]
  | 54, 6 => [1, 2, 6, 7, 8, 18, 19, 20, 28, 29, 30]
  | 56, 3 => [0, 2, 5, 7, 8, 9, 27, 28]
  | 58, 3 => [1, 3, 5, 6, 7, 23, 24]
  | 59, 3 => [1, 5, 14, 15, 16]
  | 62, 5 => [1, 2, 3, 22, 23, 24]
  | 63, 5 => [3, 14, 15, 16]
  | 65, 3 => [1, 2, 5, 6]
  | 74, 12 => [0, 1, 5, 39, 40, 41]
  | 74, 22 => [1, 8, 63, 64, 65]
  | 80, 5 => [1, 3, 5, 6, 8, 29, 30]
  | 83, 3 => [1, 2, 6, 14, 15, 16]
  | 91, 5 => [1, 3, 26, 27, 28]
  | 91, 11 => [1, 3, 26, 27, 28, 42, 43, 44]
  | 91, 18 => [1, 3, 56, 57, 58]
  | 92, 3 => [1, 2, 7, 11, 12, 13]
  | 96, 2 => [1, 8, 9, 10]
  | 97, 2 => [1, 2, 10, 11, 12]
  | 97, 5 => [1, 2, 10, 11, 12, 21, 22, 23]
  | 99, 3 => [0, 2, 30, 31, 32]
  | 99, 9 => [0, 2, 49, 50, 51]
  | 99, 14 => [0, 2, 49, 50, 51, 72, 73, 74]
  | 100, 2 => [0, 2, 24, 25, 26]
  | 103, 2 => [1, 2, 3, 4, 13, 14, 15]
  | 104, 3 => [2, 3, 10, 11, 12]
  | 104, 7 => [2, 3, 6, 10, 11, 12, 16, 17, 18]
  | 105, 3 => [3, 9, 10, 11]
  | 106, 3 => [2, 3, 10, 11, 12]
  | 107, 3 => [2, 3, 18, 19, 20]
  | 108, 3 => [3, 6, 7, 8]
  | 109, 3 => [1, 4, 6, 7]
  | 110, 2 => [0, 1, 7, 8]
  | 112, 4 => [0, 1, 12, 13]
  | 113, 2 => [0, 1, 7, 8]
  | 114, 4 => [3, 16, 17, 18]
  | 114, 10 => [3, 27, 28, 29]
  | 116, 2 => [1, 6, 7, 8]
  | 123, 2 => [3, 6, 16, 17, 18]
  | 129, 4 => [0, 3]
  | 129, 9 => [0, 37, 38, 39]
  | 130, 2 => [1, 7, 8, 9]
  | 131, 2 => [0, 2, 3, 11, 12, 13]
  | 132, 5 => [3, 13, 14, 15]
  | 138, 1 => [0, 8, 9, 10]
  | 138, 4 => [0, 3, 8, 9, 10, 15, 16, 17]
  | 141, 1 => [0, 1, 4]
  | 142, 11 => [0, 1, 3, 4, 10, 11, 12, 13, 14, 15, 16]
  | 142, 18 => [0, 1, 3, 4, 10, 11, 12, 13, 17]
  | 144, 2 => [0, 1, 7, 8]
  | 149, 10 => [0, 2, 3, 5, 9, 95, 96, 97]
  | 150, 4 => [0, 18, 19]
  | 158, 1 => [0, 2, 3]
  | 161, 4 => [1, 20, 21, 22]
  | 161, 9 => [1, 20, 21, 22, 34, 35, 36]
  | 162, 4 => [1, 22, 23, 24]
  | 162, 9 => [1, 22, 23, 24, 31, 32, 33]
  | 163, 4 => [2, 41, 42, 43]
  | 164, 3 => [3, 7, 8, 9]
  | 169, 2 => [0, 1, 7, 8]
  | 175, 15 => [0, 1, 5, 6, 7, 8, 9, 10]
  | 179, 5 => [0, 1, 5, 6, 7, 8, 9]
  | 179, 11 => [0, 1, 5, 6, 7, 8, 10]
  | 181, 3 => [0, 4, 5]
  | 181, 8 => [4, 6, 7, 8]
  | 202, 3 => [1, 20, 21, 22]
  | 202, 7 => [1, 20, 21, 22, 35, 36, 37]
  | 206, 2 => [0, 1, 7, 8]
  | 210, 4 => [1, 20, 21, 22]
  | 211, 2 => [1, 7, 8, 9]
  | 214, 3 => [2, 41, 42, 43]
  | _, _ => []
def tzT : FuncId → Nat → List (Nat × Nat) := fun f r => match f, r with
  | 10, 19 => [(10, 16385)]
  | 11, 19 => [(10, 16385)]
  | 23, 23 => [(13, 3)]
  | 30, 5 => [(9, 3)]
  | 36, 3 => [(3, 1)]
  | 51, 3 => [(3, 23)]
  | 51, 7 => [(6, 90113)]
  | 62, 5 => [(3, 28673)]
  | 63, 5 => [(3, 2)]
  | 65, 3 => [(5, 1)]
  | 83, 3 => [(6, 3)]
  | 91, 5 => [(3, 1)]
  | 92, 3 => [(7, 22)]
  | 99, 3 => [(2, 1)]
  | 99, 9 => [(2, 1)]
  | 104, 3 => [(3, 1)]
  | 104, 7 => [(6, 3)]
  | 106, 3 => [(3, 4098)]
  | 107, 3 => [(3, 24583)]
  | 108, 3 => [(3, 19)]
  | 132, 5 => [(3, 2)]
  | _, _ => []
def modeT : FuncId → Nat → Nat := fun f r => match f, r with
  | 17, 26 => 2
  | 17, 83 => 2
  | 30, 7 => 5
  | 47, 10 => 3
  | 54, 15 => 2
  | 56, 14 => 1
  | 58, 12 => 1
  | 66, 24 => 1
  | 80, 13 => 1
  | 90, 7 => 3
  | 105, 8 => 1
  | _, _ => 0
def sepT : FuncId → Nat → List (Nat × Nat) := fun f r => match f, r with
  | 23, 11 => [(54, 66)]
  | 76, 1 => [(10, 22)]
  | _, _ => []
def cutT : FuncId → Nat → Bool := fun f r => match f, r with
  | 60, 13 => true
  | 99, 86 => true
  | 199, 113 => true
  | 214, 39 => true
  | 103, 31 => true
  | 103, 51 => true
  | 103, 62 => true
  | _, _ => false
def inL (f : FuncId) (l : List Nat) : Bool := l.contains f
theorem mode5 (f s : Nat) (h : (f == 30) = false) : (modeT f s == 5) = false := by
  simp at h
  unfold modeT
  split <;> simp_all
theorem k_5_3 : keepT 5 3 = [2, 5, 12, 13, 14] := Eq.trans rfl rfl
theorem k_5_9 : keepT 5 9 = [2, 5, 12, 13, 14, 26, 27, 28] := Eq.trans rfl rfl
theorem k_5_13 : keepT 5 13 = [2, 5, 12, 13, 14, 26, 27, 28, 40, 41, 42] := Eq.trans rfl rfl
theorem k_10_19 : keepT 10 19 = [5, 6, 10, 66, 67, 68] := Eq.trans rfl rfl
theorem k_11_19 : keepT 11 19 = [5, 6, 10, 66, 67, 68] := Eq.trans rfl rfl
theorem k_12_4 : keepT 12 4 = [2, 3, 17, 18] := Eq.trans rfl rfl
theorem k_12_9 : keepT 12 9 = [2, 3, 5, 17, 18, 38, 39, 40] := Eq.trans rfl rfl
theorem k_15_3 : keepT 15 3 = [1, 2, 5, 12, 13, 14] := Eq.trans rfl rfl
theorem k_17_6 : keepT 17 6 = [1, 2, 4, 6, 7, 28, 29] := Eq.trans rfl rfl
theorem k_17_12 : keepT 17 12 = [2, 4, 6, 7, 48, 49] := Eq.trans rfl rfl
theorem k_17_14 : keepT 17 14 = [2, 4, 6, 7, 9, 48, 49] := Eq.trans rfl rfl
theorem k_17_20 : keepT 17 20 = [2, 6, 12, 85, 86] := Eq.trans rfl rfl
theorem k_17_24 : keepT 17 24 = [2, 6, 12, 13, 85, 86, 93, 94] := Eq.trans rfl rfl
theorem k_18_6 : keepT 18 6 = [7, 19, 20, 21] := Eq.trans rfl rfl
theorem k_18_10 : keepT 18 10 = [7, 19, 20, 21, 31, 32, 33] := Eq.trans rfl rfl
theorem k_22_8 : keepT 22 8 = [3, 6, 29, 30, 31] := Eq.trans rfl rfl
theorem k_22_14 : keepT 22 14 = [3, 6, 40, 41, 42] := Eq.trans rfl rfl
theorem k_22_20 : keepT 22 20 = [6, 56, 57, 58] := Eq.trans rfl rfl
theorem k_22_23 : keepT 22 23 = [6, 11, 56, 57, 58, 63, 64, 65] := Eq.trans rfl rfl
theorem k_23_6 : keepT 23 6 = [5, 6, 9, 34, 35, 36] := Eq.trans rfl rfl
theorem k_23_23 : keepT 23 23 = [5, 6, 9, 10, 12, 13, 34, 35, 36, 149, 150, 151] := Eq.trans rfl rfl
theorem k_23_39 : keepT 23 39 = [6, 9, 235, 236, 237] := Eq.trans rfl rfl
theorem k_23_42 : keepT 23 42 = [6, 9, 235, 236, 237, 241, 242, 243] := Eq.trans rfl rfl
theorem k_24_4 : keepT 24 4 = [2, 3, 22, 23] := Eq.trans rfl rfl
theorem k_25_2 : keepT 25 2 = [0, 1, 7, 8] := Eq.trans rfl rfl
theorem k_26_3 : keepT 26 3 = [1, 5, 14, 15, 16] := Eq.trans rfl rfl
theorem k_26_7 : keepT 26 7 = [1, 5, 7, 14, 15, 16, 36, 37, 38] := Eq.trans rfl rfl
theorem k_26_10 : keepT 26 10 = [1, 5, 7, 14, 15, 16, 36, 37, 38, 43, 44, 45] := Eq.trans rfl rfl
theorem k_26_16 : keepT 26 16 = [1, 5, 7, 14, 15, 16, 58, 59, 60] := Eq.trans rfl rfl
theorem k_30_5 : keepT 30 5 = [1, 2, 3, 7, 8, 9, 27, 28, 29] := Eq.trans rfl rfl
theorem k_32_2 : keepT 32 2 = [0, 1, 7, 8, 9] := Eq.trans rfl rfl
theorem k_36_3 : keepT 36 3 = [1, 3, 16, 17, 18] := Eq.trans rfl rfl
theorem k_44_4 : keepT 44 4 = [2, 3, 6] := Eq.trans rfl rfl
theorem k_47_3 : keepT 47 3 = [1, 5, 11, 12, 13] := Eq.trans rfl rfl
theorem k_48_2 : keepT 48 2 = [1, 7, 8, 9] := Eq.trans rfl rfl
theorem k_51_3 : keepT 51 3 = [1, 3, 15, 16, 17] := Eq.trans rfl rfl
theorem k_51_7 : keepT 51 7 = [1, 3, 5, 6, 7, 15, 16, 17] := Eq.trans rfl rfl
theorem k_52_2 : keepT 52 2 = [1, 6, 7, 8] := Eq.trans rfl rfl
theorem k_53_26 : keepT 53 26 = [2, 3, 5, 6] := Eq.trans rfl rfl
theorem k_53_38 : keepT 53 38 = [5, 157, 158, 159] := Eq.trans rfl rfl
theorem k_54_3 : keepT 54 3 = [1, 2, 6, 7, 18, 19, 20] := Eq.trans rfl rfl
theorem k_54_6 : keepT 54 6 = [1, 2, 6, 7, 8, 18, 19, 20, 28, 29, 30] := Eq.trans rfl rfl
theorem k_56_3 : keepT 56 3 = [0, 2, 5, 7, 8, 9, 27, 28] := Eq.trans rfl rfl
theorem k_58_3 : keepT 58 3 = [1, 3, 5, 6, 7, 23, 24] := Eq.trans rfl rfl
theorem k_59_3 : keepT 59 3 = [1, 5, 14, 15, 16] := Eq.trans rfl rfl
theorem k_62_5 : keepT 62 5 = [1, 2, 3, 22, 23, 24] := Eq.trans rfl rfl
theorem k_63_5 : keepT 63 5 = [3, 14, 15, 16] := Eq.trans rfl rfl
theorem k_65_3 : keepT 65 3 = [1, 2, 5, 6] := Eq.trans rfl rfl
theorem k_74_12 : keepT 74 12 = [0, 1, 5, 39, 40, 41] := Eq.trans rfl rfl
theorem k_74_22 : keepT 74 22 = [1, 8, 63, 64, 65] := Eq.trans rfl rfl
theorem k_80_5 : keepT 80 5 = [1, 3, 5, 6, 8, 29, 30] := Eq.trans rfl rfl
theorem k_83_3 : keepT 83 3 = [1, 2, 6, 14, 15, 16] := Eq.trans rfl rfl
theorem k_91_5 : keepT 91 5 = [1, 3, 26, 27, 28] := Eq.trans rfl rfl
theorem k_91_11 : keepT 91 11 = [1, 3, 26, 27, 28, 42, 43, 44] := Eq.trans rfl rfl
theorem k_91_18 : keepT 91 18 = [1, 3, 56, 57, 58] := Eq.trans rfl rfl
theorem k_92_3 : keepT 92 3 = [1, 2, 7, 11, 12, 13] := Eq.trans rfl rfl
theorem k_96_2 : keepT 96 2 = [1, 8, 9, 10] := Eq.trans rfl rfl
theorem k_97_2 : keepT 97 2 = [1, 2, 10, 11, 12] := Eq.trans rfl rfl
theorem k_97_5 : keepT 97 5 = [1, 2, 10, 11, 12, 21, 22, 23] := Eq.trans rfl rfl
theorem k_99_3 : keepT 99 3 = [0, 2, 30, 31, 32] := Eq.trans rfl rfl
theorem k_99_9 : keepT 99 9 = [0, 2, 49, 50, 51] := Eq.trans rfl rfl
theorem k_99_14 : keepT 99 14 = [0, 2, 49, 50, 51, 72, 73, 74] := Eq.trans rfl rfl
theorem k_100_2 : keepT 100 2 = [0, 2, 24, 25, 26] := Eq.trans rfl rfl
theorem k_103_2 : keepT 103 2 = [1, 2, 3, 4, 13, 14, 15] := Eq.trans rfl rfl
theorem k_104_3 : keepT 104 3 = [2, 3, 10, 11, 12] := Eq.trans rfl rfl
theorem k_104_7 : keepT 104 7 = [2, 3, 6, 10, 11, 12, 16, 17, 18] := Eq.trans rfl rfl
theorem k_105_3 : keepT 105 3 = [3, 9, 10, 11] := Eq.trans rfl rfl
theorem k_106_3 : keepT 106 3 = [2, 3, 10, 11, 12] := Eq.trans rfl rfl
theorem k_107_3 : keepT 107 3 = [2, 3, 18, 19, 20] := Eq.trans rfl rfl
theorem k_108_3 : keepT 108 3 = [3, 6, 7, 8] := Eq.trans rfl rfl
theorem k_109_3 : keepT 109 3 = [1, 4, 6, 7] := Eq.trans rfl rfl
theorem k_110_2 : keepT 110 2 = [0, 1, 7, 8] := Eq.trans rfl rfl
theorem k_112_4 : keepT 112 4 = [0, 1, 12, 13] := Eq.trans rfl rfl
theorem k_113_2 : keepT 113 2 = [0, 1, 7, 8] := Eq.trans rfl rfl
theorem k_114_4 : keepT 114 4 = [3, 16, 17, 18] := Eq.trans rfl rfl
theorem k_114_10 : keepT 114 10 = [3, 27, 28, 29] := Eq.trans rfl rfl
theorem k_116_2 : keepT 116 2 = [1, 6, 7, 8] := Eq.trans rfl rfl
theorem k_123_2 : keepT 123 2 = [3, 6, 16, 17, 18] := Eq.trans rfl rfl
theorem k_129_4 : keepT 129 4 = [0, 3] := Eq.trans rfl rfl
theorem k_129_9 : keepT 129 9 = [0, 37, 38, 39] := Eq.trans rfl rfl
theorem k_130_2 : keepT 130 2 = [1, 7, 8, 9] := Eq.trans rfl rfl
theorem k_131_2 : keepT 131 2 = [0, 2, 3, 11, 12, 13] := Eq.trans rfl rfl
theorem k_132_5 : keepT 132 5 = [3, 13, 14, 15] := Eq.trans rfl rfl
theorem k_138_1 : keepT 138 1 = [0, 8, 9, 10] := Eq.trans rfl rfl
theorem k_138_4 : keepT 138 4 = [0, 3, 8, 9, 10, 15, 16, 17] := Eq.trans rfl rfl
theorem k_141_1 : keepT 141 1 = [0, 1, 4] := Eq.trans rfl rfl
theorem k_142_11 : keepT 142 11 = [0, 1, 3, 4, 10, 11, 12, 13, 14, 15, 16] := Eq.trans rfl rfl
theorem k_142_18 : keepT 142 18 = [0, 1, 3, 4, 10, 11, 12, 13, 17] := Eq.trans rfl rfl
theorem k_144_2 : keepT 144 2 = [0, 1, 7, 8] := Eq.trans rfl rfl
theorem k_149_10 : keepT 149 10 = [0, 2, 3, 5, 9, 95, 96, 97] := Eq.trans rfl rfl
theorem k_150_4 : keepT 150 4 = [0, 18, 19] := Eq.trans rfl rfl
theorem k_158_1 : keepT 158 1 = [0, 2, 3] := Eq.trans rfl rfl
theorem k_161_4 : keepT 161 4 = [1, 20, 21, 22] := Eq.trans rfl rfl
theorem k_161_9 : keepT 161 9 = [1, 20, 21, 22, 34, 35, 36] := Eq.trans rfl rfl
theorem k_162_4 : keepT 162 4 = [1, 22, 23, 24] := Eq.trans rfl rfl
theorem k_162_9 : keepT 162 9 = [1, 22, 23, 24, 31, 32, 33] := Eq.trans rfl rfl
theorem k_163_4 : keepT 163 4 = [2, 41, 42, 43] := Eq.trans rfl rfl
theorem k_164_3 : keepT 164 3 = [3, 7, 8, 9] := Eq.trans rfl rfl
theorem k_169_2 : keepT 169 2 = [0, 1, 7, 8] := Eq.trans rfl rfl
theorem k_175_15 : keepT 175 15 = [0, 1, 5, 6, 7, 8, 9, 10] := Eq.trans rfl rfl
theorem k_179_5 : keepT 179 5 = [0, 1, 5, 6, 7, 8, 9] := Eq.trans rfl rfl
theorem k_179_11 : keepT 179 11 = [0, 1, 5, 6, 7, 8, 10] := Eq.trans rfl rfl
theorem k_181_3 : keepT 181 3 = [0, 4, 5] := Eq.trans rfl rfl
theorem k_181_8 : keepT 181 8 = [4, 6, 7, 8] := Eq.trans rfl rfl
theorem k_202_3 : keepT 202 3 = [1, 20, 21, 22] := Eq.trans rfl rfl
theorem k_202_7 : keepT 202 7 = [1, 20, 21, 22, 35, 36, 37] := Eq.trans rfl rfl
theorem k_206_2 : keepT 206 2 = [0, 1, 7, 8] := Eq.trans rfl rfl
theorem k_210_4 : keepT 210 4 = [1, 20, 21, 22] := Eq.trans rfl rfl
theorem k_211_2 : keepT 211 2 = [1, 7, 8, 9] := Eq.trans rfl rfl
theorem k_214_3 : keepT 214 3 = [2, 41, 42, 43] := Eq.trans rfl rfl
theorem t_5_3 : tzT 5 3 = [] := Eq.trans rfl rfl
theorem t_5_9 : tzT 5 9 = [] := Eq.trans rfl rfl
theorem t_5_13 : tzT 5 13 = [] := Eq.trans rfl rfl
theorem t_10_19 : tzT 10 19 = [(10, 16385)] := Eq.trans rfl rfl
theorem t_11_19 : tzT 11 19 = [(10, 16385)] := Eq.trans rfl rfl
theorem t_12_4 : tzT 12 4 = [] := Eq.trans rfl rfl
theorem t_12_9 : tzT 12 9 = [] := Eq.trans rfl rfl
theorem t_15_3 : tzT 15 3 = [] := Eq.trans rfl rfl
theorem t_17_6 : tzT 17 6 = [] := Eq.trans rfl rfl
theorem t_17_12 : tzT 17 12 = [] := Eq.trans rfl rfl
theorem t_17_14 : tzT 17 14 = [] := Eq.trans rfl rfl
theorem t_17_20 : tzT 17 20 = [] := Eq.trans rfl rfl
theorem t_17_24 : tzT 17 24 = [] := Eq.trans rfl rfl
theorem t_18_6 : tzT 18 6 = [] := Eq.trans rfl rfl
theorem t_18_10 : tzT 18 10 = [] := Eq.trans rfl rfl
theorem t_22_8 : tzT 22 8 = [] := Eq.trans rfl rfl
theorem t_22_14 : tzT 22 14 = [] := Eq.trans rfl rfl
theorem t_22_20 : tzT 22 20 = [] := Eq.trans rfl rfl
theorem t_22_23 : tzT 22 23 = [] := Eq.trans rfl rfl
theorem t_23_6 : tzT 23 6 = [] := Eq.trans rfl rfl
theorem t_23_23 : tzT 23 23 = [(13, 3)] := Eq.trans rfl rfl
theorem t_23_39 : tzT 23 39 = [] := Eq.trans rfl rfl
theorem t_23_42 : tzT 23 42 = [] := Eq.trans rfl rfl
theorem t_24_4 : tzT 24 4 = [] := Eq.trans rfl rfl
theorem t_25_2 : tzT 25 2 = [] := Eq.trans rfl rfl
theorem t_26_3 : tzT 26 3 = [] := Eq.trans rfl rfl
theorem t_26_7 : tzT 26 7 = [] := Eq.trans rfl rfl
theorem t_26_10 : tzT 26 10 = [] := Eq.trans rfl rfl
theorem t_26_16 : tzT 26 16 = [] := Eq.trans rfl rfl
theorem t_30_5 : tzT 30 5 = [(9, 3)] := Eq.trans rfl rfl
theorem t_32_2 : tzT 32 2 = [] := Eq.trans rfl rfl
theorem t_36_3 : tzT 36 3 = [(3, 1)] := Eq.trans rfl rfl
theorem t_44_4 : tzT 44 4 = [] := Eq.trans rfl rfl
theorem t_47_3 : tzT 47 3 = [] := Eq.trans rfl rfl
theorem t_48_2 : tzT 48 2 = [] := Eq.trans rfl rfl
theorem t_51_3 : tzT 51 3 = [(3, 23)] := Eq.trans rfl rfl
theorem t_51_7 : tzT 51 7 = [(6, 90113)] := Eq.trans rfl rfl
theorem t_52_2 : tzT 52 2 = [] := Eq.trans rfl rfl
theorem t_53_26 : tzT 53 26 = [] := Eq.trans rfl rfl
theorem t_53_38 : tzT 53 38 = [] := Eq.trans rfl rfl
theorem t_54_3 : tzT 54 3 = [] := Eq.trans rfl rfl
theorem t_54_6 : tzT 54 6 = [] := Eq.trans rfl rfl
theorem t_56_3 : tzT 56 3 = [] := Eq.trans rfl rfl
theorem t_58_3 : tzT 58 3 = [] := Eq.trans rfl rfl
theorem t_59_3 : tzT 59 3 = [] := Eq.trans rfl rfl
theorem t_62_5 : tzT 62 5 = [(3, 28673)] := Eq.trans rfl rfl
theorem t_63_5 : tzT 63 5 = [(3, 2)] := Eq.trans rfl rfl
theorem t_65_3 : tzT 65 3 = [(5, 1)] := Eq.trans rfl rfl
theorem t_74_12 : tzT 74 12 = [] := Eq.trans rfl rfl
theorem t_74_22 : tzT 74 22 = [] := Eq.trans rfl rfl
theorem t_80_5 : tzT 80 5 = [] := Eq.trans rfl rfl
theorem t_83_3 : tzT 83 3 = [(6, 3)] := Eq.trans rfl rfl
theorem t_91_5 : tzT 91 5 = [(3, 1)] := Eq.trans rfl rfl
theorem t_91_11 : tzT 91 11 = [] := Eq.trans rfl rfl
theorem t_91_18 : tzT 91 18 = [] := Eq.trans rfl rfl
theorem t_92_3 : tzT 92 3 = [(7, 22)] := Eq.trans rfl rfl
theorem t_96_2 : tzT 96 2 = [] := Eq.trans rfl rfl
theorem t_97_2 : tzT 97 2 = [] := Eq.trans rfl rfl
theorem t_97_5 : tzT 97 5 = [] := Eq.trans rfl rfl
theorem t_99_3 : tzT 99 3 = [(2, 1)] := Eq.trans rfl rfl
theorem t_99_9 : tzT 99 9 = [(2, 1)] := Eq.trans rfl rfl
theorem t_99_14 : tzT 99 14 = [] := Eq.trans rfl rfl
theorem t_100_2 : tzT 100 2 = [] := Eq.trans rfl rfl
theorem t_103_2 : tzT 103 2 = [] := Eq.trans rfl rfl
theorem t_104_3 : tzT 104 3 = [(3, 1)] := Eq.trans rfl rfl
theorem t_104_7 : tzT 104 7 = [(6, 3)] := Eq.trans rfl rfl
theorem t_105_3 : tzT 105 3 = [] := Eq.trans rfl rfl
theorem t_106_3 : tzT 106 3 = [(3, 4098)] := Eq.trans rfl rfl
theorem t_107_3 : tzT 107 3 = [(3, 24583)] := Eq.trans rfl rfl
theorem t_108_3 : tzT 108 3 = [(3, 19)] := Eq.trans rfl rfl
theorem t_109_3 : tzT 109 3 = [] := Eq.trans rfl rfl
theorem t_110_2 : tzT 110 2 = [] := Eq.trans rfl rfl
theorem t_112_4 : tzT 112 4 = [] := Eq.trans rfl rfl
theorem t_113_2 : tzT 113 2 = [] := Eq.trans rfl rfl
theorem t_114_4 : tzT 114 4 = [] := Eq.trans rfl rfl
theorem t_114_10 : tzT 114 10 = [] := Eq.trans rfl rfl
theorem t_116_2 : tzT 116 2 = [] := Eq.trans rfl rfl
theorem t_123_2 : tzT 123 2 = [] := Eq.trans rfl rfl
theorem t_129_4 : tzT 129 4 = [] := Eq.trans rfl rfl
theorem t_129_9 : tzT 129 9 = [] := Eq.trans rfl rfl
theorem t_130_2 : tzT 130 2 = [] := Eq.trans rfl rfl
theorem t_131_2 : tzT 131 2 = [] := Eq.trans rfl rfl
theorem t_132_5 : tzT 132 5 = [(3, 2)] := Eq.trans rfl rfl
theorem t_138_1 : tzT 138 1 = [] := Eq.trans rfl rfl
theorem t_138_4 : tzT 138 4 = [] := Eq.trans rfl rfl
theorem t_141_1 : tzT 141 1 = [] := Eq.trans rfl rfl
theorem t_142_11 : tzT 142 11 = [] := Eq.trans rfl rfl
theorem t_142_18 : tzT 142 18 = [] := Eq.trans rfl rfl
theorem t_144_2 : tzT 144 2 = [] := Eq.trans rfl rfl
theorem t_149_10 : tzT 149 10 = [] := Eq.trans rfl rfl
theorem t_150_4 : tzT 150 4 = [] := Eq.trans rfl rfl
theorem t_158_1 : tzT 158 1 = [] := Eq.trans rfl rfl
theorem t_161_4 : tzT 161 4 = [] := Eq.trans rfl rfl
theorem t_161_9 : tzT 161 9 = [] := Eq.trans rfl rfl
theorem t_162_4 : tzT 162 4 = [] := Eq.trans rfl rfl
theorem t_162_9 : tzT 162 9 = [] := Eq.trans rfl rfl
theorem t_163_4 : tzT 163 4 = [] := Eq.trans rfl rfl
theorem t_164_3 : tzT 164 3 = [] := Eq.trans rfl rfl
theorem t_169_2 : tzT 169 2 = [] := Eq.trans rfl rfl
theorem t_175_15 : tzT 175 15 = [] := Eq.trans rfl rfl
theorem t_179_5 : tzT 179 5 = [] := Eq.trans rfl rfl
theorem t_179_11 : tzT 179 11 = [] := Eq.trans rfl rfl
theorem t_181_3 : tzT 181 3 = [] := Eq.trans rfl rfl
theorem t_181_8 : tzT 181 8 = [] := Eq.trans rfl rfl
theorem t_202_3 : tzT 202 3 = [] := Eq.trans rfl rfl
theorem t_202_7 : tzT 202 7 = [] := Eq.trans rfl rfl
theorem t_206_2 : tzT 206 2 = [] := Eq.trans rfl rfl
theorem t_210_4 : tzT 210 4 = [] := Eq.trans rfl rfl
theorem t_211_2 : tzT 211 2 = [] := Eq.trans rfl rfl
theorem t_214_3 : tzT 214 3 = [] := Eq.trans rfl rfl
attribute [simp] k_5_3 k_5_9 k_5_13 k_10_19 k_11_19 k_12_4 k_12_9 k_15_3 k_17_6 k_17_12 k_17_14 k_17_20
attribute [simp] k_17_24 k_18_6 k_18_10 k_22_8 k_22_14 k_22_20 k_22_23 k_23_6 k_23_23 k_23_39 k_23_42 k_24_4
attribute [simp] k_25_2 k_26_3 k_26_7 k_26_10 k_26_16 k_30_5 k_32_2 k_36_3 k_44_4 k_47_3 k_48_2 k_51_3
attribute [simp] k_51_7 k_52_2 k_53_26 k_53_38 k_54_3 k_54_6 k_56_3 k_58_3 k_59_3 k_62_5 k_63_5 k_65_3
attribute [simp] k_74_12 k_74_22 k_80_5 k_83_3 k_91_5 k_91_11 k_91_18 k_92_3 k_96_2 k_97_2 k_97_5 k_99_3
attribute [simp] k_99_9 k_99_14 k_100_2 k_103_2 k_104_3 k_104_7 k_105_3 k_106_3 k_107_3 k_108_3 k_109_3 k_110_2
attribute [simp] k_112_4 k_113_2 k_114_4 k_114_10 k_116_2 k_123_2 k_129_4 k_129_9 k_130_2 k_131_2 k_132_5 k_138_1
attribute [simp] k_138_4 k_141_1 k_142_11 k_142_18 k_144_2 k_149_10 k_150_4 k_158_1 k_161_4 k_161_9 k_162_4 k_162_9
attribute [simp] k_163_4 k_164_3 k_169_2 k_175_15 k_179_5 k_179_11 k_181_3 k_181_8 k_202_3 k_202_7 k_206_2 k_210_4
attribute [simp] k_211_2 k_214_3 t_5_3 t_5_9 t_5_13 t_10_19 t_11_19 t_12_4 t_12_9 t_15_3 t_17_6 t_17_12
attribute [simp] t_17_14 t_17_20 t_17_24 t_18_6 t_18_10 t_22_8 t_22_14 t_22_20 t_22_23 t_23_6 t_23_23 t_23_39
attribute [simp] t_23_42 t_24_4 t_25_2 t_26_3 t_26_7 t_26_10 t_26_16 t_30_5 t_32_2 t_36_3 t_44_4 t_47_3
attribute [simp] t_48_2 t_51_3 t_51_7 t_52_2 t_53_26 t_53_38 t_54_3 t_54_6 t_56_3 t_58_3 t_59_3 t_62_5
attribute [simp] t_63_5 t_65_3 t_74_12 t_74_22 t_80_5 t_83_3 t_91_5 t_91_11 t_91_18 t_92_3 t_96_2 t_97_2
attribute [simp] t_97_5 t_99_3 t_99_9 t_99_14 t_100_2 t_103_2 t_104_3 t_104_7 t_105_3 t_106_3 t_107_3 t_108_3
attribute [simp] t_109_3 t_110_2 t_112_4 t_113_2 t_114_4 t_114_10 t_116_2 t_123_2 t_129_4 t_129_9 t_130_2 t_131_2
attribute [simp] t_132_5 t_138_1 t_138_4 t_141_1 t_142_11 t_142_18 t_144_2 t_149_10 t_150_4 t_158_1 t_161_4 t_161_9
attribute [simp] t_162_4 t_162_9 t_163_4 t_164_3 t_169_2 t_175_15 t_179_5 t_179_11 t_181_3 t_181_8 t_202_3 t_202_7
attribute [simp] t_206_2 t_210_4 t_211_2 t_214_3
theorem m_10_82 : modeT 10 82 = 0 := Eq.trans rfl rfl
theorem m_11_82 : modeT 11 82 = 0 := Eq.trans rfl rfl
theorem m_17_26 : modeT 17 26 = 2 := Eq.trans rfl rfl
theorem m_17_78 : modeT 17 78 = 0 := Eq.trans rfl rfl
theorem m_17_83 : modeT 17 83 = 2 := Eq.trans rfl rfl
theorem m_17_113 : modeT 17 113 = 0 := Eq.trans rfl rfl
theorem m_23_143 : modeT 23 143 = 0 := Eq.trans rfl rfl
theorem m_23_160 : modeT 23 160 = 0 := Eq.trans rfl rfl
theorem m_23_169 : modeT 23 169 = 0 := Eq.trans rfl rfl
theorem m_23_179 : modeT 23 179 = 0 := Eq.trans rfl rfl
theorem m_23_188 : modeT 23 188 = 0 := Eq.trans rfl rfl
theorem m_23_194 : modeT 23 194 = 0 := Eq.trans rfl rfl
theorem m_23_203 : modeT 23 203 = 0 := Eq.trans rfl rfl
theorem m_23_212 : modeT 23 212 = 0 := Eq.trans rfl rfl
theorem m_23_221 : modeT 23 221 = 0 := Eq.trans rfl rfl
theorem m_23_231 : modeT 23 231 = 0 := Eq.trans rfl rfl
theorem m_29_33 : modeT 29 33 = 0 := Eq.trans rfl rfl
theorem m_30_53 : modeT 30 53 = 0 := Eq.trans rfl rfl
theorem m_30_60 : modeT 30 60 = 0 := Eq.trans rfl rfl
theorem m_31_18 : modeT 31 18 = 0 := Eq.trans rfl rfl
theorem m_34_14 : modeT 34 14 = 0 := Eq.trans rfl rfl
theorem m_36_11 : modeT 36 11 = 0 := Eq.trans rfl rfl
theorem m_36_16 : modeT 36 16 = 0 := Eq.trans rfl rfl
theorem m_36_26 : modeT 36 26 = 0 := Eq.trans rfl rfl
theorem m_47_10 : modeT 47 10 = 3 := Eq.trans rfl rfl
theorem m_49_7 : modeT 49 7 = 0 := Eq.trans rfl rfl
theorem m_51_53 : modeT 51 53 = 0 := Eq.trans rfl rfl
theorem m_51_58 : modeT 51 58 = 0 := Eq.trans rfl rfl
theorem m_54_15 : modeT 54 15 = 2 := Eq.trans rfl rfl
theorem m_54_46 : modeT 54 46 = 0 := Eq.trans rfl rfl
theorem m_54_55 : modeT 54 55 = 0 := Eq.trans rfl rfl
theorem m_56_14 : modeT 56 14 = 1 := Eq.trans rfl rfl
theorem m_58_12 : modeT 58 12 = 1 := Eq.trans rfl rfl
theorem m_62_34 : modeT 62 34 = 0 := Eq.trans rfl rfl
theorem m_63_23 : modeT 63 23 = 0 := Eq.trans rfl rfl
theorem m_65_34 : modeT 65 34 = 0 := Eq.trans rfl rfl
theorem m_66_24 : modeT 66 24 = 1 := Eq.trans rfl rfl
theorem m_80_13 : modeT 80 13 = 1 := Eq.trans rfl rfl
theorem m_81_26 : modeT 81 26 = 0 := Eq.trans rfl rfl
theorem m_83_27 : modeT 83 27 = 0 := Eq.trans rfl rfl
theorem m_84_25 : modeT 84 25 = 0 := Eq.trans rfl rfl
theorem m_84_40 : modeT 84 40 = 0 := Eq.trans rfl rfl
theorem m_86_15 : modeT 86 15 = 0 := Eq.trans rfl rfl
theorem m_89_26 : modeT 89 26 = 0 := Eq.trans rfl rfl
theorem m_90_7 : modeT 90 7 = 3 := Eq.trans rfl rfl
theorem m_91_24 : modeT 91 24 = 0 := Eq.trans rfl rfl
theorem m_91_36 : modeT 91 36 = 0 := Eq.trans rfl rfl
theorem m_92_20 : modeT 92 20 = 0 := Eq.trans rfl rfl
theorem m_92_23 : modeT 92 23 = 0 := Eq.trans rfl rfl
theorem m_92_43 : modeT 92 43 = 0 := Eq.trans rfl rfl
theorem m_92_45 : modeT 92 45 = 0 := Eq.trans rfl rfl
theorem m_92_48 : modeT 92 48 = 0 := Eq.trans rfl rfl
theorem m_92_52 : modeT 92 52 = 0 := Eq.trans rfl rfl
theorem m_92_54 : modeT 92 54 = 0 := Eq.trans rfl rfl
theorem m_92_62 : modeT 92 62 = 0 := Eq.trans rfl rfl
theorem m_92_64 : modeT 92 64 = 0 := Eq.trans rfl rfl
theorem m_92_67 : modeT 92 67 = 0 := Eq.trans rfl rfl
theorem m_92_73 : modeT 92 73 = 0 := Eq.trans rfl rfl
theorem m_92_75 : modeT 92 75 = 0 := Eq.trans rfl rfl
theorem m_92_78 : modeT 92 78 = 0 := Eq.trans rfl rfl
theorem m_92_35 : modeT 92 35 = 0 := Eq.trans rfl rfl
theorem m_93_55 : modeT 93 55 = 0 := Eq.trans rfl rfl
theorem m_93_59 : modeT 93 59 = 0 := Eq.trans rfl rfl
theorem m_99_43 : modeT 99 43 = 0 := Eq.trans rfl rfl
theorem m_99_70 : modeT 99 70 = 0 := Eq.trans rfl rfl
theorem m_101_7 : modeT 101 7 = 0 := Eq.trans rfl rfl
theorem m_103_24 : modeT 103 24 = 0 := Eq.trans rfl rfl
theorem m_103_42 : modeT 103 42 = 0 := Eq.trans rfl rfl
theorem m_103_49 : modeT 103 49 = 0 := Eq.trans rfl rfl
theorem m_103_60 : modeT 103 60 = 0 := Eq.trans rfl rfl
theorem m_104_30 : modeT 104 30 = 0 := Eq.trans rfl rfl
theorem m_104_36 : modeT 104 36 = 0 := Eq.trans rfl rfl
theorem m_105_8 : modeT 105 8 = 1 := Eq.trans rfl rfl
theorem m_106_21 : modeT 106 21 = 0 := Eq.trans rfl rfl
theorem m_107_29 : modeT 107 29 = 0 := Eq.trans rfl rfl
theorem m_108_16 : modeT 108 16 = 0 := Eq.trans rfl rfl
theorem m_123_16 : modeT 123 16 = 0 := Eq.trans rfl rfl
theorem m_132_22 : modeT 132 22 = 0 := Eq.trans rfl rfl
theorem m_142_98 : modeT 142 98 = 0 := Eq.trans rfl rfl
theorem m_149_174 : modeT 149 174 = 0 := Eq.trans rfl rfl
theorem m_149_178 : modeT 149 178 = 0 := Eq.trans rfl rfl
theorem m_199_112 : modeT 199 112 = 0 := Eq.trans rfl rfl
attribute [simp] m_10_82 m_11_82 m_17_26 m_17_78 m_17_83 m_17_113 m_23_143 m_23_160 m_23_169 m_23_179 m_23_188 m_23_194
attribute [simp] m_23_203 m_23_212 m_23_221 m_23_231 m_29_33 m_30_53 m_30_60 m_31_18 m_34_14 m_36_11 m_36_16 m_36_26
attribute [simp] m_47_10 m_49_7 m_51_53 m_51_58 m_54_15 m_54_46 m_54_55 m_56_14 m_58_12 m_62_34 m_63_23 m_65_34
attribute [simp] m_66_24 m_80_13 m_81_26 m_83_27 m_84_25 m_84_40 m_86_15 m_89_26 m_90_7 m_91_24 m_91_36 m_92_20
attribute [simp] m_92_23 m_92_43 m_92_45 m_92_48 m_92_52 m_92_54 m_92_62 m_92_64 m_92_67 m_92_73 m_92_75 m_92_78
attribute [simp] m_92_35 m_93_55 m_93_59 m_99_43 m_99_70 m_101_7 m_103_24 m_103_42 m_103_49 m_103_60 m_104_30 m_104_36
attribute [simp] m_105_8 m_106_21 m_107_29 m_108_16 m_123_16 m_132_22 m_142_98 m_149_174 m_149_178 m_199_112
theorem s_3_3 : sepT 3 3 = [] := Eq.trans rfl rfl
theorem s_3_5 : sepT 3 5 = [] := Eq.trans rfl rfl
theorem s_3_7 : sepT 3 7 = [] := Eq.trans rfl rfl
theorem s_4_3 : sepT 4 3 = [] := Eq.trans rfl rfl
theorem s_4_4 : sepT 4 4 = [] := Eq.trans rfl rfl
theorem s_7_6 : sepT 7 6 = [] := Eq.trans rfl rfl
theorem s_10_21 : sepT 10 21 = [] := Eq.trans rfl rfl
theorem s_11_21 : sepT 11 21 = [] := Eq.trans rfl rfl
theorem s_12_6 : sepT 12 6 = [] := Eq.trans rfl rfl
theorem s_12_11 : sepT 12 11 = [] := Eq.trans rfl rfl
theorem s_16_3 : sepT 16 3 = [] := Eq.trans rfl rfl
theorem s_17_16 : sepT 17 16 = [] := Eq.trans rfl rfl
theorem s_17_26 : sepT 17 26 = [] := Eq.trans rfl rfl
theorem s_19_5 : sepT 19 5 = [] := Eq.trans rfl rfl
theorem s_22_27 : sepT 22 27 = [] := Eq.trans rfl rfl
theorem s_23_4 : sepT 23 4 = [] := Eq.trans rfl rfl
theorem s_23_11 : sepT 23 11 = [(54, 66)] := Eq.trans rfl rfl
theorem s_23_13 : sepT 23 13 = [] := Eq.trans rfl rfl
theorem s_23_16 : sepT 23 16 = [] := Eq.trans rfl rfl
theorem s_23_18 : sepT 23 18 = [] := Eq.trans rfl rfl
theorem s_23_25 : sepT 23 25 = [] := Eq.trans rfl rfl
theorem s_23_27 : sepT 23 27 = [] := Eq.trans rfl rfl
theorem s_23_31 : sepT 23 31 = [] := Eq.trans rfl rfl
theorem s_23_32 : sepT 23 32 = [] := Eq.trans rfl rfl
theorem s_23_36 : sepT 23 36 = [] := Eq.trans rfl rfl
theorem s_24_6 : sepT 24 6 = [] := Eq.trans rfl rfl
theorem s_25_4 : sepT 25 4 = [] := Eq.trans rfl rfl
theorem s_25_6 : sepT 25 6 = [] := Eq.trans rfl rfl
theorem s_26_5 : sepT 26 5 = [] := Eq.trans rfl rfl
theorem s_29_8 : sepT 29 8 = [] := Eq.trans rfl rfl
theorem s_30_4 : sepT 30 4 = [] := Eq.trans rfl rfl
theorem s_30_8 : sepT 30 8 = [] := Eq.trans rfl rfl
theorem s_32_4 : sepT 32 4 = [] := Eq.trans rfl rfl
theorem s_36_2 : sepT 36 2 = [] := Eq.trans rfl rfl
theorem s_38_1 : sepT 38 1 = [] := Eq.trans rfl rfl
theorem s_48_4 : sepT 48 4 = [] := Eq.trans rfl rfl
theorem s_51_9 : sepT 51 9 = [] := Eq.trans rfl rfl
theorem s_51_11 : sepT 51 11 = [] := Eq.trans rfl rfl
theorem s_54_8 : sepT 54 8 = [] := Eq.trans rfl rfl
theorem s_56_1 : sepT 56 1 = [] := Eq.trans rfl rfl
theorem s_56_5 : sepT 56 5 = [] := Eq.trans rfl rfl
theorem s_58_1 : sepT 58 1 = [] := Eq.trans rfl rfl
theorem s_58_5 : sepT 58 5 = [] := Eq.trans rfl rfl
theorem s_60_4 : sepT 60 4 = [] := Eq.trans rfl rfl
theorem s_62_2 : sepT 62 2 = [] := Eq.trans rfl rfl
theorem s_62_7 : sepT 62 7 = [] := Eq.trans rfl rfl
theorem s_62_9 : sepT 62 9 = [] := Eq.trans rfl rfl
theorem s_62_10 : sepT 62 10 = [] := Eq.trans rfl rfl
theorem s_65_5 : sepT 65 5 = [] := Eq.trans rfl rfl
theorem s_71_12 : sepT 71 12 = [] := Eq.trans rfl rfl
theorem s_76_1 : sepT 76 1 = [(10, 22)] := Eq.trans rfl rfl
theorem s_79_1 : sepT 79 1 = [] := Eq.trans rfl rfl
theorem s_80_7 : sepT 80 7 = [] := Eq.trans rfl rfl
theorem s_80_10 : sepT 80 10 = [] := Eq.trans rfl rfl
theorem s_81_3 : sepT 81 3 = [] := Eq.trans rfl rfl
theorem s_81_4 : sepT 81 4 = [] := Eq.trans rfl rfl
theorem s_82_1 : sepT 82 1 = [] := Eq.trans rfl rfl
theorem s_84_11 : sepT 84 11 = [] := Eq.trans rfl rfl
theorem s_84_15 : sepT 84 15 = [] := Eq.trans rfl rfl
theorem s_86_1 : sepT 86 1 = [] := Eq.trans rfl rfl
theorem s_89_5 : sepT 89 5 = [] := Eq.trans rfl rfl
theorem s_92_9 : sepT 92 9 = [] := Eq.trans rfl rfl
theorem s_92_11 : sepT 92 11 = [] := Eq.trans rfl rfl
theorem s_92_12 : sepT 92 12 = [] := Eq.trans rfl rfl
theorem s_92_7 : sepT 92 7 = [] := Eq.trans rfl rfl
theorem s_93_7 : sepT 93 7 = [] := Eq.trans rfl rfl
theorem s_93_9 : sepT 93 9 = [] := Eq.trans rfl rfl
theorem s_93_11 : sepT 93 11 = [] := Eq.trans rfl rfl
theorem s_99_16 : sepT 99 16 = [] := Eq.trans rfl rfl
theorem s_103_5 : sepT 103 5 = [] := Eq.trans rfl rfl
theorem s_103_9 : sepT 103 9 = [] := Eq.trans rfl rfl
theorem s_103_10 : sepT 103 10 = [] := Eq.trans rfl rfl
theorem s_104_9 : sepT 104 9 = [] := Eq.trans rfl rfl
theorem s_105_5 : sepT 105 5 = [] := Eq.trans rfl rfl
theorem s_106_5 : sepT 106 5 = [] := Eq.trans rfl rfl
theorem s_107_1 : sepT 107 1 = [] := Eq.trans rfl rfl
theorem s_107_5 : sepT 107 5 = [] := Eq.trans rfl rfl
theorem s_111_1 : sepT 111 1 = [] := Eq.trans rfl rfl
theorem s_112_6 : sepT 112 6 = [] := Eq.trans rfl rfl
theorem s_119_3 : sepT 119 3 = [] := Eq.trans rfl rfl
theorem s_122_3 : sepT 122 3 = [] := Eq.trans rfl rfl
theorem s_123_1 : sepT 123 1 = [] := Eq.trans rfl rfl
theorem s_123_7 : sepT 123 7 = [] := Eq.trans rfl rfl
theorem s_137_1 : sepT 137 1 = [] := Eq.trans rfl rfl
theorem s_141_7 : sepT 141 7 = [] := Eq.trans rfl rfl
theorem s_141_8 : sepT 141 8 = [] := Eq.trans rfl rfl
theorem s_141_9 : sepT 141 9 = [] := Eq.trans rfl rfl
theorem s_141_10 : sepT 141 10 = [] := Eq.trans rfl rfl
theorem s_141_17 : sepT 141 17 = [] := Eq.trans rfl rfl
theorem s_141_18 : sepT 141 18 = [] := Eq.trans rfl rfl
theorem s_141_23 : sepT 141 23 = [] := Eq.trans rfl rfl
theorem s_143_0 : sepT 143 0 = [] := Eq.trans rfl rfl
theorem s_149_19 : sepT 149 19 = [] := Eq.trans rfl rfl
theorem s_158_3 : sepT 158 3 = [] := Eq.trans rfl rfl
theorem s_163_1 : sepT 163 1 = [] := Eq.trans rfl rfl
theorem s_199_8 : sepT 199 8 = [] := Eq.trans rfl rfl
theorem s_214_1 : sepT 214 1 = [] := Eq.trans rfl rfl
theorem c_3_31 : cutT 3 31 = false := Eq.trans rfl rfl
theorem c_3_32 : cutT 3 32 = false := Eq.trans rfl rfl
theorem c_3_46 : cutT 3 46 = false := Eq.trans rfl rfl
theorem c_3_47 : cutT 3 47 = false := Eq.trans rfl rfl
theorem c_3_63 : cutT 3 63 = false := Eq.trans rfl rfl
theorem c_3_72 : cutT 3 72 = false := Eq.trans rfl rfl
theorem c_3_74 : cutT 3 74 = false := Eq.trans rfl rfl
theorem c_3_77 : cutT 3 77 = false := Eq.trans rfl rfl
theorem c_4_35 : cutT 4 35 = false := Eq.trans rfl rfl
theorem c_4_36 : cutT 4 36 = false := Eq.trans rfl rfl
theorem c_4_43 : cutT 4 43 = false := Eq.trans rfl rfl
theorem c_4_44 : cutT 4 44 = false := Eq.trans rfl rfl
theorem c_7_31 : cutT 7 31 = false := Eq.trans rfl rfl
theorem c_7_37 : cutT 7 37 = false := Eq.trans rfl rfl
theorem c_12_69 : cutT 12 69 = false := Eq.trans rfl rfl
theorem c_16_14 : cutT 16 14 = false := Eq.trans rfl rfl
theorem c_16_17 : cutT 16 17 = false := Eq.trans rfl rfl
theorem c_16_18 : cutT 16 18 = false := Eq.trans rfl rfl
theorem c_19_23 : cutT 19 23 = false := Eq.trans rfl rfl
theorem c_23_31 : cutT 23 31 = false := Eq.trans rfl rfl
theorem c_23_32 : cutT 23 32 = false := Eq.trans rfl rfl
theorem c_23_85 : cutT 23 85 = false := Eq.trans rfl rfl
theorem c_23_109 : cutT 23 109 = false := Eq.trans rfl rfl
theorem c_23_133 : cutT 23 133 = false := Eq.trans rfl rfl
theorem c_26_29 : cutT 26 29 = false := Eq.trans rfl rfl
theorem c_29_26 : cutT 29 26 = false := Eq.trans rfl rfl
theorem c_29_30 : cutT 29 30 = false := Eq.trans rfl rfl
theorem c_30_27 : cutT 30 27 = false := Eq.trans rfl rfl
theorem c_30_48 : cutT 30 48 = false := Eq.trans rfl rfl
theorem c_30_49 : cutT 30 49 = false := Eq.trans rfl rfl
theorem c_32_35 : cutT 32 35 = false := Eq.trans rfl rfl
theorem c_48_19 : cutT 48 19 = false := Eq.trans rfl rfl
theorem c_51_39 : cutT 51 39 = false := Eq.trans rfl rfl
theorem c_58_18 : cutT 58 18 = false := Eq.trans rfl rfl
theorem c_58_41 : cutT 58 41 = false := Eq.trans rfl rfl
theorem c_60_12 : cutT 60 12 = false := Eq.trans rfl rfl
theorem c_60_13 : cutT 60 13 = true := Eq.trans rfl rfl
theorem c_62_9 : cutT 62 9 = false := Eq.trans rfl rfl
theorem c_62_12 : cutT 62 12 = false := Eq.trans rfl rfl
theorem c_62_32 : cutT 62 32 = false := Eq.trans rfl rfl
theorem c_62_40 : cutT 62 40 = false := Eq.trans rfl rfl
theorem c_62_43 : cutT 62 43 = false := Eq.trans rfl rfl
theorem c_62_48 : cutT 62 48 = false := Eq.trans rfl rfl
theorem c_62_51 : cutT 62 51 = false := Eq.trans rfl rfl
theorem c_65_20 : cutT 65 20 = false := Eq.trans rfl rfl
theorem c_79_19 : cutT 79 19 = false := Eq.trans rfl rfl
theorem c_80_61 : cutT 80 61 = false := Eq.trans rfl rfl
theorem c_81_43 : cutT 81 43 = false := Eq.trans rfl rfl
theorem c_82_21 : cutT 82 21 = false := Eq.trans rfl rfl
theorem c_92_32 : cutT 92 32 = false := Eq.trans rfl rfl
theorem c_92_53 : cutT 92 53 = false := Eq.trans rfl rfl
theorem c_92_66 : cutT 92 66 = false := Eq.trans rfl rfl
theorem c_92_77 : cutT 92 77 = false := Eq.trans rfl rfl
theorem c_93_60 : cutT 93 60 = false := Eq.trans rfl rfl
theorem c_93_79 : cutT 93 79 = false := Eq.trans rfl rfl
theorem c_93_98 : cutT 93 98 = false := Eq.trans rfl rfl
theorem c_99_85 : cutT 99 85 = false := Eq.trans rfl rfl
theorem c_99_86 : cutT 99 86 = true := Eq.trans rfl rfl
theorem c_103_28 : cutT 103 28 = false := Eq.trans rfl rfl
theorem c_103_31 : cutT 103 31 = true := Eq.trans rfl rfl
theorem c_103_38 : cutT 103 38 = false := Eq.trans rfl rfl
theorem c_103_47 : cutT 103 47 = false := Eq.trans rfl rfl
theorem c_103_51 : cutT 103 51 = true := Eq.trans rfl rfl
theorem c_103_58 : cutT 103 58 = false := Eq.trans rfl rfl
theorem c_103_62 : cutT 103 62 = true := Eq.trans rfl rfl
theorem c_104_25 : cutT 104 25 = false := Eq.trans rfl rfl
theorem c_105_25 : cutT 105 25 = false := Eq.trans rfl rfl
theorem c_106_19 : cutT 106 19 = false := Eq.trans rfl rfl
theorem c_107_12 : cutT 107 12 = false := Eq.trans rfl rfl
theorem c_107_15 : cutT 107 15 = false := Eq.trans rfl rfl
theorem c_107_27 : cutT 107 27 = false := Eq.trans rfl rfl
theorem c_111_17 : cutT 111 17 = false := Eq.trans rfl rfl
theorem c_123_12 : cutT 123 12 = false := Eq.trans rfl rfl
theorem c_123_28 : cutT 123 28 = false := Eq.trans rfl rfl
theorem c_137_5 : cutT 137 5 = false := Eq.trans rfl rfl
theorem c_143_13 : cutT 143 13 = false := Eq.trans rfl rfl
theorem c_149_181 : cutT 149 181 = false := Eq.trans rfl rfl
theorem c_199_108 : cutT 199 108 = false := Eq.trans rfl rfl
theorem c_199_113 : cutT 199 113 = true := Eq.trans rfl rfl
theorem c_214_39 : cutT 214 39 = true := Eq.trans rfl rfl
attribute [simp] s_3_3 s_3_5 s_3_7 s_4_3 s_4_4 s_7_6 s_10_21 s_11_21 s_12_6 s_12_11 s_16_3 s_17_16
attribute [simp] s_17_26 s_19_5 s_22_27 s_23_4 s_23_11 s_23_13 s_23_16 s_23_18 s_23_25 s_23_27 s_23_31 s_23_32
attribute [simp] s_23_36 s_24_6 s_25_4 s_25_6 s_26_5 s_29_8 s_30_4 s_30_8 s_32_4 s_36_2 s_38_1 s_48_4
attribute [simp] s_51_9 s_51_11 s_54_8 s_56_1 s_56_5 s_58_1 s_58_5 s_60_4 s_62_2 s_62_7 s_62_9 s_62_10
attribute [simp] s_65_5 s_71_12 s_76_1 s_79_1 s_80_7 s_80_10 s_81_3 s_81_4 s_82_1 s_84_11 s_84_15 s_86_1
attribute [simp] s_89_5 s_92_9 s_92_11 s_92_12 s_92_7 s_93_7 s_93_9 s_93_11 s_99_16 s_103_5 s_103_9 s_103_10
attribute [simp] s_104_9 s_105_5 s_106_5 s_107_1 s_107_5 s_111_1 s_112_6 s_119_3 s_122_3 s_123_1 s_123_7 s_137_1
attribute [simp] s_141_7 s_141_8 s_141_9 s_141_10 s_141_17 s_141_18 s_141_23 s_143_0 s_149_19 s_158_3 s_163_1 s_199_8
attribute [simp] s_214_1 c_3_31 c_3_32 c_3_46 c_3_47 c_3_63 c_3_72 c_3_74 c_3_77 c_4_35 c_4_36 c_4_43
attribute [simp] c_4_44 c_7_31 c_7_37 c_12_69 c_16_14 c_16_17 c_16_18 c_19_23 c_23_31 c_23_32 c_23_85 c_23_109
attribute [simp] c_23_133 c_26_29 c_29_26 c_29_30 c_30_27 c_30_48 c_30_49 c_32_35 c_48_19 c_51_39 c_58_18 c_58_41
attribute [simp] c_60_12 c_60_13 c_62_9 c_62_12 c_62_32 c_62_40 c_62_43 c_62_48 c_62_51 c_65_20 c_79_19 c_80_61
attribute [simp] c_81_43 c_82_21 c_92_32 c_92_53 c_92_66 c_92_77 c_93_60 c_93_79 c_93_98 c_99_85 c_99_86 c_103_28
attribute [simp] c_103_31 c_103_38 c_103_47 c_103_51 c_103_58 c_103_62 c_104_25 c_105_25 c_106_19 c_107_12 c_107_15 c_107_27
attribute [simp] c_111_17 c_123_12 c_123_28 c_137_5 c_143_13 c_149_181 c_199_108 c_199_113 c_214_39
end T
end

section
/- The context, and that it is sound. -/
open Go Go.Proofs Go.Sym
namespace T
def cloneF (n : Nat) : List AV → Option IRes
  | [.lst sz rows .no] => if sz = szOf n rows ∧ rows.length ≤ 1073741824 then some (.own n rows) else none
  | _ => none
def shareT : FuncId → List AV → Bool
  | 90, [.lst _ (_ :: _) _] => true
  | f, _ => inL f [48, 61, 76, 79, 81, 82, 83, 84, 86, 88, 89, 115, 122, 200, 206]
noncomputable def okR (f : FuncId) (ps : List Tmp) (a bd : Code) : Bool := inL f [29, 71] && okRange (sepT f) (cutT f) (ntOf Tryz.prog f) ps a bd
noncomputable def X0 : Ctx := { P := Tryz.prog, mode := fun f s => if f = 90 then 0 else modeT f s, keep := keepT, tz := tzT, own := fun f => inL f [30], prim := fun _ => none, sprim := fun _ => none, share := fun _ _ => false, raw := fun _ => false, sep := sepT, cut := cutT, rng := fun f => inL f [29, 71], dfr := fun f => inL f [60], rok := okR, has := fun _ => true }
def primT1 (g : FuncId) : Option (List AV → Option IRes) := match g with | 49 => some (cloneF 1) | 90 => some (cloneF 3) | 101 => some (cloneF 1) | 168 => some containsF | 35 => some itoaF | 74 => some joinF | _ => none
/-- slices.Insert at rows, the empty slice of a clone too. -/
def insE : List AV → List Blk → List Nat → Option (Res × List Blk × List Nat)
  | [.lst 3 [] (.tok t), .int .i64 i, .lst 3 vs .exact], H, K => if i = 0 ∧ K[t]? = some 0 ∧ 0 < vs.length ∧ vs.length ≤ 1073741824 then some (.ret (.lst 3 vs (.tok t)), H, K.set t vs.length) else none
  | args, H, K => insF args H K
def sprimT (g : FuncId) : Option (List AV → List Blk → List Nat → Option (Res × List Blk × List Nat)) := match g with | 84 => some insE | 89 => some delF | _ => none
noncomputable def X1 : Ctx := { X0 with
  mode := modeT, share := shareT, raw := fun f => inL f [61, 90, 115],
  prim := primT1, sprim := sprimT }
/-- sched.Text at a schedule of one statement with two rows. -/
def ret0 : Option (Res × List Blk × List Nat) → Bool
  | some (.ret (.int .i64 n), _, _) => n == 0
  | _ => false
def retS : Option (Res × List Blk × List Nat) → Option ByteArray
  | some (.ret (.str s), _, _) => some s
  | _ => none
noncomputable def textF : List AV → Option IRes
  | [.agg [a, b, c], .agg [.lst 1 [[.lst 3 [[.lst z1 q1 .no, .int .i64 k1, .int .i64 d1], [.lst z2 q2 .no, .int .i64 k2, .int .i64 d2]] .no]] .no]] =>
    if ret0 (callN X1 800 33 [.agg [a, b, c], .agg [.lst 1 [[.lst 3 [[.lst z1 q1 .no, .int .i64 k1, .int .i64 d1], [.lst z2 q2 .no, .int .i64 k2, .int .i64 d2]] .no]] .no]] [] []) = true then
      ob (retS (callN X1 800 36 [.agg [.lst z1 q1 .no, .int .i64 k1, .int .i64 d1]] [] [])) fun s1 =>
      ob (retS (callN X1 800 36 [.agg [.lst z2 q2 .no, .int .i64 k2, .int .i64 d2]] [] [])) fun s2 =>
      if s1.size ≤ 1000 ∧ s2.size ≤ 1000 then some (.ret (.tup [.str ⟨(83 :: 48 :: 58 :: (s1.data.toList ++ (s2.data.toList ++ [10]))).toArray⟩, .int .i64 0])) else none
    else none
  | _ => none
noncomputable def primT (g : FuncId) : Option (List AV → Option IRes) := if g = 18 then some textF else primT1 g
noncomputable def X : Ctx := { X1 with prim := primT }
theorem namesAll : Tryz.prog.funcs.all (fun fn => !(fn.name == "runtime.NumGoroutine")) = true := by kernel_rfl
theorem progOK : ProgOK Tryz.prog := ⟨fun g fn h => by
  have := Array.all_eq_true.1 namesAll g (Array.getElem?_eq_some_iff.1 h).1
  rw [(Array.getElem?_eq_some_iff.1 h).2] at this
  simpa using this, by kernel_rfl⟩
def okF (fn : Func) (g : Nat) : Bool := match fn.body with | some c => okCode (sepT g) (cutT g) fn.ntmps c | none => true
theorem codeAll : (Tryz.prog.funcs.toList.zipIdx.all fun p => okF p.1 p.2) = true := by kernel_rfl
theorem codeOK : ∀ (g : Nat) fn c, Tryz.prog.funcs[g]? = some fn → fn.body = some c → CodeOK (sepT g) (cutT g) fn.ntmps c := fun g fn c h hb => by
  have h1 : (fn, g) ∈ Tryz.prog.funcs.toList.zipIdx := by
    rw [List.mem_zipIdx_iff_getElem?]
    simpa using h
  have := List.all_eq_true.1 codeAll _ h1
  simp only [okF, hb] at this
  exact okCode_spec c this
theorem rokOK : ∀ f ps a bd, okR f ps a bd = true → CodeOK (sepT f) (cutT f) (ntOf Tryz.prog f) a ∧ CodeOK (sepT f) (cutT f) (ntOf Tryz.prog f) bd ∧ ∀ p ∈ ps, p < ntOf Tryz.prog f := fun f ps a bd h => by
  simp only [okR, Bool.and_eq_true] at h
  exact okRange_spec h.2
theorem x0OK : SymOK X0 := ⟨progOK, fun g fn c _ h hb => codeOK g fn c h hb, fun g F args r h => by simp [X0] at h, fun g F args H K r h => by simp [X0] at h, fun _ => rfl, rokOK⟩
end T
end

section
/- Clones, known from another context. -/
open Go Go.Proofs Go.Sym
namespace T
theorem zP : X0.P = Tryz.prog := Eq.trans rfl rfl
theorem zh (f) : X0.has f = true := Eq.trans rfl rfl
theorem zD (f) : X0.dfr f = inL f [60] := Eq.trans rfl rfl
theorem zR (f) : X0.raw f = false := Eq.trans rfl rfl
theorem zM (f s) : X0.mode f s = if f = 90 then 0 else modeT f s := Eq.trans rfl rfl
theorem inL_nil (f) : inL f [] = false := Eq.trans rfl rfl
theorem inL_cons (f a l) : inL f (a :: l) = (f == a || inL f l) := by simp only [inL, List.contains_cons]
attribute [simp] zP zh zD zR zM inL_nil inL_cons mode5
attribute [-simp] getElem?_pos
attribute [simp] Int.ofNat_inj
theorem body_of {g : Nat} (h : (match Tryz.prog.funcs[g]? with | some fn => fn.body.isSome | none => false) = true) : Body Tryz.prog g := by
  split at h
  · rename_i fn hf
    exact ⟨fn, hf, h⟩
  · cases h
theorem c49_an : call X0 49 [.lst 1 [] .an] [] [] = some (.ret (.lst 0 [] .nil), [], []) := by
  rw [call_eq (by decide) (by simp)]
  simp [Tryz.func49, Tryz.f49, envOf, leave_pure]
theorem c49_an' : call X0 49 [.lst 0 [] .an] [] [] = some (.ret (.lst 0 [] .nil), [], []) := by
  rw [call_eq (by decide) (by simp)]
  simp [Tryz.func49, Tryz.f49, envOf, leave_pure]
theorem c49_nn : call X0 49 [.lst 0 [] .nn] [] [] = some (.ret (.lst 1 [] (.tok 0)), [], [0]) := by
  rw [call_eq (by decide) (by simp)]
  simp [Tryz.func49, Tryz.f49, envOf, leave_pure]
theorem c49_cons (a : List AV) (r : List (List AV)) (h : r.length + 1 ≤ 1073741824) : call X0 49 [.lst 1 (a :: r) .no] [] [] = some (.ret (.lst 1 (a :: r) (.tok 0)), [], [r.length + 1]) := by
  rw [call_eq (by decide) (by simp)]
  simp at h
  simp [Tryz.func49, Tryz.f49, envOf, leave_pure, h]
theorem p49 (args : List AV) (r : IRes) (h : cloneF 1 args = some r) : Body Tryz.prog 49 ∧ ∃ (own : Bool) (q : Res × List Blk × List Nat),
      (match q.1 with | .ret v => iret own q.2.2 v | .panic v => if pureB v = true then some (.panic v) else none) = some r ∧
      ∀ L w (us : Array Value), Inv L (lH []) (lK []) w w.heap.size → RepL L w args us.toList → Calls Tryz.prog 49 us w (Ends w.heap.size L w q) := by
  unfold cloneF at h
  split at h
  · rename_i sz rows
    split at h
    · rename_i hc
      obtain ⟨rfl, hl⟩ := hc
      cases h
      refine prim_own x0OK zP (g := 49) (by decide) (body_of (by kernel_rfl)) (fun e => ?_) fun e => ?_
      · subst e
        exact ⟨⟨0, c49_an'⟩, c49_nn⟩
      · cases rows with
        | nil => exact absurd rfl e
        | cons a r => exact c49_cons a r hl
    · cases h
  · cases h
theorem c90_an : call X0 90 [.lst 3 [] .an] [] [] = some (.ret (.lst 0 [] .nil), [], []) := by
  rw [call_eq (by decide) (by simp)]
  simp [Tryz.func90, Tryz.f90, envOf, leave_pure]
theorem c90_an' : call X0 90 [.lst 0 [] .an] [] [] = some (.ret (.lst 0 [] .nil), [], []) := by
  rw [call_eq (by decide) (by simp)]
  simp [Tryz.func90, Tryz.f90, envOf, leave_pure]
theorem c90_nn : call X0 90 [.lst 0 [] .nn] [] [] = some (.ret (.lst 3 [] (.tok 0)), [], [0]) := by
  rw [call_eq (by decide) (by simp)]
  simp [Tryz.func90, Tryz.f90, envOf, leave_pure]
theorem c90_cons (a : List AV) (r : List (List AV)) (h : r.length + 1 ≤ 1073741824) : call X0 90 [.lst 3 (a :: r) .no] [] [] = some (.ret (.lst 3 (a :: r) (.tok 0)), [], [r.length + 1]) := by
  rw [call_eq (by decide) (by simp)]
  simp at h
  simp [Tryz.func90, Tryz.f90, envOf, leave_pure, h]
theorem p90 (args : List AV) (r : IRes) (h : cloneF 3 args = some r) : Body Tryz.prog 90 ∧ ∃ (own : Bool) (q : Res × List Blk × List Nat),
      (match q.1 with | .ret v => iret own q.2.2 v | .panic v => if pureB v = true then some (.panic v) else none) = some r ∧
      ∀ L w (us : Array Value), Inv L (lH []) (lK []) w w.heap.size → RepL L w args us.toList → Calls Tryz.prog 90 us w (Ends w.heap.size L w q) := by
  unfold cloneF at h
  split at h
  · rename_i sz rows
    split at h
    · rename_i hc
      obtain ⟨rfl, hl⟩ := hc
      cases h
      refine prim_own x0OK zP (g := 90) (by decide) (body_of (by kernel_rfl)) (fun e => ?_) fun e => ?_
      · subst e
        exact ⟨⟨0, c90_an'⟩, c90_nn⟩
      · cases rows with
        | nil => exact absurd rfl e
        | cons a r => exact c90_cons a r hl
    · cases h
  · cases h
theorem c101_an : call X0 101 [.lst 1 [] .an] [] [] = some (.ret (.lst 0 [] .nil), [], []) := by
  rw [call_eq (by decide) (by simp)]
  simp [Tryz.func101, Tryz.f101, envOf, leave_pure]
theorem c101_an' : call X0 101 [.lst 0 [] .an] [] [] = some (.ret (.lst 0 [] .nil), [], []) := by
  rw [call_eq (by decide) (by simp)]
  simp [Tryz.func101, Tryz.f101, envOf, leave_pure]
theorem c101_nn : call X0 101 [.lst 0 [] .nn] [] [] = some (.ret (.lst 1 [] (.tok 0)), [], [0]) := by
  rw [call_eq (by decide) (by simp)]
  simp [Tryz.func101, Tryz.f101, envOf, leave_pure]
theorem c101_cons (a : List AV) (r : List (List AV)) (h : r.length + 1 ≤ 1073741824) : call X0 101 [.lst 1 (a :: r) .no] [] [] = some (.ret (.lst 1 (a :: r) (.tok 0)), [], [r.length + 1]) := by
  rw [call_eq (by decide) (by simp)]
  simp at h
  simp [Tryz.func101, Tryz.f101, envOf, leave_pure, h]
theorem p101 (args : List AV) (r : IRes) (h : cloneF 1 args = some r) : Body Tryz.prog 101 ∧ ∃ (own : Bool) (q : Res × List Blk × List Nat),
      (match q.1 with | .ret v => iret own q.2.2 v | .panic v => if pureB v = true then some (.panic v) else none) = some r ∧
      ∀ L w (us : Array Value), Inv L (lH []) (lK []) w w.heap.size → RepL L w args us.toList → Calls Tryz.prog 101 us w (Ends w.heap.size L w q) := by
  unfold cloneF at h
  split at h
  · rename_i sz rows
    split at h
    · rename_i hc
      obtain ⟨rfl, hl⟩ := hc
      cases h
      refine prim_own x0OK zP (g := 101) (by decide) (body_of (by kernel_rfl)) (fun e => ?_) fun e => ?_
      · subst e
        exact ⟨⟨0, c101_an'⟩, c101_nn⟩
      · cases rows with
        | nil => exact absurd rfl e
        | cons a r => exact c101_cons a r hl
    · cases h
  · cases h
theorem primOK1 : PrimOK X1 := fun g F args r h hF => by
  have h' : primT1 g = some F := h
  unfold primT1 at h'
  split at h'
  · cases h'; exact p49 args r hF
  · cases h'; exact p90 args r hF
  · cases h'; exact p101 args r hF
  · cases h'; exact p168 args r hF (body_of (by kernel_rfl))
  · cases h'; exact p35 args r hF (body_of (by kernel_rfl))
  · cases h'; exact p74 args r hF (body_of (by kernel_rfl))
  · cases h'
theorem c84e (H : List Blk) (K : List Nat) (t : Nat) (vs : List (List AV)) (hK : K[t]? = some 0) (h0 : 0 < vs.length) (hl : vs.length ≤ 1073741824) : call X0 84 [.lst 3 [] (.tok t), .int .i64 0, .lst 3 vs .exact] H K = some (.ret (.lst 3 vs (.tok t)), H, K.set t vs.length) := by
  rw [call_eq (by decide) (by simp)]
  have hne : ¬ ((vs.length : Int) = 0) := by omega
  have hne' : ¬ vs = [] := by rintro rfl; simp at h0
  simp [Tryz.func84, Tryz.f84, envOf, hne, hne', hK, hl, leave_pure]
theorem sprimOK : SprimOK X1 := fun g F args H K q h hF => by
  have h' : sprimT g = some F := h
  unfold sprimT at h'
  split at h'
  · cases h'
    refine ⟨body_of (by kernel_rfl), ?_⟩
    unfold insE at hF
    split at hF
    · rename_i t i vs
      split at hF
      · rename_i hc
        obtain ⟨rfl, hK, h0, hl⟩ := hc
        cases hF
        refine ⟨⟨Nat.le_refl _, by simp, fun n _ ho => ho⟩, fun L w base us hi hr => ?_⟩
        exact ((call_sound x0OK).call 84 _ H K _ (by decide) (c84e H K t vs hK h0 hl)).2 L w base us hi hr
      · cases hF
    · exact ins_sound hF
  · cases h'
    exact ⟨body_of (by kernel_rfl), del_sound hF⟩
  · cases h'
theorem x1OK : SymOK X1 := ⟨progOK, fun g fn c _ h hb => codeOK g fn c h hb, primOK1, sprimOK, fun b => by
  have : sprimT (rid + b) = none := by
    unfold sprimT
    split
    · rename_i h; have : rid = 1000000 := rfl; omega
    · rename_i h; have : rid = 1000000 := rfl; omega
    · rfl
  exact this, rokOK⟩
end T
end

section
/- sched.Text, as a call known otherwise. -/
open Go Go.Proofs Go.Sym Go.RowKit
namespace T
theorem inv_up {L : Lay} {w w' : World} (hi : Inv L (lH []) (lK []) w w.heap.size) (hb : Below w.heap.size w w') : Inv L (lH []) (lK []) w' w'.heap.size := by
  have h := hi.grow hb
  have hK : ∀ t k, L.tk t ≠ some k := fun t k hk => by
    have := hi.K t
    rw [hk] at this
    simp [lK] at this
  exact ⟨h.dom, h.dom', fun b k r sz hk => by simp [lH] at hk, h.inj, fun b k r sz hk => by simp [lH] at hk, h.K, fun t k hk => (hK t k hk).elim, fun t t' k k' g hk => (hK t k hk).elim, h.size, fun g hg => Nat.lt_of_lt_of_le (h.lent g hg) h.top, Nat.le_refl _, h.glob.mono h.top⟩
theorem call_at {L : Lay} {w : World} (hi : Inv L (lH []) (lK []) w w.heap.size) {g : FuncId} (hg : g < rid) {args : List AV} {v : AV} {H : List Blk} {K : List Nat} (hc : callN X1 800 g args [] [] = some (.ret v, H, K)) {us : Array Value} (hr : RepL L w args us.toList) {x : Value} (hx : ∀ L w u, Rep L w v u → u = x) :
    ∀ w', Below w.heap.size w w' → Calls Tryz.prog g us w' fun e w'' => e = .returned x ∧ Below w'.heap.size w' w'' := fun w' hb => by
  have h1 := ((call_sound x1OK).call g args [] [] _ hg (call_iff.2 ⟨800, hc⟩)).2 L w' w'.heap.size us (inv_up hi hb) (RepL.extL (Ext.grow hi hb) hr)
  refine Calls.mono h1 fun e w'' he => ?_
  cases e with
  | returned u =>
    obtain ⟨L', hx', _, hv⟩ := he
    exact ⟨congrArg _ (hx _ _ _ hv), hx'.old⟩
  | panicked ch => exact he.elim
  | outgrown => exact he.elim
theorem p18 (args : List AV) (r : IRes) (h : textF args = some r) : Body Tryz.prog 18 ∧ ∃ (own : Bool) (q : Res × List Blk × List Nat),
      (match q.1 with | .ret v => iret own q.2.2 v | .panic v => if pureB v = true then some (.panic v) else none) = some r ∧
      ∀ L w (us : Array Value), Inv L (lH []) (lK []) w w.heap.size → RepL L w args us.toList → Calls Tryz.prog 18 us w (Ends w.heap.size L w q) := by
  unfold textF at h
  split at h
  · rename_i a b c z1 q1 k1 d1 z2 q2 k2 d2
    split at h
    · rename_i h33
      obtain ⟨s1, hs1, h⟩ := ob_eq h
      obtain ⟨s2, hs2, h⟩ := ob_eq h
      split at h
      · rename_i hsz
        cases h
        refine ⟨body_of (by kernel_rfl), false, (.ret (.tup [.str ⟨(83 :: 48 :: 58 :: (s1.data.toList ++ (s2.data.toList ++ [10]))).toArray⟩, .int .i64 0]), [], []), rfl, fun L w us hi hr => ?_⟩
        have hr0 := hr
        obtain ⟨u0, m0, e0, r0, hr⟩ := by simpa only [RepL] using hr
        obtain ⟨u1, m1, e1, r1, hr⟩ := by simpa only [RepL] using hr
        obtain rfl : m1 = [] := by simpa only [RepL] using hr
        subst e1
        obtain rfl : us = #[u0, u1] := by simpa using congrArg List.toArray e0
        -- the program
        obtain ⟨vs, rfl, hv⟩ := by simpa only [Rep] using r0
        obtain ⟨va, m2, e2, ra, hv⟩ := by simpa only [RepL] using hv
        obtain ⟨vb, m3, e3, rb, hv⟩ := by simpa only [RepL] using hv
        obtain ⟨vc, m4, e4, rc, hv⟩ := by simpa only [RepL] using hv
        obtain rfl : m4 = [] := by simpa only [RepL] using hv
        subst e4 e3
        obtain rfl : vs = #[va, vb, vc] := by simpa using congrArg List.toArray e2
        -- the schedule
        obtain ⟨ss, rfl, hs⟩ := by simpa only [Rep] using r1
        obtain ⟨sl, m5, e5, rs, hs⟩ := by simpa only [RepL] using hs
        obtain rfl : m5 = [] := by simpa only [RepL] using hs
        obtain rfl : ss = #[sl] := by simpa using congrArg List.toArray e5
        obtain ⟨ad, n, cap, rfl, hn, hcap, hmax, hrows, _⟩ := by simpa only [Rep] using rs
        obtain rfl : n = 1 := by simpa using hn.symm
        obtain ⟨g, p, rfl, hrow⟩ := hrows.resolve_left (by simp)
        simp only [RepR, RepC] at hrow
        obtain ⟨_, ⟨_, _, _, ⟨u2, hu2, hr2⟩, _⟩, _⟩ := hrow
        obtain ⟨ad2, n2, cap2, rfl, hn2, hcap2, hmax2, hrows2, _⟩ := by simpa only [Rep] using hr2
        obtain rfl : n2 = 2 := by simpa using hn2.symm
        obtain ⟨g2, p2, rfl, hrow2⟩ := hrows2.resolve_left (by simp)
        simp only [RepR, RepC] at hrow2
        obtain ⟨_, ⟨_, _, _, ⟨x1, hx1, rx1⟩, _, _, _, ⟨x2, hx2, rx2⟩, _, _, _, ⟨x3, hx3, rx3⟩, _⟩, _, ⟨_, _, _, ⟨x4, hx4, rx4⟩, _, _, _, ⟨x5, hx5, rx5⟩, _, _, _, ⟨x6, hx6, rx6⟩, _⟩, _⟩ := hrow2
        obtain ⟨ad3, n3, cp3, rfl, f1, f2, f3, f4, f5⟩ := by simpa only [Rep] using rx1
        obtain ⟨ad4, n4, cp4, rfl, f1', f2', f3', f4', f5'⟩ := by simpa only [Rep] using rx4
        obtain rfl : x2 = .int .i64 k1 := by simpa only [Rep] using rx2
        obtain rfl : x3 = .int .i64 d1 := by simpa only [Rep] using rx3
        obtain rfl : x5 = .int .i64 k2 := by simpa only [Rep] using rx5
        obtain rfl : x6 = .int .i64 d2 := by simpa only [Rep] using rx6
        have lt : ∀ {g o : Nat} {u : Value}, w.cell? ⟨g, o, none⟩ = some u → g < w.heap.size := fun {g o u} h => by
          unfold World.cell? at h
          cases hh : w.heap[g]? with
          | none => simp [hh] at h
          | some y => exact (Array.getElem?_eq_some_iff.1 hh).1
        have c33 : ∃ H K, callN X1 800 33 [.agg [a, b, c], .agg [.lst 1 [[.lst 3 [[.lst z1 q1 .no, .int .i64 k1, .int .i64 d1], [.lst z2 q2 .no, .int .i64 k2, .int .i64 d2]] .no]] .no]] [] [] = some (.ret (.int .i64 0), H, K) := by
          unfold ret0 at h33
          split at h33
          · rename_i n H K e
            exact ⟨H, K, by rw [e, show n = 0 by simpa using h33]⟩
          · cases h33
        have cs : ∀ {r : Option (Res × List Blk × List Nat)} {s}, retS r = some s → ∃ H K, r = some (.ret (.str s), H, K) := fun {r s} h => by
          unfold retS at h
          split at h
          · cases h; exact ⟨_, _, rfl⟩
          · cases h
        obtain ⟨H3, K3, c33⟩ := c33
        obtain ⟨H4, K4, c36⟩ := cs hs1
        obtain ⟨H5, K5, c37⟩ := cs hs2
        refine Calls.mono (Tryz.text_walk va vb vc g p cap g2 p2 cap2 ad3 ad4 n3 cp3 n4 cp4 k1 d1 k2 d2 s1 s2 w (lt hu2) (lt hx1) hcap hcap2 hu2 hx1 hx2 hx3 (by simpa using hx4) (by simpa using hx5) (by simpa using hx6) hsz.1 hsz.2
          (call_at hi (by decide) c33 hr0 fun L w u h => by simpa only [Rep] using h)
          (call_at hi (by decide) c36 (by
            simp only [RepL, Rep]
            exact ⟨_, [], rfl, ⟨_, rfl, _, _, rfl, rx1, _, _, rfl, rx2, _, _, rfl, rx3, rfl⟩, rfl⟩) fun L w u h => by simpa only [Rep] using h)
          (call_at hi (by decide) c37 (by
            simp only [RepL, Rep]
            exact ⟨_, [], rfl, ⟨_, rfl, _, _, rfl, rx4, _, _, rfl, rx5, _, _, rfl, rx6, rfl⟩, rfl⟩) fun L w u h => by simpa only [Rep] using h)) ?_
        rintro e w' ⟨rfl, hb⟩
        exact ends_below hi hb fun L w => by
          simp only [Rep, RepL]
          exact ⟨_, rfl, _, _, rfl, rfl, _, _, rfl, rfl, rfl⟩
      · cases h
    · cases h
  · cases h
end T
end

section
/- The context of the round, and that it is sound. -/
open Go Go.Proofs Go.Sym
namespace T
attribute [-simp] getElem?_pos
attribute [simp] Int.ofNat_inj
theorem primOK : PrimOK X := fun g F args r h hF => by
  have h' : primT g = some F := h
  unfold primT at h'
  split at h'
  · rename_i e
    subst e
    cases h'
    exact p18 args r hF
  · exact primOK1 g F args r h' hF
theorem xOK : SymOK X := ⟨progOK, fun g fn c _ h hb => codeOK g fn c h hb, primOK, sprimOK, fun b => by
  have : sprimT (rid + b) = none := by
    unfold sprimT
    split
    · rename_i h; have : rid = 1000000 := rfl; omega
    · rename_i h; have : rid = 1000000 := rfl; omega
    · rfl
  exact this, rokOK⟩
theorem xP : X.P = Tryz.prog := Eq.trans rfl rfl
theorem xh (f) : X.has f = true := Eq.trans rfl rfl
theorem xD (f) : X.dfr f = inL f [60] := Eq.trans rfl rfl
theorem xR (f) : X.raw f = inL f [61, 90, 115] := Eq.trans rfl rfl
theorem xM (f s) : X.mode f s = modeT f s := Eq.trans rfl rfl
theorem xK (f s) : X.keep f s = keepT f s := Eq.trans rfl rfl
theorem xT (f s) : X.tz f s = tzT f s := Eq.trans rfl rfl
theorem xS (f s) : X.sep f s = sepT f s := Eq.trans rfl rfl
theorem xC (f s) : X.cut f s = cutT f s := Eq.trans rfl rfl
theorem xO (f) : X.own f = inL f [30] := Eq.trans rfl rfl
theorem xG (f) : X.rng f = inL f [29, 71] := Eq.trans rfl rfl
theorem xSp (f) : X.sprim f = sprimT f := Eq.trans rfl rfl
theorem xPr (f) : X.prim f = primT f := Eq.trans rfl rfl
theorem xSh (f a) : X.share f a = shareT f a := Eq.trans rfl rfl
attribute [simp] xP xh xD xR xM xK xT xS xC xO xG xSp xPr xSh
theorem sh90c (s a r c) : shareT 90 [.lst s (a :: r) c] = true := Eq.trans rfl rfl
theorem sh90n (s c) : shareT 90 [.lst s [] c] = false := Eq.trans rfl rfl
attribute [simp] sh90c sh90n
theorem ic49 (rows : List (List AV)) (h : rows.length ≤ 1073741824) : icall X (call X) 49 [.lst (szOf 1 rows) rows .no] = some (.own 1 rows) := by
  rw [icall_prim (F := cloneF 1) rfl]
  simp [cloneF, h]
theorem ic101 (rows : List (List AV)) (h : rows.length ≤ 1073741824) : icall X (call X) 101 [.lst (szOf 1 rows) rows .no] = some (.own 1 rows) := by
  rw [icall_prim (F := cloneF 1) rfl]
  simp [cloneF, h]
theorem ic90 : icall X (call X) 90 [.lst 0 [] .no] = some (.own 3 []) := by
  rw [icall_prim (F := cloneF 3) rfl]
  simp [cloneF]
attribute [simp] ic49 ic101 ic90
end T
end

section
/- The program's data, and what every function's equation needs. -/
open Go Go.Proofs Go.Sym
namespace T
structure Lin where
  C : List Int
  K : Int
  deriving DecidableEq
structure Row where
  L : Lin
  D : Int
  deriving DecidableEq
abbrev Tab := List (List Row)
/-- A slice's value, from its elements' cells. -/
def lst (n : Nat) (rows : List (List AV)) : AV := .lst (szOf n rows) rows .no
theorem lst_def (n rows) : lst n rows = .lst (szOf n rows) rows .no := Eq.trans rfl rfl
def int (n : Int) : AV := .int .i64 n
theorem int_def (n) : int n = .int .i64 n := Eq.trans rfl rfl
def intC (n : Int) : List AV := [.int .i64 n]
theorem intC_def (n) : intC n = [.int .i64 n] := Eq.trans rfl rfl
def ints (l : List Int) : AV := lst 1 (l.map intC)
def Lin.cs (l : Lin) : List AV := [ints l.C, int l.K]
def Row.cs (r : Row) : List AV := [ints r.L.C, int r.L.K, int r.D]
def rowsV (l : List Row) : AV := lst 3 (l.map Row.cs)
def rowsC (l : List Row) : List AV := [rowsV l]
def tabV (t : Tab) : AV := lst 1 (t.map rowsC)
theorem ints_def (l) : ints l = .lst (szOf 1 (l.map intC)) (l.map intC) .no := Eq.trans rfl rfl
theorem rowsV_def (l) : rowsV l = .lst (szOf 3 (l.map Row.cs)) (l.map Row.cs) .no := Eq.trans rfl rfl
theorem tabV_def (l) : tabV l = .lst (szOf 1 (l.map rowsC)) (l.map rowsC) .no := Eq.trans rfl rfl
theorem rowsC_def (l) : rowsC l = [rowsV l] := Eq.trans rfl rfl
theorem Lin.cs_def (l : Lin) : l.cs = [ints l.C, int l.K] := Eq.trans rfl rfl
theorem Row.cs_def (r : Row) : r.cs = [ints r.L.C, int r.L.K, int r.D] := Eq.trans rfl rfl
attribute [simp] lst_def int_def intC_def ints_def rowsV_def tabV_def rowsC_def Lin.cs_def Row.cs_def
attribute [-simp] getElem?_pos
attribute [simp] Int.ofNat_inj
theorem sh_ne (f a) (h : (f == 90) = false) : shareT f a = inL f [48, 61, 76, 79, 81, 82, 83, 84, 86, 88, 89, 115, 122, 200, 206] := by
  unfold shareT
  split
  · simp at h
  · rfl
theorem pr_ne (f) (h : (inL f [49, 90, 101, 168, 35, 74, 18]) = false) : primT f = none := by
  simp [inL] at h
  unfold primT primT1
  rw [if_neg (by simp_all)]
  split <;> simp_all
theorem sp_ne (f) (h : (inL f [84, 89]) = false) : sprimT f = none := by
  simp [inL] at h
  unfold sprimT
  split <;> simp_all
theorem sp84 : sprimT 84 = some insE := Eq.trans rfl rfl
theorem sp89 : sprimT 89 = some delF := Eq.trans rfl rfl
theorem insE_win (b off n c i vs H K d) : insE [.win b off n c, .int .i64 i, .lst 3 vs d] H K = insF [.win b off n c, .int .i64 i, .lst 3 vs d] H K := Eq.trans rfl rfl
theorem sp_rid (b : Nat) : sprimT (rid + b) = none := by
  unfold sprimT
  split
  · rename_i h; have : rid = 1000000 := rfl; omega
  · rename_i h; have : rid = 1000000 := rfl; omega
  · rfl
attribute [simp] sh_ne pr_ne sp_ne sp_rid
theorem wrap_nat (n : Nat) (h : n < 17179869184) : IntKind.i64.wrap ((n : Int) + 1) = ((n + 1 : Nat) : Int) := by
  have : (((n : Int) + 1 + 9223372036854775808) % 18446744073709551616) = (n : Int) + 1 + 9223372036854775808 := Int.emod_eq_of_lt (by omega) (by omega)
  simp [IntKind.wrap, IntKind.bits, IntKind.signed]
  omega
theorem wrap_id (n : Int) (h1 : -9223372036854775808 ≤ n) (h2 : n < 9223372036854775808) : IntKind.i64.wrap n = n := by
  have : ((n + 9223372036854775808) % 18446744073709551616) = n + 9223372036854775808 := Int.emod_eq_of_lt (by omega) (by omega)
  simp [IntKind.wrap, IntKind.bits, IntKind.signed]
  omega
/-- The greatest length that these equations speak of. -/
abbrev Max : Nat := 1073741824
theorem szOf_ext (n : Nat) (l l' : List (List AV)) (h : l.length = l'.length) : szOf n l = szOf n l' := by cases l <;> cases l' <;> simp_all [szOf]
theorem szOf_mapmap {α : Type} (n : Nat) (f : List AV → List AV) (g : α → List AV) (l : List α) : szOf n (List.map f (List.map g l)) = szOf n (List.map g l) := szOf_ext _ _ _ (by simp)
theorem nmI (l : List Int) : (l.map intC).map normL = l.map intC := map_normL _ (fun a => by simp) l
theorem nmR (l : List Row) : (l.map Row.cs).map normL = l.map Row.cs := map_normL _ (fun a => by simp) l
theorem nmT (t : Tab) : (t.map rowsC).map normL = t.map rowsC := map_normL _ (fun a => by simp) t
theorem puI (l : List Int) : purR (l.map intC) = true := purR_map _ (fun a => by simp) l
theorem puR (l : List Row) : purR (l.map Row.cs) = true := purR_map _ (fun a => by simp) l
theorem puT (t : Tab) : purR (t.map rowsC) = true := purR_map _ (fun a => by simp) t
attribute [simp high] nmI nmR nmT
attribute [simp] puI puR puT
def sub : Code → List Nat → Code
  | c, [] => c
  | .seq a b, 0 :: p => sub a p
  | .seq a b, _ :: p => sub b p
  | .cond _ a b, 0 :: p => sub a p
  | .cond _ a b, _ :: p => sub b p
  | .block _ c, _ :: p => sub c p
  | .loop c, _ :: p => sub c p
  | .rangeFunc _ _ a _, 0 :: p => sub a p
  | .rangeFunc _ _ _ b, _ :: p => sub b p
  | c, _ => c
theorem sub_nil (c) : sub c [] = c := by cases c <;> rfl
theorem sub_seq0 (a b p) : sub (.seq a b) (0 :: p) = sub a p := Eq.trans rfl rfl
theorem sub_seq1 (a b p) : sub (.seq a b) (1 :: p) = sub b p := Eq.trans rfl rfl
theorem sub_cond0 (c a b p) : sub (.cond c a b) (0 :: p) = sub a p := Eq.trans rfl rfl
theorem sub_cond1 (c a b p) : sub (.cond c a b) (1 :: p) = sub b p := Eq.trans rfl rfl
theorem sub_block (i c p) : sub (.block i c) (0 :: p) = sub c p := Eq.trans rfl rfl
theorem sub_loop (c p) : sub (.loop c) (0 :: p) = sub c p := Eq.trans rfl rfl
theorem sub_rng0 (g q a b p) : sub (.rangeFunc g q a b) (0 :: p) = sub a p := Eq.trans rfl rfl
theorem sub_rng1 (g q a b p) : sub (.rangeFunc g q a b) (1 :: p) = sub b p := Eq.trans rfl rfl
attribute [simp] sub_nil sub_seq0 sub_seq1 sub_cond0 sub_cond1 sub_block sub_loop sub_rng0 sub_rng1
def bodyOf (o : Option Code) : Code := o.getD .skip
theorem bodyOf_some (c) : bodyOf (some c) = c := Eq.trans rfl rfl
attribute [simp] bodyOf_some
theorem foldS_nil {β γ ρ : Type} (step : Nat → β → γ → β ⊕ ρ) (i b) : foldS step i [] b = .inl b := Eq.trans rfl rfl
end T
end

section
/- The bodies of loops. Printed by a program. -/
open Go Go.Proofs Go.Sym
namespace T
noncomputable def lb5_3 : Code := sub (bodyOf Tryz.f5.body) [1, 1, 0, 1, 0, 0]
noncomputable def lb5_9 : Code := sub (bodyOf Tryz.f5.body) [1, 1, 0, 1, 0, 0, 1, 1, 0, 0, 1, 1, 1, 1, 0, 0]
noncomputable def lb5_13 : Code := sub (bodyOf Tryz.f5.body) [1, 1, 0, 1, 0, 0, 1, 1, 0, 0, 1, 1, 1, 1, 0, 0, 1, 1, 0, 0, 1, 1, 1, 0, 0]
noncomputable def lb10_19 : Code := sub (bodyOf Tryz.f10.body) [1, 1, 0, 1, 0, 1, 1, 1, 1, 1, 1, 1, 1, 1, 0, 1, 0, 1, 0, 0]
noncomputable def lb11_19 : Code := sub (bodyOf Tryz.f11.body) [1, 1, 0, 1, 0, 1, 1, 1, 1, 1, 1, 1, 1, 1, 0, 1, 0, 1, 0, 0]
noncomputable def lb12_4 : Code := sub (bodyOf Tryz.f12.body) [1, 1, 0, 1, 0, 0]
noncomputable def lb12_9 : Code := sub (bodyOf Tryz.f12.body) [1, 1, 0, 1, 0, 0, 1, 1, 0, 0, 1, 1, 1, 0, 0]
noncomputable def lb15_3 : Code := sub (bodyOf Tryz.f15.body) [1, 1, 0, 1, 0, 0]
noncomputable def lb17_6 : Code := sub (bodyOf Tryz.f17.body) [1, 1, 1, 1, 0, 1, 0, 0]
noncomputable def lb17_12 : Code := sub (bodyOf Tryz.f17.body) [1, 1, 1, 1, 1, 0, 1, 0, 0]
noncomputable def lb17_14 : Code := sub (bodyOf Tryz.f17.body) [1, 1, 1, 1, 1, 0, 1, 0, 0, 1, 1, 0, 0, 1, 0, 0]
noncomputable def lb17_20 : Code := sub (bodyOf Tryz.f17.body) [1, 1, 1, 1, 1, 1, 1, 0, 1, 0, 0]
noncomputable def lb17_24 : Code := sub (bodyOf Tryz.f17.body) [1, 1, 1, 1, 1, 1, 1, 0, 1, 0, 0, 1, 1, 0, 0, 1, 1, 1, 0, 0]
noncomputable def lb18_6 : Code := sub (bodyOf Tryz.f18.body) [1, 1, 1, 0, 1, 0, 0]
noncomputable def lb18_10 : Code := sub (bodyOf Tryz.f18.body) [1, 1, 1, 0, 1, 0, 0, 1, 1, 0, 0, 1, 1, 0, 1, 0, 0]
noncomputable def lb22_8 : Code := sub (bodyOf Tryz.f22.body) [1, 1, 1, 1, 0, 1, 0, 0]
noncomputable def lb22_14 : Code := sub (bodyOf Tryz.f22.body) [1, 1, 1, 1, 1, 0, 1, 0, 0]
noncomputable def lb22_20 : Code := sub (bodyOf Tryz.f22.body) [1, 1, 1, 1, 1, 1, 0, 1, 0, 0]
noncomputable def lb22_23 : Code := sub (bodyOf Tryz.f22.body) [1, 1, 1, 1, 1, 1, 0, 1, 0, 0, 1, 1, 0, 0, 1, 1, 0, 0]
noncomputable def lb23_6 : Code := sub (bodyOf Tryz.f23.body) [1, 1, 1, 0, 1, 0, 0]
noncomputable def lb23_23 : Code := sub (bodyOf Tryz.f23.body) [1, 1, 1, 0, 1, 0, 0, 1, 1, 0, 0, 1, 1, 1, 0, 1, 1, 1, 1, 1, 1, 1, 1, 1, 0, 1, 1, 0, 1, 0, 0]
noncomputable def lb23_39 : Code := sub (bodyOf Tryz.f23.body) [1, 1, 1, 1, 0, 1, 0, 0]
noncomputable def lb23_42 : Code := sub (bodyOf Tryz.f23.body) [1, 1, 1, 1, 0, 1, 0, 0, 1, 1, 0, 0, 1, 1, 0, 0]
noncomputable def lb24_4 : Code := sub (bodyOf Tryz.f24.body) [1, 1, 0, 1, 0, 0]
noncomputable def lb25_2 : Code := sub (bodyOf Tryz.f25.body) [1, 0, 1, 0, 0]
noncomputable def lb26_3 : Code := sub (bodyOf Tryz.f26.body) [1, 1, 0, 1, 0, 0]
noncomputable def lb26_7 : Code := sub (bodyOf Tryz.f26.body) [1, 1, 0, 1, 0, 0, 1, 1, 0, 0, 1, 1, 0, 1, 0, 0]
noncomputable def lb26_10 : Code := sub (bodyOf Tryz.f26.body) [1, 1, 0, 1, 0, 0, 1, 1, 0, 0, 1, 1, 0, 1, 0, 0, 1, 1, 0, 0, 1, 1, 0, 0]
noncomputable def lb26_16 : Code := sub (bodyOf Tryz.f26.body) [1, 1, 0, 1, 0, 0, 1, 1, 0, 0, 1, 1, 1, 0, 1, 0, 0]
noncomputable def ra29 : Code := sub (bodyOf Tryz.f29.body) [1, 1, 1, 0, 1, 0, 0]
noncomputable def rb29 : Code := sub (bodyOf Tryz.f29.body) [1, 1, 1, 0, 1, 0, 1]
noncomputable def lb30_5 : Code := sub (bodyOf Tryz.f30.body) [1, 1, 1, 1, 0, 1, 0, 0]
noncomputable def lb32_2 : Code := sub (bodyOf Tryz.f32.body) [1, 0, 1, 0, 0]
noncomputable def lb36_3 : Code := sub (bodyOf Tryz.f36.body) [1, 1, 0, 1, 0, 0]
noncomputable def lb44_4 : Code := sub (bodyOf Tryz.f44.body) [1, 1, 0, 1, 0, 0]
noncomputable def lb47_3 : Code := sub (bodyOf Tryz.f47.body) [1, 1, 0, 1, 0, 0]
noncomputable def lb48_2 : Code := sub (bodyOf Tryz.f48.body) [1, 0, 1, 0, 0]
noncomputable def lb51_3 : Code := sub (bodyOf Tryz.f51.body) [1, 1, 0, 1, 0, 0]
noncomputable def lb51_7 : Code := sub (bodyOf Tryz.f51.body) [1, 1, 0, 1, 0, 0, 1, 1, 0, 0, 1, 1, 0, 1, 0, 0]
noncomputable def lb52_2 : Code := sub (bodyOf Tryz.f52.body) [1, 0, 1, 0, 0]
noncomputable def lb53_26 : Code := sub (bodyOf Tryz.f53.body) [1, 1, 0, 1, 0, 1, 1, 1, 1, 1, 1, 1, 1, 1, 0, 1, 0, 1, 0, 0]
noncomputable def lb53_38 : Code := sub (bodyOf Tryz.f53.body) [1, 1, 0, 1, 0, 1, 1, 1, 1, 1, 1, 1, 1, 1, 1, 1, 0, 1, 1, 0, 1, 0, 0]
noncomputable def lb54_3 : Code := sub (bodyOf Tryz.f54.body) [1, 1, 0, 1, 0, 0]
noncomputable def lb54_6 : Code := sub (bodyOf Tryz.f54.body) [1, 1, 0, 1, 0, 0, 1, 1, 0, 0, 1, 1, 0, 0]
noncomputable def lb56_3 : Code := sub (bodyOf Tryz.f56.body) [1, 1, 0, 1, 0, 0]
noncomputable def lb58_3 : Code := sub (bodyOf Tryz.f58.body) [1, 1, 0, 1, 0, 0]
noncomputable def lb59_3 : Code := sub (bodyOf Tryz.f59.body) [1, 1, 0, 1, 0, 0]
noncomputable def lb62_5 : Code := sub (bodyOf Tryz.f62.body) [1, 1, 1, 1, 0, 1, 0, 0]
noncomputable def lb63_5 : Code := sub (bodyOf Tryz.f63.body) [1, 1, 1, 0, 1, 0, 0]
noncomputable def lb65_3 : Code := sub (bodyOf Tryz.f65.body) [1, 1, 0, 1, 0, 0]
noncomputable def ra71 : Code := sub (bodyOf Tryz.f71.body) [1, 1, 1, 1, 0, 1, 0, 0]
noncomputable def rb71 : Code := sub (bodyOf Tryz.f71.body) [1, 1, 1, 1, 0, 1, 0, 1]
noncomputable def lb74_12 : Code := sub (bodyOf Tryz.f74.body) [1, 1, 1, 1, 0, 1, 0, 0]
noncomputable def lb74_22 : Code := sub (bodyOf Tryz.f74.body) [1, 1, 1, 1, 1, 1, 1, 1, 0, 1, 0, 0]
noncomputable def lb80_5 : Code := sub (bodyOf Tryz.f80.body) [1, 1, 1, 0, 1, 0, 0]
noncomputable def lb83_3 : Code := sub (bodyOf Tryz.f83.body) [1, 1, 0, 1, 0, 0]
noncomputable def lb91_5 : Code := sub (bodyOf Tryz.f91.body) [1, 1, 1, 0, 1, 0, 0]
noncomputable def lb91_11 : Code := sub (bodyOf Tryz.f91.body) [1, 1, 1, 0, 1, 0, 0, 1, 1, 0, 0, 1, 1, 1, 1, 0, 0]
noncomputable def lb91_18 : Code := sub (bodyOf Tryz.f91.body) [1, 1, 1, 1, 0, 1, 0, 0]
noncomputable def lb92_3 : Code := sub (bodyOf Tryz.f92.body) [1, 1, 0, 1, 0, 0]
noncomputable def lb96_2 : Code := sub (bodyOf Tryz.f96.body) [1, 0, 1, 0, 0]
noncomputable def lb97_2 : Code := sub (bodyOf Tryz.f97.body) [1, 0, 1, 0, 0]
noncomputable def lb97_5 : Code := sub (bodyOf Tryz.f97.body) [1, 0, 1, 0, 0, 1, 1, 0, 0, 1, 1, 0, 0]
noncomputable def lb99_3 : Code := sub (bodyOf Tryz.f99.body) [1, 1, 0, 1, 0, 0]
noncomputable def lb99_9 : Code := sub (bodyOf Tryz.f99.body) [1, 1, 1, 1, 0, 0]
noncomputable def lb99_14 : Code := sub (bodyOf Tryz.f99.body) [1, 1, 1, 1, 0, 0, 1, 1, 0, 0, 1, 1, 1, 1, 0, 0]
noncomputable def lb100_2 : Code := sub (bodyOf Tryz.f100.body) [1, 1, 0, 0]
noncomputable def lb103_2 : Code := sub (bodyOf Tryz.f103.body) [1, 0, 1, 0, 0]
noncomputable def lb104_3 : Code := sub (bodyOf Tryz.f104.body) [1, 1, 0, 1, 0, 0]
noncomputable def lb104_7 : Code := sub (bodyOf Tryz.f104.body) [1, 1, 0, 1, 0, 0, 1, 1, 0, 0, 1, 1, 0, 1, 0, 0]
noncomputable def lb105_3 : Code := sub (bodyOf Tryz.f105.body) [1, 1, 0, 1, 0, 0]
noncomputable def lb106_3 : Code := sub (bodyOf Tryz.f106.body) [1, 1, 0, 1, 0, 0]
noncomputable def lb107_3 : Code := sub (bodyOf Tryz.f107.body) [1, 1, 0, 1, 0, 0]
noncomputable def lb108_3 : Code := sub (bodyOf Tryz.f108.body) [1, 1, 0, 1, 0, 0]
noncomputable def lb109_3 : Code := sub (bodyOf Tryz.f109.body) [1, 1, 0, 1, 0, 0]
noncomputable def lb110_2 : Code := sub (bodyOf Tryz.f110.body) [1, 0, 1, 0, 0]
noncomputable def lb112_4 : Code := sub (bodyOf Tryz.f112.body) [1, 1, 0, 1, 0, 0]
noncomputable def lb113_2 : Code := sub (bodyOf Tryz.f113.body) [1, 0, 1, 0, 0]
noncomputable def lb114_4 : Code := sub (bodyOf Tryz.f114.body) [1, 1, 0, 1, 0, 0]
noncomputable def lb114_10 : Code := sub (bodyOf Tryz.f114.body) [1, 1, 1, 0, 1, 0, 0]
noncomputable def lb116_2 : Code := sub (bodyOf Tryz.f116.body) [1, 0, 1, 0, 0]
noncomputable def lb123_2 : Code := sub (bodyOf Tryz.f123.body) [1, 0, 1, 0, 0]
noncomputable def lb129_4 : Code := sub (bodyOf Tryz.f129.body) [1, 1, 0, 1, 0, 0]
noncomputable def lb129_9 : Code := sub (bodyOf Tryz.f129.body) [1, 1, 1, 0, 1, 0, 0]
noncomputable def lb130_2 : Code := sub (bodyOf Tryz.f130.body) [1, 0, 1, 0, 0]
noncomputable def lb131_2 : Code := sub (bodyOf Tryz.f131.body) [1, 0, 1, 0, 0]
noncomputable def lb132_5 : Code := sub (bodyOf Tryz.f132.body) [1, 1, 1, 0, 1, 0, 0]
noncomputable def lb138_1 : Code := sub (bodyOf Tryz.f138.body) [1, 0, 0]
noncomputable def lb138_4 : Code := sub (bodyOf Tryz.f138.body) [1, 0, 0, 1, 1, 0, 0, 1, 1, 0, 0]
noncomputable def lb141_1 : Code := sub (bodyOf Tryz.f141.body) [1, 0, 0, 0]
noncomputable def lb142_11 : Code := sub (bodyOf Tryz.f142.body) [1, 1, 1, 1, 1, 0, 1, 0, 1, 1, 1, 0, 0, 0]
noncomputable def lb142_18 : Code := sub (bodyOf Tryz.f142.body) [1, 1, 1, 1, 1, 0, 1, 1, 1, 0, 0, 0]
noncomputable def lb144_2 : Code := sub (bodyOf Tryz.f144.body) [1, 0, 1, 0, 0]
noncomputable def lb149_10 : Code := sub (bodyOf Tryz.f149.body) [1, 1, 1, 1, 1, 0, 1, 0, 1, 0, 1, 0, 1, 0, 0]
noncomputable def lb150_4 : Code := sub (bodyOf Tryz.f150.body) [1, 1, 0, 1, 0, 0]
noncomputable def lb158_1 : Code := sub (bodyOf Tryz.f158.body) [1, 0, 0]
noncomputable def lb161_4 : Code := sub (bodyOf Tryz.f161.body) [1, 1, 0, 1, 0, 0]
noncomputable def lb161_9 : Code := sub (bodyOf Tryz.f161.body) [1, 1, 0, 1, 0, 0, 1, 1, 0, 0, 1, 1, 1, 0, 0]
noncomputable def lb162_4 : Code := sub (bodyOf Tryz.f162.body) [1, 1, 0, 1, 0, 0]
noncomputable def lb162_9 : Code := sub (bodyOf Tryz.f162.body) [1, 1, 0, 1, 0, 0, 1, 1, 0, 0, 1, 1, 1, 0, 0]
noncomputable def lb163_4 : Code := sub (bodyOf Tryz.f163.body) [1, 1, 0, 1, 0, 0]
noncomputable def lb164_3 : Code := sub (bodyOf Tryz.f164.body) [1, 1, 0, 1, 0, 0]
noncomputable def lb169_2 : Code := sub (bodyOf Tryz.f169.body) [1, 0, 1, 0, 0]
noncomputable def lb175_15 : Code := sub (bodyOf Tryz.f175.body) [1, 1, 1, 1, 1, 1, 1, 1, 0, 0, 0]
noncomputable def lb179_5 : Code := sub (bodyOf Tryz.f179.body) [1, 1, 1, 1, 0, 1, 0, 0]
noncomputable def lb179_11 : Code := sub (bodyOf Tryz.f179.body) [1, 1, 1, 1, 1, 1, 0, 1, 0, 0]
noncomputable def lb181_3 : Code := sub (bodyOf Tryz.f181.body) [1, 1, 0, 1, 0, 0]
noncomputable def lb181_8 : Code := sub (bodyOf Tryz.f181.body) [1, 1, 1, 1, 0, 1, 0, 0]
noncomputable def lb202_3 : Code := sub (bodyOf Tryz.f202.body) [1, 1, 1, 0, 0]
noncomputable def lb202_7 : Code := sub (bodyOf Tryz.f202.body) [1, 1, 1, 0, 0, 1, 1, 0, 0, 1, 1, 1, 0, 0]
noncomputable def lb206_2 : Code := sub (bodyOf Tryz.f206.body) [1, 0, 1, 0, 0]
noncomputable def lb210_4 : Code := sub (bodyOf Tryz.f210.body) [1, 1, 0, 1, 0, 0]
noncomputable def lb211_2 : Code := sub (bodyOf Tryz.f211.body) [1, 0, 1, 0, 0]
noncomputable def lb214_3 : Code := sub (bodyOf Tryz.f214.body) [1, 1, 1, 0, 0]
end T
end

section
open Go Go.Proofs Go.Sym
namespace T
attribute [-simp] getElem?_pos
/-! f68 num.Fits -/
def fits (n : Int) : Bool := decide (-1048576 ≤ n) && decide (n ≤ 1048576)
theorem e68 (n : Int) : call X 68 [int n] [] [] = some (.ret (.bool (fits n)), [], []) := by
  rw [call_eq (by decide) (by simp)]
  by_cases h : (-1048576 : Int) ≤ n
  · simp [Tryz.func68, Tryz.f68, envOf, leave_pure, fits, h]
  · simp [Tryz.func68, Tryz.f68, envOf, leave_pure, fits, h]
theorem ic68 (n : Int) : icall X (call X) 68 [.int .i64 n] = some (.ret (.bool (fits n))) := icall_ret (by simp) (by simp) (e68 n) rfl rfl rfl
attribute [simp] ic68
/-! f39 sched.Rows -/
def nrows (t : Tab) : Nat := (t.head?.getD []).length
theorem e39 (t : Tab) : call X 39 [.agg [tabV t]] [] [] = some (.ret (int (nrows t)), [], []) := by
  rw [call_eq (by decide) (by simp)]
  cases t with
  | nil => simp [Tryz.func39, Tryz.f39, envOf, leave_pure, nrows]
  | cons a r =>
    have h : ¬ ((r.length : Int) + 1 = 0) := by omega
    simp [Tryz.func39, Tryz.f39, envOf, leave_pure, nrows, h]
theorem ic39 (t : Tab) : icall X (call X) 39 [.agg [tabV t]] = some (.ret (int (nrows t))) := icall_ret (by simp) (by simp) (e39 t) rfl rfl rfl
/-! f116 lin.Valid -/
def linValid (l : Lin) : Bool := l.C.all fits && decide (l.C.length ≤ 12) && fits l.K
def S116 (l : Lin) (i : Nat) (_ : Unit) : St := ⟨[(1, .ptr 0 0 0), (6, ints l.C), (7, int l.C.length), (8, int i)], [⟨2, [l.cs], .box⟩], [], 0⟩
def step116 (_ : Nat) (_ : Unit) (c : Int) : Unit ⊕ Unit := if fits c then .inl () else .inr ()
theorem fold116 (l : List Int) : ∀ i, foldS step116 i l () = if l.all fits then .inl () else .inr () := by
  induction l with
  | nil => intro i; rfl
  | cons c r ih =>
    intro i
    simp only [foldS, step116, List.all_cons]
    by_cases h : fits c = true <;> simp [h, ih]
theorem loop116 (l : Lin) (hl : l.C.length ≤ Max) : ∃ o, (∀ s, s.gc [1, 6, 7, 8] 1 0 = S116 l 0 () → loopE X 116 lb116_2 (St.gc [1, 6, 7, 8] 1 0) s = some o) ∧
    (l.C.all fits = true → ∃ e, o = .exit 0 ⟨e, [⟨2, [l.cs], .box⟩], [], 0⟩ ∧ get e 1 = .ptr 0 0 0) ∧ (l.C.all fits = false → ∃ e, o = .ret ⟨(2, .bool false) :: e, [⟨2, [l.cs], .box⟩], [], 0⟩) := by
  obtain ⟨o, h1, h2, h3⟩ := loop_list (X := X) (f := 116) (lb := lb116_2) (gc := St.gc [1, 6, 7, 8] 1 0) l.C (S116 l) (fun _ _ => True) step116 (fun _ o => ∃ e, o = .exit 0 ⟨e, [⟨2, [l.cs], .box⟩], [], 0⟩ ∧ get e 1 = .ptr 0 0 0) (fun _ o => ∃ e, o = .ret ⟨(2, .bool false) :: e, [⟨2, [l.cs], .box⟩], [], 0⟩)
    (fun b _ => by simp [lb116_2, Tryz.f116, S116, stops]) (fun i c b hc _ => by
      have hi := (List.getElem?_eq_some_iff.1 hc).1
      have hw := wrap_nat i (by simp [Max] at hl; omega)
      by_cases hf : fits c = true
      · simp [step116, lb116_2, Tryz.f116, S116, stops, hc, hi, hw, hf]
      · simp [step116, lb116_2, Tryz.f116, S116, stops, hc, hi, hw, hf]) 0 () (Nat.zero_le _) trivial
  rw [List.drop_zero, fold116] at h2 h3
  refine ⟨o, h1, fun h => (h2 () (by simp [h])).1, fun h => h3 () (by simp [h])⟩
theorem e116 (l : Lin) (hl : l.C.length ≤ Max) : call X 116 [.agg l.cs] [] [] = some (.ret (.bool (linValid l)), [], []) := by
  rw [call_eq (by decide) (by simp)]
  obtain ⟨o, h1, h2, h3⟩ := loop116 l hl
  simp only [lb116_2, Tryz.f116, S116, bodyOf_some, sub_seq0, sub_seq1, sub_block, sub_loop, sub_nil] at h1
  by_cases h : l.C.all fits = true
  · obtain ⟨e, rfl, he⟩ := h2 h
    by_cases hn : (l.C.length : Int) ≤ 12
    · have hn' : l.C.length ≤ 12 := by omega
      simp [hn', Tryz.func116, Tryz.f116, envOf, ex_loop, firstReg, h1, he, h, hn, linValid, leave_pure]
    · have hn' : ¬ l.C.length ≤ 12 := by omega
      simp [hn', Tryz.func116, Tryz.f116, envOf, ex_loop, firstReg, h1, he, h, hn, linValid, leave_pure]
  · obtain ⟨e, rfl⟩ := h3 (by simpa using h)
    simp [Tryz.func116, Tryz.f116, envOf, ex_loop, firstReg, h1, h, linValid, leave_pure]
end T
end

section
open Go Go.Proofs Go.Sym
namespace T
attribute [-simp] getElem?_pos
def okLin (l : Lin) : Prop := l.C.length ≤ 1073741824
def okRows (l : List Row) : Prop := l.length ≤ 1073741824 ∧ ∀ r ∈ l, okLin r.L
def okTab (t : Tab) : Prop := t.length ≤ 1073741824 ∧ ∀ l ∈ t, okRows l
/-! f24 headlandref02.Same of equals -/
def S24 (l : Lin) (i : Nat) : St := ⟨[(2, .ptr 0 0 0), (3, .ptr 1 0 0), (22, int l.C.length), (23, int i)], [⟨2, [l.cs], .box⟩, ⟨2, [l.cs], .box⟩], [], 0⟩
theorem loop24 (l : Lin) (hl : okLin l) : ∃ o, (∀ s, s.gc [2, 3, 22, 23] 2 0 = S24 l 0 → loopE X 24 lb24_4 (St.gc [2, 3, 22, 23] 2 0) s = some o) ∧ ∃ e, o = .exit 0 ⟨e, [⟨2, [l.cs], .box⟩, ⟨2, [l.cs], .box⟩], [], 0⟩ := by
  refine loop_unit l.C.length (S24 l) _ (by simp [lb24_4, Tryz.f24, S24, stops]) fun i hi => ?_
  have hw := wrap_nat i (by simp [okLin] at hl; omega)
  have hc := List.getElem?_eq_getElem hi
  simp [lb24_4, Tryz.f24, S24, hi, hw, hc]
theorem e24 (l : Lin) (hl : okLin l) : call X 24 [.agg l.cs, .agg l.cs] [] [] = some (.ret (.bool true), [], []) := by
  rw [call_eq (by decide) (by simp)]
  obtain ⟨o, h1, e, rfl⟩ := loop24 l hl
  simp only [lb24_4, Tryz.f24, S24, bodyOf_some, sub_seq0, sub_seq1, sub_block, sub_loop, sub_nil] at h1
  simp [Tryz.func24, Tryz.f24, envOf, ex_loop, firstReg, h1, leave_pure]
theorem ic24 (l : Lin) (hl : okLin l) : icall X (call X) 24 [.agg [.lst (szOf 1 (l.C.map intC)) (l.C.map intC) .no, .int .i64 l.K], .agg [.lst (szOf 1 (l.C.map intC)) (l.C.map intC) .no, .int .i64 l.K]] = some (.ret (.bool true)) := icall_ret (by simp) (by simp) (e24 l hl) rfl rfl rfl
/-! f12 headlandref17.Same of equals -/
def hp12 (t : Tab) : List Blk := [⟨1, [[tabV t]], .box⟩, ⟨1, [[tabV t]], .box⟩]
def S12a (t : Tab) (i : Nat) : St := ⟨[(2, .ptr 0 0 0), (3, .ptr 1 0 0), (17, int t.length), (18, int i)], hp12 t, [], 0⟩
def S12b (t : Tab) (i : Nat) (l : List Row) (j : Nat) : St := ⟨[(2, .ptr 0 0 0), (3, .ptr 1 0 0), (5, int i), (17, int t.length), (18, int i), (38, rowsV l), (39, int l.length), (40, int j)], hp12 t, [], 0⟩
theorem loop12b (t : Tab) (i : Nat) (l : List Row) (hl : okRows l) (ht : t[i]? = some l) :
    ∃ o, (∀ s, s.gc [2, 3, 5, 17, 18, 38, 39, 40] 2 0 = S12b t i l 0 → loopE X 12 lb12_9 (St.gc [2, 3, 5, 17, 18, 38, 39, 40] 2 0) s = some o) ∧ ∃ e, o = .exit 2 ⟨e, hp12 t, [], 0⟩ ∧ get e 2 = .ptr 0 0 0 ∧ get e 3 = .ptr 1 0 0 ∧ get e 17 = int t.length ∧ get e 18 = int i := by
  refine loop_unit l.length (S12b t i l) _ (by simp [lb12_9, Tryz.f12, S12b, hp12, stops]) fun j hj => ?_
  have hw := wrap_nat j (by have := hl.1; omega)
  have hc := List.getElem?_eq_getElem hj
  have h24 := ic24 l[j].L (hl.2 _ (List.getElem_mem hj))
  simp [lb12_9, Tryz.f12, S12b, hp12, hj, hw, hc, ht, h24]
theorem loop12a (t : Tab) (ht : okTab t) : ∃ o, (∀ s, s.gc [2, 3, 17, 18] 2 0 = S12a t 0 → loopE X 12 lb12_4 (St.gc [2, 3, 17, 18] 2 0) s = some o) ∧ ∃ e, o = .exit 0 ⟨e, hp12 t, [], 0⟩ := by
  refine loop_unit t.length (S12a t) _ (by simp [lb12_4, Tryz.f12, S12a, hp12, stops]) fun i hi => ?_
  have hw := wrap_nat i (by have := ht.1; omega)
  have hc := List.getElem?_eq_getElem hi
  obtain ⟨o, h1, e, rfl, g1, g2, g3, g4⟩ := loop12b t i t[i] (ht.2 _ (List.getElem_mem hi)) hc
  simp only [lb12_9, Tryz.f12, S12b, hp12, bodyOf_some, sub_seq0, sub_seq1, sub_block, sub_loop, sub_nil] at h1
  simp [lb12_4, Tryz.f12, S12a, hp12, hi, hw, hc, ex_loop, firstReg, h1, g1, g2, g3, g4]
theorem e12 (t : Tab) (ht : okTab t) : call X 12 [.agg [tabV t], .agg [tabV t]] [] [] = some (.ret (.bool true), [], []) := by
  rw [call_eq (by decide) (by simp)]
  obtain ⟨o, h1, e, rfl⟩ := loop12a t ht
  simp only [lb12_4, Tryz.f12, S12a, hp12, bodyOf_some, sub_seq0, sub_seq1, sub_block, sub_loop, sub_nil] at h1
  simp [Tryz.func12, Tryz.f12, envOf, ex_loop, firstReg, hp12, h1, leave_pure]
end T
end
