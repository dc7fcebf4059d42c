/- The law MovesUndone of headlandlaw20 returns true, at arguments of the row's types whose lengths are at most uptoBulk: a move that Do and Back accept is undone by the move that Back returns. Conditions: those of the given row (Rows.MovesUndoneUptoCardSaid), and no others. Part 7 of the proof: F39 F40 F41 F42 F43 F44 F45 F46 F47 F48 F49 F50 F51 F52 F53 F54 F55 F56 F57 F58 F59 F60 F61 F62 F63 F64 F65 F66 F67 F68 Iv Iw Iz. -/
import Derived.Test.YtfephppemgmokaaGreatDoorBf
import Derived.Test.YtfephppemgmokaaGreatDoorRows
set_option linter.unusedVariables false
set_option linter.unusedSimpArgs false
set_option linter.unusedSectionVars false
section
open Go Go.Proofs Go.Sym
namespace T
attribute [-simp] getElem?_pos
/-! f108 CopyStmts, f62 CopyStmt -/
def C62 (s : Stm) : Prop := icall X (call X) 62 [.agg s.cs] = some (.ret (.agg s.cs))
def S108 (l : List Stm) (i : Nat) : St := ⟨[(3, .lst 19 ((l.map Stm.cs).take i) (.tok 0)), (6, lst 19 (l.map Stm.cs)), (7, .int .i64 l.length), (8, .int .i64 i)], [], [i], 0⟩
theorem ic108 (l : List Stm) (hl : l.length ≤ 1073741823) (h : ∀ s ∈ l, C62 s) : icall X (call X) 108 [.lst (szOf 19 (l.map Stm.cs)) (l.map Stm.cs) .no] = some (.ret (.lst (szOf 19 (l.map Stm.cs)) (l.map Stm.cs) .no)) := by
  have hloop : ∃ o, (∀ s, s.gc [3, 6, 7, 8] 0 1 = S108 l 0 → loopE X 108 lb108_3 (St.gc [3, 6, 7, 8] 0 1) s = some o) ∧ ∃ e, o = .exit 0 ⟨e, [], [l.length], 0⟩ ∧ get e 3 = .lst 19 (l.map Stm.cs) (.tok 0) := by
    refine loop_unit l.length (S108 l) _ (by simp [lb108_3, Tryz.f108, S108, stops]) fun i hi => ?_
    have hc := List.getElem?_eq_getElem hi
    have hw := wrap_nat i (by omega)
    have hia := h l[i] (List.getElem_mem hi)
    have htk := take_snoc Stm.cs l i _ hc
    generalize l[i] = s at hc hia htk
    have hmin : min i l.length = i := Nat.min_eq_left (by omega)
    have hb : i ≤ 1073741823 := by omega
    obtain ⟨kind, name, low, high, step, mark, dim, pieces, tA, tS, val, body, els⟩ := s
    obtain ⟨op, k, L, rA, subs, args⟩ := val
    unfold C62 at hia
    simp only [Stm.cs_mk, ints_def, lst_def, tabV_def] at htk hia
    simp [lb108_3, Tryz.f108, S108, hi, hw, hc, hia, htk, hmin, hb]
  obtain ⟨o, h1, e, rfl, g1⟩ := hloop
  simp only [lb108_3, Tryz.f108, S108, bodyOf_some, sub_seq0, sub_seq1, sub_block, sub_loop, sub_nil] at h1
  refine icall_ret (v := .lst 19 (l.map Stm.cs) (.tok 0)) (H := []) (K := [l.length]) (by simp) (by simp) ?_ rfl rfl (by simp)
  rw [call_eq (by decide) (by simp)]
  simp [Tryz.func108, Tryz.f108, envOf, ex_loop, firstReg, h1, g1, leave_pure]
def z62 : List AV := [.int .i64 0, .str ⟨#[]⟩, .lst 0 [] .nil, .lst 0 [] .nil, .int .i64 0, .int .i64 0, .int .i64 0, .lst 0 [] .nil, .int .i64 0, .lst 0 [] .nil, .int .i64 0, .int .i64 0, .lst 0 [] .nil, .int .i64 0, .int .i64 0, .lst 0 [] .nil, .lst 0 [] .nil, .lst 0 [] .nil, .lst 0 [] .nil]
theorem z62_def : z62 = [.int .i64 0, .str ⟨#[]⟩, .lst 0 [] .nil, .lst 0 [] .nil, .int .i64 0, .int .i64 0, .int .i64 0, .lst 0 [] .nil, .int .i64 0, .lst 0 [] .nil, .int .i64 0, .int .i64 0, .lst 0 [] .nil, .int .i64 0, .int .i64 0, .lst 0 [] .nil, .lst 0 [] .nil, .lst 0 [] .nil, .lst 0 [] .nil] := Eq.trans rfl rfl
section
variable (A B : AV) (c0 c1 c2 c3 c4 c5 c6 c8 c9 d0 d1 d2 d3 d4 d5 d6 c17 c18 : AV)
def S62 (b0 : Blk) (row : AV → List AV) (P : List (List Cnd)) (i : Nat) : St := ⟨[(1, .ptr 0 0 0), (2, .ptr 1 0 0), (3, .ptr 2 0 0), (22, lst 1 (P.map pieC)), (23, .int .i64 P.length), (24, .int .i64 i)], [b0, ⟨19, [z62], .box⟩, ⟨19, [row (.lst 1 ((P.map pieC).take i) (.tok 0))], .box⟩], [i], 0⟩
end
theorem ic62 (kind : Int) (name : ByteArray) (low high : Tab) (step mark dim : Int) (pieces : List (List Cnd)) (tA : Int) (tS : List Lin) (op k : Int) (L : Lin) (rA : Int) (subs : List Lin) (args : List Ex) (body els : List Stm)
    (h2 : okTab' low) (h3 : okTab' high) (h4 : okPie pieces) (h5 : okLins tS) (h6 : OkEx (.mk op k L rA subs args))
    (hB : icall X (call X) 108 [.lst (szOf 19 (body.map Stm.cs)) (body.map Stm.cs) .no] = some (.ret (.lst (szOf 19 (body.map Stm.cs)) (body.map Stm.cs) .no)))
    (hE : icall X (call X) 108 [.lst (szOf 19 (els.map Stm.cs)) (els.map Stm.cs) .no] = some (.ret (.lst (szOf 19 (els.map Stm.cs)) (els.map Stm.cs) .no))) :
    C62 (.mk kind name low high step mark dim pieces tA tS (.mk op k L rA subs args) body els) := by
  have hLow := ic104 low h2
  have hHigh := ic104 high h3
  have h106 := ic106 tA tS h5
  have h107 := ic107 h6
  simp at h107
  generalize hrow : (fun c7 : AV => [.int .i64 kind, .str name, tabV low, tabV high, .int .i64 step, .int .i64 mark, .int .i64 dim, c7, .int .i64 tA, lst 2 (tS.map Lin.cs),
      .int .i64 op, .int .i64 k, ints L.C, .int .i64 L.K, .int .i64 rA, lst 2 (subs.map Lin.cs), lst 7 (args.map Ex.cs), lst 19 (body.map Stm.cs), lst 19 (els.map Stm.cs)]) = row
  have hloop : ∃ o, (∀ s, s.gc [1, 2, 3, 22, 23, 24] 3 1 = S62 ⟨19, [Stm.cs (.mk kind name low high step mark dim pieces tA tS (.mk op k L rA subs args) body els)], .box⟩ row pieces 0 → loopE X 62 lb62_5 (St.gc [1, 2, 3, 22, 23, 24] 3 1) s = some o) ∧
      ∃ e, o = .exit 0 ⟨e, [⟨19, [Stm.cs (.mk kind name low high step mark dim pieces tA tS (.mk op k L rA subs args) body els)], .box⟩, ⟨19, [z62], .box⟩, ⟨19, [row (.lst 1 (pieces.map pieC) (.tok 0))], .box⟩], [pieces.length], 0⟩ ∧ get e 1 = .ptr 0 0 0 ∧ get e 2 = .ptr 1 0 0 ∧ get e 3 = .ptr 2 0 0 := by
    refine loop_unit pieces.length (S62 _ row pieces) _ (by simp [lb62_5, Tryz.f62, S62, stops]) fun i hi => ?_
    have hc := List.getElem?_eq_getElem hi
    have hlen := h4.1
    have hw := wrap_nat i (by omega)
    have h105 := ic105 pieces[i] (h4.2 _ (List.getElem_mem hi))
    have htk := take_snoc pieC pieces i _ hc
    have hmin : min i pieces.length = i := Nat.min_eq_left (by omega)
    have hb : i ≤ 1073741823 := by omega
    simp only [pieC_def, lst_def] at htk
    subst hrow
    simp [lb62_5, Tryz.f62, S62, z62, hi, hw, hc, h105, htk, hmin, hb]
  obtain ⟨o, h1, e, rfl, g1, g2, g3⟩ := hloop
  subst hrow
  simp only [lb62_5, Tryz.f62, S62, bodyOf_some, sub_seq0, sub_seq1, sub_block, sub_loop, sub_nil] at h1
  unfold C62
  refine icall_ret (v := .agg [.int .i64 kind, .str name, tabV low, tabV high, .int .i64 step, .int .i64 mark, .int .i64 dim, .lst 1 (pieces.map pieC) (.tok 0), .int .i64 tA, lst 2 (tS.map Lin.cs),
      .int .i64 op, .int .i64 k, ints L.C, .int .i64 L.K, .int .i64 rA, lst 2 (subs.map Lin.cs), lst 7 (args.map Ex.cs), lst 19 (body.map Stm.cs), lst 19 (els.map Stm.cs)]) (H := []) (K := [pieces.length]) (by simp) (by simp) ?_ rfl rfl (by simp)
  rw [call_eq (by decide) (by simp)]
  simp [Tryz.func62, Tryz.f62, envOf, ex_loop, firstReg, z62, hLow, hHigh, h1, g1, g2, g3, h106, h107, hB, hE, leave_pure]
theorem copy_ok {s : Stm} (h : OkStm s) : C62 s := by
  induction h with
  | @mk kind name low high step mark dim pieces tA tS val body els h1 h2 h3 h4 h5 h6 h7 h8 h9 h10 ih1 ih2 =>
    obtain ⟨op, k, L, rA, subs, args⟩ := val
    exact ic62 kind name low high step mark dim pieces tA tS op k L rA subs args body els h2 h3 h4 h5 h6 (ic108 body h7 ih1) (ic108 els h8 ih2)
end T
end

section
open Go Go.Proofs Go.Sym
namespace T
attribute [-simp] getElem?_pos
/-! f133 need -/
def stp : AV := .iface 163 (.agg [])
theorem stp_def : stp = .iface 163 (.agg []) := Eq.trans rfl rfl
theorem pl163 : placeF Tryz.prog 163 = some (plc []) := by kernel_rfl
theorem ic133_t : icall X (call X) 133 [.bool true] = some (.ret (.tup [])) := by
  refine icall_ret (v := .tup []) (H := []) (K := []) (by simp) (by simp) ?_ rfl rfl (by simp)
  rw [call_eq (by decide) (by simp)]
  simp [Tryz.func133, Tryz.f133, envOf, leave_pure]
theorem ic133_f : icall X (call X) 133 [.bool false] = some (.panic (.iface 163 (.agg []))) := by
  refine icall_panic (H := []) (K := []) (by simp) ?_ rfl
  rw [call_eq (by decide) (by simp)]
  simp [Tryz.func133, Tryz.f133, envOf, pl163]
attribute [simp] ic133_t ic133_f
/-! f135 over -/
def over (n : Int) (l : Lin) : Bool := decide ((l.C.length : Int) = n) && linValid l
theorem ic135 (l : Lin) (hl : okLin l) (n : Int) : icall X (call X) 135 [.agg [.lst (szOf 1 (l.C.map intC)) (l.C.map intC) .no, .int .i64 l.K], .int .i64 n] = some (.ret (.bool (over n l))) := by
  have h := ic116 l hl
  refine icall_ret (v := .bool (over n l)) (H := []) (K := []) (by simp) (by simp) ?_ rfl rfl rfl
  rw [call_eq (by decide) (by simp)]
  by_cases c : (l.C.length : Int) = n
  · simp [Tryz.func135, Tryz.f135, envOf, h, c, over, leave_pure]
  · simp [Tryz.func135, Tryz.f135, envOf, h, c, over, leave_pure]
/-! f207 plainLin, f204 plainRef, f205 plainExpr, f203 unset -/
def plainLin (l : Lin) : Bool := decide (l.C.length = 0) && decide (l.K = 0)
theorem ic207 (l : Lin) : icall X (call X) 207 [.agg [.lst (szOf 1 (l.C.map intC)) (l.C.map intC) .no, .int .i64 l.K]] = some (.ret (.bool (plainLin l))) := by
  refine icall_ret (v := .bool (plainLin l)) (H := []) (K := []) (by simp) (by simp) ?_ rfl rfl rfl
  rw [call_eq (by decide) (by simp)]
  by_cases c : l.C = []
  · simp [Tryz.func207, Tryz.f207, envOf, c, plainLin, leave_pure]
  · simp [Tryz.func207, Tryz.f207, envOf, c, plainLin, leave_pure]
def plainRef (A : Int) (subs : List Lin) : Bool := decide (A = 0) && decide (subs.length = 0)
theorem ic204 (A : Int) (subs : List Lin) : icall X (call X) 204 [.agg [.int .i64 A, .lst (szOf 2 (subs.map Lin.cs)) (subs.map Lin.cs) .no]] = some (.ret (.bool (plainRef A subs))) := by
  refine icall_ret (v := .bool (plainRef A subs)) (H := []) (K := []) (by simp) (by simp) ?_ rfl rfl rfl
  rw [call_eq (by decide) (by simp)]
  by_cases c : A = 0
  · simp [Tryz.func204, Tryz.f204, envOf, c, plainRef, leave_pure]
  · simp [Tryz.func204, Tryz.f204, envOf, c, plainRef, leave_pure]
def plainEx : Ex → Bool
  | .mk op k L A subs args => decide (op = 0) && decide (k = 0) && plainLin L && plainRef A subs && decide (args.length = 0)
theorem ic205 (e : Ex) : icall X (call X) 205 [.agg e.cs] = some (.ret (.bool (plainEx e))) := by
  obtain ⟨op, k, L, A, subs, args⟩ := e
  have h1 := ic207 L
  have h2 := ic204 A subs
  refine icall_ret (v := .bool (plainEx (.mk op k L A subs args))) (H := []) (K := []) (by simp) (by simp) ?_ rfl rfl rfl
  rw [call_eq (by decide) (by simp)]
  by_cases c1 : op = 0
  · by_cases c2 : k = 0
    · by_cases c3 : plainLin L = true
      · by_cases c4 : plainRef A subs = true
        · simp [Tryz.func205, Tryz.f205, envOf, c1, c2, c3, c4, h1, h2, plainEx, leave_pure]
        · simp [Tryz.func205, Tryz.f205, envOf, c1, c2, c3, c4, h1, h2, plainEx, leave_pure]
      · simp [Tryz.func205, Tryz.f205, envOf, c1, c2, c3, h1, plainEx, leave_pure]
    · simp [Tryz.func205, Tryz.f205, envOf, c1, c2, plainEx, leave_pure]
  · simp [Tryz.func205, Tryz.f205, envOf, c1, plainEx, leave_pure]
def unset (dim : Int) (P : List (List Cnd)) : Bool := decide (dim = 0) && decide (P.length = 0)
theorem ic203 (dim : Int) (P : List (List Cnd)) : icall X (call X) 203 [.agg [.int .i64 dim, .lst (szOf 1 (P.map pieC)) (P.map pieC) .no]] = some (.ret (.bool (unset dim P))) := by
  refine icall_ret (v := .bool (unset dim P)) (H := []) (K := []) (by simp) (by simp) ?_ rfl rfl rfl
  rw [call_eq (by decide) (by simp)]
  by_cases c : dim = 0
  · simp [Tryz.func203, Tryz.f203, envOf, c, unset, leave_pure]
  · simp [Tryz.func203, Tryz.f203, envOf, c, unset, leave_pure]
end T
end

section
open Go Go.Proofs Go.Sym
namespace T
attribute [-simp] getElem?_pos
/-- A call that checks: it returns nothing, or it stops. -/
def Nd (x : Option IRes) : Prop := x = some (.ret (.tup [])) ∨ x = some (.panic (.iface 163 (.agg [])))
/-! f202 bound -/
def okB (n : Int) (r : Row) : Bool := over n r.L && decide (1 ≤ r.D) && decide (r.D ≤ 512)
section
variable (t : Tab) (n : Int)
def S202b (i : Nat) (l : List Row) (j : Nat) : St := ⟨[(1, .int .i64 n), (20, tabV t), (21, .int .i64 t.length), (22, .int .i64 i), (35, rowsV l), (36, .int .i64 l.length), (37, .int .i64 j)], [⟨1, [[tabV t]], .box⟩], [], 0⟩
theorem loop202b (i : Nat) (l : List Row) (hl : l.length ≤ 1073741823) (hr : ∀ r ∈ l, okLin r.L) : ∃ o, (∀ s, s.gc [1, 20, 21, 22, 35, 36, 37] 1 0 = S202b t n i l 0 → loopE X 202 lb202_7 (St.gc [1, 20, 21, 22, 35, 36, 37] 1 0) s = some o) ∧
    ((∃ e, o = .exit 2 ⟨e, [⟨1, [[tabV t]], .box⟩], [], 0⟩ ∧ get e 1 = .int .i64 n ∧ get e 20 = tabV t ∧ get e 21 = .int .i64 t.length ∧ get e 22 = .int .i64 i) ∨ ∃ e b, o = .panic (.iface 163 (.agg [])) ⟨e, b, [], 0⟩) := by
  refine loop_inv (S202b t n i l) (fun j => j ≤ l.length) (fun j => l.length - j) _ (fun j hj => ?_) 0 (Nat.zero_le _)
  by_cases hi : j < l.length
  · have hc := List.getElem?_eq_getElem hi
    have hw := wrap_nat j (by omega)
    have h135 := ic135 l[j].L (hr _ (List.getElem_mem hi)) n
    by_cases c1 : over n l[j].L = true
    · by_cases c2 : (1 : Int) ≤ l[j].D
      · by_cases c3 : l[j].D ≤ 512
        · right
          simp [lb202_7, Tryz.f202, S202b, hi, hw, hc, h135, c1, c2, c3]
          exact ⟨j + 1, by omega, by omega, by omega⟩
        · left
          simp [lb202_7, Tryz.f202, S202b, hi, hc, h135, c1, c2, c3, stops]
      · left
        simp [lb202_7, Tryz.f202, S202b, hi, hc, h135, c1, c2, stops]
    · left
      simp [lb202_7, Tryz.f202, S202b, hi, hc, h135, c1, stops]
  · left
    obtain rfl : j = l.length := by omega
    simp [lb202_7, Tryz.f202, S202b, stops]
def S202a (i : Nat) : St := ⟨[(1, .int .i64 n), (20, tabV t), (21, .int .i64 t.length), (22, .int .i64 i)], [⟨1, [[tabV t]], .box⟩], [], 0⟩
theorem loop202a (h : okTab' t) : ∃ o, (∀ s, s.gc [1, 20, 21, 22] 1 0 = S202a t n 0 → loopE X 202 lb202_3 (St.gc [1, 20, 21, 22] 1 0) s = some o) ∧
    ((∃ e, o = .exit 0 ⟨e, [⟨1, [[tabV t]], .box⟩], [], 0⟩) ∨ ∃ e b, o = .panic (.iface 163 (.agg [])) ⟨e, b, [], 0⟩) := by
  refine loop_inv (S202a t n) (fun i => i ≤ t.length) (fun i => t.length - i) _ (fun i hi' => ?_) 0 (Nat.zero_le _)
  by_cases hi : i < t.length
  · have hc := List.getElem?_eq_getElem hi
    have hw := wrap_nat i (by have := h.1; omega)
    obtain ⟨hl, hr⟩ := h.2 t[i] (List.getElem_mem hi)
    obtain ⟨o, h1, h2⟩ := loop202b t n i t[i] hl hr
    generalize t[i] = l at *
    simp only [lb202_7, Tryz.f202, S202b, bodyOf_some, sub_seq0, sub_seq1, sub_block, sub_loop, sub_nil] at h1
    simp at h1
    by_cases c1 : (1 : Int) ≤ l.length
    · have c1' : 1 ≤ l.length := by omega
      by_cases c2 : (l.length : Int) ≤ 96
      · have c2' : l.length ≤ 96 := by omega
        rcases h2 with ⟨e, rfl, g1, g2, g3, g4⟩ | ⟨e, b, rfl⟩
        · right
          simp [lb202_3, Tryz.f202, S202a, hi, hw, hc, c1, c1', c2, c2', ex_loop, firstReg, h1, g1, g2, g3, g4]
          exact ⟨i + 1, by omega, by omega, by omega⟩
        · left
          simp [lb202_3, Tryz.f202, S202a, hi, hc, c1, c1', c2, c2', ex_loop, firstReg, h1, stops]
      · have c2' : ¬ l.length ≤ 96 := by omega
        left
        simp [lb202_3, Tryz.f202, S202a, hi, hc, c1, c1', c2, c2', stops]
    · have c1' : ¬ 1 ≤ l.length := by omega
      have c1'' : l = [] := List.length_eq_zero_iff.1 (by omega)
      subst c1''
      left
      simp [lb202_3, Tryz.f202, S202a, hi, hc, stops]
  · left
    obtain rfl : i = t.length := by omega
    simp [lb202_3, Tryz.f202, S202a, stops]
theorem ic202 (h : okTab' t) : Nd (icall X (call X) 202 [.agg [.lst (szOf 1 (t.map rowsC)) (t.map rowsC) .no], .int .i64 n]) := by
  obtain ⟨o, h1, h2⟩ := loop202a t n h
  simp only [lb202_3, Tryz.f202, S202a, bodyOf_some, sub_seq0, sub_seq1, sub_block, sub_loop, sub_nil] at h1
  simp at h1
  by_cases c1 : (1 : Int) ≤ t.length
  · have c1' : 1 ≤ t.length := by omega
    by_cases c2 : (t.length : Int) ≤ 400
    · have c2' : t.length ≤ 400 := by omega
      rcases h2 with ⟨e, rfl⟩ | ⟨e, b, rfl⟩
      · left
        refine icall_ret (v := .tup []) (H := []) (K := []) (by simp) (by simp) ?_ rfl rfl rfl
        rw [call_eq (by decide) (by simp)]
        simp [Tryz.func202, Tryz.f202, envOf, ex_loop, firstReg, h1, c1, c1', c2, c2', leave_pure]
      · right
        refine icall_panic (H := []) (K := []) (by simp) ?_ rfl
        rw [call_eq (by decide) (by simp)]
        simp [Tryz.func202, Tryz.f202, envOf, ex_loop, firstReg, h1, c1, c1', c2, c2']
    · have c2' : ¬ t.length ≤ 400 := by omega
      right
      refine icall_panic (H := []) (K := []) (by simp) ?_ rfl
      rw [call_eq (by decide) (by simp)]
      simp [Tryz.func202, Tryz.f202, envOf, c1, c1', c2, c2']
  · have c1'' : t = [] := List.length_eq_zero_iff.1 (by omega)
    subst c1''
    right
    refine icall_panic (H := []) (K := []) (by simp) ?_ rfl
    rw [call_eq (by decide) (by simp)]
    simp [Tryz.func202, Tryz.f202, envOf]
end
end T
end

section
open Go Go.Proofs Go.Sym
namespace T
attribute [-simp] getElem?_pos
/-! f212 cond.Valid -/
theorem ic212 (c : Cnd) (h : okLin c.L) : ∃ b, icall X (call X) 212 [.agg [.int .i64 c.kind, .int .i64 c.m, .lst (szOf 1 (c.L.C.map intC)) (c.L.C.map intC) .no, .int .i64 c.L.K]] = some (.ret (.bool b)) := by
  have h116 := ic116 c.L h
  have fin : ∀ b, call X 212 [.agg c.cs] [] [] = some (.ret (.bool b), [], []) → ∃ b, icall X (call X) 212 [.agg [.int .i64 c.kind, .int .i64 c.m, .lst (szOf 1 (c.L.C.map intC)) (c.L.C.map intC) .no, .int .i64 c.L.K]] = some (.ret (.bool b)) := fun b h => ⟨b, icall_ret (by simp) (by simp) h rfl rfl rfl⟩
  by_cases k0 : c.kind = 0
  · by_cases m0 : c.m = 0
    · refine fin (linValid c.L) ?_
      rw [call_eq (by decide) (by simp)]
      simp [Tryz.func212, Tryz.f212, envOf, k0, m0, h116, leave_pure]
    · refine fin false ?_
      rw [call_eq (by decide) (by simp)]
      simp [Tryz.func212, Tryz.f212, envOf, k0, m0, leave_pure]
  · by_cases k1 : c.kind = 1
    · by_cases m0 : c.m = 0
      · refine fin (linValid c.L) ?_
        rw [call_eq (by decide) (by simp)]
        simp [Tryz.func212, Tryz.f212, envOf, k1, m0, h116, leave_pure]
      · refine fin false ?_
        rw [call_eq (by decide) (by simp)]
        simp [Tryz.func212, Tryz.f212, envOf, k1, m0, leave_pure]
    · by_cases k2 : c.kind = 2
      · by_cases m1 : 1 ≤ c.m
        · by_cases m2 : c.m ≤ 512
          · refine fin (linValid c.L) ?_
            rw [call_eq (by decide) (by simp)]
            simp [Tryz.func212, Tryz.f212, envOf, k2, m1, m2, h116, leave_pure]
          · refine fin false ?_
            rw [call_eq (by decide) (by simp)]
            simp [Tryz.func212, Tryz.f212, envOf, k2, m1, m2, leave_pure]
        · refine fin false ?_
          rw [call_eq (by decide) (by simp)]
          simp [Tryz.func212, Tryz.f212, envOf, k2, m1, leave_pure]
      · refine fin false ?_
        rw [call_eq (by decide) (by simp)]
        simp [Tryz.func212, Tryz.f212, envOf, k0, k1, k2, leave_pure]
/-! f211 set.over -/
def S211 (P : List Cnd) (n : Int) (i : Nat) : St := ⟨[(1, .int .i64 n), (7, lst 4 (P.map Cnd.cs)), (8, .int .i64 P.length), (9, .int .i64 i)], [], [], 0⟩
theorem ic211 (P : List Cnd) (h : P.length ≤ 1073741823 ∧ ∀ c ∈ P, okLin c.L) (n : Int) : ∃ b, icall X (call X) 211 [.lst (szOf 4 (P.map Cnd.cs)) (P.map Cnd.cs) .no, .int .i64 n] = some (.ret (.bool b)) := by
  have hloop : ∃ o, (∀ s, s.gc [1, 7, 8, 9] 0 0 = S211 P n 0 → loopE X 211 lb211_2 (St.gc [1, 7, 8, 9] 0 0) s = some o) ∧ ((∃ e, o = .exit 0 ⟨e, [], [], 0⟩) ∨ ∃ e b, o = .ret ⟨(4, .bool false) :: e, b, [], 0⟩) := by
    refine loop_inv (S211 P n) (fun i => i ≤ P.length) (fun i => P.length - i) _ (fun i hi' => ?_) 0 (Nat.zero_le _)
    by_cases hi : i < P.length
    · have hc := List.getElem?_eq_getElem hi
      have hw := wrap_nat i (by have := h.1; omega)
      obtain ⟨b, hb⟩ := ic212 P[i] (h.2 _ (List.getElem_mem hi))
      cases b with
      | false => left; simp [lb211_2, Tryz.f211, S211, hi, hc, hb, stops]
      | true =>
        by_cases c1 : (P[i].L.C.length : Int) = n
        · right
          simp [lb211_2, Tryz.f211, S211, hi, hw, hc, hb, c1]
          exact ⟨i + 1, by omega, by omega, by omega⟩
        · left
          simp [lb211_2, Tryz.f211, S211, hi, hc, hb, c1, stops]
    · left
      obtain rfl : i = P.length := by omega
      simp [lb211_2, Tryz.f211, S211, stops]
  obtain ⟨o, h1, h2⟩ := hloop
  simp only [lb211_2, Tryz.f211, S211, bodyOf_some, sub_seq0, sub_seq1, sub_block, sub_loop, sub_nil] at h1
  simp at h1
  rcases h2 with ⟨e, rfl⟩ | ⟨e, b, rfl⟩
  · refine ⟨true, icall_ret (v := .bool true) (H := []) (K := []) (by simp) (by simp) ?_ rfl rfl rfl⟩
    rw [call_eq (by decide) (by simp)]
    simp [Tryz.func211, Tryz.f211, envOf, ex_loop, firstReg, h1, leave_pure]
  · refine ⟨false, icall_ret (v := .bool false) (H := []) (K := []) (by simp) (by simp) ?_ rfl rfl rfl⟩
    rw [call_eq (by decide) (by simp)]
    simp [Tryz.func211, Tryz.f211, envOf, ex_loop, firstReg, h1, leave_pure]
/-! f210 set.Valid -/
def S210 (dim : Int) (P : List (List Cnd)) (i : Nat) : St := ⟨[(1, .ptr 0 0 0), (20, lst 1 (P.map pieC)), (21, .int .i64 P.length), (22, .int .i64 i)], [⟨2, [[.int .i64 dim, lst 1 (P.map pieC)]], .box⟩], [], 0⟩
theorem ic210 (dim : Int) (P : List (List Cnd)) (h : okPie P) : ∃ b, icall X (call X) 210 [.agg [.int .i64 dim, .lst (szOf 1 (P.map pieC)) (P.map pieC) .no]] = some (.ret (.bool b)) := by
  have hloop : ∃ o, (∀ s, s.gc [1, 20, 21, 22] 1 0 = S210 dim P 0 → loopE X 210 lb210_4 (St.gc [1, 20, 21, 22] 1 0) s = some o) ∧ ((∃ e b, o = .exit 0 ⟨e, b, [], 0⟩) ∨ ∃ e b, o = .ret ⟨(2, .bool false) :: e, b, [], 0⟩) := by
    refine loop_inv (S210 dim P) (fun i => i ≤ P.length) (fun i => P.length - i) _ (fun i hi' => ?_) 0 (Nat.zero_le _)
    by_cases hi : i < P.length
    · have hc := List.getElem?_eq_getElem hi
      have hw := wrap_nat i (by have := h.1; omega)
      by_cases c1 : (96 : Int) < P[i].length
      · have c1' : 96 < P[i].length := by omega
        left; simp [lb210_4, Tryz.f210, S210, hi, hc, c1, c1', stops]
      · have c1' : ¬ 96 < P[i].length := by omega
        obtain ⟨b, hb⟩ := ic211 P[i] (h.2 _ (List.getElem_mem hi)) dim
        cases b with
        | false => left; simp [lb210_4, Tryz.f210, S210, hi, hc, c1, c1', hb, stops]
        | true =>
          right
          simp [lb210_4, Tryz.f210, S210, hi, hw, hc, c1, c1', hb]
          exact ⟨i + 1, by omega, by omega, by omega⟩
    · left
      obtain rfl : i = P.length := by omega
      simp [lb210_4, Tryz.f210, S210, stops]
  obtain ⟨o, h1, h2⟩ := hloop
  simp only [lb210_4, Tryz.f210, S210, bodyOf_some, sub_seq0, sub_seq1, sub_block, sub_loop, sub_nil] at h1
  simp at h1
  by_cases d0 : dim < 0
  · refine ⟨false, icall_ret (v := .bool false) (H := []) (K := []) (by simp) (by simp) ?_ rfl rfl rfl⟩
    rw [call_eq (by decide) (by simp)]
    simp [Tryz.func210, Tryz.f210, envOf, d0, leave_pure]
  · by_cases d1 : 12 < dim
    · refine ⟨false, icall_ret (v := .bool false) (H := []) (K := []) (by simp) (by simp) ?_ rfl rfl rfl⟩
      rw [call_eq (by decide) (by simp)]
      simp [Tryz.func210, Tryz.f210, envOf, d0, d1, leave_pure]
    · by_cases d2 : (400 : Int) < P.length
      · have d2' : 400 < P.length := by omega
        refine ⟨false, icall_ret (v := .bool false) (H := []) (K := []) (by simp) (by simp) ?_ rfl rfl rfl⟩
        rw [call_eq (by decide) (by simp)]
        simp [Tryz.func210, Tryz.f210, envOf, d0, d1, d2, d2', leave_pure]
      · have d2' : ¬ 400 < P.length := by omega
        rcases h2 with ⟨e, b, rfl⟩ | ⟨e, b, rfl⟩
        · refine ⟨true, icall_ret (v := .bool true) (H := []) (K := []) (by simp) (by simp) ?_ rfl rfl rfl⟩
          rw [call_eq (by decide) (by simp)]
          simp [Tryz.func210, Tryz.f210, envOf, ex_loop, firstReg, h1, d0, d1, d2, d2', leave_pure]
        · refine ⟨false, icall_ret (v := .bool false) (H := []) (K := []) (by simp) (by simp) ?_ rfl rfl rfl⟩
          rw [call_eq (by decide) (by simp)]
          simp [Tryz.func210, Tryz.f210, envOf, ex_loop, firstReg, h1, d0, d1, d2, d2', leave_pure]
end T
end

section
open Go Go.Proofs Go.Sym
namespace T
attribute [-simp] getElem?_pos
/-! f209 blank -/
theorem ic209 (s : Stm) : ∃ b, icall X (call X) 209 [.agg s.cs] = some (.ret (.bool b)) := by
  obtain ⟨kind, name, low, high, step, mark, dim, pieces, tA, tS, val, body, els⟩ := s
  obtain ⟨op, k, L, rA, subs, args⟩ := val
  have fin : ∀ b, call X 209 [.agg (Stm.cs (.mk kind name low high step mark dim pieces tA tS (.mk op k L rA subs args) body els))] [] [] = some (.ret (.bool b), [], []) → ∃ b, icall X (call X) 209 [.agg (Stm.cs (.mk kind name low high step mark dim pieces tA tS (.mk op k L rA subs args) body els))] = some (.ret (.bool b)) := fun b h => ⟨b, icall_ret (by simp) (by simp) h rfl rfl rfl⟩
  by_cases c1 : name.toList.isEmpty = true
  · by_cases c2 : low = []
    · by_cases c3 : high = []
      · by_cases c4 : step = 0
        · refine fin (decide (mark = 0)) ?_
          rw [call_eq (by decide) (by simp)]
          simp [Tryz.func209, Tryz.f209, envOf, c1, c2, c3, c4, leave_pure]
        · refine fin false ?_
          rw [call_eq (by decide) (by simp)]
          simp [Tryz.func209, Tryz.f209, envOf, c1, c2, c3, c4, leave_pure]
      · refine fin false ?_
        rw [call_eq (by decide) (by simp)]
        simp [Tryz.func209, Tryz.f209, envOf, c1, c2, c3, leave_pure]
    · refine fin false ?_
      rw [call_eq (by decide) (by simp)]
      simp [Tryz.func209, Tryz.f209, envOf, c1, c2, leave_pure]
  · refine fin false ?_
    rw [call_eq (by decide) (by simp)]
    simp [Tryz.func209, Tryz.f209, envOf, c1, leave_pure]
end T
end

section
open Go Go.Proofs Go.Sym
namespace T
attribute [-simp] getElem?_pos
/-! f167 digit (f166 letter has a guard on an operation that is itself guarded: see NOTES) -/
theorem ic167 (c : Int) : ∃ b, icall X (call X) 167 [.int .u8 c] = some (.ret (.bool b)) := by
  by_cases c1 : 48 ≤ c
  · refine ⟨decide (c ≤ 57), icall_ret (v := .bool (decide (c ≤ 57))) (H := []) (K := []) (by simp) (by simp) ?_ rfl rfl rfl⟩
    rw [call_eq (by decide) (by simp)]
    simp [Tryz.func167, Tryz.f167, envOf, c1, leave_pure]
  · refine ⟨false, icall_ret (v := .bool false) (H := []) (K := []) (by simp) (by simp) ?_ rfl rfl rfl⟩
    rw [call_eq (by decide) (by simp)]
    simp [Tryz.func167, Tryz.f167, envOf, c1, leave_pure]
/-! f169 Index, f151 Contains -/
def S169 (l : List ByteArray) (s : ByteArray) (i : Nat) : St := ⟨[(0, lst 1 (l.map strC)), (1, .str s), (7, .int .i64 l.length), (8, .int .i64 i)], [], [], 0⟩
theorem ic169 (l : List ByteArray) (hl : l.length ≤ 1073741823) (s : ByteArray) : ∃ n, icall X (call X) 169 [.lst (szOf 1 (l.map strC)) (l.map strC) .no, .str s] = some (.ret (.int .i64 n)) := by
  have hloop : ∃ o, (∀ s', s'.gc [0, 1, 7, 8] 0 0 = S169 l s 0 → loopE X 169 lb169_2 (St.gc [0, 1, 7, 8] 0 0) s' = some o) ∧ ((∃ e, o = .exit 0 ⟨e, [], [], 0⟩) ∨ ∃ (e : _) (n : Int), o = .ret ⟨(4, .int .i64 n) :: e, [], [], 0⟩) := by
    refine loop_inv (S169 l s) (fun i => i ≤ l.length) (fun i => l.length - i) _ (fun i hi' => ?_) 0 (Nat.zero_le _)
    by_cases hi : i < l.length
    · have hc := List.getElem?_eq_getElem hi
      have hw := wrap_nat i (by omega)
      generalize l[i] = x at hc
      by_cases c1 : (s.toList == x.toList) = true
      · left; simp [-beq_iff_eq, lb169_2, Tryz.f169, S169, hi, hc, c1, stops]
      · right
        rw [Bool.not_eq_true] at c1
        simp [lb169_2, Tryz.f169, S169, hi, hw, hc, c1]
        exact ⟨i + 1, by omega, by omega, by omega⟩
    · left
      obtain rfl : i = l.length := by omega
      simp [lb169_2, Tryz.f169, S169, stops]
  obtain ⟨o, h1, h2⟩ := hloop
  simp only [lb169_2, Tryz.f169, S169, bodyOf_some, sub_seq0, sub_seq1, sub_block, sub_loop, sub_nil] at h1
  simp at h1
  rcases h2 with ⟨e, rfl⟩ | ⟨e, n, rfl⟩
  · refine ⟨-1, icall_ret (v := .int .i64 (-1)) (H := []) (K := []) (by simp) (by simp) ?_ rfl rfl rfl⟩
    rw [call_eq (by decide) (by simp)]
    simp [Tryz.func169, Tryz.f169, envOf, ex_loop, firstReg, h1, leave_pure]
  · refine ⟨n, icall_ret (v := .int .i64 n) (H := []) (K := []) (by simp) (by simp) ?_ rfl rfl rfl⟩
    rw [call_eq (by decide) (by simp)]
    simp [Tryz.func169, Tryz.f169, envOf, ex_loop, firstReg, h1, leave_pure]
theorem ic151 (l : List ByteArray) (hl : l.length ≤ 1073741823) (s : ByteArray) : ∃ b, icall X (call X) 151 [.lst (szOf 1 (l.map strC)) (l.map strC) .no, .str s] = some (.ret (.bool b)) := by
  obtain ⟨n, hn⟩ := ic169 l hl s
  refine ⟨decide (0 ≤ n), icall_ret (v := .bool (decide (0 ≤ n))) (H := []) (K := []) (by simp) (by simp) ?_ rfl rfl rfl⟩
  rw [call_eq (by decide) (by simp)]
  simp [Tryz.func151, Tryz.f151, envOf, hn, leave_pure]
end T
end

section
open Go Go.Proofs Go.Sym
namespace T
attribute [-simp] getElem?_pos
/-! f136 kindOf -/
def kindV (kind : Int) : Nat := if kind = 1 then 222 else if kind = 2 then 223 else 224
def Stm.kind : Stm → Int | .mk k _ _ _ _ _ _ _ _ _ _ _ _ => k
def okK (k : Int) : Bool := decide (k = 1) || decide (k = 2) || decide (k = 3)
theorem ic136_ok (s : Stm) (h : okK s.kind = true) : icall X (call X) 136 [.agg s.cs] = some (.ret (.iface (kindV s.kind) (.agg s.cs))) := by
  obtain ⟨kind, name, low, high, step, mark, dim, pieces, tA, tS, val, body, els⟩ := s
  obtain ⟨op, k, L, rA, subs, args⟩ := val
  have h : okK kind = true := h
  show _ = some (IRes.ret (.iface (kindV kind) _))
  simp only [okK, Bool.or_eq_true, decide_eq_true_eq] at h
  refine icall_ret (v := .iface (kindV kind) (.agg (Stm.cs (.mk kind name low high step mark dim pieces tA tS (.mk op k L rA subs args) body els)))) (H := []) (K := []) (by simp) (by simp) ?_ rfl (by simp) (by simp)
  rw [call_eq (by decide) (by simp)]
  rcases h with (rfl | rfl) | rfl
  · simp [Tryz.func136, Tryz.f136, envOf, kindV, leave_pure]
  · simp [Tryz.func136, Tryz.f136, envOf, kindV, leave_pure]
  · simp [Tryz.func136, Tryz.f136, envOf, kindV, leave_pure]
theorem ic136_no (s : Stm) (h : okK s.kind = false) : icall X (call X) 136 [.agg s.cs] = some (.panic (.iface 163 (.agg []))) := by
  obtain ⟨kind, name, low, high, step, mark, dim, pieces, tA, tS, val, body, els⟩ := s
  obtain ⟨op, k, L, rA, subs, args⟩ := val
  have h : okK kind = false := h
  simp only [okK, Bool.or_eq_false_iff, decide_eq_false_iff_not] at h
  refine icall_panic (H := []) (K := []) (by simp) ?_ rfl
  rw [call_eq (by decide) (by simp)]
  simp [Tryz.func136, Tryz.f136, envOf, h.1.1, h.1.2, h.2, pl163]
end T
end

section
open Go Go.Proofs Go.Sym
namespace T
attribute [-simp] getElem?_pos
theorem sc84 (cl : CallFn) (args H K) : scall X cl 84 args H K = insE args H K := scall_some (F := insE) rfl
theorem sc89 (cl : CallFn) (args H K) : scall X cl 89 args H K = delF args H K := scall_some (F := delF) rfl
attribute [simp] sc84 sc89 insE_win
theorem lstN_rows (l : List Row) : lstN 3 (l.map Row.cs) = rowsV l := Eq.trans rfl rfl
theorem del_win (l : List Row) (a : Nat) (ha : a < l.length) (H : List Blk) (K : List Nat) (b : Nat) (hk : H[b]? = some (winB l)) (c : Option Nat) :
    delF [.win b 0 l.length c, .int .i64 a, .int .i64 ((a : Int) + 1)] H K = some (.ret (rowsV (fuseL a l)), H.set b ⟨3, [], .dead⟩, K) := by
  have h0 : l ≠ [] := by rintro rfl; simp at ha
  simp only [delF, hk]
  rw [if_pos (by refine ⟨rfl, rfl, by omega, by simp [winB], by simp [winB], by omega, by omega, trivial⟩), ← lstN_rows, fuseL]
  simp [winB, List.map_take, List.map_drop]
theorem ins_win (l : List Row) (a : Nat) (ha : a ≤ l.length) (h0 : l ≠ []) (v : List Row) (hv : v ≠ []) (hb : l.length + v.length ≤ 1073741824) (H : List Blk) (K : List Nat) (b : Nat) (hk : H[b]? = some (winB l)) (c : Option Nat) (q : Cap) :
    insF [.win b 0 l.length c, .int .i64 a, .lst 3 (v.map Row.cs) q] H K = some (.ret (rowsV (l.take a ++ v ++ l.drop a)), H.set b ⟨3, [], .dead⟩, K) := by
  have hl0 : 0 < l.length := by cases l with | nil => exact absurd rfl h0 | cons => simp
  have hv0 : 0 < v.length := by cases v with | nil => exact absurd rfl hv | cons => simp
  simp only [insF, hk]
  rw [if_pos (by refine ⟨rfl, rfl, by omega, by simp [winB], by simp [winB], by omega, by omega, by simpa using hv0, by simpa using hb⟩), ← lstN_rows]
  simp [winB, List.map_take, List.map_drop]
/-! f88 fuse$1, f46 fuse -/
theorem makes88 (k0 : Blk) (m : Mv) (l : List Row) (i a : Nat) (ha : m.a = a) (h1 : a < l.length) (hl : l.length ≤ 1073741824) : Makes2 k0 (mvB m) 88 i l (fuseL a l) := fun K => by
  refine ⟨rowsV (fuseL a l), [⟨3, [], .dead⟩], K, fun kb => ?_, rfl, fun kb => by simp⟩
  rw [call_eq (by decide) (by simp)]
  have hw := wrap_nat a (by omega)
  have h := del_win l a h1 [k0, mvB m, kb, winB l] K 3 rfl none
  simp only [winB_def, mvB_def, rowsV_def, Mv.cs_def, int_def, ints_def, ha] at h
  simp at h
  simp [Tryz.func88, Tryz.f88, envOf, ha, hw, h, leave_pure]
end T
end

section
open Go Go.Proofs Go.Sym
namespace T
attribute [-simp] getElem?_pos
theorem Good.ne {t : Tab} {n : Nat} (h : Good t n) {a : Nat} (ha : a < n) : ∀ l ∈ t, l ≠ [] := fun l hl e => by
  have := h.even l hl
  rw [e] at this
  simp at this
  omega
theorem e46' (irs : List (List AV)) (n : Nat) (t : Tab) (m : Mv) (hG : Good t n) : ∃ T K, call X 46 [.agg (tblC irs n t), .agg m.cs] [] [] = some (.ret T, [], K) ∧ Ret T (fuseT n t m) := by
  by_cases h1 : rowB n m.a = true
  · obtain ⟨a, ha, han⟩ := rowB_nat h1
    have h1' := h1
    rw [ha] at h1'
    have r2 := ic87 irs n t hG.ok a (hG.wide han)
    by_cases hw : (!t.any (notW a) && !t.any (notC a)) = true
    · rw [hw] at r2
      obtain ⟨K, h⟩ := e47 t (t.map (fuseL a)) hG.ok.1 hG.ok.len (hG.ne han) (by simp) ⟨3, [tblC irs n t], .box⟩ (mvB m) 88 ⟨by decide, rfl⟩ (sh_all 88 rfl (by simp)) (fun i l l' e1 e2 => by
        have hl := hG.even l (List.mem_of_getElem? e1)
        have : l' = fuseL a l := by
          rw [List.getElem?_map, e1] at e2
          simp only [Option.map_some, Option.some.injEq] at e2
          exact e2.symm
        rw [this]
        exact makes88 _ m l i a ha (by omega) (hG.ok.len l (List.mem_of_getElem? e1))) []
      refine ⟨.tup [tabV (t.map (fuseL a)), int 0], K, ?_, ?_⟩
      · rw [call_eq (by decide) (by simp)]
        simp only [tabV_def, mvB_def, tblC_def, infV_def, int_def, Mv.cs_def, ints_def, ha] at h
        simp [-List.map_map, Tryz.func46, Tryz.f46, envOf, ha, h1', r2, h, leave_pure]
      · simp only [Bool.and_eq_true] at hw
        have : fuseT n t m = some (t.map (fuseL a)) := by
          unfold fuseT
          rw [h1, ha]
          simp only [Int.toNat_natCast, hw.1, hw.2]
          rfl
        rw [this]; rfl
    · rw [Bool.not_eq_true] at hw
      rw [hw] at r2
      refine ⟨.tup [.lst 0 [] .nil, int 9], [], ?_, ret_none (by decide) ?_⟩
      · rw [call_eq (by decide) (by simp)]
        simp [Tryz.func46, Tryz.f46, envOf, ha, h1', r2, leave_pure]
      · unfold fuseT
        rw [ha]
        simp only [Int.toNat_natCast, Bool.and_assoc, hw, Bool.and_false]
        rfl
  · refine ⟨.tup [.lst 0 [] .nil, int 6], [], ?_, ret_none (by decide) (by simp [fuseT, h1])⟩
    rw [call_eq (by decide) (by simp)]
    simp [Tryz.func46, Tryz.f46, envOf, h1, leave_pure]
theorem mover46 : Mover 46 fun _ n t m => fuseT n t m := fun is t m hc ht _ _ => e46' _ _ t m (hc.good ht)
/-! f83 tile$1 -/
def tilesL (a b : Nat) (k : Int) (l : List Row) : List Row := ((l.take b).drop a).map fun r => ⟨r.L, k⟩
theorem tok_last (K : List Nat) (i : Nat) : (K ++ [i])[K.length]? = some i := by rw [List.getElem?_append_right (Nat.le_refl _)]; simp
theorem tok_set (K : List Nat) (i j : Nat) : (K ++ [i]).set K.length j = K ++ [j] := by rw [List.set_append_right _ _ (Nat.le_refl _)]; simp
attribute [simp] tok_last tok_set
def S83 (k0 kb : Blk) (m : Mv) (l : List Row) (a b : Nat) (K : List Nat) (i : Nat) : St :=
  ⟨[(1, .win 3 0 l.length none), (2, .ptr 1 0 0), (6, .lst 3 (((tilesL a b m.k l).take i).map Row.cs) (.tok K.length)), (14, .win 3 a (b - a) none), (15, int ((b - a : Nat) : Int)), (16, int i)], [k0, mvB m, kb, winB l], K ++ [i], 4⟩
theorem tilesL_len {a b : Nat} {k : Int} {l : List Row} (hb : b ≤ l.length) : (tilesL a b k l).length = b - a := by simp [tilesL]; omega
theorem loop83 (k0 kb : Blk) (m : Mv) (l : List Row) (a b : Nat) (hab : a < b) (hb : b ≤ l.length) (hl : l.length ≤ 1073741823) (K : List Nat) :
    ∃ o, (∀ s, s.gc [1, 2, 6, 14, 15, 16] 4 (K.length + 1) = S83 k0 kb m l a b K 0 → loopE X 83 lb83_3 (St.gc [1, 2, 6, 14, 15, 16] 4 (K.length + 1)) s = some o) ∧
    ∃ e, o = .exit 0 ⟨e, [k0, mvB m, kb, winB l], K ++ [b - a], 4⟩ ∧ get e 1 = .win 3 0 l.length none ∧ get e 2 = .ptr 1 0 0 ∧ get e 6 = .lst 3 ((tilesL a b m.k l).map Row.cs) (.tok K.length) := by
  refine loop_unit (b - a) (S83 k0 kb m l a b K) _ ?_ fun i hi => ?_
  · have e1 : (tilesL a b m.k l).take (b - a) = tilesL a b m.k l := List.take_of_length_le (by rw [tilesL_len hb]; exact Nat.le_refl _)
    simp [lb83_3, Tryz.f83, S83, stops, e1]
  · have hw := wrap_nat i (by omega)
    have hc := List.getElem?_eq_getElem (show a + i < l.length by omega)
    have hlt : ((i : Int) < ((b - a : Nat) : Int)) := by omega
    have hai : a + i < l.length := by omega
    have ht : min i (tilesL a b m.k l).length = i := by rw [tilesL_len hb]; omega
    have hi2 : i ≤ 1073741823 := by omega
    have hn : (tilesL a b m.k l).take (i + 1) = (tilesL a b m.k l).take i ++ [⟨l[a + i].L, m.k⟩] := by
      rw [List.take_add_one]
      have : (tilesL a b m.k l)[i]? = some ⟨l[a + i].L, m.k⟩ := by
        simp only [tilesL, List.getElem?_map, List.getElem?_drop, List.getElem?_take]
        rw [if_pos (by omega), hc]
        rfl
      rw [this]; rfl
    simp [-List.map_take, lb83_3, Tryz.f83, S83, hlt, hw, hc, hn, hai, ht, hi2]
end T
end

section
open Go Go.Proofs Go.Sym
namespace T
attribute [-simp] getElem?_pos
theorem makes83 (k0 : Blk) (m : Mv) (l : List Row) (i a b : Nat) (ha : m.a = a) (hb : m.b = b) (hab : a < b) (hbl : b ≤ l.length) (hl : l.length ≤ 536870912) : Makes2 k0 (mvB m) 83 i l (tileL a b m.k l) := fun K => by
  refine ⟨rowsV (tileL a b m.k l), [⟨3, [], .dead⟩], K ++ [b - a], fun kb => ?_, rfl, fun kb => by simp⟩
  obtain ⟨o, h1, e, rfl, g1, g2, g3⟩ := loop83 k0 kb m l a b hab hbl (by omega) K
  simp only [lb83_3, Tryz.f83, S83, bodyOf_some, sub_seq0, sub_seq1, sub_block, sub_loop, sub_nil, List.take_zero, List.map_nil] at h1
  have hn : tilesL a b m.k l ≠ [] := fun e => by have := tilesL_len (a := a) (k := m.k) hbl; rw [e] at this; simp at this; omega
  have h := ins_win l a (by omega) (by rintro rfl; simp at hbl; omega) (tilesL a b m.k l) hn (by rw [tilesL_len hbl]; omega) [k0, mvB m, kb, winB l] (K ++ [b - a]) 3 rfl none (.tok K.length)
  have ht : l.take a ++ tilesL a b m.k l ++ l.drop a = tileL a b m.k l := rfl
  rw [ht] at h
  simp only [winB_def, mvB_def, rowsV_def, Mv.cs_def, int_def, ints_def, ha, hb] at h h1
  simp [-List.map_map] at h h1
  have hab' : a ≤ b := by omega
  rw [call_eq (by decide) (by simp)]
  simp [-List.map_map, Tryz.func83, Tryz.f83, envOf, ex_loop, firstReg, ha, hb, hbl, hab', h1, g1, g2, g3, h, leave_pure]
/-! f44 tile -/
def S44 (irs : List (List AV)) (n : Nat) (t : Tab) (m : Mv) (a : Nat) : St := ⟨[(2, .ptr 0 0 0), (3, .ptr 1 0 0), (6, int a)], [⟨3, [tblC irs n t], .box⟩, mvB m], [], 0⟩
theorem loop44 (irs : List (List AV)) (n : Nat) (t : Tab) (m : Mv) (ht : okTab t) (a0 b : Nat) (hb : m.b = b) (hbn : b ≤ n) (hn : n ≤ 1073741823) (hw : ∀ a, a < n → wide t a) (ha0 : a0 ≤ b) :
    ∃ o, (∀ s, s.gc [2, 3, 6] 2 0 = S44 irs n t m a0 → loopE X 44 lb44_4 (St.gc [2, 3, 6] 2 0) s = some o) ∧
    ((((List.range b).drop a0).any (fun a => t.any (notW a)) = false ∧ ∃ e, o = .exit 0 ⟨e, [⟨3, [tblC irs n t], .box⟩, mvB m], [], 0⟩ ∧ get e 2 = .ptr 0 0 0 ∧ get e 3 = .ptr 1 0 0) ∨
     (((List.range b).drop a0).any (fun a => t.any (notW a)) = true ∧ ∃ e, o = .ret ⟨(5, int 9) :: (4, .lst 0 [] .nil) :: e, [⟨3, [tblC irs n t], .box⟩, mvB m], [], 0⟩)) := by
  have key : ((List.range b).drop a0).any (fun a => t.any (notW a)) = true ↔ ∃ x, a0 ≤ x ∧ x < b ∧ t.any (notW x) = true := by
    simp only [List.any_eq_true]
    constructor
    · rintro ⟨x, hx, y, hy, hy2⟩
      obtain ⟨j, hj, rfl⟩ := List.getElem_of_mem hx
      simp at hj
      exact ⟨_, by simp, by simp; omega, y, hy, hy2⟩
    · rintro ⟨x, h1, h2, y, hy, hy2⟩
      refine ⟨x, ?_, y, hy, hy2⟩
      rw [List.mem_iff_getElem?]
      exact ⟨x - a0, by rw [List.getElem?_drop, show a0 + (x - a0) = x by omega, List.getElem?_range h2]⟩
  generalize ((List.range b).drop a0).any (fun a => t.any (notW a)) = B at *
  refine loop_inv (S44 irs n t m) (fun a => a0 ≤ a ∧ a ≤ b ∧ ∀ x, a0 ≤ x → x < a → t.any (notW x) = false) (fun a => b - a) _ (fun a hI => ?_) a0 ⟨Nat.le_refl _, ha0, fun x h1 h2 => by omega⟩
  obtain ⟨i1, i2, i3⟩ := hI
  by_cases hlt : a < b
  · have h77 := ic77 irs n t ht a (hw a (by omega))
    have hwr := wrap_nat a (by omega)
    by_cases hc : t.any (notW a) = true
    · left
      rw [hc] at h77
      have hB : B = true := key.2 ⟨a, i1, hlt, hc⟩
      simp [lb44_4, Tryz.f44, S44, hb, hlt, h77, stops, hB]
    · rw [Bool.not_eq_true] at hc
      rw [hc] at h77
      right
      simp [lb44_4, Tryz.f44, S44, hb, hlt, h77, hwr]
      refine ⟨a + 1, by omega, ⟨by omega, by omega, fun x h1 h2 => ?_⟩, by omega⟩
      by_cases e : x = a
      · subst e; simpa using hc
      · simpa using i3 x h1 (by omega)
  · left
    obtain rfl : a = b := by omega
    have hB : B = false := by
      rw [← Bool.not_eq_true, key]
      rintro ⟨x, h1, h2, h3⟩
      rw [i3 x h1 h2] at h3
      cases h3
    simp [lb44_4, Tryz.f44, S44, hb, stops, hB]
end T
end

section
open Go Go.Proofs Go.Sym
namespace T
attribute [-simp] getElem?_pos
theorem e44' (irs : List (List AV)) (n : Nat) (t : Tab) (m : Mv) (hG : Good t n) (hn8 : n ≤ 8) : ∃ T K, call X 44 [.agg (tblC irs n t), .agg m.cs] [] [] = some (.ret T, [], K) ∧ Ret T (tileT n t m) := by
  by_cases c1 : m.a < 0
  · refine ⟨.tup [.lst 0 [] .nil, int 6], [], ?_, ret_none (by decide) (by simp [tileT, c1])⟩
    rw [call_eq (by decide) (by simp)]
    simp [Tryz.func44, Tryz.f44, envOf, c1, leave_pure]
  by_cases c2 : m.b ≤ m.a
  · refine ⟨.tup [.lst 0 [] .nil, int 6], [], ?_, ret_none (by decide) (by simp [tileT, c2])⟩
    rw [call_eq (by decide) (by simp)]
    simp [Tryz.func44, Tryz.f44, envOf, c1, c2, leave_pure]
  by_cases c3 : (n : Int) < m.b
  · refine ⟨.tup [.lst 0 [] .nil, int 6], [], ?_, ret_none (by decide) (by simp [tileT, c3])⟩
    rw [call_eq (by decide) (by simp)]
    simp [Tryz.func44, Tryz.f44, envOf, c1, c2, c3, leave_pure]
  by_cases c4 : m.k < 2
  · refine ⟨.tup [.lst 0 [] .nil, int 6], [], ?_, ret_none (by decide) (by simp [tileT, c4])⟩
    rw [call_eq (by decide) (by simp)]
    simp [Tryz.func44, Tryz.f44, envOf, c1, c2, c3, c4, leave_pure]
  by_cases c5 : 64 < m.k
  · refine ⟨.tup [.lst 0 [] .nil, int 6], [], ?_, ret_none (by decide) (by simp [tileT, c5])⟩
    rw [call_eq (by decide) (by simp)]
    simp [Tryz.func44, Tryz.f44, envOf, c1, c2, c3, c4, c5, leave_pure]
  obtain ⟨a, ha⟩ : ∃ a : Nat, m.a = a := ⟨m.a.toNat, by omega⟩
  obtain ⟨b, hb⟩ : ∃ b : Nat, m.b = b := ⟨m.b.toNat, by omega⟩
  have hab : a < b := by omega
  have hbn : b ≤ n := by omega
  have hc0 : ¬ (m.a < 0 ∨ m.b ≤ m.a ∨ (n : Int) < m.b ∨ m.k < 2 ∨ 64 < m.k) := by omega
  obtain ⟨o, h1, h2⟩ := loop44 irs n t m hG.ok a b hb hbn (by omega) (fun a ha => hG.wide ha) (by omega)
  simp only [lb44_4, Tryz.f44, S44, bodyOf_some, sub_seq0, sub_seq1, sub_block, sub_loop, sub_nil] at h1
  have c1' : ¬ ((a : Int) < 0) := by omega
  have c2' : ¬ ((b : Int) ≤ (a : Int)) := by omega
  have c2'' : ¬ (b ≤ a) := by omega
  have c3' : ¬ ((n : Int) < (b : Int)) := by omega
  have c3'' : ¬ (n < b) := by omega
  have w1 : IntKind.i64.wrap ((n : Int) + (b : Int)) = (n : Int) + (b : Int) := wrap_id _ (by omega) (by omega)
  have w2 : IntKind.i64.wrap ((n : Int) + (b : Int) - (a : Int)) = (n : Int) + (b : Int) - (a : Int) := wrap_id _ (by omega) (by omega)
  simp only [tabV_def, mvB_def, tblC_def, infV_def, int_def, Mv.cs_def, ints_def, ha, hb] at h1
  rcases h2 with ⟨hB, e, rfl, g1, g2⟩ | ⟨hB, e, rfl⟩
  · by_cases c6 : 8 < (n : Int) + (b : Int) - (a : Int)
    · refine ⟨.tup [.lst 0 [] .nil, int 3], [], ?_, ret_none (by decide) ?_⟩
      · rw [call_eq (by decide) (by simp)]
        simp [Tryz.func44, Tryz.f44, envOf, ha, hb, c1', c2', c2'', c3', c3'', c4, c5, ex_loop, firstReg, h1, g1, g2, w1, w2, c6, leave_pure]
      · unfold tileT
        rw [if_neg hc0, ha, hb]
        simp only [Int.toNat_natCast, hB, c6, if_true, if_false, Bool.false_eq_true]
    · obtain ⟨K, h⟩ := e47 t (t.map (tileL a b m.k)) hG.ok.1 hG.ok.len (hG.ne (show a < n by omega)) (by simp) ⟨3, [tblC irs n t], .box⟩ (mvB m) 83 ⟨by decide, rfl⟩ (sh_all 83 rfl (by simp)) (fun i l l' e1 e2 => by
        have hl := hG.even l (List.mem_of_getElem? e1)
        have : l' = tileL a b m.k l := by
          rw [List.getElem?_map, e1] at e2
          simp only [Option.map_some, Option.some.injEq] at e2
          exact e2.symm
        rw [this]
        exact makes83 _ m l i a b ha hb hab (by omega) (by omega)) []
      refine ⟨.tup [tabV (t.map (tileL a b m.k)), int 0], K, ?_, ?_⟩
      · rw [call_eq (by decide) (by simp)]
        simp only [tabV_def, mvB_def, tblC_def, infV_def, int_def, Mv.cs_def, ints_def, ha, hb] at h
        simp [-List.map_map, Tryz.func44, Tryz.f44, envOf, ha, hb, c1', c2', c2'', c3', c3'', c4, c5, ex_loop, firstReg, h1, g1, g2, w1, w2, c6, h, leave_pure]
      · have : tileT n t m = some (t.map (tileL a b m.k)) := by
          unfold tileT
          rw [if_neg hc0, ha, hb]
          simp only [Int.toNat_natCast, hB, c6, if_false, Bool.false_eq_true]
        rw [this]; rfl
  · refine ⟨.tup [.lst 0 [] .nil, int 9], [], ?_, ret_none (by decide) ?_⟩
    · rw [call_eq (by decide) (by simp)]
      simp [Tryz.func44, Tryz.f44, envOf, ha, hb, c1', c2', c2'', c3', c3'', c4, c5, ex_loop, firstReg, h1, leave_pure]
    · unfold tileT
      rw [if_neg hc0, ha, hb]
      simp only [Int.toNat_natCast, hB, if_true]
theorem mover44 : Mover 44 fun _ n t m => tileT n t m := fun _ t m hc ht _ _ => e44' _ _ t m (hc.good ht) hc.n8
end T
end

section
open Go Go.Proofs Go.Sym
namespace T
attribute [-simp] getElem?_pos
/-! f86 cut$2 -/
def k0C (is : List Inf) (n : Int) (t : Tab) : Blk := ⟨3, [tblC (is.map Inf.cs) n t], .box⟩
theorem k0C_def (is n t) : k0C is n t = ⟨3, [tblC (is.map Inf.cs) n t], .box⟩ := Eq.trans rfl rfl
theorem cutR_cs (i : Inf) (c : Int) : (cutR i c).cs = [.lst (szOf 1 (List.replicate i.nm.length [.int .i64 0])) (List.replicate i.nm.length [.int .i64 0]) .no, .int .i64 c, .int .i64 1] := by simp [cutR]
theorem e86 (is : List Inf) (n : Int) (t : Tab) (m : Mv) (kb : Blk) (l : List Row) (k a : Nat) (i : Inf) (c : Int) (hi : is[k]? = some i) (hc : m.list[k]? = some c) (hnm : i.nm.length ≤ 12) (ha : m.a = a) (h1 : a ≤ l.length) (h0 : l ≠ []) (hl : l.length ≤ 536870912) (K : List Nat) :
    call X 86 [int k, .win 3 0 l.length none, .ptr 0 0 0, .ptr 1 0 0] [k0C is n t, mvB m, kb, winB l] K = some (.ret (rowsV (l.take a ++ [cutR i c] ++ l.drop a)), [k0C is n t, mvB m, kb, ⟨3, [], .dead⟩], K) := by
  have hlk := (List.getElem?_eq_some_iff.1 hi).1
  have hlc := (List.getElem?_eq_some_iff.1 hc).1
  have h := ins_win l a h1 h0 [cutR i c] (by simp) (by simp; omega) [k0C is n t, mvB m, kb, winB l, ⟨2, [[.lst 1 (List.replicate i.nm.length [.int .i64 0]) .exact, .int .i64 c]], .box⟩] K 3 rfl none .exact
  have hb : i.nm.length ≤ 1073741824 := by omega
  simp only [k0C_def, winB_def, mvB_def, rowsV_def, Mv.cs_def, int_def, ints_def, ha, List.map_cons, List.map_nil, cutR_cs] at h ⊢
  simp at h
  rw [call_eq (by decide) (by simp)]
  simp [Tryz.func86, Tryz.f86, envOf, ha, hi, hc, hlk, hlc, hb, h, leave_pure]
theorem e86n (is : List Inf) (n : Int) (t : Tab) (m : Mv) (kb : Blk) (k : Nat) (i : Inf) (c : Int) (hi : is[k]? = some i) (hc : m.list[k]? = some c) (hnm : i.nm.length ≤ 12) (ha : m.a = 0) (q : Nat) (K : List Nat) (hq : K[q]? = some 0) :
    call X 86 [int k, .lst 3 [] (.tok q), .ptr 0 0 0, .ptr 1 0 0] [k0C is n t, mvB m, kb] K = some (.ret (.lst 3 [(cutR i c).cs] (.tok q)), [k0C is n t, mvB m, kb], K.set q 1) := by
  have hlk := (List.getElem?_eq_some_iff.1 hi).1
  have hlc := (List.getElem?_eq_some_iff.1 hc).1
  have hb : i.nm.length ≤ 1073741824 := by omega
  have h : ∀ H, insE [.lst 3 [] (.tok q), .int .i64 0, .lst 3 [(cutR i c).cs] .exact] H K = some (.ret (.lst 3 [(cutR i c).cs] (.tok q)), H, K.set q 1) := fun H => by
    show (if _ then _ else _) = _
    rw [if_pos ⟨rfl, hq, by simp, by simp⟩]
    rfl
  simp only [k0C_def, winB_def, mvB_def, rowsV_def, Mv.cs_def, int_def, ints_def, ha, List.map_cons, List.map_nil, cutR_cs] at h ⊢
  rw [call_eq (by decide) (by simp)]
  simp [Tryz.func86, Tryz.f86, envOf, ha, hi, hc, hlk, hlc, hb, h, leave_pure]
end T
end

section
open Go Go.Proofs Go.Sym
namespace T
attribute [-simp] getElem?_pos
/-! f47 each, with a closure over two boxes -/
section
variable (t t' : Tab) (k0 k1 : Blk) (g : Nat)
def S47d (p : Nat × List Nat) : St := ⟨[(1, .fn g [.ptr 0 0 0, .ptr 1 0 0]), (5, .win 2 0 t.length (some t.length)), (11, tabV t), (12, int t.length), (13, int p.1)], [k0, k1, ⟨1, part (t'.map rowsC) z47 p.1, .box⟩], p.2, 2⟩
def Makes3 (i : Nat) (l l' : List Row) : Prop := ∀ kb K, call X g [int i, .win 3 0 l.length none, .ptr 0 0 0, .ptr 1 0 0] [k0, k1, kb, winB l] K = some (.ret (rowsV l'), [k0, k1, kb, ⟨3, [], .dead⟩], K)
theorem loop47d (ht : t.length ≤ 1073741824) (htt : ∀ l ∈ t, l.length ≤ 1073741824) (hne : ∀ l ∈ t, l ≠ []) (hlen : t'.length = t.length) (hg : decide (g < 1000000) = true ∧ sprimT g = none) (hs : shareT g = fun _ => true)
    (hF : ∀ i l l', t[i]? = some l → t'[i]? = some l' → Makes3 k0 k1 g i l l') (K : List Nat) :
    ∃ o, (∀ s, s.gc [1, 5, 11, 12, 13] 3 K.length = S47d t t' k0 k1 g (0, K) → loopE X 47 lb47_3 (St.gc [1, 5, 11, 12, 13] 3 K.length) s = some o) ∧ ∃ e K', o = .exit 0 ⟨e, [k0, k1, ⟨1, t'.map rowsC, .box⟩], K', 2⟩ ∧ get e 5 = .win 2 0 t.length (some t.length) := by
  refine loop_inv (S47d t t' k0 k1 g) (fun p => p.1 ≤ t.length) (fun p => t.length - p.1) _ (fun p hp => ?_) (0, K) (Nat.zero_le _)
  obtain ⟨i, K1⟩ := p
  by_cases hi : i < t.length
  · right
    have hc := List.getElem?_eq_getElem hi
    have hc' := List.getElem?_eq_getElem (show i < t'.length by omega)
    have h1 := hF i _ _ hc hc'
    have hw := wrap_nat i (by omega)
    have hn : t[i] ≠ [] := hne _ (List.getElem_mem hi)
    have h90 := e90 t[i] (htt _ (List.getElem_mem hi)) hn [k0, k1, ⟨1, part (t'.map rowsC) z47 i, .box⟩] K1
    have hsh : shareT 90 [rowsV t[i]] = true := by
      cases h : t[i] with
      | nil => exact absurd h hn
      | cons a q => rfl
    have hz : (part (t'.map rowsC) z47 i)[i]? = some [.lst 0 [] .nil] := by rw [part_get, if_neg (by omega), if_pos (by simp; omega), z47_def]
    have h1' := h1 ⟨1, part (t'.map rowsC) z47 i, .box⟩ K1
    have hps : (List.map (scrubL 3 K1.length) (List.map (sealL 3 (fun b => [k0, k1, ⟨1, (part (t'.map rowsC) z47 i).set i [rowsV t'[i]], .box⟩, (⟨3, [], .dead⟩ : Blk)][b]?)) ((part (t'.map rowsC) z47 i).set i [rowsV t'[i]]))) = part (t'.map rowsC) z47 (i + 1) := by
      refine part_step2 _ _ _ _ (rowsC t'[i]) _ i (by simp [hc']) (fun y hy => ?_) (by simp [z47]) (by simp)
      obtain ⟨l, _, rfl⟩ := List.mem_map.1 hy
      simp
    simp only [rowsV_def, winB_def, int_def] at *
    simp [-List.map_set, -List.map_map, lb47_3, Tryz.f47, S47d, hi, hc, hw, hs, hg, hsh, h90, h1', hz, hps]
    exact ⟨i + 1, ⟨by omega, rfl⟩, by omega, by omega⟩
  · left
    obtain rfl : i = t.length := by simp at hp; omega
    have hpf : part (t'.map rowsC) z47 t.length = t'.map rowsC := by
      have := part_full (t'.map rowsC) z47
      rwa [List.length_map, hlen] at this
    simp [lb47_3, Tryz.f47, S47d, stops, hpf]
theorem e47d (ht : t.length ≤ 1073741824) (htt : ∀ l ∈ t, l.length ≤ 1073741824) (hne : ∀ l ∈ t, l ≠ []) (hlen : t'.length = t.length) (hg : decide (g < 1000000) = true ∧ sprimT g = none) (hs : shareT g = fun _ => true)
    (hF : ∀ i l l', t[i]? = some l → t'[i]? = some l' → Makes3 k0 k1 g i l l') (K : List Nat) : ∃ K', call X 47 [tabV t, .fn g [.ptr 0 0 0, .ptr 1 0 0]] [k0, k1] K = some (.ret (tabV t'), [k0, k1], K') := by
  obtain ⟨o, h1, e, K', rfl, h2⟩ := loop47d t t' k0 k1 g ht htt hne hlen hg hs hF K
  refine ⟨K', ?_⟩
  simp only [lb47_3, Tryz.f47, S47d, bodyOf_some, sub_seq0, sub_seq1, sub_block, sub_loop, sub_nil, part_zero, List.length_map, hlen] at h1
  rw [call_eq (by decide) (by simp)]
  have hb : t'.length = t.length := hlen
  simp [Tryz.func47, Tryz.f47, envOf, ex_loop, firstReg, h1, h2, z47, ht, hb, leave_pure]
/-! .. over empty lists -/
def rowE (k : Nat) (l : List Row) : List AV := [.lst 3 (l.map Row.cs) (.tok k)]
def S47e (i : Nat) : St := ⟨[(1, .fn g [.ptr 0 0 0, .ptr 1 0 0]), (5, .win 2 0 t.length (some t.length)), (11, tabV t), (12, int t.length), (13, int i)], [k0, k1, ⟨1, part (t'.mapIdx rowE) z47 i, .box⟩], List.replicate i 1, 2⟩
theorem loop47e (ht : t.length ≤ 1073741824) (hem : ∀ l ∈ t, l = []) (hlen : t'.length = t.length) (hg : decide (g < 1000000) = true ∧ sprimT g = none) (hs : shareT g = fun _ => true)
    (hF : ∀ (i : Nat) l', t'[i]? = some l' → ∃ r : Row, l' = [r] ∧ ∀ kb (q : Nat) (K : List Nat), K[q]? = some 0 → call X g [int i, .lst 3 [] (.tok q), .ptr 0 0 0, .ptr 1 0 0] [k0, k1, kb] K = some (.ret (.lst 3 [r.cs] (.tok q)), [k0, k1, kb], K.set q 1)) :
    ∃ o, (∀ s, s.gc [1, 5, 11, 12, 13] 3 0 = S47e t t' k0 k1 g 0 → loopE X 47 lb47_3 (St.gc [1, 5, 11, 12, 13] 3 0) s = some o) ∧ ∃ e K, o = .exit 0 ⟨e, [k0, k1, ⟨1, t'.mapIdx rowE, .box⟩], K, 2⟩ ∧ get e 5 = .win 2 0 t.length (some t.length) := by
  refine loop_unit t.length (S47e t t' k0 k1 g) _ ?_ fun i hi => ?_
  · have hpf : part (t'.mapIdx rowE) z47 t.length = t'.mapIdx rowE := by
      have := part_full (t'.mapIdx rowE) z47
      rwa [List.length_mapIdx, hlen] at this
    simp [lb47_3, Tryz.f47, S47e, stops, hpf]
  · have hc : t[i]? = some [] := by rw [List.getElem?_eq_getElem hi, hem _ (List.getElem_mem hi)]
    have hc' := List.getElem?_eq_getElem (show i < t'.length by omega)
    obtain ⟨r, hr, h1⟩ := hF i _ hc'
    have hw := wrap_nat i (by omega)
    have h1' := h1 ⟨1, part (t'.mapIdx rowE) z47 i, .box⟩ i (List.replicate i 1 ++ [0]) (by have := tok_last (List.replicate i 1) 0; rwa [List.length_replicate] at this)
    have hset : (List.replicate i 1 ++ [0]).set i 1 = List.replicate (i + 1) 1 := by
      have := tok_set (List.replicate i 1) 0 1
      rw [List.length_replicate] at this
      rw [this, List.replicate_succ']
    rw [hset] at h1'
    have hz : (part (t'.mapIdx rowE) z47 i)[i]? = some [.lst 0 [] .nil] := by rw [part_get, if_neg (by omega), if_pos (by simp; omega), z47_def]
    have hps : (List.map (scrubL 3 (i + 1)) (List.map (sealL 3 (fun b => [k0, k1, (⟨1, (part (t'.mapIdx rowE) z47 i).set i [.lst 3 [r.cs] (.tok i)], .box⟩ : Blk)][b]?)) ((part (t'.mapIdx rowE) z47 i).set i [.lst 3 [r.cs] (.tok i)]))) = part (t'.mapIdx rowE) z47 (i + 1) := by
      have e1 : part (t'.mapIdx rowE) z47 (i + 1) = (part (t'.mapIdx rowE) z47 i).set i [.lst 3 [r.cs] (.tok i)] := by
        rw [part_set]
        rw [List.getElem?_mapIdx, hc', hr]; rfl
      rw [e1, List.map_map]
      conv => rhs; rw [← List.map_id ((part (t'.mapIdx rowE) z47 i).set i [.lst 3 [r.cs] (.tok i)])]
      refine List.map_congr_left fun y hy => ?_
      rcases List.mem_or_eq_of_mem_set hy with hy | rfl
      · unfold part at hy
        rcases List.mem_append.1 hy with hy | hy
        · obtain ⟨j, hj⟩ := List.getElem?_of_mem hy
          rw [List.getElem?_take] at hj
          split at hj
          · rename_i hji
            rw [List.getElem?_mapIdx, Option.map_eq_some_iff] at hj
            obtain ⟨l, _, rfl⟩ := hj
            simp [rowE, show j < i + 1 by omega]
          · cases hj
        · rw [(List.mem_replicate.1 hy).2]
          simp [z47]
      · simp
    simp only [rowsV_def, winB_def, int_def, Row.cs_def, ints_def] at *
    simp [-List.map_set, -List.map_map, lb47_3, Tryz.f47, S47e, hi, hc, hw, hs, hg, h1', hz, hps]
end
end T
end

section
open Go Go.Proofs Go.Sym
namespace T
attribute [-simp] getElem?_pos
theorem e47e (t t' : Tab) (k0 k1 : Blk) (g : Nat) (ht : t.length ≤ 1073741824) (hem : ∀ l ∈ t, l = []) (hlen : t'.length = t.length) (hg : decide (g < 1000000) = true ∧ sprimT g = none) (hs : shareT g = fun _ => true)
    (hF : ∀ (i : Nat) l', t'[i]? = some l' → ∃ r : Row, l' = [r] ∧ ∀ kb (q : Nat) (K : List Nat), K[q]? = some 0 → call X g [int i, .lst 3 [] (.tok q), .ptr 0 0 0, .ptr 1 0 0] [k0, k1, kb] K = some (.ret (.lst 3 [r.cs] (.tok q)), [k0, k1, kb], K.set q 1)) :
    ∃ K', call X 47 [tabV t, .fn g [.ptr 0 0 0, .ptr 1 0 0]] [k0, k1] [] = some (.ret (tabV t'), [k0, k1], K') := by
  obtain ⟨o, h1, e, K', rfl, h2⟩ := loop47e t t' k0 k1 g ht hem hlen hg hs hF
  refine ⟨K', ?_⟩
  have hpu : purR (t'.mapIdx rowE) = true := by
    have : ∀ (l : List (List Row)) (j : Nat), purR (l.mapIdx fun i => rowE (i + j)) = true := by
      intro l
      induction l with
      | nil => intro j; rfl
      | cons a r ih =>
        intro j
        rw [List.mapIdx_cons]
        simp only [purR, Bool.and_eq_true]
        refine ⟨by simp [rowE], ?_⟩
        have := ih (j + 1)
        simpa [Nat.add_assoc, Nat.add_comm 1 j] using this
    simpa using this t' 0
  have hnr : (t'.mapIdx rowE).map normL = t'.map rowsC := by
    refine List.ext_getElem? fun j => ?_
    simp only [List.getElem?_map, List.getElem?_mapIdx]
    cases t'[j]? with
    | none => rfl
    | some l => simp [rowE]
  have hsz : szOf 1 (t'.mapIdx rowE) = szOf 1 (t'.map rowsC) := szOf_ext _ _ _ (by simp)
  simp only [lb47_3, Tryz.f47, S47e, bodyOf_some, sub_seq0, sub_seq1, sub_block, sub_loop, sub_nil, part_zero, List.length_mapIdx, hlen] at h1
  rw [call_eq (by decide) (by simp)]
  have hb : t'.length = t.length := hlen
  simp [Tryz.func47, Tryz.f47, envOf, ex_loop, firstReg, h1, h2, z47, ht, hb, hpu, hnr, hsz, leave_pure]
/-! f45 cut -/
theorem ic85 (c : Int) : icall X (call X) 85 [.int .i64 c] = some (.ret (.bool (!fits c))) := by
  refine icall_ret (v := .bool (!fits c)) (H := []) (K := []) (by simp) (by simp) ?_ rfl rfl rfl
  rw [call_eq (by decide) (by simp)]
  simp [Tryz.func85, Tryz.f85, envOf, leave_pure]
theorem e45' (is : List Inf) (t : Tab) (m : Mv) (hC : Chkd is t) (ht : okTab t) (hm : m.list.length ≤ 1073741824) (hnm : ∀ i ∈ is, i.nm.length ≤ 12) : ∃ T K, call X 45 [.agg (tblC (is.map Inf.cs) (nrows t) t), .agg m.cs] [] [] = some (.ret T, [], K) ∧ Ret T (cutM is (nrows t) t m) := by
  have hG := hC.good ht
  by_cases c1 : m.a < 0
  · refine ⟨.tup [.lst 0 [] .nil, int 6], [], ?_, ret_none (by decide) (by simp [cutM, c1])⟩
    rw [call_eq (by decide) (by simp)]
    simp [Tryz.func45, Tryz.f45, envOf, c1, leave_pure]
  by_cases c2 : (nrows t : Int) < m.a
  · refine ⟨.tup [.lst 0 [] .nil, int 6], [], ?_, ret_none (by decide) (by simp [cutM, c2])⟩
    rw [call_eq (by decide) (by simp)]
    simp [Tryz.func45, Tryz.f45, envOf, c1, c2, leave_pure]
  have hc12 : ¬ (m.a < 0 ∨ (nrows t : Int) < m.a) := by omega
  by_cases c3 : m.list.length = t.length
  · have h69 := e69 m.list hm 85 ⟨by decide, rfl⟩ (sh_fun 85 rfl (by simp)) (fun c => !fits c) ic85
    by_cases c4 : m.list.any (fun c => !fits c) = true
    · rw [c4] at h69
      refine ⟨.tup [.lst 0 [] .nil, int 3], [], ?_, ret_none (by decide) (by unfold cutM; rw [if_neg hc12, if_neg (by simp [c3]), c4]; rfl)⟩
      rw [call_eq (by decide) (by simp)]
      simp [Tryz.func45, Tryz.f45, envOf, c1, c2, c3, h69, leave_pure]
    · rw [Bool.not_eq_true] at c4
      rw [c4] at h69
      by_cases c5 : (8 : Int) ≤ nrows t
      · have c5' : 8 ≤ nrows t := by omega
        refine ⟨.tup [.lst 0 [] .nil, int 3], [], ?_, ret_none (by decide) (by unfold cutM; rw [if_neg hc12, if_neg (by simp [c3]), c4]; simp [c5'])⟩
        rw [call_eq (by decide) (by simp)]
        simp [Tryz.func45, Tryz.f45, envOf, c1, c2, c3, h69, c5, c5', leave_pure]
      · have c5' : ¬ 8 ≤ nrows t := by omega
        obtain ⟨a, ha⟩ : ∃ a : Nat, m.a = a := ⟨m.a.toNat, by omega⟩
        have hcut : cutM is (nrows t) t m = some (t.mapIdx (cutL is m)) := by
          unfold cutM
          rw [if_neg hc12, if_neg (by simp [c3]), c4]
          simp [c5']
        have hat : ∀ (k : Nat) l, t[k]? = some l → ∃ i c, is[k]? = some i ∧ m.list[k]? = some c ∧ i.nm.length ≤ 12 ∧ cutL is m k l = l.take a ++ [cutR i c] ++ l.drop a := fun k l hk => by
          have hlt := (List.getElem?_eq_some_iff.1 hk).1
          have h1 := List.getElem?_eq_getElem (show k < is.length by rw [← hC.len]; exact hlt)
          have h2 := List.getElem?_eq_getElem (show k < m.list.length by omega)
          refine ⟨_, _, h1, h2, hnm _ (List.getElem_mem _), ?_⟩
          simp only [cutL, h1, h2, ha, Int.toNat_natCast]
          simp
        have h : ∃ K, call X 47 [tabV t, .fn 86 [.ptr 0 0 0, .ptr 1 0 0]] [k0C is (nrows t) t, mvB m] [] = some (.ret (tabV (t.mapIdx (cutL is m))), [k0C is (nrows t) t, mvB m], K) := by
          by_cases hn : nrows t = 0
          · have hem : ∀ l ∈ t, l = [] := fun l hl => List.length_eq_zero_iff.1 (by rw [hG.even l hl, hn])
            refine e47e t (t.mapIdx (cutL is m)) _ _ 86 ht.1 hem (by simp) ⟨by decide, rfl⟩ (sh_all 86 rfl (by simp)) fun k l' hk => ?_
            rw [List.getElem?_mapIdx, Option.map_eq_some_iff] at hk
            obtain ⟨l, hl, rfl⟩ := hk
            obtain ⟨i, c, h1, h2, h3, h4⟩ := hat k l hl
            obtain rfl := hem l (List.mem_of_getElem? hl)
            refine ⟨cutR i c, by rw [h4]; simp, fun kb q K hq => ?_⟩
            exact e86n is (nrows t) t m kb k i c h1 h2 h3 (by omega) q K hq
          · refine e47d t (t.mapIdx (cutL is m)) _ _ 86 ht.1 ht.len (hG.ne (show 0 < nrows t by omega)) (by simp) ⟨by decide, rfl⟩ (sh_all 86 rfl (by simp)) (fun k l l' hk hk' => ?_) []
            rw [List.getElem?_mapIdx, hk] at hk'
            simp only [Option.map_some, Option.some.injEq] at hk'
            subst hk'
            obtain ⟨i, c, h1, h2, h3, h4⟩ := hat k l hk
            have hll := hG.even l (List.mem_of_getElem? hk)
            have h8 := hC.n8
            rw [h4]
            exact fun kb K => e86 is (nrows t) t m kb l k a i c h1 h2 h3 ha (by omega) (by rintro rfl; simp at hll; omega) (by omega) K
        obtain ⟨K, h⟩ := h
        refine ⟨.tup [tabV (t.mapIdx (cutL is m)), int 0], K, ?_, by rw [hcut]; rfl⟩
        rw [call_eq (by decide) (by simp)]
        simp only [tabV_def, mvB_def, k0C_def, tblC_def, infV_def, int_def, Mv.cs_def, ints_def] at h
        simp [-List.map_map, Tryz.func45, Tryz.f45, envOf, c1, c2, c3, h69, c5, c5', h, leave_pure]
  · have c3' : ¬ ((m.list.length : Int) = (t.length : Int)) := by omega
    refine ⟨.tup [.lst 0 [] .nil, int 2], [], ?_, ret_none (by decide) (by unfold cutM; rw [if_neg hc12, if_pos c3])⟩
    rw [call_eq (by decide) (by simp)]
    simp [Tryz.func45, Tryz.f45, envOf, c1, c2, c3, c3', leave_pure]
theorem mover45 : Mover 45 fun is n t m => cutM is n t m := fun is t m hc ht hm hnm => e45' is t m hc ht hm hnm
theorem movers : Movers := ⟨mover44, mover45, mover46⟩
end T
end

section
open Go Go.Proofs Go.Sym
namespace T
/-! f6: the example of the chapter, in the kernel -/
def isT : Option IRes → Bool | some (.ret (.bool b)) => b | _ => false
theorem isT_spec {r : Option IRes} (h : isT r = true) : r = some (.ret (.bool true)) := by
  unfold isT at h
  split at h
  · rw [h]
  · cases h
theorem icall_of_n {X : Ctx} {g : FuncId} {args : List AV} {n : Nat} {r : IRes} (h : icall X (callN X n) g args = some r) : icall X (call X) g args = some r := by
  unfold icall at h ⊢
  split at h
  · exact h
  · obtain ⟨q, hq, h⟩ := ob_eq h
    have := call_iff.2 ⟨n, hq⟩
    simp only [this, ob]
    exact h
theorem ic6 : icall X (call X) 6 [] = some (.ret (.bool true)) := icall_of_n (n := 900) (isT_spec (by kernel_rfl))
end T
end

section
open Go Go.Proofs Go.Sym
namespace T
attribute [-simp] getElem?_pos
/-! f166 letter -/
theorem ic166 (c : Int) : ∃ b, icall X (call X) 166 [.int .u8 c] = some (.ret (.bool b)) := by
  have go : ∀ b, call X 166 [.int .u8 c] [] [] = some (.ret (.bool b), [], []) → icall X (call X) 166 [.int .u8 c] = some (.ret (.bool b)) := fun b h => icall_ret (v := .bool b) (H := []) (K := []) (by simp) (by simp) h rfl rfl rfl
  by_cases c1 : 97 ≤ c
  · by_cases c2 : c ≤ 122
    · refine ⟨true, go _ ?_⟩
      rw [call_eq (by decide) (by simp)]
      simp [Tryz.func166, Tryz.f166, envOf, c1, c2, leave_pure]
    · have c3 : 65 ≤ c := by omega
      have c4 : ¬ c ≤ 90 := by omega
      refine ⟨false, go _ ?_⟩
      rw [call_eq (by decide) (by simp)]
      simp [Tryz.func166, Tryz.f166, envOf, c1, c2, c3, c4, leave_pure]
  · by_cases c3 : 65 ≤ c
    · by_cases c4 : c ≤ 90
      · refine ⟨true, go _ ?_⟩
        rw [call_eq (by decide) (by simp)]
        simp [Tryz.func166, Tryz.f166, envOf, c1, c3, c4, leave_pure]
      · refine ⟨false, go _ ?_⟩
        rw [call_eq (by decide) (by simp)]
        simp [Tryz.func166, Tryz.f166, envOf, c1, c3, c4, leave_pure]
    · refine ⟨false, go _ ?_⟩
      rw [call_eq (by decide) (by simp)]
      simp [Tryz.func166, Tryz.f166, envOf, c1, c3, leave_pure]
/-! f150 settext.Name -/
theorem bytes_at (s : ByteArray) (i : Nat) (h : i < s.size) : ∃ c, s[i]? = some c := ⟨s[i], by simp [h]⟩
theorem bytes_empty {s : ByteArray} (h : s.size = 0) : s = ⟨#[]⟩ := by
  obtain ⟨d⟩ := s
  have : d = #[] := Array.eq_empty_of_size_eq_zero h
  rw [this]
theorem ic168 (a b : ByteArray) (h : decide (a.size < 4294967281) = true) : icall X (call X) 168 [.str a, .str b] = some (.ret (.bool (Lib.contains a.data.toList b.data.toList))) := by
  have h' : a.size < 4294967281 := by simpa using h
  rw [icall_prim (F := containsF) rfl]
  simp [containsF, h']
def kw150 : ByteArray := ⟨(List.append [32, 97, 110, 100, 32, 111, 114, 32, 116, 114, 117, 101, 32, 102, 97, 108, 115, 101, 32, 102, 111, 114, 32, 116, 111, 32, 115, 116, 101, 112, 32, 105, 102, 32, 101, 108, 115, 101, 32, 109, 105, 110, 32] [109, 97, 120, 32, 102, 108, 111, 111, 114, 32, 99, 101, 105, 108, 32, 97, 114, 114, 97, 121, 32, 112, 97, 114, 97, 109, 32, 112, 97, 114, 97, 108, 108, 101, 108, 32, 118, 101, 99, 116, 111, 114, 32]).toArray⟩
def S150 (s : ByteArray) (i : Nat) : St := ⟨[(0, .str s), (18, .int .i64 s.size), (19, .int .i64 i)], [], [], 0⟩
theorem ic150 (s : ByteArray) : ∃ b, icall X (call X) 150 [.str s] = some (.ret (.bool b)) := by
  have go : ∀ b, call X 150 [.str s] [] [] = some (.ret (.bool b), [], []) → ∃ b, icall X (call X) 150 [.str s] = some (.ret (.bool b)) := fun b h => ⟨b, icall_ret (v := .bool b) (H := []) (K := []) (by simp) (by simp) h rfl rfl rfl⟩
  by_cases c1 : s.toList.isEmpty = true
  · refine go false ?_
    rw [call_eq (by decide) (by simp)]
    simp [-beq_iff_eq, Tryz.func150, Tryz.f150, envOf, c1, leave_pure]
  · have hz : 0 < s.size := by
      rcases Nat.eq_zero_or_pos s.size with h | h
      · exact absurd (by rw [bytes_empty h]; simp) c1
      · exact h
    rw [Bool.not_eq_true] at c1
    by_cases c2 : (12 : Int) < s.size
    · refine go false ?_
      rw [call_eq (by decide) (by simp)]
      simp [-beq_iff_eq, Tryz.func150, Tryz.f150, envOf, c1, c2, leave_pure]
    · obtain ⟨x, hx⟩ := bytes_at s 0 hz
      obtain ⟨b, hb⟩ := ic166 x.toNat
      cases b with
      | false =>
        refine go false ?_
        rw [call_eq (by decide) (by simp)]
        simp [-beq_iff_eq, Tryz.func150, Tryz.f150, envOf, c1, c2, hx, hb, leave_pure]
      | true =>
        have hloop : ∃ o, (∀ s', s'.gc [0, 18, 19] 0 0 = S150 s 0 → loopE X 150 lb150_4 (St.gc [0, 18, 19] 0 0) s' = some o) ∧ ((∃ e, o = .exit 0 ⟨e, [], [], 0⟩ ∧ get e 0 = .str s) ∨ ∃ e, o = .ret ⟨(2, .bool false) :: e, [], [], 0⟩) := by
          refine loop_inv (S150 s) (fun i => i ≤ s.size) (fun i => s.size - i) _ (fun i hi' => ?_) 0 (Nat.zero_le _)
          by_cases hi : i < s.size
          · obtain ⟨y, hy⟩ := bytes_at s i hi
            have hw := wrap_nat i (by omega)
            obtain ⟨b1, hb1⟩ := ic166 y.toNat
            obtain ⟨b2, hb2⟩ := ic167 y.toNat
            cases b1 with
            | true =>
              right
              simp [lb150_4, Tryz.f150, S150, hi, hw, hy, hb1]
              exact ⟨i + 1, by omega, by omega, by omega⟩
            | false =>
              cases b2 with
              | true =>
                right
                simp [lb150_4, Tryz.f150, S150, hi, hw, hy, hb1, hb2]
                exact ⟨i + 1, by omega, by omega, by omega⟩
              | false => left; simp [lb150_4, Tryz.f150, S150, hi, hy, hb1, hb2, stops]
          · left
            obtain rfl : i = s.size := by omega
            simp [lb150_4, Tryz.f150, S150, stops]
        obtain ⟨o, h1, h2⟩ := hloop
        simp only [lb150_4, Tryz.f150, S150, bodyOf_some, sub_seq0, sub_seq1, sub_block, sub_loop, sub_nil] at h1
        simp at h1
        rcases h2 with ⟨e, rfl, g1⟩ | ⟨e, rfl⟩
        · have hs : s.size ≤ 12 := by omega
          refine go (!(Lib.contains kw150.data.toList ((⟨#[32]⟩ : ByteArray) ++ s ++ ⟨#[32]⟩).data.toList)) ?_
          have h9 := ic168 kw150 ((⟨#[32]⟩ : ByteArray) ++ s ++ ⟨#[32]⟩) (by kernel_rfl)
          have e1 : (⟨#[32]⟩ : ByteArray).size = 1 := rfl
          have z1 : (⟨#[32]⟩ : ByteArray).size + s.size ≤ 4611686018427387904 := by omega
          have z2 : ((⟨#[32]⟩ : ByteArray) ++ s).size + (⟨#[32]⟩ : ByteArray).size ≤ 4611686018427387904 := by rw [ByteArray.size_append]; omega
          generalize Lib.contains kw150.data.toList ((⟨#[32]⟩ : ByteArray) ++ s ++ ⟨#[32]⟩).data.toList = bb at h9 ⊢
          simp [kw150] at h9
          rw [call_eq (by decide) (by simp)]
          simp [-beq_iff_eq, -ByteArray.size_append, Tryz.func150, Tryz.f150, envOf, ex_loop, firstReg, c1, c2, hx, hb, h1, g1, z1, z2, h9, leave_pure]
        · refine go false ?_
          rw [call_eq (by decide) (by simp)]
          simp [-beq_iff_eq, Tryz.func150, Tryz.f150, envOf, ex_loop, firstReg, c1, c2, hx, hb, h1, leave_pure]
end T
end

section
open Go Go.Proofs Go.Sym
namespace T
attribute [-simp] getElem?_pos
/-! f134 named -/
theorem ic134 (s : ByteArray) (l : List ByteArray) (hl : l.length ≤ 1073741823) : ∃ b, icall X (call X) 134 [.str s, .lst (szOf 1 (l.map strC)) (l.map strC) .no] = some (.ret (.bool b)) := by
  have go : ∀ b, call X 134 [.str s, .lst (szOf 1 (l.map strC)) (l.map strC) .no] [] [] = some (.ret (.bool b), [], []) → ∃ b, icall X (call X) 134 [.str s, .lst (szOf 1 (l.map strC)) (l.map strC) .no] = some (.ret (.bool b)) := fun b h => ⟨b, icall_ret (v := .bool b) (H := []) (K := []) (by simp) (by simp) h rfl rfl rfl⟩
  obtain ⟨b1, h1⟩ := ic150 s
  obtain ⟨b2, h2⟩ := ic151 l hl s
  cases b1 with
  | false =>
    refine go false ?_
    rw [call_eq (by decide) (by simp)]
    simp [Tryz.func134, Tryz.f134, envOf, h1, leave_pure]
  | true =>
    refine go (!b2) ?_
    rw [call_eq (by decide) (by simp)]
    simp [Tryz.func134, Tryz.f134, envOf, h1, h2, leave_pure]
/-! f201, f206, f200: is there an array of that name? -/
section
variable (G : List Blk) (K : List Nat) (b : Nat) (s : Stm) (hb : G[b]? = some ⟨19, [s.cs], .box⟩)
include hb
theorem e201 (a : Arr) : ∃ x, call X 201 [.agg a.cs, .ptr b 0 0] G K = some (.ret (.bool x), G, K) := by
  obtain ⟨kind, name, low, high, step, mark, dim, pieces, tA, tS, val, body, els⟩ := s
  obtain ⟨op, k, L, rA, subs, args⟩ := val
  have hlt : b < G.length := (List.getElem?_eq_some_iff.1 hb).1
  simp at hb
  refine ⟨(a.name.toList == name.toList), ?_⟩
  rw [call_eq (by decide) (by simp)]
  simp [-beq_iff_eq, Tryz.func201, Tryz.f201, envOf, hb, hlt, List.getElem?_append_left, app_new0, leave_pure]
def S206 (l : List Arr) (i : Nat) (_ : Unit) : St := ⟨[(0, lst 2 (l.map Arr.cs)), (1, .fn 201 [.ptr b 0 0]), (7, .int .i64 l.length), (8, .int .i64 i)], G, K, G.length⟩
theorem e206 (l : List Arr) (hl : l.length ≤ 1073741823) : ∃ n, call X 206 [lst 2 (l.map Arr.cs), .fn 201 [.ptr b 0 0]] G K = some (.ret (.int .i64 n), G, K) := by
  have hlt : b < G.length := (List.getElem?_eq_some_iff.1 hb).1
  have hG : G ≠ [] := by rintro rfl; simp at hb
  have hloop : ∃ o, (∀ s, s.gc [0, 1, 7, 8] G.length K.length = S206 G K b l 0 () → loopE X 206 lb206_2 (St.gc [0, 1, 7, 8] G.length K.length) s = some o) ∧ ((∃ e, o = .exit 0 ⟨e, G, K, G.length⟩) ∨ ∃ (e : _) (n : Int), o = .ret ⟨(4, .int .i64 n) :: e, G, K, G.length⟩) := by
    refine loop_inv (fun i => S206 G K b l i ()) (fun i => i ≤ l.length) (fun i => l.length - i) _ (fun i hi' => ?_) 0 (Nat.zero_le _)
    by_cases hi : i < l.length
    · have hc := List.getElem?_eq_getElem hi
      have hw := wrap_nat i (by omega)
      generalize l[i] = x at hc
      obtain ⟨y, hy⟩ := e201 G K b s hb x
      simp at hy
      cases y with
      | true => left; simp [lb206_2, Tryz.f206, S206, hi, hc, hy, stops, hlt, hb]
      | false =>
        right
        simp [lb206_2, Tryz.f206, S206, hi, hw, hc, hy, hlt, hb, gc_own0' _ _ hG]
        exact ⟨i + 1, by omega, by omega, by omega⟩
    · left
      obtain rfl : i = l.length := by omega
      simp [lb206_2, Tryz.f206, S206, stops]
  obtain ⟨o, h1, h2⟩ := hloop
  simp only [lb206_2, Tryz.f206, S206, bodyOf_some, sub_seq0, sub_seq1, sub_block, sub_loop, sub_nil] at h1
  simp at h1
  rcases h2 with ⟨e, rfl⟩ | ⟨e, n, rfl⟩
  · refine ⟨-1, ?_⟩
    rw [call_eq (by decide) (by simp)]
    simp [Tryz.func206, Tryz.f206, envOf, ex_loop, firstReg, h1, hlt, hb, gc_own0' _ _ hG, leave_pure]
  · refine ⟨n, ?_⟩
    rw [call_eq (by decide) (by simp)]
    simp [Tryz.func206, Tryz.f206, envOf, ex_loop, firstReg, h1, hlt, hb, gc_own0' _ _ hG, leave_pure]
theorem e200 (l : List Arr) (hl : l.length ≤ 1073741823) : ∃ x, call X 200 [lst 2 (l.map Arr.cs), .fn 201 [.ptr b 0 0]] G K = some (.ret (.bool x), G, K) := by
  have hlt : b < G.length := (List.getElem?_eq_some_iff.1 hb).1
  obtain ⟨n, hn⟩ := e206 G K b s hb l hl
  simp at hn
  refine ⟨decide (0 ≤ n), ?_⟩
  rw [call_eq (by decide) (by simp)]
  simp [Tryz.func200, Tryz.f200, envOf, hn, hb, leave_pure]
end
end T
end

section
open Go Go.Proofs Go.Sym
namespace T
attribute [-simp] getElem?_pos
/-- The checker's memory. -/
def ckB (t : PT) (n : Int) : Blk := ⟨4, [[lst 1 (t.ps.map strC), lst 2 (t.arrs.map Arr.cs), lst 19 (t.body.map Stm.cs), .int .i64 n]], .box⟩
theorem ckB_def (t : PT) (n : Int) : ckB t n = ⟨4, [[lst 1 (t.ps.map strC), lst 2 (t.arrs.map Arr.cs), lst 19 (t.body.map Stm.cs), .int .i64 n]], .box⟩ := Eq.trans rfl rfl
/-- A call that checks, with the memory shared: it returns nothing, or it stops. -/
def Nds (x : Option (Res × List Blk × List Nat)) (G : List Blk) (K : List Nat) : Prop := x = some (.ret (.tup []), G, K) ∨ x = some (.panic (.iface 163 (.agg [])), G, K)
/-! f214 cell -/
section
variable (G : List Blk) (K : List Nat) (c : Nat) (t : PT) (k : Int) (hb : G[c]? = some (ckB t k)) (A : Int) (subs : List Lin) (n : Int)
def refB (A : Int) (subs : List Lin) : Blk := ⟨2, [[.int .i64 A, lst 2 (subs.map Lin.cs)]], .box⟩
theorem refB_def (A : Int) (subs : List Lin) : refB A subs = ⟨2, [[.int .i64 A, lst 2 (subs.map Lin.cs)]], .box⟩ := Eq.trans rfl rfl
def S214 (i : Nat) : St := ⟨[(2, .int .i64 n), (41, lst 2 (subs.map Lin.cs)), (42, .int .i64 subs.length), (43, .int .i64 i)], G ++ [refB A subs], K, G.length⟩
include hb
theorem loop214 (hs : okLins subs) : ∃ o, (∀ s, s.gc [2, 41, 42, 43] (G.length + 1) K.length = S214 G K A subs n 0 → loopE X 214 lb214_3 (St.gc [2, 41, 42, 43] (G.length + 1) K.length) s = some o) ∧
    ((∃ e, o = .exit 0 ⟨e, G ++ [refB A subs], K, G.length⟩) ∨ ∃ e r, o = .panic (.iface 163 (.agg [])) ⟨e, G ++ r, K, G.length⟩) := by
  have hG : G ≠ [] := by rintro rfl; simp at hb
  refine loop_inv (S214 G K A subs n) (fun i => i ≤ subs.length) (fun i => subs.length - i) _ (fun i hi' => ?_) 0 (Nat.zero_le _)
  by_cases hi : i < subs.length
  · have hc := List.getElem?_eq_getElem hi
    have hw := wrap_nat i (by have := hs.1; omega)
    have h135 := ic135 subs[i] (hs.2 _ (List.getElem_mem hi)) n
    generalize subs[i] = x at *
    cases hx : over n x with
    | true =>
      right
      rw [hx] at h135
      simp [lb214_3, Tryz.f214, S214, refB, hi, hw, hc, h135, app_new0, app_new1, gc_app _ _ _ hG]
      exact ⟨i + 1, by omega, by omega, by omega⟩
    | false =>
      left
      rw [hx] at h135
      simp [lb214_3, Tryz.f214, S214, refB, hi, hc, h135, app_new0, app_new1, stops]
  · left
    obtain rfl : i = subs.length := by omega
    simp [lb214_3, Tryz.f214, S214, refB, stops]
theorem e214 (hs : okLins subs) : Nds (call X 214 [.ptr c 0 0, .agg [.int .i64 A, lst 2 (subs.map Lin.cs)], .int .i64 n] G K) G K := by
  have hlt : c < G.length := (List.getElem?_eq_some_iff.1 hb).1
  have hG : G ≠ [] := by rintro rfl; simp at hb
  obtain ⟨o, h1, h2⟩ := loop214 G K c t k hb A subs n hs
  simp only [ckB_def] at hb
  simp only [lb214_3, Tryz.f214, S214, refB, bodyOf_some, sub_seq0, sub_seq1, sub_block, sub_loop, sub_nil] at h1
  simp at h1
  by_cases c1 : 0 ≤ A
  · obtain ⟨a, rfl⟩ : ∃ a : Nat, A = a := ⟨A.toNat, by omega⟩
    by_cases c2 : (a : Int) < t.arrs.length
    · have c2' : a < t.arrs.length := by omega
      have hx := List.getElem?_eq_getElem c2'
      generalize t.arrs[a] = x at hx
      by_cases c3 : subs.length = x.sizes.length
      · rcases h2 with ⟨e, rfl⟩ | ⟨e, r, rfl⟩
        · left
          rw [call_eq (by decide) (by simp)]
          simp [Tryz.func214, Tryz.f214, envOf, ex_loop, firstReg, c1, c2, c2', c3, hx, hb, hlt, h1, app_new0, app_new1, List.getElem?_append_left, gc_app _ _ _ hG, leave_pure]
        · right
          rw [call_eq (by decide) (by simp)]
          simp [Tryz.func214, Tryz.f214, envOf, ex_loop, firstReg, c1, c2, c2', c3, hx, hb, hlt, h1, app_new0, app_new1, List.getElem?_append_left, gc_app _ _ _ hG]
      · right
        rw [call_eq (by decide) (by simp)]
        simp [Tryz.func214, Tryz.f214, envOf, c1, c2, c2', c3, hx, hb, hlt, app_new0, app_new1, List.getElem?_append_left]
    · right
      have c2' : ¬ a < t.arrs.length := by omega
      rw [call_eq (by decide) (by simp)]
      simp [Tryz.func214, Tryz.f214, envOf, c1, c2, c2', hb, hlt, app_new0, app_new1, List.getElem?_append_left]
  · right
    rw [call_eq (by decide) (by simp)]
    simp [Tryz.func214, Tryz.f214, envOf, c1, hb, hlt, app_new0, app_new1, List.getElem?_append_left]
end
end T
end

section
open Go Go.Proofs Go.Sym
namespace T
attribute [-simp] getElem?_pos
/-! f215 node -/
mutual
def nsz : Ex → Nat
  | .mk _ _ _ _ _ args => 1 + nszL args
def nszL : List Ex → Nat
  | [] => 0
  | e :: r => nsz e + nszL r
end
theorem app_set0 (H : List Blk) (d : Nat) (x k : Blk) (r : List Blk) : (H.set d x ++ k :: r)[H.length]? = some k := by
  have := app_new0 (H.set d x) k r
  rwa [List.length_set] at this
theorem app_set1 (H : List Blk) (d : Nat) (x k k' : Blk) (r : List Blk) : (H.set d x ++ k :: k' :: r)[H.length + 1]? = some k' := by
  have := app_new1 (H.set d x) k k' r
  rwa [List.length_set] at this
def cnB (m : Nat) : Blk := ⟨1, [[.int .i64 m]], .box⟩
theorem cnB_def (m : Nat) : cnB m = ⟨1, [[.int .i64 m]], .box⟩ := Eq.trans rfl rfl
def exB (op k : Int) (L : Lin) (rA : Int) (subs : List Lin) (args : List Ex) : Blk := ⟨7, [Ex.cs (.mk op k L rA subs args)], .box⟩
/-- It counts, or stops. -/
def NdC (x : Option (Res × List Blk × List Nat)) (G : List Blk) (K : List Nat) (d m : Nat) : Prop :=
  (x = some (.ret (.tup []), G.set d (cnB m), K) ∧ m ≤ 64) ∨ ∃ m', x = some (.panic (.iface 163 (.agg [])), G.set d (cnB m'), K)
theorem e215 (c d : Nat) (hcd : c ≠ d) (t : PT) (k : Int) (n : Int) (K : List Nat) {e : Ex} (he : OkEx e) : ∀ (G : List Blk) (m : Nat), m ≤ 64 → G[c]? = some (ckB t k) → G[d]? = some (cnB m) →
    NdC (call X 215 [.ptr c 0 0, .agg e.cs, .int .i64 n, .ptr d 0 0] G K) G K d (m + nsz e) := by
  induction he with
  | @mk op k1 L rA subs args hL hs ha hargs ih =>
  intro G m hm hb hd
  have hlc : c < G.length := (List.getElem?_eq_some_iff.1 hb).1
  have hld : d < G.length := (List.getElem?_eq_some_iff.1 hd).1
  have hdc : d ≠ c := fun e => hcd e.symm
  have hw := wrap_nat m (by omega)
  have hb0 := hb
  simp only [ckB_def] at hb
  simp only [cnB_def] at hd
  have h207 := ic207 L
  have h204 := ic204 rA subs
  have h135 := ic135 L hL n
  by_cases c1 : (m : Int) + 1 ≤ 64
  · by_cases c2 : 0 ≤ op
    · by_cases c3 : op ≤ 7
      · skip
        by_cases o0 : op = 0
        · subst o0
          by_cases cl : plainLin L = true
          · skip
            by_cases cr : plainRef rA subs = true
            · skip
              by_cases ca : -2147483648 ≤ k1
              · skip
                by_cases cb : k1 < 2147483648
                · skip
                  rcases args with _ | ⟨a1, r⟩
                  · skip
                    left
                    refine ⟨?_, by simp [nsz, nszL]; omega⟩
                    rw [call_eq (by decide) (by simp)]
                    simp [Tryz.func215, Tryz.f215, envOf, hb, hd, hlc, hld, hdc, hw, cnB, List.set_append_left, List.getElem?_append_left, app_new0, app_set0, h207, h204, c1, cl, cr, ca, cb, nsz, nszL, leave_pure]
                  · have hz : ¬ ((r.length : Int) + 1 = 0) := by omega
                    right
                    refine ⟨m + 1, ?_⟩
                    rw [call_eq (by decide) (by simp)]
                    simp [Tryz.func215, Tryz.f215, envOf, hb, hd, hlc, hld, hdc, hw, cnB, List.set_append_left, List.getElem?_append_left, app_new0, app_set0, h207, h204, c1, cl, cr, ca, cb, hz]
                · right
                  refine ⟨m + 1, ?_⟩
                  rw [call_eq (by decide) (by simp)]
                  simp [Tryz.func215, Tryz.f215, envOf, hb, hd, hlc, hld, hdc, hw, cnB, List.set_append_left, List.getElem?_append_left, app_new0, app_set0, h207, h204, c1, cl, cr, ca, cb]
              · right
                refine ⟨m + 1, ?_⟩
                rw [call_eq (by decide) (by simp)]
                simp [Tryz.func215, Tryz.f215, envOf, hb, hd, hlc, hld, hdc, hw, cnB, List.set_append_left, List.getElem?_append_left, app_new0, app_set0, h207, h204, c1, cl, cr, ca]
            · right
              refine ⟨m + 1, ?_⟩
              rw [call_eq (by decide) (by simp)]
              simp [Tryz.func215, Tryz.f215, envOf, hb, hd, hlc, hld, hdc, hw, cnB, List.set_append_left, List.getElem?_append_left, app_new0, app_set0, h207, h204, c1, cl, cr]
          · right
            refine ⟨m + 1, ?_⟩
            rw [call_eq (by decide) (by simp)]
            simp [Tryz.func215, Tryz.f215, envOf, hb, hd, hlc, hld, hdc, hw, cnB, List.set_append_left, List.getElem?_append_left, app_new0, app_set0, h207, h204, c1, cl]
        by_cases o1 : op = 1
        · subst o1
          by_cases ck : k1 = 0
          · subst ck
            by_cases cr : plainRef rA subs = true
            · skip
              by_cases co : over n L = true
              · skip
                rcases args with _ | ⟨a1, r⟩
                · skip
                  left
                  refine ⟨?_, by simp [nsz, nszL]; omega⟩
                  rw [call_eq (by decide) (by simp)]
                  simp [Tryz.func215, Tryz.f215, envOf, hb, hd, hlc, hld, hdc, hw, cnB, List.set_append_left, List.getElem?_append_left, app_new0, app_set0, h207, h204, c1, cr, co, h135, nsz, nszL, leave_pure]
                · have hz : ¬ ((r.length : Int) + 1 = 0) := by omega
                  right
                  refine ⟨m + 1, ?_⟩
                  rw [call_eq (by decide) (by simp)]
                  simp [Tryz.func215, Tryz.f215, envOf, hb, hd, hlc, hld, hdc, hw, cnB, List.set_append_left, List.getElem?_append_left, app_new0, app_set0, h207, h204, c1, cr, co, h135, hz]
              · right
                refine ⟨m + 1, ?_⟩
                rw [call_eq (by decide) (by simp)]
                simp [Tryz.func215, Tryz.f215, envOf, hb, hd, hlc, hld, hdc, hw, cnB, List.set_append_left, List.getElem?_append_left, app_new0, app_set0, h207, h204, c1, cr, co, h135]
            · right
              refine ⟨m + 1, ?_⟩
              rw [call_eq (by decide) (by simp)]
              simp [Tryz.func215, Tryz.f215, envOf, hb, hd, hlc, hld, hdc, hw, cnB, List.set_append_left, List.getElem?_append_left, app_new0, app_set0, h207, h204, c1, cr]
          · right
            refine ⟨m + 1, ?_⟩
            rw [call_eq (by decide) (by simp)]
            simp [Tryz.func215, Tryz.f215, envOf, hb, hd, hlc, hld, hdc, hw, cnB, List.set_append_left, List.getElem?_append_left, app_new0, app_set0, h207, h204, c1, ck]
        by_cases o2 : op = 2
        · subst o2
          by_cases ck : k1 = 0
          · subst ck
            by_cases cl : plainLin L = true
            · skip
              rcases args with _ | ⟨a1, r⟩
              · skip
                have h14 := e214 (G.set d (cnB (m + 1)) ++ [exB 2 0 L rA subs []]) K c t k (by simp [List.getElem?_append_left, hlc, hdc, hb, ckB]) rA subs n hs
                simp [exB, cnB] at h14
                rcases h14 with h14 | h14
                · left
                  refine ⟨?_, by simp [nsz, nszL]; omega⟩
                  rw [call_eq (by decide) (by simp)]
                  simp [Tryz.func215, Tryz.f215, envOf, hb, hd, hlc, hld, hdc, hw, cnB, List.set_append_left, List.getElem?_append_left, app_new0, app_set0, h207, h204, c1, cl, nsz, nszL, h14, leave_pure]
                · right
                  refine ⟨m + 1, ?_⟩
                  rw [call_eq (by decide) (by simp)]
                  simp [Tryz.func215, Tryz.f215, envOf, hb, hd, hlc, hld, hdc, hw, cnB, List.set_append_left, List.getElem?_append_left, app_new0, app_set0, h207, h204, c1, cl, h14]
              · have hz : ¬ ((r.length : Int) + 1 = 0) := by omega
                right
                refine ⟨m + 1, ?_⟩
                rw [call_eq (by decide) (by simp)]
                simp [Tryz.func215, Tryz.f215, envOf, hb, hd, hlc, hld, hdc, hw, cnB, List.set_append_left, List.getElem?_append_left, app_new0, app_set0, h207, h204, c1, cl, hz]
            · right
              refine ⟨m + 1, ?_⟩
              rw [call_eq (by decide) (by simp)]
              simp [Tryz.func215, Tryz.f215, envOf, hb, hd, hlc, hld, hdc, hw, cnB, List.set_append_left, List.getElem?_append_left, app_new0, app_set0, h207, h204, c1, cl]
          · right
            refine ⟨m + 1, ?_⟩
            rw [call_eq (by decide) (by simp)]
            simp [Tryz.func215, Tryz.f215, envOf, hb, hd, hlc, hld, hdc, hw, cnB, List.set_append_left, List.getElem?_append_left, app_new0, app_set0, h207, h204, c1, ck]
        by_cases ck : k1 = 0
        · subst ck
          by_cases cl : plainLin L = true
          · skip
            by_cases cr : plainRef rA subs = true
            · skip
              rcases args with _ | ⟨a1, _ | ⟨a2, _ | ⟨a3, r⟩⟩⟩
              · right
                refine ⟨m + 1, ?_⟩
                rw [call_eq (by decide) (by simp)]
                simp [Tryz.func215, Tryz.f215, envOf, hb, hd, hlc, hld, hdc, hw, cnB, List.set_append_left, List.getElem?_append_left, app_new0, app_set0, h207, h204, c1, c2, c3, o0, o1, o2, cl, cr]
              · right
                refine ⟨m + 1, ?_⟩
                rw [call_eq (by decide) (by simp)]
                simp [Tryz.func215, Tryz.f215, envOf, hb, hd, hlc, hld, hdc, hw, cnB, List.set_append_left, List.getElem?_append_left, app_new0, app_set0, h207, h204, c1, c2, c3, o0, o1, o2, cl, cr]
              · have i1 := ih a1 (by simp) (G.set d (cnB (m + 1)) ++ [exB op 0 L rA subs [a1, a2]]) (m + 1) (by omega) (by simp [List.getElem?_append_left, hlc, hdc, hb, ckB]) (by simp [List.getElem?_append_left, hld])
                have e1 : ∀ q, (G.set d (cnB (m + 1)) ++ [exB op 0 L rA subs [a1, a2]]).set d (cnB q) = G.set d (cnB q) ++ [exB op 0 L rA subs [a1, a2]] := fun q => by rw [List.set_append_left _ _ (by simpa using hld), List.set_set]
                have i2 := fun hm2 => ih a2 (by simp) (G.set d (cnB (m + 1 + nsz a1)) ++ [exB op 0 L rA subs [a1, a2]]) (m + 1 + nsz a1) hm2 (by simp [List.getElem?_append_left, hlc, hdc, hb, ckB]) (by simp [List.getElem?_append_left, hld])
                have e2 : ∀ q, (G.set d (cnB (m + 1 + nsz a1)) ++ [exB op 0 L rA subs [a1, a2]]).set d (cnB q) = G.set d (cnB q) ++ [exB op 0 L rA subs [a1, a2]] := fun q => by rw [List.set_append_left _ _ (by simpa using hld), List.set_set]
                unfold NdC at i1 i2
                simp only [e1] at i1
                simp only [e2] at i2
                have hsz : m + nsz (.mk op 0 L rA subs [a1, a2]) = m + 1 + nsz a1 + nsz a2 := by simp [nsz, nszL]; omega
                rw [hsz]
                obtain ⟨p1, p2, p3, p4, p5, p6⟩ := a1
                obtain ⟨r1, r2, r3, r4, r5, r6⟩ := a2
                generalize nsz (Ex.mk p1 p2 p3 p4 p5 p6) = z1 at *
                generalize nsz (Ex.mk r1 r2 r3 r4 r5 r6) = z2 at *
                simp only [cnB, exB, Ex.cs_mk, ints_def, lst_def, Ex.csL_map, List.map_cons, List.map_nil] at i1 i2
                rcases i1 with ⟨i1, hm1⟩ | ⟨m1, i1⟩
                · rcases i2 hm1 with ⟨i2, hm2⟩ | ⟨m2, i2⟩
                  · left
                    refine ⟨?_, hm2⟩
                    simp at i1 i2
                    rw [call_eq (by decide) (by simp)]
                    simp [Tryz.func215, Tryz.f215, envOf, hb, hd, hlc, hld, hdc, hw, cnB, List.set_append_left, List.getElem?_append_left, app_new0, app_set0, h207, h204, c1, c2, c3, o0, o1, o2, cl, cr, i1, i2, leave_pure]
                  · right
                    refine ⟨m2, ?_⟩
                    simp at i1 i2
                    rw [call_eq (by decide) (by simp)]
                    simp [Tryz.func215, Tryz.f215, envOf, hb, hd, hlc, hld, hdc, hw, cnB, List.set_append_left, List.getElem?_append_left, app_new0, app_set0, h207, h204, c1, c2, c3, o0, o1, o2, cl, cr, i1, i2]
                · right
                  refine ⟨m1, ?_⟩
                  simp at i1
                  rw [call_eq (by decide) (by simp)]
                  simp [Tryz.func215, Tryz.f215, envOf, hb, hd, hlc, hld, hdc, hw, cnB, List.set_append_left, List.getElem?_append_left, app_new0, app_set0, h207, h204, c1, c2, c3, o0, o1, o2, cl, cr, i1]
              · have hz : ¬ ((r.length : Int) + 1 + 1 + 1 = 2) := by omega
                right
                refine ⟨m + 1, ?_⟩
                rw [call_eq (by decide) (by simp)]
                simp [Tryz.func215, Tryz.f215, envOf, hb, hd, hlc, hld, hdc, hw, cnB, List.set_append_left, List.getElem?_append_left, app_new0, app_set0, h207, h204, c1, c2, c3, o0, o1, o2, cl, cr, hz]
            · right
              refine ⟨m + 1, ?_⟩
              rw [call_eq (by decide) (by simp)]
              simp [Tryz.func215, Tryz.f215, envOf, hb, hd, hlc, hld, hdc, hw, cnB, List.set_append_left, List.getElem?_append_left, app_new0, app_set0, h207, h204, c1, c2, c3, o0, o1, o2, cl, cr]
          · right
            refine ⟨m + 1, ?_⟩
            rw [call_eq (by decide) (by simp)]
            simp [Tryz.func215, Tryz.f215, envOf, hb, hd, hlc, hld, hdc, hw, cnB, List.set_append_left, List.getElem?_append_left, app_new0, app_set0, h207, h204, c1, c2, c3, o0, o1, o2, cl]
        · right
          refine ⟨m + 1, ?_⟩
          rw [call_eq (by decide) (by simp)]
          simp [Tryz.func215, Tryz.f215, envOf, hb, hd, hlc, hld, hdc, hw, cnB, List.set_append_left, List.getElem?_append_left, app_new0, app_set0, h207, h204, c1, c2, c3, o0, o1, o2, ck]
      · right
        refine ⟨m + 1, ?_⟩
        rw [call_eq (by decide) (by simp)]
        simp [Tryz.func215, Tryz.f215, envOf, hb, hd, hlc, hld, hw, c1, c2, c3, cnB, List.set_append_left, List.getElem?_append_left, app_new0, app_set0]
    · right
      refine ⟨m + 1, ?_⟩
      rw [call_eq (by decide) (by simp)]
      simp [Tryz.func215, Tryz.f215, envOf, hb, hd, hlc, hld, hw, c1, c2, cnB, List.set_append_left, List.getElem?_append_left, app_new0, app_set0]
  · right
    refine ⟨m + 1, ?_⟩
    rw [call_eq (by decide) (by simp)]
    simp [Tryz.func215, Tryz.f215, envOf, hb, hd, hlc, hld, hw, c1, cnB, List.set_append_left, List.getElem?_append_left, app_new0, app_set0]
end T
end

section
open Go Go.Proofs Go.Sym
namespace T
attribute [-simp] getElem?_pos
/-! f213 assign.check -/
theorem fz_any (H : Nat → Option Blk) (a : Nat) (b : List (List AV)) (c : Cap) (h : c ≠ .bor) : freeze H (.lst a b c) = .lst (szOf a b) b .no := by cases c <;> first | rfl | exact absurd rfl h
def Stm.val : Stm → Ex | .mk _ _ _ _ _ _ _ _ _ _ v _ _ => v
theorem set_new2 (H : List Blk) (a b c x : Blk) : (H ++ [a, b, c]).set (H.length + 2) x = H ++ [a, b, x] := by
  rw [List.set_append_right _ _ (by omega)]
  simp
theorem app_new2 (H : List Blk) (a b c : Blk) (r : List Blk) : (H ++ a :: b :: c :: r)[H.length + 2]? = some c := by
  rw [List.getElem?_append_right (by omega), Nat.add_sub_cancel_left]
  rfl
theorem e213 (G : List Blk) (K : List Nat) (c : Nat) (t : PT) (k : Int) (hb : G[c]? = some (ckB t k)) (l : List ByteArray) (z : Nat) (cp : Cap) (s : Stm) (hs : OkStm s) :
    (call X 213 [.agg s.cs, .ptr c 0 0, .lst z (l.map strC) cp] G K = some (.ret (.tup []), G, K) ∧ nsz s.val ≤ 64 ∧ s.body = [] ∧ s.els = []) ∨ call X 213 [.agg s.cs, .ptr c 0 0, .lst z (l.map strC) cp] G K = some (.panic (.iface 163 (.agg [])), G, K) := by
  obtain ⟨b9, h209⟩ := ic209 s
  cases hs with
  | @mk kind name low high step mark dim pieces tA tS val body els hname hlow hhigh hpie htS hval hbl hel hbody hels =>
  have hlc : c < G.length := (List.getElem?_eq_some_iff.1 hb).1
  have h203 := ic203 dim pieces
  have h14 := e214 (G ++ [⟨19, [Stm.cs (.mk kind name low high step mark dim pieces tA tS val body els)], .box⟩, ⟨19, [Stm.cs (.mk kind name low high step mark dim pieces tA tS val body els)], .box⟩]) K c t k (by rw [List.getElem?_append_left hlc, hb]) tA tS l.length htS
  have h15 := e215 c (G.length + 2) (by omega) t k l.length K hval (G ++ [⟨19, [Stm.cs (.mk kind name low high step mark dim pieces tA tS val body els)], .box⟩, ⟨19, [Stm.cs (.mk kind name low high step mark dim pieces tA tS val body els)], .box⟩, cnB 0]) 0 (by omega)
    (by rw [List.getElem?_append_left hlc, hb]) (app_new2 _ _ _ _ _)
  unfold NdC at h15
  unfold Nds at h14
  simp only [set_new2] at h15
  show (_ ∧ nsz val ≤ 64 ∧ body = [] ∧ els = []) ∨ _
  rw [Nat.zero_add] at h15
  generalize hz : nsz val = zz at *
  obtain ⟨op, k1, L, rA, subs, args⟩ := val
  simp only [ckB_def] at hb
  simp only [Stm.cs_mk, cnB, Ex.cs_mk, ints_def, lst_def, tabV_def, int_def] at h14 h15 h209
  cases b9 with
  | false =>
    right
    rw [call_eq (by decide) (by simp)]
    simp [Tryz.func213, Tryz.f213, envOf, hb, hlc, h209, List.getElem?_append_left, app_new0, app_new1]
  | true =>
    by_cases c1 : unset dim pieces = true
    · by_cases c2 : body = []
      · subst c2
        simp at h209
        by_cases c3 : els = []
        · subst c3
          simp at h209
          rcases h14 with h14 | h14
          · rcases h15 with ⟨h15, hz⟩ | ⟨m, h15⟩
            · left
              refine ⟨?_, hz, rfl, rfl⟩
              simp at h14 h15
              rw [call_eq (by decide) (by simp)]
              simp [Tryz.func213, Tryz.f213, envOf, hb, hlc, h209, h203, c1, h14, h15, List.getElem?_append_left, app_new0, app_new1, app_new2, set_new2, leave_pure]
            · right
              simp at h14 h15
              rw [call_eq (by decide) (by simp)]
              simp [Tryz.func213, Tryz.f213, envOf, hb, hlc, h209, h203, c1, h14, h15, List.getElem?_append_left, app_new0, app_new1, app_new2, set_new2]
          · right
            simp at h14
            rw [call_eq (by decide) (by simp)]
            simp [Tryz.func213, Tryz.f213, envOf, hb, hlc, h209, h203, c1, h14, List.getElem?_append_left, app_new0, app_new1, app_new2, set_new2]
        · right
          rw [call_eq (by decide) (by simp)]
          simp [Tryz.func213, Tryz.f213, envOf, hb, hlc, h209, h203, c1, c3, List.getElem?_append_left, app_new0, app_new1]
      · right
        rw [call_eq (by decide) (by simp)]
        simp [Tryz.func213, Tryz.f213, envOf, hb, hlc, h209, h203, c1, c2, List.getElem?_append_left, app_new0, app_new1]
    · right
      rw [call_eq (by decide) (by simp)]
      simp [Tryz.func213, Tryz.f213, envOf, hb, hlc, h209, h203, c1, List.getElem?_append_left, app_new0, app_new1]
end T
end

section
open Go Go.Proofs Go.Sym
namespace T
attribute [-simp] getElem?_pos
/-! what the checker counts and asks -/
mutual
def ssz : Stm → Nat
  | .mk _ _ _ _ _ _ _ _ _ _ _ body els => 1 + sszL body + sszL els
def sszL : List Stm → Nat
  | [] => 0
  | e :: r => ssz e + sszL r
end
inductive GoodS (p : Nat) : Nat → Stm → Prop
  | loop {n name low high step mark dim pieces tA tS val body} : n ≤ p + 10 → (∀ s ∈ body, GoodS p (n + 1) s) → GoodS p n (.mk 1 name low high step mark dim pieces tA tS val body [])
  | test {n name low high step mark dim pieces tA tS val body els} : n ≤ p + 10 → (∀ s ∈ body, GoodS p n s) → (∀ s ∈ els, GoodS p n s) → GoodS p n (.mk 2 name low high step mark dim pieces tA tS val body els)
  | asg {n name low high step mark dim pieces tA tS val} : n ≤ p + 10 → nsz val ≤ 64 → GoodS p n (.mk 3 name low high step mark dim pieces tA tS val [] [])
def Stm.inner : Stm → Nat | .mk _ _ _ _ _ _ _ _ _ _ _ body els => sszL body + sszL els
def OutC (q : Option (Res × List Blk × List Nat)) (G : List Blk) (K : List Nat) (c : Nat) (t : PT) (k : Nat) (fact : Prop) : Prop :=
  (∃ K', q = some (.ret (.tup []), G.set c (ckB t k), K ++ K') ∧ fact) ∨ ∃ (k2 : Nat) (K' : List Nat), q = some (.panic (.iface 163 (.agg [])), G.set c (ckB t k2), K ++ K')
def mfn (s : Stm) : Nat := if s.kind = 1 then 199 else if s.kind = 2 then 208 else 213
theorem mAt (s : Stm) (h : okK s.kind = true) : methodAt Tryz.prog (kindV s.kind) "headland/lang.check" = some (mfn s) := by
  simp only [okK, Bool.or_eq_true, decide_eq_true_eq] at h
  unfold kindV mfn
  rcases h with (h | h) | h <;> rw [h]
  · rw [if_pos rfl, if_pos rfl]; kernel_rfl
  · rw [if_neg (by decide), if_pos rfl, if_neg (by decide), if_pos rfl]; kernel_rfl
  · rw [if_neg (by decide), if_neg (by decide), if_neg (by decide), if_neg (by decide)]; kernel_rfl
structure NmOK (K : List Nat) (l : List ByteArray) (z : Nat) (cp : Cap) : Prop where
  bor : cp ≠ .bor
  sz : szOf z (l.map strC) = szOf 1 (l.map strC)
  tok : ∀ i, cp = .tok i → i < K.length
theorem NmOK.scrub {K : List Nat} {l : List ByteArray} {z : Nat} {cp : Cap} (h : NmOK K l z cp) (n m : Nat) (hm : K.length ≤ m) : scrub n m (.lst z (l.map strC) cp) = .lst z (l.map strC) cp := by
  cases cp with
  | tok i => have := h.tok i rfl; simp [Sym.scrub]; omega
  | _ => rfl
theorem NmOK.mono {K : List Nat} {l : List ByteArray} {z : Nat} {cp : Cap} (h : NmOK K l z cp) (K' : List Nat) : NmOK (K ++ K') l z cp :=
  ⟨h.bor, h.sz, fun i hi => by have := h.tok i hi; rw [List.length_append]; omega⟩
theorem mfn_ok (s : Stm) : decide (mfn s < 1000000) = true ∧ sprimT (mfn s) = none := by
  unfold mfn
  split
  · exact ⟨rfl, rfl⟩
  · split <;> exact ⟨rfl, rfl⟩
/-- What a statement's check does. -/
def SpecS (t : PT) (s : Stm) : Prop := ∀ (G : List Blk) (K : List Nat) (c k : Nat) (l : List ByteArray) (z : Nat) (cp : Cap), k ≤ 256 → G[c]? = some (ckB t k) → NmOK K l z cp → l.length ≤ t.ps.length + 10 → okK s.kind = true →
  OutC (call X (mfn s) [.agg s.cs, .ptr c 0 0, .lst z (l.map strC) cp] G K) G K c t (k + s.inner) (k + s.inner ≤ 256 ∧ GoodS t.ps.length l.length s)
theorem gc_set0 (keep : List Nat) (H : List Blk) (d : Nat) (x : Blk) (r : List Blk) (h : H ≠ []) (M : Nat) (e : List (Nat × AV)) (ts : List Nat) : St.gc keep H.length M ⟨e, H.set d x ++ r, ts, H.length⟩ =
    ⟨keepEnv H.length ts.length (fun b => (H.set d x ++ r)[b]?) e keep, H.set d x, ts, H.length⟩ := by
  have h0 : H.set d x ≠ [] := by simpa using h
  have := gc_own0 keep (H.set d x) r h0 M e ts
  rwa [List.length_set] at this
theorem sszL_take_succ : ∀ (l : List Stm) (i : Nat) (s : Stm), l[i]? = some s → sszL (l.take (i + 1)) = sszL (l.take i) + ssz s
  | [], _, _, h => by simp at h
  | a :: r, 0, s, h => by cases h; simp [sszL]
  | a :: r, i + 1, s, h => by
    have := sszL_take_succ r i s (by simpa using h)
    simp [sszL, this, Nat.add_assoc]
/-! f100 body -/
section
variable (G : List Blk) (K : List Nat) (c : Nat) (t : PT) (l : List ByteArray) (z : Nat) (cp : Cap) (ss : List Stm)
def S100 (k : Nat) (p : Nat × List Nat) : St := ⟨[(0, .ptr c 0 0), (2, .lst z (l.map strC) cp), (24, lst 19 (ss.map Stm.cs)), (25, .int .i64 ss.length), (26, .int .i64 p.1)], G.set c (ckB t (k + sszL (ss.take p.1) : Nat)), K ++ p.2, G.length⟩
theorem loop100 (k : Nat) (hk : k ≤ 256) (hb : G[c]? = some (ckB t k)) (hn : NmOK K l z cp) (hl : l.length ≤ t.ps.length + 10) (hss : ss.length ≤ 1073741823) (hs : ∀ s ∈ ss, OkStm s ∧ SpecS t s) :
    ∃ o, (∀ s, s.gc [0, 2, 24, 25, 26] G.length K.length = S100 G K c t l z cp ss k (0, []) → loopE X 100 lb100_2 (St.gc [0, 2, 24, 25, 26] G.length K.length) s = some o) ∧
    ((∃ e K', o = .exit 0 ⟨e, G.set c (ckB t (k + sszL ss : Nat)), K ++ K', G.length⟩ ∧ k + sszL ss ≤ 256 ∧ ∀ s ∈ ss, GoodS t.ps.length l.length s) ∨ ∃ (e : _) (r : _) (K' : _) (k2 : Nat), o = .panic (.iface 163 (.agg [])) ⟨e, G.set c (ckB t k2) ++ r, K ++ K', G.length⟩) := by
  have hlc : c < G.length := (List.getElem?_eq_some_iff.1 hb).1
  have hG : G ≠ [] := by rintro rfl; simp at hb
  refine loop_inv (S100 G K c t l z cp ss k) (fun p => p.1 ≤ ss.length ∧ k + sszL (ss.take p.1) ≤ 256 ∧ ∀ s ∈ ss.take p.1, GoodS t.ps.length l.length s) (fun p => ss.length - p.1) _ (fun p hp => ?_) (0, []) ⟨Nat.zero_le _, by simpa [sszL] using hk, by simp⟩
  obtain ⟨i, K1⟩ := p
  obtain ⟨hi', hk1, hgood⟩ := hp
  simp only at hi' hk1 hgood
  by_cases hi : i < ss.length
  · have hx := List.getElem?_eq_getElem hi
    have hw := wrap_nat i (by omega)
    have hts := sszL_take_succ ss i _ hx
    have htk : ss.take (i + 1) = ss.take i ++ [ss[i]] := by rw [List.take_add_one, hx]; rfl
    obtain ⟨hok, hspec⟩ := hs _ (List.getElem_mem hi)
    rw [htk] at hts
    generalize hxx : ss[i] = x at *
    have hzz : ssz x = 1 + x.inner := by obtain ⟨kind, name, low, high, step, mark, dim, pieces, tA, tS, val, body, els⟩ := x; simp [ssz, Stm.inner, Nat.add_assoc]
    have hm := mAt x
    obtain ⟨hg1, hg2⟩ := mfn_ok x
    have h136 := ic136_ok x
    have h136n := ic136_no x
    have hsp := hspec (G.set c (ckB t (k + sszL (ss.take i) + 1 : Nat)) ++ [⟨19, [x.cs], .box⟩]) (K ++ K1) c (k + sszL (ss.take i) + 1) l z cp
    have hset : ∀ q, (G.set c (ckB t (k + sszL (ss.take i) + 1 : Nat)) ++ [(⟨19, [x.cs], .box⟩ : Blk)]).set c q = G.set c q ++ [⟨19, [x.cs], .box⟩] := fun q => by rw [List.set_append_left _ _ (by simpa using hlc), List.set_set]
    have hget : (G.set c (ckB t (k + sszL (ss.take i) + 1 : Nat)) ++ [(⟨19, [x.cs], .box⟩ : Blk)])[c]? = some (ckB t (k + sszL (ss.take i) + 1 : Nat)) := by
      rw [List.getElem?_append_left (by simpa using hlc), List.getElem?_set_self hlc]
    have hsc := hn.scrub
    have hws := wrap_nat (k + sszL (ss.take i)) (by omega)
    have hlt2 : k + sszL (ss.take i) + 1 ≤ 257 := by omega
    unfold OutC at hsp
    simp only [hset] at hsp
    generalize mfn x = g at *
    generalize hkk : k + sszL (ss.take i) = kk at *
    have hkk2 : k + sszL (ss.take i ++ [x]) = kk + 1 + x.inner := by omega
    by_cases c1 : (kk : Int) + 1 ≤ 256
    · cases hokk : okK x.kind with
      | false =>
        left
        have h136n := h136n hokk
        obtain ⟨kind, name, low, high, step, mark, dim, pieces, tA, tS, val, body, els⟩ := x
        obtain ⟨op, k1, L, rA, subs, args⟩ := val
        simp at h136n
        simp [lb100_2, Tryz.f100, S100, ckB, hi, hlc, hx, hws, hkk, c1, h136n, stops, List.set_append_left, List.getElem?_append_left, app_new0, app_set0]
        exact ⟨_, kk + 1, rfl⟩
      | true =>
        have h136 := h136 hokk
        have hm := hm hokk
        have hsp := hsp (by omega) hget (hn.mono K1) hl hokk
        have hkv : ∀ a, freeze a (.lst z (l.map strC) cp) = .lst (szOf 1 (l.map strC)) (l.map strC) .no := fun a => by rw [fz_any _ _ _ _ hn.bor, hn.sz]
        rcases hsp with ⟨K2, hsp, hle, hgs⟩ | ⟨k2, K2, hsp⟩
        · right
          have hgood' : ∀ s ∈ ss.take i ++ [x], GoodS t.ps.length l.length s := fun s h => by
            rcases List.mem_append.1 h with h | h
            · exact hgood s h
            · rw [List.mem_singleton.1 h]; exact hgs
          obtain ⟨kind, name, low, high, step, mark, dim, pieces, tA, tS, val, body, els⟩ := x
          obtain ⟨op, k1, L, rA, subs, args⟩ := val
          generalize Stm.inner (Stm.mk kind name low high step mark dim pieces tA tS (Ex.mk op k1 L rA subs args) body els) = inn at *
          have hk2' : (Stm.mk kind name low high step mark dim pieces tA tS (Ex.mk op k1 L rA subs args) body els).kind = kind := rfl
          rw [hk2'] at h136 hm
          simp [ckB] at h136 hsp
          simp [lb100_2, Tryz.f100, S100, ckB, hi, hw, hlc, hx, hws, hkk, c1, h136, hm, hg1, hg2, hsp, hsc, hkv, gc_set0 _ _ _ _ _ hG, List.set_append_left, List.getElem?_append_left, app_new0, app_set0]
          have hE : (k : Int) + (sszL (ss.take (i + 1)) : Int) = kk + 1 + inn := by rw [htk]; omega
          exact ⟨i + 1, ⟨by omega, by rw [hE]⟩, ⟨by omega, by rw [htk]; omega, by rw [htk]; exact hgood'⟩, by omega⟩
        · left
          obtain ⟨kind, name, low, high, step, mark, dim, pieces, tA, tS, val, body, els⟩ := x
          obtain ⟨op, k1, L, rA, subs, args⟩ := val
          have hk2' : (Stm.mk kind name low high step mark dim pieces tA tS (Ex.mk op k1 L rA subs args) body els).kind = kind := rfl
          rw [hk2'] at h136 hm
          simp [ckB] at h136 hsp
          simp [lb100_2, Tryz.f100, S100, ckB, hi, hlc, hx, hws, hkk, c1, h136, hm, hg1, hg2, hsp, hsc, hkv, stops, List.set_append_left, List.getElem?_append_left, app_new0, app_set0]
          exact ⟨_, k2, rfl⟩
    · left
      obtain ⟨kind, name, low, high, step, mark, dim, pieces, tA, tS, val, body, els⟩ := x
      obtain ⟨op, k1, L, rA, subs, args⟩ := val
      simp [lb100_2, Tryz.f100, S100, ckB, hi, hlc, hx, hws, hkk, c1, stops, List.set_append_left, List.getElem?_append_left, app_new0, app_set0]
      exact ⟨_, kk + 1, rfl⟩
  · left
    obtain rfl : i = ss.length := by omega
    rw [List.take_length] at hk1 hgood
    simp [lb100_2, Tryz.f100, S100, stops]
    exact ⟨hk1, hgood⟩
/-- A list of statements, checked. -/
theorem e100 (k : Nat) (hk : k ≤ 256) (hb : G[c]? = some (ckB t k)) (hn : NmOK K l z cp) (hps : t.ps.length ≤ 2) (hln : l.length ≤ 1073741823) (hss : ss.length ≤ 1073741823) (hs : ∀ s ∈ ss, OkStm s ∧ SpecS t s) :
    OutC (call X 100 [.ptr c 0 0, lst 19 (ss.map Stm.cs), .lst z (l.map strC) cp] G K) G K c t (k + sszL ss) (k + sszL ss ≤ 256 ∧ ∀ s ∈ ss, GoodS t.ps.length l.length s) := by
  have hlc : c < G.length := (List.getElem?_eq_some_iff.1 hb).1
  have hG : G ≠ [] := by rintro rfl; simp at hb
  have hsc := hn.scrub
  have hw0 := wrap_id ((l.length : Int) - t.ps.length) (by omega) (by omega)
  have hself : G.set c (ckB t k) = G := by
    apply List.ext_getElem?
    intro j
    by_cases e : j = c
    · subst e; rw [List.getElem?_set_self hlc, hb]
    · rw [List.getElem?_set_ne (fun h => e h.symm)]
  by_cases c0 : ss = []
  · subst c0
    have hb' := hb
    simp only [ckB_def] at hb'
    left
    refine ⟨[], ?_, by simpa [sszL] using hk⟩
    simp only [sszL, Nat.add_zero, hself, List.append_nil]
    have hloop : ∃ o, (∀ s, s.gc [0, 2, 24, 25, 26] G.length K.length = (⟨[(0, .ptr c 0 0), (2, .lst z (l.map strC) cp), (24, .lst 0 [] .no), (25, .int .i64 0), (26, .int .i64 0)], G, K, G.length⟩ : St) → loopE X 100 lb100_2 (St.gc [0, 2, 24, 25, 26] G.length K.length) s = some o) ∧ ∃ e, o = .exit 0 ⟨e, G, K, G.length⟩ := by
      refine loop_inv (fun _ : Unit => (⟨[(0, .ptr c 0 0), (2, .lst z (l.map strC) cp), (24, .lst 0 [] .no), (25, .int .i64 0), (26, .int .i64 0)], G, K, G.length⟩ : St)) (fun _ => True) (fun _ => 0) _ (fun p hp => ?_) () trivial
      left
      simp [lb100_2, Tryz.f100, stops]
    obtain ⟨o, h1, e, rfl⟩ := hloop
    simp only [lb100_2, Tryz.f100, bodyOf_some, sub_seq0, sub_seq1, sub_block, sub_loop, sub_nil] at h1
    rw [call_eq (by decide) (by simp)]
    simp [Tryz.func100, Tryz.f100, envOf, ex_loop, firstReg, hb', hlc, h1, hsc, gc_own0' _ _ hG, leave_pure]
  · by_cases c1 : (l.length : Int) - t.ps.length ≤ 10
    · obtain ⟨o, h1, h2⟩ := loop100 G K c t l z cp ss k hk hb hn (by omega) hss hs
      have h0 : S100 G K c t l z cp ss k (0, []) = ⟨[(0, .ptr c 0 0), (2, .lst z (l.map strC) cp), (24, lst 19 (ss.map Stm.cs)), (25, .int .i64 ss.length), (26, .int .i64 0)], G, K, G.length⟩ := by
        simp only [S100, List.take_zero, sszL, Nat.add_zero, hself, List.append_nil]
        rfl
      rw [h0] at h1
      simp only [ckB_def] at hb
      simp only [lb100_2, Tryz.f100, bodyOf_some, sub_seq0, sub_seq1, sub_block, sub_loop, sub_nil] at h1
      simp at h1
      rcases h2 with ⟨e, K', rfl, h3, h4⟩ | ⟨e, r, K', k2, rfl⟩
      · left
        refine ⟨K', ?_, h3, h4⟩
        rw [call_eq (by decide) (by simp)]
        simp [Tryz.func100, Tryz.f100, envOf, ex_loop, firstReg, hb, hlc, hw0, c0, c1, h1, hsc, gc_own0' _ _ hG, leave_pure]
      · right
        refine ⟨k2, K', ?_⟩
        rw [call_eq (by decide) (by simp)]
        simp [Tryz.func100, Tryz.f100, envOf, ex_loop, firstReg, hb, hlc, hw0, c0, c1, h1, hsc, gc_own0' _ _ hG]
    · right
      refine ⟨k, [], ?_⟩
      simp only [hself, List.append_nil]
      simp only [ckB_def] at hb
      rw [call_eq (by decide) (by simp)]
      simp [Tryz.func100, Tryz.f100, envOf, hb, hlc, hw0, c0, c1]
end
end T
end

section
open Go Go.Proofs Go.Sym
namespace T
attribute [-simp] getElem?_pos
/-! f199 loop.check -/
theorem set_self {G : List Blk} {c : Nat} {x : Blk} (h : G[c]? = some x) : G.set c x = G := by
  have hlc : c < G.length := (List.getElem?_eq_some_iff.1 h).1
  apply List.ext_getElem?
  intro j
  by_cases e : j = c
  · subst e; rw [List.getElem?_set_self hlc, h]
  · rw [List.getElem?_set_ne (fun h => e h.symm)]
theorem tok_new (K : List Nat) (n : Nat) (r : List Nat) : (K ++ n :: r)[K.length]? = some n := by
  rw [List.getElem?_append_right (Nat.le_refl _), Nat.sub_self]
  rfl
theorem set_tok (K : List Nat) (n m : Nat) (r : List Nat) : (K ++ n :: r).set K.length m = K ++ m :: r := by
  rw [List.set_append_right _ _ (Nat.le_refl _)]; simp
set_option maxHeartbeats 4000000 in
theorem spec199 (t : PT) (hps : t.ps.length ≤ 2) (harr : t.arrs.length ≤ 1073741823) (name : ByteArray) (low high : Tab) (step mark dim : Int) (pieces : List (List Cnd)) (tA : Int) (tS : List Lin) (val : Ex) (body els : List Stm) (hlow : okTab' low) (hhigh : okTab' high)
    (hbl : body.length ≤ 1073741823) (hbody : ∀ s ∈ body, OkStm s ∧ SpecS t s) (G : List Blk) (K : List Nat) (c k : Nat) (l : List ByteArray) (z : Nat) (cp : Cap) (hk : k ≤ 256) (hb : G[c]? = some (ckB t k)) (hn : NmOK K l z cp) (hlen : l.length ≤ t.ps.length + 10) :
    OutC (call X 199 [.agg (Stm.cs (.mk 1 name low high step mark dim pieces tA tS val body els)), .ptr c 0 0, .lst z (l.map strC) cp] G K) G K c t (k + (sszL body + sszL els)) (k + (sszL body + sszL els) ≤ 256 ∧ GoodS t.ps.length l.length (.mk 1 name low high step mark dim pieces tA tS val body els)) := by
  have hlc : c < G.length := (List.getElem?_eq_some_iff.1 hb).1
  have hself := set_self hb
  obtain ⟨op, k1, L, rA, subs, args⟩ := val
  have hkv : ∀ a, freeze a (.lst z (l.map strC) cp) = .lst (szOf 1 (l.map strC)) (l.map strC) .no := fun a => by rw [fz_any _ _ _ _ hn.bor, hn.sz]
  have hlim : l.length + 1 ≤ 1073741824 := by omega
  obtain ⟨b1, h134⟩ := ic134 name l (by omega)
  obtain ⟨b2, h200⟩ := e200 (G ++ [⟨19, [Stm.cs (.mk 1 name low high step mark dim pieces tA tS (.mk op k1 L rA subs args) body els)], .box⟩, ⟨19, [Stm.cs (.mk 1 name low high step mark dim pieces tA tS (.mk op k1 L rA subs args) body els)], .box⟩]) K (G.length + 1) _ (app_new1 _ _ _ _) t.arrs harr
  have hlo := ic202 low l.length hlow
  have hhi := ic202 high l.length hhigh
  have h203 := ic203 dim pieces
  have h204 := ic204 tA tS
  have h205 := ic205 (.mk op k1 L rA subs args)
  have h101 := ic101 (l.map strC) (by simp; omega)
  have h100 := e100 (G ++ [⟨19, [Stm.cs (.mk 1 name low high step mark dim pieces tA tS (.mk op k1 L rA subs args) body els)], .box⟩, ⟨19, [Stm.cs (.mk 1 name low high step mark dim pieces tA tS (.mk op k1 L rA subs args) body els)], .box⟩]) (K ++ [l.length + 1]) c t (l ++ [name]) 1 (.tok K.length) body k hk
    (by rw [List.getElem?_append_left hlc, hb]) ⟨by simp, by simp, fun i h => by cases h; simp⟩ hps (by simp; omega) hbl hbody
  have hset : ∀ q, (G ++ [(⟨19, [Stm.cs (.mk 1 name low high step mark dim pieces tA tS (.mk op k1 L rA subs args) body els)], .box⟩ : Blk), ⟨19, [Stm.cs (.mk 1 name low high step mark dim pieces tA tS (.mk op k1 L rA subs args) body els)], .box⟩]).set c q = G.set c q ++ [⟨19, [Stm.cs (.mk 1 name low high step mark dim pieces tA tS (.mk op k1 L rA subs args) body els)], .box⟩, ⟨19, [Stm.cs (.mk 1 name low high step mark dim pieces tA tS (.mk op k1 L rA subs args) body els)], .box⟩] := fun q => by rw [List.set_append_left _ _ hlc]
  unfold OutC at h100
  simp only [hset, List.length_append, List.length_cons, List.length_nil, Nat.zero_add] at h100
  unfold Nd at hlo hhi
  simp only [ckB_def] at hb hself
  unfold OutC
  simp at h200 h205
  simp only [Stm.cs_mk, ckB_def]
  cases b1 with
  | false =>
    right
    refine ⟨k, [], ?_⟩
    simp only [hself, List.append_nil]
    try simp at h200
    rw [call_eq (by decide) (by simp)]
    simp [Tryz.func199, Tryz.f199, envOf, hb, hlc, hkv, h134, h203, h204, h205, h101, hlim, List.getElem?_append_left, app_new0, app_new1]
  | true =>
    cases b2 with
    | true =>
      right
      refine ⟨k, [], ?_⟩
      simp only [hself, List.append_nil]
      try simp at h200
      rw [call_eq (by decide) (by simp)]
      simp [Tryz.func199, Tryz.f199, envOf, hb, hlc, hkv, h134, h203, h204, h205, h101, hlim, List.getElem?_append_left, app_new0, app_new1, h200]
    | false =>
      rcases hlo with hlo | hlo
      · skip
        rcases hhi with hhi | hhi
        · skip
          by_cases c1 : 1 ≤ step
          · skip
            by_cases c2 : step ≤ 64
            · skip
              by_cases c3 : 0 ≤ mark
              · skip
                by_cases c4 : mark ≤ 2
                · skip
                  by_cases cs1 : step = 1
                  · subst cs1
                    by_cases c5 : unset dim pieces = true
                    · skip
                      by_cases c6 : plainRef tA tS = true
                      · skip
                        by_cases c7 : plainEx (Ex.mk op k1 L rA subs args) = true
                        · skip
                          by_cases c8 : els = []
                          · subst c8
                            try simp at h200
                            rcases h100 with ⟨K', h100, hle, hgd⟩ | ⟨k2, K', h100⟩
                            · left
                              refine ⟨[l.length + 1] ++ K', ?_, by simpa [sszL] using hle, GoodS.loop hlen (by simpa using hgd)⟩
                              simp [ckB] at h100
                              rw [call_eq (by decide) (by simp)]
                              simp [Tryz.func199, Tryz.f199, envOf, hb, hlc, hkv, h134, h203, h204, h205, h101, hlim, List.getElem?_append_left, app_new0, app_new1, h200, hlo, hhi, c1, c2, c3, c4, c5, c6, c7, h100, tok_new, set_tok, ckB, sszL, leave_pure]
                            · right
                              refine ⟨k2, [l.length + 1] ++ K', ?_⟩
                              simp [ckB] at h100
                              rw [call_eq (by decide) (by simp)]
                              simp [Tryz.func199, Tryz.f199, envOf, hb, hlc, hkv, h134, h203, h204, h205, h101, hlim, List.getElem?_append_left, app_new0, app_new1, h200, hlo, hhi, c1, c2, c3, c4, c5, c6, c7, h100, tok_new, set_tok, ckB]
                          · right
                            refine ⟨k, [], ?_⟩
                            simp only [hself, List.append_nil]
                            try simp at h200
                            rw [call_eq (by decide) (by simp)]
                            simp [Tryz.func199, Tryz.f199, envOf, hb, hlc, hkv, h134, h203, h204, h205, h101, hlim, List.getElem?_append_left, app_new0, app_new1, h200, hlo, hhi, c1, c2, c3, c4, c5, c6, c7, c8]
                        · right
                          refine ⟨k, [], ?_⟩
                          simp only [hself, List.append_nil]
                          try simp at h200
                          rw [call_eq (by decide) (by simp)]
                          simp [Tryz.func199, Tryz.f199, envOf, hb, hlc, hkv, h134, h203, h204, h205, h101, hlim, List.getElem?_append_left, app_new0, app_new1, h200, hlo, hhi, c1, c2, c3, c4, c5, c6, c7]
                      · right
                        refine ⟨k, [], ?_⟩
                        simp only [hself, List.append_nil]
                        try simp at h200
                        rw [call_eq (by decide) (by simp)]
                        simp [Tryz.func199, Tryz.f199, envOf, hb, hlc, hkv, h134, h203, h204, h205, h101, hlim, List.getElem?_append_left, app_new0, app_new1, h200, hlo, hhi, c1, c2, c3, c4, c5, c6]
                    · right
                      refine ⟨k, [], ?_⟩
                      simp only [hself, List.append_nil]
                      try simp at h200
                      rw [call_eq (by decide) (by simp)]
                      simp [Tryz.func199, Tryz.f199, envOf, hb, hlc, hkv, h134, h203, h204, h205, h101, hlim, List.getElem?_append_left, app_new0, app_new1, h200, hlo, hhi, c1, c2, c3, c4, c5]
                  · rcases low with _ | ⟨lo0, _ | ⟨lo1, lo2⟩⟩
                    · right
                      refine ⟨k, [], ?_⟩
                      simp only [hself, List.append_nil]
                      try simp at h200
                      try simp at hlo
                      rw [call_eq (by decide) (by simp)]
                      simp [Tryz.func199, Tryz.f199, envOf, hb, hlc, hkv, h134, h203, h204, h205, h101, hlim, List.getElem?_append_left, app_new0, app_new1, h200, hlo, hhi, c1, c2, c3, c4, cs1]
                    · rcases lo0 with _ | ⟨r0, _ | ⟨r1, r2⟩⟩
                      · right
                        refine ⟨k, [], ?_⟩
                        simp only [hself, List.append_nil]
                        try simp at h200
                        try simp at hlo
                        rw [call_eq (by decide) (by simp)]
                        simp [Tryz.func199, Tryz.f199, envOf, hb, hlc, hkv, h134, h203, h204, h205, h101, hlim, List.getElem?_append_left, app_new0, app_new1, h200, hlo, hhi, c1, c2, c3, c4, cs1]
                      · by_cases cd : r0.D = 1
                        · simp [cd] at hlo
                          by_cases c5 : unset dim pieces = true
                          · skip
                            by_cases c6 : plainRef tA tS = true
                            · skip
                              by_cases c7 : plainEx (Ex.mk op k1 L rA subs args) = true
                              · skip
                                by_cases c8 : els = []
                                · subst c8
                                  try simp [cd] at h200
                                  rcases h100 with ⟨K', h100, hle, hgd⟩ | ⟨k2, K', h100⟩
                                  · left
                                    refine ⟨[l.length + 1] ++ K', ?_, by simpa [sszL] using hle, GoodS.loop hlen (by simpa using hgd)⟩
                                    simp [ckB, cd] at h100
                                    rw [call_eq (by decide) (by simp)]
                                    simp [Tryz.func199, Tryz.f199, envOf, hb, hlc, hkv, h134, h203, h204, h205, h101, hlim, List.getElem?_append_left, app_new0, app_new1, h200, hlo, hhi, c1, c2, c3, c4, cs1, cd, c5, c6, c7, h100, tok_new, set_tok, ckB, sszL, leave_pure]
                                  · right
                                    refine ⟨k2, [l.length + 1] ++ K', ?_⟩
                                    simp [ckB, cd] at h100
                                    rw [call_eq (by decide) (by simp)]
                                    simp [Tryz.func199, Tryz.f199, envOf, hb, hlc, hkv, h134, h203, h204, h205, h101, hlim, List.getElem?_append_left, app_new0, app_new1, h200, hlo, hhi, c1, c2, c3, c4, cs1, cd, c5, c6, c7, h100, tok_new, set_tok, ckB]
                                · right
                                  refine ⟨k, [], ?_⟩
                                  simp only [hself, List.append_nil]
                                  try simp [cd] at h200
                                  try simp [cd] at hlo
                                  rw [call_eq (by decide) (by simp)]
                                  simp [Tryz.func199, Tryz.f199, envOf, hb, hlc, hkv, h134, h203, h204, h205, h101, hlim, List.getElem?_append_left, app_new0, app_new1, h200, hlo, hhi, c1, c2, c3, c4, cs1, cd, c5, c6, c7, c8]
                              · right
                                refine ⟨k, [], ?_⟩
                                simp only [hself, List.append_nil]
                                try simp [cd] at h200
                                try simp [cd] at hlo
                                rw [call_eq (by decide) (by simp)]
                                simp [Tryz.func199, Tryz.f199, envOf, hb, hlc, hkv, h134, h203, h204, h205, h101, hlim, List.getElem?_append_left, app_new0, app_new1, h200, hlo, hhi, c1, c2, c3, c4, cs1, cd, c5, c6, c7]
                            · right
                              refine ⟨k, [], ?_⟩
                              simp only [hself, List.append_nil]
                              try simp [cd] at h200
                              try simp [cd] at hlo
                              rw [call_eq (by decide) (by simp)]
                              simp [Tryz.func199, Tryz.f199, envOf, hb, hlc, hkv, h134, h203, h204, h205, h101, hlim, List.getElem?_append_left, app_new0, app_new1, h200, hlo, hhi, c1, c2, c3, c4, cs1, cd, c5, c6]
                          · right
                            refine ⟨k, [], ?_⟩
                            simp only [hself, List.append_nil]
                            try simp [cd] at h200
                            try simp [cd] at hlo
                            rw [call_eq (by decide) (by simp)]
                            simp [Tryz.func199, Tryz.f199, envOf, hb, hlc, hkv, h134, h203, h204, h205, h101, hlim, List.getElem?_append_left, app_new0, app_new1, h200, hlo, hhi, c1, c2, c3, c4, cs1, cd, c5]
                        · simp at hlo
                          right
                          refine ⟨k, [], ?_⟩
                          simp only [hself, List.append_nil]
                          try simp [cd] at h200
                          try simp [cd] at hlo
                          rw [call_eq (by decide) (by simp)]
                          simp [Tryz.func199, Tryz.f199, envOf, hb, hlc, hkv, h134, h203, h204, h205, h101, hlim, List.getElem?_append_left, app_new0, app_new1, h200, hlo, hhi, c1, c2, c3, c4, cs1, cd]
                      · have hz : ¬ ((r2.length : Int) + 1 + 1 = 1) := by omega
                        right
                        refine ⟨k, [], ?_⟩
                        simp only [hself, List.append_nil]
                        try simp at h200
                        try simp at hlo
                        rw [call_eq (by decide) (by simp)]
                        simp [Tryz.func199, Tryz.f199, envOf, hb, hlc, hkv, h134, h203, h204, h205, h101, hlim, List.getElem?_append_left, app_new0, app_new1, h200, hlo, hhi, c1, c2, c3, c4, cs1, hz]
                    · have hz : ¬ ((lo2.length : Int) + 1 + 1 = 1) := by omega
                      right
                      refine ⟨k, [], ?_⟩
                      simp only [hself, List.append_nil]
                      try simp at h200
                      try simp at hlo
                      rw [call_eq (by decide) (by simp)]
                      simp [Tryz.func199, Tryz.f199, envOf, hb, hlc, hkv, h134, h203, h204, h205, h101, hlim, List.getElem?_append_left, app_new0, app_new1, h200, hlo, hhi, c1, c2, c3, c4, cs1, hz]
                · right
                  refine ⟨k, [], ?_⟩
                  simp only [hself, List.append_nil]
                  try simp at h200
                  rw [call_eq (by decide) (by simp)]
                  simp [Tryz.func199, Tryz.f199, envOf, hb, hlc, hkv, h134, h203, h204, h205, h101, hlim, List.getElem?_append_left, app_new0, app_new1, h200, hlo, hhi, c1, c2, c3, c4]
              · right
                refine ⟨k, [], ?_⟩
                simp only [hself, List.append_nil]
                try simp at h200
                rw [call_eq (by decide) (by simp)]
                simp [Tryz.func199, Tryz.f199, envOf, hb, hlc, hkv, h134, h203, h204, h205, h101, hlim, List.getElem?_append_left, app_new0, app_new1, h200, hlo, hhi, c1, c2, c3]
            · right
              refine ⟨k, [], ?_⟩
              simp only [hself, List.append_nil]
              try simp at h200
              rw [call_eq (by decide) (by simp)]
              simp [Tryz.func199, Tryz.f199, envOf, hb, hlc, hkv, h134, h203, h204, h205, h101, hlim, List.getElem?_append_left, app_new0, app_new1, h200, hlo, hhi, c1, c2]
          · right
            refine ⟨k, [], ?_⟩
            simp only [hself, List.append_nil]
            try simp at h200
            rw [call_eq (by decide) (by simp)]
            simp [Tryz.func199, Tryz.f199, envOf, hb, hlc, hkv, h134, h203, h204, h205, h101, hlim, List.getElem?_append_left, app_new0, app_new1, h200, hlo, hhi, c1]
        · right
          refine ⟨k, [], ?_⟩
          simp only [hself, List.append_nil]
          try simp at h200
          rw [call_eq (by decide) (by simp)]
          simp [Tryz.func199, Tryz.f199, envOf, hb, hlc, hkv, h134, h203, h204, h205, h101, hlim, List.getElem?_append_left, app_new0, app_new1, h200, hlo, hhi]
      · right
        refine ⟨k, [], ?_⟩
        simp only [hself, List.append_nil]
        try simp at h200
        rw [call_eq (by decide) (by simp)]
        simp [Tryz.func199, Tryz.f199, envOf, hb, hlc, hkv, h134, h203, h204, h205, h101, hlim, List.getElem?_append_left, app_new0, app_new1, h200, hlo]
end T
end

section
open Go Go.Proofs Go.Sym
namespace T
attribute [-simp] getElem?_pos
/-! f208 test.check -/
set_option maxHeartbeats 4000000 in
theorem spec208 (t : PT) (hps : t.ps.length ≤ 2) (name : ByteArray) (low high : Tab) (step mark dim : Int) (pieces : List (List Cnd)) (tA : Int) (tS : List Lin) (val : Ex) (body els : List Stm) (hpie : okPie pieces)
    (hbl : body.length ≤ 1073741823) (hel : els.length ≤ 1073741823) (hbody : ∀ s ∈ body, OkStm s ∧ SpecS t s) (hels : ∀ s ∈ els, OkStm s ∧ SpecS t s) (G : List Blk) (K : List Nat) (c k : Nat) (l : List ByteArray) (z : Nat) (cp : Cap) (hk : k ≤ 256) (hb : G[c]? = some (ckB t k)) (hn : NmOK K l z cp) (hlen : l.length ≤ t.ps.length + 10) :
    OutC (call X 208 [.agg (Stm.cs (.mk 2 name low high step mark dim pieces tA tS val body els)), .ptr c 0 0, .lst z (l.map strC) cp] G K) G K c t (k + (sszL body + sszL els)) (k + (sszL body + sszL els) ≤ 256 ∧ GoodS t.ps.length l.length (.mk 2 name low high step mark dim pieces tA tS val body els)) := by
  have hlc : c < G.length := (List.getElem?_eq_some_iff.1 hb).1
  have hself := set_self hb
  obtain ⟨b9, h209⟩ := ic209 (.mk 2 name low high step mark dim pieces tA tS val body els)
  obtain ⟨op, k1, L, rA, subs, args⟩ := val
  have h204 := ic204 tA tS
  have h205 := ic205 (.mk op k1 L rA subs args)
  obtain ⟨b10, h210⟩ := ic210 dim pieces hpie
  generalize hB : (⟨19, [Stm.cs (.mk 2 name low high step mark dim pieces tA tS (.mk op k1 L rA subs args) body els)], .box⟩ : Blk) = B
  have hset : ∀ q, (G ++ [B, B]).set c q = G.set c q ++ [B, B] := fun q => by rw [List.set_append_left _ _ hlc]
  have hset2 : ∀ x q, (G.set c x ++ [B, B]).set c q = G.set c q ++ [B, B] := fun x q => by rw [List.set_append_left _ _ (by simpa using hlc), List.set_set]
  have ha := e100 (G ++ [B, B]) K c t l z cp body k hk (by rw [List.getElem?_append_left hlc, hb]) hn hps (by omega) hbl hbody
  have hb2 : ∀ K1, k + sszL body ≤ 256 → _ := fun K1 hk2 => e100 (G.set c (ckB t (k + sszL body : Nat)) ++ [B, B]) (K ++ K1) c t l z cp els (k + sszL body) hk2 (by rw [List.getElem?_append_left (by simpa using hlc), List.getElem?_set_self hlc]) (hn.mono K1) hps (by omega) hel hels
  unfold OutC at ha hb2
  simp only [hset] at ha
  simp only [hset2] at hb2
  subst hB
  simp only [ckB_def] at hb hself
  unfold OutC
  simp at h205
  simp only [Stm.cs_mk, Ex.cs_mk, ints_def, lst_def, tabV_def, int_def] at h209
  simp only [Stm.cs_mk, ckB_def]
  cases b9 with
  | false =>
    right
    refine ⟨k, [], ?_⟩
    simp only [hself, List.append_nil]
    rw [call_eq (by decide) (by simp)]
    simp [Tryz.func208, Tryz.f208, envOf, hb, hlc, h209, List.getElem?_append_left, app_new0, app_new1]
  | true =>
    by_cases c1 : plainRef tA tS = true
    · by_cases c2 : plainEx (Ex.mk op k1 L rA subs args) = true
      · cases b10 with
        | false =>
          right
          refine ⟨k, [], ?_⟩
          simp only [hself, List.append_nil]
          rw [call_eq (by decide) (by simp)]
          simp [Tryz.func208, Tryz.f208, envOf, hb, hlc, h209, h204, h205, h210, c1, c2, List.getElem?_append_left, app_new0, app_new1]
        | true =>
          by_cases c3 : dim = l.length
          · subst c3
            rcases ha with ⟨K1, ha, hle1, hg1⟩ | ⟨k2, K1, ha⟩
            · rcases hb2 K1 hle1 with ⟨K2, hb2, hle2, hg2⟩ | ⟨k2, K2, hb2⟩
              · left
                refine ⟨K1 ++ K2, ?_, by omega, GoodS.test hlen hg1 hg2⟩
                simp [ckB] at ha hb2
                rw [call_eq (by decide) (by simp)]
                simp [Tryz.func208, Tryz.f208, envOf, hb, hlc, h209, h204, h205, h210, c1, c2, ha, hb2, List.getElem?_append_left, app_new0, app_new1, app_set0, app_set1, leave_pure]
                rw [Int.add_assoc]
              · right
                refine ⟨k2, K1 ++ K2, ?_⟩
                simp [ckB] at ha hb2
                rw [call_eq (by decide) (by simp)]
                simp [Tryz.func208, Tryz.f208, envOf, hb, hlc, h209, h204, h205, h210, c1, c2, ha, hb2, List.getElem?_append_left, app_new0, app_new1, app_set0, app_set1]
            · right
              refine ⟨k2, K1, ?_⟩
              simp [ckB] at ha
              rw [call_eq (by decide) (by simp)]
              simp [Tryz.func208, Tryz.f208, envOf, hb, hlc, h209, h204, h205, h210, c1, c2, ha, List.getElem?_append_left, app_new0, app_new1, app_set0, app_set1]
          · right
            refine ⟨k, [], ?_⟩
            simp only [hself, List.append_nil]
            rw [call_eq (by decide) (by simp)]
            simp [Tryz.func208, Tryz.f208, envOf, hb, hlc, h209, h204, h205, h210, c1, c2, c3, List.getElem?_append_left, app_new0, app_new1]
      · right
        refine ⟨k, [], ?_⟩
        simp only [hself, List.append_nil]
        rw [call_eq (by decide) (by simp)]
        simp [Tryz.func208, Tryz.f208, envOf, hb, hlc, h209, h204, h205, c1, c2, List.getElem?_append_left, app_new0, app_new1]
    · right
      refine ⟨k, [], ?_⟩
      simp only [hself, List.append_nil]
      rw [call_eq (by decide) (by simp)]
      simp [Tryz.func208, Tryz.f208, envOf, hb, hlc, h209, h204, c1, List.getElem?_append_left, app_new0, app_new1]
theorem specS (t : PT) (hps : t.ps.length ≤ 2) (harr : t.arrs.length ≤ 1073741823) {s : Stm} (h : OkStm s) : SpecS t s := by
  induction h with
  | @mk kind name low high step mark dim pieces tA tS val body els hname hlow hhigh hpie htS hval hbl hel hbody hels ih1 ih2 =>
  intro G K c k l z cp hk hb hn hlen hok
  have hok' : okK kind = true := hok
  simp only [okK, Bool.or_eq_true, decide_eq_true_eq] at hok'
  rcases hok' with (rfl | rfl) | rfl
  · exact spec199 t hps harr name low high step mark dim pieces tA tS val body els hlow hhigh hbl (fun s hs => ⟨hbody s hs, ih1 s hs⟩) G K c k l z cp hk hb hn hlen
  · exact spec208 t hps name low high step mark dim pieces tA tS val body els hpie hbl hel (fun s hs => ⟨hbody s hs, ih1 s hs⟩) (fun s hs => ⟨hels s hs, ih2 s hs⟩) G K c k l z cp hk hb hn hlen
  · have hs0 : OkStm (.mk 3 name low high step mark dim pieces tA tS val body els) := OkStm.mk hname hlow hhigh hpie htS hval hbl hel hbody hels
    rcases e213 G K c t k hb l z cp _ hs0 with ⟨h, hv, h1, h2⟩ | h
    · left
      have h1' : body = [] := h1
      have h2' : els = [] := h2
      subst h1' h2'
      refine ⟨[], ?_, by simpa [Stm.inner, sszL] using hk, GoodS.asg hlen hv⟩
      simp only [Stm.inner, sszL, Nat.add_zero, List.append_nil, set_self hb]
      exact h
    · right
      refine ⟨k, [], ?_⟩
      simp only [List.append_nil, set_self hb]
      exact h
end T
end

section
open Go Go.Proofs Go.Sym
namespace T
attribute [-simp] getElem?_pos
/-! f99 head -/
section
variable (G : List Blk) (K : List Nat) (c : Nat) (t : PT) (k : Int) (hb : G[c]? = some (ckB t k)) (h8 : t.arrs.length ≤ 8) (h2 : t.ps.length ≤ 2)
include hb
def S99a (i : Nat) : St := ⟨[(0, .ptr c 0 0), (2, .lst 1 ((t.ps.take i).map strC) (.tok K.length)), (30, lst 1 (t.ps.map strC)), (31, .int .i64 t.ps.length), (32, .int .i64 i)], G, K ++ [i], G.length⟩
theorem loop99a (h2 : t.ps.length ≤ 2) : ∃ o, (∀ s, s.gc [0, 2, 30, 31, 32] G.length (K.length + 1) = S99a G K c t 0 → loopE X 99 lb99_3 (St.gc [0, 2, 30, 31, 32] G.length (K.length + 1)) s = some o) ∧
    ((∃ e, o = .exit 0 ⟨e, G, K ++ [t.ps.length], G.length⟩ ∧ get e 0 = .ptr c 0 0 ∧ get e 2 = .lst 1 (t.ps.map strC) (.tok K.length)) ∨ ∃ (e : _) (r : _) (K' : List Nat), o = .panic (.iface 163 (.agg [])) ⟨e, G ++ r, K ++ K', G.length⟩) := by
  have hlc : c < G.length := (List.getElem?_eq_some_iff.1 hb).1
  have hG : G ≠ [] := by rintro rfl; simp at hb
  refine loop_inv (S99a G K c t) (fun i => i ≤ t.ps.length) (fun i => t.ps.length - i) _ (fun i hi' => ?_) 0 (Nat.zero_le _)
  by_cases hi : i < t.ps.length
  · have hx := List.getElem?_eq_getElem hi
    have hw := wrap_nat i (by omega)
    have htk : (t.ps.take (i + 1)).map strC = (t.ps.take i).map strC ++ [[.str t.ps[i]]] := by rw [List.take_add_one, hx, List.map_append]; rfl
    have hlim : i + 1 ≤ 1073741824 := by omega
    generalize t.ps[i] = x at *
    obtain ⟨b, h134⟩ := ic134 x (t.ps.take i) (by simp; omega)
    have hmin : min i t.ps.length = i := by omega
    cases b with
    | true =>
      right
      simp [-List.map_take, lb99_3, Tryz.f99, S99a, hi, hw, hx, hlc, h134, hmin, hlim, tok_new, set_tok, gc_own0' _ _ hG]
      exact ⟨i + 1, ⟨⟨htk.symm, by omega⟩, rfl⟩, by omega, by omega⟩
    | false =>
      left
      simp [-List.map_take, lb99_3, Tryz.f99, S99a, hi, hx, hlc, h134, hmin, hlim, tok_new, set_tok, stops]
  · left
    obtain rfl : i = t.ps.length := by omega
    simp [lb99_3, Tryz.f99, S99a, stops]
def arB (x : Arr) : Blk := ⟨2, [[.str x.name, lst 2 (x.sizes.map Lin.cs)]], .box⟩
def S99c (ns : List ByteArray) (i : Nat) (x : Arr) (j : Nat) : St := ⟨[(0, .ptr c 0 0), (2, .lst 1 (ns.map strC) (.tok K.length)), (49, lst 2 (t.arrs.map Arr.cs)), (50, .int .i64 t.arrs.length), (51, .int .i64 i), (72, lst 2 (x.sizes.map Lin.cs)), (73, .int .i64 x.sizes.length), (74, .int .i64 j)], G ++ [arB x], K ++ [ns.length], G.length⟩
theorem loop99c (ns : List ByteArray) (i : Nat) (x : Arr) (hx : okLins x.sizes) : ∃ o, (∀ s, s.gc [0, 2, 49, 50, 51, 72, 73, 74] (G.length + 1) (K.length + 1) = S99c G K c t ns i x 0 → loopE X 99 lb99_14 (St.gc [0, 2, 49, 50, 51, 72, 73, 74] (G.length + 1) (K.length + 1)) s = some o) ∧
    ((∃ e, o = .exit 4 ⟨e, G ++ [arB x], K ++ [ns.length], G.length⟩ ∧ get e 0 = .ptr c 0 0 ∧ get e 2 = .lst 1 (ns.map strC) (.tok K.length) ∧ get e 49 = lst 2 (t.arrs.map Arr.cs) ∧ get e 50 = .int .i64 t.arrs.length ∧ get e 51 = .int .i64 i) ∨ ∃ (e : _) (r : _) (K' : List Nat), o = .panic (.iface 163 (.agg [])) ⟨e, G ++ r, K ++ K', G.length⟩) := by
  have hlc : c < G.length := (List.getElem?_eq_some_iff.1 hb).1
  have hG : G ≠ [] := by rintro rfl; simp at hb
  refine loop_inv (S99c G K c t ns i x) (fun j => j ≤ x.sizes.length) (fun j => x.sizes.length - j) _ (fun j hj' => ?_) 0 (Nat.zero_le _)
  simp only [ckB_def] at hb
  by_cases hj : j < x.sizes.length
  · have hy := List.getElem?_eq_getElem hj
    have hw := wrap_nat j (by have := hx.1; omega)
    have h135 := ic135 x.sizes[j] (hx.2 _ (List.getElem_mem hj)) t.ps.length
    generalize x.sizes[j] = y at *
    cases ho : over t.ps.length y with
    | true =>
      right
      rw [ho] at h135
      simp [lb99_14, Tryz.f99, S99c, arB, hj, hw, hy, hb, hlc, Nat.lt_succ_of_lt hlc, h135, List.getElem?_append_left, app_new0, app_new1, gc_app _ _ _ hG]
      exact ⟨j + 1, by omega, by omega, by omega⟩
    | false =>
      left
      rw [ho] at h135
      simp [lb99_14, Tryz.f99, S99c, arB, hj, hy, hb, hlc, h135, List.getElem?_append_left, app_new0, app_new1, stops]
  · left
    obtain rfl : j = x.sizes.length := by omega
    simp [lb99_14, Tryz.f99, S99c, arB, stops]
def S99b (i : Nat) : St := ⟨[(0, .ptr c 0 0), (2, .lst 1 ((t.ps ++ (t.arrs.take i).map (·.name)).map strC) (.tok K.length)), (49, lst 2 (t.arrs.map Arr.cs)), (50, .int .i64 t.arrs.length), (51, .int .i64 i)], G, K ++ [t.ps.length + i], G.length⟩
theorem loop99b (h2 : t.ps.length ≤ 2) (h8 : t.arrs.length ≤ 8) (hx : ∀ a ∈ t.arrs, okLins a.sizes) : ∃ o, (∀ s, s.gc [0, 2, 49, 50, 51] G.length (K.length + 1) = S99b G K c t 0 → loopE X 99 lb99_9 (St.gc [0, 2, 49, 50, 51] G.length (K.length + 1)) s = some o) ∧
    ((∃ e r K', o = .exit 2 ⟨e, G ++ r, K ++ K', G.length⟩) ∨ ∃ (e : _) (r : _) (K' : List Nat), o = .panic (.iface 163 (.agg [])) ⟨e, G ++ r, K ++ K', G.length⟩) := by
  have hlc : c < G.length := (List.getElem?_eq_some_iff.1 hb).1
  have hG : G ≠ [] := by rintro rfl; simp at hb
  refine loop_inv (S99b G K c t) (fun i => i ≤ t.arrs.length) (fun i => t.arrs.length - i) _ (fun i hi' => ?_) 0 (Nat.zero_le _)
  by_cases hi : i < t.arrs.length
  · have hy := List.getElem?_eq_getElem hi
    have hw := wrap_nat i (by omega)
    obtain ⟨o, h1, h3⟩ := loop99c G K c t k hb (t.ps ++ (t.arrs.take i).map (·.name) ++ [t.arrs[i].name]) i t.arrs[i] (hx _ (List.getElem_mem hi))
    have htk : t.ps ++ (t.arrs.take (i + 1)).map (·.name) = t.ps ++ (t.arrs.take i).map (·.name) ++ [t.arrs[i].name] := by rw [List.take_add_one, hy, List.map_append, List.append_assoc]; rfl
    have hlim : t.ps.length + i + 1 ≤ 1073741824 := by omega
    have hln : (t.ps ++ (t.arrs.take i).map (·.name)).length = t.ps.length + i := by simp; omega
    obtain ⟨b, h134⟩ := ic134 t.arrs[i].name (t.ps ++ (t.arrs.take i).map (·.name)) (by omega)
    generalize t.arrs[i] = x at *
    obtain ⟨nm, sizes⟩ := x
    simp only [ckB_def] at hb
    simp only [lb99_14, Tryz.f99, S99c, arB, bodyOf_some, sub_seq0, sub_seq1, sub_block, sub_loop, sub_nil] at h1
    simp only [lb99_9, S99b]
    generalize hN : t.ps ++ (t.arrs.take i).map (·.name) = N at *
    have hlN : N.length + 1 ≤ 1073741824 := by omega
    rw [← hln] at *
    simp at h1
    cases b with
    | false =>
      left
      simp [Tryz.f99, hi, hy, hb, hlc, h134, stops, app_new0, List.getElem?_append_left]
    | true =>
      by_cases c1 : (sizes.length : Int) ≤ 3
      · rcases h3 with ⟨e, rfl, g1, g2, g3, g4, g5⟩ | ⟨e, r, K', rfl⟩
        · right
          simp [Tryz.f99, hi, hw, hy, hb, hlc, Nat.lt_succ_of_lt hlc, h134, c1, hlN, ex_loop, firstReg, h1, g1, g2, g3, g4, g5, app_new0, List.getElem?_append_left, tok_new, set_tok, gc_own0 _ _ _ hG, gc_app _ _ _ hG]
          exact ⟨i + 1, ⟨⟨by have := congrArg (List.map strC) htk; simpa using this.symm, by omega⟩, by have : N.length = t.ps.length + i := by (rw [← hN]; simp; omega)
                                                                                                        omega⟩, by omega, by omega⟩
        · left
          simp [Tryz.f99, hi, hy, hb, hlc, Nat.lt_succ_of_lt hlc, h134, c1, hlN, ex_loop, firstReg, h1, stops, app_new0, List.getElem?_append_left, tok_new, set_tok, gc_app _ _ _ hG]
      · left
        simp [Tryz.f99, hi, hy, hb, hlc, h134, c1, stops, app_new0, List.getElem?_append_left]
  · left
    obtain rfl : i = t.arrs.length := by omega
    simp [lb99_9, Tryz.f99, S99b, stops]
set_option maxHeartbeats 1000000 in
theorem e99 (hx : ∀ a ∈ t.arrs, okLins a.sizes) (hps : t.ps.length ≤ 1073741823) (harr : t.arrs.length ≤ 1073741823) :
    (∃ K', call X 99 [.ptr c 0 0] G K = some (.ret (.tup []), G, K ++ K') ∧ t.ps.length ≤ 2 ∧ t.arrs.length ≤ 8) ∨ ∃ K', call X 99 [.ptr c 0 0] G K = some (.panic (.iface 163 (.agg [])), G, K ++ K') := by
  have hlc : c < G.length := (List.getElem?_eq_some_iff.1 hb).1
  have hG : G ≠ [] := by rintro rfl; simp at hb
  have hb0 := hb
  simp only [ckB_def] at hb
  by_cases c1 : (t.ps.length : Int) ≤ 2
  · have c1' : t.ps.length ≤ 2 := by omega
    by_cases c2 : (t.arrs.length : Int) ≤ 8
    · have c2' : t.arrs.length ≤ 8 := by omega
      obtain ⟨o, h1, h3⟩ := loop99a G K c t k hb0 c1'
      obtain ⟨o2, h4, h5⟩ := loop99b G K c t k hb0 c1' c2' hx
      simp only [lb99_3, Tryz.f99, S99a, bodyOf_some, sub_seq0, sub_seq1, sub_block, sub_loop, sub_nil] at h1
      simp only [lb99_9, Tryz.f99, S99b, bodyOf_some, sub_seq0, sub_seq1, sub_block, sub_loop, sub_nil] at h4
      simp at h1 h4
      rcases h3 with ⟨e, rfl, g1, g2⟩ | ⟨e, r, K', rfl⟩
      · rcases h5 with ⟨e2, r2, K2, rfl⟩ | ⟨e2, r2, K2, rfl⟩
        · left
          refine ⟨K2, ?_, c1', c2'⟩
          rw [call_eq (by decide) (by simp)]
          simp [Tryz.func99, Tryz.f99, envOf, ex_loop, firstReg, hb, hlc, c1, c1', c2, c2', h1, g1, g2, h4, tok_new, set_tok, gc_own0' _ _ hG, leave_pure]
        · right
          refine ⟨K2, ?_⟩
          rw [call_eq (by decide) (by simp)]
          simp [Tryz.func99, Tryz.f99, envOf, ex_loop, firstReg, hb, hlc, c1, c1', c2, c2', h1, g1, g2, h4, tok_new, set_tok, gc_own0' _ _ hG]
      · right
        refine ⟨K', ?_⟩
        rw [call_eq (by decide) (by simp)]
        simp [Tryz.func99, Tryz.f99, envOf, ex_loop, firstReg, hb, hlc, c1, c1', c2, c2', h1, tok_new, set_tok, gc_own0' _ _ hG]
    · right
      have c2' : ¬ t.arrs.length ≤ 8 := by omega
      refine ⟨[], ?_⟩
      rw [call_eq (by decide) (by simp)]
      simp [Tryz.func99, Tryz.f99, envOf, hb, hlc, c1, c1', c2, c2']
  · right
    have c1' : ¬ t.ps.length ≤ 2 := by omega
    refine ⟨[], ?_⟩
    rw [call_eq (by decide) (by simp)]
    simp [Tryz.func99, Tryz.f99, envOf, hb, hlc, c1, c1']
end
end T
end

section
open Go Go.Proofs Go.Sym
namespace T
attribute [-simp] getElem?_pos
/-! f98, f60 Check -/
def GoodP (t : PT) : Prop := t.ps.length ≤ 2 ∧ t.arrs.length ≤ 8 ∧ sszL t.body ≤ 256 ∧ ∀ s ∈ t.body, GoodS t.ps.length t.ps.length s
theorem r98_ok (b0 : Blk) (x : Int) (r : List Blk) (K : List Nat) : runD X (ex X) 98 [.ptr 1 0 0] .niface (b0 :: ⟨1, [[.int .i64 x]], .box⟩ :: r) K = some (b0 :: ⟨1, [[.int .i64 x]], .box⟩ :: r, K) := by
  unfold runD
  simp [Tryz.func98, Tryz.f98, recOf, envOf, endD]
theorem set_new0 (H : List Blk) (a x : Blk) : (H ++ [a]).set H.length x = H ++ [x] := by
  rw [List.set_append_right _ _ (Nat.le_refl _)]
  simp
theorem r98_stp (b0 : Blk) (x : Int) (r : List Blk) (K : List Nat) : runD X (ex X) 98 [.ptr 1 0 0] (.iface 163 (.agg [])) (b0 :: ⟨1, [[.int .i64 x]], .box⟩ :: r) K = some (b0 :: ⟨1, [[.int .i64 1]], .box⟩ :: r, K) := by
  unfold runD
  simp [Tryz.func98, Tryz.f98, recOf, envOf, endD, app_new0, set_new0]
def b60 (t : PT) : Blk := ⟨3, [[lst 1 (t.ps.map strC), lst 2 (t.arrs.map Arr.cs), lst 19 (t.body.map Stm.cs)]], .box⟩
set_option maxHeartbeats 1000000 in
theorem e60 (t : PT) (h : t.Ok) : ∃ (e : Int) (K : List Nat), call X 60 [.agg t.p.cs] [] [] = some (.ret (.int .i64 e), [], K) ∧ (e = 1 ∨ e = 0 ∧ GoodP t) := by
  have hb : ([b60 t, ⟨1, [[.int .i64 0]], .box⟩, ckB t 0] : List Blk)[2]? = some (ckB t 0) := rfl
  have h99 := e99 [b60 t, ⟨1, [[.int .i64 0]], .box⟩, ckB t 0] [] 2 t 0 hb (fun a ha => (h.arr a ha).2) h.ps h.arrs
  simp only [b60, ckB_def] at h99
  rcases h99 with ⟨K1, h99, hp2, ha8⟩ | ⟨K1, h99⟩
  · have h100 := e100 [b60 t, ⟨1, [[.int .i64 0]], .box⟩, ckB t 0] (K1 ++ [t.ps.length]) 2 t t.ps 1 (.tok K1.length) t.body 0 (by omega) hb ⟨by simp, by simp, fun i h => by cases h; simp⟩ hp2 h.ps h.body (fun s hs => ⟨h.stm s hs, specS t hp2 h.arrs (h.stm s hs)⟩)
    have h101 := ic101 (t.ps.map strC) (by simp; omega)
    unfold OutC at h100
    simp only [b60, ckB_def] at h100
    simp at h99
    rcases h100 with ⟨K2, h100, hs, hg⟩ | ⟨k2, K2, h100⟩
    · simp at h100
      refine ⟨0, (K1 ++ [t.ps.length]) ++ K2, ?_, .inr ⟨rfl, hp2, ha8, by simpa using hs, hg⟩⟩
      rw [call_dfr (by decide) (by simp)]
      simp [PT.cs, Tryz.func60, Tryz.f60, callD, dfrOf, finD, envOf, h99, h101, h100, r98_ok, leave_pure]
    · simp at h100
      refine ⟨1, (K1 ++ [t.ps.length]) ++ K2, ?_, .inl rfl⟩
      rw [call_dfr (by decide) (by simp)]
      simp [PT.cs, Tryz.func60, Tryz.f60, callD, dfrOf, finD, envOf, h99, h101, h100, r98_stp, leave_pure]
  · simp at h99
    refine ⟨1, K1, ?_, .inl rfl⟩
    rw [call_dfr (by decide) (by simp)]
    simp [PT.cs, Tryz.func60, Tryz.f60, callD, dfrOf, finD, envOf, h99, r98_stp, leave_pure]
theorem ic60 (t : PT) (h : t.Ok) : icall X (call X) 60 [.agg t.p.cs] = some (.ret (.int .i64 1)) ∨ (icall X (call X) 60 [.agg t.p.cs] = some (.ret (.int .i64 0)) ∧ GoodP t) := by
  obtain ⟨e, K, h1, h2⟩ := e60 t h
  have h3 : icall X (call X) 60 [.agg t.p.cs] = some (.ret (.int .i64 e)) := icall_ret (v := .int .i64 e) (H := []) (K := K) (by simp) (by simp) h1 rfl rfl rfl
  rcases h2 with rfl | ⟨rfl, h2⟩
  · exact .inl h3
  · exact .inr ⟨h3, h2⟩
end T
end

section
open Go Go.Proofs Go.Sym
namespace T
attribute [-simp] getElem?_pos
/-! f63 reads -/
def rfC (r : Int × List Lin) : List AV := [.int .i64 r.1, lst 2 (r.2.map Lin.cs)]
theorem rfC_def (r) : rfC r = [.int .i64 r.1, lst 2 (r.2.map Lin.cs)] := Eq.trans rfl rfl
attribute [simp] rfC_def
mutual
def rds : Ex → List (Int × List Lin)
  | .mk op _ _ rA subs args => if op = 2 then [(rA, subs)] else rdsL args
def rdsL : List Ex → List (Int × List Lin)
  | [] => []
  | e :: r => rds e ++ rdsL r
end
mutual
theorem rds_len : ∀ e : Ex, (rds e).length ≤ nsz e
  | .mk op _ _ rA subs args => by
    unfold rds nsz
    split
    · simp
    · have := rdsL_len args; omega
theorem rdsL_len : ∀ l : List Ex, (rdsL l).length ≤ nszL l
  | [] => by simp [rdsL, nszL]
  | e :: r => by
    have h1 := rds_len e
    have h2 := rdsL_len r
    simp [rdsL, nszL]
    omega
end
theorem rdsL_take_succ : ∀ (l : List Ex) (i : Nat) (e : Ex), l[i]? = some e → rdsL (l.take (i + 1)) = rdsL (l.take i) ++ rds e
  | [], _, _, h => by simp at h
  | a :: r, 0, s, h => by cases h; simp [rdsL]
  | a :: r, i + 1, s, h => by
    have := rdsL_take_succ r i s (by simpa using h)
    simp [rdsL, this, List.append_assoc]
theorem nszL_mem : ∀ (l : List Ex) (e : Ex), e ∈ l → nsz e ≤ nszL l
  | a :: r, e, h => by
    rcases List.mem_cons.1 h with rfl | h
    · simp [nszL]
    · have := nszL_mem r e h; simp [nszL]; omega
theorem nszL_take : ∀ (l : List Ex) (i : Nat) (e : Ex), l[i]? = some e → nszL (l.take i) + nsz e ≤ nszL l
  | [], _, _, h => by simp at h
  | a :: r, 0, s, h => by cases h; simp [nszL]
  | a :: r, i + 1, s, h => by
    have := nszL_take r i s (by simpa using h)
    simp [nszL]; omega
def S63 (op k : Int) (L : Lin) (rA : Int) (subs : List Lin) (args : List Ex) (i : Nat) : St := ⟨[(3, .lst 2 ((rdsL (args.take i)).map rfC) (.tok 0)), (14, lst 7 (args.map Ex.cs)), (15, .int .i64 args.length), (16, .int .i64 i)], [⟨7, [Ex.cs (.mk op k L rA subs args)], .box⟩], [(rdsL (args.take i)).length], 0⟩
theorem ic63 {e : Ex} (h : OkEx e) : nsz e ≤ 1000 → icall X (call X) 63 [.agg e.cs] = some (.ret (.lst (szOf 2 ((rds e).map rfC)) ((rds e).map rfC) .no)) := by
  induction h with
  | @mk op k1 L rA subs args hL hs ha hargs ih =>
  intro hz
  have hz' : nszL args ≤ 999 := by simp [nsz] at hz; omega
  by_cases c : op = 2
  · subst c
    have h106 := ic106 rA subs hs
    have hr : rds (.mk 2 k1 L rA subs args) = [(rA, subs)] := by rw [rds, if_pos rfl]
    rw [hr]
    refine icall_ret (v := .lst 2 [rfC (rA, subs)] .exact) (H := []) (K := []) (by simp) (by simp) ?_ rfl (by simp) (by simp)
    rw [call_eq (by decide) (by simp)]
    simp [Tryz.func63, Tryz.f63, envOf, h106, leave_pure]
  · have hloop : ∃ o, (∀ s, s.gc [3, 14, 15, 16] 1 1 = S63 op k1 L rA subs args 0 → loopE X 63 lb63_5 (St.gc [3, 14, 15, 16] 1 1) s = some o) ∧ ∃ e, o = .exit 0 ⟨e, [⟨7, [Ex.cs (.mk op k1 L rA subs args)], .box⟩], [(rdsL args).length], 0⟩ ∧ get e 3 = .lst 2 ((rdsL args).map rfC) (.tok 0) := by
      refine loop_inv (S63 op k1 L rA subs args) (fun i => i ≤ args.length) (fun i => args.length - i) _ (fun i hi' => ?_) 0 (Nat.zero_le _)
      by_cases hi : i < args.length
      · right
        have hx := List.getElem?_eq_getElem hi
        have hw := wrap_nat i (by omega)
        have h1 := rdsL_take_succ args i _ hx
        have h2 := nszL_take args i _ hx
        have h3 := rdsL_len (args.take i)
        have h4 := rds_len args[i]
        have h5 := ih _ (List.getElem_mem hi) (by omega)
        generalize args[i] = x at *
        have hlim : (rdsL (args.take i)).length + (rds x).length ≤ 1073741824 := by omega
        generalize rds x = R at *
        generalize hA : rdsL (args.take i) = A at *
        obtain ⟨p1, p2, p3, p4, p5, p6⟩ := x
        simp at h5
        have hor : szOf 2 (R.map rfC) = 2 ∨ R = [] := by cases R <;> simp
        simp [lb63_5, Tryz.f63, S63, hi, hw, hx, h5, hA, hlim, hor]
        exact ⟨i + 1, ⟨⟨by rw [h1, List.map_append], by omega⟩, by rw [h1, List.length_append]⟩, by omega, by omega⟩
      · left
        obtain rfl : i = args.length := by omega
        simp [lb63_5, Tryz.f63, S63, stops]
    obtain ⟨o, h1, e, rfl, g1⟩ := hloop
    simp only [lb63_5, Tryz.f63, S63, bodyOf_some, sub_seq0, sub_seq1, sub_block, sub_loop, sub_nil] at h1
    simp [rdsL] at h1
    have hr : rds (.mk op k1 L rA subs args) = rdsL args := by rw [rds, if_neg c]
    rw [hr]
    refine icall_ret (v := .lst 2 ((rdsL args).map rfC) (.tok 0)) (H := []) (K := [(rdsL args).length]) (by simp) (by simp) ?_ rfl (by simp) (by simp)
    rw [call_eq (by decide) (by simp)]
    simp [Tryz.func63, Tryz.f63, envOf, ex_loop, firstReg, c, h1, g1, leave_pure]
end T
end

section
open Go Go.Proofs Go.Sym
namespace T
attribute [-simp] getElem?_pos
/-! f29: a round of its range -/
noncomputable def rec29 (env : List (Nat × AV)) (st : LoopSt) : Blk := ⟨0, [], .rng 29 (ntOf Tryz.prog 29) env [14] ra29 rb29 st⟩
theorem rok29 : okR 29 [14] ra29 rb29 = true := by kernel_rfl
def AccAt (E : Blk) (K : List Nat) (acc : List Inf) : Prop :=
  (acc = [] ∧ E = ⟨1, [[.lst 0 [] .nil]], .box⟩) ∨ ∃ i, E = ⟨1, [[.lst 22 (acc.map Inf.cs) (.tok i)]], .box⟩ ∧ K[i]? = some acc.length ∧ acc ≠ []
set_option maxHeartbeats 1000000 in
theorem rd29_skip (env : List (Nat × AV)) (b0 E b2 : Blk) (R : List Blk) (K : List Nat) (z1 z2 : Nat) (r1 r2 : List (List AV)) (c1 c2 : Cap) (s : Stm) (h3 : s.kind ≠ 3) :
    call X (rid + 3) [.agg (.lst z1 r1 c1 :: .lst z2 r2 c2 :: s.cs)] (b0 :: E :: b2 :: rec29 env .ready :: R) K = some (.ret (.bool true), b0 :: E :: b2 :: rec29 env .ready :: R, K) := by
  have hrok := rok29
  simp only [ra29, rb29, Tryz.f29, bodyOf_some, sub_seq0, sub_seq1, sub_block, sub_loop, sub_nil, sub_rng0, sub_rng1] at hrok
  obtain ⟨kind, name, low, high, step, mark, dim, pieces, tA, tS, val, body, els⟩ := s
  obtain ⟨op, k1, L, rA, subs, args⟩ := val
  have h3 : kind ≠ 3 := h3
  rw [round_eq]
  simp [roundOf, rec29, xRok, hrok, roundEnv, ra29, rb29, Tryz.f29, h3, readyB, putSt, finR, app_new0, set_new0]
theorem pure_strip (a : Nat) (b : List (List AV)) (c : Cap) (h : c ≠ .bor) : pureB (strip (.lst a b c)) = true := by cases c <;> first | rfl | exact absurd rfl h
/-- What is noted of an assignment. -/
def infOf (r1 : List (List AV)) (l : List ByteArray) (s : Stm) : Inf := ⟨.lst (szOf 1 r1) r1 .no, l.map strC, s.cs ++ [.lst (szOf 2 ((rds s.val).map rfC)) ((rds s.val).map rfC) .no]⟩
set_option maxHeartbeats 4000000 in
theorem rd29_asg (env : List (Nat × AV)) (h5 : get env 5 = .ptr 1 0 0) (b0 E b2 : Blk) (R : List Blk) (K : List Nat) (acc : List Inf) (hE : AccAt E K acc) (hacc : acc.length ≤ 1000) (r1 : List (List AV)) (l : List ByteArray) (z1 z2 : Nat) (c1 c2 : Cap) (hz1 : szOf z1 r1 = szOf 1 r1) (hz2 : szOf z2 (l.map strC) = szOf 1 (l.map strC)) (hc1 : c1 ≠ .bor) (hc2 : c2 ≠ .bor) (s : Stm) (hs : OkStm s) (h3 : s.kind = 3) (hv : nsz s.val ≤ 64) :
    ∃ E' K', call X (rid + 3) [.agg (.lst z1 r1 c1 :: .lst z2 (l.map strC) c2 :: s.cs)] (b0 :: E :: b2 :: rec29 env .ready :: R) K = some (.ret (.bool true), b0 :: E' :: b2 :: rec29 env .ready :: R, K') ∧ AccAt E' K' (acc ++ [infOf r1 l s]) ∧ K.length ≤ K'.length := by
  have hrok := rok29
  simp only [ra29, rb29, Tryz.f29, bodyOf_some, sub_seq0, sub_seq1, sub_block, sub_loop, sub_nil, sub_rng0, sub_rng1] at hrok
  have h62 := copy_ok hs
  unfold C62 at h62
  have hval : OkEx s.val := by cases hs; assumption
  have h63 := ic63 hval (by omega)
  obtain ⟨kind, name, low, high, step, mark, dim, pieces, tA, tS, val, body, els⟩ := s
  have h3' : kind = 3 := h3
  subst h3'
  have hvv : Stm.val (.mk 3 name low high step mark dim pieces tA tS val body els) = val := rfl
  rw [hvv] at h63
  obtain ⟨op, k1, L, rA, subs, args⟩ := val
  simp at h62 h63
  have hlim : acc.length + 1 ≤ 1073741824 := by omega
  have hp1 := pure_strip z1 r1 c1 hc1
  have hp2 := pure_strip z2 (l.map strC) c2 hc2
  rcases hE with ⟨rfl, rfl⟩ | ⟨i, rfl, hK, hne⟩
  · refine ⟨⟨1, [[.lst 22 (([] ++ [infOf r1 l (.mk 3 name low high step mark dim pieces tA tS (.mk op k1 L rA subs args) body els)]).map Inf.cs) (.tok K.length)]], .box⟩, K ++ [1], ?_, .inr ⟨K.length, rfl, by simp [tok_new], by simp⟩, by simp⟩
    rw [round_eq]
    simp [roundOf, rec29, xRok, hrok, roundEnv, ra29, rb29, Tryz.f29, h5, h62, h63, hp1, hp2, hz1, hz2, readyB, putSt, finR, app_new0, set_new0, infOf, Stm.val]
  · refine ⟨⟨1, [[.lst 22 ((acc ++ [infOf r1 l (.mk 3 name low high step mark dim pieces tA tS (.mk op k1 L rA subs args) body els)]).map Inf.cs) (.tok i)]], .box⟩, K.set i (acc.length + 1), ?_, .inr ⟨i, rfl, by rw [List.getElem?_set_self (List.getElem?_eq_some_iff.1 hK).1]; simp, by simp⟩, by simp⟩
    rw [round_eq]
    simp [roundOf, rec29, xRok, hrok, roundEnv, ra29, rb29, Tryz.f29, h5, h62, h63, hp1, hp2, hz1, hz2, hlim, hK, readyB, putSt, finR, app_new0, set_new0, infOf, Stm.val]
theorem list4 {G : List Blk} {r : Blk} (h : G[3]? = some r) : ∃ b0 b1 b2 R, G = b0 :: b1 :: b2 :: r :: R := by
  rcases G with _ | ⟨b0, _ | ⟨b1, _ | ⟨b2, _ | ⟨b3, R⟩⟩⟩⟩
  · simp at h
  · simp at h
  · simp at h
  · simp at h
  · exact ⟨b0, b1, b2, R, by simp at h; rw [h]⟩
/-- A round, whatever the statement. -/
theorem rd29 (env : List (Nat × AV)) (h5 : get env 5 = .ptr 1 0 0) (G : List Blk) (h3 : G[3]? = some (rec29 env .ready)) (E : Blk) (h1 : G[1]? = some E) (K : List Nat) (acc : List Inf) (hE : AccAt E K acc) (hacc : acc.length ≤ 1000) (r1 : List (List AV)) (l : List ByteArray) (z1 z2 : Nat) (c1 c2 : Cap) (hz1 : szOf z1 r1 = szOf 1 r1) (hz2 : szOf z2 (l.map strC) = szOf 1 (l.map strC)) (hc1 : c1 ≠ .bor) (hc2 : c2 ≠ .bor) (hl : l.length ≤ 12) (s : Stm) (hs : OkStm s) (hv : s.kind = 3 → nsz s.val ≤ 64) :
    ∃ E' K' is, call X (rid + 3) [.agg (.lst z1 r1 c1 :: .lst z2 (l.map strC) c2 :: s.cs)] G K = some (.ret (.bool true), G.set 1 E', K') ∧ AccAt E' K' (acc ++ is) ∧ K.length ≤ K'.length ∧ is.length ≤ 1 ∧ ∀ i ∈ is, i.nm.length ≤ 12 := by
  obtain ⟨b0, b1, b2, R, rfl⟩ := list4 h3
  have hb : b1 = E := by simpa using h1
  subst hb
  by_cases hk : s.kind = 3
  · obtain ⟨E', K', h, h', h''⟩ := rd29_asg env h5 b0 b1 b2 R K acc hE hacc r1 l z1 z2 c1 c2 hz1 hz2 hc1 hc2 s hs hk (hv hk)
    exact ⟨E', K', _, h, h', h'', by simp, fun i hi => by rw [List.mem_singleton.1 hi]; simpa [infOf] using hl⟩
  · exact ⟨b1, K, [], rd29_skip env b0 b1 b2 R K z1 z2 r1 (l.map strC) c1 c2 s hk, by simpa using hE, Nat.le_refl _, by simp, by simp⟩
end T
end

section
open Go Go.Proofs Go.Sym
namespace T
attribute [-simp] getElem?_pos
/-! f103: the walk -/
theorem tok_new2 (K : List Nat) (a n : Nat) (r : List Nat) : (K ++ a :: n :: r)[K.length + 1]? = some n := by
  rw [List.getElem?_append_right (by omega), Nat.add_sub_cancel_left]
  rfl
theorem set_tok2 (K : List Nat) (a n m : Nat) (r : List Nat) : (K ++ a :: n :: r).set (K.length + 1) m = K ++ a :: m :: r := by
  rw [List.set_append_right _ _ (by omega), Nat.add_sub_cancel_left]
  rfl
structure RwOK (K : List Nat) (rows : List (List AV)) (z : Nat) (cp : Cap) : Prop where
  bor : cp ≠ .bor
  sz : szOf z rows = szOf 1 rows
  tok : ∀ i, cp = .tok i → i < K.length
theorem RwOK.scrub {K : List Nat} {rows : List (List AV)} {z : Nat} {cp : Cap} (h : RwOK K rows z cp) (n m : Nat) (hm : K.length ≤ m) : Sym.scrub n m (.lst z rows cp) = .lst z rows cp := by
  cases cp with
  | tok i => have := h.tok i rfl; simp [Sym.scrub]; omega
  | _ => rfl
theorem RwOK.fz {K : List Nat} {rows : List (List AV)} {z : Nat} {cp : Cap} (h : RwOK K rows z cp) (a : Nat → Option Blk) : freeze a (.lst z rows cp) = .lst (szOf 1 rows) rows .no := by rw [fz_any _ _ _ _ h.bor, h.sz]
theorem RwOK.mono {K : List Nat} {rows : List (List AV)} {z : Nat} {cp : Cap} (h : RwOK K rows z cp) {K' : List Nat} (hk : K.length ≤ K'.length) : RwOK K' rows z cp := ⟨h.bor, h.sz, fun i hi => Nat.lt_of_lt_of_le (h.tok i hi) hk⟩
def yB : Blk := ⟨1, [[.yld 3]], .box⟩
def fB : Blk := ⟨1, [[.fn 103 [.ptr 4 0 0, .ptr 5 0 0]]], .box⟩
def WalkOK (env : List (Nat × AV)) (p : Nat) (ss : List Stm) : Prop := ∀ (G : List Blk) (E : Blk) (K : List Nat) (acc : List Inf) (rp : List (List AV)) (z1 : Nat) (c1 : Cap) (l : List ByteArray) (z2 : Nat) (c2 : Cap),
  G[1]? = some E → G[3]? = some (rec29 env .ready) → G[4]? = some yB → G[5]? = some fB → AccAt E K acc → acc.length + sszL ss ≤ 1000 → rp.length + 2 * sszL ss ≤ 1000000 → RwOK K rp z1 c1 → RwOK K (l.map strC) z2 c2 → (∀ s ∈ ss, GoodS p l.length s) → l.length ≤ 13 →
  ∃ E' K' is, call X 103 [lst 19 (ss.map Stm.cs), .lst z1 rp c1, .lst z2 (l.map strC) c2, .ptr 4 0 0, .ptr 5 0 0] G K = some (.ret (.bool true), G.set 1 E', K') ∧ AccAt E' K' (acc ++ is) ∧ K.length ≤ K'.length ∧ is.length ≤ sszL ss ∧ ∀ i ∈ is, i.nm.length ≤ 12
theorem sszL_take_le : ∀ (l : List Stm) (i : Nat), sszL (l.take i) ≤ sszL l
  | [], i => by simp
  | a :: r, 0 => by simp [sszL]
  | a :: r, i + 1 => by have := sszL_take_le r i; simp [sszL]; omega
theorem AccAt.app {E : Blk} {K : List Nat} {acc : List Inf} (h : AccAt E K acc) (K' : List Nat) : AccAt E (K ++ K') acc := by
  rcases h with h | ⟨i, h1, h2, h3⟩
  · exact .inl h
  · exact .inr ⟨i, h1, by rw [List.getElem?_append_left (List.getElem?_eq_some_iff.1 h2).1, h2], h3⟩
theorem GoodS.parts {p n : Nat} {s : Stm} (h : GoodS p n s) : n ≤ p + 10 ∧ (s.kind = 3 → nsz s.val ≤ 64) ∧ (∀ x ∈ s.body, GoodS p (if s.kind = 1 then n + 1 else n) x) ∧ (∀ x ∈ s.els, GoodS p (if s.kind = 1 then n + 1 else n) x) := by
  cases h with
  | loop h1 h2 => exact ⟨h1, fun h => by simp [Stm.kind] at h, fun x hx => by simpa [Stm.kind] using h2 x hx, fun x hx => by simp [Stm.els] at hx⟩
  | test h1 h2 h3 => exact ⟨h1, fun h => by simp [Stm.kind] at h, fun x hx => by simpa [Stm.kind] using h2 x hx, fun x hx => by simpa [Stm.kind] using h3 x hx⟩
  | asg h1 h2 => exact ⟨h1, fun _ => h2, fun x hx => by simp [Stm.body] at hx, fun x hx => by simp [Stm.els] at hx⟩
def S103 (env : List (Nat × AV)) (G : List Blk) (ss : List Stm) (rp : List (List AV)) (z1 : Nat) (c1 : Cap) (l : List ByteArray) (z2 : Nat) (c2 : Cap) (p : Nat × Blk × List Nat × List Inf) : St :=
  ⟨[(1, .lst z1 rp c1), (2, .lst z2 (l.map strC) c2), (3, .ptr 4 0 0), (4, .ptr 5 0 0), (13, lst 19 (ss.map Stm.cs)), (14, .int .i64 ss.length), (15, .int .i64 p.1)], G.set 1 p.2.1, p.2.2.1, G.length⟩
section
variable (env : List (Nat × AV)) (h5 : get env 5 = .ptr 1 0 0) (p : Nat) (hp : p ≤ 2) (ss : List Stm) (hss : ss.length ≤ 1073741823) (hs : ∀ s ∈ ss, OkStm s ∧ WalkOK env p s.body ∧ WalkOK env p s.els)
  (G : List Blk) (E : Blk) (K : List Nat) (acc : List Inf) (rp : List (List AV)) (z1 : Nat) (c1 : Cap) (l : List ByteArray) (z2 : Nat) (c2 : Cap)
  (g1 : G[1]? = some E) (g3 : G[3]? = some (rec29 env .ready)) (g4 : G[4]? = some yB) (g5 : G[5]? = some fB) (hE : AccAt E K acc) (hacc : acc.length + sszL ss ≤ 1000) (hrp : rp.length + 2 * sszL ss ≤ 1000000) (hr1 : RwOK K rp z1 c1) (hr2 : RwOK K (l.map strC) z2 c2) (hgd : ∀ s ∈ ss, GoodS p l.length s) (hl : l.length ≤ 13)
include h5 hp hss hs g1 g3 g4 g5 hE hacc hrp hr1 hr2 hgd hl
theorem loop103 : ∃ o, (∀ s, s.gc [1, 2, 3, 4, 13, 14, 15] G.length K.length = S103 env G ss rp z1 c1 l z2 c2 (0, E, K, []) → loopE X 103 lb103_2 (St.gc [1, 2, 3, 4, 13, 14, 15] G.length K.length) s = some o) ∧
    ∃ e E' K' is, o = .exit 0 ⟨e, G.set 1 E', K', G.length⟩ ∧ AccAt E' K' (acc ++ is) ∧ K.length ≤ K'.length ∧ is.length ≤ sszL ss ∧ ∀ i ∈ is, i.nm.length ≤ 12 := by
  have hG : G ≠ [] := by rintro rfl; simp at g1
  have hl5 : 5 < G.length := (List.getElem?_eq_some_iff.1 g5).1
  refine loop_inv (S103 env G ss rp z1 c1 l z2 c2) (fun q => q.1 ≤ ss.length ∧ AccAt q.2.1 q.2.2.1 (acc ++ q.2.2.2) ∧ K.length ≤ q.2.2.1.length ∧ q.2.2.2.length ≤ sszL (ss.take q.1) ∧ ∀ i ∈ q.2.2.2, i.nm.length ≤ 12) (fun q => ss.length - q.1) _ (fun q hq => ?_) (0, E, K, []) ⟨Nat.zero_le _, by simpa using hE, Nat.le_refl _, by simp [sszL], by simp⟩
  obtain ⟨i, E1, K1, is⟩ := q
  obtain ⟨hi', hE1, hK1, hlen, hnm⟩ := hq
  simp only at hi' hE1 hK1 hlen hnm
  by_cases hi : i < ss.length
  · right
    have hx := List.getElem?_eq_getElem hi
    have hw := wrap_nat i (by omega)
    have hmem := List.getElem_mem hi
    have hts := sszL_take_succ ss i _ hx
    obtain ⟨hok, hwb, hwe⟩ := hs _ hmem
    obtain ⟨hgn, hgv, hgb, hge⟩ := (hgd _ hmem).parts
    have hle : sszL (ss.take i) + ssz ss[i] ≤ sszL ss := by
      have := sszL_take_le ss (i + 1)
      omega
    generalize ss[i] = s at *
    have hsz : ssz s = 1 + sszL s.body + sszL s.els := by obtain ⟨kind, name, low, high, step, mark, dim, pieces, tA, tS, val, body, els⟩ := s; rfl
    have h4 : 4 < G.length := by omega
    have q4 : (G.set 1 E1)[4]? = some yB := by rw [List.getElem?_set_ne (by decide), g4]
    have q5 : (G.set 1 E1)[5]? = some fB := by rw [List.getElem?_set_ne (by decide), g5]
    have l1 : 1 < G.length := by omega
    -- the round
    obtain ⟨E2, K2, is2, hrd, hE2, hK2, his2, hnm2⟩ := rd29 env h5 (G.set 1 E1 ++ [⟨19, [s.cs], .box⟩]) (by rw [List.getElem?_append_left (by simp; omega), List.getElem?_set_ne (by decide), g3]) E1 (by rw [List.getElem?_append_left (by simp; omega), List.getElem?_set_self l1])
      (K1 ++ [rp.length + 1, l.length]) (acc ++ is) (hE1.app _) (by simp; omega) (rp ++ [[.int .i64 i]]) l 1 1 (.tok K1.length) (.tok (K1.length + 1)) rfl rfl (by simp) (by simp) (by omega) s hok hgv
    -- then
    have hset : ∀ x y, (G.set 1 x ++ [(⟨19, [s.cs], .box⟩ : Blk)]).set 1 y = G.set 1 y ++ [⟨19, [s.cs], .box⟩] := fun x y => by rw [List.set_append_left _ _ (by simpa using l1), List.set_set]
    rw [hset] at hrd
    generalize hB : (⟨19, [s.cs], .box⟩ : Blk) = B at *
    have qg1 : ∀ x, (G.set 1 x ++ [B])[1]? = some x := fun x => by rw [List.getElem?_append_left (by simp; omega), List.getElem?_set_self l1]
    have qg3 : ∀ x, (G.set 1 x ++ [B])[3]? = some (rec29 env .ready) := fun x => by rw [List.getElem?_append_left (by simp; omega), List.getElem?_set_ne (by decide), g3]
    have qg4 : ∀ x, (G.set 1 x ++ [B])[4]? = some yB := fun x => by rw [List.getElem?_append_left (by simp; omega), List.getElem?_set_ne (by decide), g4]
    have qg5 : ∀ x, (G.set 1 x ++ [B])[5]? = some fB := fun x => by rw [List.getElem?_append_left (by simp; omega), List.getElem?_set_ne (by decide), g5]
    have l5 : 5 < G.length := hl5
    have hfz1 := hr1.fz
    have hfz2 := hr2.fz
    have hsc1 := hr1.scrub
    have hsc2 := hr2.scrub
    have hrl0 : rp.length ≤ 1073741824 := by omega
    have hrl1 : rp.length + 1 ≤ 1073741824 := by omega
    have hrl2 : rp.length + 1 + 1 ≤ 1073741824 := by omega
    have hll0 : l.length ≤ 1073741824 := by omega
    have hll1 : l.length + 1 ≤ 1073741824 := by omega
    obtain ⟨kind, name, low, high, step, mark, dim, pieces, tA, tS, val, body, els⟩ := s
    obtain ⟨op, k1, L, rA, subs, args⟩ := val
    have hsz : 1 + sszL body + sszL els = ssz (.mk kind name low high step mark dim pieces tA tS (.mk op k1 L rA subs args) body els) := rfl
    have hwb : WalkOK env p body := hwb
    have hwe : WalkOK env p els := hwe
    have hgb : ∀ x ∈ body, GoodS p (if kind = 1 then l.length + 1 else l.length) x := hgb
    have hge : ∀ x ∈ els, GoodS p (if kind = 1 then l.length + 1 else l.length) x := hge
    by_cases c1k : kind = 1
    · subst c1k
      simp only [if_true] at hgb hge
      obtain ⟨E3, K4, is3, hcb, hE3, hK3, his3, hnm3⟩ := hwb (G.set 1 E2 ++ [B]) E2 ((K2 ++ [l.length + 1]) ++ [rp.length + 2]) (acc ++ is ++ is2) (rp ++ [[.int .i64 i], [.int .i64 0]]) 1 (.tok (K2 ++ [l.length + 1]).length) (l ++ [name]) 1 (.tok K2.length) (qg1 E2) (qg3 E2) (qg4 E2) (qg5 E2) ((hE2.app _).app _) (by simp; omega) (by simp; omega) ⟨by simp, rfl, fun i h => by cases h; simp⟩ ⟨by simp, rfl, fun i h => by cases h; simp⟩ (fun x hx => by simpa using hgb x hx) (by first | omega | (simp; omega))
      obtain ⟨E4, K5, is4, hce, hE4, hK4, his4, hnm4⟩ := hwe (G.set 1 E3 ++ [B]) E3 (K4 ++ [rp.length + 2]) (acc ++ is ++ is2 ++ is3) (rp ++ [[.int .i64 i], [.int .i64 1]]) 1 (.tok K4.length) (l ++ [name]) 1 (.tok K2.length) (qg1 E3) (qg3 E3) (qg4 E3) (qg5 E3) (hE3.app _) (by simp; omega) (by simp; omega) ⟨by simp, rfl, fun i h => by cases h; simp⟩ ⟨by simp, rfl, fun i h => by cases h; simp at hK3 ⊢; omega⟩ (fun x hx => by simpa using hge x hx) (by first | omega | (simp; omega))
      rw [hset] at hcb hce
      subst hB
      simp [yB, fB, Stm.body, Stm.els] at hrd hcb hce
      simp [lb103_2, Tryz.f103, S103, yB, fB, hi, hw, hx, h4, l5, q4, q5, g4, g5, l1, hrd, hcb, hce, hfz1, hfz2, hsc1, hsc2, hrl0, hrl1, hrl2, hll0, hll1, tok_new, set_tok, tok_new2, set_tok2, List.getElem?_append_left, app_new0, app_set0, gc_set0 _ _ _ _ _ hG]
      have k2 : K1.length + 2 ≤ K2.length := by simpa using hK2
      have k3 : K2.length + 2 ≤ K4.length := by simpa using hK3
      have k4 : K4.length + 1 ≤ K5.length := by simpa using hK4
      try simp only [Stm.body, Stm.els] at his3 his4
      refine ⟨i + 1, E4, K5, ⟨⟨hsc1 _ _ (by omega), hsc2 _ _ (by omega), by omega⟩, rfl, rfl⟩, ⟨by omega, is ++ is2 ++ is3 ++ is4, by simpa [List.append_assoc] using hE4, by omega, by (simp; omega), fun x hx => ?_⟩, by omega⟩
      simp only [List.mem_append] at hx
      rcases hx with ((hx | hx) | hx) | hx
      · exact hnm x hx
      · exact hnm2 x hx
      · exact hnm3 x hx
      · exact hnm4 x hx
    · skip
      have hkk : ¬ kind = 1 := c1k
      simp only [if_neg hkk] at hgb hge
      obtain ⟨E3, K4, is3, hcb, hE3, hK3, his3, hnm3⟩ := hwb (G.set 1 E2 ++ [B]) E2 (K2 ++ [rp.length + 2]) (acc ++ is ++ is2) (rp ++ [[.int .i64 i], [.int .i64 0]]) 1 (.tok K2.length) (l) z2 c2 (qg1 E2) (qg3 E2) (qg4 E2) (qg5 E2) (hE2.app _) (by simp; omega) (by simp; omega) ⟨by simp, rfl, fun i h => by cases h; simp⟩ (hr2.mono (by have h := hK2; rw [List.length_append] at h; rw [List.length_append]; omega)) (fun x hx => by simpa using hgb x hx) (by first | omega | (simp; omega))
      obtain ⟨E4, K5, is4, hce, hE4, hK4, his4, hnm4⟩ := hwe (G.set 1 E3 ++ [B]) E3 (K4 ++ [rp.length + 2]) (acc ++ is ++ is2 ++ is3) (rp ++ [[.int .i64 i], [.int .i64 1]]) 1 (.tok K4.length) (l) z2 c2 (qg1 E3) (qg3 E3) (qg4 E3) (qg5 E3) (hE3.app _) (by simp; omega) (by simp; omega) ⟨by simp, rfl, fun i h => by cases h; simp⟩ (hr2.mono (by have h := hK2; have h3 := hK3; rw [List.length_append] at h h3; rw [List.length_append]; omega)) (fun x hx => by simpa using hge x hx) (by first | omega | (simp; omega))
      rw [hset] at hcb hce
      subst hB
      simp [yB, fB, Stm.body, Stm.els] at hrd hcb hce
      simp [lb103_2, Tryz.f103, S103, yB, fB, hi, hw, hx, h4, l5, q4, q5, g4, g5, l1, hrd, hcb, hce, hfz1, hfz2, hsc1, hsc2, hrl0, hrl1, hrl2, hll0, hll1, hkk, tok_new, set_tok, tok_new2, set_tok2, List.getElem?_append_left, app_new0, app_set0, gc_set0 _ _ _ _ _ hG]
      have k2 : K1.length + 2 ≤ K2.length := by simpa using hK2
      have k3 : K2.length + 1 ≤ K4.length := by simpa using hK3
      have k4 : K4.length + 1 ≤ K5.length := by simpa using hK4
      try simp only [Stm.body, Stm.els] at his3 his4
      refine ⟨i + 1, E4, K5, ⟨⟨hsc1 _ _ (by omega), hsc2 _ _ (by omega), by omega⟩, rfl, rfl⟩, ⟨by omega, is ++ is2 ++ is3 ++ is4, by simpa [List.append_assoc] using hE4, by omega, by (simp; omega), fun x hx => ?_⟩, by omega⟩
      simp only [List.mem_append] at hx
      rcases hx with ((hx | hx) | hx) | hx
      · exact hnm x hx
      · exact hnm2 x hx
      · exact hnm3 x hx
      · exact hnm4 x hx
  · left
    obtain rfl : i = ss.length := by omega
    rw [List.take_length] at hlen
    simp [lb103_2, Tryz.f103, S103, stops]
    exact ⟨_, E1, K1, ⟨rfl, rfl, rfl⟩, is, hE1, hK1, hlen, hnm⟩
end
set_option maxHeartbeats 1000000 in
theorem walk_list (env : List (Nat × AV)) (h5 : get env 5 = .ptr 1 0 0) (p : Nat) (hp : p ≤ 2) (ss : List Stm) (hss : ss.length ≤ 1073741823) (hs : ∀ s ∈ ss, OkStm s ∧ WalkOK env p s.body ∧ WalkOK env p s.els) : WalkOK env p ss := by
  intro G E K acc rp z1 c1 l z2 c2 g1 g3 g4 g5 hE hacc hrp hr1 hr2 hgd hl
  have hG : G ≠ [] := by rintro rfl; simp at g1
  have l5 : 5 < G.length := (List.getElem?_eq_some_iff.1 g5).1
  have l4 : 4 < G.length := by omega
  obtain ⟨o, h1, e, E', K', is, rfl, a1, a2, a3, a4⟩ := loop103 env h5 p hp ss hss hs G E K acc rp z1 c1 l z2 c2 g1 g3 g4 g5 hE hacc hrp hr1 hr2 hgd hl
  refine ⟨E', K', is, ?_, a1, a2, a3, a4⟩
  have h0 : S103 env G ss rp z1 c1 l z2 c2 (0, E, K, []) = ⟨[(1, .lst z1 rp c1), (2, .lst z2 (l.map strC) c2), (3, .ptr 4 0 0), (4, .ptr 5 0 0), (13, lst 19 (ss.map Stm.cs)), (14, .int .i64 ss.length), (15, .int .i64 0)], G, K, G.length⟩ := by
    simp only [S103, set_self g1]
    rfl
  rw [h0] at h1
  simp only [lb103_2, Tryz.f103, bodyOf_some, sub_seq0, sub_seq1, sub_block, sub_loop, sub_nil] at h1
  simp at h1
  have hsc1 := hr1.scrub
  have hsc2 := hr2.scrub
  rw [call_eq (by decide) (by simp)]
  simp [Tryz.func103, Tryz.f103, envOf, ex_loop, firstReg, l4, l5, h1, hsc1, hsc2, gc_own0' _ _ hG, leave_pure]
theorem walk_stm (env : List (Nat × AV)) (h5 : get env 5 = .ptr 1 0 0) (p : Nat) (hp : p ≤ 2) {s : Stm} (h : OkStm s) : WalkOK env p s.body ∧ WalkOK env p s.els := by
  induction h with
  | @mk kind name low high step mark dim pieces tA tS val body els hname hlow hhigh hpie htS hval hbl hel hbody hels ih1 ih2 =>
  exact ⟨walk_list env h5 p hp body hbl fun s hs => ⟨hbody s hs, ih1 s hs⟩, walk_list env h5 p hp els hel fun s hs => ⟨hels s hs, ih2 s hs⟩⟩
end T
end

section
open Go Go.Proofs Go.Sym
namespace T
attribute [-simp] getElem?_pos
/-! f61, f102, f29 Assigns -/
theorem e61 (t : PT) (H : List Blk) (K : List Nat) : call X 61 [.agg t.p.cs] H K = some (.ret (.fn 102 [.ptr H.length 0 0]), H ++ [b60 t], K) := by
  rw [call_eq (by decide) (by simp)]
  simp [PT.cs, Tryz.func61, Tryz.f61, envOf, leave, b60]
def E0 : Blk := ⟨1, [[.lst 0 [] .nil]], .box⟩
set_option maxHeartbeats 1000000 in
theorem e102 (t : PT) (h : t.Ok) (hg : GoodP t) (env : List (Nat × AV)) (h5 : get env 5 = .ptr 1 0 0) : ∃ E' K' is, call X 102 [.yld 3, .ptr 2 0 0] [b60 t, E0, b60 t, rec29 env .ready] [] = some (.ret (.tup []), [b60 t, E', b60 t, rec29 env .ready], K') ∧ AccAt E' K' is ∧ is.length ≤ 256 ∧ ∀ i ∈ is, i.nm.length ≤ 12 := by
  obtain ⟨hp2, _, hsz, hgs⟩ := hg
  obtain ⟨E', K', is, h1, h2, _, h3, h4⟩ := walk_list env h5 t.ps.length hp2 t.body h.body (fun s hs => ⟨h.stm s hs, walk_stm env h5 _ hp2 (h.stm s hs)⟩) [b60 t, E0, b60 t, rec29 env .ready, yB, fB] E0 [] [] [] 0 .nil t.ps (szOf 1 (t.ps.map strC)) .no rfl rfl rfl rfl (.inl ⟨rfl, rfl⟩) (by simp; omega) (by simp; omega) ⟨by simp, rfl, fun i h => by cases h⟩ ⟨by simp, by simp, fun i h => by cases h⟩ hgs (by omega)
  refine ⟨E', K', is, ?_, by simpa using h2, by omega, h4⟩
  simp [yB, fB, b60, E0] at h1
  rw [call_eq (by decide) (by simp)]
  simp [Tryz.func102, Tryz.f102, envOf, b60, E0, h1, leave_pure]
def env29 (t : PT) : List (Nat × AV) := [(13, .fn 102 [.ptr 2 0 0]), (12, .agg t.p.cs), (5, .ptr 1 0 0), (10, .bool false), (9, .int .i64 0), (4, .int .i64 0), (8, .int .i64 0), (7, .agg t.p.cs), (3, .int .i64 0), (2, .lst 0 [] .nil), (1, .ptr 0 0 0), (0, .agg t.p.cs)]
set_option maxHeartbeats 1000000 in
/-- What lang.Assigns returns. -/
theorem asg (t : PT) (h : t.Ok) : ∃ is e, Asg t.p is e ∧ (∀ i ∈ is, i.nm.length ≤ 12) ∧ is.length ≤ 256 := by
  rcases ic60 t h with h60 | ⟨h60, hg⟩
  · refine ⟨[], 1, ?_, by simp, by simp⟩
    unfold Asg
    simp only [PT.cs] at h60 ⊢
    refine icall_ret (v := .tup [.lst 0 [] .nil, .int .i64 1]) (H := []) (K := []) (by simp) (by simp) ?_ rfl (by simp) (by simp)
    rw [call_eq (by decide) (by simp)]
    simp [Tryz.func29, Tryz.f29, envOf, h60, leave_pure]
  · have h61 := e61 t [b60 t, E0] []
    obtain ⟨E', K', is, h102, hA, hn, hm⟩ := e102 t h hg (env29 t) rfl
    refine ⟨is, 0, ?_, hm, hn⟩
    unfold Asg
    simp only [PT.cs, b60, E0, env29, rec29, ra29, rb29, Tryz.f29, bodyOf_some, sub_seq0, sub_seq1, sub_block, sub_loop, sub_nil, sub_rng0, sub_rng1] at h60 h61 h102
    simp at h61 h102
    have hlen : is.length ≤ 1073741824 := by omega
    rcases hA with ⟨rfl, rfl⟩ | ⟨i, rfl, hK, hne⟩
    · refine icall_ret (v := .tup [.lst 0 [] .nil, .int .i64 0]) (H := []) (K := K') (by simp) (by simp) ?_ rfl (by simp) (by simp [PT.cs])
      rw [call_eq (by decide) (by simp)]
      simp [PT.cs, Tryz.func29, Tryz.f29, envOf, h60, h61, ex_rangeFunc, rid_def, h102, rangeEnd, leave_pure]
    · refine icall_ret (v := .tup [.lst 22 (is.map Inf.cs) (.tok i), .int .i64 0]) (H := []) (K := K') (by simp) (by simp) ?_ rfl (by simp) (by simp [PT.cs])
      rw [call_eq (by decide) (by simp)]
      simp [PT.cs, Tryz.func29, Tryz.f29, envOf, h60, h61, ex_rangeFunc, rid_def, h102, rangeEnd, leave_pure]
end T
end

section
open Go Go.Proofs Go.Sym
namespace T
/-- MovesUndone's function answers true. -/
theorem undone (t : PT) (h : t.Ok) (tb : Tab) (ht : okTab tb) (ht1 : tb.length ≤ 1073741823) (m : Mv) (hm : m.list.length ≤ 1073741824) (hk1 : -9223372036854775808 ≤ m.k) (hk2 : m.k < 9223372036854775808) :
    call X 4 [.agg t.p.cs, .agg [tabV tb], .agg m.cs] [] [] = some (.ret (.bool true), [], []) := by
  obtain ⟨is, e, hA, hn, _⟩ := asg t h
  obtain ⟨few, hF⟩ := ic5 t tb h ht
  exact law movers t.p is e hA hn tb ht ht1 m hm hk1 hk2 few hF ic6
end T
end

section
/- What data of the statement's types look like. -/
open Go Go.Proofs Go.Sym
namespace T
variable {H : Type}
def Img (n : Nat) (t : TypeId) {α : Type} (F : α → List AV) : Prop := ∀ (d : DataW H) vs, avT Tryz.prog n t d = some vs → ∃ x : α, vs = F x
theorem img_slice {t e : TypeId} (hu : Tryz.prog.underlying t = some (.slice e)) {α : Type} (F : α → List AV) {n : Nat} (he : ∀ m, m < n → Img (H := H) m e F) {k : Nat} (hk : Tryz.prog.cellsOf e = k) : Img (H := H) n t (fun xs : List α => [lst k (xs.map F)]) := fun d vs h => by
  cases n with
  | zero => unfold avT at h; cases h
  | succ n =>
    obtain ⟨xs, rfl⟩ := iv_slice hu F (he n (Nat.lt_succ_self n)) d vs h
    exact ⟨xs, by rw [hk]; rfl⟩
theorem i3 (n : Nat) : Img (H := H) n 3 intC := fun d vs h => by
  obtain ⟨i, rfl, _⟩ := iv_int Tryz.underlying3 d vs h
  exact ⟨i, rfl⟩
theorem i9 (n : Nat) : Img (H := H) n 9 strC := fun d vs h => iv_str Tryz.underlying9 d vs h
theorem i30 (n : Nat) : Img (H := H) n 30 (fun l : List Int => [ints l]) := img_slice Tryz.underlying30 intC (fun m _ => i3 m) (by kernel_rfl)
theorem i52 (n : Nat) : Img (H := H) n 52 Lin.cs := fun d vs h => by
  cases n with
  | zero => unfold avT at h; cases h
  | succ n =>
    obtain ⟨ds, g0⟩ := iv_struct Tryz.underlying52 d vs h
    obtain ⟨d1, r1, c1, w1, a1, g1, rfl⟩ := iv_field g0
    obtain ⟨d2, r2, c2, w2, a2, g2, rfl⟩ := iv_field g1
    obtain rfl := iv_end g2
    obtain ⟨l, rfl⟩ := i30 n d1 _ a1
    obtain ⟨k, rfl⟩ := i3 n d2 _ a2
    exact ⟨⟨l, k⟩, rfl⟩
theorem i54 (n : Nat) : Img (H := H) n 54 Row.cs := fun d vs h => by
  cases n with
  | zero => unfold avT at h; cases h
  | succ n =>
    obtain ⟨ds, g0⟩ := iv_struct Tryz.underlying54 d vs h
    obtain ⟨d1, r1, c1, w1, a1, g1, rfl⟩ := iv_field g0
    obtain ⟨d2, r2, c2, w2, a2, g2, rfl⟩ := iv_field g1
    obtain rfl := iv_end g2
    obtain ⟨l, rfl⟩ := i52 n d1 _ a1
    obtain ⟨k, rfl⟩ := i3 n d2 _ a2
    exact ⟨⟨l, k⟩, rfl⟩
theorem i50 (n : Nat) : Img (H := H) n 50 rowsC := img_slice Tryz.underlying50 Row.cs (fun m _ => i54 m) (by kernel_rfl)
theorem i27 (n : Nat) : Img (H := H) n 27 (fun t : Tab => [tabV t]) := img_slice Tryz.underlying27 rowsC (fun m _ => i50 m) (by kernel_rfl)
theorem i29 (n : Nat) : Img (H := H) n 29 (fun t : Tab => [tabV t]) := fun d vs h => by
  cases n with
  | zero => unfold avT at h; cases h
  | succ n =>
    obtain ⟨ds, g0⟩ := iv_struct Tryz.underlying29 d vs h
    obtain ⟨d1, r1, c1, w1, a1, g1, rfl⟩ := iv_field g0
    obtain rfl := iv_end g1
    obtain ⟨t, rfl⟩ := i27 n d1 _ a1
    exact ⟨t, rfl⟩
theorem i73 (n : Nat) : Img (H := H) n 73 (fun l : List Lin => [lst 2 (l.map Lin.cs)]) := img_slice Tryz.underlying73 Lin.cs (fun m _ => i52 m) (by kernel_rfl)
theorem i75 (n : Nat) : Img (H := H) n 75 Arr.cs := fun d vs h => by
  cases n with
  | zero => unfold avT at h; cases h
  | succ n =>
    obtain ⟨ds, g0⟩ := iv_struct Tryz.underlying75 d vs h
    obtain ⟨d1, r1, c1, w1, a1, g1, rfl⟩ := iv_field g0
    obtain ⟨d2, r2, c2, w2, a2, g2, rfl⟩ := iv_field g1
    obtain rfl := iv_end g2
    obtain ⟨x, rfl⟩ := i9 n d1 _ a1
    obtain ⟨l, rfl⟩ := i73 n d2 _ a2
    exact ⟨⟨x, l⟩, rfl⟩
theorem i79 (n : Nat) : Img (H := H) n 79 (fun x : Int × List Lin => [.int .i64 x.1, lst 2 (x.2.map Lin.cs)]) := fun d vs h => by
  cases n with
  | zero => unfold avT at h; cases h
  | succ n =>
    obtain ⟨ds, g0⟩ := iv_struct Tryz.underlying79 d vs h
    obtain ⟨d1, r1, c1, w1, a1, g1, rfl⟩ := iv_field g0
    obtain ⟨d2, r2, c2, w2, a2, g2, rfl⟩ := iv_field g1
    obtain rfl := iv_end g2
    obtain ⟨x, rfl⟩ := i3 n d1 _ a1
    obtain ⟨l, rfl⟩ := i73 n d2 _ a2
    exact ⟨(x, l), rfl⟩
theorem i84 (n : Nat) : Img (H := H) n 84 (fun t : Tab => [tabV t]) := fun d vs h => by
  cases n with
  | zero => unfold avT at h; cases h
  | succ n =>
    obtain ⟨ds, g0⟩ := iv_struct Tryz.underlying84 d vs h
    obtain ⟨d1, r1, c1, w1, a1, g1, rfl⟩ := iv_field g0
    obtain rfl := iv_end g1
    obtain ⟨t, rfl⟩ := i27 n d1 _ a1
    exact ⟨t, rfl⟩
theorem i209 (n : Nat) : Img (H := H) n 209 Cnd.cs := fun d vs h => by
  cases n with
  | zero => unfold avT at h; cases h
  | succ n =>
    obtain ⟨ds, g0⟩ := iv_struct Tryz.underlying209 d vs h
    obtain ⟨d1, r1, c1, w1, a1, g1, rfl⟩ := iv_field g0
    obtain ⟨d2, r2, c2, w2, a2, g2, rfl⟩ := iv_field g1
    obtain ⟨d3, r3, c3, w3, a3, g3, rfl⟩ := iv_field g2
    obtain rfl := iv_end g3
    obtain ⟨x, rfl⟩ := i3 n d1 _ a1
    obtain ⟨y, rfl⟩ := i3 n d2 _ a2
    obtain ⟨l, rfl⟩ := i52 n d3 _ a3
    exact ⟨⟨x, y, l⟩, rfl⟩
theorem i132 (n : Nat) : Img (H := H) n 132 pieC := img_slice Tryz.underlying132 Cnd.cs (fun m _ => i209 m) (by kernel_rfl)
theorem i86 (n : Nat) : Img (H := H) n 86 (fun l : List (List Cnd) => [lst 1 (l.map pieC)]) := img_slice Tryz.underlying86 pieC (fun m _ => i132 m) (by kernel_rfl)
theorem i88 (n : Nat) : Img (H := H) n 88 (fun x : Int × List (List Cnd) => [.int .i64 x.1, lst 1 (x.2.map pieC)]) := fun d vs h => by
  cases n with
  | zero => unfold avT at h; cases h
  | succ n =>
    obtain ⟨ds, g0⟩ := iv_struct Tryz.underlying88 d vs h
    obtain ⟨d1, r1, c1, w1, a1, g1, rfl⟩ := iv_field g0
    obtain ⟨d2, r2, c2, w2, a2, g2, rfl⟩ := iv_field g1
    obtain rfl := iv_end g2
    obtain ⟨x, rfl⟩ := i3 n d1 _ a1
    obtain ⟨l, rfl⟩ := i86 n d2 _ a2
    exact ⟨(x, l), rfl⟩
theorem i82 : ∀ (n : Nat), Img (H := H) n 82 Ex.cs := fun n => by
  induction n using Nat.strongRecOn with
  | _ n ih =>
  intro d vs h
  cases n with
  | zero => unfold avT at h; cases h
  | succ n =>
    obtain ⟨ds, g0⟩ := iv_struct Tryz.underlying82 d vs h
    have ir : Img (H := H) n 80 (fun l : List Ex => [lst 7 (l.map Ex.cs)]) := img_slice Tryz.underlying80 Ex.cs (fun m hm => ih m (by omega)) (by kernel_rfl)
    obtain ⟨d1, r1, c1, w1, a1, g1, rfl⟩ := iv_field g0
    obtain ⟨d2, r2, c2, w2, a2, g2, rfl⟩ := iv_field g1
    obtain ⟨d3, r3, c3, w3, a3, g3, rfl⟩ := iv_field g2
    obtain ⟨d4, r4, c4, w4, a4, g4, rfl⟩ := iv_field g3
    obtain ⟨d5, r5, c5, w5, a5, g5, rfl⟩ := iv_field g4
    obtain rfl := iv_end g5
    obtain ⟨x1, rfl⟩ := i3 n d1 _ a1
    obtain ⟨x2, rfl⟩ := i3 n d2 _ a2
    obtain ⟨x3, rfl⟩ := i52 n d3 _ a3
    obtain ⟨x4, rfl⟩ := i79 n d4 _ a4
    obtain ⟨x5, rfl⟩ := ir d5 _ a5
    exact ⟨Ex.mk x1 x2 x3 x4.1 x4.2 x5, by rw [Ex.cs_mk]; rfl⟩
theorem i90 : ∀ (n : Nat), Img (H := H) n 90 Stm.cs := fun n => by
  induction n using Nat.strongRecOn with
  | _ n ih =>
  intro d vs h
  cases n with
  | zero => unfold avT at h; cases h
  | succ n =>
    obtain ⟨ds, g0⟩ := iv_struct Tryz.underlying90 d vs h
    have ir : Img (H := H) n 24 (fun l : List Stm => [lst 19 (l.map Stm.cs)]) := img_slice Tryz.underlying24 Stm.cs (fun m hm => ih m (by omega)) (by kernel_rfl)
    obtain ⟨d1, r1, c1, w1, a1, g1, rfl⟩ := iv_field g0
    obtain ⟨d2, r2, c2, w2, a2, g2, rfl⟩ := iv_field g1
    obtain ⟨d3, r3, c3, w3, a3, g3, rfl⟩ := iv_field g2
    obtain ⟨d4, r4, c4, w4, a4, g4, rfl⟩ := iv_field g3
    obtain ⟨d5, r5, c5, w5, a5, g5, rfl⟩ := iv_field g4
    obtain ⟨d6, r6, c6, w6, a6, g6, rfl⟩ := iv_field g5
    obtain ⟨d7, r7, c7, w7, a7, g7, rfl⟩ := iv_field g6
    obtain ⟨d8, r8, c8, w8, a8, g8, rfl⟩ := iv_field g7
    obtain ⟨d9, r9, c9, w9, a9, g9, rfl⟩ := iv_field g8
    obtain ⟨d10, r10, c10, w10, a10, g10, rfl⟩ := iv_field g9
    obtain ⟨d11, r11, c11, w11, a11, g11, rfl⟩ := iv_field g10
    obtain rfl := iv_end g11
    obtain ⟨x1, rfl⟩ := i3 n d1 _ a1
    obtain ⟨x2, rfl⟩ := i9 n d2 _ a2
    obtain ⟨x3, rfl⟩ := i84 n d3 _ a3
    obtain ⟨x4, rfl⟩ := i84 n d4 _ a4
    obtain ⟨x5, rfl⟩ := i3 n d5 _ a5
    obtain ⟨x6, rfl⟩ := i3 n d6 _ a6
    obtain ⟨x7, rfl⟩ := i88 n d7 _ a7
    obtain ⟨x8, rfl⟩ := i79 n d8 _ a8
    obtain ⟨x9, rfl⟩ := i82 n d9 _ a9
    obtain ⟨x10, rfl⟩ := ir d10 _ a10
    obtain ⟨x11, rfl⟩ := ir d11 _ a11
    exact ⟨Stm.mk x1 x2 x3 x4 x5 x6 x7.1 x7.2 x8.1 x8.2 x9 x10 x11, by rw [Stm.cs, Stm.csL_map, Stm.csL_map]; simp [intC, strC]⟩
theorem i24 (n : Nat) : Img (H := H) n 24 (fun l : List Stm => [lst 19 (l.map Stm.cs)]) := img_slice Tryz.underlying24 Stm.cs (fun m _ => i90 m) (by kernel_rfl)
theorem i22 (n : Nat) : Img (H := H) n 22 (fun l : List ByteArray => [lst 1 (l.map strC)]) := img_slice Tryz.underlying22 strC (fun m _ => i9 m) (by kernel_rfl)
theorem i23 (n : Nat) : Img (H := H) n 23 (fun l : List Arr => [lst 2 (l.map Arr.cs)]) := img_slice Tryz.underlying23 Arr.cs (fun m _ => i75 m) (by kernel_rfl)
theorem i26 (n : Nat) : Img (H := H) n 26 (fun t : PT => t.p.cs) := fun d vs h => by
  cases n with
  | zero => unfold avT at h; cases h
  | succ n =>
    obtain ⟨ds, g0⟩ := iv_struct Tryz.underlying26 d vs h
    obtain ⟨d1, r1, c1, w1, a1, g1, rfl⟩ := iv_field g0
    obtain ⟨d2, r2, c2, w2, a2, g2, rfl⟩ := iv_field g1
    obtain ⟨d3, r3, c3, w3, a3, g3, rfl⟩ := iv_field g2
    obtain rfl := iv_end g3
    obtain ⟨a, rfl⟩ := i22 n d1 _ a1
    obtain ⟨b, rfl⟩ := i23 n d2 _ a2
    obtain ⟨c, rfl⟩ := i24 n d3 _ a3
    exact ⟨⟨a, b, c⟩, rfl⟩
end T
end

section
/- How long data are. -/
open Go Go.Proofs Go.Sym Go.Proofs.YtfephppemgmokaaGreatDoor
namespace T
mutual
def lenV (N : Nat) : AV → Prop
  | .lst _ rows _ => rows.length ≤ N ∧ lenR N rows
  | .str s => s.size ≤ N
  | _ => True
def lenC (N : Nat) : List AV → Prop
  | [] => True
  | v :: r => lenV N v ∧ lenC N r
def lenR (N : Nat) : List (List AV) → Prop
  | [] => True
  | r :: q => lenC N r ∧ lenR N q
end
theorem lenC_append {N : Nat} : ∀ {a b : List AV}, lenC N a → lenC N b → lenC N (a ++ b)
  | [], _, _, h => h
  | v :: r, b, h, h' => by
    simp only [lenC, List.cons_append] at h ⊢
    exact ⟨h.1, lenC_append h.2 h'⟩
section
variable {H : Type} {P : Program}
theorem avR_len {n : Nat} {e : TypeId} (ih : ∀ (d : DataW H) vs, avT P n e d = some vs → ∀ N, Rows.uptoBulk d ≤ N → lenC N vs) (N : Nat) : ∀ (ds : List (DataW H)) (rows : List (List AV)), avR P n e ds = some rows → Rows.uptoBulkAll ds ≤ N → lenR N rows ∧ rows.length ≤ Rows.uptoBulkAll ds
  | [], rows, h, _ => by
    unfold avR at h
    cases h
    exact ⟨trivial, Nat.zero_le _⟩
  | d :: r, rows, h, hN => by
    unfold avR at h
    obtain ⟨row, h1, h⟩ := ob_eq h
    obtain ⟨rs, h2, h⟩ := ob_eq h
    cases h
    simp only [Rows.uptoBulkAll] at hN ⊢
    obtain ⟨a1, a2⟩ := avR_len ih N r rs h2 (by omega)
    have hb : 1 ≤ Rows.uptoBulk d := by
      cases d with
      | lit l => cases l <;> simp [Rows.uptoBulk]
      | _ => simp [Rows.uptoBulk]
    refine ⟨⟨ih d row h1 N (by omega), a1⟩, by rw [List.length_cons]; omega⟩
theorem avF_len {n : Nat} (ih : ∀ t (d : DataW H) vs, avT P n t d = some vs → ∀ N, Rows.uptoBulk d ≤ N → lenC N vs) (N : Nat) : ∀ (fs : List Field) (off : Nat) (ds : List (DataW H)) (vs : List AV), avF P n off fs ds = some vs → Rows.uptoBulkAll ds ≤ N → lenC N vs
  | [], off, ds, vs, h, _ => by
    obtain rfl := iv_end h
    trivial
  | f :: r, off, [], vs, h, _ => by unfold avF at h; cases h
  | f :: r, off, d :: ds, vs, h, hN => by
    unfold avF at h
    split at h
    · obtain ⟨cs, h1, h⟩ := ob_eq h
      split at h
      · obtain ⟨ws, h2, h⟩ := ob_eq h
        cases h
        simp only [Rows.uptoBulkAll] at hN
        exact lenC_append (ih _ d cs h1 N (by omega)) (avF_len ih N r _ ds ws h2 (by omega))
      · cases h
    · cases h
theorem av_len : ∀ (n : Nat) (t : TypeId) (d : DataW H) vs, avT P n t d = some vs → ∀ N, Rows.uptoBulk d ≤ N → lenC N vs
  | 0, t, d, vs, h, N, _ => by unfold avT at h; cases h
  | n + 1, t, d, vs, h, N, hN => by
    unfold avT at h
    split at h
    · cases h; exact ⟨trivial, trivial⟩
    · split at h
      · cases h; exact ⟨trivial, trivial⟩
      · cases h
    · cases h
      rename_i s _
      refine ⟨?_, trivial⟩
      simp only [Rows.uptoBulk] at hN
      show s.toArray.size ≤ N
      simp
      omega
    · cases h; exact ⟨trivial, trivial⟩
    · cases h; exact ⟨⟨Nat.zero_le _, trivial⟩, trivial⟩
    · split at h
      · cases h
      · obtain ⟨rows, h1, h⟩ := ob_eq h
        cases h
        simp only [Rows.uptoBulk] at hN
        obtain ⟨a1, a2⟩ := avR_len (fun d vs h N hN => av_len n _ d vs h N hN) N _ rows h1 (by omega)
        exact ⟨⟨by omega, a1⟩, trivial⟩
    · simp only [Rows.uptoBulk] at hN
      exact avF_len (fun t d vs h N hN => av_len n t d vs h N hN) N _ _ _ vs h (by omega)
    · cases h
end
end T
end

section
/- The law's premises, from the data's lengths. -/
open Go Go.Proofs Go.Sym
namespace T
theorem lenR_map {α : Type} {F : α → List AV} {N : Nat} : ∀ {xs : List α}, lenR N (xs.map F) → ∀ x ∈ xs, lenC N (F x)
  | y :: r, h, x, hx => by
    simp only [List.map_cons, lenR] at h
    rcases List.mem_cons.1 hx with rfl | hx
    · exact h.1
    · exact lenR_map h.2 x hx
section
variable {N : Nat} (hN : N ≤ 1073741823)
include hN
theorem ok_ints {l : List Int} (h : lenV N (ints l)) : l.length ≤ 1073741823 := by
  have : (l.map intC).length ≤ N := h.1
  rw [List.length_map] at this
  omega
theorem ok_lin {l : Lin} (h : lenC N l.cs) : okLin l := by
  have := ok_ints hN h.1
  show l.C.length ≤ 1073741824
  omega
theorem ok_lst {k : Nat} {rows : List (List AV)} (h : lenV N (lst k rows)) : rows.length ≤ 1073741823 ∧ lenR N rows := by
  have h : rows.length ≤ N ∧ lenR N rows := h
  exact ⟨by omega, h.2⟩
theorem ok_lins {l : List Lin} (h : lenV N (lst 2 (l.map Lin.cs))) : okLins l := by
  obtain ⟨h1, h2⟩ := ok_lst hN h
  rw [List.length_map] at h1
  exact ⟨h1, fun x hx => ok_lin hN (lenR_map h2 x hx)⟩
theorem ok_tab' {t : Tab} (h : lenV N (tabV t)) : okTab' t := by
  obtain ⟨h1, h2⟩ := ok_lst hN h
  rw [List.length_map] at h1
  refine ⟨h1, fun l hl => ?_⟩
  have h3 : lenV N (lst 3 (l.map Row.cs)) := (lenR_map h2 l hl).1
  obtain ⟨h4, h5⟩ := ok_lst hN h3
  rw [List.length_map] at h4
  refine ⟨h4, fun r hr => ?_⟩
  have h6 : lenC N r.cs := lenR_map h5 r hr
  have h7 := ok_ints hN h6.1
  show r.L.C.length ≤ 1073741824
  omega
theorem ok_ex : ∀ (n : Nat) (e : Ex), nsz e ≤ n → lenC N e.cs → OkEx e
  | 0, .mk .., h, _ => by simp [nsz] at h
  | n + 1, .mk op k L rA subs args, hn, h => by
    rw [Ex.cs_mk] at h
    obtain ⟨_, _, h1, _, _, h2, h3, _⟩ := h
    obtain ⟨a1, a2⟩ := ok_lst hN h3
    rw [List.length_map] at a1
    refine .mk ?_ (ok_lins hN h2) a1 fun a ha => ok_ex n a ?_ (lenR_map a2 a ha)
    · have := ok_ints hN h1
      show L.C.length ≤ 1073741824
      omega
    · have := nszL_mem args a ha
      simp only [nsz] at hn
      omega
theorem ok_pie {p : List (List Cnd)} (h : lenV N (lst 1 (p.map pieC))) : okPie p := by
  obtain ⟨h1, h2⟩ := ok_lst hN h
  rw [List.length_map] at h1
  refine ⟨h1, fun l hl => ?_⟩
  have h3 : lenV N (lst 4 (l.map Cnd.cs)) := (lenR_map h2 l hl).1
  obtain ⟨h4, h5⟩ := ok_lst hN h3
  rw [List.length_map] at h4
  refine ⟨h4, fun c hc => ?_⟩
  have h6 : lenC N c.cs := lenR_map h5 c hc
  have h7 := ok_ints hN h6.2.2.1
  show c.L.C.length ≤ 1073741824
  omega
omit hN in
theorem sszL_mem {l : List Stm} (e : Stm) (h : e ∈ l) : ssz e ≤ sszL l := by
  induction l with
  | nil => cases h
  | cons a r ih =>
    rcases List.mem_cons.1 h with rfl | h
    · simp [sszL]
    · have := ih h; simp [sszL]; omega
theorem ok_stm : ∀ (n : Nat) (s : Stm), ssz s ≤ n → lenC N s.cs → OkStm s
  | 0, .mk .., h, _ => by simp [ssz] at h
  | n + 1, .mk kind name low high step mark dim pieces tA tS (.mk op k L rA subs args) body els, hn, h => by
    rw [Stm.cs_mk] at h
    obtain ⟨_, a2, a3, a4, _, _, _, a8, _, a10, b1, b2, b3, b4, b5, b6, b7, a12, a13, _⟩ := h
    have hex : lenC N (Ex.cs (.mk op k L rA subs args)) := by rw [Ex.cs_mk]; exact ⟨b1, b2, b3, b4, b5, b6, b7, trivial⟩
    obtain ⟨c1, c2⟩ := ok_lst hN a12
    obtain ⟨c3, c4⟩ := ok_lst hN a13
    rw [List.length_map] at c1 c3
    simp only [ssz] at hn
    refine .mk ?_ (ok_tab' hN a3) (ok_tab' hN a4) (ok_pie hN a8) (ok_lins hN a10) (ok_ex hN _ _ (Nat.le_refl _) hex) c1 c3 (fun s hs => ok_stm n s (by have := sszL_mem s hs; omega) (lenR_map c2 s hs)) fun s hs => ok_stm n s (by have := sszL_mem s hs; omega) (lenR_map c4 s hs)
    · have h : name.size ≤ N := a2
      omega
theorem ok_pt {t : PT} (h : lenC N t.p.cs) : t.Ok := by
  obtain ⟨h1, h2, h3, _⟩ := h
  obtain ⟨a1, a2⟩ := ok_lst (k := 1) hN h1
  obtain ⟨b1, b2⟩ := ok_lst (k := 2) hN h2
  obtain ⟨c1, c2⟩ := ok_lst (k := 19) hN h3
  simp only [PT.p_a, PT.p_b, PT.p_c, List.length_map] at a1 b1 c1
  refine ⟨a1, fun s hs => ?_, b1, fun a ha => ?_, c1, fun s hs => ok_stm hN _ s (Nat.le_refl _) (lenR_map c2 s hs)⟩
  · have h : lenC N (strC s) := lenR_map a2 s hs
    have h : s.size ≤ N := h.1
    omega
  · have h : lenC N a.cs := lenR_map b2 a ha
    have h' : a.name.size ≤ N := h.1
    exact ⟨by omega, ok_lins hN h.2.1⟩
theorem ok_table {t : Tab} (h : lenC N [tabV t]) : okTab t ∧ t.length ≤ 1073741823 := by
  obtain ⟨h1, h2⟩ := ok_tab' hN h.1
  refine ⟨⟨by omega, fun l hl => ?_⟩, h1⟩
  obtain ⟨a1, a2⟩ := h2 l hl
  exact ⟨by omega, fun r hr => a2 r hr⟩
end
theorem i32 {H : Type} (n : Nat) (d : DataW H) (vs : List AV) (h : avT Tryz.prog n 32 d = some vs) : ∃ m : Mv, vs = m.cs ∧ -9223372036854775808 ≤ m.k ∧ m.k < 9223372036854775808 := by
  cases n with
  | zero => unfold avT at h; cases h
  | succ n =>
    obtain ⟨ds, g0⟩ := iv_struct Tryz.underlying32 d vs h
    obtain ⟨d1, r1, c1, w1, a1, g1, rfl⟩ := iv_field g0
    obtain ⟨d2, r2, c2, w2, a2, g2, rfl⟩ := iv_field g1
    obtain ⟨d3, r3, c3, w3, a3, g3, rfl⟩ := iv_field g2
    obtain ⟨d4, r4, c4, w4, a4, g4, rfl⟩ := iv_field g3
    obtain ⟨d5, r5, c5, w5, a5, g5, rfl⟩ := iv_field g4
    obtain rfl := iv_end g5
    obtain ⟨x1, rfl⟩ := i3 n d1 _ a1
    obtain ⟨x2, rfl⟩ := i3 n d2 _ a2
    obtain ⟨x3, rfl⟩ := i3 n d3 _ a3
    obtain ⟨x4, rfl, hk1, hk2⟩ := iv_int Tryz.underlying3 d4 _ a4
    obtain ⟨x5, rfl⟩ := i30 n d5 _ a5
    have e1 : IntKind.i64.min = -9223372036854775808 := rfl
    have e2 : IntKind.i64.max = 9223372036854775807 := rfl
    exact ⟨⟨x1, x2, x3, x4, x5⟩, rfl, by rw [e1] at hk1; exact hk1, by rw [e2] at hk2; show x4 < _; omega⟩
end T
end
