/- The law MovesUndone of headlandlaw20 returns true, at arguments of the row's types whose lengths are at most uptoBulk: a move that Do and Back accept is undone by the move that Back returns. Conditions: those of the given row (Rows.MovesUndoneUptoCardSaid), and no others. Part 3 of the proof: Cd1 Cd2 Seal Rng Cd3 Cl1 Cl2 Chk Eqs. -/
import Derived.Test.YtfephppemgmokaaGreatDoorAb
import Derived.RangeFuncNested
import Derived.RecoverIn
set_option linter.unusedVariables false
set_option linter.unusedSimpArgs false
set_option linter.unusedSectionVars false
section
/- What a walk keeps of the blocks that were there when the call began. -/
namespace Go.Sym
open Go.RowKit
def kenv : Kind → List (Nat × AV)
  | .rng _ _ env _ _ _ _ => env
  | _ => []
def OldK (n : Nat) (k : Blk) : Prop := (∀ row ∈ k.rows, belowL n row = true) ∧ ∀ t, below n (get (kenv k.kind) t) = true
def OldB (n : Nat) (H : Nat → Option Blk) : Prop := ∀ b k, b < n → H b = some k → OldK n k
structure Pres (s s' : St) : Prop where
  nh : s'.nh = s.nh
  heap : s.heap.length ≤ s'.heap.length
  toks : s.toks.length ≤ s'.toks.length
  old : ∀ n, n ≤ s.nh → n ≤ s.heap.length → OldB n s.H → OldB n s'.H
theorem Pres.refl (s : St) : Pres s s := ⟨rfl, Nat.le_refl _, Nat.le_refl _, fun _ _ _ h => h⟩
theorem Pres.trans {s s1 s2 : St} (h : Pres s s1) (h' : Pres s1 s2) : Pres s s2 :=
  ⟨h'.nh.trans h.nh, Nat.le_trans h.heap h'.heap, Nat.le_trans h.toks h'.toks, fun n hn hl ho => h'.old n (by rw [h.nh]; exact hn) (Nat.le_trans hl h.heap) (h.old n hn hl ho)⟩
def PresC (cl : CallFn) : Prop := ∀ g args H K r, cl g args H K = some r → H.length ≤ r.2.1.length ∧ K.length ≤ r.2.2.length ∧ ∀ n, n ≤ H.length → OldB n (lH H) → OldB n (lH r.2.1)
def Out.st : Out → St
  | .next s => s
  | .ret s => s
  | .exit _ s => s
  | .panic _ s => s
theorem OldB.congr {n : Nat} {H H' : Nat → Option Blk} (h : OldB n H) (he : ∀ b, b < n → H' b = H b) : OldB n H' := fun b k hb hk => h b k hb (by rw [← he b hb]; exact hk)
theorem pres_put (s : St) (d : Option Nat) (v : AV) : Pres s (s.put d v) := by
  cases d with
  | none => exact Pres.refl s
  | some d => exact ⟨rfl, Nat.le_refl _, Nat.le_refl _, fun _ _ _ h => h⟩
theorem mem_splice {r cs : List AV} {o : Nat} {v : AV} (h : v ∈ splice r o cs) : v ∈ r ∨ v ∈ cs := by
  unfold splice at h
  rcases List.mem_append.1 h with h | h
  · exact .inl (List.mem_of_mem_take h)
  · rcases List.mem_append.1 h with h | h
    · exact .inr h
    · exact .inl (List.mem_of_mem_drop h)
mutual
theorem below_mono {n m : Nat} (h : n ≤ m) : ∀ (v : AV), below n v = true → below m v = true
  | .ptr b i o, hv => by simp [below] at hv ⊢; omega
  | .win b off len cap, hv => by simp [below] at hv ⊢; omega
  | .agg cs, hv => by simpa [below] using belowL_mono h cs (by simpa [below] using hv)
  | .tup cs, hv => by simpa [below] using belowL_mono h cs (by simpa [below] using hv)
  | .fn f cs, hv => by simpa [below] using belowL_mono h cs (by simpa [below] using hv)
  | .iface t v, hv => by simpa [below] using below_mono h v (by simpa [below] using hv)
  | .lst .., _ => rfl
  | .iptr .., _ => rfl
  | .yld b, hv => by simp [below] at hv ⊢; omega
  | .undef, _ => rfl
  | .int .., _ => rfl
  | .bool _, _ => rfl
  | .str _, _ => rfl
  | .nilp, _ => rfl
  | .nilfn, _ => rfl
  | .niface, _ => rfl
theorem belowL_mono {n m : Nat} (h : n ≤ m) : ∀ (vs : List AV), belowL n vs = true → belowL m vs = true
  | [], _ => rfl
  | v :: r, hv => by
    simp only [belowL, Bool.and_eq_true] at hv ⊢
    exact ⟨below_mono h v hv.1, belowL_mono h r hv.2⟩
end
section
variable {X : Ctx} {cl : CallFn} {f : FuncId} {dr : Bool} {nt : Nat}
theorem pres_ap {s s' : St} {m : Nat} {o : Oper} {e : Eff} (he : effOf X.P s.nh m (get s.env) s.H s.K o.op = some e) (h : s.ap o.dst e = some s') : Pres s s' := by
  cases e with
  | val v => cases h; exact pres_put _ _ _
  | new k wn =>
    have key : Pres s { s with heap := s.heap ++ [k] } := ⟨rfl, by simp, Nat.le_refl _, fun n _ hl ho => ho.congr fun b hb => by
      simp only [St.H]
      exact List.getElem?_append_left (by omega)⟩
    cases wn <;> cases h <;> exact key.trans (pres_put _ _ _)
  | upd b k =>
    cases h
    refine Pres.trans (s1 := { s with heap := s.heap.set b k }) ⟨rfl, by simp, Nat.le_refl _, fun n hn hl ho b' k' hb' hk' => ?_⟩ (pres_put _ _ _)
    rcases effOf_cases he with ⟨v, h⟩ | ⟨k, wn, h⟩ | ⟨t, x, y, p, _, h, hp⟩ | ⟨c, _, h⟩ | ⟨v, h⟩
    · cases h
    · cases h
    · cases h
      obtain ⟨b, i, o, y, k, r, cs, _, _, hk, hr, _, hc, rfl⟩ := stv_some hp
      simp only [St.H] at hk'
      rw [List.getElem?_set] at hk'
      by_cases hbb : b = b'
      · subst hbb
        have hbl : b < s.heap.length := lt_of_lH (H := s.heap) (by rw [← St.H_eq, hk]; simp)
        simp only [if_true] at hk'
        rw [if_pos hbl] at hk'
        cases hk'
        refine ⟨fun row hrow => ?_, (ho b k hb' hk).2⟩
        rcases List.mem_or_eq_of_mem_set hrow with hrow | rfl
        · exact (ho b k hb' hk).1 row hrow
        · rw [belowL_iff]
          intro v hv
          rcases mem_splice hv with hv | hv
          · exact belowL_iff.1 ((ho b k hb' hk).1 r (List.mem_of_getElem? hr)) v hv
          · rcases hc.2.2.2 with h | h
            · omega
            · exact below_mono (by omega) v (belowL_iff.1 h v hv)
      · rw [if_neg hbb] at hk'
        exact ho b' k' hb' hk'
    · rcases callv_cases h with (⟨g, as, h⟩ | ⟨g, as, h⟩) | ⟨v, h⟩ | (⟨sz, rows, h⟩ | ⟨k, wn, h⟩) | ⟨i, sz, rows, h, _⟩ <;> cases h
    · cases h
  | ntok sz rows =>
    cases h
    exact Pres.trans (s1 := { s with toks := s.toks ++ [rows.length] }) ⟨rfl, Nat.le_refl _, by simp, fun _ _ _ h => h⟩ (pres_put _ _ _)
  | stok t sz rows =>
    cases h
    exact Pres.trans (s1 := { s with toks := s.toks.set t rows.length }) ⟨rfl, Nat.le_refl _, by simp, fun _ _ _ h => h⟩ (pres_put _ _ _)
  | pan v => cases h
  | call g as => cases h
  | round b as => cases h
theorem pres_evs (hcl : PresC (scall X cl)) {ops : List Oper} : ∀ (l : List Oper) (s : St) (out : Out), evs X cl f dr ops l s = some out → Pres s out.st
  | [], s, out, h => by cases h; exact Pres.refl s
  | o :: r, s, out, h => by
    simp only [evs] at h
    obtain ⟨g, _, h⟩ := ob_eq h
    have go : opGo X cl f dr o s (evs X cl f dr ops r) = some out → Pres s out.st := fun h => by
      obtain ⟨e, he, hc⟩ := opGo_cases h
      rcases hc with ⟨_, s', hs, hk⟩ | ⟨v, _, _, rfl⟩ | ⟨g, args, _, _, _, q, _, hrest⟩ | ⟨g, args, _, _, q, hq, hrest⟩
      · exact (pres_ap he hs).trans (pres_evs hcl r s' out hk)
      · exact Pres.refl s
      · cases q with
        | ret v => exact (pres_put _ _ _).trans (pres_evs hcl r _ out hrest)
        | own sz rows =>
          refine Pres.trans (s1 := { s with toks := s.toks ++ [rows.length] }) ⟨rfl, Nat.le_refl _, ?_, fun _ _ _ h => h⟩ ((pres_put _ _ _).trans (pres_evs hcl r _ out hrest))
          simp
        | panic v => rw [hrest.2]; exact Pres.refl s
      · obtain ⟨h1, h2, h3⟩ := hcl g args s.heap s.toks q hq
        have key : Pres s { s with heap := q.2.1, toks := q.2.2 } := ⟨rfl, h1, h2, fun n _ hl ho => h3 n hl ho⟩
        rcases q with ⟨q1, q2⟩
        cases q1 with
        | ret v => exact key.trans ((pres_put _ _ _).trans (pres_evs hcl r _ out hrest))
        | panic v => simp only at hrest; rw [hrest]; exact key
    cases g with
    | none => exact go h
    | some dw =>
      obtain ⟨d, want⟩ := dw
      simp only at h
      obtain ⟨y, hy, h⟩ := ob_eq h
      split at h
      · exact go h
      · exact (pres_put _ _ _).trans (pres_evs hcl r _ out h)
theorem tzB_eq {s : St} {b i c sz : Nat} {k : Blk} (h : tzB s b i c sz = some k) : ∃ k0 row sz0, s.heap[b]? = some k0 ∧ k0.kind = .box ∧ k0.rows[i]? = some row ∧ row[c]? = some (.lst sz0 [] .nil) ∧ k = { k0 with rows := k0.rows.set i (row.set c (.lst sz [] (.tok s.toks.length))) } := by
  unfold tzB at h
  split at h
  · rename_i k0 hk0
    split at h
    · rename_i row hkd hrow
      split at h
      · rename_i sz0 hv
        cases h
        exact ⟨k0, row, sz0, hk0, hkd, hrow, hv, rfl⟩
      · cases h
    · cases h
  · cases h
theorem pres_tz : ∀ (l : List (Nat × Nat)) (s : St), Pres s (s.tz l)
  | [], s => Pres.refl s
  | (t, sz) :: r, s => by
    simp only [St.tz]
    split
    · refine Pres.trans (s1 := { s with toks := s.toks ++ [0] }) ⟨rfl, Nat.le_refl _, ?_, fun _ _ _ h => h⟩ ((pres_put _ _ _).trans (pres_tz r _))
      simp
    · rename_i b i o _
      split
      · rename_i k hk
        refine Pres.trans (s1 := { s with toks := s.toks ++ [0], heap := s.heap.set b k }) ⟨rfl, by simp, by simp, fun n hn hl ho => ?_⟩ (pres_tz r _)
        obtain ⟨k0, row, sz0, h1, h2, h3, h4, rfl⟩ := tzB_eq hk
        intro b' k' hb' hk'
        have hk1 : (s.heap.set b { k0 with rows := k0.rows.set i (row.set (o + sz / 4096) (.lst (sz % 4096) [] (.tok s.toks.length))) })[b']? = some k' := hk'
        by_cases e : b = b'
        · subst e
          rw [List.getElem?_set_self (List.getElem?_eq_some_iff.1 h1).1] at hk1
          cases hk1
          have h0 := ho b k0 hb' h1
          refine ⟨fun row' hr' => ?_, ?_⟩
          · rcases List.mem_or_eq_of_mem_set hr' with hr' | rfl
            · exact h0.1 row' hr'
            · refine belowL_iff.2 fun v hv => ?_
              rcases List.mem_or_eq_of_mem_set hv with hv | rfl
              · exact belowL_iff.1 (h0.1 row (List.mem_of_getElem? h3)) v hv
              · rfl
          · have hk := h0.2
            rw [h2] at hk
            show ∀ t, below n (get (kenv k0.kind) t) = true
            rw [h2]
            exact hk
        · rw [List.getElem?_set_ne e] at hk1
          exact ho b' k' hb' hk1
      · exact pres_tz r s
    · exact pres_tz r s
theorem H_gc (keep : List Nat) (n m : Nat) (s : St) (hn : s.nh ≤ n) {b : Nat} : (s.gc keep n m).H b =
    (if b < n then (if b < s.nh then s.H b else (s.H b).map (fun k => scrubK n (if s.nh = 0 then m else s.toks.length) (sealK n s.H k))) else none) := by
  unfold St.gc
  split
  · rename_i h0
    simp only [St.H, h0, List.getElem?_map, List.getElem?_take, Nat.not_lt_zero, if_false, if_true]
    split <;> rfl
  · rename_i h0
    simp only [St.H, if_neg h0]
    by_cases hb : b < s.nh
    · rw [if_pos (by omega), if_pos hb]
      by_cases hl : b < s.heap.length
      · rw [List.getElem?_append_left (by simp; omega), List.getElem?_take, if_pos hb]
      · rw [List.getElem?_append_right (by simp; omega)]
        simp only [List.getElem?_map, List.getElem?_drop, List.length_take, List.getElem?_take]
        rw [List.getElem?_eq_none (show s.heap.length ≤ b by omega)]
        split
        · rw [List.getElem?_eq_none (by omega)]; rfl
        · rfl
    · rw [if_neg hb]
      by_cases hl : s.nh ≤ s.heap.length
      · rw [List.getElem?_append_right (by simp; omega)]
        simp only [List.getElem?_map, List.getElem?_drop, List.length_take, List.getElem?_take]
        rw [Nat.min_eq_left hl, show s.nh + (b - s.nh) = b by omega]
        split <;> rfl
      · have h1 : s.heap[b]? = none := List.getElem?_eq_none (by omega)
        rw [h1]
        rw [List.getElem?_eq_none (by simp; omega)]
        split <;> rfl
theorem gc_nh (keep : List Nat) (n m : Nat) (s : St) : (s.gc keep n m).nh = s.nh := by
  unfold St.gc
  split
  · simp_all
  · rfl
theorem pres_gc {keep : List Nat} {n m : Nat} {s : St} (hn : s.nh ≤ n) (hl : s.heap.length ≤ n) (hm : s.toks.length ≤ m) {s' : St} (hh : n ≤ s'.heap.length) (ht : m ≤ s'.toks.length) (hp : s'.nh = s.nh)
    (ho : ∀ k, k ≤ s.nh → k ≤ s.heap.length → OldB k s.H → OldB k s'.H) : Pres s (s'.gc keep n m) := by
  refine ⟨(gc_nh _ _ _ _).trans hp, ?_, ?_, fun k hk hkl hold => ?_⟩
  · unfold St.gc
    split <;> simp <;> omega
  · unfold St.gc
    split <;> simp <;> omega
  · refine (ho k hk hkl hold).congr fun b hb => ?_
    rw [H_gc _ _ _ _ (by omega), if_pos (by omega), if_pos (by omega)]
theorem pres_iter {body : St → Option Out} {keep : List Nat} {n m : Nat} {s0 : St} (hb : ∀ s out, body s = some out → Pres s out.st) (hn : s0.nh ≤ n) (hl : s0.heap.length = n) (hm : s0.toks.length = m) :
    ∀ (k : Nat) (s : St) (out : Out), Pres s0 s → iter body (St.gc keep n m) k s = some out → Pres s0 out.st
  | 0, s, out, _, h => by simp [iter] at h
  | k + 1, s, out, hp, h => by
    have hg : Pres s0 (s.gc keep n m) := pres_gc hn (by omega) (by omega) (by rw [← hl]; exact hp.heap) (by rw [← hm]; exact hp.toks) hp.nh hp.old
    simp only [iter] at h
    cases hbo : body (s.gc keep n m) with
    | none => rw [hbo] at h; cases h
    | some o =>
      rw [hbo] at h
      have h1 := hg.trans (hb _ _ hbo)
      cases o with
      | next s' => exact pres_iter hb hn hl hm k s' out h1 h
      | ret s' => cases h; exact h1
      | exit i s' => cases h; exact h1
      | panic v s' => cases h; exact h1
theorem pres_exec (hcl : PresC cl) (hps : PresC (scall X cl)) {n : Nat} : ∀ (c : Code) (s : St) (out : Out), s.nh ≤ s.heap.length → exec X cl n f c s = some out → Pres s out.st
  | .skip, s, out, _, h => by cases h; exact Pres.refl s
  | .label _, s, out, _, h => by cases h; exact Pres.refl s
  | .region id ops dr, s, out, _, h => by
    simp only [exec] at h
    cases dr with
    | false => exact pres_evs hps _ s out h
    | true =>
      cases hev : evs X cl f true ops.toList ops.toList s with
      | none => rw [hev] at h; cases h
      | some o =>
        have h1 := pres_evs hps _ s o hev
        rw [hev] at h
        cases o with
        | next s1 =>
          simp only [regGo, andThen, sepc] at h
          split at h
          · cases h; exact h1
          · cases h
        | ret s' => cases h; exact h1
        | exit i s' => cases h; exact h1
        | panic v s' => cases h; exact h1
  | .seq x y, s, out, hn, h => by
    simp only [exec] at h
    cases hx : exec X cl n f x s with
    | none => rw [hx] at h; cases h
    | some o =>
      have h1 := pres_exec hcl hps x s o hn hx
      rw [hx] at h
      cases o with
      | next s1 => exact h1.trans (pres_exec hcl hps y s1 out (by have := h1.nh; have := h1.heap; simp only [Out.st] at *; omega) h)
      | ret s' => cases h; exact h1
      | exit i s' => cases h; exact h1
      | panic v s' => cases h; exact h1
  | .cond c x y, s, out, hn, h => by
    simp only [exec] at h
    split at h
    · split at h
      · exact pres_exec hcl hps x s out hn h
      · exact pres_exec hcl hps y s out hn h
    · cases h
  | .block id c, s, out, hn, h => by
    simp only [exec] at h
    cases hx : exec X cl n f c s with
    | none => rw [hx] at h; cases h
    | some o =>
      have h1 := pres_exec hcl hps c s o hn hx
      rw [hx] at h
      cases o with
      | exit i s' =>
        simp only [blk] at h
        split at h <;> cases h <;> exact h1
      | next s' => cases h; exact h1
      | ret s' => cases h; exact h1
      | panic v s' => cases h; exact h1
  | .loop c, s, out, hn, h => by
    simp only [exec] at h
    have ht := pres_tz (X.tz f (firstReg c)) s
    refine ht.trans ?_
    have hnl : (s.tz (X.tz f (firstReg c))).nh ≤ (s.tz (X.tz f (firstReg c))).heap.length := by have := ht.nh; have := ht.heap; omega
    generalize s.tz (X.tz f (firstReg c)) = s1 at *
    have go : ∀ (k : Nat) (s : St) (out : Out), Pres s1 s → iter (fun s => exec X cl n f c s) (St.gc (X.keep f (firstReg c)) s1.heap.length s1.toks.length) k s = some out → Pres s1 out.st := by
      intro k
      induction k with
      | zero => intro s out _ h; simp [iter] at h
      | succ k ih =>
        intro s out hp h
        have hg : Pres s1 (s.gc (X.keep f (firstReg c)) s1.heap.length s1.toks.length) := pres_gc hnl (Nat.le_refl _) (Nat.le_refl _) hp.heap hp.toks hp.nh hp.old
        simp only [iter] at h
        cases hbo : exec X cl n f c (s.gc (X.keep f (firstReg c)) s1.heap.length s1.toks.length) with
        | none => rw [hbo] at h; cases h
        | some o =>
          rw [hbo] at h
          have h1 := hg.trans (pres_exec hcl hps c _ o (by have := hg.nh; have := hg.heap; omega) hbo)
          cases o with
          | next s' => exact ih s' out h1 h
          | ret s' => cases h; exact h1
          | exit i s' => cases h; exact h1
          | panic v s' => cases h; exact h1
    exact go n s1 out (Pres.refl _) h
  | .exit id, s, out, _, h => by cases h; exact Pres.refl s
  | .ret, s, out, _, h => by cases h; exact Pres.refl s
  | .rangeFunc g ps as bd, s, out, hn, h => by
    simp only [exec] at h
    split at h
    · rename_i hf caps _
      split at h
      · obtain ⟨r, hr, h⟩ := ob_eq h
        obtain ⟨h1, h2, h3⟩ := hcl _ _ _ _ _ hr
        have key : Pres s { s with heap := r.2.1.take s.heap.length, toks := r.2.2 } := by
          refine ⟨rfl, by simp at h1 ⊢; omega, h2, fun n hn' hl ho => ?_⟩
          have h4 := h3 n (by simp; omega) (ho.congr fun b hb => List.getElem?_append_left (by omega))
          refine h4.congr fun b hb => ?_
          simp only [St.H, lH, List.getElem?_take, if_pos (show b < s.heap.length by omega)]
        unfold rangeEnd at h
        split at h
        · cases h
        · obtain ⟨k, _, h⟩ := ob_eq h
          split at h
          · split at h <;> first
              | (cases h; exact key)
              | cases h
          · cases h
      · cases h
    · cases h
  | .scope _, s, out, _, h => by simp [exec] at h
  | .goto _, s, out, _, h => by simp [exec] at h
  | .refuse _, s, out, _, h => by simp [exec] at h
end
end Go.Sym
end

section
/- A loop's head: what is let go; claims for nil slices. -/
namespace Go.Sym
open Go.RowKit
/-- The layout without the blocks from n on and the claims from m on. -/
def Lay.res (L : Lay) (n m : Nat) : Lay := { S := L.S, B := L.B, hp := fun b => if b < n then L.hp b else none, tk := fun t => if t < m then L.tk t else none }
theorem keeps_res {L : Lay} {w : World} {n m : Nat} : Keeps L w (L.res n m) w := ⟨fun _ _ h => h, fun _ _ _ => rfl⟩
theorem RepC.res {L : Lay} {w : World} {n m : Nat} {c : Cap} {g : Nat} : ∀ {p : Nat} {cs : List AV}, RepC L w c g p cs → RepC (L.res n m) w c g p cs
  | _, [], _ => by simp [RepC]
  | p, v :: r, h => by
    simp only [RepC] at h ⊢
    obtain ⟨hq, hp, hc, ⟨u, hu, hv⟩, hr⟩ := h
    exact ⟨hq, hp, hc, ⟨u, hu, Rep.pure keeps_res v u hp hv⟩, RepC.res hr⟩
theorem RepR.res {L : Lay} {w : World} {n m : Nat} {c : Cap} {sz g : Nat} : ∀ {p : Nat} {rows : List (List AV)}, RepR L w c sz g p rows → RepR (L.res n m) w c sz g p rows
  | _, [], _ => by simp [RepR]
  | p, row :: r, h => by
    simp only [RepR] at h ⊢
    exact ⟨h.1, RepC.res h.2.1, RepR.res h.2.2⟩
mutual
theorem Rep.scrub {L : Lay} {w : World} {n m : Nat} : ∀ (v : AV) (u : Value), Rep L w v u → Rep (L.res n m) w (scrub n m v) u
  | .lst sz rows c, u, h => by
    obtain ⟨a, l, cap, rfl, hn, hc, hm, hrows, hcap⟩ := by simpa only [Rep] using h
    have main : ∀ c', (c = .bor → c' = .bor) → CapOK (L.res n m) sz a l cap c' → Rep (L.res n m) w (.lst sz rows c') (.slice a l cap) := fun c' hc' hok => by
      simp only [Rep]
      refine ⟨a, l, cap, rfl, hn, hc, hm, ?_, hok⟩
      rcases hrows with hrows | ⟨g, p, ha, hr⟩
      · exact .inl hrows
      · exact .inr ⟨g, p, ha, RepR.cap hc' (RepR.res hr)⟩
    cases c with
    | tok t =>
      simp only [Sym.scrub]
      split
      · rename_i ht
        refine main _ id ?_
        obtain ⟨k, hk, h1⟩ := hcap
        exact ⟨k, by simp [Lay.res, ht, hk], h1⟩
      · exact Rep.szOf (main .no (by simp) trivial)
    | no => exact main _ id hcap
    | nn => exact main _ id hcap
    | an => exact main _ id hcap
    | nil => exact main _ id hcap
    | exact => exact main _ id hcap
    | bor => exact main _ id hcap
  | .agg cs, u, h => by
    obtain ⟨vs, rfl, hl⟩ := by simpa only [Rep] using h
    simp only [Sym.scrub, Rep]
    exact ⟨vs, rfl, RepL.scrub cs _ hl⟩
  | .tup cs, u, h => by
    obtain ⟨vs, rfl, hl⟩ := by simpa only [Rep] using h
    simp only [Sym.scrub, Rep]
    exact ⟨vs, rfl, RepL.scrub cs _ hl⟩
  | .fn f cs, u, h => by
    obtain ⟨ws, rfl, hl⟩ := by simpa only [Rep] using h
    simp only [Sym.scrub, Rep]
    exact ⟨ws, rfl, RepL.scrub cs _ hl⟩
  | .iface t v, u, h => by
    obtain ⟨x, rfl, hx⟩ := by simpa only [Rep] using h
    simp only [Sym.scrub, Rep]
    exact ⟨x, rfl, Rep.scrub v x hx⟩
  | .undef, _, h => by simp [Sym.scrub, Rep]
  | .int .., _, h => by simpa only [Sym.scrub, Rep] using h
  | .bool _, _, h => by simpa only [Sym.scrub, Rep] using h
  | .str _, _, h => by simpa only [Sym.scrub, Rep] using h
  | .nilp, _, h => by simpa only [Sym.scrub, Rep] using h
  | .nilfn, _, h => by simpa only [Sym.scrub, Rep] using h
  | .niface, _, h => by simpa only [Sym.scrub, Rep] using h
  | .ptr b i o, u, h => by
    simp only [Sym.scrub]
    split
    · rename_i hb
      obtain ⟨r, sz, hr, rfl⟩ := by simpa only [Rep] using h
      simp only [Rep]
      exact ⟨r, sz, by simp [Lay.res, hb, hr], rfl⟩
    · simp [Rep]
  | .iptr cs o, u, h => by
    obtain ⟨g, p, rfl, hc⟩ := by simpa only [Rep] using h
    simp only [Sym.scrub, Rep]
    exact ⟨g, p, rfl, RepC.res hc⟩
  | .win b off len cap, u, h => by
    simp only [Sym.scrub]
    split
    · rename_i hb
      obtain ⟨r, sz, a, cp, hr, rfl, h1⟩ := by simpa only [Rep] using h
      simp only [Rep]
      exact ⟨r, sz, a, cp, by simp [Lay.res, hb, hr], rfl, h1⟩
    · simp [Rep]
  | .yld b, u, h => by
    simp only [Sym.scrub]
    split
    · rename_i hb
      obtain ⟨r, sz, hr, rfl⟩ := by simpa only [Rep] using h
      simp only [Rep]
      exact ⟨r, sz, by simp [Lay.res, hb, hr], rfl⟩
    · simp [Rep]
theorem RepL.scrub {L : Lay} {w : World} {n m : Nat} : ∀ (vs : List AV) (us : List Value), RepL L w vs us → RepL (L.res n m) w (scrubL n m vs) us
  | [], _, h => h
  | v :: r, us, h => by
    obtain ⟨u, q, rfl, hv, hq⟩ := by simpa only [RepL] using h
    simp only [Sym.scrubL, RepL]
    exact ⟨u, q, rfl, Rep.scrub v u hv, RepL.scrub r q hq⟩
end
mutual
theorem scrub_length {n m : Nat} : ∀ (vs : List AV), (scrubL n m vs).length = vs.length
  | [] => rfl
  | v :: r => by simp [scrubL, scrub_length r]
end
theorem scrubL_get {n m : Nat} : ∀ (vs : List AV) (i : Nat), (scrubL n m vs)[i]? = (vs[i]?).map (scrub n m)
  | [], i => by simp [scrubL]
  | v :: r, 0 => by simp [scrubL]
  | v :: r, i + 1 => by simp [scrubL, scrubL_get r i]
theorem cellU_scrub {n m : Nat} (v : AV) (h : cellU v = true) : cellU (scrub n m v) = true := by
  cases v with
  | lst sz r c =>
    cases c with
    | tok t => simp only [scrub]; split <;> rfl
    | _ => rfl
  | ptr b i o => simp only [scrub]; split <;> rfl
  | win b o l c => simp only [scrub]; split <;> rfl
  | yld b => simp only [scrub]; split <;> rfl
  | agg cs => simp [cellU] at h
  | tup cs => simp [cellU] at h
  | _ => rfl
mutual
theorem strip_scrub {n m : Nat} : ∀ (v : AV), pureB (strip v) = true → pureB (strip (scrub n m v)) = true
  | .lst sz r c, h => by
    cases c with
    | tok t => simp only [scrub]; split <;> rfl
    | _ => exact h
  | .agg cs, h => by simp only [scrub, strip, pureB]; exact stripL_scrub cs (by simpa [strip, pureB] using h)
  | .tup cs, h => by simp only [scrub, strip, pureB]; exact stripL_scrub cs (by simpa [strip, pureB] using h)
  | .fn f cs, h => by simp only [scrub, strip, pureB]; exact stripL_scrub cs (by simpa [strip, pureB] using h)
  | .iface t v, h => by simp only [scrub, strip, pureB]; exact strip_scrub v (by simpa [strip, pureB] using h)
  | .ptr .., h => by simp [strip, pureB] at h
  | .win .., h => by simp [strip, pureB] at h
  | .iptr .., h => by simp [strip, pureB] at h
  | .yld _, h => by simp [strip, pureB] at h
  | .undef, h => by simp [strip, pureB] at h
  | .int .., _ => rfl
  | .bool _, _ => rfl
  | .str _, _ => rfl
  | .nilp, _ => rfl
  | .nilfn, _ => rfl
  | .niface, _ => rfl
theorem stripL_scrub {n m : Nat} : ∀ (vs : List AV), pureL (stripL vs) = true → pureL (stripL (scrubL n m vs)) = true
  | [], _ => rfl
  | v :: r, h => by
    simp only [stripL, pureL, Bool.and_eq_true] at h
    simp only [scrubL, stripL, pureL, Bool.and_eq_true]
    exact ⟨strip_scrub v h.1, stripL_scrub r h.2⟩
end
theorem scrubK_sz (n m : Nat) (k : Blk) : (scrubK n m k).sz = k.sz := by
  unfold scrubK
  split <;> rfl
theorem scrubE_get {n m : Nat} : ∀ (env : List (Nat × AV)) (t : Nat), get (scrubE n m env) t = scrub n m (get env t)
  | [], t => by simp [scrubE, get, scrub]
  | (i, v) :: r, t => by
    simp only [scrubE, get]
    split
    · rfl
    · exact scrubE_get r t
/-- A block of the call's own, when blocks and claims are let go. -/
theorem BlkOK.scrub {L : Lay} {w : World} {base n m : Nat} {k : Blk} {r : Nat} (h : BlkOK L w base k r) : BlkOK (L.res n m) w base (scrubK n m k) r := by
  cases hk : k.kind with
  | data =>
    have : scrubK n m k = k := by unfold scrubK; rw [hk]
    rw [this]
    obtain ⟨cs, e, hm, hs, hc⟩ := h.mem (by rw [hk]; rfl)
    refine BlkOK.mk' (by rw [hk]; rfl) h.base ⟨cs, e, hm, hs, fun i row hrow => ⟨(hc i row hrow).1, fun o v hv => ?_⟩⟩ h.typ
    obtain ⟨h1, h2, u, hu, hr⟩ := (hc i row hrow).2 o v hv
    rw [hk] at h1
    exact ⟨by rw [hk]; exact h1, h2, u, hu, Rep.pure keeps_res v u h1 hr⟩
  | rng f nt env ps as bd st =>
    have : scrubK n m k = { k with kind := .rng f nt (scrubE n m env) ps as bd st } := by unfold scrubK; rw [hk]
    rw [this]
    obtain ⟨hrows, rc, hm, hrc⟩ := h.rng _ _ _ _ _ _ _ hk
    refine ⟨h.base, fun hh => by simp [rngB] at hh, fun f' nt' env' ps' as' bd' st' hh => ?_, fun hh => (by simp [deadB] at hh), fun t h => (by cases h)⟩
    cases hh
    exact ⟨hrows, rc, hm, { hrc with env := fun t => by rw [scrubE_get]; exact Rep.scrub _ _ (hrc.env t) }⟩
  | dead =>
    have : scrubK n m k = { k with rows := k.rows.map (scrubL n m) } := by unfold scrubK; rw [hk]
    rw [this]
    obtain ⟨h1, h2⟩ := h.dead (by rw [hk]; rfl)
    exact ⟨h.base, fun hh => by simp [hk, rngB] at hh, fun f nt env ps as bd st hh => (by simp [hk] at hh), fun _ => ⟨by simp [h1], h2⟩, h.typ⟩
  | _ =>
    have : scrubK n m k = { k with rows := k.rows.map (scrubL n m) } := by unfold scrubK; rw [hk]
    rw [this]
    obtain ⟨cs, e, hm, hs, hc⟩ := h.mem (by rw [hk]; rfl)
    refine BlkOK.mk' (by simp only [hk]; rfl) h.base ⟨cs, e, hm, by simpa using hs, fun i row hrow => ?_⟩ h.typ
    simp only [List.getElem?_map, Option.map_eq_some_iff] at hrow
    obtain ⟨row', hrow', rfl⟩ := hrow
    refine ⟨by rw [scrub_length]; exact (hc i row' hrow').1, fun o v hv => ?_⟩
    rw [scrubL_get] at hv
    simp only [Option.map_eq_some_iff] at hv
    obtain ⟨v', hv', rfl⟩ := hv
    obtain ⟨h1, h2, u, hu, hr⟩ := (hc i row' hrow').2 o v' hv'
    refine ⟨?_, cellU_scrub _ h2, u, hu, Rep.scrub v' u hr⟩
    rw [hk] at h1 ⊢
    first | (simp only [fitB] at h1 ⊢; exact strip_scrub v' h1) | rfl
mutual
/-- What leads to none of the blocks that are let go, where no claim is. -/
theorem Rep.res {L : Lay} {w : World} {n m : Nat} (ht : ∀ t k, L.tk t = some k → t < m) : ∀ (v : AV) (u : Value), below n v = true → Rep L w v u → Rep (L.res n m) w v u
  | .lst sz rows c, u, _, h => by
    have := Rep.scrub (n := n) (m := m) _ _ h
    cases c with
    | tok t =>
      obtain ⟨a, l, cap, rfl, hn, hc, hm, hrows, k, hk, _⟩ := by simpa only [Rep] using h
      simpa only [Sym.scrub, if_pos (ht t k hk)] using this
    | _ => exact this
  | .agg cs, u, hb, h => by
    obtain ⟨vs, rfl, hl⟩ := by simpa only [Rep] using h
    simp only [Rep]
    exact ⟨vs, rfl, RepL.res ht cs _ (by simpa [below] using hb) hl⟩
  | .tup cs, u, hb, h => by
    obtain ⟨vs, rfl, hl⟩ := by simpa only [Rep] using h
    simp only [Rep]
    exact ⟨vs, rfl, RepL.res ht cs _ (by simpa [below] using hb) hl⟩
  | .fn f cs, u, hb, h => by
    obtain ⟨ws, rfl, hl⟩ := by simpa only [Rep] using h
    simp only [Rep]
    exact ⟨ws, rfl, RepL.res ht cs _ (by simpa [below] using hb) hl⟩
  | .iface t v, u, hb, h => by
    obtain ⟨x, rfl, hx⟩ := by simpa only [Rep] using h
    simp only [Rep]
    exact ⟨x, rfl, Rep.res ht v x (by simpa [below] using hb) hx⟩
  | .undef, _, _, h => by simp [Rep]
  | .int .., _, _, h => by simpa only [Rep] using h
  | .bool _, _, _, h => by simpa only [Rep] using h
  | .str _, _, _, h => by simpa only [Rep] using h
  | .nilp, _, _, h => by simpa only [Rep] using h
  | .nilfn, _, _, h => by simpa only [Rep] using h
  | .niface, _, _, h => by simpa only [Rep] using h
  | .ptr b i o, u, hb, h => by
    have := Rep.scrub (n := n) (m := m) _ _ h
    simpa only [Sym.scrub, if_pos (show b < n by simpa [below] using hb)] using this
  | .iptr cs o, u, _, h => by
    have := Rep.scrub (n := n) (m := m) _ _ h
    simpa only [Sym.scrub] using this
  | .win b off len cap, u, hb, h => by
    have := Rep.scrub (n := n) (m := m) _ _ h
    simpa only [Sym.scrub, if_pos (show b < n by simpa [below] using hb)] using this
  | .yld b, u, hb, h => by
    have := Rep.scrub (n := n) (m := m) _ _ h
    simpa only [Sym.scrub, if_pos (show b < n by simpa [below] using hb)] using this
theorem RepL.res {L : Lay} {w : World} {n m : Nat} (ht : ∀ t k, L.tk t = some k → t < m) : ∀ (vs : List AV) (us : List Value), belowL n vs = true → RepL L w vs us → RepL (L.res n m) w vs us
  | [], _, _, h => h
  | v :: r, us, hb, h => by
    obtain ⟨u, q, rfl, hv, hq⟩ := by simpa only [RepL] using h
    simp only [belowL, Bool.and_eq_true] at hb
    simp only [RepL]
    exact ⟨u, q, rfl, Rep.res ht v u hb.1 hv, RepL.res ht r q hb.2 hq⟩
end
theorem BlkOK.res {L : Lay} {w : World} {base n m : Nat} {k : Blk} {r : Nat} (ht : ∀ t k, L.tk t = some k → t < m) (hk : OldK n k) (h : BlkOK L w base k r) : BlkOK (L.res n m) w base k r := by
  refine ⟨h.base, fun hh => ?_, fun f nt env ps as bd st hh => ?_, h.dead, h.typ⟩
  · obtain ⟨cs, e, hm, hs, hc⟩ := h.mem hh
    refine ⟨cs, e, hm, hs, fun i row hrow => ⟨(hc i row hrow).1, fun o v hv => ?_⟩⟩
    obtain ⟨h1, h2, u, hu, hr⟩ := (hc i row hrow).2 o v hv
    exact ⟨h1, h2, u, hu, Rep.res ht v u (belowL_iff.1 (hk.1 row (List.mem_of_getElem? hrow)) v (List.mem_of_getElem? hv)) hr⟩
  · obtain ⟨hrows, rc, hm, hrc⟩ := h.rng _ _ _ _ _ _ _ hh
    exact ⟨hrows, rc, hm, { hrc with env := fun t => Rep.res ht _ _ (by have := hk.2 t; rw [hh] at this; exact this) (hrc.env t) }⟩
/-- Memory, when blocks and claims are let go. -/
theorem Inv.res {L : Lay} {H H' : Nat → Option Blk} {K K' : Nat → Option Nat} {w : World} {base n m : Nat} (hi : Inv L H K w base)
    (hH : ∀ b, H' b = none ↔ (b < n → H b = none)) (hK : ∀ t, K' t = if t < m then K t else none)
    (hk : ∀ b k', b < n → H' b = some k' → ∃ k, H b = some k ∧ k'.sz = k.sz ∧ (deadB k'.kind = false → deadB k.kind = false) ∧ ∀ r, BlkOK L w base k r → BlkOK (L.res n m) w base k' r) : Inv (L.res n m) H' K' w base := by
  have hp' : ∀ b x, (L.res n m).hp b = some x → b < n ∧ L.hp b = some x := fun b x h => by
    simp only [Lay.res] at h
    split at h
    · exact ⟨by assumption, h⟩
    · cases h
  have tk' : ∀ t k, (L.res n m).tk t = some k → t < m ∧ L.tk t = some k := fun t k h => by
    simp only [Lay.res] at h
    split at h
    · exact ⟨by assumption, h⟩
    · cases h
  have dm : ∀ b k', H' b = some k' → b < n := fun b k' h => by
    by_cases hb : b < n
    · exact hb
    · have := (hH b).2 fun hb' => absurd hb' hb
      rw [h] at this
      cases this
  refine ⟨fun b k' h => ?_, fun b r sz h => ?_, fun b k' r sz hk' h => ?_, fun b b' r sz sz' h h' => hi.inj b b' r sz sz' (hp' b _ h).2 (hp' b' _ h').2, fun b k' r sz hk' hd h => by
    obtain ⟨k, h1, _, h2, _⟩ := hk b k' (hp' b _ h).1 hk'
    exact hi.apart b k r sz h1 (h2 hd) (hp' b _ h).2, fun t => ?_, fun t k h => ?_, fun t t' k k' g h h' => hi.tkinj t t' k k' g (tk' t k h).2 (tk' t' k' h').2, hi.size, hi.lent, hi.top, hi.glob⟩
  · have hb := dm b k' h
    obtain ⟨k, hkk, hz, _, _⟩ := hk b k' hb h
    obtain ⟨r, hr⟩ := hi.dom b k hkk
    exact ⟨r, by simp [Lay.res, hb, hr, hz]⟩
  · obtain ⟨hb, h⟩ := hp' b _ h
    obtain ⟨k, hkk, hz⟩ := hi.dom' b r sz h
    cases hh : H' b with
    | none =>
      have := (hH b).1 hh hb
      rw [hkk] at this
      cases this
    | some k' =>
      obtain ⟨k2, hk2, hz2, _, _⟩ := hk b k' hb hh
      rw [hkk] at hk2
      cases hk2
      exact ⟨k', rfl, hz2.trans hz⟩
  · obtain ⟨hb, h⟩ := hp' b _ h
    obtain ⟨k, hkk, _, _, hblk⟩ := hk b k' hb hk'
    exact hblk r (hi.blk b k r sz hkk h)
  · rw [hK t, hi.K t]
    simp only [Lay.res]
    split <;> rfl
  · obtain ⟨_, h⟩ := tk' t k h
    rcases hi.tk t k h with h1 | ⟨g, ha, hg, hn, hm, hs, hB, hne⟩
    · exact .inl h1
    · exact .inr ⟨g, ha, hg, hn, hm, hs, hB, fun b r sz hb => hne b r sz (hp' b _ hb).2⟩
end Go.Sym
end

section
/- Windows that nobody writes any more. -/
namespace Go.Sym
open Go.RowKit
theorem szOf_map (n : Nat) (f : List AV → List AV) (l : List (List AV)) : szOf n (l.map f) = szOf n l := by cases l <;> rfl
section
variable {P : Program} {L : Lay} {H : Nat → Option Blk} {K : Nat → Option Nat} {w : World} {base nh : Nat}
theorem purR_get : ∀ {rows : List (List AV)}, purR rows = true → ∀ {i : Nat} {row : List AV}, rows[i]? = some row → ∀ {o : Nat} {v : AV}, row[o]? = some v → pureB (strip v) = true
  | [], _, i, row, h, o, v, _ => by simp at h
  | r :: q, hp, i, row, h, o, v, hv => by
    simp only [purR, Bool.and_eq_true] at hp
    cases i with
    | zero =>
      cases h
      exact pureL_iff.1 hp.1.1 _ (List.mem_of_getElem? (i := o) (by rw [stripL_get, hv]; rfl))
    | succ i => exact purR_get hp.2 (i := i) (by simpa using h) hv
/-- The rows of a window, under a layout in which its cells are not written. -/
theorem rep_window {L' : Lay} {w' : World} {k : Blk} {r : Nat} (hb : BlkOK L w base k r) (hk : Keeps L w L' w') (hcell : ∀ o, o < k.rows.length * k.sz → w'.cell? ⟨r, o, none⟩ = w.cell? ⟨r, o, none⟩) {c : Cap}
    (hq : ∀ o, o < k.rows.length * k.sz → Q L' c r o) {off len : Nat} (hl : off + len ≤ k.rows.length) {rows : List (List AV)} (hr : (k.kind = .data ∨ k.kind = .toky ∨ k.kind = .box ∧ purR ((k.rows.drop off).take len) = true) ∧ rows = ((k.rows.drop off).take len).map normL) :
    RepR L' w' c k.sz r (off * k.sz) rows := by
  have hlt : ∀ i o, i < k.rows.length → o < k.sz → i * k.sz + o < k.rows.length * k.sz := fun i o hi ho => by
    have : (i + 1) * k.sz ≤ k.rows.length * k.sz := Nat.mul_le_mul_right _ hi
    rw [Nat.add_mul, Nat.one_mul] at this
    omega
  have key : ∀ i row, ((k.rows.drop off).take len)[i]? = some row → row.length = k.sz ∧ ∀ (o : Nat) v, row[o]? = some v → fitB k.kind v = true ∧ cellU v = true ∧ Q L' c r (off * k.sz + i * k.sz + o) ∧ ∃ u, w'.cell? ⟨r, off * k.sz + i * k.sz + o, none⟩ = some u ∧ Rep L w v u := by
    intro i row hrow
    rw [List.getElem?_take] at hrow
    split at hrow
    · rename_i hil
      rw [List.getElem?_drop] at hrow
      have hlen := ((hb.mem (hb.plain hrow)).choose_spec.choose_spec.2.2 (off + i) row hrow).1
      refine ⟨hlen, fun o v hv => ?_⟩
      obtain ⟨h1, h2, u, hu, hrep⟩ := hb.cell hrow hv
      have ho : o < k.sz := by rw [← hlen]; exact (List.getElem?_eq_some_iff.1 hv).1
      have e : off * k.sz + i * k.sz + o = (off + i) * k.sz + o := by rw [Nat.add_mul]
      rw [e]
      exact ⟨h1, h2, hq _ (hlt _ _ (by omega) ho), u, by rw [hcell _ (hlt _ _ (by omega) ho)]; exact hu, hrep⟩
    · cases hrow
  refine RepR.of_get fun i row hrow => ?_
  obtain ⟨hd, rfl⟩ := hr
  rw [List.getElem?_map, Option.map_eq_some_iff] at hrow
  obtain ⟨row', hrow', rfl⟩ := hrow
  obtain ⟨h1, h2⟩ := key i row' hrow'
  refine ⟨by rw [normL_length]; exact h1, RepC.of_get fun o v hv => ?_⟩
  rw [normL_get, Option.map_eq_some_iff] at hv
  obtain ⟨v', hv', rfl⟩ := hv
  obtain ⟨g1, g2, g3, u, g4, g5⟩ := h2 o v' hv'
  have hp : pureB (strip v') = true := by
    rcases hd with hd | hd | ⟨_, hd⟩
    · rw [hd] at g1
      have g1' : pureB v' = true := g1
      rw [strip_pure g1']; exact g1'
    · rw [hd] at g1; exact g1
    · exact purR_get hd hrow' hv'
  have hp' := normv_pure v' hp
  exact ⟨g3, hp', by rw [cellB_normv]; exact cellB_of_strip g2 hp, u, g4, Rep.pure hk _ u hp' (Rep.normv v' u hp g5)⟩
/-- The blocks of the call's own are not written any more. -/
def Lay.shut (L : Lay) (nh : Nat) (H : Nat → Option Blk) : Lay :=
  { L with S := fun g o => L.S g o ∨ ∃ b k sz, nh ≤ b ∧ H b = some k ∧ L.hp b = some (g, sz) ∧ o < k.rows.length * k.sz }
theorem seal_new (hi : Inv L H K w base) {g o : Nat} (h : (L.shut nh H).S g o) : L.S g o ∨ (base ≤ g ∧ g < w.heap.size ∧ ∃ b sz, nh ≤ b ∧ L.hp b = some (g, sz)) := by
  rcases h with h | ⟨b, k, sz, hb, hk, hr, _⟩
  · exact .inl h
  · have hbk := hi.blk b k g sz hk hr
    exact .inr ⟨hbk.base, hbk.lt, b, sz, hb, hr⟩
theorem ext_seal (hi : Inv L H K w base) : Ext base L w (L.shut nh H) w where
  S _ _ h := .inl h
  cell _ _ _ := rfl
  B _ h := h
  lent _ _ _ := rfl
  hp _ _ h := h
  tk _ k h := ⟨k, h, .inl rfl⟩
  new g o h := (seal_new hi h).imp id (·.1)
  old := Below.refl _ _
  oth := Oth.refl _
mutual
theorem Rep.sealv (hi : Inv L H K w base) : ∀ (v : AV) (u : Value), Rep L w v u → Rep (L.shut nh H) w (sealv nh H v) u
  | .win b off len cap, u, h => by
    have h0 := Rep.ext (ext_seal (nh := nh) hi) _ _ h
    simp only [Sym.sealv]
    split
    · exact h0
    · rename_i hb
      obtain ⟨r, sz, ad, cp, hr, rfl, h1, h2, _, h3, _⟩ := by simpa only [Rep] using h
      obtain ⟨k, hk, rfl⟩ := hi.dom' b r sz hr
      rw [hk]
      simp only
      split
      · exact h0
      · rename_i hl
        have main : (k.kind = .data ∨ k.kind = .toky ∨ k.kind = .box ∧ purR ((k.rows.drop off).take len) = true) → Rep (L.shut nh H) w (.lst (szOf k.sz ((k.rows.drop off).take len)) (((k.rows.drop off).take len).map normL) .no) (.slice (some ad) len cp) := fun hrs => by
          have hlen : (((k.rows.drop off).take len).map normL).length = len := by simp; omega
          rw [← szOf_map]
          refine Rep.szOf ?_
          simp only [Rep]
          refine ⟨some ad, len, cp, rfl, hlen, h1, h2, ?_, trivial⟩
          rcases h3 with h3 | rfl
          · left
            exact List.length_eq_zero_iff.1 (by omega)
          · exact .inr ⟨r, off * k.sz, rfl, rep_window (hi.blk b k r k.sz hk hr) (ext_seal hi).keeps (fun _ _ => rfl) (fun o ho => .inl (.inr ⟨b, k, k.sz, by omega, hk, hr, ho⟩)) (by omega) ⟨hrs, rfl⟩⟩
        split
        · rename_i hd; exact main (.inl hd)
        · rename_i hd; exact main (.inr (.inl hd))
        · rename_i hd
          split
          · rename_i hpur; exact main (.inr (.inr ⟨hd, hpur⟩))
          · exact h0
        · exact h0
  | .agg cs, u, h => by
    obtain ⟨vs, rfl, hl⟩ := by simpa only [Rep] using h
    simp only [Sym.sealv, Rep]
    exact ⟨vs, rfl, RepL.sealL hi cs _ hl⟩
  | .tup cs, u, h => by
    obtain ⟨vs, rfl, hl⟩ := by simpa only [Rep] using h
    simp only [Sym.sealv, Rep]
    exact ⟨vs, rfl, RepL.sealL hi cs _ hl⟩
  | .fn f cs, u, h => by
    obtain ⟨ws, rfl, hl⟩ := by simpa only [Rep] using h
    simp only [Sym.sealv, Rep]
    exact ⟨ws, rfl, RepL.sealL hi cs _ hl⟩
  | .iface t v, u, h => by
    obtain ⟨x, rfl, hx⟩ := by simpa only [Rep] using h
    simp only [Sym.sealv, Rep]
    exact ⟨x, rfl, Rep.sealv hi v x hx⟩
  | .lst sz rows c, u, h => Rep.ext (ext_seal hi) _ _ h
  | .iptr cs o, u, h => Rep.ext (ext_seal hi) _ _ h
  | .yld b, u, h => Rep.ext (ext_seal hi) _ _ h
  | .ptr b i o, u, h => Rep.ext (ext_seal hi) _ _ h
  | .undef, _, h => h
  | .int .., _, h => h
  | .bool _, _, h => h
  | .str _, _, h => h
  | .nilp, _, h => h
  | .nilfn, _, h => h
  | .niface, _, h => h
theorem RepL.sealL (hi : Inv L H K w base) : ∀ (vs : List AV) (us : List Value), RepL L w vs us → RepL (L.shut nh H) w (sealL nh H vs) us
  | [], _, h => h
  | v :: r, us, h => by
    obtain ⟨u, q, rfl, hv, hq⟩ := by simpa only [RepL] using h
    simp only [Sym.sealL, RepL]
    exact ⟨u, q, rfl, Rep.sealv hi v u hv, RepL.sealL hi r q hq⟩
end
theorem Inv.addS (hi : Inv L H K w base) {S' : Nat → Nat → Prop} (hS : ∀ g o, L.S g o → S' g o)
    (hnew : ∀ g o, S' g o → L.S g o ∨ (base ≤ g ∧ g < w.heap.size ∧ (∀ b sz, L.hp b ≠ some (g, sz)) ∧ ∀ t k, L.tk t = some k → k.cap = k.n ∨ k.a ≠ some ⟨g, 0, none⟩)) : Inv { L with S := S' } H K w base := by
  have hx : Ext base L w { L with S := S' } w := ⟨hS, fun _ _ _ => rfl, fun _ h => h, fun _ _ _ => rfl, fun _ _ h => h, fun _ k h => ⟨k, h, .inl rfl⟩, fun g o h => (hnew g o h).imp id (·.1), Below.refl _ _, Oth.refl _⟩
  refine ⟨hi.dom, hi.dom', fun b k r sz hk hr => (hi.blk b k r sz hk hr).ext hx rfl, hi.inj, fun b k r sz hk hd hr => ⟨fun o ho => ?_, (hi.apart b k r sz hk hd hr).2⟩, hi.K, fun t k hk => ?_, hi.tkinj, fun g o h => ?_, hi.lent, hi.top, hi.glob⟩
  · rcases hnew r o ho with h | h
    · exact (hi.apart b k r sz hk hd hr).1 o h
    · exact h.2.2.1 b sz hr
  · rcases hi.tk t k hk with h | ⟨g, ha, hg, hn, hm, hs, hB, hne⟩
    · exact .inl h
    · by_cases hc : k.cap = k.n
      · exact .inl ⟨hc, .inr ⟨g, ha, hg⟩⟩
      · refine .inr ⟨g, ha, hg, hn, hm, fun o ho => ?_, hB, hne⟩
        rcases hnew g o ho with h | h
        · exact hs o h
        · exact ((h.2.2.2 t k hk).resolve_left hc ha).elim
  · rcases hnew g o h with h | h
    · exact hi.size g o h
    · exact h.2.1
end
end Go.Sym
end

section
/- Ranges over functions: the records in memory. -/
namespace Go.Sym
open Go.RowKit
section
variable {L : Lay} {H : Nat → Option Blk} {K : Nat → Option Nat} {w : World} {base : Nat}
theorem putObj_other {w : World} {l g : Nat} {o : Obj} (h : g ≠ l) : (w.putObj l o).heap[g]? = w.heap[g]? := World.putObj_heap_other h
theorem putObj_same {w : World} {l : Nat} {o r : Obj} (h : w.heap[l]? = some r) : (w.putObj l o).heap[l]? = some o := World.putObj_heap_same (Array.getElem?_eq_some_iff.1 h).1
theorem putObj_size (w : World) (l : Nat) (o : Obj) : (w.putObj l o).heap.size = w.heap.size := by simp [World.putObj]
theorem oth_put {w : World} {l : Nat} {r r' : Loop} (h : w.heap[l]? = some (.loop r)) (hd : r'.defers = r.defers) : Oth w (w.putObj l (.loop r')) := by
  refine ⟨fun g hg => ?_, fun g q hq => ?_, fun g o hc => ?_⟩
  · have : g ≠ l := by rintro rfl; rw [h] at hg; cases hg
    rw [putObj_other this]; exact hg
  · by_cases e : g = l
    · subst e
      rw [h] at hq
      cases hq
      exact ⟨r', putObj_same h, hd⟩
    · exact ⟨q, by rw [putObj_other e]; exact hq, rfl⟩
  · by_cases e : g = l
    · subst e
      simp [World.cell?, h] at hc
    · rw [cell_of_heap (putObj_other e)]; exact hc
theorem cell_put {w : World} {l : Nat} {r r' : Loop} (h : w.heap[l]? = some (.loop r)) (g o : Nat) : (w.putObj l (.loop r')).cell? ⟨g, o, none⟩ = w.cell? ⟨g, o, none⟩ := by
  by_cases e : g = l
  · subst e
    simp [World.cell?, h, putObj_same h]
  · exact cell_of_heap (putObj_other e)
theorem below_put {w : World} {l : Nat} {o : Obj} {base : Nat} (h : base ≤ l) : Below base w (w.putObj l o) :=
  ⟨rfl, rfl, rfl, by rw [putObj_size]; exact Nat.le_refl _, fun k hk => putObj_other (by omega)⟩
theorem ext_put {l : Nat} {r r' : Loop} (hb : base ≤ l) (h : w.heap[l]? = some (.loop r)) (hd : r'.defers = r.defers) : Ext base L w L (w.putObj l (.loop r')) :=
  ⟨fun _ _ h => h, fun g o _ => cell_put h g o, fun _ h => h, fun g o _ => cell_put h g o, fun _ _ h => h, fun _ k h => ⟨k, h, .inl rfl⟩, fun _ _ h => .inl h, below_put hb, oth_put h hd⟩
/-- A record that is no block of ours is turned. -/
theorem Inv.put (hi : Inv L H K w base) {l : Nat} {r r' : Loop} (hb : base ≤ l) (h : w.heap[l]? = some (.loop r)) (hd : r'.defers = r.defers) (hne : ∀ b sz, L.hp b ≠ some (l, sz)) : Inv L H K (w.putObj l (.loop r')) base := by
  have hx := ext_put (L := L) hb h hd
  refine ⟨hi.dom, hi.dom', fun b k q sz hk hq => (hi.blk b k q sz hk hq).ext hx (putObj_other ?_), hi.inj, hi.apart, hi.K, fun t k ht => ?_, hi.tkinj, fun g o hs => by rw [putObj_size]; exact hi.size g o hs, hi.lent, by rw [putObj_size]; exact hi.top, hi.glob.below (below_put hb)⟩
  · rintro rfl
    exact hne b sz hq
  · rcases hi.tk t k ht with h1 | ⟨g, ha, hg, hn, ⟨cs, e, hm, hcs⟩, hs, hB, hne'⟩
    · exact .inl h1
    · refine .inr ⟨g, ha, hg, hn, ⟨cs, e, ?_, hcs⟩, hs, hB, hne'⟩
      rw [putObj_other]
      · exact hm
      · rintro rfl
        rw [h] at hm
        cases hm
/-- A record of ours is turned to another state. -/
theorem Inv.st (hi : Inv L H K w base) {b l sz : Nat} {k : Blk} {f nt env ps as bd st} (hk : H b = some k) (hl : L.hp b = some (l, sz)) (hkk : k.kind = .rng f nt env ps as bd st) {st' : LoopSt} :
    ∃ rc, w.heap[l]? = some (.loop rc) ∧ RecOK L w rc nt env ps as bd st ∧ base ≤ l ∧ ∀ rc' : Loop, rc'.params = rc.params → rc'.assign = rc.assign → rc'.body = rc.body → rc'.tmps = rc.tmps → rc'.defers = rc.defers → StOK st' rc' →
      Ext base L w L (w.putObj l (.loop rc')) ∧ Inv L (setF H b { k with kind := .rng f nt env ps as bd st' }) K (w.putObj l (.loop rc')) base := by
  have hblk := hi.blk b k l sz hk hl
  obtain ⟨hrows, rc, hm, hrc⟩ := hblk.rng _ _ _ _ _ _ _ hkk
  refine ⟨rc, hm, hrc, hblk.base, fun rc' e1 e2 e3 e4 e5 hst => ?_⟩
  have hx := ext_put (L := L) hblk.base hm e5
  refine ⟨hx, ⟨fun b' k' h => ?_, fun b' r sz' h => ?_, fun b' k' r sz' hk' hr => ?_, hi.inj, fun b' k' r sz' hk' hd hr => ?_, hi.K, fun t q ht => ?_, hi.tkinj, fun g o hs => by rw [putObj_size]; exact hi.size g o hs, hi.lent, by rw [putObj_size]; exact hi.top, hi.glob.below (below_put hblk.base)⟩⟩
  · by_cases hbb : b' = b
    · subst hbb
      rw [setF_same] at h
      cases h
      exact hi.dom b' k hk
    · rw [setF_ne _ _ _ hbb] at h
      exact hi.dom b' k' h
  · obtain ⟨k0, h0, e0⟩ := hi.dom' b' r sz' h
    by_cases hbb : b' = b
    · subst hbb
      rw [hk] at h0
      cases h0
      exact ⟨_, setF_same _ _ _, e0⟩
    · exact ⟨k0, (setF_ne _ _ _ hbb).trans h0, e0⟩
  · by_cases hbb : b' = b
    · subst hbb
      rw [setF_same] at hk'
      cases hk'
      rw [hl] at hr
      cases hr
      refine ⟨hblk.base, fun hh => by simp [rngB] at hh, fun f' nt' env' ps' as' bd' st2 hh => ?_, fun hh => (by simp [deadB] at hh), fun t h => (by cases h)⟩
      cases hh
      exact ⟨hrows, rc', putObj_same hm, ⟨by rw [e1]; exact hrc.ps, by rw [e2]; exact hrc.as, by rw [e3]; exact hrc.bd, hst, by rw [e4]; exact hrc.nt, fun t => by rw [e4]; exact Rep.ext hx _ _ (hrc.env t)⟩⟩
    · rw [setF_ne _ _ _ hbb] at hk'
      refine (hi.blk b' k' r sz' hk' hr).ext hx (putObj_other ?_)
      rintro rfl
      exact hbb (hi.inj b' b r sz' sz hr hl)
  · by_cases hbb : b' = b
    · subst hbb
      exact hi.apart b' k r sz' hk (by rw [hkk]; rfl) hr
    · rw [setF_ne _ _ _ hbb] at hk'
      exact hi.apart b' k' r sz' hk' hd hr
  · rcases hi.tk t q ht with h1 | ⟨g, ha, hg, hn, ⟨cs, e, hm', hcs⟩, hs, hB, hne'⟩
    · exact .inl h1
    · refine .inr ⟨g, ha, hg, hn, ⟨cs, e, ?_, hcs⟩, hs, hB, hne'⟩
      rw [putObj_other]
      · exact hm'
      · rintro rfl
        rw [hm] at hm'
        cases hm'
section
variable {w' : World} (hc : ∀ g o : Nat, w'.cell? ⟨g, o, none⟩ = w.cell? ⟨g, o, none⟩)
include hc
mutual
/-- What values say hangs on the cells alone. -/
theorem Rep.same : ∀ (v : AV) (u : Value), Rep L w v u → Rep L w' v u
  | .undef, _, _ => by simp [Rep]
  | .int .., _, hr => by simpa [Rep] using hr
  | .bool _, _, hr => by simpa [Rep] using hr
  | .str _, _, hr => by simpa [Rep] using hr
  | .nilp, _, hr => by simpa [Rep] using hr
  | .nilfn, _, hr => by simpa [Rep] using hr
  | .niface, _, hr => by simpa [Rep] using hr
  | .ptr b i o, u, hr => by simpa only [Rep] using hr
  | .yld b, u, hr => by simpa only [Rep] using hr
  | .win b off len cap, u, hr => by simpa only [Rep, RoomOK, hc] using hr
  | .iptr cs o, u, hr => by
    obtain ⟨g, p, rfl, h⟩ := by simpa only [Rep] using hr
    simp only [Rep]
    exact ⟨g, p, rfl, RepC.same _ _ _ cs h⟩
  | .agg cs, u, hr => by
    obtain ⟨vs, rfl, hl⟩ := by simpa only [Rep] using hr
    simp only [Rep]
    exact ⟨vs, rfl, RepL.same cs _ hl⟩
  | .tup cs, u, hr => by
    obtain ⟨vs, rfl, hl⟩ := by simpa only [Rep] using hr
    simp only [Rep]
    exact ⟨vs, rfl, RepL.same cs _ hl⟩
  | .fn f cs, u, hr => by
    obtain ⟨ws, rfl, hl⟩ := by simpa only [Rep] using hr
    simp only [Rep]
    exact ⟨ws, rfl, RepL.same cs _ hl⟩
  | .iface t v, u, hr => by
    obtain ⟨x, rfl, hx⟩ := by simpa only [Rep] using hr
    simp only [Rep]
    exact ⟨x, rfl, Rep.same v x hx⟩
  | .lst sz rows c, u, hr => by
    obtain ⟨a, n, cap, rfl, hn, h1, h2, hrows, hcap⟩ := by simpa only [Rep] using hr
    simp only [Rep]
    refine ⟨a, n, cap, rfl, hn, h1, h2, ?_, hcap⟩
    rcases hrows with hrows | ⟨g, p, ha, hrows⟩
    · exact .inl hrows
    · exact .inr ⟨g, p, ha, RepR.same _ _ _ _ rows hrows⟩
theorem RepL.same : ∀ (vs : List AV) (us : List Value), RepL L w vs us → RepL L w' vs us
  | [], _, hr => by simpa [RepL] using hr
  | v :: r, us, hr => by
    obtain ⟨u, q, rfl, hv, hq⟩ := by simpa only [RepL] using hr
    simp only [RepL]
    exact ⟨u, q, rfl, Rep.same v u hv, RepL.same r q hq⟩
theorem RepC.same (c : Cap) (g : Nat) : ∀ (p : Nat) (vs : List AV), RepC L w c g p vs → RepC L w' c g p vs
  | _, [], _ => by simp [RepC]
  | p, v :: r, hr => by
    obtain ⟨hq, hp, h1, ⟨u, hu, hv⟩, hrest⟩ := by simpa only [RepC] using hr
    simp only [RepC]
    exact ⟨hq, hp, h1, ⟨u, (hc g p).trans hu, Rep.same v u hv⟩, RepC.same c g (p + 1) r hrest⟩
theorem RepR.same (c : Cap) (sz g : Nat) : ∀ (p : Nat) (rows : List (List AV)), RepR L w c sz g p rows → RepR L w' c sz g p rows
  | _, [], _ => by simp [RepR]
  | p, row :: r, hr => by
    obtain ⟨hl, h1, hrest⟩ := by simpa only [RepR] using hr
    simp only [RepR]
    exact ⟨hl, RepC.same c g p row h1, RepR.same c sz g (p + sz) r hrest⟩
end
end
/-- A block for deferred calls is shut. -/
theorem cell_shut {w : World} {D : Nat} (h : w.heap[D]? = some (.deferred (some []))) (g o : Nat) : (w.putObj D (.deferred none)).cell? ⟨g, o, none⟩ = w.cell? ⟨g, o, none⟩ := by
  by_cases e : g = D
  · subst e
    simp [World.cell?, h, putObj_same h]
  · exact cell_of_heap (putObj_other e)
theorem Ext.shut {L0 : Lay} {w0 : World} (hx : Ext base L0 w0 L w) {D : Nat} (hb : base ≤ w0.heap.size) (hD : w0.heap.size ≤ D) (h : w.heap[D]? = some (.deferred (some []))) : Ext base L0 w0 L (w.putObj D (.deferred none)) :=
  ⟨hx.S, fun g o hs => (cell_shut h g o).trans (hx.cell g o hs), hx.B, fun g o hs => (cell_shut h g o).trans (hx.lent g o hs), hx.hp, hx.tk, hx.new, hx.old.trans (below_put (by omega)), by
    refine ⟨fun g hg => ?_, fun g r hr => ?_, fun g o hc => by rw [cell_shut h]; exact hx.oth.cel g o hc⟩
    · have hlt := (Array.getElem?_eq_some_iff.1 hg).1
      rw [putObj_other (by omega)]
      exact hx.oth.dfr g hg
    · have hlt := (Array.getElem?_eq_some_iff.1 hr).1
      rw [putObj_other (by omega)]
      exact hx.oth.lop g r hr⟩
theorem Inv.shut (hi : Inv L H K w base) {D : Nat} (h : w.heap[D]? = some (.deferred (some []))) : Inv L H K (w.putObj D (.deferred none)) base := by
  have ne : ∀ (g : Nat) o, w.heap[g]? = some o → (∀ ds, o ≠ .deferred ds) → g ≠ D := fun g o hg ho e => by
    subst e
    rw [h] at hg
    cases hg
    exact ho _ rfl
  refine ⟨hi.dom, hi.dom', fun b k q sz hk hq => ?_, hi.inj, hi.apart, hi.K, fun t k ht => ?_, hi.tkinj, fun g o hs => by rw [putObj_size]; exact hi.size g o hs, hi.lent, by rw [putObj_size]; exact hi.top, ⟨hi.glob.1, by obtain ⟨m, hm⟩ := hi.glob.2; exact ⟨m, (cell_shut h _ _).trans hm⟩⟩⟩
  · have hblk := hi.blk b k q sz hk hq
    refine ⟨hblk.base, fun hh => ?_, fun f nt env ps as bd st hh => ?_, fun hh => ⟨(hblk.dead hh).1, by rw [putObj_size]; exact (hblk.dead hh).2⟩, fun t ht => (by
      obtain ⟨cs, hm⟩ := hblk.typ t ht
      exact ⟨cs, by rw [putObj_other (ne q _ hm (by simp))]; exact hm⟩)⟩
    · obtain ⟨cs, e, hm, hs, hcs⟩ := hblk.mem hh
      refine ⟨cs, e, by rw [putObj_other (ne q _ hm (by simp))]; exact hm, hs, fun i row hrow => ⟨(hcs i row hrow).1, fun o v hv => ?_⟩⟩
      obtain ⟨p1, p2, u, hu, hr⟩ := (hcs i row hrow).2 o v hv
      exact ⟨p1, p2, u, hu, Rep.same (cell_shut h) v u hr⟩
    · obtain ⟨hrows, rc, hm, hrc⟩ := hblk.rng _ _ _ _ _ _ _ hh
      exact ⟨hrows, rc, by rw [putObj_other (ne q _ hm (by simp))]; exact hm, { hrc with env := fun t => Rep.same (cell_shut h) _ _ (hrc.env t) }⟩
  · rcases hi.tk t k ht with h1 | ⟨g, ha, hg, hn, ⟨cs, e, hm, hcs⟩, hs, hB, hne'⟩
    · exact .inl h1
    · exact .inr ⟨g, ha, hg, hn, ⟨cs, e, by rw [putObj_other (ne g _ hm (by simp))]; exact hm, hcs⟩, hs, hB, hne'⟩
theorem putSt_eq {Hl Hl' : List Blk} {b : Nat} {st' : LoopSt} (h : putSt Hl b st' = some Hl') : ∃ k f nt env ps as bd st, Hl[b]? = some k ∧ k.kind = .rng f nt env ps as bd st ∧ Hl' = Hl.set b { k with kind := .rng f nt env ps as bd st' } := by
  obtain ⟨k, hk, h⟩ := ob_eq h
  split at h
  · rename_i f nt env ps as bd st hkk
    cases h
    exact ⟨k, f, nt, env, ps, as, bd, st, hk, hkk, rfl⟩
  · cases h
theorem putSt_length {Hl Hl' : List Blk} {b : Nat} {st' : LoopSt} (h : putSt Hl b st' = some Hl') : Hl'.length = Hl.length := by
  obtain ⟨k, f, nt, env, ps, as, bd, st, _, _, rfl⟩ := putSt_eq h
  simp
theorem old_putSt {Hl Hl' : List Blk} {b : Nat} {st' : LoopSt} (hp : putSt Hl b st' = some Hl') {n : Nat} (h : OldB n (lH Hl)) : OldB n (lH Hl') := by
  obtain ⟨k, f, nt, env, ps, as, bd, st, hk, hkk, rfl⟩ := putSt_eq hp
  intro b' k' hb' hk'
  simp only [lH] at hk'
  rw [List.getElem?_set] at hk'
  split at hk'
  · rename_i e
    subst e
    split at hk'
    · cases hk'
      obtain ⟨h1, h2⟩ := h b k hb' hk
      exact ⟨h1, by rw [hkk] at h2; exact h2⟩
    · cases hk'
  · exact h b' k' hb' hk'
theorem readyB_eq {o : Option Blk} (h : readyB o = true) : ∃ k f nt env ps as bd, o = some k ∧ k.kind = .rng f nt env ps as bd .ready := by
  cases o with
  | none => simp [readyB] at h
  | some k =>
    simp only [readyB] at h
    split at h
    · rename_i f nt env ps as bd st hkk
      split at h
      · exact ⟨k, f, nt, env, ps, as, bd, rfl, hkk⟩
      · cases h
    · cases h
/-- A record of ours is turned: memory and the abstract memory. -/
theorem Inv.putSt {Hl Hl' : List Blk} {b : Nat} {st' : LoopSt} (hi : Inv L (lH Hl) K w base) (hp : putSt Hl b st' = some Hl') {l sz : Nat} (hl : L.hp b = some (l, sz)) :
    ∃ rc, w.heap[l]? = some (.loop rc) ∧ (readyB Hl[b]? = true → rc.state = .ready) ∧ base ≤ l ∧ ∀ rc' : Loop, rc'.params = rc.params → rc'.assign = rc.assign → rc'.body = rc.body → rc'.tmps = rc.tmps → rc'.defers = rc.defers → StOK st' rc' →
      Ext base L w L (w.putObj l (.loop rc')) ∧ Inv L (lH Hl') K (w.putObj l (.loop rc')) base := by
  obtain ⟨k, f, nt, env, ps, as, bd, st, hk, hkk, rfl⟩ := putSt_eq hp
  obtain ⟨rc, hm, hrc, hb, h⟩ := hi.st (b := b) (k := k) (st' := st') hk hl hkk
  refine ⟨rc, hm, fun hr => ?_, hb, fun rc' e1 e2 e3 e4 e5 e6 => ?_⟩
  · obtain ⟨k', _, _, _, _, _, _, hk', hkk'⟩ := readyB_eq hr
    rw [hk] at hk'
    cases hk'
    rw [hkk] at hkk'
    cases hkk'
    exact hrc.st.1
  · rw [lH_set Hl _ (List.getElem?_eq_some_iff.1 hk).1]
    exact h rc' e1 e2 e3 e4 e5 e6
/-- What memory holds leads to the blocks that are there. -/
theorem old_of_inv {Hl : List Blk} (hi : Inv L (lH Hl) K w base) : OldB Hl.length (lH Hl) := by
  have hd : ∀ b x, L.hp b = some x → b < Hl.length := fun b x hx => by
    obtain ⟨k, hk, _⟩ := hi.dom' b x.1 x.2 hx
    exact lt_of_lH (by rw [hk]; simp)
  intro b k hb hk
  obtain ⟨r, hr⟩ := hi.dom b k hk
  have hblk := hi.blk b k r k.sz hk hr
  refine ⟨fun row hrow => ?_, fun t => ?_⟩
  · rw [belowL_iff]
    intro v hv
    obtain ⟨i, hi'⟩ := List.mem_iff_getElem?.1 hrow
    obtain ⟨j, hj⟩ := List.mem_iff_getElem?.1 hv
    obtain ⟨_, _, u, _, hrep⟩ := hblk.cell hi' hj
    exact Rep.below hd v u hrep
  · cases hkd : k.kind with
    | rng f nt env ps as bd st =>
      obtain ⟨_, rc, _, hrc⟩ := hblk.rng _ _ _ _ _ _ _ hkd
      exact Rep.below hd _ _ (hrc.env t)
    | _ => rfl
end
end Go.Sym
end

section
/- Code: what the abstract machine says of it holds. -/
namespace Go.Sym
open Go.RowKit
theorem OldK.mono {n m : Nat} (h : n ≤ m) {k : Blk} (hk : OldK n k) : OldK m k := ⟨fun row hr => belowL_mono h row (hk.1 row hr), fun t => below_mono h _ (hk.2 t)⟩
structure Good (L0 : Lay) (s : St) : Prop where
  nh : s.nh ≤ s.heap.length
  old : OldB s.nh s.H
  hp : ∀ b x, L0.hp b = some x → b < s.nh
  tk : ∀ t k, L0.tk t = some k → t < s.toks.length
theorem Good.pres {L0 : Lay} {s s' : St} (h : Good L0 s) (hp : Pres s s') : Good L0 s' :=
  ⟨by rw [hp.nh]; exact Nat.le_trans h.nh hp.heap, by rw [hp.nh]; exact hp.old _ (Nat.le_refl _) h.nh h.old, by rw [hp.nh]; exact h.hp, fun t k ht => Nat.lt_of_lt_of_le (h.tk t k ht) hp.toks⟩
section
variable {L0 : Lay} {w0 : World} {base nt : Nat} {dl : Option (List Deferred)} {a : Act} {w : World}
theorem get_keep {L : Lay} {H : Nat → Option Blk} {K : Nat → Option Nat} {n m : Nat} (hi : Inv L H K w base) {env : List (Nat × AV)} (he : ∀ t, Rep L w (get env t) (a.tmps.getD t undef)) : ∀ (l : List Nat) (t : Nat), Rep ((L.shut n H).res n m) w (get (keepEnv n m H env l) t) (a.tmps.getD t undef)
  | [], t => by simp [keepEnv, get, Rep]
  | x :: r, t => by
    simp only [keepEnv, get]
    split
    · rename_i hx
      subst hx
      exact Rep.scrub _ _ (Rep.sealv hi _ _ (he x))
    · exact get_keep hi he r t
theorem Ext.res {L : Lay} {n m : Nat} (h : Ext base L0 w0 L w) (hp : ∀ b x, L0.hp b = some x → b < n) (tk : ∀ t k, L0.tk t = some k → t < m) : Ext base L0 w0 (L.res n m) w where
  S := h.S
  cell := h.cell
  B := h.B
  lent := h.lent
  hp b x hb := by simp only [Lay.res, if_pos (hp b x hb)]; exact h.hp b x hb
  tk t k ht := by simp only [Lay.res, if_pos (tk t k ht)]; exact h.tk t k ht
  new := h.new
  old := h.old
  oth := h.oth
theorem K_gc (keep : List Nat) (n m : Nat) (s : St) (t : Nat) : (s.gc keep n m).K t = if t < (if s.nh = 0 then m else s.toks.length) then s.K t else none := by
  unfold St.gc
  split
  · rename_i h0
    simp only [St.K, if_pos h0, List.getElem?_take]
  · rename_i h0
    simp only [St.K, if_neg h0]
    split
    · rfl
    · exact List.getElem?_eq_none (by omega)
theorem sealE_get {n : Nat} {H : Nat → Option Blk} : ∀ (env : List (Nat × AV)) (t : Nat), get (sealE n H env) t = sealv n H (get env t)
  | [], t => by simp [sealE, get, sealv]
  | (i, v) :: r, t => by
    simp only [sealE, get]
    split
    · rfl
    · exact sealE_get r t
theorem sealL_length {n : Nat} {H : Nat → Option Blk} : ∀ (vs : List AV), (sealL n H vs).length = vs.length
  | [] => rfl
  | v :: r => by simp [sealL, sealL_length r]
theorem sealL_get {n : Nat} {H : Nat → Option Blk} : ∀ (vs : List AV) (i : Nat), (sealL n H vs)[i]? = (vs[i]?).map (sealv n H)
  | [], i => by simp [sealL]
  | v :: r, 0 => by simp [sealL]
  | v :: r, i + 1 => by simp [sealL, sealL_get r i]
theorem cellU_sealv {n : Nat} {H : Nat → Option Blk} (v : AV) (h : cellU v = true) : cellU (sealv n H v) = true := by
  cases v with
  | win b o l c =>
    simp only [sealv]
    split
    · rfl
    · split
      · split
        · rfl
        · split <;> first | rfl | (split <;> rfl)
      · rfl
  | agg cs => simp [cellU] at h
  | tup cs => simp [cellU] at h
  | _ => rfl
theorem sealK_sz (n : Nat) (H : Nat → Option Blk) (k : Blk) : (sealK n H k).sz = k.sz := by unfold sealK; split <;> rfl
theorem sealK_dead (n : Nat) (H : Nat → Option Blk) (k : Blk) : deadB (sealK n H k).kind = deadB k.kind := by
  unfold sealK
  cases hk : k.kind <;> simp [hk, deadB]
theorem scrubK_dead (n m : Nat) (k : Blk) : deadB (scrubK n m k).kind = deadB k.kind := by
  unfold scrubK
  cases hk : k.kind <;> simp [hk, deadB]
theorem BlkOK.sealK {L : Lay} {H : Nat → Option Blk} {K : Nat → Option Nat} {n : Nat} (hi : Inv L H K w base) {k : Blk} {r : Nat} (h : BlkOK L w base k r) : BlkOK (L.shut n H) w base (sealK n H k) r := by
  cases hk : k.kind with
  | box =>
    have : Sym.sealK n H k = { k with rows := k.rows.map (sealL n H) } := by unfold Sym.sealK; rw [hk]
    rw [this]
    obtain ⟨cs, e, hm, hs, hc⟩ := h.mem (by rw [hk]; rfl)
    refine BlkOK.mk' (by simp only [hk]; rfl) h.base ⟨cs, e, hm, by simpa using hs, fun i row hrow => ?_⟩ h.typ
    simp only [List.getElem?_map, Option.map_eq_some_iff] at hrow
    obtain ⟨row', hrow', rfl⟩ := hrow
    refine ⟨by rw [sealL_length]; exact (hc i row' hrow').1, fun o v hv => ?_⟩
    rw [sealL_get] at hv
    simp only [Option.map_eq_some_iff] at hv
    obtain ⟨v', hv', rfl⟩ := hv
    obtain ⟨h1, h2, u, hu, hr⟩ := (hc i row' hrow').2 o v' hv'
    exact ⟨by simp only [hk]; rfl, cellU_sealv _ h2, u, hu, Rep.sealv hi v' u hr⟩
  | rng f nt env ps as bd st =>
    have : Sym.sealK n H k = { k with kind := .rng f nt (sealE n H env) ps as bd st } := by unfold Sym.sealK; rw [hk]
    rw [this]
    obtain ⟨hrows, rc, hm, hrc⟩ := h.rng _ _ _ _ _ _ _ hk
    refine ⟨h.base, fun hh => by simp [rngB] at hh, fun f' nt' env' ps' as' bd' st' hh => ?_, fun hh => (by simp [deadB] at hh), fun t h => (by cases h)⟩
    cases hh
    exact ⟨hrows, rc, hm, { hrc with env := fun t => by rw [sealE_get]; exact Rep.sealv hi _ _ (hrc.env t) }⟩
  | _ =>
    have : Sym.sealK n H k = k := by unfold Sym.sealK; rw [hk]
    rw [this]
    exact h.rep fun v u hr => Rep.ext (ext_seal hi) v u hr
/-- The same memory, described otherwise. -/
theorem Inv.reblk {L : Lay} {H H' : Nat → Option Blk} {K : Nat → Option Nat} (hi : Inv L H K w base) (h0 : ∀ b, H b ≠ none → H' b ≠ none)
    (h : ∀ b k', H' b = some k' → ∃ k, H b = some k ∧ k'.sz = k.sz ∧ (deadB k'.kind = false → deadB k.kind = false) ∧ ∀ r, L.hp b = some (r, k.sz) → BlkOK L w base k' r) : Inv L H' K w base := by
  refine ⟨fun b k' hk' => ?_, fun b r sz hr => ?_, fun b k' r sz hk' hr => ?_, hi.inj, fun b k' r sz hk' hd hr => ?_, hi.K, hi.tk, hi.tkinj, hi.size, hi.lent, hi.top, hi.glob⟩
  · obtain ⟨k, hk, e, _, _⟩ := h b k' hk'
    obtain ⟨r, hr⟩ := hi.dom b k hk
    exact ⟨r, by rw [e]; exact hr⟩
  · obtain ⟨k, hk, e⟩ := hi.dom' b r sz hr
    cases hk' : H' b with
    | none => exact absurd hk' (h0 b (by rw [hk]; simp))
    | some k' =>
      obtain ⟨k2, hk2, e2, _, _⟩ := h b k' hk'
      rw [hk] at hk2
      cases hk2
      exact ⟨k', rfl, e2.trans e⟩
  · obtain ⟨k, hk, e, _, hb⟩ := h b k' hk'
    obtain ⟨k2, hk2, e2⟩ := hi.dom' b r sz hr
    rw [hk] at hk2
    cases hk2
    exact hb r (by rw [e2]; exact hr)
  · obtain ⟨k, hk, e, hdd, _⟩ := h b k' hk'
    exact hi.apart b k r sz hk (hdd hd) hr
theorem here_gc {s : St} (hg : Good L0 s) {keep : List Nat} {n m : Nat} (hn : s.nh ≤ n) (hm : ∀ t k, L0.tk t = some k → t < m) (h : Here L0 w0 base nt dl s a w) : Here L0 w0 base nt dl (s.gc keep n m) a w := by
  obtain ⟨L, hat⟩ := h
  have hlt : ∀ t k, L.tk t = some k → t < s.toks.length := fun t k hk => by
    have h1 := hat.inv.K t
    rw [hk] at h1
    exact lt_of_lK (K := s.toks) (by rw [← St.K_eq]; rw [h1]; simp)
  have hi := hat.inv
  refine ⟨(L.shut n s.H).res n (if s.nh = 0 then m else s.toks.length), (hat.ext.trans (ext_seal hi)).res (fun b x hb => Nat.lt_of_lt_of_le (hg.hp b x hb) hn) (fun t k ht => ?_), ?_, ?_, hat.size, hat.defers⟩
  · split
    · exact hm t k ht
    · exact hg.tk t k ht
  · -- without the sealed windows
    have hi1 : Inv (L.res n (if s.nh = 0 then m else s.toks.length)) (fun b => if b < n then (if b < s.nh then s.H b else (s.H b).map (scrubK n (if s.nh = 0 then m else s.toks.length))) else none) (s.gc keep n m).K w base := by
      refine hi.res (fun b => ?_) (fun t => K_gc keep n m s t) fun b k' hb hk' => ?_
      · by_cases hb : b < n
        · rw [if_pos hb]
          split
          · exact ⟨fun h _ => h, fun h => h hb⟩
          · rw [Option.map_eq_none_iff]
            exact ⟨fun h _ => h, fun h => h hb⟩
        · rw [if_neg hb]
          exact ⟨fun _ h => absurd h hb, fun _ => rfl⟩
      · rw [if_pos hb] at hk'
        split at hk'
        · rename_i hbn
          refine ⟨k', hk', rfl, id, fun r hr => BlkOK.res (fun t k hk => ?_) (OldK.mono hn (hg.old b k' hbn hk')) hr⟩
          rw [if_neg (by omega)]
          exact hlt t k hk
        · obtain ⟨k, hk, rfl⟩ := Option.map_eq_some_iff.1 hk'
          exact ⟨k, hk, scrubK_sz _ _ _, fun h => by rwa [scrubK_dead] at h, fun r hr => hr.scrub⟩
    -- their cells
    have hi2 : Inv ((L.shut n s.H).res n (if s.nh = 0 then m else s.toks.length)) (fun b => if b < n then (if b < s.nh then s.H b else (s.H b).map (scrubK n (if s.nh = 0 then m else s.toks.length))) else none) (s.gc keep n m).K w base := by
      refine hi1.addS (S' := (L.shut n s.H).S) (fun g o h => .inl h) fun g o h => ?_
      rcases seal_new hi h with h | ⟨h1, h2, b, sz, hb, hr⟩
      · exact .inl h
      · refine .inr ⟨h1, h2, fun b' sz' h => ?_, fun t k hk => ?_⟩
        · simp only [Lay.res] at h
          split at h
          · have := hi.inj b b' g sz sz' hr h
            omega
          · cases h
        · simp only [Lay.res] at hk
          have hk' : L.tk t = some k := by
            by_cases ht : t < (if s.nh = 0 then m else s.toks.length)
            · rw [if_pos ht] at hk; exact hk
            · rw [if_neg ht] at hk; cases hk
          rcases hi.tk t k hk' with h | ⟨g', ha, _, _, _, _, _, hne⟩
          · exact .inl h.1
          · refine .inr fun e => ?_
            rw [ha] at e
            cases e
            exact hne b g sz hr rfl
    -- what they hold
    refine hi2.reblk (fun b hb => ?_) fun b k' hk' => ?_
    · rw [show (s.gc keep n m).H b = _ from H_gc keep n m s hn]
      by_cases hbn : b < n
      · rw [if_pos hbn] at hb ⊢
        split
        · rename_i h1
          rw [if_pos h1] at hb
          exact hb
        · rename_i h1
          rw [if_neg h1] at hb
          intro hh
          rw [Option.map_eq_none_iff] at hh
          exact hb (by rw [hh]; rfl)
      · rw [if_neg hbn] at hb
        exact absurd rfl hb
    · rw [show (s.gc keep n m).H b = _ from H_gc keep n m s hn] at hk'
      by_cases hbn : b < n
      · rw [if_pos hbn] at hk'
        simp only [if_pos hbn]
        split at hk'
        · rename_i h1
          refine ⟨k', by rw [if_pos h1]; exact hk', rfl, id, fun r hr => ?_⟩
          exact hi2.blk b k' r k'.sz (by simp only [if_pos hbn, if_pos h1]; exact hk') hr
        · rename_i h1
          obtain ⟨k, hk, rfl⟩ := Option.map_eq_some_iff.1 hk'
          refine ⟨scrubK n (if s.nh = 0 then m else s.toks.length) k, by rw [if_neg h1, hk]; rfl, by rw [scrubK_sz, scrubK_sz, sealK_sz], fun h => by rw [scrubK_dead, sealK_dead] at h; rw [scrubK_dead]; exact h, fun r hr => ?_⟩
          have hr' : L.hp b = some (r, k.sz) := by
            simp only [Lay.res, if_pos hbn, scrubK_sz] at hr
            exact hr
          exact ((hi.blk b k r k.sz hk hr').sealK hi).scrub
      · rw [if_neg hbn] at hk'
        cases hk'
  · intro t
    show Rep _ w (get (s.gc keep n m).env t) _
    unfold St.gc
    split
    · exact get_keep hi hat.env keep t
    · exact get_keep hi hat.env keep t
theorem tk_none {L : Lay} {s : St} (hi : Inv L s.H s.K w base) : L.tk s.toks.length = none := by
  have h1 := hi.K s.toks.length
  cases hk : L.tk s.toks.length with
  | none => rfl
  | some k =>
    rw [hk] at h1
    have : s.K s.toks.length = none := lK_none _
    rw [this] at h1
    cases h1
theorem ext_claim0 {L : Lay} {n sz : Nat} (hK : L.tk n = none) : Ext base L w { L with tk := setF L.tk n ⟨0, none, 0, sz⟩ } w :=
  ⟨fun _ _ h => h, fun _ _ _ => rfl, fun _ h => h, fun _ _ _ => rfl, fun _ _ h => h, fun t' k hk => ⟨k, (setF_ne L.tk _ _ (fun e => by rw [e, hK] at hk; cases hk)).trans hk, .inl rfl⟩, fun _ _ h => .inl h, Below.refl _ _, Oth.refl _⟩
theorem rep_claim0 {L : Lay} {n sz sz0 : Nat} {u : Value} (h1 : Rep { L with tk := setF L.tk n ⟨0, none, 0, sz⟩ } w (.lst sz0 [] .nil) u) : Rep { L with tk := setF L.tk n ⟨0, none, 0, sz⟩ } w (.lst sz [] (.tok n)) u := by
  obtain ⟨ad, n', cap, hu, hn, _, _, _, h2, h3, h4⟩ := by simpa only [Rep] using h1
  simp only [Rep]
  subst h2 h3 h4
  exact ⟨none, 0, 0, hu, rfl, Nat.le_refl _, by omega, .inl (by first | trivial | rfl), ⟨0, none, 0, sz⟩, setF_same _ _ _, Nat.le_refl _, fun _ => ⟨rfl, rfl, rfl⟩⟩
theorem inv_claim0 {L : Lay} {s : St} {sz : Nat} (hi : Inv L s.H s.K w base) (hK : L.tk s.toks.length = none) (hx : Ext base L w { L with tk := setF L.tk s.toks.length ⟨0, none, 0, sz⟩ } w) :
    Inv { L with tk := setF L.tk s.toks.length ⟨0, none, 0, sz⟩ } s.H (lK (s.toks ++ [0])) w base := by
  have tk' : ∀ t' k, setF L.tk s.toks.length ⟨0, none, 0, sz⟩ t' = some k → (k.cap = k.n ∧ k.n = 0) ∨ L.tk t' = some k := fun t' k h => by
    by_cases he : t' = s.toks.length
    · subst he
      rw [setF_same] at h
      cases h
      exact .inl ⟨rfl, rfl⟩
    · rw [setF_ne _ _ _ he] at h
      exact .inr h
  refine ⟨hi.dom, hi.dom', ?_, hi.inj, hi.apart, fun t' => ?_, fun t' k hk => ?_, fun t' t2 k k2 g h1 h2 hc1 hc2 => ?_, hi.size, hi.lent, hi.top, hi.glob⟩
  · intro b k r sz' hk hr
    exact (hi.blk b k r sz' hk hr).ext hx rfl
  · show lK (s.toks ++ [0]) t' = _
    rw [lK_append]
    by_cases he : t' = s.toks.length
    · subst he
      simp [setF_same]
    · rw [setF_ne _ _ _ he]
      show lK s.toks t' = _
      simp only [setF_ne _ _ _ he]
      exact hi.K t'
  · rcases tk' t' k hk with h | h
    · exact .inl ⟨h.1, .inl h.2⟩
    · exact hi.tk t' k h
  · rcases tk' t' k h1 with h | h
    · exact absurd h.1 hc1
    · rcases tk' t2 k2 h2 with h' | h'
      · exact absurd h'.1 hc2
      · exact hi.tkinj t' t2 k k2 g h h' hc1 hc2
/-- A nil slice gets a claim (to no room). -/
theorem here_tz : ∀ (l : List (Nat × Nat)) (s : St), Here L0 w0 base nt dl s a w → Here L0 w0 base nt dl (s.tz l) a w
  | [], s, h => h
  | (t, sz) :: r, s, h => by
    simp only [St.tz]
    split
    · rename_i sz0 ht
      refine here_tz r _ ?_
      obtain ⟨L, hat⟩ := h
      have hK : L.tk s.toks.length = none := by
        have h1 := hat.inv.K s.toks.length
        cases hk : L.tk s.toks.length with
        | none => rfl
        | some k =>
          rw [hk] at h1
          have : s.K s.toks.length = none := lK_none _
          rw [this] at h1
          cases h1
      have hx : Ext base L w { L with tk := setF L.tk s.toks.length ⟨0, none, 0, sz⟩ } w := ⟨fun _ _ h => h, fun _ _ _ => rfl, fun _ h => h, fun _ _ _ => rfl, fun _ _ h => h, fun t' k hk => ⟨k, (setF_ne L.tk _ _ (fun e => by rw [e, hK] at hk; cases hk)).trans hk, .inl rfl⟩, fun _ _ h => .inl h, Below.refl _ _, Oth.refl _⟩
      have hrep : Rep { L with tk := setF L.tk s.toks.length ⟨0, none, 0, sz⟩ } w (.lst sz [] (.tok s.toks.length)) (a.tmps.getD t undef) := by
        have h1 := hat.env t
        rw [ht] at h1
        obtain ⟨ad, n, cap, hu, hn, _, _, _, h2, h3, h4⟩ := by simpa only [Rep] using h1
        simp only [Rep]
        subst h2 h3 h4
        exact ⟨none, 0, 0, hu, rfl, Nat.le_refl _, by omega, .inl trivial, ⟨0, none, 0, sz⟩, setF_same _ _ _, Nat.le_refl _, fun _ => ⟨rfl, rfl, rfl⟩⟩
      refine ⟨_, hat.ext.trans hx, inv_claim0 hat.inv hK hx, ?_, hat.size, hat.defers⟩
      · intro t'
        simp only [St.put, get]
        split
        · rename_i he
          subst he
          exact hrep
        · exact Rep.ext hx _ _ (hat.env t')
    · rename_i b i o _
      split
      · rename_i k hk
        refine here_tz r _ ?_
        obtain ⟨L, hat⟩ := h
        obtain ⟨k0, row, sz0, h1, h2, h3, h4, rfl⟩ := tzB_eq hk
        have hK : L.tk s.toks.length = none := tk_none hat.inv
        have hx := ext_claim0 (base := base) (w := w) (sz := sz % 4096) hK
        have hi1 := inv_claim0 hat.inv hK hx
        refine ⟨_, hat.ext.trans hx, ?_, fun t' => Rep.ext hx _ _ (hat.env t'), hat.size, hat.defers⟩
        have hk0 : s.H b = some k0 := h1
        have hne : ∀ b', b' ≠ b → (s.heap.set b { k0 with rows := k0.rows.set i (row.set (o + sz / 4096) (.lst (sz % 4096) [] (.tok s.toks.length))) })[b']? = s.heap[b']? := fun b' e => List.getElem?_set_ne (fun h => e h.symm)
        have heq : (s.heap.set b { k0 with rows := k0.rows.set i (row.set (o + sz / 4096) (.lst (sz % 4096) [] (.tok s.toks.length))) })[b]? = some { k0 with rows := k0.rows.set i (row.set (o + sz / 4096) (.lst (sz % 4096) [] (.tok s.toks.length))) } := List.getElem?_set_self (List.getElem?_eq_some_iff.1 h1).1
        refine ⟨fun b' k' hb' => ?_, fun b' r' sz' hr => ?_, fun b' k' r' sz' hb' hr => ?_, hi1.inj, fun b' k' r' sz' hb' hd hr => ?_, hi1.K, hi1.tk, hi1.tkinj, hi1.size, hi1.lent, hi1.top, hi1.glob⟩
        · have hb1 : (s.heap.set b { k0 with rows := k0.rows.set i (row.set (o + sz / 4096) (.lst (sz % 4096) [] (.tok s.toks.length))) })[b']? = some k' := hb'
          by_cases e : b' = b
          · subst e
            rw [heq] at hb1
            cases hb1
            exact hi1.dom b' k0 hk0
          · rw [hne b' e] at hb1
            exact hi1.dom b' k' hb1
        · obtain ⟨k', hk', e'⟩ := hi1.dom' b' r' sz' hr
          by_cases e : b' = b
          · subst e
            refine ⟨_, heq, ?_⟩
            rw [hk0] at hk'
            cases hk'
            exact e'
          · exact ⟨k', (hne b' e).trans hk', e'⟩
        · have hb1 : (s.heap.set b { k0 with rows := k0.rows.set i (row.set (o + sz / 4096) (.lst (sz % 4096) [] (.tok s.toks.length))) })[b']? = some k' := hb'
          by_cases e : b' = b
          · subst e
            rw [heq] at hb1
            cases hb1
            have hblk := hi1.blk b' k0 r' sz' hk0 hr
            refine BlkOK.mk' (by show rngB k0.kind = false; rw [h2]; rfl) hblk.base ?_ hblk.typ
            obtain ⟨cs, e, hm, hs, hc⟩ := hblk.mem (by rw [h2]; rfl)
            refine ⟨cs, e, hm, by simpa using hs, fun i' row' hrow' => ?_⟩
            have hrow1 : (k0.rows.set i (row.set (o + sz / 4096) (.lst (sz % 4096) [] (.tok s.toks.length))))[i']? = some row' := hrow'
            by_cases ei : i = i'
            · subst ei
              rw [List.getElem?_set_self (List.getElem?_eq_some_iff.1 h3).1] at hrow1
              cases hrow1
              obtain ⟨l1, l2⟩ := hc i row h3
              refine ⟨by simpa using l1, fun c v hv => ?_⟩
              by_cases ec : o + sz / 4096 = c
              · subst ec
                rw [List.getElem?_set_self (List.getElem?_eq_some_iff.1 h4).1] at hv
                cases hv
                obtain ⟨_, _, u, hu, hrep⟩ := l2 _ _ h4
                refine ⟨by show fitB k0.kind _ = true; rw [h2]; rfl, rfl, u, hu, rep_claim0 hrep⟩
              · rw [List.getElem?_set_ne ec] at hv
                exact l2 c v hv
            · rw [List.getElem?_set_ne ei] at hrow1
              exact hc i' row' hrow1
          · rw [hne b' e] at hb1
            exact hi1.blk b' k' r' sz' hb1 hr
        · have hb1 : (s.heap.set b { k0 with rows := k0.rows.set i (row.set (o + sz / 4096) (.lst (sz % 4096) [] (.tok s.toks.length))) })[b']? = some k' := hb'
          by_cases e : b' = b
          · subst e
            rw [heq] at hb1
            cases hb1
            exact hi1.apart b' k0 r' sz' hk0 hd hr
          · rw [hne b' e] at hb1
            exact hi1.apart b' k' r' sz' hb1 hd hr
      · exact here_tz r s h
    · exact here_tz r s h
/-- A loop of so many rounds. -/
theorem wp_loop_n {ro : Option Nat} {n : Nat} {P : Program} {c : Code} {Q : Exit → Act → World → Prop} (J : Nat → Act → World → Prop)
    (round : ∀ k a w, J k a w → c.wpIn (rf ro) n P (Exit.then (fun a' w' => ∃ j, j < k ∧ J j a' w') Q) a w) {k : Nat} {a : Act} {w : World} (h : J k a w) : (Code.loop c).wpIn (rf ro) n P Q a w := by
  have least : ∀ k a w, J k a w → ∃ k0, k0 ≤ k ∧ J k0 a w ∧ ∀ j, J j a w → k0 ≤ j := by
    intro k
    induction k using Nat.strongRecOn with
    | _ k ih =>
      intro a w hk
      by_cases hx : ∃ j, j < k ∧ J j a w
      · obtain ⟨j, hj, hJ⟩ := hx
        obtain ⟨k0, h1, h2⟩ := ih j hj a w hJ
        exact ⟨k0, by omega, h2⟩
      · exact ⟨k, Nat.le_refl _, hk, fun j hj => Nat.le_of_not_lt fun hl => hx ⟨j, hl, hj⟩⟩
  have hμ : ∃ μ : Act → World → Nat, ∀ a w k, J k a w → J (μ a w) a w ∧ μ a w ≤ k := by
    refine ⟨fun a w => open Classical in if h : ∃ k, J k a w ∧ ∀ j, J j a w → k ≤ j then h.choose else 0, fun a w k hk => ?_⟩
    obtain ⟨k0, _, h1, h2⟩ := least k a w hk
    have hx : ∃ k, J k a w ∧ ∀ j, J j a w → k ≤ j := ⟨k0, h1, h2⟩
    simp only [dif_pos hx]
    exact ⟨hx.choose_spec.1, hx.choose_spec.2 k hk⟩
  obtain ⟨μ, hμ⟩ := hμ
  refine wpIn_loop (fun a w => ∃ k, J k a w) μ ⟨k, h⟩ fun a w ⟨k, hk⟩ => ?_
  refine wpIn_mono (round (μ a w) a w (hμ a w k hk).1) fun e a' w' he => ?_
  cases e with
  | normal =>
    obtain ⟨j, hj, hJ⟩ := he
    exact ⟨⟨j, hJ⟩, Nat.lt_of_le_of_lt (hμ a' w' j hJ).2 hj⟩
  | _ => exact he
/-- What is asked of code. -/
def CodeOK (sp : Nat → List (Nat × Nat)) (ct : Nat → Bool) (nt : Nat) : Code → Prop
  | .region id ops dr => RegOK (sp id) ct nt ops dr
  | .seq a b => CodeOK sp ct nt a ∧ CodeOK sp ct nt b
  | .cond _ a b => CodeOK sp ct nt a ∧ CodeOK sp ct nt b
  | .block _ c => CodeOK sp ct nt c
  | .loop c => CodeOK sp ct nt c
  | _ => True
theorem post_next {o : Out} {s : St} {e : Exit} (h : Post L0 w0 base nt dl o e a w) : (e = .normal ∧ ∃ s, o = .next s ∧ Here L0 w0 base nt dl s a w) ∨ (∃ s, o = .ret s) ∨ (∃ i s, o = .exit i s) ∨ ∃ v s, o = .panic v s := by
  cases o with
  | next s => cases e <;> first | exact .inl ⟨rfl, s, rfl, h⟩ | exact h.elim
  | ret s => exact .inr (.inl ⟨s, rfl⟩)
  | exit i s => exact .inr (.inr (.inl ⟨i, s, rfl⟩))
  | panic v s => exact .inr (.inr (.inr ⟨v, s, rfl⟩))
theorem post_then {o : Out} {e : Exit} {N : Act → World → Prop} (h : Post L0 w0 base nt dl o e a w) (hn : ∀ s, o ≠ .next s) : Exit.then N (Post L0 w0 base nt dl o) e a w := by
  cases e with
  | normal => cases o <;> first | exact h.elim | exact absurd rfl (hn _)
  | _ => exact h
variable {X : Ctx} {cl : CallFn} {f : FuncId} {n : Nat}
theorem rangeEnd_cases {s : St} {r : Res × List Blk × List Nat} {out : Out} (h : rangeEnd s r = some out) :
    ∃ v k f nt env ps as bd st, r.1 = .ret v ∧ r.2.1[s.heap.length]? = some k ∧ k.kind = .rng f nt env ps as bd st ∧
      ((st = .ready ∧ out = .next { s with heap := r.2.1.take s.heap.length, toks := r.2.2 }) ∨ (st = .done .ret ∧ out = .ret { s with heap := r.2.1.take s.heap.length, toks := r.2.2 }) ∨
        ∃ i, st = .done (.exit i) ∧ out = .exit i { s with heap := r.2.1.take s.heap.length, toks := r.2.2 }) := by
  unfold rangeEnd at h
  split at h
  · cases h
  · rename_i v hv
    obtain ⟨k, hk, h⟩ := ob_eq h
    split at h
    · rename_i f nt env ps as bd st hkk
      refine ⟨v, k, f, nt, env, ps, as, bd, st, hv, hk, hkk, ?_⟩
      split at h
      · cases h; exact .inl ⟨rfl, rfl⟩
      · cases h; exact .inr (.inl ⟨rfl, rfl⟩)
      · cases h; exact .inr (.inr ⟨_, rfl, rfl⟩)
      · cases h
    · cases h
theorem range_sound {ro : Option Nat} {N : Nat} (hdl : dl = none → X.rng f = false) (hnt : ntOf X.P f ≤ nt) (hro : ∀ l, ro = some l → ∃ r, w0.heap[l]? = some (.loop r)) (hP : ProgOK X.P) (hcl : CallsOK X.P cl) (hpc : PresC cl) {g : Operand} {ps : Array Tmp} {as bd : Code} {s : St} {out : Out}
    (hg : Good L0 s) (h : exec X cl n f (.rangeFunc g ps as bd) s = some out) (hh : Here L0 w0 base nt dl s a w) : (Code.rangeFunc g ps as bd).wpIn (rf ro) N X.P (Post L0 w0 base nt dl out) a w := by
  obtain ⟨L, hat⟩ := hh
  simp only [exec] at h
  split at h
  case h_2 => cases h
  rename_i gf caps hgv
  split at h
  case isFalse => cases h
  rename_i hgr0
  obtain ⟨hgr, hrng⟩ := hgr0
  obtain ⟨dls, rfl⟩ : ∃ dls, dl = some dls := by
    cases dl with
    | none => rw [hdl rfl] at hrng; cases hrng
    | some d => exact ⟨d, rfl⟩
  obtain ⟨r, hr, hend⟩ := ob_eq h
  clear h
  obtain ⟨v, kk, f', nt', env', ps', as', bd', st, hret, hkk, hkd, hout⟩ := rangeEnd_cases hend
  -- the function that is ranged over
  have hgop := hat.env.op g
  rw [hgv] at hgop
  obtain ⟨ws, hgu, hws⟩ := by simpa only [Rep] using hgop
  -- the record laid
  have entered : ∀ fn, ∃ (l : Nat) (mark : List Deferred) (w₁ : World) (rc : Loop), (Instr.enterLoop fn a.tmps ps as bd ro).run X.P w = .ok (l, mark) w₁ ∧ w₁.heap[l]? = some (.loop rc) ∧ rc.state = .ready ∧ rc.pending = none ∧ rc.tmps = a.tmps ∧ rc.params = ps ∧ rc.assign = as ∧ rc.body = bd ∧
      w.heap.size ≤ l ∧ Below w.heap.size w w₁ ∧ Dfr w0 w₁ (some dls) (mark ++ a.defers) := fun fn => by
    obtain ⟨Ds, hd1, hd2, hd3⟩ := hat.defers
    cases ro with
    | none =>
      have hb1 := below_alloc w (.deferred (some []))
      have hb2 : Below w.heap.size w ((w.alloc (.deferred (some []))).alloc (.loop { state := .ready, pending := none, fn, tmps := a.tmps, params := ps, assign := as, body := bd, defers := w.heap.size })) := hb1.alloc (by simp) _
      refine ⟨w.heap.size + 1, _, _, { state := .ready, pending := none, fn, tmps := a.tmps, params := ps, assign := as, body := bd, defers := w.heap.size }, run_enterLoop_outer fn a.tmps ps as bd, ?_, rfl, rfl, rfl, rfl, rfl, rfl, by omega, hb2, w.heap.size :: Ds, by rw [hd1]; rfl, ?_, fun D hD => ?_⟩
      · have := World.alloc_heap_new (w.alloc (.deferred (some []))) (.loop { state := .ready, pending := none, fn, tmps := a.tmps, params := ps, assign := as, body := bd, defers := w.heap.size })
        rw [World.size_alloc] at this
        exact this
      · refine List.nodup_cons.2 ⟨fun hm => ?_, hd2⟩
        have := (Array.getElem?_eq_some_iff.1 (hd3 _ hm).2).1
        omega
      · rcases List.mem_cons.1 hD with rfl | hD
        · refine ⟨hat.ext.old.size, ?_⟩
          have h1 := World.alloc_heap_new w (.deferred (some []))
          rw [← h1]
          exact (below_alloc (w.alloc (.deferred (some []))) _).block _ (by simp)
        · exact ⟨(hd3 D hD).1, (hb2.block D (Array.getElem?_eq_some_iff.1 (hd3 D hD).2).1).trans (hd3 D hD).2⟩
    | some l₀ =>
      obtain ⟨r00, hr00⟩ := hro l₀ rfl
      obtain ⟨r0, hr0, _⟩ := hat.ext.oth.lop l₀ r00 hr00
      have hb1 := below_alloc w (.loop { state := .ready, pending := none, fn, tmps := a.tmps, params := ps, assign := as, body := bd, defers := r0.defers })
      refine ⟨w.heap.size, _, _, { state := .ready, pending := none, fn, tmps := a.tmps, params := ps, assign := as, body := bd, defers := r0.defers }, run_enterLoop_inner hr0 fn a.tmps ps as bd, World.alloc_heap_new w _, rfl, rfl, rfl, rfl, rfl, rfl, Nat.le_refl _, hb1, Ds, by rw [hd1]; rfl, hd2, fun D hD => ?_⟩
      exact ⟨(hd3 D hD).1, (hb1.block D (Array.getElem?_eq_some_iff.1 (hd3 D hD).2).1).trans (hd3 D hD).2⟩
  refine wpIn_rangeFunc fun fn _ => ?_
  obtain ⟨l, mark, w₁, rc, hent, hm1, hs1, hs2, ht1, ht2, ht3, ht4, hl, hbel, hdfr⟩ := entered fn
  -- memory with the record
  have hbl : s.H s.heap.length = none := lH_none _
  have hx1 := Ext.own (b := s.heap.length) (r := l) (sz := 0) hat.inv hbel hbl
  have hi1 : Inv (L.own s.heap.length l 0) (lH (s.heap ++ [⟨0, [], .rng f (ntOf X.P f) s.env ps.toList as bd .ready⟩])) (lK s.toks) w₁ base := by
    rw [lH_append]
    refine Inv.own (k := ⟨0, [], .rng f (ntOf X.P f) s.env ps.toList as bd .ready⟩) hat.inv hbel hbl hl ⟨by have := hat.inv.top; omega, fun hh => by simp [rngB] at hh, fun f2 nt2 env2 ps2 as2 bd2 st2 hh => ?_, fun hh => (by simp [deadB] at hh), fun t h => (by cases h)⟩
    cases hh
    exact ⟨rfl, rc, hm1, ⟨by rw [ht2], ht3, ht4, ⟨hs1, hs2⟩, by rw [ht1, hat.size]; exact hnt, fun t => by rw [ht1]; exact Rep.ext hx1 _ _ (hat.env t)⟩⟩
  have hus : RepL (L.own s.heap.length l 0) w₁ (.yld s.heap.length :: caps) (#[Value.func (.yield l) #[] #[]] ++ ws).toList := by
    simp only [Array.toList_append, List.cons_append, List.nil_append, RepL]
    exact ⟨_, _, rfl, by simp only [Rep]; exact ⟨l, 0, setF_same _ _ _, rfl⟩, RepL.ext hx1 _ _ hws⟩
  obtain ⟨hbody, hcalls⟩ := hcl.call gf _ _ _ r hgr hr
  obtain ⟨fnb, hfb1, hfb2⟩ := hbody
  obtain ⟨p1, p2, p3⟩ := hpc _ _ _ _ _ hr
  have hn := hP.names gf fnb hfb1
  have hn' : ¬ fnb.name = "runtime.NumGoroutine" := by
    intro e
    rw [e] at hn
    simp at hn
  have hb' : ¬ fnb.body = none := by
    intro e
    simp [e] at hfb2
  refine ⟨l, mark, w₁, { target := .fn (.func gf) ws, args := #[Value.func (.yield l) #[] #[]] }, w₁, gf, #[Value.func (.yield l) #[] #[]] ++ ws, w₁, hent, ?_, fun _ _ => trivial, ?_, room_rf, calls_rf (Calls.mono (hcalls _ w₁ base _ hi1 hus) fun e w3 he => ?_)⟩
  · have hyv : a.eval (.const (.func (.yield l) #[] #[])) = .func (.yield l) #[] #[] := rfl
    simp [rangeCall, resolve, Deferred.ofValue, hgu, hyv]
  · simp [invoke, callFunc, hfb1, hn', hb']
  · rcases r with ⟨r1, r2, r3⟩
    simp only at hret hkk p1 p2 p3
    subst hret
    cases e with
    | outgrown => exact he.elim
    | panicked ch => exact he.elim
    | returned u =>
      obtain ⟨L3, hx3, hi3, _⟩ := he
      simp only at hi3
      have hl3 : L3.hp s.heap.length = some (l, 0) := hx3.hp _ _ (setF_same _ _ _)
      have hb3 := hi3.blk s.heap.length kk l 0 hkk hl3
      obtain ⟨_, rc3, hm3, hrc3⟩ := hb3.rng _ _ _ _ _ _ _ hkd
      have hbl3 : base ≤ l := hb3.base
      have hend3 : rc3.state ≠ .busy ∧ (st = .ready → rc3.pending = none) ∧ ∀ c, st = .done c → rc3.pending = some c := by
        have h1 := hrc3.st
        rcases hout with ⟨rfl, _⟩ | ⟨rfl, _⟩ | ⟨i, rfl, _⟩
        · exact ⟨by rw [h1.1]; simp, fun _ => h1.2, fun c hc => by cases hc⟩
        · exact ⟨by rw [h1.1]; simp, fun hc => by (cases hc), fun c hc => by cases hc; exact h1.2⟩
        · exact ⟨by rw [h1.1]; simp, fun hc => by (cases hc), fun c hc => by cases hc; exact h1.2⟩
      -- the record and what lies behind it let go
      have hL0 : ∀ b x, L0.hp b = some x → b < s.heap.length := fun b x hb => by
        obtain ⟨k, hk, _⟩ := hat.inv.dom' b x.1 x.2 (hat.ext.hp b x hb)
        exact lt_of_lH (H := s.heap) (by rw [← St.H_eq, hk]; simp)
      have htk3 : ∀ t k, L3.tk t = some k → t < r3.length := fun t k hk => by
        have h1 := hi3.K t
        rw [hk] at h1
        exact lt_of_lK (K := r3) (by rw [h1]; simp)
      have htk0 : ∀ t k, L0.tk t = some k → t < r3.length := fun t k ht => by
        obtain ⟨k1, h1, _⟩ := hat.ext.tk t k ht
        obtain ⟨k2, h2, _⟩ := hx1.tk t k1 h1
        obtain ⟨k3, h3, _⟩ := hx3.tk t k2 h2
        exact htk3 t k3 h3
      have hold : OldB s.heap.length (lH r2) := by
        refine p3 s.heap.length (by simp) ((old_of_inv hat.inv).congr fun b hb => ?_)
        simp only [lH]
        exact List.getElem?_append_left hb
      have hi4 : Inv (L3.res s.heap.length r3.length) (lH (r2.take s.heap.length)) (lK r3) w3 base := by
        refine hi3.res (fun b => ?_) (fun t => ?_) fun b k' hb hk' => ?_
        · simp only [lH, List.getElem?_take]
          by_cases hb : b < s.heap.length
          · rw [if_pos hb]
            exact ⟨fun h _ => h, fun h => h hb⟩
          · rw [if_neg hb]
            exact ⟨fun _ h => absurd h hb, fun _ => rfl⟩
        · split
          · rfl
          · exact List.getElem?_eq_none (by omega)
        · have hk : lH r2 b = some k' := by
            simp only [lH, List.getElem?_take, if_pos hb] at hk'
            exact hk'
          exact ⟨k', hk, rfl, id, fun r hr => BlkOK.res htk3 (hold b k' hb hk) hr⟩
      have hput : ∀ b sz, (L3.res s.heap.length r3.length).hp b ≠ some (l, sz) := fun b sz hb => by
        simp only [Lay.res] at hb
        split at hb
        · rename_i hlt
          have := hi3.inj b s.heap.length l sz 0 hb hl3
          omega
        · cases hb
      have hi5 := hi4.put (r' := { rc3 with state := .exhausted }) hbl3 hm3 rfl hput
      have hx5 := ext_put (L := L3.res s.heap.length r3.length) (r' := { rc3 with state := .exhausted }) hbl3 hm3 rfl
      have hext : Ext base L0 w0 (L3.res s.heap.length r3.length) (w3.putObj l (.loop { rc3 with state := .exhausted })) := (((hat.ext.trans hx1).trans hx3).res hL0 htk0).trans hx5
      have henv : EnvOK (L3.res s.heap.length r3.length) (w3.putObj l (.loop { rc3 with state := .exhausted })) (get s.env) { a with defers := mark ++ a.defers } := fun t => by
        have hbt : below s.heap.length (get s.env t) = true := Rep.below (fun b x hb => by
          obtain ⟨k, hk, _⟩ := hat.inv.dom' b x.1 x.2 hb
          exact lt_of_lH (H := s.heap) (by rw [← St.H_eq, hk]; simp)) _ _ (hat.env t)
        exact Rep.ext hx5 _ _ (Rep.res htk3 _ _ hbt (Rep.ext hx3 _ _ (Rep.ext hx1 _ _ (hat.env t))))
      have hat' : Here L0 w0 base nt (some dls) { s with heap := r2.take s.heap.length, toks := r3 } { a with defers := mark ++ a.defers } (w3.putObj l (.loop { rc3 with state := .exhausted })) :=
        ⟨_, hext, hi5, henv, hat.size, (hdfr.oth hx3.oth).oth hx5.oth⟩
      have hrun := run_endLoop (P := X.P) hm3 hend3.1
      generalize w3.putObj l (.loop { rc3 with state := .exhausted }) = w4 at hrun hat'
      refine ⟨_, w4, hrun, ?_⟩
      rcases hout with ⟨rfl, rfl⟩ | ⟨rfl, rfl⟩ | ⟨i, rfl, rfl⟩
      · rw [hend3.2.1 rfl]
        exact hat'
      · rw [hend3.2.2 _ rfl]
        exact wpIn_ret hat'
      · rw [hend3.2.2 _ rfl]
        exact wpIn_exit ⟨rfl, hat'⟩
theorem exec_sound {ro : Option Nat} {N : Nat} (hdl : dl = none → X.rng f = false) (hnt : ntOf X.P f ≤ nt) (hro : ∀ l, ro = some l → ∃ r, w0.heap[l]? = some (.loop r)) (hP : ProgOK X.P) (hcl : CallsOK X.P cl) (hsc : ScallsOK X cl) (hic : IcallsOK X cl) (hpc : PresC cl) (hps : PresC (scall X cl)) : ∀ (c : Code) (s : St) (out : Out) (a : Act) (w : World), CodeOK (X.sep f) (X.cut f) nt c → exec X cl n f c s = some out → Good L0 s → Here L0 w0 base nt dl s a w →
    c.wpIn (rf ro) N X.P (Post L0 w0 base nt dl out) a w
  | .skip, s, out, a, w, _, h, _, hh => by cases h; exact wpIn_skip hh
  | .label _, s, out, a, w, _, h, _, hh => by cases h; exact wpIn_label hh
  | .region _ ops dr, s, out, a, w, hc, h, _, hh => region_sound hP hcl hsc hic hc h hh
  | .seq x y, s, out, a, w, hc, h, hg, hh => by
    simp only [exec] at h
    cases hx : exec X cl n f x s with
    | none => rw [hx] at h; cases h
    | some o =>
      rw [hx] at h
      refine wpIn_seq (wpIn_mono (exec_sound hdl hnt hro hP hcl hsc hic hpc hps x s o a w hc.1 hx hg hh) fun e a' w' he => ?_)
      have hpres := pres_exec hpc hps x s o hg.nh hx
      cases o with
      | next s1 =>
        cases e with
        | normal => exact exec_sound hdl hnt hro hP hcl hsc hic hpc hps y s1 out a' w' hc.2 h (hg.pres hpres) he
        | _ => exact he.elim
      | ret s' => cases h; exact post_then he (by simp)
      | exit i s' => cases h; exact post_then he (by simp)
      | panic v s' => cases h; exact post_then he (by simp)
  | .cond c x y, s, out, a, w, hc, h, hg, hh => by
    simp only [exec] at h
    split at h
    · rename_i t ht
      have hcv : a.eval c = .bool t := by
        obtain ⟨L, hat⟩ := hh
        have := EnvOK.op hat.env c
        rw [ht] at this
        simpa only [Rep] using this
      refine wpIn_cond hcv ?_
      cases t with
      | true => exact exec_sound hdl hnt hro hP hcl hsc hic hpc hps x s out a w hc.1 h hg hh
      | false => exact exec_sound hdl hnt hro hP hcl hsc hic hpc hps y s out a w hc.2 h hg hh
    · cases h
  | .block id c, s, out, a, w, hc, h, hg, hh => by
    simp only [exec] at h
    cases hx : exec X cl n f c s with
    | none => rw [hx] at h; cases h
    | some o =>
      rw [hx] at h
      refine wpIn_block (wpIn_mono (exec_sound hdl hnt hro hP hcl hsc hic hpc hps c s o a w hc hx hg hh) fun e a' w' he => ?_)
      cases o with
      | exit i s' =>
        simp only [blk] at h
        cases e with
        | exit j =>
          obtain ⟨rfl, he⟩ := he
          simp only [Exit.inBlock]
          split at h
          · rename_i hi
            cases h
            rw [if_pos hi]
            exact he
          · rename_i hi
            cases h
            rw [if_neg hi]
            exact ⟨rfl, he⟩
        | _ => exact he.elim
      | next s' => cases h; cases e <;> first | exact he | exact he.elim
      | ret s' => cases h; cases e <;> first | exact he | exact he.elim
      | panic v s' => cases h; cases e <;> first | exact he | exact he.elim
  | .loop c, s, out, a, w, hc, h, hg, hh => by
    simp only [exec] at h
    have ht := pres_tz (X.tz f (firstReg c)) s
    have hg1 := hg.pres ht
    have hh1 := here_tz (X.tz f (firstReg c)) s hh
    generalize s.tz (X.tz f (firstReg c)) = s1 at h hg1 hh1
    refine wp_loop_n (fun k a w => ∃ s, iter (fun s => exec X cl n f c s) (St.gc (X.keep f (firstReg c)) s1.heap.length s1.toks.length) k s = some out ∧ Pres s1 s ∧ Here L0 w0 base nt dl s a w) (fun k a w hJ => ?_)
      ⟨s1, h, Pres.refl _, hh1⟩
    obtain ⟨s, hit, hp, hh⟩ := hJ
    have hgs := hg1.pres hp
    have hgc : Pres s1 (s.gc (X.keep f (firstReg c)) s1.heap.length s1.toks.length) := pres_gc hg1.nh (Nat.le_refl _) (Nat.le_refl _) hp.heap hp.toks hp.nh hp.old
    have hh' : Here L0 w0 base nt dl (s.gc (X.keep f (firstReg c)) s1.heap.length s1.toks.length) a w := here_gc hgs (by rw [hp.nh]; exact hg1.nh) hg1.tk hh
    cases k with
    | zero => simp [iter] at hit
    | succ k =>
      simp only [iter] at hit
      cases hx : exec X cl n f c (s.gc (X.keep f (firstReg c)) s1.heap.length s1.toks.length) with
      | none => rw [hx] at hit; cases hit
      | some o =>
        rw [hx] at hit
        refine wpIn_mono (exec_sound hdl hnt hro hP hcl hsc hic hpc hps c _ o a w hc hx (hg1.pres hgc) hh') fun e a' w' he => ?_
        have hpres := hgc.trans (pres_exec hpc hps c _ o (hg1.pres hgc).nh hx)
        cases o with
        | next s' =>
          cases e with
          | normal => exact ⟨k, Nat.lt_succ_self k, s', hit, hpres, he⟩
          | _ => exact he.elim
        | ret s' => cases hit; exact post_then he (by simp)
        | exit i s' => cases hit; exact post_then he (by simp)
        | panic v s' => cases hit; exact post_then he (by simp)
  | .exit id, s, out, a, w, _, h, _, hh => by cases h; exact wpIn_exit ⟨rfl, hh⟩
  | .ret, s, out, a, w, _, h, _, hh => by cases h; exact wpIn_ret hh
  | .rangeFunc g ps as bd, s, out, a, w, _, h, hg, hh => range_sound hdl hnt hro hP hcl hpc hg h hh
  | .scope _, s, out, a, w, _, h, _, _ => by simp [exec] at h
  | .goto _, s, out, a, w, _, h, _, _ => by simp [exec] at h
  | .refuse _, s, out, a, w, _, h, _, _ => by simp [exec] at h
end
end Go.Sym
end

section
/- Results; windows that nobody writes any more; what goes into a call and comes out of it. -/
namespace Go.Sym
open Go.RowKit
section
variable {P : Program} {L : Lay} {H : Nat → Option Blk} {K : Nat → Option Nat} {w : World} {base : Nat} {a : Act}
def resSem (a : Act) : ResultVar → Sem Value
  | .tmp t => pure (a.tmps.getD t undef)
  | .cell ad t => do loadVar t (← asAddr (a.tmps.getD ad undef))
theorem run_results1 {s : St} (hi : Inv L s.H s.K w base) (he : EnvOK L w (get s.env) a) : ∀ (rs : List ResultVar) (vs : List AV), resOf P s rs = some vs →
    ∃ us : List Value, (rs.mapM (resSem a)).run P w = .ok us w ∧ RepL L w vs us
  | [], vs, h => by
    cases h
    exact ⟨[], by simp, by simp [RepL]⟩
  | .tmp t :: r, vs, h => by
    simp only [resOf] at h
    obtain ⟨xs, hx, h⟩ := ob_eq h
    cases h
    obtain ⟨us, hu, hr⟩ := run_results1 hi he r xs hx
    refine ⟨a.tmps.getD t undef :: us, ?_, ?_⟩
    · rw [List.mapM_cons]
      simp only [resSem, Sem.run_bind, Sem.run_pure, Result.andThen_ok, hu]
    · simp only [RepL]
      exact ⟨_, us, rfl, he t, hr⟩
  | .cell ad t :: r, vs, h => by
    simp only [resOf] at h
    obtain ⟨x, hx, h⟩ := ob_eq h
    obtain ⟨xs, hxs, h⟩ := ob_eq h
    cases h
    obtain ⟨us, hu, hr⟩ := run_results1 hi he r xs hxs
    obtain ⟨ad', u', hp, hl, hrep⟩ := run_ldv (P := P) hi hx (he ad)
    refine ⟨u' :: us, ?_, ?_⟩
    · rw [List.mapM_cons]
      simp only [resSem, Sem.run_bind, hp, asAddr, Sem.run_pure, Result.andThen_ok, hl, hu]
    · simp only [RepL]
      exact ⟨_, us, rfl, hrep, hr⟩
theorem run_results {s : St} {fn : Func} (hi : Inv L s.H s.K w base) (he : EnvOK L w (get s.env) a) {vs : List AV} (h : resOf P s fn.results.toList = some vs) :
    ∃ u, (results fn a.tmps).run P w = .ok u w ∧ Rep L w (one vs) u := by
  obtain ⟨us, hu, hr⟩ := run_results1 hi he _ _ h
  have e : results fn a.tmps = (do let vs ← fn.results.mapM (resSem a); pure (if h : vs.size = 1 then vs[0] else .tuple vs)) := by
    unfold results
    congr 1
  rw [e, Array.mapM_eq_mapM_toList]
  simp only [Sem.run_bind, map_eq_pure_bind, hu, Result.andThen_ok, Sem.run_pure]
  refine ⟨_, rfl, ?_⟩
  cases vs with
  | nil =>
    obtain rfl : us = [] := by simpa only [RepL] using hr
    simp only [one, Rep]
    exact ⟨#[], by simp, by simp [RepL]⟩
  | cons v r =>
    obtain ⟨u, q, rfl, hv, hq⟩ := by simpa only [RepL] using hr
    cases r with
    | nil =>
      obtain rfl : q = [] := by simpa only [RepL] using hq
      simpa [one] using hv
    | cons v' r' =>
      obtain ⟨u', q', rfl, hv', hq'⟩ := by simpa only [RepL] using hq
      simp only [one, Rep]
      refine ⟨(u :: u' :: q').toArray, by simp, ?_⟩
      simpa [RepL] using hr
/-- What goes into a call that is walked apart. -/
def Lay.inner (L : Lay) : Lay := { S := L.S, B := fun g => L.B g ∨ ∃ b sz, L.hp b = some (g, sz), hp := fun _ => none, tk := fun _ => none }
theorem keeps_inner : Keeps L w L.inner w := ⟨fun _ _ h => h, fun _ _ _ => rfl⟩
theorem RepC.inner {c : Cap} {g : Nat} : ∀ {p : Nat} {cs : List AV}, RepC L w c g p cs → RepC L.inner w c g p cs
  | _, [], _ => by simp [RepC]
  | p, v :: r, h => by
    simp only [RepC] at h ⊢
    obtain ⟨hq, hp, hc, ⟨u, hu, hv⟩, hr⟩ := h
    exact ⟨hq.imp id (fun h => ⟨h.1, .inl h.2⟩), hp, hc, ⟨u, hu, Rep.pure keeps_inner v u hp hv⟩, RepC.inner hr⟩
theorem RepR.inner {c : Cap} {sz g : Nat} : ∀ {p : Nat} {rows : List (List AV)}, RepR L w c sz g p rows → RepR L.inner w c sz g p rows
  | _, [], _ => by simp [RepR]
  | p, row :: r, h => by
    simp only [RepR] at h ⊢
    exact ⟨h.1, RepC.inner h.2.1, RepR.inner h.2.2⟩
/-- Cells that are lent. -/
theorem lent_cells {r : Nat} {cs : Array Value} {e : TypeId} {z : Nat × Nat} (hm : w.heap[r]? = some (.cells cs e z)) (hB : L.inner.B r) : ∀ (row : List AV) (p : Nat), pureL row = true → row.all cellB = true → (∀ o v, row[o]? = some v → ∃ u, cs[p + o]? = some u ∧ Rep L w v u) → RepC L.inner w .bor r p row
  | [], _, _, _, _ => by simp [RepC]
  | v :: q, p, hp, hc, h => by
    simp only [pureL, Bool.and_eq_true] at hp
    simp only [List.all_cons, Bool.and_eq_true] at hc
    obtain ⟨u, hu, hr⟩ := h 0 v rfl
    simp only [RepC]
    refine ⟨.inr ⟨rfl, hB⟩, hp.1, hc.1, ⟨u, ?_, Rep.pure keeps_inner v u hp.1 hr⟩, lent_cells hm hB q (p + 1) hp.2 hc.2 fun o v' ho => ?_⟩
    · rw [World.cell?, hm]
      simpa using hu
    · obtain ⟨u', hu', hr'⟩ := h (o + 1) v' (by simpa using ho)
      exact ⟨u', by rwa [show p + 1 + o = p + (o + 1) by omega], hr'⟩
mutual
theorem Rep.freeze (hi : Inv L H K w base) : ∀ (v : AV) (u : Value), closedB (freeze H v) = true → Rep L w v u → Rep L.inner w (freeze H v) u
  | .lst sz rows c, u, hc, h => by
    obtain ⟨a, l, cap, rfl, hn, hcc, hm, hrows, hcap⟩ := by simpa only [Rep] using h
    have main : ∀ c', (c = .bor → c' = .bor) → CapOK L.inner sz a l cap c' → Rep L.inner w (.lst sz rows c') (.slice a l cap) := fun c' hc' hok => by
      simp only [Rep]
      refine ⟨a, l, cap, rfl, hn, hcc, hm, ?_, hok⟩
      rcases hrows with hrows | ⟨g, p, ha, hr⟩
      · exact .inl hrows
      · exact .inr ⟨g, p, ha, RepR.cap hc' (RepR.inner hr)⟩
    cases c with
    | bor => exact main _ id hcap
    | _ => exact Rep.szOf (main .no (by simp) trivial)
  | .win b off len cap, u, hc, h => by
    obtain ⟨r, sz, ad, cp, hr, rfl, h1, h2, _, h3, _⟩ := by simpa only [Rep] using h
    obtain ⟨k, hk, rfl⟩ := hi.dom' b r sz hr
    have hbk := hi.blk b k r k.sz hk hr
    simp only [Sym.freeze] at hc ⊢
    cases hro : rowsOf H b off len with
    | none => rw [hro] at hc; simp [closedB] at hc
    | some p =>
      obtain ⟨sz', rs⟩ := p
      simp only
      unfold rowsOf at hro
      rw [hk] at hro
      simp only at hro
      split at hro
      · rename_i hol
        have hsz : sz' = szOf k.sz rs ∧ ((k.kind = .data ∨ k.kind = .toky ∨ k.kind = .box ∧ purR ((k.rows.drop off).take len) = true) ∧ rs = ((k.rows.drop off).take len).map normL) := by
          cases hkk : k.kind <;> rw [hkk] at hro <;> cases hro
          · exact ⟨(szOf_map ..).symm, .inl rfl, rfl⟩
          · exact ⟨(szOf_map ..).symm, .inr (.inl rfl), rfl⟩
        obtain ⟨rfl, hrs⟩ := hsz
        have hlen : rs.length = len := by obtain ⟨_, rfl⟩ := hrs; simp; omega
        refine Rep.szOfC ?_
        simp only [Rep]
        refine ⟨some ad, len, cp, rfl, hlen, h1, h2, ?_, trivial⟩
        rcases h3 with h3 | rfl
        · left
          exact List.length_eq_zero_iff.1 (by omega)
        · exact .inr ⟨r, off * k.sz, rfl, rep_window hbk keeps_inner (fun _ _ => rfl) (fun o _ => .inr ⟨rfl, .inr ⟨b, k.sz, hr⟩⟩) hol hrs⟩
      · cases hro
  | .agg cs, u, hc, h => by
    obtain ⟨vs, rfl, hl⟩ := by simpa only [Rep] using h
    simp only [Sym.freeze, Rep]
    exact ⟨vs, rfl, RepL.freeze hi cs _ (by simpa [Sym.freeze, closedB] using hc) hl⟩
  | .fn f cs, u, hc, h => by
    obtain ⟨ws, rfl, hl⟩ := by simpa only [Rep] using h
    simp only [Sym.freeze, Rep]
    exact ⟨ws, rfl, RepL.freeze hi cs _ (by simpa [Sym.freeze, closedB] using hc) hl⟩
  | .iface t v, u, hc, h => by
    obtain ⟨x, rfl, hx⟩ := by simpa only [Rep] using h
    simp only [Sym.freeze, Rep]
    exact ⟨x, rfl, Rep.freeze hi v x (by simpa [Sym.freeze, closedB] using hc) hx⟩
  | .tup cs, u, hc, h => by simp [Sym.freeze, closedB] at hc
  | .undef, _, hc, h => by simp [Sym.freeze, closedB] at hc
  | .int .., _, _, h => by simpa only [Sym.freeze, Rep] using h
  | .bool _, _, _, h => by simpa only [Sym.freeze, Rep] using h
  | .str _, _, _, h => by simpa only [Sym.freeze, Rep] using h
  | .nilp, _, _, h => by simpa only [Sym.freeze, Rep] using h
  | .nilfn, _, _, h => by simpa only [Sym.freeze, Rep] using h
  | .niface, _, _, h => by simpa only [Sym.freeze, Rep] using h
  | .ptr b i o, u, hc, h => by
    obtain ⟨r, sz, hr, rfl⟩ := by simpa only [Rep] using h
    obtain ⟨k, hk, rfl⟩ := hi.dom' b r sz hr
    have hbk := hi.blk b k r k.sz hk hr
    simp only [Sym.freeze, fzp] at hc ⊢
    cases hro : ptrOf (H b) i with
    | none => rw [hro] at hc; simp [closedB] at hc
    | some row =>
      simp only
      rw [hk] at hro
      unfold ptrOf at hro
      simp only at hro
      split at hro
      · split at hro
        · rename_i t ht row' hrow
          split at hro
          · rename_i hpc
            cases hro
            simp only [Bool.and_eq_true] at hpc
            obtain ⟨cs, e, hm, _, hc'⟩ := hbk.mem (hbk.plain hrow)
            obtain ⟨hl, hv⟩ := hc' i row hrow
            simp only [Rep]
            exact ⟨r, i * k.sz, rfl, lent_cells hm (.inr ⟨b, k.sz, hr⟩) row (i * k.sz) hpc.1 hpc.2 fun o v ho => by
              obtain ⟨_, _, u, hu, hr'⟩ := hv o v ho
              exact ⟨u, hu, hr'⟩⟩
          · cases hro
        · cases hro
      · cases hro
  | .iptr cs o, u, hc, h => by
    obtain ⟨g, p, rfl, hcs⟩ := by simpa only [Rep] using h
    simp only [Sym.freeze, Rep]
    exact ⟨g, p, rfl, RepC.inner hcs⟩
  | .yld _, _, hc, h => by simp [Sym.freeze, closedB] at hc
theorem RepL.freeze (hi : Inv L H K w base) : ∀ (vs : List AV) (us : List Value), closedL (freezeL H vs) = true → RepL L w vs us → RepL L.inner w (freezeL H vs) us
  | [], _, _, h => h
  | v :: r, us, hc, h => by
    obtain ⟨u, q, rfl, hv, hq⟩ := by simpa only [RepL] using h
    simp only [freezeL, closedL, Bool.and_eq_true] at hc
    simp only [Sym.freezeL, RepL]
    exact ⟨u, q, rfl, Rep.freeze hi v u hc.1 hv, RepL.freeze hi r q hc.2 hq⟩
end
theorem Inv.inner (hi : Inv L H K w base) : Inv L.inner (lH []) (lK []) w w.heap.size := by
  refine ⟨fun b k h => by simp [lH] at h, fun b r sz h => by simp [Lay.inner] at h, fun b k r sz h => by simp [lH] at h, fun b b' r sz sz' h => by simp [Lay.inner] at h, fun b k r sz _ _ h => by simp [Lay.inner] at h,
    fun t => by simp [lK, Lay.inner], fun t k h => by simp [Lay.inner] at h, fun t t' k k' g h => by simp [Lay.inner] at h, hi.size, fun g h => ?_, Nat.le_refl _, hi.glob.mono hi.top⟩
  rcases h with h | ⟨b, sz, h⟩
  · exact Nat.lt_of_lt_of_le (hi.lent g h) hi.top
  · obtain ⟨k, hk, rfl⟩ := hi.dom' b g sz h
    exact (hi.blk b k g k.sz hk h).lt
end
end Go.Sym
end

section
/- Calls: what the abstract machine says of them holds. -/
namespace Go.Sym
open Go.RowKit
section
variable {P : Program} {L : Lay} {H : Nat → Option Blk} {K : Nat → Option Nat} {w : World} {base nh : Nat}
end
section
variable {L0 : Lay} {w0 : World} {base nt : Nat} {dl : Option (List Deferred)} {a : Act} {w : World} {s : St} {L : Lay}
theorem tk_lt {H : Nat → Option Blk} (hi : Inv L H (lK s.toks) w base) : ∀ t k, L.tk t = some k → t < s.toks.length := fun t k hk => by
  have h1 := hi.K t
  rw [hk] at h1
  exact lt_of_lK (K := s.toks) (by rw [h1]; simp)
/-- The blocks of the call's own are let go. -/
theorem inv_drop (hg : Good L0 s) (hi : Inv L s.H s.K w base) : Inv (L.res s.nh s.toks.length) (lH (s.heap.take s.nh)) (lK s.toks) w base := by
  refine hi.res (fun b => ?_) (fun t => ?_) fun b k' hb hk' => ?_
  · unfold lH
    rw [List.getElem?_take]
    by_cases hb : b < s.nh
    · rw [if_pos hb]
      exact ⟨fun h _ => h, fun h => h hb⟩
    · rw [if_neg hb]
      exact ⟨fun _ h => absurd h hb, fun _ => rfl⟩
  · split
    · rfl
    · exact List.getElem?_eq_none (by omega)
  · have hk : s.H b = some k' := by
      unfold lH at hk'
      rwa [List.getElem?_take, if_pos hb] at hk'
    exact ⟨k', hk, rfl, id, fun r hr => BlkOK.res (tk_lt (s := s) hi) (hg.old b k' hb hk) hr⟩
theorem leave_sound {P : Program} {fn : Func} {r : Res × List Blk × List Nat} (hg : Good L0 s) (hext : Ext base L0 w0 L w) (hinv : Inv L s.H s.K w base) (henv : EnvOK L w (get s.env) a) {raw : Bool} (h : leave P raw fn.results.toList s = some r) :
    ∃ u, (results fn a.tmps).run P w = .ok u w ∧ Ends base L0 w0 r (.returned u) w := by
  unfold leave at h
  obtain ⟨vs, hvs, h⟩ := ob_eq h
  obtain ⟨u, hu, hr⟩ := run_results hinv henv hvs
  refine ⟨u, hu, ?_⟩
  split at h
  · rename_i hb0
    have hb := hb0.2
    cases h
    have hi := hinv
    refine ⟨(L.shut s.nh s.H).res s.nh s.toks.length, (hext.trans (ext_seal hi)).res hg.hp hg.tk, ?_, Rep.res (L := L.shut s.nh s.H) (n := s.nh) (m := s.toks.length) (fun t k hk => tk_lt (L := L) (s := s) hi t k hk) _ _ hb (Rep.sealv hi _ _ hr)⟩
    refine (inv_drop hg hi).addS (fun g o h => .inl h) fun g o h => ?_
    rcases seal_new hi h with h | ⟨h1, h2, b, sz, hb, hr⟩
    · exact .inl h
    · refine .inr ⟨h1, h2, fun b' sz' h => ?_, fun t k hk => ?_⟩
      · simp only [Lay.res] at h
        split at h
        · have := hi.inj b b' g sz sz' hr h
          omega
        · cases h
      · simp only [Lay.res] at hk
        split at hk
        · rcases hi.tk t k hk with h | ⟨g', ha, _, _, _, _, _, hne⟩
          · exact .inl h.1
          · refine .inr fun e => ?_
            rw [ha] at e
            cases e
            exact hne b g sz hr rfl
        · cases hk
  · cases h
    exact ⟨L, hext, hinv, hr⟩
variable {X : Ctx}
def PrimOK (X : Ctx) : Prop := ∀ g F args r, X.prim g = some F → F args = some r → Body X.P g ∧ ∃ (own : Bool) (q : Res × List Blk × List Nat),
  (match q.1 with | .ret v => iret own q.2.2 v | .panic v => if pureB v = true then some (.panic v) else none) = some r ∧
  ∀ L w (us : Array Value), Inv L (lH []) (lK []) w w.heap.size → RepL L w args us.toList → Calls X.P g us w (Ends w.heap.size L w q)
/-- Calls known otherwise, with the memory shared. -/
def SprimOK (X : Ctx) : Prop := ∀ g F args H K r, X.sprim g = some F → F args H K = some r → Body X.P g ∧
  (H.length ≤ r.2.1.length ∧ K.length ≤ r.2.2.length ∧ ∀ n, n ≤ H.length → OldB n (lH H) → OldB n (lH r.2.1)) ∧
  ∀ L w base (us : Array Value), Inv L (lH H) (lK K) w base → RepL L w args us.toList → Calls X.P g us w (Ends base L w r)
structure SymOK (X : Ctx) : Prop where
  prog : ProgOK X.P
  code : ∀ g fn c, X.has g = true → X.P.funcs[g]? = some fn → fn.body = some c → CodeOK (X.sep g) (X.cut g) fn.ntmps c
  prim : PrimOK X
  sprim : SprimOK X
  snone : ∀ b : Nat, X.sprim (rid + b) = none
  rok : ∀ f ps as bd, X.rok f ps as bd = true → CodeOK (X.sep f) (X.cut f) (ntOf X.P f) as ∧ CodeOK (X.sep f) (X.cut f) (ntOf X.P f) bd ∧ ∀ p ∈ ps, p < ntOf X.P f
theorem CodeOK.mono {sp : Nat → List (Nat × Nat)} {ct : Nat → Bool} {n m : Nat} (h : n ≤ m) : ∀ (c : Code), CodeOK sp ct n c → CodeOK sp ct m c
  | .region _ ops dr, hc => ⟨fun i o x ho hx => Nat.lt_of_lt_of_le (hc.dst i o x ho hx) h, hc.draw, hc.cut⟩
  | .seq a b, hc => ⟨CodeOK.mono h a hc.1, CodeOK.mono h b hc.2⟩
  | .cond _ a b, hc => ⟨CodeOK.mono h a hc.1, CodeOK.mono h b hc.2⟩
  | .block _ c, hc => CodeOK.mono h c hc
  | .loop c, hc => CodeOK.mono h c hc
  | .skip, _ => trivial
  | .label _, _ => trivial
  | .exit _, _ => trivial
  | .ret, _ => trivial
  | .rangeFunc .., _ => trivial
  | .scope _, _ => trivial
  | .goto _, _ => trivial
  | .refuse _, _ => trivial
theorem envOf_get : ∀ (i : Nat) (as : List AV) (t : Nat), get (envOf i as) t = if i ≤ t then (as[t - i]?).getD .undef else .undef
  | i, [], t => by simp [envOf, get]
  | i, v :: r, t => by
    simp only [envOf, get]
    by_cases h : i = t
    · subst h; simp
    · rw [if_neg h, envOf_get (i + 1) r t]
      by_cases h' : i ≤ t
      · rw [if_pos (show i + 1 ≤ t by omega), if_pos h', show t - i = (t - (i + 1)) + 1 by omega, List.getElem?_cons_succ]
      · rw [if_neg (by omega), if_neg h']
theorem pres_leave {P : Program} {raw : Bool} {rs : List ResultVar} {r : Res × List Blk × List Nat} (hn : s.nh ≤ s.heap.length) (h : leave P raw rs s = some r) : s.nh ≤ r.2.1.length ∧ r.2.2 = s.toks ∧ ∀ n, n ≤ s.nh → OldB n s.H → OldB n (lH r.2.1) := by
  unfold leave at h
  obtain ⟨vs, _, h⟩ := ob_eq h
  split at h <;> cases h
  · refine ⟨by simp; omega, rfl, fun n hn ho => ho.congr fun b hb => ?_⟩
    simp only [lH, List.getElem?_take, if_pos (show b < s.nh by omega)]
    rfl
  · exact ⟨hn, rfl, fun n _ ho => ho⟩
theorem pres_fin {P : Program} {raw : Bool} {rs : List ResultVar} {o : Out} {r : Res × List Blk × List Nat} (hn : o.st.nh ≤ o.st.heap.length) (h : fin P raw rs o = some r) : o.st.nh ≤ r.2.1.length ∧ r.2.2 = o.st.toks ∧ ∀ n, n ≤ o.st.nh → OldB n o.st.H → OldB n (lH r.2.1) := by
  cases o with
  | next s => exact pres_leave hn h
  | ret s => exact pres_leave hn h
  | exit i s => cases h
  | panic v s =>
    simp only [fin] at h
    split at h
    · cases h
      refine ⟨by simp only [Out.st] at hn ⊢; simp; omega, rfl, fun n hn ho => ho.congr fun b hb => ?_⟩
      simp only [Out.st] at hn
      simp only [lH, List.getElem?_take, if_pos (show b < s.nh by omega)]
      rfl
    · cases h
theorem iret_cases {own : Bool} {ks : List Nat} {v : AV} {r : IRes} (h : iret own ks v = some r) :
    (∃ sz rows c, v = .lst sz rows c ∧ r = .own sz rows ∧ ((c = .nil ∧ rows = []) ∨ ∃ t, c = .tok t ∧ ks[t]? = some rows.length)) ∨ (r = .ret (normv v) ∧ pureB (strip v) = true) := by
  unfold iret at h
  split at h
  · split at h
    · split at h
      · rename_i hr
        cases h; exact .inl ⟨_, _, _, rfl, rfl, .inl ⟨rfl, hr⟩⟩
      · cases h
    · split at h
      · rename_i ht
        cases h; exact .inl ⟨_, _, _, rfl, rfl, .inr ⟨_, rfl, ht⟩⟩
      · cases h
    · cases h
  · split at h
    · cases h
    · split at h
      · rename_i hp
        cases h; exact .inr ⟨rfl, hp⟩
      · cases h
/-- What a call that was walked apart leaves to its caller. -/
theorem ends_apart {H : Nat → Option Blk} {K : Nat → Option Nat} {own : Bool} {q : Res × List Blk × List Nat} {r : IRes}
    (hq : (match q.1 with | .ret v => iret own q.2.2 v | .panic v => if pureB v = true then some (IRes.panic v) else none) = some r)
    (hi : Inv L H K w base) {e : Ending} {w' : World} (he : Ends w.heap.size L.inner w q e w') : IEnds base L H K w r e w' := by
  have out : ∀ L1, Ext w.heap.size L.inner w L1 w' → (∃ H1 K1, Inv L1 H1 K1 w' w.heap.size) → Ext base L w { L with S := L1.S } w' ∧ Inv { L with S := L1.S } H K w' base ∧ Keeps L1 w' { L with S := L1.S } w' := by
    rintro L1 hx ⟨H1, K1, hi1⟩
    have hext : Ext base L w { L with S := L1.S } w' := ⟨hx.S, hx.cell, fun _ h => h, fun g o h => hx.lent g o (.inl h), fun _ _ h => h, fun _ k h => ⟨k, h, .inl rfl⟩, fun g o h => (hx.new g o h).imp id (Nat.le_trans hi.top), hx.old.mono hi.top, hx.oth⟩
    exact ⟨hext, hi.step hext rfl rfl rfl (fun g o h => hx.new g o h) hi1.size hx.old.block, fun _ _ h => h, fun _ _ _ => rfl⟩
  rcases q with ⟨q1, q2, q3⟩
  cases e with
  | outgrown => cases q1 <;> exact he.elim
  | panicked ch =>
    cases q1 with
    | ret v => exact he.elim
    | panic v =>
      obtain ⟨L1, u, rfl, hx, hi1, hr⟩ := he
      simp only at hq
      split at hq
      · rename_i hp
        cases hq
        obtain ⟨h1, h2, h3⟩ := out L1 hx ⟨_, _, hi1⟩
        exact ⟨_, u, rfl, h1, h2, Rep.pure h3 v u hp hr⟩
      · cases hq
  | returned u =>
    cases q1 with
    | panic v => exact he.elim
    | ret v =>
      obtain ⟨L1, hx, hi1, hr⟩ := he
      obtain ⟨h1, h2, h3⟩ := out L1 hx ⟨_, _, hi1⟩
      simp only at hq hi1
      rcases iret_cases hq with ⟨sz, rows, c, rfl, rfl, hc⟩ | ⟨rfl, hp⟩
      · intro t0 ht0
        have hr0 := hr
        obtain ⟨ad, n, cap, rfl, hn, hcap, hmax, hrows, hok⟩ := by simpa only [Rep] using hr
        -- the claim
        have claim : ∃ k : Tk, k.n = n ∧ k.a = ad ∧ k.cap = cap ∧ k.sz = sz ∧ TkOK L1 w' w.heap.size k := by
          rcases hc with ⟨rfl, _⟩ | ⟨t, rfl, ht⟩
          · obtain ⟨_, h2, h3⟩ := hok
            exact ⟨⟨n, ad, cap, sz⟩, rfl, rfl, rfl, rfl, .inl ⟨by simp only; omega, .inl h2⟩⟩
          · obtain ⟨k, hk, _, heq⟩ := hok
            have hkn := hi1.K t
            rw [hk] at hkn
            rw [show lK q3 t = _ from ht] at hkn
            have hkn' : rows.length = k.n := by simpa using hkn
            obtain ⟨e1, e2, e3⟩ := heq (by omega)
            exact ⟨k, by omega, e1.symm, e2.symm, e3.symm, hi1.tk t k hk⟩
        obtain ⟨k, rfl, rfl, rfl, rfl, hk⟩ := claim
        have hno : L.tk t0 = none := by
          have := hi.K t0
          rw [ht0] at this
          cases h : L.tk t0 with
          | none => rfl
          | some k => rw [h] at this; cases this
        have hlt : ∀ b r sz, L.hp b = some (r, sz) → r < w.heap.size := by
          intro b r sz h
          obtain ⟨k, hk, rfl⟩ := hi.dom' b r sz h
          exact (hi.blk b k r k.sz hk h).lt
        have hx2 : Ext base L w { L with S := L1.S, tk := setF L.tk t0 k } w' := ⟨h1.S, h1.cell, h1.B, h1.lent, h1.hp, fun t k' h => ⟨k', (setF_ne L.tk _ _ (fun e => by rw [e, hno] at h; cases h)).trans h, .inl rfl⟩, h1.new, h1.old, h1.oth⟩
        have hx3 : Ext base { L with S := L1.S } w' { L with S := L1.S, tk := setF L.tk t0 k } w' := ⟨fun _ _ h => h, fun _ _ _ => rfl, fun _ h => h, fun _ _ _ => rfl, fun _ _ h => h, fun t k' h => ⟨k', (setF_ne L.tk _ _ (fun e => by rw [e] at h; exact absurd (h.symm.trans hno) (by simp))).trans h, .inl rfl⟩, fun _ _ h => .inl h, Below.refl _ _, Oth.refl _⟩
        have tkl : ∀ t k', L.tk t = some k' → k'.cap ≠ k'.n → ∃ g, k'.a = some ⟨g, 0, none⟩ ∧ g < w.heap.size := fun t k' h hcn => by
          rcases hi.tk t k' h with h | ⟨g, ha, _, _, ⟨cs, e, hm, _⟩, _⟩
          · exact absurd h.1 hcn
          · exact ⟨g, ha, (Array.getElem?_eq_some_iff.1 hm).1⟩
        have tkn : k.cap ≠ k.n → ∃ g, k.a = some ⟨g, 0, none⟩ ∧ w.heap.size ≤ g := fun hcn => by
          rcases hk with h | ⟨g, ha, hg, _⟩
          · exact absurd h.1 hcn
          · exact ⟨g, ha, hg⟩
        refine ⟨_, hx2, ⟨h2.dom, h2.dom', fun b kb r sz hkb hr => (h2.blk b kb r sz hkb hr).ext hx3 rfl, h2.inj, h2.apart, fun t => ?_, fun t k' h => ?_, fun t t' k1 k2 g ha hb hc1 hc2 e1 e2 => ?_, h2.size, h2.lent, h2.top, h2.glob⟩, ?_⟩
        · by_cases ht : t = t0
          · subst ht
            simp [setF_same, hn]
          · simp only [setF_ne _ _ _ ht]
            exact h2.K t
        · by_cases ht : t = t0
          · subst ht
            have h' : setF L.tk t k t = some k' := h
            rw [setF_same] at h'
            cases h'
            rcases hk with h | ⟨g, ha, hg, hn', hm, hs, hB, _⟩
            · exact .inl ⟨h.1, h.2.mono hi.top⟩
            · exact .inr ⟨g, ha, Nat.le_trans hi.top hg, hn', hm, hs, fun hb => hB (hx.B g (.inl hb)), fun b r sz hr => by have := hlt b r sz hr; omega⟩
          · have h' : setF L.tk t0 k t = some k' := h
            rw [setF_ne _ _ _ ht] at h'
            exact h2.tk t k' h'
        · have sel : ∀ t k', setF L.tk t0 k t = some k' → (t = t0 ∧ k' = k) ∨ (t ≠ t0 ∧ L.tk t = some k') := fun t k' h => by
            by_cases ht : t = t0
            · subst ht
              rw [setF_same] at h
              cases h
              exact .inl ⟨rfl, rfl⟩
            · rw [setF_ne _ _ _ ht] at h
              exact .inr ⟨ht, h⟩
          rcases sel t k1 ha with ⟨q1, q2⟩ | ⟨_, ha'⟩ <;> rcases sel t' k2 hb with ⟨q3, q4⟩ | ⟨_, hb'⟩
          · rw [q1, q3]
          · subst q2
            obtain ⟨g1, f1, l1⟩ := tkn hc1
            obtain ⟨g2, f2, l2⟩ := tkl t' k2 hb' hc2
            rw [e1] at f1; rw [e2] at f2
            cases f1; cases f2
            omega
          · subst q4
            obtain ⟨g1, f1, l1⟩ := tkl t k1 ha' hc1
            obtain ⟨g2, f2, l2⟩ := tkn hc2
            rw [e1] at f1; rw [e2] at f2
            cases f1; cases f2
            omega
          · exact hi.tkinj t t' k1 k2 g ha' hb' hc1 hc2 e1 e2
        · simp only [Rep]
          refine ⟨k.a, k.n, k.cap, rfl, hn, hcap, hmax, ?_, k, setF_same _ _ _, Nat.le_refl _, fun _ => ⟨rfl, rfl, rfl⟩⟩
          rcases hrows with hrows | ⟨g, p, ha, hrr⟩
          · exact .inl hrows
          · refine .inr ⟨g, p, ha, ?_⟩
            have hcb : c ≠ .bor := by rcases hc with ⟨rfl, _⟩ | ⟨t, rfl, _⟩ <;> simp
            exact RepR.cap (fun e => absurd e hcb) (RepR.pure (L := L1) (w := w') (L' := { L with S := L1.S, tk := setF L.tk t0 k }) ⟨fun _ _ h => h, fun _ _ _ => rfl⟩ hcb _ _ _ rows hrr)
      · exact ⟨_, h1, h2, Rep.pure h3 _ u (normv_pure v hp) (Rep.normv v u hp hr)⟩
theorem icalls_sound {cl : CallFn} (hX : SymOK X) (hcl : CallsOK X.P cl) : IcallsOK X cl := by
  intro g args r hgr H hc h
  unfold icall at h
  cases hp : X.prim g with
  | some F =>
    rw [hp] at h
    obtain ⟨hb, own, q, hq, hcalls⟩ := hX.prim g F _ r hp h
    refine ⟨hb, fun L K w base us hi hr => Calls.mono (hcalls L.inner w us hi.inner (RepL.freeze hi args _ hc hr)) fun e w' he => ends_apart hq hi he⟩
  | none =>
    rw [hp] at h
    obtain ⟨q, hq, h⟩ := ob_eq h
    obtain ⟨hb, hcalls⟩ := hcl.call g _ [] [] q hgr hq
    exact ⟨hb, fun L K w base us hi hr => Calls.mono (hcalls L.inner w w.heap.size us hi.inner (RepL.freeze hi args _ hc hr)) fun e w' he => ends_apart (own := X.own g) h hi he⟩
theorem scalls_sound {cl : CallFn} (hX : SymOK X) (hcl : CallsOK X.P cl) : ScallsOK X cl := by
  refine ⟨fun g args H K r hgr h => ?_, hX.snone⟩
  unfold scall at h
  cases hp : X.sprim g with
  | some F =>
    rw [hp] at h
    obtain ⟨h1, _, h2⟩ := hX.sprim g F args H K r hp h
    exact ⟨h1, h2⟩
  | none =>
    rw [hp] at h
    exact hcl.call g args H K r hgr h
theorem pres_scall {cl : CallFn} (hX : SymOK X) (hpc : PresC cl) : PresC (scall X cl) := by
  intro g args H K r h
  unfold scall at h
  cases hp : X.sprim g with
  | some F =>
    rw [hp] at h
    exact (hX.sprim g F args H K r hp h).2.1
  | none =>
    rw [hp] at h
    exact hpc g args H K r h
def shutAll : List Nat → World → World
  | [], w => w
  | D :: r, w => shutAll r (w.putObj D (.deferred none))
/-- A frame on its way out: its marks. -/
theorem leave_marks {P : Program} {F : Fence} {N : Nat} {fn : Func} {R : Ending → World → Prop} {u : FrameMode} {dl : List Deferred} (hu : u ≠ .run) (hb : base ≤ w0.heap.size) {s : St} : ∀ (Ds : List Nat) (w : World), Ext base L0 w0 L w → Inv L s.H s.K w base → EnvOK L w (get s.env) a → Ds.Nodup → (∀ D ∈ Ds, w0.heap.size ≤ D ∧ w.heap[D]? = some (.deferred (some []))) →
    (∀ w', Ext base L0 w0 L w' → Inv L s.H s.K w' base → EnvOK L w' (get s.env) a → (∀ g o : Nat, w'.cell? ⟨g, o, none⟩ = w.cell? ⟨g, o, none⟩) → LeavesInM F N P fn a.tmps R dl u w') → LeavesInM F N P fn a.tmps R (Ds.map (fun D => { target := .collected D, args := #[] }) ++ dl) u w
  | [], w, hx, hi, he, _, _, h => h w hx hi he fun _ _ => rfl
  | D :: r, w, hx, hi, he, hn, hD, h => by
    obtain ⟨hD1, hD2⟩ := hD D (List.mem_cons_self ..)
    obtain ⟨hn1, hn2⟩ := List.nodup_cons.1 hn
    refine ⟨hu, .inl ⟨D, w.putObj D (.deferred none), rfl, run_takeDeferred hD2, ?_⟩⟩
    refine leave_marks hu hb r _ (hx.shut hb hD1 hD2) (hi.shut hD2) (fun t => Rep.same (cell_shut hD2) _ _ (he t)) hn2 (fun D' hD' => ?_) fun w' h1 h2 h3 h4 => h w' h1 h2 h3 fun g o => (h4 g o).trans (cell_shut hD2 g o)
    have hne : D' ≠ D := fun e => hn1 (e ▸ hD')
    exact ⟨(hD D' (List.mem_cons_of_mem _ hD')).1, by rw [putObj_other hne]; exact (hD D' (List.mem_cons_of_mem _ hD')).2⟩
theorem good_start {H : List Blk} {K : List Nat} (hi : Inv L (lH H) (lK K) w base) (env : List (Nat × AV)) : Good L { env := env, heap := H, toks := K, nh := H.length } :=
  ⟨Nat.le_refl _, old_of_inv hi, fun b x hx => by
    obtain ⟨k, hk, _⟩ := hi.dom' b x.1 x.2 hx
    exact lt_of_lH (by rw [hk]; simp), fun t k ht => tk_lt (s := { env := env, heap := H, toks := K, nh := H.length }) hi t k ht⟩
theorem roundEnv_ok {nt : Nat} : ∀ (ps : List Tmp) (vs : List AV) (us : List Value) (env : List (Nat × AV)) (tmps : Array Value), (∀ p ∈ ps, p < tmps.size) → RepL L w vs us → vs.length = ps.length → (∀ t, Rep L w (get env t) (tmps.getD t undef)) →
    ∀ t, Rep L w (get (roundEnv ps vs env) t) (((ps.zip us).foldl (fun tmps (p : Tmp × Value) => tmps.setIfInBounds p.1 p.2) tmps).getD t undef)
  | [], vs, us, env, tmps, _, _, _, he => by simpa [roundEnv] using he
  | p :: ps, [], us, env, tmps, _, _, hl, _ => by simp at hl
  | p :: ps, v :: vs, us, env, tmps, hp, hr, hl, he => by
    obtain ⟨u, q, rfl, hv, hq⟩ := by simpa only [RepL] using hr
    simp only [roundEnv, List.zip_cons_cons, List.foldl_cons]
    refine roundEnv_ok (nt := nt) ps vs q _ _ (fun p' hp' => by simp; exact hp p' (List.mem_cons_of_mem _ hp')) hq (by simpa using hl) fun t => ?_
    simp only [get]
    split
    · rename_i e
      subst e
      have := hp p (List.mem_cons_self ..)
      simpa [this] using hv
    · rename_i e
      have := he t
      simpa [Array.getElem?_setIfInBounds_ne e] using this
theorem fold_size : ∀ (l : List (Tmp × Value)) (tmps : Array Value), (l.foldl (fun tmps (p : Tmp × Value) => tmps.setIfInBounds p.1 p.2) tmps).size = tmps.size
  | [], _ => rfl
  | p :: l, tmps => by simp [fold_size l]
/-- The blocks of a round's own are let go, its record turned. -/
theorem round_end {L0 : Lay} {w0 : World} {s : St} {b l sz : Nat} {st : LoopSt} {H' : List Blk} {q : Bool} {jump : Option Code} {P : Program} (hg : Good L0 s) (hext : Ext base L0 w0 L w) (hinv : Inv L s.H s.K w base) (hb : L0.hp b = some (l, sz))
    (hp : putSt (s.heap.take s.nh) b st = some H') (hst : (st = .ready ∧ jump = none ∧ q = true) ∨ ∃ c, st = .done c ∧ jump = some c ∧ q = false) :
    ∃ v w', (Instr.endRound l jump).run P w = .ok v w' ∧ Ends base L0 w0 (.ret (.bool q), H', s.toks) (.returned v) w' := by
  have hi1 := inv_drop hg hinv
  have hl : (L.res s.nh s.toks.length).hp b = some (l, sz) := by
    simp only [Lay.res, if_pos (hg.hp b _ hb)]
    exact hext.hp b _ hb
  obtain ⟨rc, hm, _, hbl, h⟩ := hi1.putSt hp hl
  have hrun := run_endRound (P := P) jump hm
  obtain ⟨h1, h2⟩ := h { rc with state := if jump.isNone then .ready else .done, pending := jump } rfl rfl rfl rfl rfl (by
    rcases hst with ⟨rfl, rfl, _⟩ | ⟨c, rfl, rfl, _⟩
    · exact ⟨rfl, rfl⟩
    · exact ⟨rfl, rfl⟩)
  refine ⟨_, _, hrun, L.res s.nh s.toks.length, (hext.res hg.hp hg.tk).trans h1, h2, ?_⟩
  rcases hst with ⟨_, rfl, rfl⟩ | ⟨c, _, rfl, rfl⟩ <;> simp [Rep]
theorem round_sound (hX : SymOK X) {n : Nat} (hcl : CallsOK X.P (callN X n)) (hpc : PresC (callN X n)) (hps : PresC (scall X (callN X n))) (hsc : ScallsOK X (callN X n)) (hic : IcallsOK X (callN X n)) {b : Nat} {args : List AV} {H : List Blk} {K : List Nat} {r : Res × List Blk × List Nat}
    (h : roundOf X (exec X (callN X n) n) b args H K = some r) {L : Lay} {w : World} {base : Nat} {us : Array Value} {l sz : Nat} (hl : L.hp b = some (l, sz)) (hi : Inv L (lH H) (lK K) w base) (hr : RepL L w args us.toList) :
    ∃ rc, w.heap[l]? = some (.loop rc) ∧ us.size = rc.params.size ∧ ∀ N, RoundIn (rf none) N X.P l rc.fn ((rc.params.zip us).foldl (fun tmps (t, a) => tmps.setIfInBounds t a) rc.tmps) rc.assign rc.body w (Ends base L w r) := by
  unfold roundOf at h
  obtain ⟨k, hk, h⟩ := ob_eq h
  split at h
  case h_2 => cases h
  rename_i f nt env ps as bd st hkk
  split at h
  case h_2 => cases h
  split at h
  case isFalse => cases h
  rename_i hc
  obtain ⟨hrok, hnt, hlen⟩ := hc
  obtain ⟨o1, ho1, h⟩ := ob_eq h
  split at h
  case h_2 => cases h
  rename_i s1
  split at h
  case isFalse => cases h
  rename_i hrd
  obtain ⟨H1, hH1, h⟩ := ob_eq h
  obtain ⟨o, ho, h⟩ := ob_eq h
  obtain ⟨hca, hcb, hpl⟩ := hX.rok f ps as bd hrok
  obtain ⟨rc, hm, hrc, hbl, _⟩ := hi.st (b := b) (st' := .busy) hk hl hkk
  have husz : us.size = rc.params.size := by
    have h1 := hr.length
    have h2 : rc.params.toList.length = ps.length := by rw [hrc.ps]
    simp at h1 h2
    omega
  refine ⟨rc, hm, husz, fun N => roundIn_of_wpIn trivial ?_⟩
  have hfold : (rc.params.zip us).foldl (fun tmps (p : Tmp × Value) => tmps.setIfInBounds p.1 p.2) rc.tmps = (ps.zip us.toList).foldl (fun tmps (p : Tmp × Value) => tmps.setIfInBounds p.1 p.2) rc.tmps := by
    rw [← hrc.ps, ← Array.toList_zip, Array.foldl_toList]
  have hpsz : ∀ p ∈ ps, p < rc.tmps.size := fun p hp => Nat.lt_of_lt_of_le (hpl p hp) (by rw [← hnt]; exact hrc.nt)
  have hnt' : ntOf X.P f ≤ rc.tmps.size := by rw [← hnt]; exact hrc.nt
  have hg0 := good_start hi (roundEnv ps args env)
  have hsz : ((rc.params.zip us).foldl (fun tmps (p : Tmp × Value) => tmps.setIfInBounds p.1 p.2) rc.tmps).size = rc.tmps.size := by rw [hfold, fold_size]
  have hh0 : Here L w base rc.tmps.size (some []) { env := roundEnv ps args env, heap := H, toks := K, nh := H.length } { tmps := (rc.params.zip us).foldl (fun tmps (p : Tmp × Value) => tmps.setIfInBounds p.1 p.2) rc.tmps, defers := [] } w := by
    refine ⟨L, Ext.refl _ _ _, hi, fun t => ?_, hsz, [], rfl, List.nodup_nil, fun D hD => by cases hD⟩
    have := roundEnv_ok (nt := nt) ps args us.toList env rc.tmps hpsz hr hlen hrc.env t
    simp only [hfold]
    exact this
  have hro : ∀ l', some l = some l' → ∃ r, w.heap[l']? = some (.loop r) := fun l' e => by cases e; exact ⟨rc, hm⟩
  have hp1 := pres_exec hpc hps as _ _ (Nat.le_refl _) ho1
  have hg1 : Good L s1 := hg0.pres hp1
  rw [hrc.as]
  refine wpIn_mono (exec_sound (ro := some l) (by simp) hnt' hro hX.prog hcl hsc hic hpc hps as _ _ _ w (CodeOK.mono hnt' as hca) ho1 hg0 hh0) fun e a1 w1 hpost => ?_
  cases e <;> first | exact hpost.elim | skip
  obtain ⟨L1, hat1⟩ := hpost
  have hl1 : L1.hp b = some (l, sz) := hat1.ext.hp b _ hl
  obtain ⟨rc1, hm1, hst1, _, h1⟩ := Inv.putSt (Hl := s1.heap) hat1.inv hH1 hl1
  obtain ⟨hx1, hi1⟩ := h1 { rc1 with state := .busy } rfl rfl rfl rfl rfl rfl
  have hh1 : Here L w base rc.tmps.size (some []) { s1 with heap := H1 } a1 (w1.putObj l (.loop { rc1 with state := .busy })) :=
    ⟨L1, hat1.ext.trans hx1, hi1, fun t => Rep.ext hx1 _ _ (hat1.env t), hat1.size, hat1.defers.oth hx1.oth⟩
  have hg2 : Good L { s1 with heap := H1 } := ⟨by rw [putSt_length hH1]; exact hg1.nh, old_putSt hH1 hg1.old, hg1.hp, hg1.tk⟩
  refine ⟨_, run_beginRound hm1 (hst1 hrd), ?_⟩
  rw [hrc.bd]
  have hp2 := pres_exec hpc hps bd _ _ hg2.nh ho
  refine wpIn_mono (exec_sound (ro := some l) (by simp) hnt' hro hX.prog hcl hsc hic hpc hps bd _ _ _ _ (CodeOK.mono hnt' bd hcb) ho hg2 hh1) fun e a2 w2 hpost => ?_
  have hg3 := hg2.pres hp2
  cases o with
  | next s2 =>
    cases e <;> first | exact hpost.elim | skip
    obtain ⟨L2, hat2⟩ := hpost
    obtain ⟨H2, hH2, h⟩ := ob_eq h
    cases h
    exact round_end hg3 hat2.ext hat2.inv hl hH2 (.inl ⟨rfl, rfl, rfl⟩)
  | ret s2 =>
    cases e <;> first | exact hpost.elim | skip
    obtain ⟨L2, hat2⟩ := hpost
    obtain ⟨H2, hH2, h⟩ := ob_eq h
    cases h
    exact round_end hg3 hat2.ext hat2.inv hl hH2 (.inr ⟨_, rfl, rfl, rfl⟩)
  | exit i s2 =>
    cases e <;> first | exact hpost.elim | skip
    obtain ⟨rfl, L2, hat2⟩ := hpost
    obtain ⟨H2, hH2, h⟩ := ob_eq h
    cases h
    exact round_end hg3 hat2.ext hat2.inv hl hH2 (.inr ⟨_, rfl, rfl, rfl⟩)
  | panic v s2 => cases h
theorem pres_round {n : Nat} (hpc : PresC (callN X n)) (hps : PresC (scall X (callN X n))) {b : Nat} {args : List AV} {H : List Blk} {K : List Nat} {r : Res × List Blk × List Nat} (h : roundOf X (exec X (callN X n) n) b args H K = some r) :
    H.length ≤ r.2.1.length ∧ K.length ≤ r.2.2.length ∧ ∀ n, n ≤ H.length → OldB n (lH H) → OldB n (lH r.2.1) := by
  unfold roundOf at h
  obtain ⟨k, hk, h⟩ := ob_eq h
  split at h
  case h_2 => cases h
  rename_i f nt env ps as bd st hkk
  split at h
  case h_2 => cases h
  split at h
  case isFalse => cases h
  obtain ⟨o1, ho1, h⟩ := ob_eq h
  split at h
  case h_2 => cases h
  rename_i s1
  split at h
  case isFalse => cases h
  obtain ⟨H1, hH1, h⟩ := ob_eq h
  obtain ⟨o, ho, h⟩ := ob_eq h
  have hp1 := pres_exec hpc hps as _ _ (Nat.le_refl _) ho1
  have e1 : s1.nh = H.length := hp1.nh
  have e2 : H.length ≤ s1.heap.length := hp1.heap
  have e3 := putSt_length hH1
  have hp2 := pres_exec hpc hps bd { s1 with heap := H1 } _ (by simp only; omega) ho
  have f1 : o.st.nh = H.length := hp2.nh.trans e1
  have f2 : H1.length ≤ o.st.heap.length := hp2.heap
  have f3 : K.length ≤ o.st.toks.length := Nat.le_trans hp1.toks hp2.toks
  have old : ∀ m, m ≤ H.length → OldB m (lH H) → OldB m o.st.H := fun m hm ho => hp2.old m (by simp only; omega) (by simp only; omega) (old_putSt hH1 (hp1.old m hm hm ho))
  have fin' : ∀ st H', putSt (o.st.heap.take o.st.nh) b st = some H' → H.length ≤ H'.length ∧ ∀ m, m ≤ H.length → OldB m (lH H) → OldB m (lH H') := fun st H' hp => by
    refine ⟨by rw [putSt_length hp]; simp; omega, fun m hm ho => old_putSt hp ((old m hm ho).congr fun b hb => ?_)⟩
    simp only [lH, List.getElem?_take, if_pos (show b < o.st.nh by omega)]
    rfl
  cases o with
  | next s2 =>
    obtain ⟨H2, hH2, h⟩ := ob_eq h
    cases h
    exact ⟨(fin' _ _ hH2).1, f3, (fin' _ _ hH2).2⟩
  | ret s2 =>
    obtain ⟨H2, hH2, h⟩ := ob_eq h
    cases h
    exact ⟨(fin' _ _ hH2).1, f3, (fin' _ _ hH2).2⟩
  | exit i s2 =>
    obtain ⟨H2, hH2, h⟩ := ob_eq h
    cases h
    exact ⟨(fin' _ _ hH2).1, f3, (fin' _ _ hH2).2⟩
  | panic v s2 => cases h
theorem dfrOf_eq {c a rest : Code} {h : FuncId} {caps : List Operand} {d : Nat} (hp : dfrOf c = some (a, h, caps, d, rest)) :
    ∃ id ops o1 o2 capsA args ts, c = .seq a (.seq (.region id ops false) rest) ∧ ops.toList = [o1, o2] ∧ o1.dst = some d ∧ o1.op = .makeFunc (.func h) #[] capsA ∧ capsA.toList = caps ∧ o1.guard = none ∧
      o2.dst = none ∧ o2.op = .defer ⟨.value (.tmp d), args, ts⟩ ∧ args = #[] ∧ o2.guard = none := by
  unfold dfrOf at hp
  split at hp
  case h_2 => cases hp
  rename_i a' id ops dr rest'
  split at hp
  case h_2 => cases hp
  rename_i o1 o2 hops
  split at hp
  case h_2 => cases hp
  rename_i d' h' first capsA d2 args ts e1 e2 e3 e4 e5 e6
  split at hp
  case isFalse => cases hp
  rename_i hc
  obtain ⟨rfl, hf, ha⟩ := hc
  cases hp
  have hf' : first = #[] := by cases first with | mk l => cases l <;> simp_all
  have ha' : args = #[] := by cases args with | mk l => cases l <;> simp_all
  subst hf' ha'
  exact ⟨id, ops, o1, o2, capsA, #[], ts, rfl, hops, e1, e2, rfl, e3, e4, e5, rfl, e6⟩
theorem recOf_eq {c rest : Code} {d : Nat} (hp : recOf c = some (d, rest)) :
    ∃ id ops o args ts, c = .seq (.region id ops false) rest ∧ ops.toList = [o] ∧ o.dst = some d ∧ o.op = .call ⟨.builtin .recover, args, ts⟩ ∧ args = #[] ∧ o.guard = none := by
  unfold recOf at hp
  split at hp
  case h_2 => cases hp
  rename_i id ops dr rest'
  split at hp
  case h_2 => cases hp
  rename_i o hops
  split at hp
  case h_2 => cases hp
  rename_i d' args ts e1 e2 e3
  split at hp
  case isFalse => cases hp
  rename_i ha
  cases hp
  have ha' : args = #[] := by cases args with | mk l => cases l <;> simp_all
  subst ha'
  exact ⟨id, ops, o, #[], ts, rfl, hops, e1, e2, rfl, e3⟩
/-- What a deferred call finds, and what it recovers. -/
def ModeOK (L : Lay) (w : World) (u : FrameMode) (pv : AV) : Prop := (u = .returning ∧ pv = .niface) ∨ ∃ v, u = .panicking [{ v := v, recovered := false }] ∧ Rep L w pv v
section
variable {n : Nat} (hX : SymOK X) (hcl : CallsOK X.P (callN X n)) (hpc : PresC (callN X n)) (hps : PresC (scall X (callN X n))) (hsc : ScallsOK X (callN X n)) (hic : IcallsOK X (callN X n))
include hpc hps
theorem runD_pres {h : FuncId} {caps : List AV} {pv : AV} {H : List Blk} {K : List Nat} {q : List Blk × List Nat} (hr : runD X (exec X (callN X n) n) h caps pv H K = some q) :
    q.1.length = H.length ∧ K.length ≤ q.2.length ∧ ∀ m, m ≤ H.length → OldB m (lH H) → OldB m (lH q.1) := by
  unfold runD at hr
  obtain ⟨fn, _, hr⟩ := ob_eq hr
  obtain ⟨c, _, hr⟩ := ob_eq hr
  obtain ⟨p, _, hr⟩ := ob_eq hr
  split at hr
  case isFalse => cases hr
  obtain ⟨o, ho, hr⟩ := ob_eq hr
  have hp1 := (pres_put { env := envOf 0 caps, heap := H, toks := K, nh := H.length } (some p.1) pv).trans (pres_exec hpc hps p.2 _ o (by simp [St.put]) ho)
  have e1 : o.st.nh = H.length := hp1.nh
  have e2 : H.length ≤ o.st.heap.length := hp1.heap
  have fin' : endD o = some (o.st.heap.take o.st.nh, o.st.toks) → (o.st.heap.take o.st.nh).length = H.length ∧ K.length ≤ o.st.toks.length ∧ ∀ m, m ≤ H.length → OldB m (lH H) → OldB m (lH (o.st.heap.take o.st.nh)) := fun _ => by
    refine ⟨by simp; omega, hp1.toks, fun m hm hold => (hp1.old m hm hm hold).congr fun b hb => ?_⟩
    simp only [lH, List.getElem?_take, if_pos (show b < o.st.nh by omega)]
    rfl
  cases o with
  | next s => cases hr; exact fin' rfl
  | ret s => cases hr; exact fin' rfl
  | exit i s => cases hr
  | panic v s => cases hr
include hX hcl hsc hic
theorem runD_sound {h : FuncId} {caps : List AV} {pv : AV} {H : List Blk} {K : List Nat} {q : List Blk × List Nat} (hr : runD X (exec X (callN X n) n) h caps pv H K = some q) {L : Lay} {w : World} {base : Nat} {ws : Array Value} {u : FrameMode}
    (hi : Inv L (lH H) (lK K) w base) (hws : RepL L w caps ws.toList) (hu : ModeOK L w u pv) :
    Body X.P h ∧ CallsDIn Fence.wide 0 X.P h ws u w fun e u' w' => (∃ v, e = .returned v) ∧ settle u' = .returning ∧ ∃ L', Ext base L w L' w' ∧ Inv L' (lH q.1) (lK q.2) w' base := by
  unfold runD at hr
  obtain ⟨fn, hf, hr⟩ := ob_eq hr
  obtain ⟨c, hc, hr⟩ := ob_eq hr
  obtain ⟨p, hp, hr⟩ := ob_eq hr
  obtain ⟨d, rest⟩ := p
  split at hr
  case isFalse => cases hr
  rename_i hcd
  obtain ⟨hh, hrng, hlen, hres, hd⟩ := hcd
  simp only at hd hr
  obtain ⟨o, ho, hr⟩ := ob_eq hr
  obtain ⟨id, ops, op, args, ts, rfl, hops, hdst, hop, rfl, hg⟩ := recOf_eq hp
  have hres' : fn.results = #[] := by
    cases hq : fn.results with
    | mk l => rw [hq] at hres; cases l <;> simp_all
  obtain ⟨hcd1, hcd2⟩ := hX.code h fn _ hh hf hc
  refine ⟨⟨fn, hf, by rw [hc]; rfl⟩, callsDIn_of_wpSIn hf hc trivial fun c₀ cs hmode => ?_⟩
  have hops0 : ops[0]? = some op := by
    have : ops.toList[0]? = some op := by rw [hops]; rfl
    simpa using this
  have hsize : ops.size = 1 := by
    have : ops.toList.length = 1 := by rw [hops]; rfl
    simpa using this
  have hrun : ∀ (a : Act), (execOp a.eval op).run X.P w = .ok .recover w := fun a => by
    unfold execOp
    simp [hop, resolve, invoke, builtin]
  have hgo := good_start hi (envOf 0 caps)
  -- from the recovered value on
  have go : ∀ (v : Value) (cs' : List Frame) (u' : FrameMode), cs' = { c₀ with mode := u' } :: cs → settle u' = .returning → Rep L w pv v →
      rest.wpSIn Fence.wide 0 X.P (bodyPostS X.P fn c₀ cs fun e u' w' => (∃ v, e = .returned v) ∧ settle u' = .returning ∧ ∃ L', Ext base L w L' w' ∧ Inv L' (lH q.1) (lK q.2) w' base)
        (({ tmps := ws ++ Array.replicate (fn.ntmps - ws.size) undef, defers := [] } : Act).put (some d) v) cs' w := fun v cs' u' hcs hset hv => by
    refine wpSIn_of_wpIn rfl ?_
    have hsz : (ws ++ Array.replicate (fn.ntmps - ws.size) undef).size = ws.size + (fn.ntmps - ws.size) := by simp
    have henv0 : EnvOK L w (get (envOf 0 caps)) { tmps := ws ++ Array.replicate (fn.ntmps - ws.size) undef, defers := [] } := fun t => by
      simp only [envOf_get, Nat.zero_le, if_true, Nat.sub_zero]
      cases ht : caps[t]? with
      | none => simp [Rep]
      | some x =>
        obtain ⟨u, hu, hrep⟩ := hws.get ht
        have hu' : ws[t]? = some u := by simpa using hu
        have hlt : t < ws.size := (Array.getElem?_eq_some_iff.1 hu').1
        have : (ws ++ Array.replicate (fn.ntmps - ws.size) undef).getD t undef = u := by
          rw [Array.getD_eq_getD_getElem?, Array.getElem?_append_left hlt, hu']
          rfl
        rw [this]
        exact hrep
    have hh0 : Here L w base (ws.size + (fn.ntmps - ws.size)) none (St.put { env := envOf 0 caps, heap := H, toks := K, nh := H.length } (some d) pv) (({ tmps := ws ++ Array.replicate (fn.ntmps - ws.size) undef, defers := [] } : Act).put (some d) v) w := by
      refine ⟨L, Ext.refl _ _ _, hi, ?_, by rw [size_put]; exact hsz, rfl⟩
      rw [get_put]
      exact henv0.put (fun x hx => by cases hx; rw [hsz]; omega) hv
    have hnt : ntOf X.P h ≤ ws.size + (fn.ntmps - ws.size) := by simp only [ntOf, hf]; omega
    have hg0 : Good L (St.put { env := envOf 0 caps, heap := H, toks := K, nh := H.length } (some d) pv) := ⟨hgo.nh, hgo.old, hgo.hp, hgo.tk⟩
    have hpo := pres_exec hpc hps rest _ o (Nat.le_refl _) ho
    have hg1 := hg0.pres hpo
    refine wpIn_mono (exec_sound (ro := none) (N := 0) (fun _ => hrng) hnt (fun l e => by cases e) hX.prog hcl hsc hic hpc hps rest _ o _ w (CodeOK.mono (by omega) rest hcd2) ho hg0 hh0) fun e a' w' hpost => ?_
    have out : ∀ s, endD o = some (s.heap.take s.nh, s.toks) → o.st = s → Here L w base (ws.size + (fn.ntmps - ws.size)) none s a' w' →
        a'.defers = [] ∧ ∃ u'', cs' = { c₀ with mode := u'' } :: cs ∧ ∃ v, (results fn a'.tmps).run X.P w' = .ok v w' ∧ ((∃ v', Ending.returned v = .returned v') ∧ settle u'' = .returning ∧ ∃ L', Ext base L w L' w' ∧ Inv L' (lH (s.heap.take s.nh)) (lK s.toks) w' base) := fun s _ hs ⟨L', hat⟩ => by
      subst hs
      refine ⟨hat.defers, u', hcs, .tuple #[], by unfold results; rw [hres']; simp, ⟨_, rfl⟩, hset, L'.res o.st.nh o.st.toks.length, hat.ext.res hg1.hp hg1.tk, inv_drop hg1 hat.inv⟩
    cases o with
    | next s =>
      cases hr
      cases e <;> first | exact hpost.elim | exact out s rfl rfl hpost
    | ret s =>
      cases hr
      cases e <;> first | exact hpost.elim | exact out s rfl rfl hpost
    | exit i s => cases hr
    | panic v s => cases hr
  refine wpSIn_seq (wpSIn_region ?_)
  rw [hsize]
  show wpOpsSIn Fence.wide 0 X.P ops _ [0] _ _ w
  simp only [wpOpsSIn, hops0]
  refine ⟨fun _ _ => trivial, ?_⟩
  have hwant : Region.wanted op (yielded ops (ws ++ Array.replicate (fn.ntmps - ws.size) undef)) = true := by simp [Region.wanted, hg]
  rw [if_pos hwant, hrun]
  simp only [hdst]
  rcases hu with ⟨rfl, rfl⟩ | ⟨v, rfl, hv⟩
  · have hrec : recoverD (c₀ :: cs) = none := by simp [recoverD, hmode]
    rw [hrec]
    exact go .nilIface (c₀ :: cs) .returning (by rw [← hmode]) rfl (by simp [Rep])
  · have hrec : recoverD (c₀ :: cs) = some (v, { c₀ with mode := .panicking [{ v := v, recovered := true }] } :: cs) := by simp [recoverD, hmode]
    rw [hrec]
    exact go v _ _ rfl (by simp [settle]) hv
theorem callD_sound {g : FuncId} {fn : Func} {c : Code} {args : List AV} {H : List Blk} {K : List Nat} {r : Res × List Blk × List Nat} (hf : X.P.funcs[g]? = some fn) (hb : fn.body = some c) (hh : X.has g = true) (hrng : X.rng g = false)
    (h : callD X (exec X (callN X n) n) g fn.results.toList c { env := envOf 0 args, heap := H, toks := K, nh := H.length } = some r) {L : Lay} {w : World} {base : Nat} {us : Array Value} (hi : Inv L (lH H) (lK K) w base) (hr : RepL L w args us.toList) :
    Calls X.P g us w (Ends base L w r) := by
  unfold callD at h
  obtain ⟨p, hp, h⟩ := ob_eq h
  obtain ⟨a, hf2, caps, d, rest⟩ := p
  obtain ⟨o1, ho1, h⟩ := ob_eq h
  simp only at ho1 h
  split at h
  case h_2 => cases h
  rename_i s1
  obtain ⟨o, ho, hfin⟩ := ob_eq h
  clear h
  obtain ⟨id, ops, op1, op2, capsA, dargs, ts, rfl, hops, e1, e2, rfl, e3, e4, e5, rfl, e6⟩ := dfrOf_eq hp
  obtain ⟨hc1, hc2, hc3⟩ := hX.code g fn _ hh hf hb
  have hdl : (none : Option (List Deferred)) = none → X.rng g = false := fun _ => hrng
  refine (callsIn_wide (n := 0)).1 (callsIn_of_wp_marks hf hb trivial ?_)
  have hsz : (us ++ Array.replicate (fn.ntmps - us.size) undef).size = us.size + (fn.ntmps - us.size) := by simp
  have hg := good_start hi (envOf 0 args)
  have hhere : Here L w base (us.size + (fn.ntmps - us.size)) none { env := envOf 0 args, heap := H, toks := K, nh := H.length } { tmps := us ++ Array.replicate (fn.ntmps - us.size) undef, defers := [] } w := by
    refine ⟨L, Ext.refl _ _ _, hi, fun t => ?_, hsz, rfl⟩
    simp only [envOf_get, Nat.zero_le, if_true, Nat.sub_zero]
    cases ht : args[t]? with
    | none => simp [Rep]
    | some v =>
      obtain ⟨u, hu, hrep⟩ := hr.get ht
      have hu' : us[t]? = some u := by simpa using hu
      have hlt : t < us.size := (Array.getElem?_eq_some_iff.1 hu').1
      have : (us ++ Array.replicate (fn.ntmps - us.size) undef).getD t undef = u := by
        rw [Array.getD_eq_getD_getElem?, Array.getElem?_append_left hlt, hu']
        rfl
      rw [this]
      exact hrep
  have hnt : ntOf X.P g ≤ us.size + (fn.ntmps - us.size) := by simp only [ntOf, hf]; omega
  have hp1 := pres_exec hpc hps a _ _ (Nat.le_refl _) ho1
  have hg1 : Good L s1 := hg.pres hp1
  -- what the closure captures, at the end
  refine wpIn_seq (wpIn_mono (exec_sound (ro := none) (N := 0) hdl hnt (fun l e => by cases e) hX.prog hcl hsc hic hpc hps a _ _ _ w (CodeOK.mono (by omega) a hc1) ho1 hg hhere) fun e a1 w1 hpost => ?_)
  cases e <;> first | exact hpost.elim | skip
  obtain ⟨L1, hat1⟩ := hpost
  have hops0 : ops[0]? = some op1 := by
    have : ops.toList[0]? = some op1 := by rw [hops]; rfl
    simpa using this
  have hops1 : ops[1]? = some op2 := by
    have : ops.toList[1]? = some op2 := by rw [hops]; rfl
    simpa using this
  have hsize : ops.size = 2 := by
    have : ops.toList.length = 2 := by rw [hops]; rfl
    simpa using this
  have hd : d < us.size + (fn.ntmps - us.size) := Nat.lt_of_lt_of_le (hc2.dst 0 op1 d hops0 e1) (by omega)
  refine wpIn_seq (wpIn_region (F := rf none) ?_)
  rw [hsize]
  show wpOpsIn (rf none) 0 X.P ops _ [0, 1] a1 w1
  rw [wpOpsIn_cons]
  unfold wpOpIn
  rw [hops0]
  simp only
  rw [if_pos (by simp [Region.wanted, e3])]
  have hgo1 : opGo X (callN X n) g false op1 s1 (fun s => some (.next s)) = some (.next (s1.put (some d) (.fn hf2 (evL (get s1.env) capsA.toList)))) := by
    unfold opGo
    simp [e2, effOf, ob, St.ap, e1]
  refine op_step (ro := none) (n := 0) hX.prog hcl hsc hic hgo1 hat1 (fun x hx => by rw [e1] at hx; cases hx; exact hd) (fun s2 L2 a2 w2 hk hat2 => ?_) fun v s2 ch w2 hout _ _ => by cases hout
  cases hk
  rw [wpOpsIn_cons]
  unfold wpOpIn
  rw [hops1]
  simp only
  rw [if_pos (by simp [Region.wanted, e6])]
  have hfv := hat2.env d
  rw [St.fs_put] at hfv
  simp only [FS.put, setE, if_true] at hfv
  obtain ⟨ws, hwu, hws⟩ := by simpa only [Rep] using hfv
  have hrun : (execOp a2.eval op2).run X.P w2 = .ok (.defer { target := .fn (.func hf2) ws, args := #[] }) w2 := by
    have hev : a2.eval (.tmp d) = .func (.func hf2) #[] ws := hwu
    unfold execOp
    simp [e5, resolve, Deferred.ofValue, hev]
  refine ⟨fun _ _ => trivial, ?_⟩
  rw [show op2.semAt (rf none).round a2.eval = execOp a2.eval op2 from rfl, hrun, Oper.uponIn_defer]
  rw [e4]
  show rest.wpIn (rf none) 0 X.P _ { a2 with defers := _ :: a2.defers } w2
  have hd2 : a2.defers = [] := hat2.defers
  have hin2 : Inv L2 (lH s1.heap) (lK s1.toks) w2 base := hat2.inv
  have hh2 : Here L2 w2 base (us.size + (fn.ntmps - us.size)) (some [{ target := .fn (.func hf2) ws, args := #[] }]) { (s1.put (some d) (.fn hf2 (evL (get s1.env) capsA.toList))) with nh := s1.heap.length } { a2 with defers := { target := .fn (.func hf2) ws, args := #[] } :: a2.defers } w2 :=
    ⟨L2, Ext.refl _ _ _, hat2.inv, hat2.env, hat2.size, [], by rw [hd2]; rfl, List.nodup_nil, fun D hD => by cases hD⟩
  have hg2 : Good L2 { (s1.put (some d) (.fn hf2 (evL (get s1.env) capsA.toList))) with nh := s1.heap.length } := good_start hin2 _
  have hp2 := pres_exec hpc hps rest _ o (Nat.le_refl _) ho
  have hg3 := hg2.pres hp2
  have n1 : s1.nh = H.length := hp1.nh
  have n2 : H.length ≤ s1.heap.length := hp1.heap
  have n3 : s1.heap.length ≤ o.st.heap.length := hp2.heap
  have n4 : s1.toks.length ≤ o.st.toks.length := hp2.toks
  refine wpIn_mono (exec_sound (ro := none) (N := 0) (by simp) hnt (fun l e => by cases e) hX.prog hcl hsc hic hpc hps rest _ o _ w2 (CodeOK.mono (by omega) rest hc3) ho hg2 hh2) fun e a' w' hpost => ?_
  -- the way out
  have out : ∀ (s : St) (pv : AV) (u : FrameMode), o.st = s → (u = .returning ∧ pv = .niface ∨ ∃ v, u = .panicking [{ v := v, recovered := false }] ∧ True) → u ≠ .run →
      (ob (runD X (exec X (callN X n) n) hf2 (evL (get s1.env) capsA.toList) pv s.heap s.toks) fun q => leave X.P false fn.results.toList { s with heap := q.1, toks := q.2, nh := s1.nh }) = some r →
      ∀ (L3 : Lay), Ext base L2 w2 L3 w' → Inv L3 s.H s.K w' base → EnvOK L3 w' (get s.env) a' → Dfr w2 w' (some [{ target := .fn (.func hf2) ws, args := #[] }]) a'.defers →
      (∀ w3, (∀ g o : Nat, w3.cell? ⟨g, o, none⟩ = w'.cell? ⟨g, o, none⟩) → ModeOK L3 w3 u pv) → LeavesInM Fence.wide 0 X.P fn a'.tmps (Ends base L w r) a'.defers u w' := fun s pv u hs _ hur hq L3 hx3 hi3 he3 hdf hmode => by
    obtain ⟨q, hrun, hlv⟩ := ob_eq hq
    obtain ⟨Ds, f1, f2, f3⟩ := hdf
    rw [f1]
    refine leave_marks (s := s) hur hin2.top Ds w' hx3 hi3 he3 f2 f3 fun w3 hx4 hi4 he4 hsame => ?_
    have hcaps : RepL L3 w3 (evL (get s1.env) capsA.toList) ws.toList := RepL.ext hx4 _ _ hws
    obtain ⟨hbody, hcd⟩ := runD_sound hX hcl hpc hps hsc hic hrun hi4 hcaps (hmode w3 hsame)
    obtain ⟨m1, m2, m3⟩ := runD_pres hpc hps hrun
    obtain ⟨fnh, g1, g2⟩ := hbody
    have hnm := hX.prog.names hf2 fnh g1
    have hnm' : ¬ fnh.name = "runtime.NumGoroutine" := by
      intro e
      rw [e] at hnm
      simp at hnm
    have hb' : ¬ fnh.body = none := by
      intro e
      simp [e] at g2
    refine ⟨hur, .inr ⟨room_rf (o := none), .func hf2, ws, hf2, ws, rfl, by simp [invoke, callFunc, g1, hnm', hb'], fun _ _ => trivial, hcd.mono fun e u' w4 hR => ?_⟩⟩
    obtain ⟨⟨v, rfl⟩, hset, L5, hx5, hi5⟩ := hR
    have hlow : ∀ t, below s.heap.length (get s.env t) = true := fun t => Rep.below (fun b x hb => by
      obtain ⟨k, hk, _⟩ := hi4.dom' b x.1 x.2 hb
      exact lt_of_lH (H := s.heap) (by rw [← St.H_eq, hk]; simp)) _ _ (he4 t)
    have hgl : Good L { s with heap := q.1, toks := q.2, nh := s1.nh } := by
      refine ⟨by simp only; rw [m1, ← hs]; omega, ?_, fun b x hb => by simp only; rw [n1]; exact hg.hp b x hb, fun t k ht => ?_⟩
      · have h0 : OldB s1.nh o.st.H := hp2.old s1.nh (by simp only; omega) (by simp only [St.put]; omega) hg1.old
        rw [← hs]
        rw [← hs] at m3
        exact m3 s1.nh (by omega) h0
      · have := hg1.tk t k ht
        simp only
        rw [← hs] at m2
        omega
    simp only [hset]
    show ∃ v, _ ∧ _
    obtain ⟨v2, hv2, he⟩ := leave_sound hgl ((hat2.ext.trans hx4).trans hx5) hi5 (fun t => Rep.ext hx5 _ _ (he4 t)) hlv
    exact ⟨v2, hv2, he⟩
  cases o with
  | next s =>
    cases e <;> first | exact hpost.elim | skip
    obtain ⟨L3, hat3⟩ := hpost
    exact out s .niface .returning rfl (.inl ⟨rfl, rfl⟩) (by simp) hfin L3 hat3.ext hat3.inv hat3.env hat3.defers fun _ _ => .inl ⟨rfl, rfl⟩
  | ret s =>
    cases e <;> first | exact hpost.elim | skip
    obtain ⟨L3, hat3⟩ := hpost
    exact out s .niface .returning rfl (.inl ⟨rfl, rfl⟩) (by simp) hfin L3 hat3.ext hat3.inv hat3.env hat3.defers fun _ _ => .inl ⟨rfl, rfl⟩
  | exit i s => cases hfin
  | panic v s =>
    cases e <;> first | exact hpost.elim | skip
    obtain ⟨hdf, L3, u, rfl, hx3, hi3, hr3, he3⟩ := hpost
    exact out s v (.panicking [{ v := u, recovered := false }]) rfl (.inr ⟨u, rfl, trivial⟩) (by simp) hfin L3 hx3 hi3 he3 hdf fun w3 hsame => .inr ⟨u, rfl, Rep.same hsame _ _ hr3⟩
end
theorem callD_pres {n : Nat} (hpc : PresC (callN X n)) (hps : PresC (scall X (callN X n))) {g : FuncId} {rs : List ResultVar} {c : Code} {args : List AV} {H : List Blk} {K : List Nat} {r : Res × List Blk × List Nat}
    (h : callD X (exec X (callN X n) n) g rs c { env := envOf 0 args, heap := H, toks := K, nh := H.length } = some r) : H.length ≤ r.2.1.length ∧ K.length ≤ r.2.2.length ∧ ∀ n, n ≤ H.length → OldB n (lH H) → OldB n (lH r.2.1) := by
  unfold callD at h
  obtain ⟨p, hp, h⟩ := ob_eq h
  obtain ⟨o1, ho1, h⟩ := ob_eq h
  split at h
  case h_2 => cases h
  rename_i s1
  obtain ⟨o, ho, hfin⟩ := ob_eq h
  have hp1 := pres_exec hpc hps p.1 _ _ (Nat.le_refl _) ho1
  have hp2 := pres_exec hpc hps p.2.2.2.2 _ o (Nat.le_refl _) ho
  have n1 : s1.nh = H.length := hp1.nh
  have n2 : H.length ≤ s1.heap.length := hp1.heap
  have n3 : s1.heap.length ≤ o.st.heap.length := hp2.heap
  have n4 : s1.toks.length ≤ o.st.toks.length := hp2.toks
  have n5 : K.length ≤ s1.toks.length := hp1.toks
  have out : ∀ (pv : AV), (ob (runD X (exec X (callN X n) n) p.2.1 (evL (get s1.env) p.2.2.1) pv o.st.heap o.st.toks) fun q => leave X.P false rs { o.st with heap := q.1, toks := q.2, nh := s1.nh }) = some r →
      H.length ≤ r.2.1.length ∧ K.length ≤ r.2.2.length ∧ ∀ n, n ≤ H.length → OldB n (lH H) → OldB n (lH r.2.1) := fun pv hq => by
    obtain ⟨q, hrun, hlv⟩ := ob_eq hq
    obtain ⟨m1, m2, m3⟩ := runD_pres hpc hps hrun
    obtain ⟨f1, f2, f3⟩ := pres_leave (by simp only; omega) hlv
    simp only at f1 f2 f3
    refine ⟨by omega, by rw [f2]; omega, fun m hm hold => f3 m (by omega) (m3 m (by omega) (hp2.old m (by simp only; omega) (by simp only [St.put]; omega) (hp1.old m hm hm hold)))⟩
  cases o with
  | next s => exact out _ hfin
  | ret s => exact out _ hfin
  | panic v s => exact out _ hfin
  | exit i s => cases hfin
theorem callN_sound (hX : SymOK X) : ∀ n, CallsOK X.P (callN X n) ∧ PresC (callN X n)
  | 0 => ⟨⟨fun g as H K r _ h => by simp [callN] at h, fun b as H K r h => by simp [callN] at h⟩, fun g as H K r h => by simp [callN] at h⟩
  | n + 1 => by
    obtain ⟨hcl, hpc⟩ := callN_sound hX n
    have hic := icalls_sound hX hcl
    have hsc := scalls_sound hX hcl
    have hps := pres_scall hX hpc
    have open0 : ∀ g args H K r, g < rid → callN X (n + 1) g args H K = some r → ∃ fn c, X.P.funcs[g]? = some fn ∧ fn.body = some c ∧ X.has g = true ∧
        ((∃ o, exec X (callN X n) n g c { env := envOf 0 args, heap := H, toks := K, nh := H.length } = some o ∧ fin X.P (X.raw g) fn.results.toList o = some r) ∨
          (X.rng g = false ∧ callD X (exec X (callN X n) n) g fn.results.toList c { env := envOf 0 args, heap := H, toks := K, nh := H.length } = some r)) := fun g args H K r hg h => by
      simp only [callN, if_pos hg] at h
      obtain ⟨fn, hf, h⟩ := ob_eq h
      obtain ⟨c, hc, h⟩ := ob_eq h
      split at h
      · rename_i hh
        split at h
        · obtain ⟨o, ho, h⟩ := ob_eq h
          exact ⟨fn, c, hf, hc, hh.1, .inl ⟨o, ho, h⟩⟩
        · split at h
          · rename_i hr
            exact ⟨fn, c, hf, hc, hh.1, .inr ⟨hr, h⟩⟩
          · cases h
      · cases h
    have rnd : ∀ (b : Nat) args H K r, callN X (n + 1) (rid + b) args H K = some r → roundOf X (exec X (callN X n) n) b args H K = some r := fun b args H K r h => by
      have e1 : ¬ rid + b < rid := Nat.not_lt.2 (Nat.le_add_right _ _)
      have e2 : rid + b - rid = b := Nat.add_sub_cancel_left ..
      simp only [callN, if_neg e1, e2] at h
      exact h
    refine ⟨⟨fun g args H K r hgr h => ?_, fun b args H K r h L w base us l sz hl hi hr => round_sound hX hcl hpc hps hsc hic (rnd b args H K r h) hl hi hr⟩, fun g args H K r h => ?_⟩
    · obtain ⟨fn, c, hf, hc, hh, hcase⟩ := open0 g args H K r hgr h
      rcases hcase with ⟨o, ho, hfin⟩ | ⟨hrng, hcd⟩
      case inr => exact ⟨⟨fn, hf, by rw [hc]; rfl⟩, fun L w base us hi hr => callD_sound hX hcl hpc hps hsc hic hf hc hh hrng hcd hi hr⟩
      refine ⟨⟨fn, hf, by rw [hc]; rfl⟩, fun L w base us hi hr => (callsIn_wide (n := 0)).1 (callsIn_of_wp_marks hf hc trivial ?_)⟩
      have hsz : (us ++ Array.replicate (fn.ntmps - us.size) undef).size = us.size + (fn.ntmps - us.size) := by simp
      have hg := good_start hi (envOf 0 args)
      have hhere : Here L w base (us.size + (fn.ntmps - us.size)) (some []) { env := envOf 0 args, heap := H, toks := K, nh := H.length } { tmps := us ++ Array.replicate (fn.ntmps - us.size) undef, defers := [] } w := by
        refine ⟨L, Ext.refl _ _ _, hi, fun t => ?_, hsz, [], rfl, List.nodup_nil, fun D hD => by cases hD⟩
        simp only [envOf_get, Nat.zero_le, if_true, Nat.sub_zero]
        cases ht : args[t]? with
        | none => simp [Rep]
        | some v =>
          obtain ⟨u, hu, hrep⟩ := hr.get ht
          have hu' : us[t]? = some u := by simpa using hu
          have hlt : t < us.size := (Array.getElem?_eq_some_iff.1 hu').1
          have : (us ++ Array.replicate (fn.ntmps - us.size) undef).getD t undef = u := by
            rw [Array.getD_eq_getD_getElem?, Array.getElem?_append_left hlt, hu']
            rfl
          rw [this]
          exact hrep
      have hpo := pres_exec hpc hps c _ o (Nat.le_refl _) ho
      have hgo := hg.pres hpo
      have hnt : ntOf X.P g ≤ us.size + (fn.ntmps - us.size) := by simp only [ntOf, hf]; omega
      refine wpIn_mono (exec_sound (ro := none) (N := 0) (by simp) hnt (fun l e => by cases e) hX.prog hcl hsc hic hpc hps c _ o _ w (CodeOK.mono (by omega) c (hX.code g fn c hh hf hc)) ho hg hhere) fun e a' w' hpost => ?_
      have out : ∀ s, leave X.P (X.raw g) fn.results.toList s = some r → Good L s → Here L w base (us.size + (fn.ntmps - us.size)) (some []) s a' w' → LeavesInM Fence.wide 0 X.P fn a'.tmps (Ends base L w r) a'.defers .returning w' := fun s hfin hgo ⟨L', hat⟩ => by
        obtain ⟨Ds, h1, h2, h3⟩ := hat.defers
        rw [h1]
        refine leave_marks (by simp) hi.top Ds w' hat.ext hat.inv hat.env h2 h3 fun w2 hx2 hi2 he2 _ => ?_
        obtain ⟨u, hu, he⟩ := leave_sound hgo hx2 hi2 he2 hfin
        exact ⟨u, hu, he⟩
      cases o with
      | next s =>
        cases e <;> first | exact hpost.elim | skip
        exact out s hfin hgo hpost
      | ret s =>
        cases e <;> first | exact hpost.elim | skip
        exact out s hfin hgo hpost
      | exit i s => cases hfin
      | panic v s =>
        cases e <;> first | exact hpost.elim | skip
        obtain ⟨⟨Ds, h1, h2, h3⟩, L', u, rfl, hx, hi', hr', _⟩ := hpost
        simp only [fin] at hfin
        split at hfin
        · rename_i hp
          cases hfin
          show LeavesInM Fence.wide 0 X.P fn a'.tmps _ a'.defers _ w'
          rw [h1]
          refine leave_marks (L := L') (s := { s with env := [] }) (by simp) hi.top Ds w' hx hi' (fun t => by simp [get, Rep]) h2 h3 fun w2 hx2 hi2 _ hsame => ?_
          simp only [LeavesInM, LeavesIn]
          exact ⟨_, u, rfl, hx2.res hgo.hp hgo.tk, inv_drop (s := s) hgo hi2, Rep.pure keeps_res v u hp (Rep.same hsame _ _ hr')⟩
        · cases hfin
    · by_cases hgr : g < rid
      · obtain ⟨fn, c, hf, hc, hh, hcase⟩ := open0 g args H K r hgr h
        rcases hcase with ⟨o, ho, hfin⟩ | ⟨hrng, hcd⟩
        case inr => exact callD_pres hpc hps hcd
        have hpo := pres_exec hpc hps c _ o (Nat.le_refl _) ho
        have h1 : o.st.nh = H.length := hpo.nh
        have h2 : H.length ≤ o.st.heap.length := hpo.heap
        obtain ⟨f1, f2, f3⟩ := pres_fin (by omega) hfin
        exact ⟨by omega, by rw [f2]; exact hpo.toks, fun m hm hold => f3 m (by omega) (hpo.old m hm hm hold)⟩
      · obtain ⟨b, rfl⟩ : ∃ b : Nat, g = rid + b := ⟨g - rid, (Nat.add_sub_cancel' (Nat.not_lt.1 hgr)).symm⟩
        exact pres_round hpc hps (rnd b args H K r h)
theorem call_sound (hX : SymOK X) : CallsOK X.P (call X) where
  call g args H K r hg h := by
    obtain ⟨n, hn⟩ := call_iff.1 h
    exact (callN_sound hX n).1.call g args H K r hg hn
  round b args H K r h := by
    obtain ⟨n, hn⟩ := call_iff.1 h
    exact (callN_sound hX n).1.round b args H K r hn
end
end Go.Sym
end

section
/- What is asked of code, as a check that the kernel carries out. -/
namespace Go.Sym
open Go.RowKit
def bitsOf (acc : List Nat) : List Edge → Nat
  | [] => 0
  | e :: r => if Region.binds .any e then (bitsOf acc r) ||| ((2 ^ e.on) ||| acc.getD e.on 0) else bitsOf acc r
def befs : List Oper → List Nat → List Nat
  | [], acc => acc
  | o :: r, acc => befs r (acc ++ [bitsOf acc o.after.toList])
def backB : Nat → List Oper → Bool
  | _, [] => true
  | j, o :: r => (o.after.toList.all fun e => !Region.binds .any e || decide (e.on < j)) && backB (j + 1) r
def noWrite (ops : List Oper) (i t : Nat) : Bool := (ops.drop i).all fun o => match o.dst with | some d => d != t | none => true
def spB (ops : List Oper) (l : List (Nat × Nat)) (i : Nat) (oi : Oper) (j : Nat) (oj : Oper) : Bool :=
  match oi.op, oi.guard, oj.op with
  | .load _ (.tmp ti), none, .store _ (.tmp tj) _ => l.contains (ti, tj) && noWrite ops i ti && noWrite ops j tj
  | _, _, _ => false
def pairB (l : List (Nat × Nat)) (ops : Array Oper) (i : Nat) (oi : Oper) (mi : Nat) : Nat → List Oper → List Nat → Bool
  | j, oj :: r, mj :: s => (i == j || mj.testBit i || mi.testBit j || (Oper.apart ops oi oj && (compat oi.op oj.op || spB ops.toList l i oi j oj || spB ops.toList l j oj i oi))) && pairB l ops i oi mi (j + 1) r s
  | _, _, _ => true
def pairsB (l : List (Nat × Nat)) (ops : Array Oper) (all : List Oper) (ms : List Nat) : Nat → List Oper → List Nat → Bool
  | i, oi :: r, mi :: s => pairB l ops i oi mi 0 all ms && pairsB l ops all ms (i + 1) r s
  | _, _, _ => true
def drawB (l : List (Nat × Nat)) (ops : Array Oper) : Bool := backB 0 ops.toList && (let ms := befs ops.toList []; pairsB l ops ops.toList ms 0 ops.toList ms)
def dstB (nt : Nat) (ops : List Oper) : Bool := ops.all fun o => match o.dst with | some d => decide (d < nt) | none => true
/-- Is everything ahead of it, or behind it? -/
def cutB (ms : List Nat) (n c : Nat) : Bool := (List.range c).all (fun i => (ms.getD c 0).testBit i) && (List.range n).all fun j => decide (j ≤ c) || (ms.getD j 0).testBit c
def cutsB (l : List (Nat × Nat)) (ct : Nat → Bool) (ms : List Nat) (n : Nat) : Nat → List Oper → Bool
  | _, [] => true
  | c, o :: r => (!ct (o.dst.getD 0) || (l.isEmpty && cutB ms n c)) && cutsB l ct ms n (c + 1) r
def okCode (sp : Nat → List (Nat × Nat)) (ct : Nat → Bool) (nt : Nat) : Code → Bool
  | .region id ops dr => dstB nt ops.toList && (!dr || (drawB (sp id) ops && cutsB (sp id) ct (befs ops.toList []) ops.size 0 ops.toList))
  | .seq a b => okCode sp ct nt a && okCode sp ct nt b
  | .cond _ a b => okCode sp ct nt a && okCode sp ct nt b
  | .block _ c => okCode sp ct nt c
  | .loop c => okCode sp ct nt c
  | _ => true
def AccOK (ops : Array Oper) (acc : List Nat) : Prop := ∀ j m i, acc[j]? = some m → m.testBit i = true → Anc ops i j
theorem bitsOf_spec {ops : Array Oper} {acc : List Nat} (ha : AccOK ops acc) {j : Nat} {o : Oper} (ho : ops[j]? = some o) : ∀ (l : List Edge), (∀ e ∈ l, e ∈ o.after) → ∀ i, (bitsOf acc l).testBit i = true → Anc ops i j
  | [], _, i, h => by simp [bitsOf] at h
  | e :: r, hl, i, h => by
    have ih := bitsOf_spec ha ho r (fun e he => hl e (List.mem_cons_of_mem _ he)) i
    simp only [bitsOf] at h
    split at h
    · rename_i hb
      simp only [Nat.testBit_or, Bool.or_eq_true] at h
      rcases h with h | h | h
      · exact ih h
      · have : e.on = i := by
          rw [Nat.testBit_two_pow] at h
          simpa using h
        subst this
        exact .edge ho (hl e (List.mem_cons_self ..)) hb
      · rw [List.getD_eq_getElem?_getD] at h
        cases hm : acc[e.on]? with
        | none => rw [hm] at h; simp at h
        | some m =>
          rw [hm] at h
          exact .trans ho (hl e (List.mem_cons_self ..)) hb (ha e.on m i hm h)
    · exact ih h
theorem befs_spec {ops : Array Oper} : ∀ (l : List Oper) (acc : List Nat), AccOK ops acc → (∀ k o, l[k]? = some o → ops[acc.length + k]? = some o) → AccOK ops (befs l acc)
  | [], acc, ha, _ => ha
  | o :: r, acc, ha, hl => by
    refine befs_spec r _ (fun j m i hj hb => ?_) fun k p hk => ?_
    · by_cases h : j < acc.length
      · rw [List.getElem?_append_left h] at hj
        exact ha j m i hj hb
      · rw [List.getElem?_append_right (by omega)] at hj
        have hj0 : j - acc.length = 0 := by
          have := (List.getElem?_eq_some_iff.1 hj).1
          simp at this
          exact this
        rw [hj0] at hj
        cases hj
        have hj' : j = acc.length := by omega
        subst hj'
        exact bitsOf_spec ha (hl 0 o rfl) _ (fun e he => by simpa using he) i hb
    · have := hl (k + 1) p (by simpa using hk)
      simpa [Nat.add_assoc, Nat.add_comm 1 k] using this
theorem backB_spec : ∀ (l : List Oper) (j : Nat), backB j l = true → ∀ k o (e : Edge), l[k]? = some o → e ∈ o.after → Region.binds .any e = true → e.on < j + k
  | [], j, _, k, o, e, h, _, _ => by simp at h
  | x :: r, j, h, k, o, e, hk, he, hb => by
    simp only [backB, Bool.and_eq_true, List.all_eq_true] at h
    cases k with
    | zero =>
      cases hk
      have := h.1 e (by simpa using he)
      simpa [hb] using this
    | succ k =>
      have := backB_spec r (j + 1) h.2 k o e (by simpa using hk) he hb
      omega
theorem pairB_spec {sl : List (Nat × Nat)} {ops : Array Oper} {i : Nat} {oi : Oper} {mi : Nat} : ∀ (l : List Oper) (ms : List Nat) (j : Nat), pairB sl ops i oi mi j l ms = true → ∀ k oj mj, l[k]? = some oj → ms[k]? = some mj →
    i = j + k ∨ mj.testBit i = true ∨ mi.testBit (j + k) = true ∨ (Oper.apart ops oi oj = true ∧ ((compat oi.op oj.op = true ∨ spB ops.toList sl i oi (j + k) oj = true) ∨ spB ops.toList sl (j + k) oj i oi = true))
  | [], _, j, _, k, oj, mj, h, _ => by simp at h
  | _ :: _, [], j, _, k, oj, mj, _, h => by simp at h
  | x :: r, y :: s, j, h, k, oj, mj, h1, h2 => by
    simp only [pairB, Bool.and_eq_true, Bool.or_eq_true, beq_iff_eq] at h
    cases k with
    | zero =>
      cases h1; cases h2
      rcases h.1 with ((h | h) | h) | h
      · exact .inl h
      · exact .inr (.inl h)
      · exact .inr (.inr (.inl h))
      · exact .inr (.inr (.inr h))
    | succ k =>
      have := pairB_spec r s (j + 1) h.2 k oj mj (by simpa using h1) (by simpa using h2)
      rwa [show j + 1 + k = j + (k + 1) by omega] at this
theorem pairsB_spec {sl : List (Nat × Nat)} {ops : Array Oper} {all : List Oper} {ms0 : List Nat} : ∀ (l : List Oper) (ms : List Nat) (i : Nat), pairsB sl ops all ms0 i l ms = true → ∀ k oi mi, l[k]? = some oi → ms[k]? = some mi → pairB sl ops (i + k) oi mi 0 all ms0 = true
  | [], _, j, _, k, oj, mj, h, _ => by simp at h
  | _ :: _, [], j, _, k, oj, mj, _, h => by simp at h
  | x :: r, y :: s, j, h, k, oj, mj, h1, h2 => by
    simp only [pairsB, Bool.and_eq_true] at h
    cases k with
    | zero => cases h1; cases h2; exact h.1
    | succ k =>
      have := pairsB_spec r s (j + 1) h.2 k oj mj (by simpa using h1) (by simpa using h2)
      rwa [show j + 1 + k = j + (k + 1) by omega] at this
theorem befs_length : ∀ (l : List Oper) (acc : List Nat), (befs l acc).length = acc.length + l.length
  | [], acc => by simp [befs]
  | o :: r, acc => by
    simp only [befs, befs_length r]
    simp
    omega
theorem noWrite_spec {ops : Array Oper} {i t : Nat} (h : noWrite ops.toList i t = true) : ∀ k o, ops[k]? = some o → i ≤ k → o.dst ≠ some t := by
  intro k o hk hik hd
  have hm : o ∈ ops.toList.drop i := by
    rw [List.mem_iff_getElem?]
    exact ⟨k - i, by rw [List.getElem?_drop, show i + (k - i) = k by omega]; simpa using hk⟩
  have := List.all_eq_true.1 h o hm
  simp [hd] at this
theorem spB_spec {ops : Array Oper} {l : List (Nat × Nat)} {i j : Nat} {oi oj : Oper} (hi : ops[i]? = some oi) (hj : ops[j]? = some oj) (h : spB ops.toList l i oi j oj = true) : SpOK ops l i j := by
  unfold spB at h
  split at h
  · rename_i t ti t' tj v h1 h2 h3
    simp only [Bool.and_eq_true] at h
    exact ⟨oi, oj, t, t', ti, tj, v, hi, h1, h2, hj, h3, by simpa using h.1.1, noWrite_spec h.1.2, noWrite_spec h.2⟩
  · cases h
theorem drawB_spec {l : List (Nat × Nat)} {ops : Array Oper} (h : drawB l ops = true) : DrawOK ops (SpOK ops l) := by
  simp only [drawB, Bool.and_eq_true] at h
  have hacc := befs_spec (ops := ops) ops.toList [] (fun j m i hj => by simp at hj) (fun k o hk => by simpa using hk)
  refine ⟨fun j o e ho he hb => ?_, fun i j oi oj hij hi hj => ?_⟩
  · have := backB_spec ops.toList 0 h.1 j o e (by simpa using ho) he hb
    omega
  · have hl := befs_length ops.toList []
    have hil : i < ops.size := (Array.getElem?_eq_some_iff.1 hi).1
    have hjl : j < ops.size := (Array.getElem?_eq_some_iff.1 hj).1
    have h1 : (befs ops.toList [])[i]? = some ((befs ops.toList [])[i]'(by simp at hl; omega)) := List.getElem?_eq_getElem _
    have h2 : (befs ops.toList [])[j]? = some ((befs ops.toList [])[j]'(by simp at hl; omega)) := List.getElem?_eq_getElem _
    have hp := pairsB_spec ops.toList _ 0 h.2 i oi _ (by simpa using hi) h1
    rcases pairB_spec ops.toList _ 0 hp j oj _ (by simpa using hj) h2 with h | h | h | h
    · omega
    · rw [Nat.zero_add] at h
      exact .inl (hacc j _ i h2 h)
    · rw [Nat.zero_add] at h
      exact .inr (.inl (hacc i _ j h1 h))
    · rw [Nat.zero_add, Nat.zero_add] at h
      refine .inr (.inr ⟨h.1, ?_⟩)
      rcases h.2 with (h | h) | h
      · exact .inl h
      · exact .inr (.inl (spB_spec hi hj h))
      · exact .inr (.inr (spB_spec hj hi h))
theorem cutsB_spec {l : List (Nat × Nat)} {ct : Nat → Bool} {ms : List Nat} {n : Nat} : ∀ (r : List Oper) (c : Nat), cutsB l ct ms n c r = true → ∀ k o, r[k]? = some o → ct (o.dst.getD 0) = true → l = [] ∧ cutB ms n (c + k) = true
  | [], c, _, k, o, hk, _ => by simp at hk
  | x :: r, c, h, k, o, hk, hc => by
    simp only [cutsB, Bool.and_eq_true, Bool.or_eq_true, Bool.not_eq_true'] at h
    cases k with
    | zero =>
      cases hk
      rcases h.1 with h1 | h1
      · rw [hc] at h1; cases h1
      · exact ⟨by simpa using h1.1, h1.2⟩
    | succ k =>
      have := cutsB_spec r (c + 1) h.2 k o (by simpa using hk) hc
      rwa [show c + 1 + k = c + (k + 1) by omega] at this
theorem cutB_spec {ops : Array Oper} {c : Nat} (hc : c < ops.size) (h : cutB (befs ops.toList []) ops.size c = true) : CutOK ops c := by
  have hacc := befs_spec (ops := ops) ops.toList [] (fun j m i hj => by simp at hj) (fun k o hk => by simpa using hk)
  have hl := befs_length ops.toList []
  have get : ∀ j, j < ops.size → (befs ops.toList [])[j]? = some ((befs ops.toList []).getD j 0) := fun j hj => by
    rw [List.getD_eq_getElem?_getD, List.getElem?_eq_getElem (by simp at hl; omega)]
    rfl
  simp only [cutB, Bool.and_eq_true, List.all_eq_true, List.mem_range, Bool.or_eq_true, decide_eq_true_eq] at h
  refine ⟨fun i hi => hacc c _ i (get c hc) (h.1 i hi), fun j hj hjs => ?_⟩
  rcases h.2 j hjs with h2 | h2
  · omega
  · exact hacc j _ c (get j hjs) h2
theorem okCode_spec {sp : Nat → List (Nat × Nat)} {ct : Nat → Bool} {nt : Nat} : ∀ (c : Code), okCode sp ct nt c = true → CodeOK sp ct nt c
  | .region id ops dr, h => by
    simp only [okCode, Bool.and_eq_true, Bool.or_eq_true, Bool.not_eq_true'] at h
    refine ⟨fun i o x ho hx => ?_, fun hd => ?_, fun hd c o hco hct => ?_⟩
    · have := List.all_eq_true.1 h.1 o (by simpa using Array.mem_of_getElem? ho)
      simpa [hx] using this
    · subst hd
      exact drawB_spec (by simpa using (h.2.resolve_left (by simp)).1)
    · subst hd
      obtain ⟨h1, h2⟩ := cutsB_spec ops.toList 0 (h.2.resolve_left (by simp)).2 c o (by simpa using hco) hct
      rw [Nat.zero_add] at h2
      exact ⟨h1, cutB_spec (Array.getElem?_eq_some_iff.1 hco).1 h2⟩
  | .seq a b, h => by
    simp only [okCode, Bool.and_eq_true] at h
    exact ⟨okCode_spec a h.1, okCode_spec b h.2⟩
  | .cond _ a b, h => by
    simp only [okCode, Bool.and_eq_true] at h
    exact ⟨okCode_spec a h.1, okCode_spec b h.2⟩
  | .block _ c, h => okCode_spec c h
  | .loop c, h => okCode_spec c h
  | .skip, _ => trivial
  | .label _, _ => trivial
  | .exit _, _ => trivial
  | .ret, _ => trivial
  | .rangeFunc .., _ => trivial
  | .scope _, _ => trivial
  | .goto _, _ => trivial
  | .refuse _, _ => trivial
/-- A range over a function, by the check. -/
def okRange (sp : Nat → List (Nat × Nat)) (ct : Nat → Bool) (nt : Nat) (ps : List Tmp) (as bd : Code) : Bool := okCode sp ct nt as && okCode sp ct nt bd && ps.all (· < nt)
theorem okRange_spec {sp : Nat → List (Nat × Nat)} {ct : Nat → Bool} {nt : Nat} {ps : List Tmp} {as bd : Code} (h : okRange sp ct nt ps as bd = true) : CodeOK sp ct nt as ∧ CodeOK sp ct nt bd ∧ ∀ p ∈ ps, p < nt := by
  simp only [okRange, Bool.and_eq_true, List.all_eq_true, decide_eq_true_eq] at h
  exact ⟨okCode_spec _ h.1.1, okCode_spec _ h.1.2, h.2⟩
end Go.Sym
end

section
/- The abstract machine, as equations for 'simp'. None is proved by 'rfl' alone: simp then leaves a proof that the kernel checks step by step. -/
namespace Go.Sym
open Go.RowKit
theorem ob_some {α β : Type} (a : α) (f : α → Option β) : ob (some a) f = f a := Eq.trans rfl rfl
theorem ob_none {α β : Type} (f : α → Option β) : ob (none : Option α) f = none := Eq.trans rfl rfl
attribute [simp] ob_some ob_none
@[congr] theorem ob_congr {α β : Type} {x y : Option α} {f : α → Option β} (h : x = y) : ob x f = ob y f := by rw [h]
theorem at_next (s : St) (f : St → Option Out) : andThen (some (.next s)) f = f s := Eq.trans rfl rfl
theorem at_ret (s : St) (f : St → Option Out) : andThen (some (.ret s)) f = some (.ret s) := Eq.trans rfl rfl
theorem at_exit (i) (s : St) (f : St → Option Out) : andThen (some (.exit i s)) f = some (.exit i s) := Eq.trans rfl rfl
theorem at_panic (v) (s : St) (f : St → Option Out) : andThen (some (.panic v s)) f = some (.panic v s) := Eq.trans rfl rfl
theorem at_none (f : St → Option Out) : andThen none f = none := Eq.trans rfl rfl
attribute [simp] at_next at_ret at_exit at_panic at_none
@[congr] theorem at_congr {x y : Option Out} {f : St → Option Out} (h : x = y) : andThen x f = andThen y f := by rw [h]
theorem blk_next (i) (s : St) : blk i (some (.next s)) = some (.next s) := Eq.trans rfl rfl
theorem blk_ret (i) (s : St) : blk i (some (.ret s)) = some (.ret s) := Eq.trans rfl rfl
theorem blk_exit (i) (s : St) : blk i (some (.exit i s)) = some (.next s) := by simp [blk]
theorem blk_exit' (i j) (s : St) (h : (j == i) = false) : blk i (some (.exit j s)) = some (.exit j s) := by simp at h; simp [blk, h]
theorem blk_panic (i v) (s : St) : blk i (some (.panic v s)) = some (.panic v s) := Eq.trans rfl rfl
attribute [simp] blk_next blk_ret blk_exit blk_exit' blk_panic
theorem get_hit (i : Nat) (v : AV) (r) : get ((i, v) :: r) i = v := by simp [get]
theorem get_miss (i t : Nat) (v : AV) (r) (h : (i == t) = false) : get ((i, v) :: r) t = get r t := by simp at h; simp [get, h]
theorem get_nil (t : Nat) : get [] t = .undef := Eq.trans rfl rfl
attribute [simp] get_hit get_miss get_nil
section
variable (env : Nat → AV)
theorem evO_tmp (t) : evO env (.tmp t) = env t := Eq.trans rfl rfl
theorem evO_int (k n) : evO env (.const (.int k n)) = .int k n := Eq.trans rfl rfl
theorem evO_bool (b) : evO env (.const (.bool b)) = .bool b := Eq.trans rfl rfl
theorem evO_str (b) : evO env (.const (.string b)) = .str b := Eq.trans rfl rfl
theorem evO_nils : evO env (.const (.slice none 0 0)) = .lst 0 [] .nil := Eq.trans rfl rfl
theorem evO_nilp : evO env (.const (.pointer none)) = .nilp := Eq.trans rfl rfl
theorem evO_nilf : evO env (.const .nilFunc) = .nilfn := Eq.trans rfl rfl
theorem evO_nili : evO env (.const .nilIface) = .niface := Eq.trans rfl rfl
theorem evO_func (f) : evO env (.func f) = .fn f [] := Eq.trans rfl rfl
theorem evL_nil : evL env [] = [] := Eq.trans rfl rfl
theorem evL_cons (x r) : evL env (x :: r) = evO env x :: evL env r := Eq.trans rfl rfl
theorem evP_nil : evP env [] = [] := Eq.trans rfl rfl
theorem evP_cons (i x r) : evP env ((i, x) :: r) = (i, evO env x) :: evP env r := Eq.trans rfl rfl
theorem optO_none : optO env none = none := Eq.trans rfl rfl
theorem optO_some (x) : optO env (some x) = some (evO env x) := Eq.trans rfl rfl
end
attribute [simp] evO_tmp evO_int evO_bool evO_str evO_nils evO_nilp evO_nilf evO_nili evO_func evL_nil evL_cons evP_nil evP_cons optO_none optO_some
section
variable (e : List (Nat × AV)) (h : List Blk) (ts : List Nat) (nh : Nat)
theorem put_none (v) : St.put ⟨e, h, ts, nh⟩ none v = ⟨e, h, ts, nh⟩ := Eq.trans rfl rfl
theorem put_some (d v) : St.put ⟨e, h, ts, nh⟩ (some d) v = ⟨(d, v) :: e, h, ts, nh⟩ := Eq.trans rfl rfl
theorem H_mk (b) : St.H ⟨e, h, ts, nh⟩ b = h[b]? := Eq.trans rfl rfl
theorem K_mk (b) : St.K ⟨e, h, ts, nh⟩ b = ts[b]? := Eq.trans rfl rfl
end
attribute [simp] put_none put_some H_mk K_mk
/-- A guard: what follows is looked into when it is known. -/
def gif (v : AV) (want : Bool) (a b : Option Out) : Option Out := ob (gsays v want) fun y => if y = true then a else b
@[congr] theorem gif_congr {v v' : AV} {want : Bool} {a b : Option Out} (h : v = v') : gif v want a b = gif v' want a b := by rw [h]
theorem gif_tt (a b) : gif (.bool true) true a b = a := by simp [gif, gsays]
theorem gif_ff (a b) : gif (.bool false) false a b = a := by simp [gif, gsays]
theorem gif_tf (a b) : gif (.bool true) false a b = b := by simp [gif, gsays]
theorem gif_ft (a b) : gif (.bool false) true a b = b := by simp [gif, gsays]
theorem gif_sk (w a b) : gif (.tup []) w a b = b := by simp [gif, gsays]
attribute [simp] gif_tt gif_ff gif_tf gif_ft gif_sk
/-- A condition of the code. -/
def cif (v : AV) (a b : Option Out) : Option Out := match v with
  | .bool t => if t then a else b
  | _ => none
@[congr] theorem cif_congr {v v' : AV} {a b : Option Out} (h : v = v') : cif v a b = cif v' a b := by rw [h]
theorem cif_t (a b) : cif (.bool true) a b = a := by simp [cif]
theorem cif_f (a b) : cif (.bool false) a b = b := by simp [cif]
attribute [simp] cif_t cif_f
theorem ex_cond' {X : Ctx} {f : FuncId} {s : St} (c a b) : ex X f (.cond c a b) s = cif (evO (get s.env) c) (ex X f a s) (ex X f b s) := by
  rw [ex_cond]
  unfold cif
  cases evO (get s.env) c <;> rfl
def slotAt (ops : List Oper) (j : Nat) : Option Nat := ob (ops[j]?) (·.dst)
section
variable {X : Ctx} {cl : CallFn} {f : FuncId} {dr : Bool} {ops : List Oper} (r : List Oper) (d : Option Nat) (op : Op) (ty : TypeId) (pos : String) (af : Array Edge) (s : St)
theorem evs_nil : evs X cl f dr ops [] s = some (.next s) := Eq.trans rfl rfl
theorem evs_none : evs X cl f dr ops (⟨d, op, ty, pos, af, none⟩ :: r) s = opGo X cl f dr ⟨d, op, ty, pos, af, none⟩ s (evs X cl f dr ops r) := by simp only [evs, guardOf, ob_some]
theorem evs_some (j want) : evs X cl f dr ops (⟨d, op, ty, pos, af, some (j, want)⟩ :: r) s = ob (slotAt ops j) fun t => gif (get s.env t) want (opGo X cl f dr ⟨d, op, ty, pos, af, none⟩ s (evs X cl f dr ops r)) (evs X cl f dr ops r (s.put d (.tup []))) := by
  simp only [evs, guardOf, slotAt]
  cases ops[j]? with
  | none => rfl
  | some q =>
    simp only [ob_some]
    cases q.dst with
    | none => rfl
    | some t =>
      simp only [ob_some]
      rfl
variable (k : St → Option Out) (g : Option (Nat × Bool))
theorem go_move (x) : opGo X cl f dr ⟨d, .move x, ty, pos, af, g⟩ s k = k (s.put d (evO (get s.env) x)) := by simp only [opGo, effOf, ob_some, St.ap]
theorem go_assign (x) : opGo X cl f dr ⟨d, .assign x, ty, pos, af, g⟩ s k = k (s.put d (evO (get s.env) x)) := by simp only [opGo, effOf, ob_some, St.ap]
/-- The choice between two values. -/
def pickv (c a b : AV) : Option AV := match c with | .bool t => some (if t then a else b) | _ => none
theorem go_pick (c x y) : opGo X cl f dr ⟨d, .pick c x y, ty, pos, af, g⟩ s k = ob (pickv (evO (get s.env) c) (evO (get s.env) x) (evO (get s.env) y)) fun v => k (s.put d v) := by
  simp only [opGo, effOf, pickv]
  cases evO (get s.env) c <;> simp only [ob_some, ob_none, St.ap]
theorem val_ob (x : Option AV) : (ob (ob x fun v => some (Eff.val v)) fun e => match e with | .call g args => callOp X cl (dr && !X.cut f (d.getD 0)) d g args s k | .round b args => sharedOp X cl (dr && !X.cut f (d.getD 0)) d (rid + b) args s k | .pan v => if dr then none else some (.panic v s) | e => ob (s.ap d e) k) = ob x fun v => k (s.put d v) := by
  cases x <;> simp only [ob_some, ob_none, St.ap]
theorem go_bin (o t x y u) : opGo X cl f dr ⟨d, .binOp o t x y u, ty, pos, af, g⟩ s k = ob (binn X.P o t (evO (get s.env) x) (evO (get s.env) y) y) fun v => k (s.put d v) := val_ob ..
theorem go_assert (x u t) : opGo X cl f dr ⟨d, .typeAssert x u t true, ty, pos, af, g⟩ s k = ob (assertv X.P t (evO (get s.env) x)) fun v => k (s.put d v) := by
  simp only [opGo, effOf, if_true]
  exact val_ob ..
theorem go_un (o t x) : opGo X cl f dr ⟨d, .unOp o t x, ty, pos, af, g⟩ s k = ob (unv o (evO (get s.env) x)) fun v => k (s.put d v) := val_ob ..
theorem go_conv (a b x) : opGo X cl f dr ⟨d, .convert a b x, ty, pos, af, g⟩ s k = ob (convv X.P a b (evO (get s.env) x)) fun v => k (s.put d v) := val_ob ..
theorem go_load (t x) : opGo X cl f dr ⟨d, .load t x, ty, pos, af, g⟩ s k = ob (ldv X.P s.H t (evO (get s.env) x)) fun v => k (s.put d v) := val_ob ..
theorem go_fieldAddr (t x i) : opGo X cl f dr ⟨d, .fieldAddr t x i, ty, pos, af, g⟩ s k = ob (fav X.P t i (evO (get s.env) x)) fun v => k (s.put d v) := val_ob ..
theorem go_field (t x i) : opGo X cl f dr ⟨d, .field t x i, ty, pos, af, g⟩ s k = ob (fldv X.P t i (evO (get s.env) x)) fun v => k (s.put d v) := val_ob ..
theorem go_indexAddr (t x i) : opGo X cl f dr ⟨d, .indexAddr t x i, ty, pos, af, g⟩ s k = ob (iav X.P s.H t (evO (get s.env) x) (evO (get s.env) i)) fun v => k (s.put d v) := val_ob ..
theorem go_index (t x i) : opGo X cl f dr ⟨d, .index t x i, ty, pos, af, g⟩ s k = ob (ixv X.P t (evO (get s.env) x) (evO (get s.env) i)) fun v => k (s.put d v) := val_ob ..
theorem go_slice (t x lo hi mx) : opGo X cl f dr ⟨d, .slice t x lo hi mx, ty, pos, af, g⟩ s k = ob (slv X.P s.H t (evO (get s.env) x) (optO (get s.env) lo) (optO (get s.env) hi) (optO (get s.env) mx)) fun v => k (s.put d v) := val_ob ..
def extv (x : AV) (i : Nat) : Option AV := match x with | .tup vs => vs[i]? | _ => none
theorem go_extract (x i) : opGo X cl f dr ⟨d, .extract x i, ty, pos, af, g⟩ s k = ob (extv (evO (get s.env) x) i) fun v => k (s.put d v) := by
  simp only [opGo, effOf, extv]
  cases evO (get s.env) x <;> first | exact val_ob .. | simp only [ob_none]
def nckv (x : AV) : Option AV := match x with | .ptr b i o => some (.ptr b i o) | .iptr r o => some (.iptr r o) | .fn f cs => some (.fn f cs) | _ => none
theorem go_nilCheck (x) : opGo X cl f dr ⟨d, .nilCheck x, ty, pos, af, g⟩ s k = ob (nckv (evO (get s.env) x)) fun v => k (s.put d v) := by
  simp only [opGo, effOf, nckv]
  cases evO (get s.env) x <;> simp only [ob_some, ob_none, St.ap]
theorem go_len (x ts) : opGo X cl f dr ⟨d, .call ⟨.builtin .len, #[x], ts⟩, ty, pos, af, g⟩ s k = ob (ts[0]?) fun t => ob (lenv X.P t (evO (get s.env) x)) fun v => k (s.put d v) := by
  simp only [opGo, effOf, callv]
  cases ts[0]? with
  | none => simp only [ob_none]
  | some t => simp only [ob_some]; exact val_ob ..
def bldv (P : Program) (t : TypeId) (ps : List (Nat × AV)) : Option AV := ob (zeroAt P t) fun z => ob (placeF P t) fun pl => ob (fillA pl z ps) fun cs => some (.agg cs)
theorem go_build (t ps) : opGo X cl f dr ⟨d, .build t ps, ty, pos, af, g⟩ s k = ob (bldv X.P t (evP (get s.env) ps.toList)) fun v => k (s.put d v) := by
  simp only [opGo, effOf, bldv]
  cases zeroAt X.P t with
  | none => simp only [ob_none]
  | some z =>
    cases placeF X.P t with
    | none => simp only [ob_some, ob_none]
    | some pl =>
      simp only [ob_some]
      cases fillA pl z (evP (get s.env) ps.toList) <;> simp only [ob_some, ob_none, St.ap]
def blsv (P : Program) (t : TypeId) (n : Nat) (ps : List (Nat × AV)) : Option AV := ob (elemSz P t) fun e => if n = ps.length ∧ n * e.1 ≤ 1024 then ob (litGo e.1 0 ps) fun rs => some (.lst e.1 rs .exact) else none
theorem evP_length (env : Nat → AV) : ∀ (l : List (Nat × Operand)), (evP env l).length = l.length
  | [] => rfl
  | (i, x) :: r => by simp [evP, evP_length env r]
theorem go_buildSlice (t n ps) : opGo X cl f dr ⟨d, .buildSlice t n ps, ty, pos, af, g⟩ s k = ob (blsv X.P t n (evP (get s.env) ps.toList)) fun v => k (s.put d v) := by
  simp only [opGo, effOf, blsv, evP_length]
  cases elemSz X.P t with
  | none => simp only [ob_none]
  | some e =>
    simp only [ob_some, Array.length_toList]
    split
    · cases litGo e.1 0 (evP (get s.env) ps.toList) <;> simp only [ob_some, ob_none, St.ap]
    · simp only [ob_none]
/-- A new block. -/
theorem go_alloc (t) (hm : (X.mode f (d.getD 0) == 5) = false) : opGo X cl f dr ⟨d, .alloc t, ty, pos, af, g⟩ s k = ob (zeroAt X.P t) fun z => if cellsB z = true then k ({ s with heap := s.heap ++ [(⟨z.length, [z], .box⟩ : Blk)] }.put d (.ptr s.heap.length 0 0)) else none := by
  have hm' : ¬ X.mode f (d.getD 0) = 5 := by simpa using hm
  simp only [opGo, effOf, if_neg hm']
  cases zeroAt X.P t with
  | none => simp only [ob_none]
  | some z =>
    simp only [ob_some]
    split <;> simp only [ob_some, ob_none, St.ap]
theorem go_box (t x) : opGo X cl f dr ⟨d, .box t x, ty, pos, af, g⟩ s k =
    if cellsB (evO (get s.env) x).cells = true then k ({ s with heap := s.heap ++ [(⟨(evO (get s.env) x).cells.length, [(evO (get s.env) x).cells], .box⟩ : Blk)] }.put d (.ptr s.heap.length 0 0)) else none := by
  simp only [opGo, effOf]
  split <;> simp only [ob_some, ob_none, St.ap]
theorem go_store (t x y) : opGo X cl f dr ⟨d, .store t x y, ty, pos, af, g⟩ s k = ob (stv X.P s.nh s.H t (evO (get s.env) y) (evO (get s.env) x)) fun p => k ({ s with heap := s.heap.set p.1 p.2 }.put d .undef) := by
  simp only [opGo, effOf]
  cases stv X.P s.nh s.H t (evO (get s.env) y) (evO (get s.env) x) <;> simp only [ob_some, ob_none, St.ap]
/-- A call of a function value. -/
def calleeGo (X : Ctx) (cl : CallFn) (dr : Bool) (d : Option Nat) (v : AV) (as : List AV) (s : St) (k : St → Option Out) : Option Out := match v with
  | .fn g caps => callOp X cl dr d g (as ++ caps) s k
  | .yld b => sharedOp X cl dr d (rid + b) as s k
  | _ => none
@[congr] theorem calleeGo_congr {X : Ctx} {cl : CallFn} {dr : Bool} {d : Option Nat} {v v' : AV} {as as' : List AV} {s : St} {k : St → Option Out} (h : v = v') (h' : as = as') : calleeGo X cl dr d v as s k = calleeGo X cl dr d v' as' s k := by rw [h, h']
theorem calleeGo_fn (g caps as) : calleeGo X cl dr d (.fn g caps) as s k = callOp X cl dr d g (as ++ caps) s k := Eq.trans rfl rfl
theorem calleeGo_yld (b as) : calleeGo X cl dr d (.yld b) as s k = sharedOp X cl dr d (rid + b) as s k := Eq.trans rfl rfl
theorem go_call (v as ts) : opGo X cl f dr ⟨d, .call ⟨.value v, as, ts⟩, ty, pos, af, g⟩ s k = calleeGo X cl (dr && !X.cut f (d.getD 0)) d (evO (get s.env) v) (evL (get s.env) as.toList) s k := by
  simp only [opGo, effOf, callv]
  cases evO (get s.env) v <;> simp only [calleeGo, ob_some, ob_none]
def invGo (X : Ctx) (cl : CallFn) (dr : Bool) (d : Option Nat) (v : AV) (m : String) (as : List AV) (s : St) (k : St → Option Out) : Option Out := match v with
  | .iface t v => ob (methodAt X.P t m) fun g => callOp X cl dr d g (v :: as) s k
  | _ => none
@[congr] theorem invGo_congr {X : Ctx} {cl : CallFn} {dr : Bool} {d : Option Nat} {v v' : AV} {m : String} {as as' : List AV} {s : St} {k : St → Option Out} (h : v = v') (h' : as = as') : invGo X cl dr d v m as s k = invGo X cl dr d v' m as' s k := by rw [h, h']
theorem invGo_iface (t v m as) : invGo X cl dr d (.iface t v) m as s k = ob (methodAt X.P t m) fun g => callOp X cl dr d g (v :: as) s k := Eq.trans rfl rfl
theorem go_invoke (v m as ts) : opGo X cl f dr ⟨d, .call ⟨.invoke v m, as, ts⟩, ty, pos, af, g⟩ s k = invGo X cl (dr && !X.cut f (d.getD 0)) d (evO (get s.env) v) m (evL (get s.env) as.toList) s k := by
  simp only [opGo, effOf, callv]
  cases evO (get s.env) v <;> simp only [invGo, ob_none]
  cases methodAt X.P _ m <;> simp only [ob_some, ob_none]
theorem go_makeFunc (fn caps) : opGo X cl f dr ⟨d, .makeFunc (.func fn) #[] caps, ty, pos, af, g⟩ s k = k (s.put d (.fn fn (evL (get s.env) caps.toList))) := by
  simp [opGo, effOf, St.ap]
end
theorem regGo_f (l x) : regGo false l x = x := Eq.trans rfl rfl
theorem regGo_t (l x) : regGo true l x = andThen x (sepc l) := Eq.trans rfl rfl
theorem sepc_nil (s) : sepc [] s = some (.next s) := by simp [sepc]
theorem sepc_cons (a b r s) : sepc ((a, b) :: r) s = if sepB (get s.env a) (get s.env b) = true then sepc r s else none := by
  simp only [sepc, List.all_cons, Bool.and_eq_true]
  split <;> simp_all
theorem sepB_ptr (a b c d e f) : sepB (.ptr a b c) (.ptr d e f) = (a != d) := Eq.trans rfl rfl
theorem sepB_iptr (a b x) : sepB (.iptr a b) x = true := Eq.trans rfl rfl
attribute [simp] regGo_f regGo_t sepc_nil sepc_cons sepB_ptr sepB_iptr
attribute [simp] evs_nil evs_none evs_some go_move go_assign go_pick go_bin go_assert go_un go_conv go_load go_fieldAddr go_field go_indexAddr go_index go_slice go_extract go_nilCheck go_len go_build go_buildSlice go_alloc go_box go_store go_call go_invoke go_makeFunc calleeGo_fn calleeGo_yld invGo_iface
end Go.Sym
end
