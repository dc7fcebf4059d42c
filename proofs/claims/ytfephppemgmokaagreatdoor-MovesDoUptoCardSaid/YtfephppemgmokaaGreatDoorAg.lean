/- The law MovesDo of headlandlaw20 returns true, at arguments of the row's types whose lengths are at most uptoBulk: the program's Do and Back answer as the reference's do. Conditions: those of the given row (Rows.MovesDoUptoCardSaid), and no others. Part 7 of the proof. -/
import Derived.Test.YtfephppemgmokaaGreatDoorAf
set_option linter.unusedVariables false
set_option linter.unusedSimpArgs false
set_option linter.unusedSectionVars false
section
open Go Go.Proofs Go.Sym
namespace T
attribute [-simp] getElem?_pos
def okLin (l:Lin):Prop:=l.C.length≤1073741824
def okRows (l:List Row):Prop:=l.length≤1073741824∧∀r ∈ l,okLin r.L
def okTab (t:Tab):Prop:=t.length≤1073741824∧∀l ∈ t,okRows l
def S24 (l:Lin) (i:Nat):St:=⟨[(2,.ptr 0 0 0),(3,.ptr 1 0 0),(22,int l.C.length),(23,int i)],[⟨2,[l.cs],.box⟩,⟨2,[l.cs],.box⟩],[],0⟩
theorem loop24 (l:Lin) (hl:okLin l):∃o,(∀ s,s.gc [2,3,22,23] 2 0=S24 l 0→loopE X 24 lb24_4 (St.gc [2,3,22,23] 2 0) s=some o)∧∃e,o= .exit 0 ⟨e,[⟨2,[l.cs],.box⟩,⟨2,[l.cs],.box⟩],[],0⟩:=by
 refine loop_unit l.C.length (S24 l) _ (by simp[lb24_4,Tryz.f24,S24,stops]) fun i hi=>?_
 have hw:=wrap_nat i (by simp[okLin]at hl;omega)
 have hc:=List.getElem?_eq_getElem hi
 simp[lb24_4,Tryz.f24,S24,hi,hw,hc]
theorem e24 (l:Lin) (hl:okLin l):call X 24 [.agg l.cs,.agg l.cs] [] []=some (.ret (.bool true),[],[]):=by
 rw[call_eq (by decide) (by simp)]
 obtain⟨o,h1,e,rfl⟩:=loop24 l hl
 simp only[lb24_4,Tryz.f24,S24,bodyOf_some,sub_seq0,sub_seq1,sub_block,sub_loop,sub_nil]at h1
 simp[Tryz.func24,Tryz.f24,envOf,ex_loop,firstReg,h1,leave_pure]
theorem ic24 (l:Lin) (hl:okLin l):icall X (call X) 24 [.agg [.lst (szOf 1 (l.C.map intC)) (l.C.map intC) .no,.int .i64 l.K],.agg [.lst (szOf 1 (l.C.map intC)) (l.C.map intC) .no,.int .i64 l.K]]=some (.ret (.bool true)):=icall_ret (by simp) (by simp) (e24 l hl) rfl rfl rfl
def hp12 (t:Tab):List Blk:=[⟨1,[[tabV t]],.box⟩,⟨1,[[tabV t]],.box⟩]
def S12a (t:Tab) (i:Nat):St:=⟨[(2,.ptr 0 0 0),(3,.ptr 1 0 0),(17,int t.length),(18,int i)],hp12 t,[],0⟩
def S12b (t:Tab) (i:Nat) (l:List Row) (j:Nat):St:=⟨[(2,.ptr 0 0 0),(3,.ptr 1 0 0),(5,int i),(17,int t.length),(18,int i),(38,rowsV l),(39,int l.length),(40,int j)],hp12 t,[],0⟩
theorem loop12b (t:Tab) (i:Nat) (l:List Row) (hl:okRows l) (ht:t[i]? =some l):
  ∃o,(∀ s,s.gc [2,3,5,17,18,38,39,40] 2 0=S12b t i l 0→loopE X 12 lb12_9 (St.gc [2,3,5,17,18,38,39,40] 2 0) s=some o)∧∃e,o= .exit 2 ⟨e,hp12 t,[],0⟩∧get e 2= .ptr 0 0 0∧get e 3= .ptr 1 0 0∧get e 17=int t.length∧get e 18=int i:=by
 refine loop_unit l.length (S12b t i l) _ (by simp[lb12_9,Tryz.f12,S12b,hp12,stops]) fun j hj=>?_
 have hw:=wrap_nat j (by have:=hl.1;omega)
 have hc:=List.getElem?_eq_getElem hj
 have h24:=ic24 l[j].L (hl.2 _ (List.getElem_mem hj))
 simp[lb12_9,Tryz.f12,S12b,hp12,hj,hw,hc,ht,h24]
theorem loop12a (t:Tab) (ht:okTab t):∃o,(∀ s,s.gc [2,3,17,18] 2 0=S12a t 0→loopE X 12 lb12_4 (St.gc [2,3,17,18] 2 0) s=some o)∧∃e,o= .exit 0 ⟨e,hp12 t,[],0⟩:=by
 refine loop_unit t.length (S12a t) _ (by simp[lb12_4,Tryz.f12,S12a,hp12,stops]) fun i hi=>?_
 have hw:=wrap_nat i (by have:=ht.1;omega)
 have hc:=List.getElem?_eq_getElem hi
 obtain⟨o,h1,e,rfl,g1,g2,g3,g4⟩:=loop12b t i t[i] (ht.2 _ (List.getElem_mem hi)) hc
 simp only[lb12_9,Tryz.f12,S12b,hp12,bodyOf_some,sub_seq0,sub_seq1,sub_block,sub_loop,sub_nil]at h1
 simp[lb12_4,Tryz.f12,S12a,hp12,hi,hw,hc,ex_loop,firstReg,h1,g1,g2,g3,g4]
theorem e12 (t:Tab) (ht:okTab t):call X 12 [.agg [tabV t],.agg [tabV t]] [] []=some (.ret (.bool true),[],[]):=by
 rw[call_eq (by decide) (by simp)]
 obtain⟨o,h1,e,rfl⟩:=loop12a t ht
 simp only[lb12_4,Tryz.f12,S12a,hp12,bodyOf_some,sub_seq0,sub_seq1,sub_block,sub_loop,sub_nil]at h1
 simp[Tryz.func12,Tryz.f12,envOf,ex_loop,firstReg,hp12,h1,leave_pure]
end T
end
section
open Go Go.Proofs Go.Sym
namespace T
attribute [-simp] getElem?_pos
def S113 (l:List Int) (g:Nat) (i:Nat) (_:Unit):St:=⟨[(0,ints l),(1,.fn g []),(7,int l.length),(8,int i)],[],[],0⟩
def stepF {α:Type} (p:α→Bool) (i:Nat) (_:Unit) (c:α):Unit ⊕ Nat:=if p c then .inr i else .inl ()
theorem foldF {α:Type} (p:α→Bool):∀(l:List α) (i:Nat),(l.any p=false→foldS (stepF p) i l ()= .inl ())∧(l.any p=true→∃n,foldS (stepF p) i l ()= .inr n)
 | [],i=>⟨fun _=>rfl,fun h=>by simp at h⟩
 |c::r,i=>by
  have ih:=foldF p r (i+1)
  simp only[foldS,stepF,List.any_cons]
  by_cases h:p c=true
  ·simp[h]
  ·simp only[h,if_false,Bool.false_or]
   exact ih
theorem loop113 (l:List Int) (hl:l.length≤1073741824) (g:Nat) (hg:decide (g < 1000000)=true∧sprimT g=none) (hs:shareT g=fun _=>false) (p:Int→Bool) (hp:∀c,icall X (call X) g [.int .i64 c]=some (.ret (.bool (p c)))):
  ∃o,(∀ s,s.gc [0,1,7,8] 0 0=S113 l g 0 ()→loopE X 113 lb113_2 (St.gc [0,1,7,8] 0 0) s=some o)∧(l.any p=false→∃e,o= .exit 0 ⟨e,[],[],0⟩)∧(l.any p=true→∃(e:_) (n:Nat),o= .ret ⟨(4,int n)::e,[],[],0⟩):=by
 obtain⟨o,h1,h2,h3⟩:=loop_list (X:=X) (f:=113) (lb:=lb113_2) (gc:=St.gc [0,1,7,8] 0 0) l (S113 l g) (fun _ _=>True) (stepF p) (fun _ o=>∃e,o= .exit 0 ⟨e,[],[],0⟩) (fun n o=>∃e,o= .ret ⟨(4,int (n:Nat))::e,[],[],0⟩)
  (fun b _=>by simp[lb113_2,Tryz.f113,S113,stops]) (fun i c b hc _=>by
   have hi:=(List.getElem?_eq_some_iff.1 hc).1
   have hw:=wrap_nat i (by omega)
   by_cases hf:p c=true
   ·simp[stepF,lb113_2,Tryz.f113,S113,stops,hc,hi,hf,hs,hp,hg]
   ·simp[stepF,lb113_2,Tryz.f113,S113,stops,hc,hi,hw,hf,hs,hp,hg]) 0 () (Nat.zero_le _) trivial
 rw[List.drop_zero]at h2 h3
 refine⟨o,h1,fun h=>(h2 () ((foldF p l 0).1 h)).1,fun h=>?_⟩
 obtain⟨n,hn⟩:=(foldF p l 0).2 h
 obtain⟨e,he⟩:=h3 n hn
 exact⟨e,n,he⟩
theorem e69 (l:List Int) (hl:l.length≤1073741824) (g:Nat) (hg:decide (g < 1000000)=true∧sprimT g=none) (hs:shareT g=fun _=>false) (p:Int→Bool) (hp:∀c,icall X (call X) g [.int .i64 c]=some (.ret (.bool (p c)))):
  icall X (call X) 69 [.lst (szOf 1 (l.map intC)) (l.map intC) .no,.fn g []]=some (.ret (.bool (l.any p))):=by
 have h113:∃n:Int,icall X (call X) 113 [.lst (szOf 1 (l.map intC)) (l.map intC) .no,.fn g []]=some (.ret (.int .i64 n))∧decide (n≥0)=l.any p:=by
  obtain⟨o,h1,h2,h3⟩:=loop113 l hl g hg hs p hp
  simp only[lb113_2,Tryz.f113,S113,bodyOf_some,sub_seq0,sub_seq1,sub_block,sub_loop,sub_nil]at h1
  by_cases h:l.any p=true
  ·obtain⟨e,n,rfl⟩:=h3 h
   refine⟨n,icall_ret (v:=int n) (H:=[]) (K:=[]) (by simp) (by simp) ?_ rfl rfl rfl,by rw[h];simp⟩
   rw[call_eq (by decide) (by simp)]
   simp[Tryz.func113,Tryz.f113,envOf,ex_loop,firstReg,h1,leave_pure]
  ·obtain⟨e,rfl⟩:=h2 (by simpa using h)
   refine⟨-1,icall_ret (v:=int (-1)) (H:=[]) (K:=[]) (by simp) (by simp) ?_ rfl rfl rfl,by rw[Bool.not_eq_true]at h;rw[h];rfl⟩
   rw[call_eq (by decide) (by simp)]
   simp[Tryz.func113,Tryz.f113,envOf,ex_loop,firstReg,h1,leave_pure]
 obtain⟨n,h1,h2⟩:=h113
 refine icall_ret (v:=.bool (l.any p)) (H:=[]) (K:=[]) (by simp) (by simp) ?_ rfl rfl rfl
 rw[call_eq (by decide) (by simp)]
 simp only[ge_iff_le]at h2
 simp[Tryz.func69,Tryz.f69,envOf,h1,h2,leave_pure]
def nz (c:Int):Bool:=decide (c≠0)
theorem ic127 (c:Int):icall X (call X) 127 [.int .i64 c]=some (.ret (.bool (nz c))):=by
 refine icall_ret (v:=.bool (nz c)) (H:=[]) (K:=[]) (by simp) (by simp) ?_ rfl rfl rfl
 rw[call_eq (by decide) (by simp)]
 simp[Tryz.func127,Tryz.f127,envOf,nz,leave_pure]
theorem sh_fun (f) (h:(f==90)=false) (h':inL f [48,61,76,79,81,82,83,84,86,88,89,115,122,200,206]=false):shareT f=fun _=>false:=by
 funext a
 rw[sh_ne f a h,h']
def k1 (a:Int):Blk:=⟨1,[[int a]],.box⟩
theorem fz_k1 (a x i o):fzp (some (k1 a)) x i o= .ptr x i o:=Eq.trans rfl rfl
attribute [simp] fz_k1
theorem e121 (k0:Blk) (l:List Row) (a:Nat) (r:Row) (h:l[a]? =some r):call X 121 [rowsV l,.ptr 1 0 0] [k0,k1 a] []=some (.ret (.bool (decide (r.D≠1))),[k0,k1 a],[]):=by
 rw[call_eq (by decide) (by simp)]
 simp[Tryz.func121,Tryz.f121,envOf,h,k1,leave_pure]
theorem e126 (k0:Blk) (l:List Row) (a:Nat) (r:Row) (h:l[a]? =some r) (hr:okLin r.L):call X 126 [rowsV l,.ptr 1 0 0] [k0,k1 a] []=some (.ret (.bool (r.L.C.any nz)),[k0,k1 a],[]):=by
 rw[call_eq (by decide) (by simp)]
 have h69:=e69 r.L.C hr 127 ⟨by decide,rfl⟩ (sh_fun 127 rfl (by simp)) nz ic127
 simp[Tryz.func126,Tryz.f126,envOf,h,k1,leave_pure,h69]
def S144 (t:Tab) (k0:Blk) (a:Nat) (g:Nat) (i:Nat) (_:Unit):St:=⟨[(0,tabV t),(1,.fn g [.ptr 1 0 0]),(7,int t.length),(8,int i)],[k0,k1 a],[],2⟩
theorem loop144 (t:Tab) (ht:t.length≤1073741824) (k0:Blk) (a g:Nat) (hg:decide (g < 1000000)=true∧sprimT g=none) (hs:shareT g=fun _=>false) (p:List Row→Bool)
  (hp:∀l ∈ t,call X g [.lst (szOf 3 (l.map Row.cs)) (l.map Row.cs) .no,.ptr 1 0 0] [k0,k1 a] []=some (.ret (.bool (p l)),[k0,k1 a],[])):
  ∃o,(∀ s,s.gc [0,1,7,8] 2 0=S144 t k0 a g 0 ()→loopE X 144 lb144_2 (St.gc [0,1,7,8] 2 0) s=some o)∧(t.any p=false→∃e,o= .exit 0 ⟨e,[k0,k1 a],[],2⟩)∧(t.any p=true→∃(e:_) (n:Nat),o= .ret ⟨(4,int n)::e,[k0,k1 a],[],2⟩):=by
 obtain⟨o,h1,h2,h3⟩:=loop_list (X:=X) (f:=144) (lb:=lb144_2) (gc:=St.gc [0,1,7,8] 2 0) t (S144 t k0 a g) (fun _ _=>True) (stepF p) (fun _ o=>∃e,o= .exit 0 ⟨e,[k0,k1 a],[],2⟩) (fun n o=>∃e,o= .ret ⟨(4,int (n:Nat))::e,[k0,k1 a],[],2⟩)
  (fun b _=>by simp[lb144_2,Tryz.f144,S144,stops]) (fun i c b hc _=>by
   have hi:=(List.getElem?_eq_some_iff.1 hc).1
   have hw:=wrap_nat i (by omega)
   have hpc:=hp c (List.mem_of_getElem? hc)
   by_cases hf:p c=true
   ·simp[stepF,lb144_2,Tryz.f144,S144,stops,hc,hi,hf,hs,hpc,hg]
   ·simp[stepF,lb144_2,Tryz.f144,S144,stops,hc,hi,hw,hf,hs,hpc,hg]) 0 () (Nat.zero_le _) trivial
 rw[List.drop_zero]at h2 h3
 refine⟨o,h1,fun h=>(h2 () ((foldF p t 0).1 h)).1,fun h=>?_⟩
 obtain⟨n,hn⟩:=(foldF p t 0).2 h
 obtain⟨e,he⟩:=h3 n hn
 exact⟨e,n,he⟩
theorem e120 (t:Tab) (ht:t.length≤1073741824) (k0:Blk) (a g:Nat) (hg:decide (g < 1000000)=true∧sprimT g=none) (hs:shareT g=fun _=>false) (p:List Row→Bool)
  (hp:∀l ∈ t,call X g [.lst (szOf 3 (l.map Row.cs)) (l.map Row.cs) .no,.ptr 1 0 0] [k0,k1 a] []=some (.ret (.bool (p l)),[k0,k1 a],[])):
  call X 120 [tabV t,.fn g [.ptr 1 0 0]] [k0,k1 a] []=some (.ret (.bool (t.any p)),[k0,k1 a],[]):=by
 have h144:∃n:Int,call X 144 [.lst (szOf 1 (t.map rowsC)) (t.map rowsC) .no,.fn g [.ptr 1 0 0]] [k0,k1 a] []=some (.ret (.int .i64 n),[k0,k1 a],[])∧decide (n≥0)=t.any p:=by
  obtain⟨o,h1,h2,h3⟩:=loop144 t ht k0 a g hg hs p hp
  simp only[lb144_2,Tryz.f144,S144,bodyOf_some,sub_seq0,sub_seq1,sub_block,sub_loop,sub_nil]at h1
  by_cases h:t.any p=true
  ·obtain⟨e,n,rfl⟩:=h3 h
   refine⟨n,?_,by rw[h];simp⟩
   rw[call_eq (by decide) (by simp)]
   simp[Tryz.func144,Tryz.f144,envOf,ex_loop,firstReg,h1,leave_pure]
  ·obtain⟨e,rfl⟩:=h2 (by simpa using h)
   refine⟨-1,?_,by rw[Bool.not_eq_true]at h;rw[h];rfl⟩
   rw[call_eq (by decide) (by simp)]
   simp[Tryz.func144,Tryz.f144,envOf,ex_loop,firstReg,h1,leave_pure]
 obtain⟨n,h1,h2⟩:=h144
 rw[call_eq (by decide) (by simp)]
 simp only[ge_iff_le]at h2
 simp[Tryz.func120,Tryz.f120,envOf,h1,h2,leave_pure]
end T
end
section
open Go Go.Proofs Go.Sym
namespace T
attribute [-simp] getElem?_pos
def infV (irs:List (List AV)):AV:=.lst (szOf 22 irs) irs .no
theorem infV_def (irs):infV irs= .lst (szOf 22 irs) irs .no:=Eq.trans rfl rfl
attribute [simp] infV_def
def tblC (irs:List (List AV)) (n:Int) (t:Tab):List AV:=[infV irs,int n,tabV t]
theorem tblC_def (irs n t):tblC irs n t=[infV irs,int n,tabV t]:=Eq.trans rfl rfl
attribute [simp] tblC_def
variable (irs:List (List AV)) (n:Int) (t:Tab)
def rowB (n a:Int):Bool:=decide (0≤a)&&decide (a < n)
theorem e75 (a:Int):call X 75 [.agg (tblC irs n t),int a] [] []=some (.ret (.bool (rowB n a)),[],[]):=by
 rw[call_eq (by decide) (by simp)]
 by_cases h:(0:Int)≤a
 ·simp[Tryz.func75,Tryz.f75,envOf,rowB,h,leave_pure]
 ·simp[Tryz.func75,Tryz.f75,envOf,rowB,h,leave_pure]
theorem ic75 (a:Int):icall X (call X) 75 [.agg [.lst (szOf 22 irs) irs .no,.int .i64 n,.lst (szOf 1 (t.map rowsC)) (t.map rowsC) .no],.int .i64 a]=some (.ret (.bool (rowB n a))):=icall_ret (by simp) (by simp) (e75 irs n t a) rfl rfl rfl
attribute [simp] ic75
def wide (t:Tab) (a:Nat):Prop:=∀l ∈ t,a < l.length
def notW (a:Nat) (l:List Row):Bool:=match l[a]? with |some r=>decide (r.D≠1) |none=>false
def notC (a:Nat) (l:List Row):Bool:=match l[a]? with |some r=>r.L.C.any nz |none=>false
theorem e77 (ht:okTab t) (a:Nat) (hw:wide t a):call X 77 [.agg (tblC irs n t),int a] [] []=some (.ret (.bool (!t.any (notW a))),[],[]):=by
 rw[call_eq (by decide) (by simp)]
 have h:=e120 t ht.1 ⟨3,[tblC irs n t],.box⟩ a 121 ⟨by decide,rfl⟩ (sh_fun 121 rfl (by simp)) (notW a) fun l hl=>by
  have hlt:a < l.length:=hw l hl
  have hr:=List.getElem?_eq_getElem hlt
  have:=e121 ⟨3,[tblC irs n t],.box⟩ l a l[a] hr
  simp only[notW,hr]
  simpa using this
 simp[k1]at h
 simp[Tryz.func77,Tryz.f77,envOf,h,leave_pure]
theorem ic77 (ht:okTab t) (a:Nat) (hw:wide t a):icall X (call X) 77 [.agg [.lst (szOf 22 irs) irs .no,.int .i64 n,.lst (szOf 1 (t.map rowsC)) (t.map rowsC) .no],.int .i64 a]=some (.ret (.bool (!t.any (notW a)))):=icall_ret (by simp) (by simp) (e77 irs n t ht a hw) rfl rfl rfl
theorem e87 (ht:okTab t) (a:Nat) (hw:wide t a):call X 87 [.agg (tblC irs n t),int a] [] []=some (.ret (.bool (!t.any (notW a)&& !t.any (notC a))),[],[]):=by
 rw[call_eq (by decide) (by simp)]
 have h:=e120 t ht.1 ⟨3,[tblC irs n t],.box⟩ a 126 ⟨by decide,rfl⟩ (sh_fun 126 rfl (by simp)) (notC a) fun l hl=>by
  have hlt:a < l.length:=hw l hl
  have hr:=List.getElem?_eq_getElem hlt
  have:=e126 ⟨3,[tblC irs n t],.box⟩ l a l[a] hr ((ht.2 l hl).2 _ (List.getElem_mem _))
  simp only[notC,hr]
  simpa using this
 have h77:=ic77 irs n t ht a hw
 simp[k1]at h
 by_cases hb:t.any (notW a)=true
 ·simp[Tryz.func87,Tryz.f87,envOf,h,h77,hb,leave_pure]
 ·simp[Tryz.func87,Tryz.f87,envOf,h,h77,hb,leave_pure]
theorem ic87 (ht:okTab t) (a:Nat) (hw:wide t a):icall X (call X) 87 [.agg [.lst (szOf 22 irs) irs .no,.int .i64 n,.lst (szOf 1 (t.map rowsC)) (t.map rowsC) .no],.int .i64 a]=some (.ret (.bool (!t.any (notW a)&& !t.any (notC a)))):=icall_ret (by simp) (by simp) (e87 irs n t ht a hw) rfl rfl rfl
end T
end
section
open Go Go.Proofs Go.Sym
namespace T
attribute [-simp] getElem?_pos
def part {α:Type} (A:List α) (z:α) (i:Nat):List α:=A.take i++List.replicate (A.length-i) z
theorem part_zero {α:Type} (A:List α) (z:α):part A z 0=List.replicate A.length z:=by simp[part]
theorem part_full {α:Type} (A:List α) (z:α):part A z A.length=A:=by simp[part]
theorem part_len {α:Type} (A:List α) (z:α) (i:Nat):(part A z i).length=A.length:=by simp[part];omega
theorem part_get {α:Type} (A:List α) (z:α) (i j:Nat):(part A z i)[j]? =if j < i then A[j]? else if j < A.length then some z else none:=by
 unfold part
 by_cases h:j < i
 ·rw[if_pos h]
  by_cases h':j < A.length
  ·rw[List.getElem?_append_left (by simp;omega),List.getElem?_take,if_pos h]
  ·rw[List.getElem?_append_right (by simp;omega),List.getElem?_replicate,if_neg (by simp;omega),List.getElem?_eq_none (by omega)]
 ·rw[if_neg h,List.getElem?_append_right (by simp;omega),List.getElem?_replicate]
  simp only[List.length_take]
  by_cases h':j < A.length
  ·rw[if_pos h',if_pos (by omega)]
  ·rw[if_neg h',if_neg (by omega)]
theorem part_set {α:Type} (A:List α) (z:α) (i:Nat) (x:α) (h:A[i]? =some x):(part A z i).set i x=part A z (i+1):=by
 have hi:=(List.getElem?_eq_some_iff.1 h).1
 refine List.ext_getElem? fun j=>?_
 rw[List.getElem?_set,part_get,part_get]
 by_cases e:i=j
 ·subst e
  simp[part_len,hi,h]
 ·rw[if_neg e]
  by_cases h1:j < i
  ·rw[if_pos h1,if_pos (show j < i+1 by omega)]
  ·rw[if_neg h1,if_neg (show ¬j < i+1 by omega)]
def Lin.csb (l:Lin):List AV:=[.lst (szOf 1 (l.C.map intC)) (l.C.map intC) .bor,int l.K]
theorem Lin.csb_def (l:Lin):l.csb=[.lst (szOf 1 (l.C.map intC)) (l.C.map intC) .bor,int l.K]:=Eq.trans rfl rfl
attribute [simp] Lin.csb_def
def S116b (l:Lin) (i:Nat) (_:Unit):St:=⟨[(1,.ptr 0 0 0),(6,.lst (szOf 1 (l.C.map intC)) (l.C.map intC) .bor),(7,int l.C.length),(8,int i)],[⟨2,[l.csb],.box⟩],[],0⟩
theorem loop116b (l:Lin) (hl:l.C.length≤Max):∃o,(∀ s,s.gc [1,6,7,8] 1 0=S116b l 0 ()→loopE X 116 lb116_2 (St.gc [1,6,7,8] 1 0) s=some o)∧
  (l.C.all fits=true→∃e,o= .exit 0 ⟨e,[⟨2,[l.csb],.box⟩],[],0⟩∧get e 1= .ptr 0 0 0)∧(l.C.all fits=false→∃e,o= .ret ⟨(2,.bool false)::e,[⟨2,[l.csb],.box⟩],[],0⟩):=by
 obtain⟨o,h1,h2,h3⟩:=loop_list (X:=X) (f:=116) (lb:=lb116_2) (gc:=St.gc [1,6,7,8] 1 0) l.C (S116b l) (fun _ _=>True) step116 (fun _ o=>∃e,o= .exit 0 ⟨e,[⟨2,[l.csb],.box⟩],[],0⟩∧get e 1= .ptr 0 0 0) (fun _ o=>∃e,o= .ret ⟨(2,.bool false)::e,[⟨2,[l.csb],.box⟩],[],0⟩)
  (fun b _=>by simp[lb116_2,Tryz.f116,S116b,stops]) (fun i c b hc _=>by
   have hi:=(List.getElem?_eq_some_iff.1 hc).1
   have hw:=wrap_nat i (by simp[Max]at hl;omega)
   by_cases hf:fits c=true
   ·simp[step116,lb116_2,Tryz.f116,S116b,stops,hc,hi,hw,hf]
   ·simp[step116,lb116_2,Tryz.f116,S116b,stops,hc,hi,hw,hf]) 0 () (Nat.zero_le _) trivial
 rw[List.drop_zero,fold116]at h2 h3
 refine⟨o,h1,fun h=>(h2 () (by simp[h])).1,fun h=>h3 () (by simp[h])⟩
theorem e116b (l:Lin) (hl:l.C.length≤Max):call X 116 [.agg l.csb] [] []=some (.ret (.bool (linValid l)),[],[]):=by
 rw[call_eq (by decide) (by simp)]
 obtain⟨o,h1,h2,h3⟩:=loop116b l hl
 simp only[lb116_2,Tryz.f116,S116b,bodyOf_some,sub_seq0,sub_seq1,sub_block,sub_loop,sub_nil]at h1
 by_cases h:l.C.all fits=true
 ·obtain⟨e,rfl,he⟩:=h2 h
  by_cases hn:(l.C.length:Int)≤12
  ·have hn':l.C.length≤12:=by omega
   simp[hn',Tryz.func116,Tryz.f116,envOf,ex_loop,firstReg,h1,he,h,hn,linValid,leave_pure]
  ·have hn': ¬l.C.length≤12:=by omega
   simp[hn',Tryz.func116,Tryz.f116,envOf,ex_loop,firstReg,h1,he,h,hn,linValid,leave_pure]
 ·obtain⟨e,rfl⟩:=h3 (by simpa using h)
  simp[Tryz.func116,Tryz.f116,envOf,ex_loop,firstReg,h1,h,linValid,leave_pure]
theorem ic116b (l:Lin) (hl:okLin l):icall X (call X) 116 [.agg [.lst (szOf 1 (l.C.map intC)) (l.C.map intC) .bor,.int .i64 l.K]]=some (.ret (.bool (linValid l))):=icall_ret (by simp) (by simp) (e116b l hl) rfl rfl rfl
theorem mul_bd {k c:Int} (hk: -1073741824≤k∧k≤1073741824) (hc: -1048576≤c∧c≤1048576): -1125899906842624≤k*c∧k*c≤1125899906842624:=by
 have h1:k.natAbs≤1073741824:=by omega
 have h2:c.natAbs≤1048576:=by omega
 have h3:(k*c).natAbs≤1073741824*1048576:=by rw[Int.natAbs_mul];exact Nat.mul_le_mul h1 h2
 omega
theorem fits_iff {c:Int}:fits c=true↔ -1048576≤c∧c≤1048576:=by simp[fits]
theorem valid_iff {l:Lin}:linValid l=true↔(∀ c ∈ l.C,fits c=true)∧l.C.length≤12∧fits l.K=true:=by
 simp[linValid,and_assoc]
def plusC (k:Int) (x y:List Int):List Int:=List.zipWith (fun a b=>a+k*b) x y
def plusL (x:Lin) (k:Int) (y:Lin):Lin:=⟨plusC k x.C y.C,x.K+k*y.K⟩
theorem plusL_C (x k y):(plusL x k y).C=plusC k x.C y.C:=Eq.trans rfl rfl
theorem plusL_K (x k y):(plusL x k y).K=x.K+k*y.K:=Eq.trans rfl rfl
theorem wr {k a b:Int} (hk: -1073741824≤k∧k≤1073741824) (ha:fits a=true) (hb:fits b=true):IntKind.i64.wrap (k*b)=k*b∧IntKind.i64.wrap (a+k*b)=a+k*b:=by
 have h1:=mul_bd hk (fits_iff.1 hb)
 have h2:=fits_iff.1 ha
 exact⟨wrap_id _ (by omega) (by omega),wrap_id _ (by omega) (by omega)⟩
def hp80 (x:Lin) (k:Int) (y:Lin) (i:Nat):List Blk:=[⟨2,[x.cs],.box⟩,⟨2,[y.cs],.box⟩,⟨2,[[.lst 0 [] .nil,int 0]],.box⟩,⟨1,part ((plusC k x.C y.C).map intC) (intC 0) i,.data⟩,⟨2,[[.win 3 0 x.C.length (some x.C.length),int 0]],.box⟩]
def S80 (x:Lin) (k:Int) (y:Lin) (i:Nat):St:=⟨[(1,int k),(3,.ptr 0 0 0),(5,.ptr 1 0 0),(6,.ptr 2 0 0),(8,.ptr 4 0 0),(29,int x.C.length),(30,int i)],hp80 x k y i,[],0⟩
theorem loop80 (x:Lin) (k:Int) (y:Lin) (hx:linValid x=true) (hy:linValid y=true) (hk: -1073741824≤k∧k≤1073741824) (hl:y.C.length=x.C.length):
  ∃o,(∀ s,s.gc [1,3,5,6,8,29,30] 5 0=S80 x k y 0→loopE X 80 lb80_5 (St.gc [1,3,5,6,8,29,30] 5 0) s=some o)∧∃e,o= .exit 0 ⟨e,hp80 x k y x.C.length,[],0⟩∧get e 1=int k∧get e 3= .ptr 0 0 0∧get e 5= .ptr 1 0 0∧get e 6= .ptr 2 0 0∧get e 8= .ptr 4 0 0:=by
 have hvx:=valid_iff.1 hx
 have hvy:=valid_iff.1 hy
 have hlen:(plusC k x.C y.C).length=x.C.length:=by simp[plusC,hl]
 refine loop_unit x.C.length (S80 x k y) _ (by simp[lb80_5,Tryz.f80,S80,hp80,stops]) fun i hi=>?_
 have hw:=wrap_nat i (by omega)
 have hcx:=List.getElem?_eq_getElem hi
 have hcy:=List.getElem?_eq_getElem (show i < y.C.length by omega)
 obtain⟨w1,w2⟩:=wr hk (hvx.1 _ (List.getElem_mem hi)) (hvy.1 _ (List.getElem_mem (show i < y.C.length by omega)))
 have hg:(part ((plusC k x.C y.C).map intC) (intC 0) i)[i]? =some [.int .i64 0]:=by
  rw[part_get,if_neg (by omega),if_pos (by simp[hlen];exact hi)];rfl
 have hs:(part ((plusC k x.C y.C).map intC) (intC 0) i).set i [.int .i64 (x.C[i]+k*y.C[i])]=part ((plusC k x.C y.C).map intC) (intC 0) (i+1):=part_set _ _ _ _ (by simp[plusC,List.getElem?_zipWith,hcx,hcy])
 simp only[intC_def]at hg hs
 simp[lb80_5,Tryz.f80,S80,hp80,hi,hw,hcx,hcy,w1,w2,hg,hs]
theorem e80 (x:Lin) (k:Int) (y:Lin) (hx:linValid x=true) (hy:linValid y=true) (hk: -1073741824≤k∧k≤1073741824) (hl:y.C.length=x.C.length):
  call X 80 [.agg x.cs,int k,.agg y.cs] [] []=some (.ret (.tup [.agg (plusL x k y).cs,.bool (linValid (plusL x k y))]),[],[]):=by
 have hvx:=valid_iff.1 hx
 have hvy:=valid_iff.1 hy
 have hlen:(plusC k x.C y.C).length=x.C.length:=by simp[plusC,hl]
 rw[call_eq (by decide) (by simp)]
 obtain⟨o,h1,e,rfl,g1,g2,g3,g4,g5⟩:=loop80 x k y hx hy hk hl
 simp only[lb80_5,Tryz.f80,S80,hp80,bodyOf_some,sub_seq0,sub_seq1,sub_block,sub_loop,sub_nil,part_zero]at h1
 obtain⟨w1,w2⟩:=wr hk hvx.2.2 hvy.2.2
 have k1: ¬(1073741824 < k):=by omega
 have k2: ¬(k < -1073741824):=by omega
 have hok:icall X (call X) 116 [.agg [.lst (szOf 1 ((plusC k x.C y.C).map intC)) ((plusC k x.C y.C).map intC) .bor,.int .i64 (x.K+k*y.K)]]=_:=ic116b (plusL x k y) (by simp[okLin,plusL,hlen];omega)
 have hpf:part ((plusC k x.C y.C).map intC) (intC 0) x.C.length=(plusC k x.C y.C).map intC:=by
  have:=part_full ((plusC k x.C y.C).map intC) (intC 0)
  rwa[List.length_map,hlen]at this
 simp only[intC_def]at hpf
 have hb:x.C.length≤1073741824:=by omega
 simp[Tryz.func80,Tryz.f80,envOf,ex_loop,firstReg,hp80,h1,g1,g2,g3,g4,g5,k1,k2,w1,w2,hpf,hok,hlen,hb,plusL_C,plusL_K,leave_pure]
end T
end
section
open Go Go.Proofs Go.Sym
namespace T
attribute [-simp] getElem?_pos
structure Mv where
 kind:Int
 a:Int
 b:Int
 k:Int
 list:List Int
 deriving DecidableEq
def Mv.cs (m:Mv):List AV:=[int m.kind,int m.a,int m.b,int m.k,ints m.list]
theorem Mv.cs_def (m:Mv):m.cs=[int m.kind,int m.a,int m.b,int m.k,ints m.list]:=Eq.trans rfl rfl
attribute [simp] Mv.cs_def
def mvB (m:Mv):Blk:=⟨5,[m.cs],.box⟩
theorem mvB_def (m:Mv):mvB m=⟨5,[m.cs],.box⟩:=Eq.trans rfl rfl
def winB (l:List Row):Blk:=⟨3,l.map Row.cs,.toky⟩
theorem winB_def (l:List Row):winB l=⟨3,l.map Row.cs,.toky⟩:=Eq.trans rfl rfl
attribute [simp] mvB_def winB_def
theorem map_set' {α β:Type} (f:α→β) (l:List α) (i:Nat) (x:α):(l.map f).set i (f x)=(l.set i x).map f:=by rw[List.map_set]
theorem e76 (k0 kb:Blk) (m:Mv) (l:List Row) (a b:Nat) (ra rb:Row) (x:AV) (K:List Nat) (ha:m.a=a) (hb:m.b=b) (h1:l[a]? =some ra) (h2:l[b]? =some rb):
  call X 76 [x,.win 3 0 l.length none,.ptr 1 0 0] [k0,mvB m,kb,winB l] K=some (.ret (.win 3 0 l.length none),[k0,mvB m,kb,winB ((l.set a rb).set b ra)],K):=by
 have la:=(List.getElem?_eq_some_iff.1 h1).1
 have lb:=(List.getElem?_eq_some_iff.1 h2).1
 rw[call_eq (by decide) (by simp)]
 have e1:=map_set' Row.cs l a rb
 have e2:=map_set' Row.cs (l.set a rb) b ra
 have h3:(l.set a rb)[b]? =some (if a=b then rb else rb):=by
  rw[List.getElem?_set]
  by_cases e:a=b
  ·simp[e,lb]
  ·simp[e,h2]
 simp only[Row.cs_def,ints_def,int_def,ite_self]at e1 e2 h3
 simp[-List.map_set,Tryz.func76,Tryz.f76,envOf,ha,hb,h1,h2,la,lb,e1,e2,h3,leave_pure]
end T
end
section
open Go Go.Proofs Go.Sym
namespace T
attribute [-simp] getElem?_pos
theorem part_step {α:Type} (f:α→α) (A:List α) (z x v:α) (i:Nat) (hA:A[i]? =some x) (hf:∀y ∈ A,f y=y) (hz:f z=z) (hv:f v=x):((part A z i).set i v).map f=part A z (i+1):=by
 rw[List.map_set,hv]
 have:(part A z i).map f=part A z i:=by
  conv=>rhs;rw[←List.map_id (part A z i)]
  refine List.map_congr_left fun y hy=>?_
  unfold part at hy
  rcases List.mem_append.1 hy with hy |hy
  ·exact hf y (List.mem_of_mem_take hy)
  ·rw[(List.mem_replicate.1 hy).2];exact hz
 rw[this]
 exact part_set A z i x hA
theorem part_step2 {α:Type} (f g:α→α) (A:List α) (z x v:α) (i:Nat) (hA:A[i]? =some x) (hf:∀y ∈ A,f (g y)=y) (hz:f (g z)=z) (hv:f (g v)=x):(((part A z i).set i v).map g).map f=part A z (i+1):=by
 rw[List.map_map]
 exact part_step (f ∘ g) A z x v i hA hf hz hv
def Makes2 (k0 k1:Blk) (g:Nat) (i:Nat) (l l':List Row):Prop:=∀K:List Nat,∃v r K',
 (∀ kb,call X g [int i,.win 3 0 l.length none,.ptr 1 0 0] [k0,k1,kb,winB l] K=some (.ret v,k0::k1::kb::r,K'))∧cellB v=true∧
 ∀kb,scrub 3 K'.length (sealv 3 (fun b=>(k0::k1::kb::r)[b]?) v)=rowsV l'
theorem makes76 (k0:Blk) (m:Mv) (l:List Row) (i a b:Nat) (ra rb:Row) (ha:m.a=a) (hb:m.b=b) (h1:l[a]? =some ra) (h2:l[b]? =some rb):
  Makes2 k0 (mvB m) 76 i l ((l.set a rb).set b ra):=fun K=>
 ⟨_,[winB ((l.set a rb).set b ra)],K,fun kb=>e76 k0 kb m l a b ra rb _ K ha hb h1 h2,rfl,fun kb=>by
  simp[-List.map_set]⟩
theorem mode3_app (P:Program) (K:Nat→Option Nat) {t t2 sz ys sz' c} (h:(apT P t t2).isSome=true) (hf:ys.length≤1073741824) (hy:ys≠[]):
  appv P 3 K t (some t2) (.lst sz [] .exact) (.lst sz' ys c)=ob (apT P t t2) fun n=>if(sz'=n∨ys=[])then some (.new ⟨n,ys,.toky⟩ (some (ys.length,none)))else none:=by
 obtain⟨n,hn⟩:=Option.isSome_iff_exists.1 h
 obtain⟨e,he,rfl,hb,h2⟩:=apT_iff P hn
 have hmul:ys.length*e.2≤140737488355328:=Nat.le_trans (Nat.mul_le_mul hf hb) (by decide)
 have hlim:ys.length≤lim:=Nat.le_trans hf (by decide)
 simp only[appv,he,ob_some,hn,srcRows_lst P h2]
 by_cases hs:sz'=e.1∨ys=[]
 ·simp only[hs,if_true,ob_some]
  have he':ys.isEmpty=false:=by cases ys <;> simp_all
  simp[hmul,hlim,he']
 ·simp only[hs,if_false,ob_none]
theorem e90 (l:List Row) (hl:l.length≤1073741824) (hne:l≠[]) (H:List Blk) (K:List Nat):call X 90 [rowsV l] H K=some (.ret (.win H.length 0 l.length none),H++[winB l],K):=by
 rw[call_eq (by decide) (by simp)]
 cases l with
 |nil=>exact absurd rfl hne
 |cons a r=>
  simp at hl
  simp[Tryz.func90,Tryz.f90,envOf,mode3_app,hl,leave]
theorem cells_of_cellB {v:AV} (h:cellB v=true):v.cells=[v]:=by cases v <;> first |rfl |simp[cellB]at h
def z47:List AV:=[.lst 0 [] .nil]
theorem z47_def:z47=[.lst 0 [] .nil]:=Eq.trans rfl rfl
def S47 (t t':Tab) (k0 k1:Blk) (g:Nat) (p:Nat×List Nat):St:=⟨[(1,.fn g [.ptr 1 0 0]),(5,.win 2 0 t.length (some t.length)),(11,tabV t),(12,int t.length),(13,int p.1)],[k0,k1,⟨1,part (t'.map rowsC) z47 p.1,.box⟩],p.2,2⟩
theorem loop47 (t t':Tab) (ht:t.length≤1073741824) (htt:∀l ∈ t,l.length≤1073741824) (hne:∀l ∈ t,l≠[]) (hlen:t'.length=t.length) (k0 k1:Blk) (g:Nat) (hg:decide (g < 1000000)=true∧sprimT g=none) (hs:shareT g=fun _=>true)
  (hF:∀i l l',t[i]? =some l→t'[i]? =some l'→Makes2 k0 k1 g i l l') (K:List Nat):
  ∃o,(∀ s,s.gc [1,5,11,12,13] 3 K.length=S47 t t' k0 k1 g (0,K)→loopE X 47 lb47_3 (St.gc [1,5,11,12,13] 3 K.length) s=some o)∧∃e K',o= .exit 0 ⟨e,[k0,k1,⟨1,t'.map rowsC,.box⟩],K',2⟩∧get e 5= .win 2 0 t.length (some t.length):=by
 refine loop_inv (S47 t t' k0 k1 g) (fun p=>p.1≤t.length) (fun p=>t.length-p.1) _ (fun p hp=>?_) (0,K) (Nat.zero_le _)
 obtain⟨i,K1⟩:=p
 by_cases hi:i < t.length
 ·right
  have hc:=List.getElem?_eq_getElem hi
  have hc':=List.getElem?_eq_getElem (show i < t'.length by omega)
  obtain⟨v,r,K',h1,h2,h3⟩:=hF i _ _ hc hc' K1
  have hw:=wrap_nat i (by omega)
  have hn:t[i]≠[]:=hne _ (List.getElem_mem hi)
  have h90:=e90 t[i] (htt _ (List.getElem_mem hi)) hn [k0,k1,⟨1,part (t'.map rowsC) z47 i,.box⟩] K1
  have hsh:shareT 90 [rowsV t[i]]=true:=by
   cases h:t[i]with
   |nil=>exact absurd h hn
   |cons a q=>rfl
  have hz:(part (t'.map rowsC) z47 i)[i]? =some [.lst 0 [] .nil]:=by rw[part_get,if_neg (by omega),if_pos (by simp;omega),z47_def]
  have hvc:=cells_of_cellB h2
  have h1':=h1 ⟨1,part (t'.map rowsC) z47 i,.box⟩
  have h3':=h3 ⟨1,(part (t'.map rowsC) z47 i).set i [v],.box⟩
  have hps:(List.map (scrubL 3 K'.length) (List.map (sealL 3 (fun b=>(k0::k1::⟨1,(part (t'.map rowsC) z47 i).set i [v],.box⟩::r)[b]?)) ((part (t'.map rowsC) z47 i).set i [v])))=part (t'.map rowsC) z47 (i+1):=by
   refine part_step2 _ _ _ _ (rowsC t'[i]) [v] i (by simp[hc']) (fun y hy=>?_) (by simp[z47]) (by simp only[seL_cons,seL_nil,scL_cons,scL_nil,h3'];rfl)
   obtain⟨l,_,rfl⟩:=List.mem_map.1 hy
   simp
  simp only[rowsV_def,winB_def,int_def]at*
  simp[-List.map_set,-List.map_map,lb47_3,Tryz.f47,S47,hi,hc,hw,hs,hg,hsh,h90,h1',h2,hz,hvc,hps]
  exact⟨i+1,⟨by omega,rfl⟩,by omega,by omega⟩
 ·left
  obtain rfl:i=t.length:=by simp at hp;omega
  have hpf:part (t'.map rowsC) z47 t.length=t'.map rowsC:=by
   have:=part_full (t'.map rowsC) z47
   rwa[List.length_map,hlen]at this
  simp[lb47_3,Tryz.f47,S47,stops,hpf]
theorem e47 (t t':Tab) (ht:t.length≤1073741824) (htt:∀l ∈ t,l.length≤1073741824) (hne:∀l ∈ t,l≠[]) (hlen:t'.length=t.length) (k0 k1:Blk) (g:Nat) (hg:decide (g < 1000000)=true∧sprimT g=none) (hs:shareT g=fun _=>true)
  (hF:∀i l l',t[i]? =some l→t'[i]? =some l'→Makes2 k0 k1 g i l l') (K:List Nat):∃K',call X 47 [tabV t,.fn g [.ptr 1 0 0]] [k0,k1] K=some (.ret (tabV t'),[k0,k1],K'):=by
 obtain⟨o,h1,e,K',rfl,h2⟩:=loop47 t t' ht htt hne hlen k0 k1 g hg hs hF K
 refine⟨K',?_⟩
 simp only[lb47_3,Tryz.f47,S47,bodyOf_some,sub_seq0,sub_seq1,sub_block,sub_loop,sub_nil,part_zero,List.length_map,hlen]at h1
 rw[call_eq (by decide) (by simp)]
 have hb:t'.length=t.length:=hlen
 simp[Tryz.func47,Tryz.f47,envOf,ex_loop,firstReg,h1,h2,z47,ht,hb,leave_pure]
end T
end
section
open Go Go.Proofs Go.Sym
namespace T
attribute [-simp] getElem?_pos
def even (t:Tab) (n:Nat):Prop:=∀l ∈ t,l.length=n
def swapL (a b:Nat) (l:List Row):List Row:=match l[a]?,l[b]? with
 |some ra,some rb=>(l.set a rb).set b ra
 |_,_=>l
def swapT (a b:Nat) (t:Tab):Tab:=t.map (swapL a b)
theorem okTab.len {t:Tab} (h:okTab t):∀l ∈ t,l.length≤1073741824:=fun l hl=>(h.2 l hl).1
theorem e40_no (irs:List (List AV)) (n:Int) (t:Tab) (m:Mv) (h:(rowB n m.a&&rowB n m.b)=false):call X 40 [.agg (tblC irs n t),.agg m.cs] [] []=some (.ret (.tup [.lst 0 [] .nil,int 6]),[],[]):=by
 rw[call_eq (by decide) (by simp)]
 by_cases h1:rowB n m.a=true
 ·have h2:rowB n m.b=false:=by simpa[h1] using h
  simp[Tryz.func40,Tryz.f40,envOf,h1,h2,leave_pure]
 ·simp[Tryz.func40,Tryz.f40,envOf,h1,leave_pure]
theorem sh_all (f) (h:(f==90)=false) (h':inL f [48,61,76,79,81,82,83,84,86,88,89,115,122,200,206]=true):shareT f=fun _=>true:=by
 funext a
 rw[sh_ne f a h,h']
theorem e40 (irs:List (List AV)) (n:Nat) (t:Tab) (m:Mv) (ht:okTab t) (hev:even t n) (a b:Nat) (ha:m.a=a) (hb:m.b=b) (han:a < n) (hbn:b < n):
  ∃K,call X 40 [.agg (tblC irs n t),.agg m.cs] [] []=some (.ret (.tup [tabV (swapT a b t),int 0]),[],K):=by
 obtain⟨K,h47⟩:=e47 t (swapT a b t) ht.1 ht.len (fun l hl h=>by have:=hev l hl;rw[h]at this;simp at this;omega) (by simp[swapT]) ⟨3,[tblC irs n t],.box⟩ (mvB m) 76 ⟨by decide,rfl⟩ (sh_all 76 rfl (by simp)) (fun i l l' h1 h2=>by
  have hl:=hev l (List.mem_of_getElem? h1)
  have hra:=List.getElem?_eq_getElem (show a < l.length by omega)
  have hrb:=List.getElem?_eq_getElem (show b < l.length by omega)
  have:l'=(l.set a l[b]).set b l[a]:=by
   rw[swapT,List.getElem?_map,h1]at h2
   simp only[Option.map_some,Option.some.injEq,swapL,hra,hrb]at h2
   exact h2.symm
  rw[this]
  exact makes76 _ m l i a b _ _ ha hb hra hrb) []
 refine⟨K,?_⟩
 rw[call_eq (by decide) (by simp)]
 have r1:rowB n m.a=true:=by simp[rowB,ha];omega
 have r2:rowB n m.b=true:=by simp[rowB,hb];omega
 simp at h47
 simp[Tryz.func40,Tryz.f40,envOf,r1,r2,h47,leave_pure]
end T
end
section
open Go Go.Proofs Go.Sym
namespace T
attribute [-simp] getElem?_pos
def zeros (y:Lin):Bool:= !(y.C++[y.K]).any nz
def S123 (x y:Lin) (i:Nat) (_:Unit):St:=⟨[(3,.ptr 0 0 0),(6,.ptr 2 0 0),(16,.lst 1 ((y.C++[y.K]).map intC) (.tok 0)),(17,int (y.C++[y.K]).length),(18,int i)],[⟨2,[x.cs],.box⟩,⟨2,[y.cs],.box⟩,⟨2,[[.lst 0 [] .nil,int 0]],.box⟩],[(y.C++[y.K]).length],0⟩
theorem loop123 (x y:Lin) (hy:okLin y):∃o,(∀ s,s.gc [3,6,16,17,18] 3 1=S123 x y 0 ()→loopE X 123 lb123_2 (St.gc [3,6,16,17,18] 3 1) s=some o)∧
  ((y.C++[y.K]).any nz=false→∃e,o= .exit 0 ⟨e,[⟨2,[x.cs],.box⟩,⟨2,[y.cs],.box⟩,⟨2,[[.lst 0 [] .nil,int 0]],.box⟩],[(y.C++[y.K]).length],0⟩∧get e 3= .ptr 0 0 0∧get e 6= .ptr 2 0 0)∧
  ((y.C++[y.K]).any nz=true→∃e,o= .ret ⟨(7,.bool false)::e,[⟨2,[x.cs],.box⟩,⟨2,[y.cs],.box⟩,⟨2,[[.lst 0 [] .nil,int 0]],.box⟩],[(y.C++[y.K]).length],0⟩∧get e 6= .ptr 2 0 0):=by
 obtain⟨o,h1,h2,h3⟩:=loop_list (X:=X) (f:=123) (lb:=lb123_2) (gc:=St.gc [3,6,16,17,18] 3 1) (y.C++[y.K]) (S123 x y) (fun _ _=>True) (stepF nz)
  (fun _ o=>∃e,o= .exit 0 ⟨e,[⟨2,[x.cs],.box⟩,⟨2,[y.cs],.box⟩,⟨2,[[.lst 0 [] .nil,int 0]],.box⟩],[(y.C++[y.K]).length],0⟩∧get e 3= .ptr 0 0 0∧get e 6= .ptr 2 0 0)
  (fun _ o=>∃e,o= .ret ⟨(7,.bool false)::e,[⟨2,[x.cs],.box⟩,⟨2,[y.cs],.box⟩,⟨2,[[.lst 0 [] .nil,int 0]],.box⟩],[(y.C++[y.K]).length],0⟩∧get e 6= .ptr 2 0 0)
  (fun b _=>by simp[lb123_2,Tryz.f123,S123,stops]) (fun i c b hc _=>by
   have hi:=(List.getElem?_eq_some_iff.1 hc).1
   have hw:=wrap_nat i (by simp[okLin]at hy;simp at hi;omega)
   have hc':(List.map intC y.C++[[AV.int .i64 y.K]])[i]? =some [.int .i64 c]:=by
    have:=congrArg (Option.map intC) hc
    rw[←List.getElem?_map,List.map_append]at this
    exact this
   have hi':(i:Int) < (y.C.length:Int)+1:=by simp at hi;omega
   by_cases hf:c=0
   ·simp[stepF,nz,lb123_2,Tryz.f123,S123,stops,hc',hi',hw,hf]
   ·simp[stepF,nz,lb123_2,Tryz.f123,S123,stops,hc',hi',hf]) 0 () (Nat.zero_le _) trivial
 rw[List.drop_zero]at h2 h3
 refine⟨o,h1,fun h=>(h2 () ((foldF nz _ 0).1 h)).1,fun h=>?_⟩
 obtain⟨n,hn⟩:=(foldF nz _ 0).2 h
 exact h3 n hn
theorem e123 (x y:Lin) (k:Int) (hx:okLin x) (hy:okLin y) (hy2:y.C.length+1≤1073741824):call X 123 [.agg x.cs,int k,.agg y.cs] [] []=
  some (.ret (if zeros y then .tup [.agg [.lst 1 (x.C.map intC) (.tok 1),int x.K],.bool true]else .tup [.agg [.lst 0 [] .nil,int 0],.bool false]),[],if zeros y then [y.C.length+1,x.C.length]else [y.C.length+1]):=by
 obtain⟨o,h1,h2,h3⟩:=loop123 x y hy
 simp only[okLin]at hx hy
 simp only[lb123_2,Tryz.f123,S123,bodyOf_some,sub_seq0,sub_seq1,sub_block,sub_loop,sub_nil]at h1
 rw[call_eq (by decide) (by simp)]
 have hl:y.C.length≤1073741823:=by omega
 by_cases h:(y.C++[y.K]).any nz=true
 ·obtain⟨e,rfl,g1⟩:=h3 h
  have hz:zeros y=false:=by simp only[zeros,h];rfl
  simp at h1
  simp[Tryz.func123,Tryz.f123,envOf,ex_loop,firstReg,h1,g1,hx,hy,hl,hz,leave_pure]
 ·obtain⟨e,rfl,g1,g2⟩:=h2 (by simpa using h)
  have hz:zeros y=true:=by simp only[zeros,h];rfl
  simp at h1
  simp[Tryz.func123,Tryz.f123,envOf,ex_loop,firstReg,h1,g1,g2,hx,hy,hl,hz,leave_pure]
end T
end
section
open Go Go.Proofs Go.Sym
namespace T
attribute [-simp] getElem?_pos
theorem ic123_t (x y:Lin) (k:Int) (hx:okLin x) (hy:okLin y) (hy2:y.C.length+1≤1073741824) (hz:zeros y=true):icall X (call X) 123 [.agg [.lst (szOf 1 (x.C.map intC)) (x.C.map intC) .no,.int .i64 x.K],.int .i64 k,.agg [.lst (szOf 1 (y.C.map intC)) (y.C.map intC) .no,.int .i64 y.K]]=
  some (.ret (.tup [.agg [.lst (szOf 1 (x.C.map intC)) (x.C.map intC) .no,.int .i64 x.K],.bool true])):=by
 have h:=e123 x y k hx hy hy2
 simp only[hz,if_true]at h
 exact icall_ret (by simp) (by simp) h rfl rfl rfl
theorem ic123_f (x y:Lin) (k:Int) (hx:okLin x) (hy:okLin y) (hy2:y.C.length+1≤1073741824) (hz:zeros y=false):icall X (call X) 123 [.agg [.lst (szOf 1 (x.C.map intC)) (x.C.map intC) .no,.int .i64 x.K],.int .i64 k,.agg [.lst (szOf 1 (y.C.map intC)) (y.C.map intC) .no,.int .i64 y.K]]=
  some (.ret (.tup [.agg [.lst 0 [] .no,.int .i64 0],.bool false])):=by
 have h:=e123 x y k hx hy hy2
 simp only[hz,if_false,Bool.false_eq_true]at h
 exact icall_ret (by simp) (by simp) h rfl rfl rfl
def plusA (x:Lin) (k:Int) (y:Lin):Lin×Bool:=if -1073741824≤k∧k≤1073741824 then(plusL x k y,linValid (plusL x k y))else if zeros y then(x,true)else(⟨[],0⟩,false)
theorem ic80 (x:Lin) (k:Int) (y:Lin) (hx:linValid x=true) (hy:linValid y=true) (hl:y.C.length=x.C.length):
  icall X (call X) 80 [.agg [.lst (szOf 1 (x.C.map intC)) (x.C.map intC) .no,.int .i64 x.K],.int .i64 k,.agg [.lst (szOf 1 (y.C.map intC)) (y.C.map intC) .no,.int .i64 y.K]]=some (.ret (.tup [.agg (plusA x k y).1.cs,.bool (plusA x k y).2])):=by
 by_cases hk: -1073741824≤k∧k≤1073741824
 ·have h:=e80 x k y hx hy hk hl
  simp only[plusA,if_pos hk]
  exact icall_ret (by simp) (by simp) h rfl rfl (by simp)
 ·have hvx:=valid_iff.1 hx
  have hvy:=valid_iff.1 hy
  have bx:x.C.length≤1073741824:=by omega
  have h2:(1073741824 < k)∨(¬(1073741824 < k)∧k < -1073741824):=by omega
  simp only[plusA,if_neg hk]
  by_cases hz:zeros y=true
  ·have h:=ic123_t x y k (by simp[okLin];omega) (by simp[okLin];omega) (by omega) hz
   refine icall_ret (v:=.tup [.agg x.cs,.bool true]) (H:=[]) (K:=[]) (by simp) (by simp) ?_ rfl rfl (by simp[hz])
   rw[call_eq (by decide) (by simp)]
   rcases h2 with h2 |⟨h1,h2⟩
   ·simp[Tryz.func80,Tryz.f80,envOf,h2,h,bx,leave_pure]
   ·simp[Tryz.func80,Tryz.f80,envOf,h1,h2,h,bx,leave_pure]
  ·have h:=ic123_f x y k (by simp[okLin];omega) (by simp[okLin];omega) (by omega) (by simpa using hz)
   refine icall_ret (v:=.tup [.agg [.lst 0 [] .no,int 0],.bool false]) (H:=[]) (K:=[]) (by simp) (by simp) ?_ rfl rfl (by simp[hz])
   rw[call_eq (by decide) (by simp)]
   rcases h2 with h2 |⟨h1,h2⟩
   ·simp[Tryz.func80,Tryz.f80,envOf,h2,h,bx,leave_pure]
   ·simp[Tryz.func80,Tryz.f80,envOf,h1,h2,h,bx,leave_pure]
def Lins (k0:Blk) (m:Mv) (g:Nat) (i:Nat) (l:List Row) (x:Lin×Bool):Prop:=∀k2 k3 k4 k5 kb K,call X g [.int .i64 i,.win 7 0 l.length none,.ptr 1 0 0] [k0,mvB m,k2,k3,k4,k5,kb,winB l] K=
  some (.ret (.tup [.agg x.1.cs,.bool x.2]),[k0,mvB m,k2,k3,k4,k5,kb,winB l],K)
theorem lins79 (k0:Blk) (m:Mv) (l:List Row) (i a:Nat) (r:Row) (ha:m.a=a) (h1:l[a]? =some r) (hr:linValid r.L=true):Lins k0 m 79 i l (plusA r.L (-2) r.L):=fun k2 k3 k4 k5 kb K=>by
 have la:=(List.getElem?_eq_some_iff.1 h1).1
 have h80:=ic80 r.L (-2) r.L hr hr rfl
 rw[call_eq (by decide) (by simp)]
 simp[Tryz.func79,Tryz.f79,envOf,ha,h1,la,h80,leave_pure]
theorem lins82 (k0:Blk) (m:Mv) (l:List Row) (i a b:Nat) (r q:Row) (ha:m.a=a) (hb:m.b=b) (h1:l[a]? =some r) (h2:l[b]? =some q) (hr:linValid r.L=true) (hq:linValid q.L=true) (hl:q.L.C.length=r.L.C.length):Lins k0 m 82 i l (plusA r.L m.k q.L):=fun k2 k3 k4 k5 kb K=>by
 have la:=(List.getElem?_eq_some_iff.1 h1).1
 have lb:=(List.getElem?_eq_some_iff.1 h2).1
 have h80:=ic80 r.L m.k q.L hr hq hl
 rw[call_eq (by decide) (by simp)]
 simp[Tryz.func82,Tryz.f82,envOf,ha,hb,h1,h2,la,lb,h80,leave_pure]
end T
end
section
open Go Go.Proofs Go.Sym
namespace T
attribute [-simp] getElem?_pos
def unitL (r:Row):Lin:=⟨List.replicate r.L.C.length 0,r.D⟩
theorem unit_valid {r:Row} (hr:linValid r.L=true) (hd:1≤r.D∧r.D≤64):linValid (unitL r)=true:=by
 rw[valid_iff]at*
 refine⟨fun c hc=>?_,by simpa[unitL] using hr.2.1,by rw[fits_iff];simp only[unitL];omega⟩
 rw[(List.mem_replicate.1 hc).2]
 rfl
def shiftX (m:Mv) (i:Nat) (r:Row):Lin×Bool:=if(i:Int)=m.a then plusA r.L m.k (unitL r)else(r.L,true)
theorem lins81 (k0:Blk) (m:Mv) (l:List Row) (i b:Nat) (r:Row) (hb:m.b=b) (h1:l[b]? =some r) (hr:linValid r.L=true) (hd:1≤r.D∧r.D≤64):Lins k0 m 81 i l (shiftX m i r):=fun k2 k3 k4 k5 kb K=>by
 have lb:=(List.getElem?_eq_some_iff.1 h1).1
 have h80:=ic80 r.L m.k (unitL r) hr (unit_valid hr hd) (by simp[unitL])
 have bx:r.L.C.length≤1073741824:=by have:=(valid_iff.1 hr).2.1;omega
 rw[call_eq (by decide) (by simp)]
 simp[unitL]at h80
 by_cases h:(i:Int)=m.a
 ·simp[Tryz.func81,Tryz.f81,envOf,h,hb,h1,lb,h80,bx,shiftX,unitL,leave_pure]
 ·simp[Tryz.func81,Tryz.f81,envOf,h,hb,h1,lb,shiftX,leave_pure]
def G (good:Bool):Blk:=⟨1,[[.bool good]],.box⟩
theorem G_def (good:Bool):G good=⟨1,[[.bool good]],.box⟩:=Eq.trans rfl rfl
def F151 (g:Nat):Blk:=⟨1,[[.fn g [.ptr 1 0 0]]],.box⟩
theorem F151_def (g:Nat):F151 g=⟨1,[[.fn g [.ptr 1 0 0]]],.box⟩:=Eq.trans rfl rfl
def I1 (a:Int):Blk:=⟨1,[[.int .i64 a]],.box⟩
theorem I1_def (a:Int):I1 a=⟨1,[[.int .i64 a]],.box⟩:=Eq.trans rfl rfl
attribute [simp] G_def F151_def I1_def
theorem e122 (k0 k2:Blk) (m:Mv) (g:Nat) (hg:decide (g < 1000000)=true∧sprimT g=none) (hs:shareT g=fun _=>true) (l:List Row) (i a:Nat) (r:Row) (x:Lin×Bool) (h1:l[a]? =some r) (hx:Lins k0 m g i l x) (good:Bool) (kb:Blk) (K:List Nat):
  call X 122 [.int .i64 i,.win 7 0 l.length none,.ptr 4 0 0,.ptr 5 0 0,.ptr 3 0 0] [k0,mvB m,k2,I1 a,F151 g,G good,kb,winB l] K=some (.ret (.win 7 0 l.length none),[k0,mvB m,k2,I1 a,F151 g,G (good&&x.2),kb,winB (l.set a ⟨x.1,r.D⟩)],K):=by
 have la:=(List.getElem?_eq_some_iff.1 h1).1
 have hx':=hx k2 (I1 a) (F151 g) (G good) kb K
 have e1:=map_set' Row.cs l a ⟨x.1,r.D⟩
 simp only[Row.cs_def,ints_def,int_def,Lin.cs_def,winB_def,mvB_def,Mv.cs_def,G_def,F151_def,I1_def]at e1 hx'
 rw[call_eq (by decide) (by simp)]
 cases good
 ·simp[-List.map_set,Tryz.func122,Tryz.f122,envOf,h1,la,hg,hs,hx',e1,leave_pure]
 ·simp[-List.map_set,Tryz.func122,Tryz.f122,envOf,h1,la,hg,hs,hx',e1,leave_pure]
end T
end
section
open Go Go.Proofs Go.Sym
namespace T
attribute [-simp] getElem?_pos
def rowAt (a:Nat) (x:Lin) (l:List Row):List Row:=match l[a]? with
 |some r=>l.set a ⟨x,r.D⟩
 |none=>l
def gd (X1:Nat→Lin×Bool) (i:Nat):Bool:=(List.range i).all fun j=>(X1 j).2
theorem gd_succ (X1 i):gd X1 (i+1)=(gd X1 i&&(X1 i).2):=by simp[gd,List.range_succ]
def S47c (t t':Tab) (k0:Blk) (m:Mv) (k2:Blk) (a g:Nat) (X1:Nat→Lin×Bool) (p:Nat×List Nat):St:=⟨[(1,.fn 122 [.ptr 4 0 0,.ptr 5 0 0,.ptr 3 0 0]),(5,.win 6 0 t.length (some t.length)),(11,tabV t),(12,int t.length),(13,int p.1)],
 [k0,mvB m,k2,I1 a,F151 g,G (gd X1 p.1),⟨1,part (t'.map rowsC) z47 p.1,.box⟩],p.2,6⟩
theorem loop47c (t t':Tab) (ht:t.length≤1073741824) (htt:∀l ∈ t,l.length≤1073741824) (hlen:t'.length=t.length) (k0:Blk) (m:Mv) (k2:Blk) (a g:Nat) (hg:decide (g < 1000000)=true∧sprimT g=none) (hs:shareT g=fun _=>true) (X1:Nat→Lin×Bool)
  (hF:∀i l l',t[i]? =some l→t'[i]? =some l'→∃r,l[a]? =some r∧Lins k0 m g i l (X1 i)∧l'=l.set a ⟨(X1 i).1,r.D⟩) (K:List Nat):
  ∃o,(∀ s,s.gc [1,5,11,12,13] 7 K.length=S47c t t' k0 m k2 a g X1 (0,K)→loopE X 47 lb47_3 (St.gc [1,5,11,12,13] 7 K.length) s=some o)∧∃e K',o= .exit 0 ⟨e,[k0,mvB m,k2,I1 a,F151 g,G (gd X1 t.length),⟨1,t'.map rowsC,.box⟩],K',6⟩∧get e 5= .win 6 0 t.length (some t.length):=by
 refine loop_inv (S47c t t' k0 m k2 a g X1) (fun p=>p.1≤t.length) (fun p=>t.length-p.1) _ (fun p hp=>?_) (0,K) (Nat.zero_le _)
 obtain⟨i,K1⟩:=p
 by_cases hi:i < t.length
 ·right
  have hc:=List.getElem?_eq_getElem hi
  have hc':=List.getElem?_eq_getElem (show i < t'.length by omega)
  obtain⟨r,h1,h2,h3⟩:=hF i _ _ hc hc'
  have hw:=wrap_nat i (by omega)
  have hn:t[i]≠[]:=by rintro e;rw[e]at h1;simp at h1
  have h90:=e90 t[i] (htt _ (List.getElem_mem hi)) hn [k0,mvB m,k2,I1 a,F151 g,G (gd X1 i),⟨1,part (t'.map rowsC) z47 i,.box⟩] K1
  have hsh:shareT 90 [rowsV t[i]]=true:=by
   cases h:t[i]with
   |nil=>exact absurd h hn
   |cons a q=>rfl
  have hz:(part (t'.map rowsC) z47 i)[i]? =some [.lst 0 [] .nil]:=by rw[part_get,if_neg (by omega),if_pos (by simp;omega),z47_def]
  have h122:=e122 k0 k2 m g hg hs t[i] i a r (X1 i) h1 h2 (gd X1 i) ⟨1,part (t'.map rowsC) z47 i,.box⟩ K1
  have hps:(List.map (scrubL 7 K1.length) (List.map (sealL 7 (fun b=>[k0,mvB m,k2,I1 a,F151 g,G (gd X1 i&&(X1 i).2),⟨1,(part (t'.map rowsC) z47 i).set i [.win 7 0 t[i].length none],.box⟩,winB t'[i]][b]?)) ((part (t'.map rowsC) z47 i).set i [.win 7 0 t[i].length none])))=part (t'.map rowsC) z47 (i+1):=by
   refine part_step2 _ _ _ _ (rowsC t'[i]) _ i (by simp[hc']) (fun y hy=>?_) (by simp[z47]) ?_
   ·obtain⟨l,_,rfl⟩:=List.mem_map.1 hy
    simp
   ·have hll:t'[i].length=t[i].length:=by rw[h3];simp
    simp[hll]
  rw[←h3]at h122
  simp only[rowsV_def,winB_def,int_def,mvB_def,Mv.cs_def,I1_def,F151_def,G_def,ints_def]at*
  simp[-List.map_set,-List.map_map,lb47_3,Tryz.f47,S47c,hi,hc,hw,hsh,h90,h122,hz,hps]
  exact⟨i+1,⟨by omega,gd_succ X1 i ▸ rfl,rfl⟩,by omega,by omega⟩
 ·left
  obtain rfl:i=t.length:=by simp at hp;omega
  have hpf:part (t'.map rowsC) z47 t.length=t'.map rowsC:=by
   have:=part_full (t'.map rowsC) z47
   rwa[List.length_map,hlen]at this
  simp[lb47_3,Tryz.f47,S47c,stops,hpf]
end T
end
section
open Go Go.Proofs Go.Sym
namespace T
attribute [-simp] getElem?_pos
theorem e47c (t t':Tab) (ht:t.length≤1073741824) (htt:∀l ∈ t,l.length≤1073741824) (hlen:t'.length=t.length) (k0:Blk) (m:Mv) (k2:Blk) (a g:Nat) (hg:decide (g < 1000000)=true∧sprimT g=none) (hs:shareT g=fun _=>true) (X1:Nat→Lin×Bool)
  (hF:∀i l l',t[i]? =some l→t'[i]? =some l'→∃r,l[a]? =some r∧Lins k0 m g i l (X1 i)∧l'=l.set a ⟨(X1 i).1,r.D⟩) (K:List Nat):
  ∃K',call X 47 [tabV t,.fn 122 [.ptr 4 0 0,.ptr 5 0 0,.ptr 3 0 0]] [k0,mvB m,k2,I1 a,F151 g,G true] K=some (.ret (tabV t'),[k0,mvB m,k2,I1 a,F151 g,G (gd X1 t.length)],K'):=by
 obtain⟨o,h1,e,K',rfl,h2⟩:=loop47c t t' ht htt hlen k0 m k2 a g hg hs X1 hF K
 refine⟨K',?_⟩
 simp only[lb47_3,Tryz.f47,S47c,bodyOf_some,sub_seq0,sub_seq1,sub_block,sub_loop,sub_nil,part_zero,List.length_map,hlen]at h1
 have hgd:gd X1 0=true:=rfl
 rw[hgd]at h1
 rw[call_eq (by decide) (by simp)]
 have hb:t'.length=t.length:=hlen
 simp[Tryz.func47,Tryz.f47,envOf,ex_loop,firstReg,h1,h2,z47,ht,hb,leave_pure]
theorem e78 (irs:List (List AV)) (n:Int) (t t':Tab) (ht:t.length≤1073741824) (htt:∀l ∈ t,l.length≤1073741824) (hlen:t'.length=t.length) (k0:Blk) (m:Mv) (a g:Nat) (hg:decide (g < 1000000)=true∧sprimT g=none) (hs:shareT g=fun _=>true) (X1:Nat→Lin×Bool)
  (hF:∀i l l',t[i]? =some l→t'[i]? =some l'→∃r,l[a]? =some r∧Lins k0 m g i l (X1 i)∧l'=l.set a ⟨(X1 i).1,r.D⟩) (K:List Nat):
  ∃K',call X 78 [.agg (tblC irs n t),int a,.fn g [.ptr 1 0 0]] [k0,mvB m] K=some (.ret (if gd X1 t.length then .tup [tabV t',int 0]else .tup [.lst 0 [] .nil,int 3]),[k0,mvB m],K'):=by
 obtain⟨K',h⟩:=e47c t t' ht htt hlen k0 m ⟨3,[tblC irs n t],.box⟩ a g hg hs X1 hF K
 refine⟨K',?_⟩
 simp only[tabV_def,mvB_def,I1_def,F151_def,G_def,tblC_def,infV_def,int_def,Mv.cs_def,ints_def]at h
 rw[call_eq (by decide) (by simp)]
 by_cases hgd:gd X1 t.length=true
 ·simp[Tryz.func78,Tryz.f78,envOf,h,hgd,leave_pure]
 ·simp[Tryz.func78,Tryz.f78,envOf,h,hgd,leave_pure]
def flipX (a:Nat) (l:List Row):Lin×Bool:=match l[a]? with
 |some r=>plusA r.L (-2) r.L
 |none=>(⟨[],0⟩,true)
def setX (a:Nat) (f:Nat→List Row→Lin×Bool) (t:Tab):Tab:=t.mapIdx fun i l=>rowAt a (f i l).1 l
def okX (f:Nat→List Row→Lin×Bool) (t:Tab):Bool:=gd (fun i=>match t[i]? with |some l=>f i l |none=>(⟨[],0⟩,true)) t.length
structure Good (t:Tab) (n:Nat):Prop where
 ok:okTab t
 even:even t n
 lin:∀l ∈ t,∀r ∈ l,linValid r.L=true∧1≤r.D∧r.D≤64
 dim:∀l ∈ t,∀r ∈ l,∀q ∈ l,q.L.C.length=r.L.C.length
theorem Good.wide {t:Tab} {n:Nat} (h:Good t n) {a:Nat} (ha:a < n):wide t a:=fun l hl=>by rw[h.even l hl];exact ha
theorem chg (irs:List (List AV)) (n:Nat) (t:Tab) (m:Mv) (hG:Good t n) (a g:Nat) (ha:a < n) (hg:decide (g < 1000000)=true∧sprimT g=none) (hs:shareT g=fun _=>true) (f:Nat→List Row→Lin×Bool)
  (hF:∀i l,t[i]? =some l→Lins ⟨3,[tblC irs n t],.box⟩ m g i l (f i l)):∃K',call X 78 [.agg (tblC irs n t),int a,.fn g [.ptr 1 0 0]] [⟨3,[tblC irs n t],.box⟩,mvB m] []=some (.ret (if okX f t then .tup [tabV (setX a f t),int 0]else .tup [.lst 0 [] .nil,int 3]),[⟨3,[tblC irs n t],.box⟩,mvB m],K'):=by
 refine e78 irs n t (setX a f t) hG.ok.1 hG.ok.len (by simp[setX]) _ m a g hg hs _ (fun i l l' h1 h2=>?_) []
 have hl:=hG.even l (List.mem_of_getElem? h1)
 have hr:=List.getElem?_eq_getElem (show a < l.length by omega)
 refine⟨_,hr,by simp only[h1];exact hF i l h1,?_⟩
 simp only[setX,List.getElem?_mapIdx,h1,Option.map_some,Option.some.injEq,rowAt,hr]at h2
 simp only[h1]
 exact h2.symm
theorem e41 (irs:List (List AV)) (n:Nat) (t:Tab) (m:Mv) (hG:Good t n) (a:Nat) (ha:m.a=a) (han:a < n) (hw:t.any (notW a)=false):
  ∃K,call X 41 [.agg (tblC irs n t),.agg m.cs] [] []=some (.ret (if okX (fun _ l=>flipX a l) t then .tup [tabV (setX a (fun _ l=>flipX a l) t),int 0]else .tup [.lst 0 [] .nil,int 3]),[],K):=by
 obtain⟨K,h⟩:=chg irs n t m hG a 79 han ⟨by decide,rfl⟩ (sh_all 79 rfl (by simp)) (fun _ l=>flipX a l) fun i l h1=>by
  have hl:=hG.even l (List.mem_of_getElem? h1)
  have hr:=List.getElem?_eq_getElem (show a < l.length by omega)
  simp only[flipX,hr]
  exact lins79 _ m l i a _ ha hr (hG.lin l (List.mem_of_getElem? h1) _ (List.getElem_mem _)).1
 refine⟨K,?_⟩
 have r1:rowB n m.a=true:=by simp[rowB,ha];omega
 have r2:=ic77 irs n t hG.ok a (hG.wide han)
 rw[hw]at r2
 simp only[tabV_def,mvB_def,tblC_def,infV_def,int_def,Mv.cs_def,ints_def,ha]at h
 rw[call_eq (by decide) (by simp)]
 rw[ha]at r1
 by_cases hgd:okX (fun _ l=>flipX a l) t=true
 ·rw[hgd]at h
  simp[Tryz.func41,Tryz.f41,envOf,ha,r1,r2,h,hgd,leave_pure]
 ·rw[Bool.not_eq_true]at hgd
  rw[hgd]at h
  simp[Tryz.func41,Tryz.f41,envOf,ha,r1,r2,h,hgd,leave_pure]
end T
end
section
open Go Go.Proofs Go.Sym
namespace T
attribute [-simp] getElem?_pos
def Ret (T:AV) (o:Option Tab) (E:Int):Prop:=match o with
 |some t=>T= .tup [tabV t,int 0]
 |none=>E≠0∧T= .tup [.lst 0 [] .nil,int E]
theorem ret_none {e:Int} (h:e≠0) {o:Option Tab} (ho:o=none) {E:Int} (hE:E=e):Ret (.tup [.lst 0 [] .nil,int e]) o E:=by subst ho hE;exact⟨h,rfl⟩
def flipT (n:Nat) (t:Tab) (m:Mv):Option Tab:=if rowB n m.a&& !t.any (notW m.a.toNat)&&okX (fun _ l=>flipX m.a.toNat l) t then some (setX m.a.toNat (fun _ l=>flipX m.a.toNat l) t)else none
def flipE (n:Nat) (t:Tab) (m:Mv):Int:=if rowB n m.a then(if t.any (notW m.a.toNat)then 9 else 3)else 6
theorem rowB_nat {n:Nat} {a:Int} (h:rowB n a=true):∃k:Nat,a=k∧k < n:=by
 simp[rowB]at h
 exact⟨a.toNat,by omega,by omega⟩
theorem e41' (irs:List (List AV)) (n:Nat) (t:Tab) (m:Mv) (hG:Good t n):∃T K,call X 41 [.agg (tblC irs n t),.agg m.cs] [] []=some (.ret T,[],K)∧Ret T (flipT n t m) (flipE n t m):=by
 by_cases h1:rowB n m.a=true
 ·obtain⟨a,ha,han⟩:=rowB_nat h1
  by_cases hw:t.any (notW a)=true
  ·have r2:=ic77 irs n t hG.ok a (hG.wide han)
   rw[hw]at r2
   refine⟨.tup [.lst 0 [] .nil,int 9],[],?_,ret_none (by decide) (by simp[flipT,ha,hw]) (by rw[ha]at h1;simp[flipE,ha,h1,hw])⟩
   rw[call_eq (by decide) (by simp)]
   rw[ha]at h1
   simp[Tryz.func41,Tryz.f41,envOf,ha,h1,r2,leave_pure]
  ·rw[Bool.not_eq_true]at hw
   obtain⟨K,h⟩:=e41 irs n t m hG a ha han hw
   refine⟨_,K,h,?_⟩
   rw[ha]at h1
   by_cases hgd:okX (fun _ l=>flipX a l) t=true
   ·simp only[flipT,ha,Int.toNat_natCast,h1,hw,hgd];rfl
   ·rw[Bool.not_eq_true]at hgd
    simp only[flipT,flipE,ha,Int.toNat_natCast,h1,hw,hgd]
    exact⟨by decide,rfl⟩
 ·refine⟨.tup [.lst 0 [] .nil,int 6],[],?_,ret_none (by decide) (by simp[flipT,h1]) (by simp[flipE,h1])⟩
  rw[call_eq (by decide) (by simp)]
  simp[Tryz.func41,Tryz.f41,envOf,h1,leave_pure]
def shiftY (m:Mv) (b:Nat) (i:Nat) (l:List Row):Lin×Bool:=match l[b]? with
 |some r=>shiftX m i r
 |none=>(⟨[],0⟩,true)
def shiftT (n:Nat) (t:Tab) (m:Mv):Option Tab:=if rowB t.length m.a&&rowB n m.b&&okX (shiftY m m.b.toNat) t then some (setX m.b.toNat (shiftY m m.b.toNat) t)else none
def shiftE (n:Nat) (t:Tab) (m:Mv):Int:=if rowB t.length m.a then(if rowB n m.b then 3 else 6)else 5
theorem e42' (irs:List (List AV)) (n:Nat) (t:Tab) (m:Mv) (hG:Good t n):∃T K,call X 42 [.agg (tblC irs n t),.agg m.cs] [] []=some (.ret T,[],K)∧Ret T (shiftT n t m) (shiftE n t m):=by
 by_cases h0:m.a < 0
 ·refine⟨.tup [.lst 0 [] .nil,int 5],[],?_,ret_none (by decide) (by simp[shiftT,show rowB t.length m.a=false by simp[rowB];omega]) (by simp[shiftE,show rowB t.length m.a=false by simp[rowB];omega])⟩
  rw[call_eq (by decide) (by simp)]
  simp[Tryz.func42,Tryz.f42,envOf,h0,leave_pure]
 ·by_cases h0':(t.length:Int)≤m.a
  ·refine⟨.tup [.lst 0 [] .nil,int 5],[],?_,ret_none (by decide) (by simp[shiftT,show rowB t.length m.a=false by simp[rowB];omega]) (by simp[shiftE,show rowB t.length m.a=false by simp[rowB];omega])⟩
   rw[call_eq (by decide) (by simp)]
   simp[Tryz.func42,Tryz.f42,envOf,h0,h0',leave_pure]
  ·have hA:rowB t.length m.a=true:=by simp[rowB];omega
   by_cases h1:rowB n m.b=true
   ·obtain⟨b,hb,hbn⟩:=rowB_nat h1
    obtain⟨K,h⟩:=chg irs n t m hG b 81 hbn ⟨by decide,rfl⟩ (sh_all 81 rfl (by simp)) (shiftY m b) fun i l hl=>by
     have hll:=hG.even l (List.mem_of_getElem? hl)
     have hr:=List.getElem?_eq_getElem (show b < l.length by omega)
     have hgl:=hG.lin l (List.mem_of_getElem? hl) _ (List.getElem_mem (show b < l.length by omega))
     simp only[shiftY,hr]
     exact lins81 _ m l i b _ hb hr hgl.1 hgl.2
    simp only[tabV_def,mvB_def,tblC_def,infV_def,int_def,Mv.cs_def,ints_def,hb]at h
    refine⟨if okX (shiftY m b) t then .tup [tabV (setX b (shiftY m b) t),int 0]else .tup [.lst 0 [] .nil,int 3],K,?_,?_⟩
    ·rw[call_eq (by decide) (by simp)]
     rw[hb]at h1
     by_cases hgd:okX (shiftY m b) t=true
     ·rw[hgd]at h
      simp[Tryz.func42,Tryz.f42,envOf,h0,h0',hb,h1,h,hgd,leave_pure]
     ·rw[Bool.not_eq_true]at hgd
      rw[hgd]at h
      simp[Tryz.func42,Tryz.f42,envOf,h0,h0',hb,h1,h,hgd,leave_pure]
    ·by_cases hgd:okX (shiftY m b) t=true
     ·have:shiftT n t m=some (setX b (shiftY m b) t):=by unfold shiftT;rw[hA,h1,hb];simp only[Int.toNat_natCast,hgd];rfl
      rw[this,hgd];rfl
     ·rw[Bool.not_eq_true]at hgd
      have:shiftT n t m=none:=by unfold shiftT;rw[hA,h1,hb];simp only[Int.toNat_natCast,hgd];rfl
      have hE:shiftE n t m=3:=by rw[←hb]at *;simp[shiftE,hA,h1]
      rw[this,hgd,hE]
      exact⟨by decide,rfl⟩
   ·refine⟨.tup [.lst 0 [] .nil,int 6],[],?_,ret_none (by decide) (by simp[shiftT,h1]) (by simp[shiftE,hA,h1])⟩
    rw[call_eq (by decide) (by simp)]
    simp[Tryz.func42,Tryz.f42,envOf,h0,h0',h1,leave_pure]
def skewX (m:Mv) (a b:Nat) (l:List Row):Lin×Bool:=match l[a]?,l[b]? with
 |some r,some q=>plusA r.L m.k q.L
 |_,_=>(⟨[],0⟩,true)
def skewT (n:Nat) (t:Tab) (m:Mv):Option Tab:=
 if rowB n m.a&&rowB n m.b&&decide (m.a≠m.b)&& !t.any (notW m.a.toNat)&& !t.any (notW m.b.toNat)&&okX (fun _ l=>skewX m m.a.toNat m.b.toNat l) t then some (setX m.a.toNat (fun _ l=>skewX m m.a.toNat m.b.toNat l) t)else none
def skewE (n:Nat) (t:Tab) (m:Mv):Int:=if rowB n m.a&&rowB n m.b&&decide (m.a≠m.b)then(if t.any (notW m.a.toNat)||t.any (notW m.b.toNat)then 9 else 3)else 6
theorem e43' (irs:List (List AV)) (n:Nat) (t:Tab) (m:Mv) (hG:Good t n):∃T K,call X 43 [.agg (tblC irs n t),.agg m.cs] [] []=some (.ret T,[],K)∧Ret T (skewT n t m) (skewE n t m):=by
 by_cases h1:rowB n m.a=true
 ·by_cases h2:rowB n m.b=true
  ·by_cases h3:m.a=m.b
   ·refine⟨.tup [.lst 0 [] .nil,int 6],[],?_,ret_none (by decide) (by simp[skewT,h3]) (by simp[skewE,h3])⟩
    rw[call_eq (by decide) (by simp)]
    rw[h3]at h1
    simp[Tryz.func43,Tryz.f43,envOf,h1,h3,leave_pure]
   ·obtain⟨a,ha,han⟩:=rowB_nat h1
    obtain⟨b,hb,hbn⟩:=rowB_nat h2
    have w1:=ic77 irs n t hG.ok a (hG.wide han)
    have w2:=ic77 irs n t hG.ok b (hG.wide hbn)
    have hab: ¬((a:Int)=b):=by rw[←ha,←hb];exact h3
    have hab':a≠b:=by omega
    rw[ha]at h1
    rw[hb]at h2
    by_cases hw1:t.any (notW a)=true
    ·rw[hw1]at w1
     refine⟨.tup [.lst 0 [] .nil,int 9],[],?_,ret_none (by decide) (by simp[skewT,ha,hw1]) (by simp[skewE,ha,hb,h1,h2,hab',hw1])⟩
     rw[call_eq (by decide) (by simp)]
     simp[Tryz.func43,Tryz.f43,envOf,ha,hb,h1,h2,hab',w1,leave_pure]
    ·rw[Bool.not_eq_true]at hw1
     rw[hw1]at w1
     by_cases hw2:t.any (notW b)=true
     ·rw[hw2]at w2
      refine⟨.tup [.lst 0 [] .nil,int 9],[],?_,ret_none (by decide) (by simp[skewT,hb,hw2]) (by simp[skewE,ha,hb,h1,h2,hab',hw2])⟩
      rw[call_eq (by decide) (by simp)]
      simp[Tryz.func43,Tryz.f43,envOf,ha,hb,h1,h2,hab',w1,w2,leave_pure]
     ·rw[Bool.not_eq_true]at hw2
      rw[hw2]at w2
      obtain⟨K,h⟩:=chg irs n t m hG a 82 han ⟨by decide,rfl⟩ (sh_all 82 rfl (by simp)) (fun _ l=>skewX m a b l) fun i l hl=>by
       have hll:=hG.even l (List.mem_of_getElem? hl)
       have hra:=List.getElem?_eq_getElem (show a < l.length by omega)
       have hrb:=List.getElem?_eq_getElem (show b < l.length by omega)
       have hga:=hG.lin l (List.mem_of_getElem? hl) _ (List.getElem_mem (show a < l.length by omega))
       have hgb:=hG.lin l (List.mem_of_getElem? hl) _ (List.getElem_mem (show b < l.length by omega))
       simp only[skewX,hra,hrb]
       exact lins82 _ m l i a b _ _ ha hb hra hrb hga.1 hgb.1 (hG.dim l (List.mem_of_getElem? hl) _ (List.getElem_mem _) _ (List.getElem_mem _))
      simp only[tabV_def,mvB_def,tblC_def,infV_def,int_def,Mv.cs_def,ints_def,ha,hb]at h
      refine⟨if okX (fun _ l=>skewX m a b l) t then .tup [tabV (setX a (fun _ l=>skewX m a b l) t),int 0]else .tup [.lst 0 [] .nil,int 3],K,?_,?_⟩
      ·rw[call_eq (by decide) (by simp)]
       by_cases hgd:okX (fun _ l=>skewX m a b l) t=true
       ·rw[hgd]at h
        simp[Tryz.func43,Tryz.f43,envOf,ha,hb,h1,h2,hab',w1,w2,h,hgd,leave_pure]
       ·rw[Bool.not_eq_true]at hgd
        rw[hgd]at h
        simp[Tryz.func43,Tryz.f43,envOf,ha,hb,h1,h2,hab',w1,w2,h,hgd,leave_pure]
      ·by_cases hgd:okX (fun _ l=>skewX m a b l) t=true
       ·have:skewT n t m=some (setX a (fun _ l=>skewX m a b l) t):=by unfold skewT;rw[ha,hb,h1,h2];simp only[Int.toNat_natCast,hgd,hw1,hw2,ne_eq,hab];rfl
        rw[this,hgd];rfl
       ·rw[Bool.not_eq_true]at hgd
        have:skewT n t m=none:=by unfold skewT;rw[ha,hb,h1,h2];simp only[Int.toNat_natCast,hgd,hw1,hw2,ne_eq,hab];rfl
        have hE:skewE n t m=3:=by simp[skewE,ha,hb,h1,h2,hab',hw1,hw2]
        rw[this,hgd,hE]
        exact⟨by decide,rfl⟩
  ·refine⟨.tup [.lst 0 [] .nil,int 6],[],?_,ret_none (by decide) (by simp[skewT,h2]) (by simp[skewE,h2])⟩
   rw[call_eq (by decide) (by simp)]
   simp[Tryz.func43,Tryz.f43,envOf,h1,h2,leave_pure]
 ·refine⟨.tup [.lst 0 [] .nil,int 6],[],?_,ret_none (by decide) (by simp[skewT,h1]) (by simp[skewE,h1])⟩
  rw[call_eq (by decide) (by simp)]
  simp[Tryz.func43,Tryz.f43,envOf,h1,leave_pure]
end T
end
section
open Go Go.Proofs Go.Sym
namespace T
attribute [-simp] getElem?_pos
def S48 (l:List Row) (kb:Blk) (p:Nat×List (List AV)×List Nat):St:=⟨[(1,.win 1 0 l.length none),(7,.win 1 0 l.length none),(8,int l.length),(9,int p.1)],[kb,⟨3,p.2.1,.toky⟩],p.2.2,2⟩
def Inv48 (l:List Row) (p:Nat×List (List AV)×List Nat):Prop:=p.1≤l.length∧p.2.1.length=l.length∧p.2.1.map normL=l.map Row.cs∧∀j,p.1≤j→p.2.1[j]? =(l.map Row.cs)[j]?
theorem loop48 (l:List Row) (hl:okRows l) (kb:Blk) (K:List Nat):∃o,(∀ s,s.gc [1,7,8,9] 2 K.length=S48 l kb (0,l.map Row.cs,K)→loopE X 48 lb48_2 (St.gc [1,7,8,9] 2 K.length) s=some o)∧
  ∃e R K',o= .exit 0 ⟨e,[kb,⟨3,R,.toky⟩],K',2⟩∧get e 1= .win 1 0 l.length none∧R.length=l.length∧R.map normL=l.map Row.cs:=by
 refine loop_inv (S48 l kb) (Inv48 l) (fun p=>l.length-p.1) _ (fun p hp=>?_) (0,l.map Row.cs,K) ⟨Nat.zero_le _,by simp,by simp,fun j _=>rfl⟩
 obtain⟨i,R,K1⟩:=p
 obtain⟨h1,h2,h3,h4⟩:=hp
 simp only at h1 h2 h3 h4
 have hb:=hl.1
 by_cases hi:i < l.length
 ·right
  have hc:=List.getElem?_eq_getElem hi
  have hR:R[i]? =some [.lst (szOf 1 (l[i].L.C.map intC)) (l[i].L.C.map intC) .no,.int .i64 l[i].L.K,.int .i64 l[i].D]:=by
   rw[h4 i (Nat.le_refl _),List.getElem?_map,hc];simp
  have hw:=wrap_nat i (by omega)
  have hC:=hl.2 _ (List.getElem_mem hi)
  simp only[okLin]at hC
  simp[-List.map_set,lb48_2,Tryz.f48,S48,hi,hw,hR,h2,hC]
  refine⟨i+1,_,_,⟨by omega,rfl,rfl⟩,⟨by omega,by simpa using h2,?_,fun j hj=>?_⟩,by omega⟩
  ·rw[List.map_set,h3]
   refine List.ext_getElem? fun j=>?_
   rw[List.getElem?_set]
   by_cases e:i=j
   ·subst e
    simp[hi,hc]
   ·simp[e]
  ·simp only at hj
   rw[List.getElem?_set_ne (by omega),h4 j (by omega)]
 ·left
  obtain rfl:i=l.length:=by omega
  simp[lb48_2,Tryz.f48,S48,stops]
  exact⟨_,R,⟨rfl,rfl⟩,by simp,h2,h3⟩
theorem e48 (l:List Row) (hl:okRows l) (x:AV) (kb:Blk) (K:List Nat):∃R K',call X 48 [x,.win 1 0 l.length none] [kb,winB l] K=some (.ret (.win 1 0 l.length none),[kb,⟨3,R,.toky⟩],K')∧R.length=l.length∧R.map normL=l.map Row.cs:=by
 obtain⟨o,h1,e,R,K',rfl,h2,h3,h4⟩:=loop48 l hl kb K
 refine⟨R,K',?_,h3,h4⟩
 simp only[lb48_2,Tryz.f48,S48,bodyOf_some,sub_seq0,sub_seq1,sub_block,sub_loop,sub_nil]at h1
 rw[call_eq (by decide) (by simp)]
 simp[Tryz.func48,Tryz.f48,envOf,ex_loop,firstReg,h1,h2,leave_pure]
theorem loop48n (kb:Blk) (q:Nat) (K:List Nat) (hq:q < K.length):∃o,(∀ s,s.gc [1,7,8,9] 1 K.length=⟨[(1,.lst 3 [] (.tok q)),(7,.lst 3 [] (.tok q)),(8,int 0),(9,int 0)],[kb],K,1⟩→loopE X 48 lb48_2 (St.gc [1,7,8,9] 1 K.length) s=some o)∧
  ∃e,o= .exit 0 ⟨e,[kb],K,1⟩∧get e 1= .lst 3 [] (.tok q):=by
 exact loop_unit 0 (fun _=>⟨[(1,.lst 3 [] (.tok q)),(7,.lst 3 [] (.tok q)),(8,int 0),(9,int 0)],[kb],K,1⟩) _ (by simp[lb48_2,Tryz.f48,stops]) (fun i hi=>absurd hi (by omega))
theorem e48n (x:AV) (kb:Blk) (q:Nat) (K:List Nat) (hq:q < K.length):call X 48 [x,.lst 3 [] (.tok q)] [kb] K=some (.ret (.lst 3 [] (.tok q)),[kb],K):=by
 obtain⟨o,h1,e,rfl,h2⟩:=loop48n kb q K hq
 simp only[lb48_2,Tryz.f48,bodyOf_some,sub_seq0,sub_seq1,sub_block,sub_loop,sub_nil]at h1
 rw[call_eq (by decide) (by simp)]
 simp[Tryz.func48,Tryz.f48,envOf,ex_loop,firstReg,h1,h2,hq,leave_pure]
def S47o (t:Tab) (i:Nat):St:=⟨[(1,.fn 48 []),(5,.win 0 0 t.length (some t.length)),(11,tabV t),(12,int t.length),(13,int i)],[⟨1,part (t.map rowsC) z47 i,.box⟩],[],0⟩
theorem loop47o (t:Tab) (ht:okTab t):∃o,(∀ s,s.gc [1,5,11,12,13] 1 0=S47o t 0→loopE X 47 lb47_3 (St.gc [1,5,11,12,13] 1 0) s=some o)∧∃e,o= .exit 0 ⟨e,[⟨1,t.map rowsC,.box⟩],[],0⟩∧get e 5= .win 0 0 t.length (some t.length):=by
 refine loop_unit t.length (S47o t) _ ?_ fun i hi=>?_
 ·have hpf:part (t.map rowsC) z47 t.length=t.map rowsC:=by
   have:=part_full (t.map rowsC) z47
   rwa[List.length_map]at this
  simp[lb47_3,Tryz.f47,S47o,stops,hpf]
 ·have hc:=List.getElem?_eq_getElem hi
  have hw:=wrap_nat i (by have:=ht.1;omega)
  have hz:(part (t.map rowsC) z47 i)[i]? =some [.lst 0 [] .nil]:=by rw[part_get,if_neg (by omega),if_pos (by simp;omega),z47_def]
  have hok:=ht.2 _ (List.getElem_mem hi)
  by_cases hn:t[i]=[]
  ·have hps:(List.map (scrubL 1 0) (List.map (sealL 1 (fun b=>[(⟨1,(part (t.map rowsC) z47 i).set i [.lst 3 [] (.tok 0)],.box⟩:Blk)][b]?)) ((part (t.map rowsC) z47 i).set i [.lst 3 [] (.tok 0)])))=part (t.map rowsC) z47 (i+1):=by
    refine part_step2 _ _ _ _ (rowsC t[i]) _ i (by simp[hc]) (fun y hy=>?_) (by simp[z47]) (by simp[hn])
    obtain⟨l,_,rfl⟩:=List.mem_map.1 hy
    simp
   have h48:=e48n (.int .i64 i) ⟨1,part (t.map rowsC) z47 i,.box⟩ 0 [0] (by simp)
   rw[hn]at hc
   simp[-List.map_set,-List.map_map,lb47_3,Tryz.f47,S47o,hi,hc,hw,h48,hz,hps]
  ·obtain⟨R,K',h48,h49,h50⟩:=e48 t[i] hok (.int .i64 i) ⟨1,part (t.map rowsC) z47 i,.box⟩ []
   have h90:=e90 t[i] hok.1 hn [⟨1,part (t.map rowsC) z47 i,.box⟩] []
   have hsh:shareT 90 [rowsV t[i]]=true:=by
    cases h:t[i]with
    |nil=>exact absurd h hn
    |cons a q=>rfl
   have hps:(List.map (scrubL 1 0) (List.map (sealL 1 (fun b=>[(⟨1,(part (t.map rowsC) z47 i).set i [.win 1 0 t[i].length none],.box⟩:Blk),⟨3,R,.toky⟩][b]?)) ((part (t.map rowsC) z47 i).set i [.win 1 0 t[i].length none])))=part (t.map rowsC) z47 (i+1):=by
    refine part_step2 _ _ _ _ (rowsC t[i]) _ i (by simp[hc]) (fun y hy=>?_) (by simp[z47]) ?_
    ·obtain⟨l,_,rfl⟩:=List.mem_map.1 hy
     simp
    ·have hsz:szOf 3 R=szOf 3 (t[i].map Row.cs):=szOf_ext _ _ _ (by simp[h49])
     simp[h49,h50,hsz]
   simp only[rowsV_def,winB_def]at h90 hsh h48
   simp[-List.map_set,-List.map_map,lb47_3,Tryz.f47,S47o,hi,hc,hw,hsh,h90,h48,hz,hps]
theorem e47o (t:Tab) (ht:okTab t):call X 47 [tabV t,.fn 48 []] [] []=some (.ret (tabV t),[],[]):=by
 obtain⟨o,h1,e,rfl,h2⟩:=loop47o t ht
 simp only[lb47_3,Tryz.f47,S47o,bodyOf_some,sub_seq0,sub_seq1,sub_block,sub_loop,sub_nil,part_zero,List.length_map]at h1
 rw[call_eq (by decide) (by simp)]
 have hb:=ht.1
 simp[Tryz.func47,Tryz.f47,envOf,ex_loop,firstReg,h1,h2,z47,hb,leave_pure]
theorem ic47o (t:Tab) (ht:okTab t):icall X (call X) 47 [.lst (szOf 1 (t.map rowsC)) (t.map rowsC) .no,.fn 48 []]=some (.ret (.lst (szOf 1 (t.map rowsC)) (t.map rowsC) .no)):=icall_ret (by simp) (by simp) (e47o t ht) rfl rfl (by simp)
theorem ic21 (t:Tab) (ht:okTab t):icall X (call X) 21 [.lst (szOf 1 (t.map rowsC)) (t.map rowsC) .no]=some (.ret (.agg [.lst (szOf 1 (t.map rowsC)) (t.map rowsC) .no])):=by
 have h:=ic47o t ht
 refine icall_ret (v:=.agg [tabV t]) (H:=[]) (K:=[]) (by simp) (by simp) ?_ rfl rfl (by simp)
 rw[call_eq (by decide) (by simp)]
 simp[Tryz.func21,Tryz.f21,envOf,h,leave_pure]
theorem ic20:icall X (call X) 20 []=some (.ret (.agg [.nilfn,.fn 40 [],.fn 41 [],.fn 42 [],.fn 43 [],.fn 44 [],.fn 45 [],.fn 46 []])):=by
 refine icall_ret (v:=.agg [.nilfn,.fn 40 [],.fn 41 [],.fn 42 [],.fn 43 [],.fn 44 [],.fn 45 [],.fn 46 []]) (H:=[]) (K:=[]) (by simp) (by simp) ?_ rfl rfl (by simp)
 rw[call_eq (by decide) (by simp)]
 simp[Tryz.func20,Tryz.f20,envOf,leave_pure]
end T
end
section
open Go Go.Proofs Go.Sym
namespace T
attribute [-simp] getElem?_pos
def big (l:List Row):Bool:=decide (8 < l.length)
def shapeE (ni:Nat) (t:Tab):Int:=if t.length≠ni then 2 else if t.any big then 3 else if t.any (fun l=>decide (l.length≠nrows t))then 2 else 0
def S114a (t:Tab) (i:Nat) (_:Unit):St:=⟨[(3,.ptr 0 0 0),(16,tabV t),(17,int t.length),(18,int i)],[⟨1,[[tabV t]],.box⟩],[],0⟩
theorem loop114a (t:Tab) (ht:okTab t):∃o,(∀ s,s.gc [3,16,17,18] 1 0=S114a t 0 ()→loopE X 114 lb114_4 (St.gc [3,16,17,18] 1 0) s=some o)∧
  (t.any big=false→∃e,o= .exit 0 ⟨e,[⟨1,[[tabV t]],.box⟩],[],0⟩∧get e 3= .ptr 0 0 0)∧(t.any big=true→∃e,o= .ret ⟨(4,int 3)::e,[⟨1,[[tabV t]],.box⟩],[],0⟩):=by
 obtain⟨o,h1,h2,h3⟩:=loop_list (X:=X) (f:=114) (lb:=lb114_4) (gc:=St.gc [3,16,17,18] 1 0) t (S114a t) (fun _ _=>True) (stepF big) (fun _ o=>∃e,o= .exit 0 ⟨e,[⟨1,[[tabV t]],.box⟩],[],0⟩∧get e 3= .ptr 0 0 0) (fun _ o=>∃e,o= .ret ⟨(4,int 3)::e,[⟨1,[[tabV t]],.box⟩],[],0⟩)
  (fun b _=>by simp[lb114_4,Tryz.f114,S114a,stops]) (fun i c b hc _=>by
   have hi:=(List.getElem?_eq_some_iff.1 hc).1
   have hw:=wrap_nat i (by have:=ht.1;omega)
   by_cases hf:(8:Int) < c.length
   ·have hf':8 < c.length:=by omega
    simp[stepF,big,lb114_4,Tryz.f114,S114a,stops,hc,hi,hf,hf']
   ·have hf': ¬8 < c.length:=by omega
    simp[stepF,big,lb114_4,Tryz.f114,S114a,stops,hc,hi,hw,hf,hf']) 0 () (Nat.zero_le _) trivial
 rw[List.drop_zero]at h2 h3
 refine⟨o,h1,fun h=>(h2 () ((foldF big t 0).1 h)).1,fun h=>?_⟩
 obtain⟨n,hn⟩:=(foldF big t 0).2 h
 exact h3 n hn
def S114b (t:Tab) (i:Nat) (_:Unit):St:=⟨[(3,.ptr 0 0 0),(27,tabV t),(28,int t.length),(29,int i)],[⟨1,[[tabV t]],.box⟩],[],0⟩
def odd (t:Tab) (l:List Row):Bool:=decide (l.length≠nrows t)
theorem nrows_get {t:Tab} {l:List Row} (h:t[0]? =some l):nrows t=l.length:=by
 cases t with
 |nil=>cases h
 |cons a r=>cases h;rfl
theorem loop114b (t:Tab) (ht:okTab t):∃o,(∀ s,s.gc [3,27,28,29] 1 0=S114b t 0 ()→loopE X 114 lb114_10 (St.gc [3,27,28,29] 1 0) s=some o)∧
  (t.any (odd t)=false→∃e,o= .exit 2 ⟨e,[⟨1,[[tabV t]],.box⟩],[],0⟩)∧(t.any (odd t)=true→∃e,o= .ret ⟨(4,int 2)::e,[⟨1,[[tabV t]],.box⟩],[],0⟩):=by
 obtain⟨o,h1,h2,h3⟩:=loop_list (X:=X) (f:=114) (lb:=lb114_10) (gc:=St.gc [3,27,28,29] 1 0) t (S114b t) (fun _ _=>True) (stepF (odd t)) (fun _ o=>∃e,o= .exit 2 ⟨e,[⟨1,[[tabV t]],.box⟩],[],0⟩) (fun _ o=>∃e,o= .ret ⟨(4,int 2)::e,[⟨1,[[tabV t]],.box⟩],[],0⟩)
  (fun b _=>by simp[lb114_10,Tryz.f114,S114b,stops]) (fun i c b hc _=>by
   have hi:=(List.getElem?_eq_some_iff.1 hc).1
   have hw:=wrap_nat i (by have:=ht.1;omega)
   have h0:=List.getElem?_eq_getElem (show 0 < t.length by omega)
   have hn:=nrows_get h0
   by_cases hf:(c.length:Int)=(t[0].length:Int)
   ·have hf':c.length=t[0].length:=by omega
    simp[stepF,odd,lb114_10,Tryz.f114,S114b,stops,hc,hi,h0,hn,hw,hf,hf']
   ·have hf': ¬c.length=t[0].length:=by omega
    simp[stepF,odd,lb114_10,Tryz.f114,S114b,stops,hc,hi,h0,hn,hf,hf']) 0 () (Nat.zero_le _) trivial
 rw[List.drop_zero]at h2 h3
 refine⟨o,h1,fun h=>(h2 () ((foldF (odd t) t 0).1 h)).1,fun h=>?_⟩
 obtain⟨n,hn⟩:=(foldF (odd t) t 0).2 h
 exact h3 n hn
theorem ic114 (irs:List (List AV)) (t:Tab) (ht:okTab t):icall X (call X) 114 [.lst (szOf 22 irs) irs .no,.agg [.lst (szOf 1 (t.map rowsC)) (t.map rowsC) .no]]=some (.ret (.int .i64 (shapeE irs.length t))):=by
 refine icall_ret (v:=int (shapeE irs.length t)) (H:=[]) (K:=[]) (by simp) (by simp) ?_ rfl rfl (by simp)
 rw[call_eq (by decide) (by simp)]
 by_cases h:(t.length:Int)=irs.length
 ·have h':t.length=irs.length:=by omega
  obtain⟨o,h1,h2,h3⟩:=loop114a t ht
  simp only[lb114_4,Tryz.f114,S114a,bodyOf_some,sub_seq0,sub_seq1,sub_block,sub_loop,sub_nil]at h1
  by_cases hb:t.any big=true
  ·obtain⟨e,rfl⟩:=h3 hb
   have hE:shapeE irs.length t=3:=by unfold shapeE;rw[if_neg (by omega),if_pos hb]
   simp[Tryz.func114,Tryz.f114,envOf,ex_loop,firstReg,h1,h,hE,leave_pure]
  ·obtain⟨e,rfl,g1⟩:=h2 (by simpa using hb)
   obtain⟨o,k1,k2,k3⟩:=loop114b t ht
   simp only[lb114_10,Tryz.f114,S114b,bodyOf_some,sub_seq0,sub_seq1,sub_block,sub_loop,sub_nil]at k1
   by_cases ho:t.any (odd t)=true
   ·obtain⟨e,rfl⟩:=k3 ho
    have hE:shapeE irs.length t=2:=by unfold shapeE;rw[if_neg (by omega),if_neg hb];exact if_pos ho
    simp[Tryz.func114,Tryz.f114,envOf,ex_loop,firstReg,h1,k1,g1,h,hE,leave_pure]
   ·obtain⟨e,rfl⟩:=k2 (by simpa using ho)
    have hE:shapeE irs.length t=0:=by unfold shapeE;rw[if_neg (by omega),if_neg hb];exact if_neg ho
    simp[Tryz.func114,Tryz.f114,envOf,ex_loop,firstReg,h1,k1,g1,h,hE,leave_pure]
 ·have hE:shapeE irs.length t=2:=by unfold shapeE;rw[if_pos (by omega)]
  simp[Tryz.func114,Tryz.f114,envOf,h,hE,leave_pure]
end T
end
section
open Go Go.Proofs Go.Sym
namespace T
attribute [-simp] getElem?_pos
structure Inf where
 p:AV
 nm:List (List AV)
 rest:List AV
def Inf.cs (i:Inf):List AV:=i.p:: .lst (szOf 1 i.nm) i.nm .no::i.rest
theorem Inf.cs_def (i:Inf):i.cs=i.p:: .lst (szOf 1 i.nm) i.nm .no::i.rest:=Eq.trans rfl rfl
attribute [simp] Inf.cs_def
def errR (n:Nat) (r:Row):Int:=if linValid r.L=false then 1 else if r.L.C.length≠n then 2 else if r.D < 1∨64 < r.D then 6 else 0
theorem ic116 (l:Lin) (hl:okLin l):icall X (call X) 116 [.agg [.lst (szOf 1 (l.C.map intC)) (l.C.map intC) .no,.int .i64 l.K]]=some (.ret (.bool (linValid l))):=icall_ret (by simp) (by simp) (e116 l hl) rfl rfl rfl
def E3 (e:Int):Blk:=⟨1,[[.int .i64 e]],.box⟩
theorem E3_def (e:Int):E3 e=⟨1,[[.int .i64 e]],.box⟩:=Eq.trans rfl rfl
def B2:Blk:=⟨1,[[.lst 0 [] .nil]],.box⟩
theorem B2_def:B2=⟨1,[[.lst 0 [] .nil]],.box⟩:=Eq.trans rfl rfl
def B4 (is:List Inf):Blk:=⟨1,[[.lst (szOf 22 (is.map Inf.cs)) (is.map Inf.cs) .no]],.box⟩
theorem B4_def (is):B4 is=⟨1,[[.lst (szOf 22 (is.map Inf.cs)) (is.map Inf.cs) .no]],.box⟩:=Eq.trans rfl rfl
attribute [simp] E3_def B2_def B4_def
noncomputable def rec71 (env:List (Nat×AV)) (st:LoopSt):Blk:=⟨0,[],.rng 71 (ntOf Tryz.prog 71) env [27,28] ra71 rb71 st⟩
theorem rok71:okR 71 [27,28] ra71 rb71=true:=by kernel_rfl
theorem xRok:X.rok=okR:=Eq.trans rfl rfl
theorem rd71 (env:List (Nat×AV)) (h4:get env 4= .ptr 2 0 0) (h5:get env 5= .ptr 3 0 0) (h6:get env 6= .ptr 4 0 0) (b0 b1 b5 b7:Blk) (is:List Inf) (k:Nat) (i:Inf) (hi:is[k]? =some i) (r:Row) (hr:okLin r.L) (K:List Nat):
  (errR i.nm.length r=0→call X (rid+6) [.int .i64 k,.agg r.cs] [b0,b1,B2,E3 0,B4 is,b5,rec71 env .ready,b7] K=some (.ret (.bool true),[b0,b1,B2,E3 0,B4 is,b5,rec71 env .ready,b7],K))∧
  (errR i.nm.length r≠0→call X (rid+6) [.int .i64 k,.agg r.cs] [b0,b1,B2,E3 0,B4 is,b5,rec71 env .ready,b7] K=some (.ret (.bool false),[b0,b1,B2,E3 (errR i.nm.length r),B4 is,b5,rec71 env (.done .ret),b7],K)):=by
 have h116:=ic116 r.L hr
 have hrok:=rok71
 simp only[ra71,rb71,Tryz.f71,bodyOf_some,sub_seq0,sub_seq1,sub_block,sub_loop,sub_nil,sub_rng0,sub_rng1]at hrok
 have hlk:=(List.getElem?_eq_some_iff.1 hi).1
 by_cases c1:linValid r.L=true
 ·by_cases c2:(r.L.C.length:Int)=i.nm.length
  ·have c2':r.L.C.length=i.nm.length:=by omega
   by_cases c3:r.D < 1
   ·have he:errR i.nm.length r=6:=by simp[errR,c1,c2',c3]
    rw[he]
    refine⟨fun h=>absurd h (by decide),fun _=>?_⟩
    rw[round_eq]
    simp[roundOf,rec71,xRok,hrok,roundEnv,ra71,rb71,Tryz.f71,h4,h5,h6,hi,hlk,h116,c1,c2,c2',c3,readyB,putSt,finR]
   ·by_cases c4:64 < r.D
    ·have he:errR i.nm.length r=6:=by simp[errR,c1,c2',c4]
     rw[he]
     refine⟨fun h=>absurd h (by decide),fun _=>?_⟩
     rw[round_eq]
     simp[roundOf,rec71,xRok,hrok,roundEnv,ra71,rb71,Tryz.f71,h4,h5,h6,hi,hlk,h116,c1,c2,c2',c3,c4,readyB,putSt,finR]
    ·have he:errR i.nm.length r=0:=by simp[errR,c1,c2',c3,c4]
     rw[he]
     refine⟨fun _=>?_,fun h=>absurd rfl h⟩
     rw[round_eq]
     simp[roundOf,rec71,xRok,hrok,roundEnv,ra71,rb71,Tryz.f71,h4,h5,h6,hi,hlk,h116,c1,c2,c2',c3,c4,readyB,putSt,finR]
  ·have c2': ¬r.L.C.length=i.nm.length:=by omega
   have he:errR i.nm.length r=2:=by simp[errR,c1,c2']
   rw[he]
   refine⟨fun h=>absurd h (by decide),fun _=>?_⟩
   rw[round_eq]
   simp[roundOf,rec71,xRok,hrok,roundEnv,ra71,rb71,Tryz.f71,h4,h5,h6,hi,hlk,h116,c1,c2,c2',readyB,putSt,finR]
 ·have he:errR i.nm.length r=1:=by simp[errR,c1]
  rw[he]
  refine⟨fun h=>absurd h (by decide),fun _=>?_⟩
  rw[round_eq]
  simp[roundOf,rec71,xRok,hrok,roundEnv,ra71,rb71,Tryz.f71,h4,h5,h6,hi,hlk,h116,c1,readyB,putSt,finR]
end T
end
section
open Go Go.Proofs Go.Sym
namespace T
attribute [-simp] getElem?_pos
def stepE (n:Nat) (_:Nat) (_:Unit) (r:Row):Unit ⊕ Int:=if errR n r=0 then .inl ()else .inr (errR n r)
def stepO (is:List Inf) (k:Nat) (_:Unit) (l:List Row):Unit ⊕ Int:=match is[k]? with
 |some i=>foldS (stepE i.nm.length) 0 l ()
 |none=>.inl ()
noncomputable def H71 (b0 b1 b5:Blk) (is:List Inf) (env:List (Nat×AV)) (e:Int) (st:LoopSt):List Blk:=[b0,b1,B2,E3 e,B4 is,b5,rec71 env st]
noncomputable def S138b (b0 b1:Blk) (t:Tab) (is:List Inf) (env:List (Nat×AV)) (K:List Nat) (k:Nat) (l:List Row) (j:Nat) (_:Unit):St:=
 ⟨[(0,.yld 6),(3,int k),(8,tabV t),(9,int t.length),(10,int k),(15,rowsV l),(16,int l.length),(17,int j)],H71 b0 b1 ⟨1,[[tabV t]],.box⟩ is env 0 .ready,K,7⟩
section
variable (b0 b1:Blk) (t:Tab) (is:List Inf) (env:List (Nat×AV)) (h4:get env 4= .ptr 2 0 0) (h5:get env 5= .ptr 3 0 0) (h6:get env 6= .ptr 4 0 0) (K:List Nat)
include h4 h5 h6
theorem loop138b (k:Nat) (l:List Row) (hl:okRows l) (i:Inf) (hi:is[k]? =some i):∃o,(∀ s,s.gc [0,3,8,9,10,15,16,17] 7 K.length=S138b b0 b1 t is env K k l 0 ()→loopE X 138 lb138_4 (St.gc [0,3,8,9,10,15,16,17] 7 K.length) s=some o)∧
  (foldS (stepE i.nm.length) 0 l ()= .inl ()→∃e,o= .exit 2 ⟨e,H71 b0 b1 ⟨1,[[tabV t]],.box⟩ is env 0 .ready,K,7⟩∧get e 0= .yld 6∧get e 8=tabV t∧get e 9=int t.length∧get e 10=int k)∧
  (∀ c,foldS (stepE i.nm.length) 0 l ()= .inr c→∃e b,o= .ret ⟨e,H71 b0 b1 ⟨1,[[tabV t]],.box⟩ is env c (.done .ret)++[b],K,7⟩):=by
 obtain⟨o,h1,h2,h3⟩:=loop_list (X:=X) (f:=138) (lb:=lb138_4) (gc:=St.gc [0,3,8,9,10,15,16,17] 7 K.length) l (S138b b0 b1 t is env K k l) (fun _ _=>True) (stepE i.nm.length)
  (fun _ o=>∃e,o= .exit 2 ⟨e,H71 b0 b1 ⟨1,[[tabV t]],.box⟩ is env 0 .ready,K,7⟩∧get e 0= .yld 6∧get e 8=tabV t∧get e 9=int t.length∧get e 10=int k)
  (fun c o=>∃e b,o= .ret ⟨e,H71 b0 b1 ⟨1,[[tabV t]],.box⟩ is env c (.done .ret)++[b],K,7⟩)
  (fun b _=>by simp[lb138_4,Tryz.f138,S138b,H71,stops]) (fun j r b hc _=>by
   have hj:=(List.getElem?_eq_some_iff.1 hc).1
   have hw:=wrap_nat j (by have:=hl.1;omega)
   obtain⟨r1,r2⟩:=rd71 env h4 h5 h6 b0 b1 ⟨1,[[tabV t]],.box⟩ ⟨3,[r.cs],.box⟩ is k i hi r (hl.2 r (List.mem_of_getElem? hc)) K
   simp only[Row.cs_def,ints_def,int_def,tabV_def,B2_def,E3_def,B4_def]at r1 r2
   by_cases he:errR i.nm.length r=0
   ·have r1':=r1 he
    simp[stepE,lb138_4,Tryz.f138,S138b,H71,stops,hc,hj,hw,he,r1']
   ·have r2':=r2 he
    simp[stepE,lb138_4,Tryz.f138,S138b,H71,stops,hc,hj,he,r2']) 0 () (Nat.zero_le _) trivial
 rw[List.drop_zero]at h2 h3
 exact⟨o,h1,fun h=>(h2 () h).1,fun c h=>h3 c h⟩
end
end T
end
section
open Go Go.Proofs Go.Sym
namespace T
attribute [-simp] getElem?_pos
noncomputable def S138a (b0 b1:Blk) (t:Tab) (is:List Inf) (env:List (Nat×AV)) (K:List Nat) (k:Nat) (_:Unit):St:=
 ⟨[(0,.yld 6),(8,tabV t),(9,int t.length),(10,int k)],H71 b0 b1 ⟨1,[[tabV t]],.box⟩ is env 0 .ready,K,7⟩
section
variable (b0 b1:Blk) (t:Tab) (ht:okTab t) (is:List Inf) (hlen:t.length≤is.length) (env:List (Nat×AV)) (h4:get env 4= .ptr 2 0 0) (h5:get env 5= .ptr 3 0 0) (h6:get env 6= .ptr 4 0 0) (K:List Nat)
include ht hlen h4 h5 h6
theorem loop138a:∃o,(∀ s,s.gc [0,8,9,10] 7 K.length=S138a b0 b1 t is env K 0 ()→loopE X 138 lb138_1 (St.gc [0,8,9,10] 7 K.length) s=some o)∧
  (foldS (stepO is) 0 t ()= .inl ()→∃e,o= .exit 0 ⟨e,H71 b0 b1 ⟨1,[[tabV t]],.box⟩ is env 0 .ready,K,7⟩)∧
  (∀ c,foldS (stepO is) 0 t ()= .inr c→∃e r,o= .ret ⟨e,H71 b0 b1 ⟨1,[[tabV t]],.box⟩ is env c (.done .ret)++r,K,7⟩):=by
 obtain⟨o,h1,h2,h3⟩:=loop_list (X:=X) (f:=138) (lb:=lb138_1) (gc:=St.gc [0,8,9,10] 7 K.length) t (S138a b0 b1 t is env K) (fun _ _=>True) (stepO is)
  (fun _ o=>∃e,o= .exit 0 ⟨e,H71 b0 b1 ⟨1,[[tabV t]],.box⟩ is env 0 .ready,K,7⟩)
  (fun c o=>∃e r,o= .ret ⟨e,H71 b0 b1 ⟨1,[[tabV t]],.box⟩ is env c (.done .ret)++r,K,7⟩)
  (fun b _=>by simp[lb138_1,Tryz.f138,S138a,H71,stops]) (fun k l b hc _=>by
   have hk:=(List.getElem?_eq_some_iff.1 hc).1
   have hw:=wrap_nat k (by have:=ht.1;omega)
   have hi:=List.getElem?_eq_getElem (show k < is.length by omega)
   obtain⟨o,g1,g2,g3⟩:=loop138b b0 b1 t is env h4 h5 h6 K k l (ht.2 l (List.mem_of_getElem? hc)) _ hi
   simp only[lb138_4,Tryz.f138,S138b,H71,bodyOf_some,sub_seq0,sub_seq1,sub_block,sub_loop,sub_nil]at g1
   simp only[stepO,hi]
   cases hf:foldS (stepE is[k].nm.length) 0 l ()with
   |inl u=>
    obtain⟨e,rfl,e1,e2,e3,e4⟩:=g2 (by rw[hf])
    simp[lb138_1,Tryz.f138,S138a,H71,stops,hc,hk,hw,ex_loop,firstReg,g1,e1,e2,e3,e4]
   |inr c=>
    obtain⟨e,b,rfl⟩:=g3 c hf
    simp[lb138_1,Tryz.f138,S138a,H71,stops,hc,hk,ex_loop,firstReg,g1]
    ) 0 () (Nat.zero_le _) trivial
 rw[List.drop_zero]at h2 h3
 exact⟨o,h1,fun h=>(h2 () h).1,fun c h=>h3 c h⟩
theorem e138_ok (h:foldS (stepO is) 0 t ()= .inl ()):call X 138 [.yld 6,.ptr 5 0 0] (H71 b0 b1 ⟨1,[[tabV t]],.box⟩ is env 0 .ready) K=some (.ret (.tup []),H71 b0 b1 ⟨1,[[tabV t]],.box⟩ is env 0 .ready,K):=by
 obtain⟨o,h1,h2,h3⟩:=loop138a b0 b1 t ht is hlen env h4 h5 h6 K
 obtain⟨e,rfl⟩:=h2 h
 simp only[lb138_1,Tryz.f138,S138a,H71,bodyOf_some,sub_seq0,sub_seq1,sub_block,sub_loop,sub_nil]at h1
 rw[call_eq (by decide) (by simp)]
 simp[Tryz.func138,Tryz.f138,envOf,ex_loop,firstReg,H71,h1,leave_pure]
theorem e138_err (c:Int) (h:foldS (stepO is) 0 t ()= .inr c):call X 138 [.yld 6,.ptr 5 0 0] (H71 b0 b1 ⟨1,[[tabV t]],.box⟩ is env 0 .ready) K=some (.ret (.tup []),H71 b0 b1 ⟨1,[[tabV t]],.box⟩ is env c (.done .ret),K):=by
 obtain⟨o,h1,h2,h3⟩:=loop138a b0 b1 t ht is hlen env h4 h5 h6 K
 obtain⟨e,r,rfl⟩:=h3 c h
 simp only[lb138_1,Tryz.f138,S138a,H71,bodyOf_some,sub_seq0,sub_seq1,sub_block,sub_loop,sub_nil]at h1
 rw[call_eq (by decide) (by simp)]
 simp[Tryz.func138,Tryz.f138,envOf,ex_loop,firstReg,H71,h1,leave_pure]
end
theorem e115 (t:Tab) (H:List Blk) (K:List Nat):call X 115 [.agg [.lst (szOf 1 (t.map rowsC)) (t.map rowsC) .no]] H K=some (.ret (.fn 138 [.ptr H.length 0 0]),H++[⟨1,[[.lst (szOf 1 (t.map rowsC)) (t.map rowsC) .no]],.box⟩],K):=by
 rw[call_eq (by decide) (by simp)]
 simp[Tryz.func115,Tryz.f115,envOf,leave]
end T
end
section
open Go Go.Proofs Go.Sym
namespace T
attribute [-simp] getElem?_pos
structure Prg where
 a:List (List AV)
 b:List (List AV)
 c:List (List AV)
def Prg.cs (p:Prg):List AV:=[.lst (szOf 1 p.a) p.a .no,.lst (szOf 2 p.b) p.b .no,.lst (szOf 19 p.c) p.c .no]
theorem Prg.cs_def (p:Prg):p.cs=[.lst (szOf 1 p.a) p.a .no,.lst (szOf 2 p.b) p.b .no,.lst (szOf 19 p.c) p.c .no]:=Eq.trans rfl rfl
attribute [simp] Prg.cs_def
def Asg (p:Prg) (is:List Inf) (e:Int):Prop:=icall X (call X) 29 [.agg p.cs]=some (.ret (.tup [.lst (szOf 22 (is.map Inf.cs)) (is.map Inf.cs) .no,.int .i64 e]))
def chk (is:List Inf) (e:Int) (t:Tab):Int:=if e≠0 then e else if shapeE is.length t≠0 then shapeE is.length t else match foldS (stepO is) 0 t ()with
 | .inl _=>0
 | .inr c=>c
theorem shape_len {ni:Nat} {t:Tab} (h:shapeE ni t=0):t.length=ni:=by
 unfold shapeE at h
 split at h
 ·cases h
 ·omega
theorem foldS_ne {is:List Inf}:∀{t:Tab} {k:Nat} {c:Int},foldS (stepO is) k t ()= .inr c→c≠0
 | [],k,c,h=>by cases h
 |l::r,k,c,h=>by
  simp only[foldS]at h
  cases hs:stepO is k () l with
  |inl u=>rw[hs]at h;exact foldS_ne h
  |inr d=>
   rw[hs]at h
   cases h
   unfold stepO at hs
   split at hs
   ·rename_i i _
    have go:∀(l:List Row) (j:Nat),foldS (stepE i.nm.length) j l ()= .inr c→c≠0:=by
     intro l
     induction l with
     |nil=>intro j h;cases h
     |cons r q ih=>
      intro j h
      simp only[foldS,stepE]at h
      by_cases he:errR i.nm.length r=0
      ·simp only[he,if_true]at h
       exact ih _ h
      ·simp only[he,if_false]at h
       cases h
       exact he
    exact go l 0 hs
   ·cases hs
theorem e71 (p:Prg) (is:List Inf) (e:Int) (hA:Asg p is e) (t:Tab) (ht:okTab t):∃(z:Nat) (q:List (List AV)) (c:Cap),call X 71 [.agg p.cs,.agg [tabV t]] [] []=some (.ret (.tup [.lst z q c,int (chk is e t)]),[],[])∧(c= .nil∨c= .no):=by
 unfold Asg at hA
 simp only[Prg.cs_def]at hA
 have hrok:=rok71
 simp only[ra71,rb71,Tryz.f71,bodyOf_some,sub_seq0,sub_seq1,sub_block,sub_loop,sub_nil,sub_rng0,sub_rng1]at hrok
 have h115:=e115 t
 by_cases he:e=0
 ·subst he
  have h114:=ic114 (is.map Inf.cs) t ht
  rw[List.length_map]at h114
  by_cases hs:shapeE is.length t=0
  ·have hlen:=shape_len hs
   cases hf:foldS (stepO is) 0 t ()with
   |inl u=>
    have hc:chk is 0 t=0:=by unfold chk;rw[if_neg (by simp),if_neg (by simp[hs]),hf]
    have h138:=fun b0 b1 env h4 h5 h6 K=>e138_ok b0 b1 t ht is (by omega) env h4 h5 h6 K (by rw[hf])
    simp only[H71,rec71,ra71,rb71,Tryz.f71,bodyOf_some,sub_seq0,sub_seq1,sub_block,sub_loop,sub_nil,sub_rng0,sub_rng1,tabV_def,E3_def,B2_def,B4_def]at h138
    refine⟨szOf 22 (is.map Inf.cs),is.map Inf.cs,.no,?_,.inr rfl⟩
    rw[call_eq (by decide) (by simp)]
    simp[Tryz.func71,Tryz.f71,envOf,hA,h114,hs,h115,ex_rangeFunc,rid_def,h138,rangeEnd,hc,leave_pure]
   |inr c=>
    have hc:chk is 0 t=c:=by unfold chk;rw[if_neg (by simp),if_neg (by simp[hs]),hf]
    have h138:=fun b0 b1 env h4 h5 h6 K=>e138_err b0 b1 t ht is (by omega) env h4 h5 h6 K c hf
    simp only[H71,rec71,ra71,rb71,Tryz.f71,bodyOf_some,sub_seq0,sub_seq1,sub_block,sub_loop,sub_nil,sub_rng0,sub_rng1,tabV_def,E3_def,B2_def,B4_def]at h138
    refine⟨0,[],.nil,?_,.inl rfl⟩
    rw[call_eq (by decide) (by simp)]
    simp[Tryz.func71,Tryz.f71,envOf,hA,h114,hs,h115,ex_rangeFunc,rid_def,h138,rangeEnd,hc,leave_pure]
  ·have hc:chk is 0 t=shapeE is.length t:=by unfold chk;rw[if_neg (by simp),if_pos hs]
   refine⟨0,[],.nil,?_,.inl rfl⟩
   rw[call_eq (by decide) (by simp)]
   simp[Tryz.func71,Tryz.f71,envOf,hA,h114,hs,hc,leave_pure]
 ·have hc:chk is e t=e:=by unfold chk;rw[if_pos he]
  refine⟨0,[],.nil,?_,.inl rfl⟩
  rw[call_eq (by decide) (by simp)]
  simp[Tryz.func71,Tryz.f71,envOf,hA,he,hc,leave_pure]
theorem ic71 (p:Prg) (is:List Inf) (e:Int) (hA:Asg p is e) (t:Tab) (ht:okTab t):∃(z:Nat) (q:List (List AV)),icall X (call X) 71 [.agg p.cs,.agg [.lst (szOf 1 (t.map rowsC)) (t.map rowsC) .no]]=some (.ret (.tup [.lst z q .no,.int .i64 (chk is e t)])):=by
 obtain⟨z,q,c,h,hc⟩:=e71 p is e hA t ht
 rcases hc with rfl |rfl
 ·exact⟨szOf z q,q,icall_ret (by simp) (by simp) h rfl rfl (by simp)⟩
 ·exact⟨szOf z q,q,icall_ret (by simp) (by simp) h rfl rfl (by simp)⟩
theorem ic33 (p:Prg) (is:List Inf) (e:Int) (hA:Asg p is e) (t:Tab) (ht:okTab t):icall X (call X) 33 [.agg p.cs,.agg [.lst (szOf 1 (t.map rowsC)) (t.map rowsC) .no]]=some (.ret (.int .i64 (chk is e t))):=by
 obtain⟨z,q,h⟩:=ic71 p is e hA t ht
 refine icall_ret (v:=int (chk is e t)) (H:=[]) (K:=[]) (by simp) (by simp) ?_ rfl rfl (by simp)
 rw[call_eq (by decide) (by simp)]
 simp only[Prg.cs_def]at h
 simp[Tryz.func33,Tryz.f33,envOf,h,leave_pure]
theorem ic19 (p:Prg) (is:List Inf) (e:Int) (hA:Asg p is e) (t:Tab) (ht:okTab t):
  (chk is e t=0→icall X (call X) 19 [.agg p.cs,.agg [.lst (szOf 1 (t.map rowsC)) (t.map rowsC) .no]]=some (.ret (.tup [.agg [.lst (szOf 22 (is.map Inf.cs)) (is.map Inf.cs) .no,.int .i64 (nrows t),.lst (szOf 1 (t.map rowsC)) (t.map rowsC) .no],.int .i64 0])))∧
  (chk is e t≠0→icall X (call X) 19 [.agg p.cs,.agg [.lst (szOf 1 (t.map rowsC)) (t.map rowsC) .no]]=some (.ret (.tup [.agg [.lst 0 [] .no,.int .i64 0,.lst 0 [] .no],.int .i64 (chk is e t)]))):=by
 have h33:=ic33 p is e hA t ht
 have h39:=ic39 t
 unfold Asg at hA
 simp only[Prg.cs_def]at h33 hA
 simp only[tabV_def,int_def]at h39
 refine⟨fun hc=>?_,fun hc=>?_⟩
 ·have he:e=0:=by
   by_cases he:e=0
   ·exact he
   ·unfold chk at hc;rw[if_pos he]at hc;exact absurd hc he
  subst he
  rw[hc]at h33
  refine icall_ret (v:=.tup [.agg [infV (is.map Inf.cs),int (nrows t),tabV t],int 0]) (H:=[]) (K:=[]) (by simp) (by simp) ?_ rfl rfl (by simp)
  rw[call_eq (by decide) (by simp)]
  simp[Tryz.func19,Tryz.f19,envOf,h33,h39,hA,leave_pure]
 ·refine icall_ret (v:=.tup [.agg [.lst 0 [] .nil,int 0,.lst 0 [] .nil],int (chk is e t)]) (H:=[]) (K:=[]) (by simp) (by simp) ?_ rfl rfl (by simp)
  rw[call_eq (by decide) (by simp)]
  simp[Tryz.func19,Tryz.f19,envOf,h33,hc,leave_pure]
end T
end
section
open Go Go.Proofs Go.Sym
namespace T
attribute [-simp] getElem?_pos
structure Chkd (is:List Inf) (t:Tab):Prop where
 len:t.length=is.length
 n8:nrows t≤8
 even:even t (nrows t)
 row:∀(k:Nat) l i,t[k]? =some l→is[k]? =some i→∀r ∈ l,errR i.nm.length r=0
theorem foldE (n:Nat):∀(l:List Row) (j:Nat),foldS (stepE n) j l ()= .inl ()↔∀r ∈ l,errR n r=0
 | [],j=>by simp[foldS]
 |r::q,j=>by
  have ih:=foldE n q (j+1)
  simp only[foldS,stepE,List.mem_cons,forall_eq_or_imp]
  by_cases h:errR n r=0
  ·simp only[h,if_true,true_and];exact ih
  ·simp only[h,if_false,false_and,iff_false];intro h;cases h
theorem foldO (is:List Inf):∀(t:Tab) (j:Nat),foldS (stepO is) j t ()= .inl ()↔∀(k:Nat) l i,t[k]? =some l→is[j+k]? =some i→∀r ∈ l,errR i.nm.length r=0
 | [],j=>by simp[foldS]
 |a::q,j=>by
  have ih:=foldO is q (j+1)
  simp only[foldS]
  have hstep:stepO is j () a= .inl ()↔∀i,is[j]? =some i→∀r ∈ a,errR i.nm.length r=0:=by
   unfold stepO
   cases h:is[j]? with
   |none=>simp
   |some i=>simp only[Option.some.injEq,forall_eq'];exact foldE _ a 0
  cases hs:stepO is j () a with
  |inl u=>
   have h1:=hstep.1 (by rw[hs])
   simp only
   rw[ih]
   constructor
   ·intro h k l i hk hi
    cases k with
    |zero=>cases hk;exact h1 i hi
    |succ k=>exact h k l i (by simpa using hk) (by rw[show j+1+k=j+(k+1)by omega];exact hi)
   ·intro h k l i hk hi
    exact h (k+1) l i (by simpa using hk) (by rw[show j+(k+1)=j+1+k by omega];exact hi)
  |inr c=>
   simp only
   constructor
   ·intro h;cases h
   ·intro h
    have:=hstep.2 fun i hi=>h 0 a i rfl hi
    rw[hs]at this
    cases this
theorem shapeE_iff {ni:Nat} {t:Tab}:shapeE ni t=0↔t.length=ni∧(∀ l ∈ t,l.length≤8)∧even t (nrows t):=by
 unfold shapeE
 by_cases h1:t.length=ni
 ·rw[if_neg (by omega)]
  by_cases h2:t.any big=true
  ·rw[if_pos h2]
   simp only[big,List.any_eq_true,decide_eq_true_eq]at h2
   obtain⟨l,hl,h2⟩:=h2
   constructor
   ·intro h;cases h
   ·rintro⟨_,h,_⟩
    have:=h l hl
    omega
  ·rw[if_neg h2]
   have h2':∀l ∈ t,l.length≤8:=fun l hl=>by
    simp only[big,List.any_eq_true,decide_eq_true_eq,not_exists,not_and]at h2
    have:=h2 l hl
    omega
   by_cases h3:t.any (fun l=>decide (l.length≠nrows t))=true
   ·rw[if_pos h3]
    simp only[List.any_eq_true,decide_eq_true_eq]at h3
    obtain⟨l,hl,h3⟩:=h3
    constructor
    ·intro h;cases h
    ·rintro⟨_,_,h⟩;exact absurd (h l hl) h3
   ·rw[if_neg h3]
    refine⟨fun _=>⟨h1,h2',fun l hl=>?_⟩,fun _=>rfl⟩
    simp only[List.any_eq_true,decide_eq_true_eq,not_exists,not_and,ne_eq,Classical.not_not]at h3
    exact h3 l hl
 ·rw[if_pos (by omega)]
  constructor
  ·intro h;cases h
  ·rintro⟨h,_⟩;exact absurd h h1
theorem chk_iff {is:List Inf} {t:Tab}:chk is 0 t=0↔Chkd is t:=by
 unfold chk
 rw[if_neg (by simp)]
 by_cases hs:shapeE is.length t=0
 ·rw[if_neg (by simp[hs])]
  have h:=shapeE_iff.1 hs
  have n8:nrows t≤8:=by
   cases t with
   |nil=>simp[nrows]
   |cons a q=>exact h.2.1 a (List.mem_cons_self ..)
  have hO:=foldO is t 0
  simp only[Nat.zero_add]at hO
  cases hf:foldS (stepO is) 0 t ()with
  |inl u=>exact⟨fun _=>⟨h.1,n8,h.2.2,hO.1 (by rw[hf])⟩,fun _=>rfl⟩
  |inr c=>
   simp only
   constructor
   ·intro hc;exact absurd hc (foldS_ne hf)
   ·intro hc
    have:=hO.2 hc.row
    rw[hf]at this
    cases this
 ·rw[if_pos hs]
  constructor
  ·intro h;exact absurd h hs
  ·intro hc
   refine absurd (shapeE_iff.2 ⟨hc.len,fun l hl=>?_,hc.even⟩) hs
   rw[hc.even l hl];exact hc.n8
theorem errR_iff {n:Nat} {r:Row}:errR n r=0↔linValid r.L=true∧r.L.C.length=n∧1≤r.D∧r.D≤64:=by
 unfold errR
 by_cases h1:linValid r.L=false
 ·simp[h1]
 ·by_cases h2:r.L.C.length=n
  ·by_cases h3:r.D < 1∨64 < r.D
   ·simp[h1,h2,h3];omega
   ·simp[h1,h2,h3];omega
  ·simp[h1,h2]
theorem Chkd.good {is:List Inf} {t:Tab} (h:Chkd is t) (ht:okTab t):Good t (nrows t):=by
 have hr:∀l ∈ t,∃n,∀r ∈ l,errR n r=0:=fun l hl=>by
  obtain⟨k,hk⟩:=List.getElem?_of_mem hl
  have hlt:=(List.getElem?_eq_some_iff.1 hk).1
  exact⟨_,h.row k l _ hk (List.getElem?_eq_getElem (show k < is.length by rw[←h.len];exact hlt))⟩
 refine⟨ht,h.even,fun l hl r hr'=>?_,fun l hl r hr' q hq=>?_⟩
 ·obtain⟨n,hn⟩:=hr l hl
  have:=errR_iff.1 (hn r hr')
  exact⟨this.1,this.2.2⟩
 ·obtain⟨n,hn⟩:=hr l hl
  have h1:=errR_iff.1 (hn r hr')
  have h2:=errR_iff.1 (hn q hq)
  omega
theorem Chkd.okTab {is:List Inf} {t:Tab} (h:Chkd is t) (hl:is.length≤1073741824):okTab t:=by
 refine⟨by rw[h.len];exact hl,fun l hl'=>⟨by rw[h.even l hl'];have:=h.n8;omega,fun r hr=>?_⟩⟩
 obtain⟨k,hk⟩:=List.getElem?_of_mem hl'
 have hlt:=(List.getElem?_eq_some_iff.1 hk).1
 have:=errR_iff.1 (h.row k l _ hk (List.getElem?_eq_getElem (show k < is.length by rw[←h.len];exact hlt)) r hr)
 have hv:=(valid_iff.1 this.1).2.1
 simp only[okLin];omega
end T
end
section
open Go Go.Proofs Go.Sym
namespace T
attribute [-simp] getElem?_pos
def tileL (a b:Nat) (k:Int) (l:List Row):List Row:=l.take a++(((l.take b).drop a).map fun r=>⟨r.L,k⟩)++l.drop a
def tileT (n:Nat) (t:Tab) (m:Mv):Option Tab:=
 if m.a < 0∨m.b≤m.a∨(n:Int) < m.b∨m.k < 2∨64 < m.k then none
 else if((List.range m.b.toNat).drop m.a.toNat).any (fun a=>t.any (notW a))then none
 else if 8 < (n:Int)+m.b-m.a then none else some (t.map (tileL m.a.toNat m.b.toNat m.k))
def cutR (i:Inf) (c:Int):Row:=⟨⟨List.replicate i.nm.length 0,c⟩,1⟩
def cutL (is:List Inf) (m:Mv) (k:Nat) (l:List Row):List Row:=match is[k]?,m.list[k]? with
 |some i,some c=>l.take m.a.toNat++cutR i c::l.drop m.a.toNat
 |_,_=>l
def cutM (is:List Inf) (n:Nat) (t:Tab) (m:Mv):Option Tab:=
 if m.a < 0∨(n:Int) < m.a then none else if m.list.length≠t.length then none
 else if m.list.any (fun c=> !fits c)||decide (8≤n)then none else some (t.mapIdx (cutL is m))
def fuseL (a:Nat) (l:List Row):List Row:=l.take a++l.drop (a+1)
def fuseT (n:Nat) (t:Tab) (m:Mv):Option Tab:=
 if rowB n m.a&& !t.any (notW m.a.toNat)&& !t.any (notC m.a.toNat)then some (t.map (fuseL m.a.toNat))else none
def swapM (n:Nat) (t:Tab) (m:Mv):Option Tab:=if rowB n m.a&&rowB n m.b then some (swapT m.a.toNat m.b.toNat t)else none
def tileE (n:Nat) (t:Tab) (m:Mv):Int:=if m.a < 0∨m.b≤m.a∨(n:Int) < m.b∨m.k < 2∨64 < m.k then 6 else if((List.range m.b.toNat).drop m.a.toNat).any (fun a=>t.any (notW a))then 9 else 3
def cutE (n:Nat) (t:Tab) (m:Mv):Int:=if m.a < 0∨(n:Int) < m.a then 6 else if m.list.length≠t.length then 2 else 3
def fuseE (n:Nat) (m:Mv):Int:=if rowB n m.a then 9 else 6
theorem e40' (irs:List (List AV)) (n:Nat) (t:Tab) (m:Mv) (hG:Good t n):∃T K,call X 40 [.agg (tblC irs n t),.agg m.cs] [] []=some (.ret T,[],K)∧Ret T (swapM n t m) 6:=by
 by_cases h:(rowB n m.a&&rowB n m.b)=true
 ·simp only[Bool.and_eq_true]at h
  obtain⟨a,ha,han⟩:=rowB_nat h.1
  obtain⟨b,hb,hbn⟩:=rowB_nat h.2
  obtain⟨K,hc⟩:=e40 irs n t m hG.ok hG.even a b ha hb han hbn
  refine⟨_,K,hc,?_⟩
  have:swapM n t m=some (swapT a b t):=by unfold swapM;rw[h.1,h.2,ha,hb];rfl
  rw[this];rfl
 ·rw[Bool.not_eq_true]at h
  exact⟨_,[],e40_no irs n t m h,ret_none (by decide) (by simp[swapM,h]) rfl⟩
def mvT (is:List Inf) (t:Tab) (m:Mv):Option Tab:=
 if m.kind=1 then swapM (nrows t) t m else if m.kind=2 then flipT (nrows t) t m else if m.kind=3 then shiftT (nrows t) t m else if m.kind=4 then skewT (nrows t) t m
 else if m.kind=5 then tileT (nrows t) t m else if m.kind=6 then cutM is (nrows t) t m else if m.kind=7 then fuseT (nrows t) t m else none
def mvE (t:Tab) (m:Mv):Int:=
 if m.kind=1 then 6 else if m.kind=2 then flipE (nrows t) t m else if m.kind=3 then shiftE (nrows t) t m else if m.kind=4 then skewE (nrows t) t m
 else if m.kind=5 then tileE (nrows t) t m else if m.kind=6 then cutE (nrows t) t m else if m.kind=7 then fuseE (nrows t) m else 5
def Mover (g:Nat) (F:List Inf→Nat→Tab→Mv→Option Tab) (E:Nat→Tab→Mv→Int):Prop:=∀(is:List Inf) (t:Tab) (m:Mv),Chkd is t→okTab t→m.list.length≤1073741824→(∀ i ∈ is,i.nm.length≤12)→
 ∃T K,call X g [.agg (tblC (is.map Inf.cs) (nrows t) t),.agg m.cs] [] []=some (.ret T,[],K)∧Ret T (F is (nrows t) t m) (E (nrows t) t m)
theorem mover40:Mover 40 (fun _ n t m=>swapM n t m) (fun _ _ _=>6):=fun is t m hc ht _ _=>e40' _ _ t m (hc.good ht)
theorem mover41:Mover 41 (fun _ n t m=>flipT n t m) flipE:=fun is t m hc ht _ _=>e41' _ _ t m (hc.good ht)
theorem mover42:Mover 42 (fun _ n t m=>shiftT n t m) shiftE:=fun is t m hc ht _ _=>e42' _ _ t m (hc.good ht)
theorem mover43:Mover 43 (fun _ n t m=>skewT n t m) skewE:=fun is t m hc ht _ _=>e43' _ _ t m (hc.good ht)
def MvV (o:Option Tab) (e:Int):AV:=match o with
 |some t'=>.tup [.lst (szOf 1 (t'.map rowsC)) (t'.map rowsC) .no,.int .i64 0]
 |none=>.tup [.lst 0 [] .no,.int .i64 e]
theorem MvV_some (t' e):MvV (some t') e= .tup [.lst (szOf 1 (t'.map rowsC)) (t'.map rowsC) .no,.int .i64 0]:=Eq.trans rfl rfl
theorem MvV_none (e):MvV none e= .tup [.lst 0 [] .no,.int .i64 e]:=Eq.trans rfl rfl
def DoV (o:Option Tab) (c:Int):AV:=match o with
 |some t'=>.tup [.agg [tabV t'],int 0]
 |none=>.tup [.agg [.lst 0 [] .no],int c]
theorem DoV_some (t' c):DoV (some t') c= .tup [.agg [tabV t'],int 0]:=Eq.trans rfl rfl
theorem DoV_none (c):DoV none c= .tup [.agg [.lst 0 [] .no],int c]:=Eq.trans rfl rfl
theorem ic_mover {g:Nat} {F:List Inf→Nat→Tab→Mv→Option Tab} {E:Nat→Tab→Mv→Int} (h:Mover g F E) (hp:X.prim g=none) (ho:X.own g=false) (is:List Inf) (t:Tab) (m:Mv) (hc:Chkd is t) (ht:okTab t) (hm:m.list.length≤1073741824) (hnm:∀i ∈ is,i.nm.length≤12):
  icall X (call X) g [.agg [.lst (szOf 22 (is.map Inf.cs)) (is.map Inf.cs) .no,.int .i64 (nrows t),.lst (szOf 1 (t.map rowsC)) (t.map rowsC) .no],.agg [.int .i64 m.kind,.int .i64 m.a,.int .i64 m.b,.int .i64 m.k,.lst (szOf 1 (m.list.map intC)) (m.list.map intC) .no]]=
   some (.ret (MvV (F is (nrows t) t m) (E (nrows t) t m)))∧(F is (nrows t) t m=none→E (nrows t) t m≠0):=by
 obtain⟨T,K,hcall,hr⟩:=h is t m hc ht hm hnm
 cases hF:F is (nrows t) t m with
 |some t'=>
  rw[hF]at hr
  have hr':T= .tup [tabV t',int 0]:=hr
  subst hr'
  exact⟨icall_ret hp ho hcall rfl rfl (by simp[MvV_some]),fun h=>by cases h⟩
 |none=>
  rw[hF]at hr
  obtain⟨he,rfl⟩:=hr
  exact⟨icall_ret hp ho hcall rfl rfl (by simp[MvV_none]),fun _=>he⟩
structure Movers:Prop where
 m44:Mover 44 (fun _ n t m=>tileT n t m) tileE
 m45:Mover 45 (fun is n t m=>cutM is n t m) cutE
 m46:Mover 46 (fun _ n t m=>fuseT n t m) fun n _ m=>fuseE n m
theorem ic7_bad (p:Prg) (is:List Inf) (e:Int) (hA:Asg p is e) (t:Tab) (ht:okTab t) (m:Mv) (hc:chk is e t≠0):
  icall X (call X) 7 [.agg p.cs,.agg [.lst (szOf 1 (t.map rowsC)) (t.map rowsC) .no],.agg m.cs]=some (.ret (.tup [.agg [.lst 0 [] .no],int (chk is e t)])):=by
 have h:=(ic19 p is e hA t ht).2 hc
 refine icall_ret (v:=.tup [.agg [.lst 0 [] .nil],int (chk is e t)]) (H:=[]) (K:=[]) (by simp) (by simp) ?_ rfl rfl (by simp)
 rw[call_eq (by decide) (by simp)]
 simp only[Prg.cs_def]at h
 simp[Tryz.func7,Tryz.f7,envOf,h,hc,leave_pure]
theorem ic7_kind (p:Prg) (is:List Inf) (e:Int) (hA:Asg p is e) (t:Tab) (ht:okTab t) (m:Mv) (hc:chk is e t=0) (hk:m.kind < 1∨7 < m.kind):
  icall X (call X) 7 [.agg p.cs,.agg [.lst (szOf 1 (t.map rowsC)) (t.map rowsC) .no],.agg m.cs]=some (.ret (.tup [.agg [.lst 0 [] .no],int 5])):=by
 have h:=(ic19 p is e hA t ht).1 hc
 refine icall_ret (v:=.tup [.agg [.lst 0 [] .nil],int 5]) (H:=[]) (K:=[]) (by simp) (by simp) ?_ rfl rfl (by simp)
 rw[call_eq (by decide) (by simp)]
 simp only[Prg.cs_def]at h
 by_cases h1:m.kind < 1
 ·simp[Tryz.func7,Tryz.f7,envOf,h,h1,leave_pure]
 ·have h2:7 < m.kind:=by omega
  simp[Tryz.func7,Tryz.f7,envOf,h,h1,h2,leave_pure]
theorem ic7_go (p:Prg) (is:List Inf) (e:Int) (hA:Asg p is e) (t:Tab) (ht:okTab t) (m:Mv) (hc:chk is e t=0) (k:Nat) (hk:m.kind=k) (h1:1≤k) (h7:k≤7) (o:Option Tab) (c:Int) (hcz:o=none→c≠0) (hot:∀t',o=some t'→okTab t')
  (hmv:icall X (call X) (39+k) [.agg [.lst (szOf 22 (is.map Inf.cs)) (is.map Inf.cs) .no,.int .i64 (nrows t),.lst (szOf 1 (t.map rowsC)) (t.map rowsC) .no],.agg [.int .i64 m.kind,.int .i64 m.a,.int .i64 m.b,.int .i64 m.k,.lst (szOf 1 (m.list.map intC)) (m.list.map intC) .no]]=
   some (.ret (MvV o c))):
  icall X (call X) 7 [.agg p.cs,.agg [.lst (szOf 1 (t.map rowsC)) (t.map rowsC) .no],.agg m.cs]=some (.ret (DoV o c)):=by
 have h:=(ic19 p is e hA t ht).1 hc
 have h20:=ic20
 simp only[Prg.cs_def]at h
 rw[hk]at hmv
 cases o with
 |none=>
  replace hcz:=hcz rfl
  simp only[MvV_none,DoV_none]at hmv ⊢
  refine icall_ret (v:=.tup [.agg [.lst 0 [] .nil],int c]) (H:=[]) (K:=[]) (by simp) (by simp) ?_ rfl rfl (by simp)
  rw[call_eq (by decide) (by simp)]
  obtain rfl |rfl |rfl |rfl |rfl |rfl |rfl:k=1∨k=2∨k=3∨k=4∨k=5∨k=6∨k=7:=by omega
  all_goals (simp only[Nat.reduceAdd]at hmv;simp at hk hmv;simp[Tryz.func7,Tryz.f7,envOf,h,hk,h20,hmv,hcz,leave_pure])
 |some t'=>
  simp only[MvV_some,DoV_some]at hmv ⊢
  have h21:=ic21 t' (hot t' rfl)
  refine icall_ret (v:=.tup [.agg [tabV t'],int 0]) (H:=[]) (K:=[]) (by simp) (by simp) ?_ rfl rfl (by simp)
  rw[call_eq (by decide) (by simp)]
  obtain rfl |rfl |rfl |rfl |rfl |rfl |rfl:k=1∨k=2∨k=3∨k=4∨k=5∨k=6∨k=7:=by omega
  all_goals (simp only[Nat.reduceAdd]at hmv;simp at hk hmv;simp[Tryz.func7,Tryz.f7,envOf,h,hk,h20,h21,hmv,leave_pure])
end T
end
section
open Go Go.Proofs Go.Sym
namespace T
theorem Chkd.mk' {is:List Inf} {t':Tab} (n':Nat) (hlen:t'.length=is.length) (hn:n'≤8) (hrow:∀(k:Nat) l' i,t'[k]? =some l'→is[k]? =some i→l'.length=n'∧∀r ∈ l',errR i.nm.length r=0):Chkd is t':=by
 have hk:∀(k:Nat) l',t'[k]? =some l'→l'.length=n':=fun k l' h=>by
  have hlt:=(List.getElem?_eq_some_iff.1 h).1
  exact(hrow k l' _ h (List.getElem?_eq_getElem (show k < is.length by omega))).1
 have hN:t'=[]∨nrows t'=n':=by
  cases t' with
  |nil=>exact .inl rfl
  |cons a q=>exact .inr (hk 0 a rfl)
 refine⟨hlen,?_,fun l hl=>?_,fun k l i h1 h2=>(hrow k l i h1 h2).2⟩
 ·rcases hN with rfl |h
  ·simp[nrows]
  ·omega
 ·obtain⟨k,h⟩:=List.getElem?_of_mem hl
  rcases hN with rfl |h'
  ·cases hl
  ·rw[h'];exact hk k l h
theorem Chkd.at {is:List Inf} {t:Tab} (h:Chkd is t) {k:Nat} {l:List Row} (hk:t[k]? =some l):∃i,is[k]? =some i∧l.length=nrows t∧∀r ∈ l,errR i.nm.length r=0:=by
 have hlt:=(List.getElem?_eq_some_iff.1 hk).1
 have hi:=List.getElem?_eq_getElem (show k < is.length by rw[←h.len];exact hlt)
 exact⟨_,hi,h.even l (List.mem_of_getElem? hk),h.row k l _ hk hi⟩
theorem Chkd.mapIdx {is:List Inf} {t:Tab} (h:Chkd is t) (f:Nat→List Row→List Row) (n':Nat) (hn:n'≤8) (hf:∀(k:Nat) l i,t[k]? =some l→is[k]? =some i→l.length=nrows t→(∀ r ∈ l,errR i.nm.length r=0)→(f k l).length=n'∧∀r ∈ f k l,errR i.nm.length r=0):Chkd is (t.mapIdx f):=by
 refine Chkd.mk' n' (by simpa using h.len) hn fun k l' i h1 h2=>?_
 rw[List.getElem?_mapIdx,Option.map_eq_some_iff]at h1
 obtain⟨l,hl,rfl⟩:=h1
 obtain⟨i',hi',e1,e2⟩:=h.at hl
 rw[h2]at hi'
 cases hi'
 exact hf k l i hl h2 e1 e2
theorem Chkd.map {is:List Inf} {t:Tab} (h:Chkd is t) (f:List Row→List Row) (n':Nat) (hn:n'≤8) (hf:∀(k:Nat) l i,t[k]? =some l→is[k]? =some i→l.length=nrows t→(∀ r ∈ l,errR i.nm.length r=0)→(f l).length=n'∧∀r ∈ f l,errR i.nm.length r=0):Chkd is (t.map f):=by
 have:=h.mapIdx (fun _ l=>f l) n' hn hf
 have e:t.mapIdx (fun _ l=>f l)=t.map f:=List.ext_getElem? fun i=>by simp[List.getElem?_mapIdx]
 rwa[e]at this
theorem gd_iff {X1:Nat→Lin×Bool} {n:Nat}:gd X1 n=true↔∀i,i < n→(X1 i).2=true:=by simp[gd]
theorem okX_iff {f:Nat→List Row→Lin×Bool} {t:Tab}:okX f t=true↔∀(k:Nat) l,t[k]? =some l→(f k l).2=true:=by
 unfold okX
 rw[gd_iff]
 constructor
 ·intro h k l hk
  have:=h k (List.getElem?_eq_some_iff.1 hk).1
  simpa only[hk] using this
 ·intro h i hi
  have hc:=List.getElem?_eq_getElem hi
  simpa only[hc] using h i _ hc
theorem mem_set' {α:Type} {l:List α} {a:Nat} {x y:α} (h:y ∈ l.set a x):y ∈ l∨y=x:=List.mem_or_eq_of_mem_set h
theorem Chkd.setX {is:List Inf} {t:Tab} (h:Chkd is t) {a:Nat} (ha:a < nrows t) (f:Nat→List Row→Lin×Bool) (hok:okX f t=true)
  (hf:∀(k:Nat) l r,t[k]? =some l→l[a]? =some r→(f k l).2=true→linValid (f k l).1=true∧(f k l).1.C.length=r.L.C.length):Chkd is (setX a f t):=by
 refine h.mapIdx _ (nrows t) h.n8 fun k l i hk hi hl hr=>?_
 have hra:=List.getElem?_eq_getElem (show a < l.length by omega)
 have hv:=hf k l _ hk hra (okX_iff.1 hok k l hk)
 simp only[rowAt,hra]
 refine⟨by simp[hl],fun r hr'=>?_⟩
 rcases mem_set' hr' with h1 |rfl
 ·exact hr r h1
 ·have:=errR_iff.1 (hr _ (List.getElem_mem (show a < l.length by omega)))
  rw[errR_iff]
  exact⟨hv.1,by rw[hv.2];exact this.2.1,this.2.2⟩
theorem plusA_ok {x y:Lin} {k:Int} (hx:linValid x=true) (hl:y.C.length=x.C.length) (h:(plusA x k y).2=true):linValid (plusA x k y).1=true∧(plusA x k y).1.C.length=x.C.length:=by
 unfold plusA at h ⊢
 split
 ·rename_i hk
  rw[if_pos hk]at h
  exact⟨h,by simp[plusL,plusC,hl]⟩
 ·rename_i hk
  rw[if_neg hk]at h
  split
  ·exact⟨hx,rfl⟩
  ·rename_i hz
   rw[if_neg hz]at h
   cases h
theorem mv_ok {is:List Inf} {t t':Tab} {m:Mv} (h:Chkd is t) (hnm:∀i ∈ is,i.nm.length≤12) (hm:mvT is t m=some t'):Chkd is t':=by
 have hval:∀(k:Nat) l r,t[k]? =some l→r ∈ l→linValid r.L=true∧1≤r.D∧r.D≤64:=fun k l r hk hr=>by
  obtain⟨i,_,_,e⟩:=h.at hk
  have:=errR_iff.1 (e r hr)
  exact⟨this.1,this.2.2⟩
 have hdim:∀(k:Nat) l r q,t[k]? =some l→r ∈ l→q ∈ l→q.L.C.length=r.L.C.length:=fun k l r q hk hr hq=>by
  obtain⟨i,_,_,e⟩:=h.at hk
  have h1:=errR_iff.1 (e r hr)
  have h2:=errR_iff.1 (e q hq)
  omega
 unfold mvT at hm
 split at hm
 ·unfold swapM at hm
  split at hm
  ·cases hm
   rename_i hc
   simp only[Bool.and_eq_true]at hc
   obtain⟨a,ha,han⟩:=rowB_nat hc.1
   obtain⟨b,hb,hbn⟩:=rowB_nat hc.2
   rw[ha,hb]
   simp only[Int.toNat_natCast]
   refine h.map _ (nrows t) h.n8 fun k l i hk hi hl hr=>?_
   have hra:=List.getElem?_eq_getElem (show a < l.length by omega)
   have hrb:=List.getElem?_eq_getElem (show b < l.length by omega)
   simp only[swapL,hra,hrb]
   refine⟨by simp[hl],fun r hr'=>?_⟩
   rcases mem_set' hr' with h1 |rfl
   ·rcases mem_set' h1 with h2 |rfl
    ·exact hr r h2
    ·exact hr _ (List.getElem_mem _)
   ·exact hr _ (List.getElem_mem _)
  ·cases hm
 split at hm
 ·unfold flipT at hm
  split at hm
  ·cases hm
   rename_i hc
   simp only[Bool.and_eq_true]at hc
   obtain⟨a,ha,han⟩:=rowB_nat hc.1.1
   rw[ha]at hc ⊢
   simp only[Int.toNat_natCast]at hc ⊢
   refine h.setX han _ hc.2 fun k l r hk hr hv=>?_
   simp only[flipX,hr]at hv ⊢
   exact plusA_ok (hval k l r hk (List.mem_of_getElem? hr)).1 rfl hv
  ·cases hm
 split at hm
 ·unfold shiftT at hm
  split at hm
  ·cases hm
   rename_i hc
   simp only[Bool.and_eq_true]at hc
   obtain⟨b,hb,hbn⟩:=rowB_nat hc.1.2
   rw[hb]at hc ⊢
   simp only[Int.toNat_natCast]at hc ⊢
   refine h.setX hbn _ hc.2 fun k l r hk hr hv=>?_
   simp only[shiftY,hr,shiftX]at hv ⊢
   split
   ·rename_i he
    rw[if_pos he]at hv
    exact plusA_ok (hval k l r hk (List.mem_of_getElem? hr)).1 (by simp[unitL]) hv
   ·exact⟨(hval k l r hk (List.mem_of_getElem? hr)).1,rfl⟩
  ·cases hm
 split at hm
 ·unfold skewT at hm
  split at hm
  ·cases hm
   rename_i hc
   simp only[Bool.and_eq_true]at hc
   obtain⟨a,ha,han⟩:=rowB_nat hc.1.1.1.1.1
   obtain⟨b,hb,hbn⟩:=rowB_nat hc.1.1.1.1.2
   rw[ha,hb]at hc ⊢
   simp only[Int.toNat_natCast]at hc ⊢
   refine h.setX han _ hc.2 fun k l r hk hr hv=>?_
   obtain⟨_,_,hl,_⟩:=h.at hk
   have hq:=List.getElem?_eq_getElem (show b < l.length by omega)
   simp only[skewX,hr,hq]at hv ⊢
   exact plusA_ok (hval k l r hk (List.mem_of_getElem? hr)).1 (hdim k l r _ hk (List.mem_of_getElem? hr) (List.getElem_mem _)) hv
  ·cases hm
 split at hm
 ·unfold tileT at hm
  split at hm
  ·cases hm
  ·split at hm
   ·cases hm
   ·split at hm
    ·cases hm
    ·cases hm
     rename_i h1 _ h2
     refine h.map _ (nrows t+(m.b.toNat-m.a.toNat)) (by omega) fun k l i hk hi hl hr=>?_
     refine⟨by simp[tileL];omega,fun r hr'=>?_⟩
     simp only[tileL,List.mem_append,List.mem_map]at hr'
     rcases hr' with(hr' |⟨q,hq,rfl⟩) |hr'
     ·exact hr r (List.mem_of_mem_take hr')
     ·have:=errR_iff.1 (hr q (List.mem_of_mem_take (List.mem_of_mem_drop hq)))
      rw[errR_iff]
      exact⟨this.1,this.2.1,by simp only;omega⟩
     ·exact hr r (List.mem_of_mem_drop hr')
 split at hm
 ·unfold cutM at hm
  split at hm
  ·cases hm
  ·split at hm
   ·cases hm
   ·split at hm
    ·cases hm
    ·cases hm
     rename_i h1 h2 h3
     simp only[Bool.or_eq_true,List.any_eq_true,decide_eq_true_eq,not_or,not_exists,not_and,Bool.not_eq_true',Bool.not_eq_false,Bool.not_eq_true]at h3
     refine h.mapIdx _ (nrows t+1) (by omega) fun k l i hk hi hl hr=>?_
     have hkl:=(List.getElem?_eq_some_iff.1 hk).1
     have hc:=List.getElem?_eq_getElem (show k < m.list.length by omega)
     simp only[cutL,hi,hc]
     refine⟨by simp;omega,fun r hr'=>?_⟩
     simp only[List.mem_append,List.mem_cons]at hr'
     rcases hr' with hr' |rfl |hr'
     ·exact hr r (List.mem_of_mem_take hr')
     ·rw[errR_iff,valid_iff]
      refine⟨⟨fun c hc'=>?_,by simpa[cutR] using hnm i (List.mem_of_getElem? hi),?_⟩,by simp[cutR],by simp[cutR],by simp[cutR]⟩
      ·rw[(List.mem_replicate.1 hc').2];rfl
      ·simpa[cutR] using h3.1 _ (List.getElem_mem (show k < m.list.length by omega))
     ·exact hr r (List.mem_of_mem_drop hr')
 split at hm
 ·unfold fuseT at hm
  split at hm
  ·cases hm
   rename_i hc
   simp only[Bool.and_eq_true]at hc
   obtain⟨a,ha,han⟩:=rowB_nat hc.1.1
   rw[ha]
   simp only[Int.toNat_natCast]
   refine h.map _ (nrows t-1) (by have:=h.n8;omega) fun k l i hk hi hl hr=>⟨by simp[fuseL];omega,fun r hr'=>?_⟩
   simp only[fuseL,List.mem_append]at hr'
   rcases hr' with hr' |hr'
   ·exact hr r (List.mem_of_mem_take hr')
   ·exact hr r (List.mem_of_mem_drop hr')
  ·cases hm
 ·cases hm
end T
end
section
open Go Go.Proofs Go.Sym
namespace T
attribute [-simp] getElem?_pos
def rowK (a:Nat) (l:List Row):Int:=match l[a]? with |some r=>r.L.K |none=>0
def back (t:Tab) (m:Mv):Option Mv:=
 if m.kind=1 then some ⟨1,m.a,m.b,0,[]⟩else if m.kind=2 then some ⟨2,m.a,0,0,[]⟩
 else if m.kind=3∨m.kind=4 then(if m.k=-9223372036854775808 then none else some ⟨m.kind,m.a,m.b,-m.k,[]⟩)
 else if m.kind=6 then some ⟨7,m.a,0,0,[]⟩else if m.kind=7 then some ⟨6,m.a,0,0,t.map (rowK m.a.toNat)⟩else none
end T
end
section
open Go Go.Proofs Go.Sym
namespace T
attribute [-simp] getElem?_pos
end T
end
section
open Go Go.Proofs Go.Sym
namespace T
attribute [-simp] getElem?_pos
def doO (is:List Inf) (e:Int) (t:Tab) (m:Mv):Option Tab:=if chk is e t=0 then mvT is t m else none
def doE (is:List Inf) (e:Int) (t:Tab) (m:Mv):Int:=if chk is e t=0 then mvE t m else chk is e t
theorem chk_zero {is:List Inf} {e:Int} {t:Tab} (h:chk is e t=0):e=0∧Chkd is t:=by
 by_cases he:e=0
 ·subst he;exact⟨rfl,chk_iff.1 h⟩
 ·unfold chk at h;rw[if_pos he]at h;exact absurd h he
theorem ic7 (M:Movers) (p:Prg) (is:List Inf) (e:Int) (hA:Asg p is e) (hnm:∀i ∈ is,i.nm.length≤12) (t:Tab) (ht:okTab t) (m:Mv) (hm:m.list.length≤1073741824):
  icall X (call X) 7 [.agg p.cs,.agg [.lst (szOf 1 (t.map rowsC)) (t.map rowsC) .no],.agg m.cs]=some (.ret (DoV (doO is e t m) (doE is e t m)))∧(doO is e t m=none→doE is e t m≠0):=by
 by_cases hc:chk is e t=0
 ·obtain⟨rfl,hC⟩:=chk_zero hc
  unfold doO doE
  rw[if_pos hc,if_pos hc]
  by_cases hk:m.kind < 1∨7 < m.kind
  ·have hE:mvE t m=5:=by
    unfold mvE
    rw[if_neg (by omega),if_neg (by omega),if_neg (by omega),if_neg (by omega),if_neg (by omega),if_neg (by omega),if_neg (by omega)]
   rw[hE]
   refine⟨?_,fun _=>by decide⟩
   have:mvT is t m=none:=by
    unfold mvT
    rw[if_neg (by omega),if_neg (by omega),if_neg (by omega),if_neg (by omega),if_neg (by omega),if_neg (by omega),if_neg (by omega)]
   rw[this]
   exact ic7_kind p is 0 hA t ht m hc hk
  ·have hot:∀t',mvT is t m=some t'→okTab t':=fun t' h=>(mv_ok hC hnm h).okTab (by rw[←hC.len];exact ht.1)
   obtain⟨k,hk'⟩:∃k:Nat,m.kind=k:=⟨m.kind.toNat,by omega⟩
   have hk1:1≤k:=by omega
   have hk7:k≤7:=by omega
   have hmv:icall X (call X) (39+k) [.agg [.lst (szOf 22 (is.map Inf.cs)) (is.map Inf.cs) .no,.int .i64 (nrows t),.lst (szOf 1 (t.map rowsC)) (t.map rowsC) .no],.agg [.int .i64 m.kind,.int .i64 m.a,.int .i64 m.b,.int .i64 m.k,.lst (szOf 1 (m.list.map intC)) (m.list.map intC) .no]]=
     some (.ret (MvV (mvT is t m) (mvE t m)))∧(mvT is t m=none→mvE t m≠0):=by
    obtain rfl |rfl |rfl |rfl |rfl |rfl |rfl:k=1∨k=2∨k=3∨k=4∨k=5∨k=6∨k=7:=by omega
    ·have h:=ic_mover mover40 (by simp) (by simp) is t m hC ht hm hnm
     rw[show mvT is t m=swapM (nrows t) t m by unfold mvT;rw[if_pos (by omega)],show mvE t m=6 by unfold mvE;rw[if_pos (by omega)]]
     exact h
    ·have h:=ic_mover mover41 (by simp) (by simp) is t m hC ht hm hnm
     rw[show mvT is t m=flipT (nrows t) t m by unfold mvT;rw[if_neg (by omega),if_pos (by omega)],show mvE t m=flipE (nrows t) t m by unfold mvE;rw[if_neg (by omega),if_pos (by omega)]]
     exact h
    ·have h:=ic_mover mover42 (by simp) (by simp) is t m hC ht hm hnm
     rw[show mvT is t m=shiftT (nrows t) t m by unfold mvT;rw[if_neg (by omega),if_neg (by omega),if_pos (by omega)],show mvE t m=shiftE (nrows t) t m by unfold mvE;rw[if_neg (by omega),if_neg (by omega),if_pos (by omega)]]
     exact h
    ·have h:=ic_mover mover43 (by simp) (by simp) is t m hC ht hm hnm
     rw[show mvT is t m=skewT (nrows t) t m by unfold mvT;rw[if_neg (by omega),if_neg (by omega),if_neg (by omega),if_pos (by omega)],show mvE t m=skewE (nrows t) t m by unfold mvE;rw[if_neg (by omega),if_neg (by omega),if_neg (by omega),if_pos (by omega)]]
     exact h
    ·have h:=ic_mover M.m44 (by simp) (by simp) is t m hC ht hm hnm
     rw[show mvT is t m=tileT (nrows t) t m by unfold mvT;rw[if_neg (by omega),if_neg (by omega),if_neg (by omega),if_neg (by omega),if_pos (by omega)],show mvE t m=tileE (nrows t) t m by unfold mvE;rw[if_neg (by omega),if_neg (by omega),if_neg (by omega),if_neg (by omega),if_pos (by omega)]]
     exact h
    ·have h:=ic_mover M.m45 (by simp) (by simp) is t m hC ht hm hnm
     rw[show mvT is t m=cutM is (nrows t) t m by unfold mvT;rw[if_neg (by omega),if_neg (by omega),if_neg (by omega),if_neg (by omega),if_neg (by omega),if_pos (by omega)],show mvE t m=cutE (nrows t) t m by unfold mvE;rw[if_neg (by omega),if_neg (by omega),if_neg (by omega),if_neg (by omega),if_neg (by omega),if_pos (by omega)]]
     exact h
    ·have h:=ic_mover M.m46 (by simp) (by simp) is t m hC ht hm hnm
     rw[show mvT is t m=fuseT (nrows t) t m by unfold mvT;rw[if_neg (by omega),if_neg (by omega),if_neg (by omega),if_neg (by omega),if_neg (by omega),if_neg (by omega),if_pos (by omega)],show mvE t m=fuseE (nrows t) m by unfold mvE;rw[if_neg (by omega),if_neg (by omega),if_neg (by omega),if_neg (by omega),if_neg (by omega),if_neg (by omega),if_pos (by omega)]]
     exact h
   obtain⟨hmv,hcz⟩:=hmv
   exact⟨ic7_go p is 0 hA t ht m hc k hk' hk1 hk7 (mvT is t m) _ hcz hot hmv,hcz⟩
 ·unfold doO doE
  rw[if_neg hc,if_neg hc]
  exact⟨ic7_bad p is e hA t ht m hc,fun _=>hc⟩
def hp10 (p:Prg) (t t':Tab) (m:Mv) (ks:List Int):List Blk:=[⟨3,[p.cs],.box⟩,⟨1,[[tabV t]],.box⟩,mvB m,⟨5,[[int 0,int 0,int 0,int 0,.lst 0 [] .nil]],.box⟩,⟨1,[[tabV t']],.box⟩,⟨5,[[int 6,int m.a,int 0,int 0,.lst 1 (ks.map intC) (.tok 0)]],.box⟩]
def S10 (p:Prg) (t t':Tab) (m:Mv) (KS:List Int) (i:Nat):St:=⟨[(5,.ptr 2 0 0),(6,.ptr 3 0 0),(10,.ptr 5 0 0),(66,tabV t),(67,int t.length),(68,int i)],hp10 p t t' m (KS.take i),[i],0⟩
theorem loop10 (p:Prg) (t t':Tab) (m:Mv) (ht:t.length≤1073741823) (a:Nat) (ha:m.a=a) (KS:List Int) (hl:KS.length=t.length) (hK:∀(i:Nat) l,t[i]? =some l→∃r,l[a]? =some r∧KS[i]? =some r.L.K):∃o,(∀ s,s.gc [5,6,10,66,67,68] 6 1=S10 p t t' m KS 0→loopE X 10 lb10_19 (St.gc [5,6,10,66,67,68] 6 1) s=some o)∧
  ∃e,o= .exit 1 ⟨e,hp10 p t t' m KS,[t.length],0⟩∧get e 6= .ptr 3 0 0∧get e 10= .ptr 5 0 0:=by
 refine loop_unit t.length (S10 p t t' m KS) _ (by simp[lb10_19,Tryz.f10,S10,hp10,stops,←hl]) fun i hi=>?_
 have hw':=wrap_nat i (by omega)
 have hc:=List.getElem?_eq_getElem hi
 obtain⟨r,hr,hKi⟩:=hK i _ hc
 have hb:i≤1073741823:=by omega
 have hmin:min i t.length=i:=Nat.min_eq_left (by omega)
 have htk:(KS.map intC).take (i+1)=(KS.map intC).take i++[[.int .i64 r.L.K]]:=by rw[List.take_add_one,List.getElem?_map,hKi];rfl
 simp[lb10_19,Tryz.f10,S10,hp10,ha,hi,hw',hc,hr,hb,hl,hmin,htk]
end T
end
section
open Go Go.Proofs Go.Sym
namespace T
attribute [-simp] getElem?_pos
def BackV (o:Option Mv) (c:Int):AV:=match o with
 |some x=>.tup [.agg x.cs,int 0]
 |none=>.tup [.agg [int 0,int 0,int 0,int 0,.lst 0 [] .no],int c]
theorem BackV_some (x c):BackV (some x) c= .tup [.agg x.cs,int 0]:=Eq.trans rfl rfl
theorem BackV_none (c):BackV none c= .tup [.agg [int 0,int 0,int 0,int 0,.lst 0 [] .no],int c]:=Eq.trans rfl rfl
def backO (is:List Inf) (e:Int) (t:Tab) (m:Mv):Option Mv:=match doO is e t m with
 |some _=>back t m
 |none=>none
def backE (is:List Inf) (e:Int) (t:Tab) (m:Mv):Int:=match doO is e t m with
 |some _=>if m.kind=5 then 9 else 3
 |none=>doE is e t m
theorem mvT_kind {is:List Inf} {t t':Tab} {m:Mv} (h:mvT is t m=some t'):1≤m.kind∧m.kind≤7:=by
 unfold mvT at h
 by_cases h1:m.kind=1
 ·omega
 by_cases h2:m.kind=2
 ·omega
 by_cases h3:m.kind=3
 ·omega
 by_cases h4:m.kind=4
 ·omega
 by_cases h5:m.kind=5
 ·omega
 by_cases h6:m.kind=6
 ·omega
 by_cases h7:m.kind=7
 ·omega
 rw[if_neg h1,if_neg h2,if_neg h3,if_neg h4,if_neg h5,if_neg h6,if_neg h7]at h
 cases h
theorem wrap_neg {k:Int} (h1: -9223372036854775808≤k) (h2:k < 9223372036854775808) (h3:k≠ -9223372036854775808):IntKind.i64.wrap (-k)=-k:=wrap_id _ (by omega) (by omega)
theorem ic10 (M:Movers) (p:Prg) (is:List Inf) (e:Int) (hA:Asg p is e) (hnm:∀i ∈ is,i.nm.length≤12) (t:Tab) (ht:okTab t) (ht1:t.length≤1073741823) (m:Mv) (hm:m.list.length≤1073741824) (hk1: -9223372036854775808≤m.k) (hk2:m.k < 9223372036854775808):
  ∃c,(c≠0∧(backO is e t m=none→c=backE is e t m))∧icall X (call X) 10 [.agg p.cs,.agg [.lst (szOf 1 (t.map rowsC)) (t.map rowsC) .no],.agg m.cs]=some (.ret (BackV (backO is e t m) c)):=by
 obtain⟨h7,hc⟩:=ic7 M p is e hA hnm t ht m hm
 simp only[Prg.cs_def,Mv.cs_def,ints_def,int_def]at h7
 cases hd:doO is e t m with
 |none=>
  rw[hd,DoV_none]at h7
  replace hc:=hc hd
  unfold backO backE
  rw[hd]
  refine⟨doE is e t m,⟨hc,fun _=>rfl⟩,?_⟩
  generalize doE is e t m=c at*
  simp only[BackV_none]
  refine icall_ret (v:=.tup [.agg [int 0,int 0,int 0,int 0,.lst 0 [] .nil],int c]) (H:=[]) (K:=[]) (by simp) (by simp) ?_ rfl rfl (by simp)
  rw[call_eq (by decide) (by simp)]
  simp[Tryz.func10,Tryz.f10,envOf,h7,hc,leave_pure]
 |some t'=>
  rw[hd,DoV_some]at h7
  unfold backO backE
  rw[hd]
  simp only
  have hmv:chk is e t=0∧mvT is t m=some t':=by
   unfold doO at hd
   split at hd
   ·rename_i hc;exact⟨hc,hd⟩
   ·cases hd
  obtain⟨k1,k7⟩:=mvT_kind hmv.2
  obtain⟨k,hk⟩:∃k:Nat,m.kind=k:=⟨m.kind.toNat,by omega⟩
  obtain rfl |rfl |rfl |rfl |rfl |rfl |rfl:k=1∨k=2∨k=3∨k=4∨k=5∨k=6∨k=7:=by omega
  ·have hb:back t m=some ⟨1,m.a,m.b,0,[]⟩:=by unfold back;rw[if_pos (by omega)]
   rw[hb]
   simp only[BackV_some]
   simp at hk
   rw[hk]at h7
   refine⟨1,⟨by decide,fun h=>by cases h⟩,icall_ret (v:=.tup [.agg [int 1,int m.a,int m.b,int 0,.lst 0 [] .nil],int 0]) (H:=[]) (K:=[]) (by simp) (by simp) ?_ rfl rfl (by simp)⟩
   rw[call_eq (by decide) (by simp)]
   simp[Tryz.func10,Tryz.f10,envOf,h7,hk,leave_pure]
  ·have hb:back t m=some ⟨2,m.a,0,0,[]⟩:=by unfold back;rw[if_neg (by omega),if_pos (by omega)]
   rw[hb]
   simp only[BackV_some]
   simp at hk
   rw[hk]at h7
   refine⟨1,⟨by decide,fun h=>by cases h⟩,icall_ret (v:=.tup [.agg [int 2,int m.a,int 0,int 0,.lst 0 [] .nil],int 0]) (H:=[]) (K:=[]) (by simp) (by simp) ?_ rfl rfl (by simp)⟩
   rw[call_eq (by decide) (by simp)]
   simp[Tryz.func10,Tryz.f10,envOf,h7,hk,leave_pure]
  ·simp at hk
   rw[hk]at h7
   by_cases hkm:m.k=-9223372036854775808
   ·have hb:back t m=none:=by unfold back;rw[if_neg (by omega),if_neg (by omega),if_pos (by omega),if_pos hkm]
    rw[hb]
    refine⟨3,⟨by decide,fun _=>by rw[if_neg (by omega)]⟩,?_⟩
    rw[BackV_none]
    refine icall_ret (v:=.tup [.agg [int 0,int 0,int 0,int 0,.lst 0 [] .nil],int 3]) (H:=[]) (K:=[]) (by simp) (by simp) ?_ rfl rfl (by simp)
    rw[hkm]at h7
    rw[call_eq (by decide) (by simp)]
    simp[Tryz.func10,Tryz.f10,envOf,h7,hk,hkm,leave_pure]
   ·have hb:back t m=some ⟨m.kind,m.a,m.b,-m.k,[]⟩:=by unfold back;rw[if_neg (by omega),if_neg (by omega),if_pos (by omega),if_neg hkm]
    rw[hb]
    simp only[BackV_some]
    have hwn:=wrap_neg hk1 hk2 hkm
    refine⟨1,⟨by decide,fun h=>by cases h⟩,icall_ret (v:=.tup [.agg [int 3,int m.a,int m.b,int (-m.k),.lst 0 [] .nil],int 0]) (H:=[]) (K:=[]) (by simp) (by simp) ?_ rfl rfl (by simp[hk])⟩
    rw[call_eq (by decide) (by simp)]
    simp[Tryz.func10,Tryz.f10,envOf,h7,hk,hkm,hwn,leave_pure]
  ·simp at hk
   rw[hk]at h7
   by_cases hkm:m.k=-9223372036854775808
   ·have hb:back t m=none:=by unfold back;rw[if_neg (by omega),if_neg (by omega),if_pos (by omega),if_pos hkm]
    rw[hb]
    refine⟨3,⟨by decide,fun _=>by rw[if_neg (by omega)]⟩,?_⟩
    rw[BackV_none]
    refine icall_ret (v:=.tup [.agg [int 0,int 0,int 0,int 0,.lst 0 [] .nil],int 3]) (H:=[]) (K:=[]) (by simp) (by simp) ?_ rfl rfl (by simp)
    rw[hkm]at h7
    rw[call_eq (by decide) (by simp)]
    simp[Tryz.func10,Tryz.f10,envOf,h7,hk,hkm,leave_pure]
   ·have hb:back t m=some ⟨m.kind,m.a,m.b,-m.k,[]⟩:=by unfold back;rw[if_neg (by omega),if_neg (by omega),if_pos (by omega),if_neg hkm]
    rw[hb]
    simp only[BackV_some]
    have hwn:=wrap_neg hk1 hk2 hkm
    refine⟨1,⟨by decide,fun h=>by cases h⟩,icall_ret (v:=.tup [.agg [int 4,int m.a,int m.b,int (-m.k),.lst 0 [] .nil],int 0]) (H:=[]) (K:=[]) (by simp) (by simp) ?_ rfl rfl (by simp[hk])⟩
    rw[call_eq (by decide) (by simp)]
    simp[Tryz.func10,Tryz.f10,envOf,h7,hk,hkm,hwn,leave_pure]
  ·have hb:back t m=none:=by unfold back;rw[if_neg (by omega),if_neg (by omega),if_neg (by omega),if_neg (by omega),if_neg (by omega)]
   rw[hb]
   simp at hk
   rw[hk]at h7
   refine⟨9,⟨by decide,fun _=>by rw[if_pos (by omega)]⟩,?_⟩
   rw[BackV_none]
   refine icall_ret (v:=.tup [.agg [int 0,int 0,int 0,int 0,.lst 0 [] .nil],int 9]) (H:=[]) (K:=[]) (by simp) (by simp) ?_ rfl rfl (by simp)
   rw[call_eq (by decide) (by simp)]
   simp[Tryz.func10,Tryz.f10,envOf,h7,hk,leave_pure]
  ·have hb:back t m=some ⟨7,m.a,0,0,[]⟩:=by unfold back;rw[if_neg (by omega),if_neg (by omega),if_neg (by omega),if_pos (by omega)]
   rw[hb]
   simp only[BackV_some]
   simp at hk
   rw[hk]at h7
   refine⟨1,⟨by decide,fun h=>by cases h⟩,icall_ret (v:=.tup [.agg [int 7,int m.a,int 0,int 0,.lst 0 [] .nil],int 0]) (H:=[]) (K:=[]) (by simp) (by simp) ?_ rfl rfl (by simp)⟩
   rw[call_eq (by decide) (by simp)]
   simp[Tryz.func10,Tryz.f10,envOf,h7,hk,leave_pure]
  ·have hb:back t m=some ⟨6,m.a,0,0,t.map (rowK m.a.toNat)⟩:=by unfold back;rw[if_neg (by omega),if_neg (by omega),if_neg (by omega),if_neg (by omega),if_pos (by omega)]
   rw[hb]
   simp only[BackV_some]
   have hC:=(chk_zero hmv.1).2
   have hrow:∃a:Nat,m.a=a∧a < nrows t:=by
    have h:=hmv.2
    unfold mvT at h
    rw[if_neg (by omega),if_neg (by omega),if_neg (by omega),if_neg (by omega),if_neg (by omega),if_neg (by omega),if_pos (by omega)]at h
    unfold fuseT at h
    split at h
    ·rename_i hc
     simp only[Bool.and_eq_true]at hc
     exact rowB_nat hc.1.1
    ·cases h
   obtain⟨a,ha,han⟩:=hrow
   generalize hKS:t.map (rowK m.a.toNat)=KS
   obtain⟨o,h1,e',rfl,g1,g2⟩:=loop10 p t t' m ht1 a ha KS (by rw[←hKS];simp) fun i l hl=>by
    obtain⟨_,_,hll,_⟩:=hC.at hl
    have hr:=List.getElem?_eq_getElem (show a < l.length by omega)
    refine⟨_,hr,?_⟩
    rw[←hKS,List.getElem?_map,hl,ha]
    simp[rowK,hr]
   simp only[lb10_19,Tryz.f10,S10,hp10,bodyOf_some,sub_seq0,sub_seq1,sub_block,sub_loop,sub_nil,mvB_def,Mv.cs_def,Prg.cs_def]at h1
   simp at hk
   rw[hk]at h7 h1
   simp at h1
   refine⟨1,⟨by decide,fun h=>by cases h⟩,icall_ret (v:=.tup [.agg [int 6,int m.a,int 0,int 0,.lst 1 (KS.map intC) (.tok 0)],int 0]) (H:=[]) (K:=[t.length]) (by simp) (by simp) ?_ rfl rfl (by simp)⟩
   rw[call_eq (by decide) (by simp)]
   simp[Tryz.func10,Tryz.f10,envOf,h7,hk,ex_loop,firstReg,hp10,h1,g1,g2,leave_pure]
end T
end
section
open Go Go.Proofs Go.Sym
namespace T
attribute [-simp] getElem?_pos
theorem ic8 (m:Mv):icall X (call X) 8 [.agg m.cs]=some (.ret (.agg m.cs)):=by
 refine icall_ret (v:=.agg m.cs) (H:=[]) (K:=[]) (by simp) (by simp) ?_ rfl rfl (by simp)
 rw[call_eq (by decide) (by simp)]
 simp[Tryz.func8,Tryz.f8,envOf,leave_pure]
theorem ic12 (t:Tab) (ht:okTab t):icall X (call X) 12 [.agg [.lst (szOf 1 (t.map rowsC)) (t.map rowsC) .no],.agg [.lst (szOf 1 (t.map rowsC)) (t.map rowsC) .no]]=some (.ret (.bool true)):=icall_ret (by simp) (by simp) (e12 t ht) rfl rfl rfl
theorem back_len {t:Tab} {m x:Mv} (h:back t m=some x):x.list.length≤t.length:=by
 unfold back at h
 repeat' split at h
 all_goals first | (cases h;done) | (cases h;simp)
end T
end
section
open Go Go.Proofs Go.Sym
namespace T
inductive Ex where
 |mk (op k:Int) (L:Lin) (rA:Int) (subs:List Lin) (args:List Ex)
mutual
def Ex.cs:Ex→List AV
 | .mk op k L rA subs args=>[.int .i64 op,.int .i64 k,ints L.C,.int .i64 L.K,.int .i64 rA,lst 2 (subs.map Lin.cs),lst 7 (Ex.csL args)]
def Ex.csL:List Ex→List (List AV)
 | []=>[]
 |e::r=>Ex.cs e::Ex.csL r
end
theorem Ex.csL_map:∀(l:List Ex),Ex.csL l=l.map Ex.cs
 | []=>by simp[Ex.csL]
 |e::r=>by simp[Ex.csL,Ex.csL_map r]
theorem Ex.cs_mk (op k:Int) (L:Lin) (rA:Int) (subs:List Lin) (args:List Ex):Ex.cs (.mk op k L rA subs args)=[.int .i64 op,.int .i64 k,ints L.C,.int .i64 L.K,.int .i64 rA,lst 2 (subs.map Lin.cs),lst 7 (args.map Ex.cs)]:=by
 rw[Ex.cs,Ex.csL_map]
structure Cnd where
 kind:Int
 m:Int
 L:Lin
def Cnd.cs (c:Cnd):List AV:=[.int .i64 c.kind,.int .i64 c.m,ints c.L.C,.int .i64 c.L.K]
theorem Cnd.cs_def (c:Cnd):c.cs=[.int .i64 c.kind,.int .i64 c.m,ints c.L.C,.int .i64 c.L.K]:=Eq.trans rfl rfl
def pieC (l:List Cnd):List AV:=[lst 4 (l.map Cnd.cs)]
theorem pieC_def (l):pieC l=[lst 4 (l.map Cnd.cs)]:=Eq.trans rfl rfl
inductive Stm where
 |mk (kind:Int) (name:ByteArray) (low high:Tab) (step mark:Int) (dim:Int) (pieces:List (List Cnd)) (tA:Int) (tS:List Lin) (val:Ex) (body els:List Stm)
mutual
def Stm.cs:Stm→List AV
 | .mk kind name low high step mark dim pieces tA tS val body els=>[.int .i64 kind,.str name,tabV low,tabV high,.int .i64 step,.int .i64 mark,.int .i64 dim,lst 1 (pieces.map pieC),.int .i64 tA,lst 2 (tS.map Lin.cs)]++val.cs++[lst 19 (Stm.csL body),lst 19 (Stm.csL els)]
def Stm.csL:List Stm→List (List AV)
 | []=>[]
 |e::r=>Stm.cs e::Stm.csL r
end
theorem Stm.csL_map:∀(l:List Stm),Stm.csL l=l.map Stm.cs
 | []=>by simp[Stm.csL]
 |e::r=>by simp[Stm.csL,Stm.csL_map r]
theorem Stm.cs_mk (kind:Int) (name:ByteArray) (low high:Tab) (step mark:Int) (dim:Int) (pieces:List (List Cnd)) (tA:Int) (tS:List Lin) (op k:Int) (L:Lin) (rA:Int) (subs:List Lin) (args:List Ex) (body els:List Stm):
  Stm.cs (.mk kind name low high step mark dim pieces tA tS (.mk op k L rA subs args) body els)=[.int .i64 kind,.str name,tabV low,tabV high,.int .i64 step,.int .i64 mark,.int .i64 dim,lst 1 (pieces.map pieC),.int .i64 tA,lst 2 (tS.map Lin.cs),
   .int .i64 op,.int .i64 k,ints L.C,.int .i64 L.K,.int .i64 rA,lst 2 (subs.map Lin.cs),lst 7 (args.map Ex.cs),lst 19 (body.map Stm.cs),lst 19 (els.map Stm.cs)]:=by
 rw[Stm.cs,Stm.csL_map,Stm.csL_map,Ex.cs_mk];rfl
attribute [simp] Ex.cs_mk Cnd.cs_def pieC_def Stm.cs_mk
def okLins (l:List Lin):Prop:=l.length≤1073741823∧∀x ∈ l,okLin x
inductive OkEx:Ex→Prop where
 |mk {op k:Int} {L:Lin} {rA:Int} {subs:List Lin} {args:List Ex}:okLin L→okLins subs→args.length≤1073741823→(∀ a ∈ args,OkEx a)→OkEx (.mk op k L rA subs args)
def okTab' (t:Tab):Prop:=t.length≤1073741823∧∀l ∈ t,l.length≤1073741823∧∀r ∈ l,okLin r.L
def okPie (p:List (List Cnd)):Prop:=p.length≤1073741823∧∀l ∈ p,l.length≤1073741823∧∀c ∈ l,okLin c.L
inductive OkStm:Stm→Prop where
 |mk {kind:Int} {name:ByteArray} {low high:Tab} {step mark dim:Int} {pieces:List (List Cnd)} {tA:Int} {tS:List Lin} {val:Ex} {body els:List Stm}:name.size≤1073741823→okTab' low→okTab' high→okPie pieces→okLins tS→OkEx val→
   body.length≤1073741823→els.length≤1073741823→(∀ s ∈ body,OkStm s)→(∀ s ∈ els,OkStm s)→OkStm (.mk kind name low high step mark dim pieces tA tS val body els)
end T
end
section
open Go Go.Proofs Go.Sym
namespace T
attribute [-simp] getElem?_pos
def S59 (op k:Int) (L:Lin) (rA:Int) (subs:List Lin) (args:List Ex) (most:Int) (p:Nat×Int):St:=⟨[(1,.int .i64 most),(5,.int .i64 p.2),(14,lst 7 (args.map Ex.cs)),(15,.int .i64 args.length),(16,.int .i64 p.1)],[⟨7,[Ex.cs (.mk op k L rA subs args)],.box⟩],[],0⟩
theorem ic59 {e:Ex} (h:OkEx e):∀most:Int,∃v:Int,icall X (call X) 59 [.agg e.cs,.int .i64 most]=some (.ret (.int .i64 v)):=by
 induction h with
 | @mk op k L rA subs args hL hs hl ha ih=>
  intro most
  have hloop:∀n0:Int,∃o,(∀ s,s.gc [1,5,14,15,16] 1 0=S59 op k L rA subs args most (0,n0)→loopE X 59 lb59_3 (St.gc [1,5,14,15,16] 1 0) s=some o)∧∃e n,o= .exit 0 ⟨e,[⟨7,[Ex.cs (.mk op k L rA subs args)],.box⟩],[],0⟩∧get e 5= .int .i64 n:=fun n0=>by
   refine loop_inv (S59 op k L rA subs args most) (fun p=>p.1≤args.length) (fun p=>args.length-p.1) _ (fun p hp=>?_) (0,n0) (Nat.zero_le _)
   obtain⟨i,n⟩:=p
   simp only at hp
   by_cases hi:i < args.length
   ·right
    have hc:=List.getElem?_eq_getElem hi
    have hw:=wrap_nat i (by omega)
    generalize args[i]=a at hc
    have hia:=ih a (List.mem_of_getElem? hc)
    obtain⟨op',k',L',rA',subs',args'⟩:=a
    obtain⟨v,hv⟩:=hia (IntKind.i64.wrap (most-n))
    simp at hv
    by_cases hn:n≤most
    ·simp[lb59_3,Tryz.f59,S59,hi,hw,hc,hn,hv]
     exact⟨i+1,by omega,by omega,by omega⟩
    ·simp[lb59_3,Tryz.f59,S59,hi,hw,hc,hn]
     exact⟨i+1,by omega,by omega,by omega⟩
   ·left
    obtain rfl:i=args.length:=by omega
    simp[lb59_3,Tryz.f59,S59,stops]
  obtain⟨o,h1,e,n,rfl,h2⟩:=hloop (IntKind.i64.wrap (1+subs.length))
  simp only[lb59_3,Tryz.f59,S59,bodyOf_some,sub_seq0,sub_seq1,sub_block,sub_loop,sub_nil]at h1
  refine⟨n,icall_ret (v:=.int .i64 n) (H:=[]) (K:=[]) (by simp) (by simp) ?_ rfl rfl rfl⟩
  rw[call_eq (by decide) (by simp)]
  simp[Tryz.func59,Tryz.f59,envOf,ex_loop,firstReg,h1,h2,leave_pure]
end T
end
section
open Go Go.Proofs Go.Sym
namespace T
attribute [-simp] getElem?_pos
section
variable (z:Nat) (ss:List (List AV)) (len i most:Int) (b0:Blk)
def S26c (lo hi T:Tab) (j:Int) (p:Nat×Int):St:=⟨[(1,.int .i64 most),(5,.int .i64 p.2),(7,.ptr 0 0 0),(14,.lst z ss .no),(15,.int .i64 len),(16,.int .i64 i),(36,.lst 1 [[tabV lo],[tabV hi]] .exact),(37,.int .i64 2),(38,.int .i64 j),(43,tabV T),(44,.int .i64 T.length),(45,.int .i64 p.1)],[b0,⟨1,[[tabV T]],.box⟩],[],0⟩
variable (hb:∀H,scrubK 2 0 (sealK 2 H b0)=b0) (hb1:∀H,scrubK 1 0 (sealK 1 H b0)=b0)
include hb
theorem loop26c (lo hi T:Tab) (hT:T.length≤1073741823) (j n0:Int):∃o,(∀ s,s.gc [1,5,7,14,15,16,36,37,38,43,44,45] 2 0=S26c z ss len i most b0 lo hi T j (0,n0)→loopE X 26 lb26_10 (St.gc [1,5,7,14,15,16,36,37,38,43,44,45] 2 0) s=some o)∧
  ∃e n,o= .exit 4 ⟨e,[b0,⟨1,[[tabV T]],.box⟩],[],0⟩∧get e 1= .int .i64 most∧get e 5= .int .i64 n∧get e 7= .ptr 0 0 0∧get e 14= .lst z ss .no∧get e 15= .int .i64 len∧get e 16= .int .i64 i∧get e 36= .lst 1 [[tabV lo],[tabV hi]] .exact∧get e 37= .int .i64 2∧get e 38= .int .i64 j:=by
 refine loop_inv (S26c z ss len i most b0 lo hi T j) (fun p=>p.1≤T.length) (fun p=>T.length-p.1) _ (fun p hp=>?_) (0,n0) (Nat.zero_le _)
 obtain⟨k,n⟩:=p
 simp only at hp
 by_cases hk:k < T.length
 ·right
  have hc:=List.getElem?_eq_getElem hk
  have hw:=wrap_nat k (by omega)
  simp[lb26_10,Tryz.f26,S26c,hk,hw,hc,hb]
  exact⟨k+1,by omega,by omega,by omega⟩
 ·left
  obtain rfl:k=T.length:=by omega
  simp[lb26_10,Tryz.f26,S26c,stops]
def S26b (lo hi:Tab) (p:Nat×Int):St:=⟨[(1,.int .i64 most),(5,.int .i64 p.2),(7,.ptr 0 0 0),(14,.lst z ss .no),(15,.int .i64 len),(16,.int .i64 i),(36,.lst 1 [[tabV lo],[tabV hi]] .exact),(37,.int .i64 2),(38,.int .i64 p.1)],[b0],[],0⟩
include hb1
theorem loop26b (lo hi:Tab) (hlo:lo.length≤1073741823) (hhi:hi.length≤1073741823) (n0:Int):∃o,(∀ s,s.gc [1,5,7,14,15,16,36,37,38] 1 0=S26b z ss len i most b0 lo hi (0,n0)→loopE X 26 lb26_7 (St.gc [1,5,7,14,15,16,36,37,38] 1 0) s=some o)∧
  ∃e n,o= .exit 2 ⟨e,[b0],[],0⟩∧get e 1= .int .i64 most∧get e 5= .int .i64 n∧get e 7= .ptr 0 0 0∧get e 14= .lst z ss .no∧get e 15= .int .i64 len∧get e 16= .int .i64 i:=by
 refine loop_inv (S26b z ss len i most b0 lo hi) (fun p=>p.1≤2) (fun p=>2-p.1) _ (fun p hp=>?_) (0,n0) (by simp)
 obtain⟨k,n⟩:=p
 simp only at hp
 obtain rfl |rfl |rfl:k=0∨k=1∨k=2:=by omega
 ·right
  obtain⟨o,h1,e,n',rfl,g1,g2,g3,g4,g5,g6,g7,g8,g9⟩:=loop26c z ss len i most b0 hb lo hi lo hlo 0 n
  simp only[lb26_10,Tryz.f26,S26c,bodyOf_some,sub_seq0,sub_seq1,sub_block,sub_loop,sub_nil]at h1
  have hw:=wrap_nat 0 (by omega)
  simp at hw
  simp[lb26_7,Tryz.f26,S26b,ex_loop,firstReg,hb,hb1,h1,g1,g2,g3,g4,g5,g6,g7,g8,g9,hw]
  exact⟨1,by omega,by omega,by omega⟩
 ·right
  obtain⟨o,h1,e,n',rfl,g1,g2,g3,g4,g5,g6,g7,g8,g9⟩:=loop26c z ss len i most b0 hb lo hi hi hhi 1 n
  simp only[lb26_10,Tryz.f26,S26c,bodyOf_some,sub_seq0,sub_seq1,sub_block,sub_loop,sub_nil]at h1
  have hw:=wrap_nat 1 (by omega)
  simp at hw
  simp[lb26_7,Tryz.f26,S26b,ex_loop,firstReg,hb,hb1,h1,g1,g2,g3,g4,g5,g6,g7,g8,g9,hw]
  exact⟨2,by omega,by omega,by omega⟩
 ·left
  simp[lb26_7,Tryz.f26,S26b,stops]
end
end T
end
section
open Go Go.Proofs Go.Sym
namespace T
attribute [-simp] getElem?_pos
section
variable (z:Nat) (ss:List (List AV)) (len i most:Int) (b0:Blk) (hb1:∀H,scrubK 1 0 (sealK 1 H b0)=b0)
def S26d (P:List (List Cnd)) (p:Nat×Int):St:=⟨[(1,.int .i64 most),(5,.int .i64 p.2),(7,.ptr 0 0 0),(14,.lst z ss .no),(15,.int .i64 len),(16,.int .i64 i),(58,lst 1 (P.map pieC)),(59,.int .i64 P.length),(60,.int .i64 p.1)],[b0],[],0⟩
include hb1
theorem loop26d (P:List (List Cnd)) (hP:P.length≤1073741823) (n0:Int):∃o,(∀ s,s.gc [1,5,7,14,15,16,58,59,60] 1 0=S26d z ss len i most b0 P (0,n0)→loopE X 26 lb26_16 (St.gc [1,5,7,14,15,16,58,59,60] 1 0) s=some o)∧
  ∃e n,o= .exit 6 ⟨e,[b0],[],0⟩∧get e 1= .int .i64 most∧get e 5= .int .i64 n∧get e 7= .ptr 0 0 0∧get e 14= .lst z ss .no∧get e 15= .int .i64 len∧get e 16= .int .i64 i:=by
 refine loop_inv (S26d z ss len i most b0 P) (fun p=>p.1≤P.length) (fun p=>P.length-p.1) _ (fun p hp=>?_) (0,n0) (Nat.zero_le _)
 obtain⟨k,n⟩:=p
 simp only at hp
 by_cases hk:k < P.length
 ·right
  have hc:=List.getElem?_eq_getElem hk
  have hw:=wrap_nat k (by omega)
  simp[lb26_16,Tryz.f26,S26d,hk,hw,hc,hb1]
  exact⟨k+1,by omega,by omega,by omega⟩
 ·left
  obtain rfl:k=P.length:=by omega
  simp[lb26_16,Tryz.f26,S26d,stops]
end
def Stm.body:Stm→List Stm | .mk _ _ _ _ _ _ _ _ _ _ _ b _=>b
def Stm.els:Stm→List Stm | .mk _ _ _ _ _ _ _ _ _ _ _ _ b=>b
def W26 (l:List Stm):Prop:=∀most:Int,∃v:Int,icall X (call X) 26 [.lst (szOf 19 (l.map Stm.cs)) (l.map Stm.cs) .no,.int .i64 most]=some (.ret (.int .i64 v))
def S26 (l:List Stm) (most:Int) (p:Nat×Int):St:=⟨[(1,.int .i64 most),(5,.int .i64 p.2),(14,lst 19 (l.map Stm.cs)),(15,.int .i64 l.length),(16,.int .i64 p.1)],[],[],0⟩
theorem weigh_list (l:List Stm) (hl:l.length≤1073741823) (h:∀s ∈ l,OkStm s∧W26 s.body∧W26 s.els):W26 l:=by
 intro most
 have hloop:∃o,(∀ s,s.gc [1,5,14,15,16] 0 0=S26 l most (0,0)→loopE X 26 lb26_3 (St.gc [1,5,14,15,16] 0 0) s=some o)∧((∃ e n,o= .exit 0 ⟨e,[],[],0⟩∧get e 5= .int .i64 n)∨∃e n b,o= .ret ⟨(4,.int .i64 n)::e,b,[],0⟩):=by
  refine loop_inv (S26 l most) (fun p=>p.1≤l.length) (fun p=>l.length-p.1) _ (fun p hp=>?_) (0,0) (Nat.zero_le _)
  obtain⟨i,n⟩:=p
  simp only at hp
  by_cases hi:i < l.length
  ·have hc:=List.getElem?_eq_getElem hi
   have hw:=wrap_nat i (by omega)
   generalize l[i]=s at hc
   obtain⟨hok,hbody,hels⟩:=h s (List.mem_of_getElem? hc)
   cases hok with
   | @mk kind name low high step mark dim pieces tA tS val body els h1 h2 h3 h4 h5 h6 h7 h8 h9 h10=>
   obtain⟨op,k,L,rA,subs,args⟩:=val
   obtain⟨v,hv⟩:=ic59 h6 most
   obtain⟨o1,p1,e1,n1,rfl,a1,a2,a3,a4,a5,a6⟩:=loop26b (szOf 19 (l.map Stm.cs)) (l.map Stm.cs) l.length i most ⟨19,[Stm.cs (.mk kind name low high step mark dim pieces tA tS (.mk op k L rA subs args) body els)],.box⟩ (fun H=>by simp) (fun H=>by simp) low high h2.1 h3.1 (IntKind.i64.wrap (n+IntKind.i64.wrap (IntKind.i64.wrap (1+tS.length)+v)))
   obtain⟨o2,p2,e2,n2,rfl,c1,c2,c3,c4,c5,c6⟩:=loop26d (szOf 19 (l.map Stm.cs)) (l.map Stm.cs) l.length i most ⟨19,[Stm.cs (.mk kind name low high step mark dim pieces tA tS (.mk op k L rA subs args) body els)],.box⟩ (fun H=>by simp) pieces h4.1 n1
   simp only[lb26_7,Tryz.f26,S26b,bodyOf_some,sub_seq0,sub_seq1,sub_block,sub_loop,sub_nil]at p1
   simp only[lb26_16,Tryz.f26,S26d,bodyOf_some,sub_seq0,sub_seq1,sub_block,sub_loop,sub_nil]at p2
   simp at hv p1 p2
   by_cases d1:n2≤most
   ·obtain⟨v1,hv1⟩:=hbody (IntKind.i64.wrap (most-n2))
    simp only[Stm.body]at hv1
    by_cases d2:IntKind.i64.wrap (n2+v1)≤most
    ·obtain⟨v2,hv2⟩:=hels (IntKind.i64.wrap (most-IntKind.i64.wrap (n2+v1)))
     simp only[Stm.els]at hv2
     by_cases d3:most < IntKind.i64.wrap (IntKind.i64.wrap (n2+v1)+v2)
     ·left
      simp[lb26_3,Tryz.f26,S26,stops,hi,hc,hv,ex_loop,firstReg,p1,a1,a2,a3,a4,a5,a6,p2,c1,c2,c3,c4,c5,c6,d1,d2,d3,hv1,hv2]
     ·right
      simp[lb26_3,Tryz.f26,S26,stops,hi,hw,hc,hv,ex_loop,firstReg,p1,a1,a2,a3,a4,a5,a6,p2,c1,c2,c3,c4,c5,c6,d1,d2,d3,hv1,hv2]
      exact⟨i+1,by omega,by omega,by omega⟩
    ·have d3:most < IntKind.i64.wrap (n2+v1):=by omega
     left
     simp[lb26_3,Tryz.f26,S26,stops,hi,hc,hv,ex_loop,firstReg,p1,a1,a2,a3,a4,a5,a6,p2,c1,c2,c3,c4,c5,c6,d1,d2,d3,hv1]
   ·have d3:most < n2:=by omega
    left
    simp[lb26_3,Tryz.f26,S26,stops,hi,hc,hv,ex_loop,firstReg,p1,a1,a2,a3,a4,a5,a6,p2,c1,c2,c3,c4,c5,c6,d1,d3]
  ·left
   obtain rfl:i=l.length:=by omega
   simp[lb26_3,Tryz.f26,S26,stops]
 obtain⟨o,h1,h2⟩:=hloop
 simp only[lb26_3,Tryz.f26,S26,bodyOf_some,sub_seq0,sub_seq1,sub_block,sub_loop,sub_nil]at h1
 rcases h2 with⟨e,n,rfl,g⟩ |⟨e,n,b,rfl⟩
 ·refine⟨n,icall_ret (v:=.int .i64 n) (H:=[]) (K:=[]) (by simp) (by simp) ?_ rfl rfl rfl⟩
  rw[call_eq (by decide) (by simp)]
  simp[Tryz.func26,Tryz.f26,envOf,ex_loop,firstReg,h1,g,leave_pure]
 ·refine⟨n,icall_ret (v:=.int .i64 n) (H:=[]) (K:=[]) (by simp) (by simp) ?_ rfl rfl rfl⟩
  rw[call_eq (by decide) (by simp)]
  simp[Tryz.func26,Tryz.f26,envOf,ex_loop,firstReg,h1,leave_pure]
theorem weigh_ok {s:Stm} (h:OkStm s):W26 s.body∧W26 s.els:=by
 induction h with
 |mk h1 h2 h3 h4 h5 h6 h7 h8 h9 h10 ih1 ih2=>exact⟨weigh_list _ h7 fun s hs=>⟨h9 s hs,ih1 s hs⟩,weigh_list _ h8 fun s hs=>⟨h10 s hs,ih2 s hs⟩⟩
theorem ic26 {l:List Stm} (hl:l.length≤1073741823) (h:∀s ∈ l,OkStm s):W26 l:=weigh_list l hl fun s hs=>⟨h s hs,weigh_ok (h s hs)⟩
end T
end
section
open Go Go.Proofs Go.Sym
namespace T
attribute [-simp] getElem?_pos
def strC (s:ByteArray):List AV:=[.str s]
theorem strC_def (s):strC s=[.str s]:=Eq.trans rfl rfl
structure Arr where
 name:ByteArray
 sizes:List Lin
def Arr.cs (a:Arr):List AV:=[.str a.name,lst 2 (a.sizes.map Lin.cs)]
theorem Arr.cs_def (a:Arr):a.cs=[.str a.name,lst 2 (a.sizes.map Lin.cs)]:=Eq.trans rfl rfl
attribute [simp] strC_def Arr.cs_def
structure PT where
 ps:List ByteArray
 arrs:List Arr
 body:List Stm
def PT.p (t:PT):Prg:=⟨t.ps.map strC,t.arrs.map Arr.cs,t.body.map Stm.cs⟩
structure PT.Ok (t:PT):Prop where
 ps:t.ps.length≤1073741823
 nm:∀s ∈ t.ps,s.size≤1073741823
 arrs:t.arrs.length≤1073741823
 arr:∀a ∈ t.arrs,a.name.size≤1073741823∧okLins a.sizes
 body:t.body.length≤1073741823
 stm:∀s ∈ t.body,OkStm s
theorem PT.cs (t:PT):t.p.cs=[.lst (szOf 1 (t.ps.map strC)) (t.ps.map strC) .no,.lst (szOf 2 (t.arrs.map Arr.cs)) (t.arrs.map Arr.cs) .no,.lst (szOf 19 (t.body.map Stm.cs)) (t.body.map Stm.cs) .no]:=Eq.trans rfl rfl
theorem PT.p_a (t:PT):t.p.a=t.ps.map strC:=Eq.trans rfl rfl
theorem PT.p_b (t:PT):t.p.b=t.arrs.map Arr.cs:=Eq.trans rfl rfl
theorem PT.p_c (t:PT):t.p.c=t.body.map Stm.cs:=Eq.trans rfl rfl
attribute [simp] PT.p_a PT.p_b PT.p_c
def S15 (t:PT) (most:Int) (p:Nat×Int):St:=⟨[(1,.int .i64 most),(2,.ptr 0 0 0),(5,.int .i64 p.2),(12,lst 2 (t.arrs.map Arr.cs)),(13,.int .i64 t.arrs.length),(14,.int .i64 p.1)],[⟨3,[t.p.cs],.box⟩],[],0⟩
theorem ic15 (t:PT) (h:t.Ok) (most:Int):∃b,icall X (call X) 15 [.agg t.p.cs,.int .i64 most]=some (.ret (.bool b)):=by
 have hloop:∀n0:Int,∃o,(∀ s,s.gc [1,2,5,12,13,14] 1 0=S15 t most (0,n0)→loopE X 15 lb15_3 (St.gc [1,2,5,12,13,14] 1 0) s=some o)∧∃e n,o= .exit 0 ⟨e,[⟨3,[t.p.cs],.box⟩],[],0⟩∧get e 1= .int .i64 most∧get e 2= .ptr 0 0 0∧get e 5= .int .i64 n:=fun n0=>by
  refine loop_inv (S15 t most) (fun p=>p.1≤t.arrs.length) (fun p=>t.arrs.length-p.1) _ (fun p hp=>?_) (0,n0) (Nat.zero_le _)
  obtain⟨i,n⟩:=p
  simp only at hp
  by_cases hi:i < t.arrs.length
  ·right
   have hc:=List.getElem?_eq_getElem hi
   have hw:=wrap_nat i (by have:=h.arrs;omega)
   simp[PT.cs,lb15_3,Tryz.f15,S15,hi,hw,hc]
   exact⟨i+1,by omega,by omega,by omega⟩
  ·left
   obtain rfl:i=t.arrs.length:=by omega
   simp[PT.cs,lb15_3,Tryz.f15,S15,stops]
 obtain⟨o,h1,e,n,rfl,g1,g2,g3⟩:=hloop t.ps.length
 simp only[lb15_3,Tryz.f15,S15,bodyOf_some,sub_seq0,sub_seq1,sub_block,sub_loop,sub_nil]at h1
 simp[PT.cs]at h1
 by_cases c1:n≤most
 ·obtain⟨v,hv⟩:=ic26 h.body h.stm (IntKind.i64.wrap (most-n))
  refine⟨decide (IntKind.i64.wrap (n+v)≤most),icall_ret (v:=.bool (decide (IntKind.i64.wrap (n+v)≤most))) (H:=[]) (K:=[]) (by simp) (by simp) ?_ rfl rfl rfl⟩
  rw[call_eq (by decide) (by simp)]
  simp[PT.cs,Tryz.func15,Tryz.f15,envOf,ex_loop,firstReg,h1,g1,g2,g3,c1,hv,leave_pure]
 ·refine⟨false,icall_ret (v:=.bool false) (H:=[]) (K:=[]) (by simp) (by simp) ?_ rfl rfl rfl⟩
  rw[call_eq (by decide) (by simp)]
  simp[PT.cs,Tryz.func15,Tryz.f15,envOf,ex_loop,firstReg,h1,g1,g2,g3,c1,leave_pure]
end T
end
section
open Go Go.Proofs Go.Sym
namespace T
attribute [-simp] getElem?_pos
section
variable (P:PT) (t:Tab)
def hp5:List Blk:=[⟨3,[P.p.cs],.box⟩,⟨1,[[tabV t]],.box⟩]
def L5:AV:=.lst 1 [[tabV t]] .no
def S5c (i k:Nat) (l:List Row) (h:Nat) (p:Nat×Int):St:=⟨[(2,.ptr 0 0 0),(5,.int .i64 p.2),(12,L5 t),(13,.int .i64 1),(14,.int .i64 i),(26,tabV t),(27,.int .i64 t.length),(28,.int .i64 k),(40,.lst (szOf 3 (l.map Row.cs)) ((l.map Row.cs).take h) .no),(41,.int .i64 h),(42,.int .i64 p.1)],hp5 P t,[],0⟩
theorem loop5c (i k:Nat) (l:List Row) (hl:l.length≤1073741824) (h:Nat) (hh:h≤l.length) (n0:Int):∃o,(∀ s,s.gc [2,5,12,13,14,26,27,28,40,41,42] 2 0=S5c P t i k l h (0,n0)→loopE X 5 lb5_13 (St.gc [2,5,12,13,14,26,27,28,40,41,42] 2 0) s=some o)∧
  ∃e n,o= .exit 4 ⟨e,hp5 P t,[],0⟩∧get e 2= .ptr 0 0 0∧get e 5= .int .i64 n∧get e 12=L5 t∧get e 13= .int .i64 1∧get e 14= .int .i64 i∧get e 26=tabV t∧get e 27= .int .i64 t.length∧get e 28= .int .i64 k:=by
 refine loop_inv (S5c P t i k l h) (fun p=>p.1≤h) (fun p=>h-p.1) _ (fun p hp=>?_) (0,n0) (Nat.zero_le _)
 obtain⟨j,n⟩:=p
 simp only at hp
 have hmin:min h l.length=h:=Nat.min_eq_left hh
 by_cases hj:j < h
 ·right
  have hc:=List.getElem?_eq_getElem (show j < l.length by omega)
  have hw:=wrap_nat j (by omega)
  have hsz:szOf 3 (l.map Row.cs)=3:=by
   cases l with
   |nil=>simp at hh;omega
   |cons a q=>rfl
  have htk:(List.take h (List.map Row.cs l))[j]? =some (Row.cs l[j]):=by rw[List.getElem?_take,if_pos hj,List.getElem?_map,hc];rfl
  simp only[Row.cs_def,ints_def,int_def]at htk
  simp[lb5_13,Tryz.f5,S5c,hp5,L5,hj,hw,hc,hsz,htk,hmin]
  exact⟨j+1,by omega,by omega,by omega⟩
 ·left
  obtain rfl:j=h:=by omega
  simp[lb5_13,Tryz.f5,S5c,hp5,L5,stops]
def S5b (i:Nat) (p:Nat×Int):St:=⟨[(2,.ptr 0 0 0),(5,.int .i64 p.2),(12,L5 t),(13,.int .i64 1),(14,.int .i64 i),(26,tabV t),(27,.int .i64 t.length),(28,.int .i64 p.1)],hp5 P t,[],0⟩
theorem loop5b (ht:okTab t) (i:Nat) (n0:Int):∃o,(∀ s,s.gc [2,5,12,13,14,26,27,28] 2 0=S5b P t i (0,n0)→loopE X 5 lb5_9 (St.gc [2,5,12,13,14,26,27,28] 2 0) s=some o)∧
  ∃e n,o= .exit 2 ⟨e,hp5 P t,[],0⟩∧get e 2= .ptr 0 0 0∧get e 5= .int .i64 n∧get e 12=L5 t∧get e 13= .int .i64 1∧get e 14= .int .i64 i:=by
 refine loop_inv (S5b P t i) (fun p=>p.1≤t.length) (fun p=>t.length-p.1) _ (fun p hp=>?_) (0,n0) (Nat.zero_le _)
 obtain⟨k,n⟩:=p
 simp only at hp
 by_cases hk:k < t.length
 ·right
  have hc:=List.getElem?_eq_getElem hk
  have hl:=(ht.2 _ (List.getElem_mem hk)).1
  have hw:=wrap_nat k (by have:=ht.1;omega)
  generalize t[k]=l at hc hl
  have hor:(3=szOf 3 (List.map Row.cs l)∨l=[]):=by cases l <;> simp[szOf]
  by_cases h2:(2000:Int) < l.length
  ·have hb:2000≤l.length:=by omega
   have hb':(2000:Int)≤l.length:=by omega
   obtain⟨o,h1,e,n',rfl,g1,g2,g3,g4,g5,g6,g7,g8⟩:=loop5c P t i k l hl 2000 hb (IntKind.i64.wrap (n+l.length))
   simp only[lb5_13,Tryz.f5,S5c,hp5,L5,bodyOf_some,sub_seq0,sub_seq1,sub_block,sub_loop,sub_nil]at h1
   simp at h1
   have hm:min 2000 l.length=2000:=Nat.min_eq_left hb
   simp[lb5_9,Tryz.f5,S5b,hp5,L5,ex_loop,firstReg,hk,hw,hc,h2,hb,hb',hor,hm,h1,g1,g2,g3,g4,g5,g6,g7,g8]
   exact⟨k+1,by omega,by omega,by omega⟩
  ·obtain⟨o,h1,e,n',rfl,g1,g2,g3,g4,g5,g6,g7,g8⟩:=loop5c P t i k l hl l.length (Nat.le_refl _) (IntKind.i64.wrap (n+l.length))
   simp only[lb5_13,Tryz.f5,S5c,hp5,L5,bodyOf_some,sub_seq0,sub_seq1,sub_block,sub_loop,sub_nil]at h1
   simp at h1
   simp[lb5_9,Tryz.f5,S5b,hp5,L5,ex_loop,firstReg,hk,hw,hc,h2,hor,h1,g1,g2,g3,g4,g5,g6,g7,g8]
   exact⟨k+1,by omega,by omega,by omega⟩
 ·left
  obtain rfl:k=t.length:=by omega
  simp[lb5_9,Tryz.f5,S5b,hp5,L5,stops]
end
end T
end
section
open Go Go.Proofs Go.Sym
namespace T
attribute [-simp] getElem?_pos
section
variable (P:PT) (t:Tab)
def S5a (p:Nat×Int):St:=⟨[(2,.ptr 0 0 0),(5,.int .i64 p.2),(12,L5 t),(13,.int .i64 1),(14,.int .i64 p.1)],[⟨3,[P.p.cs],.box⟩],[],0⟩
theorem loop5a (ht:okTab t):∃o,(∀ s,s.gc [2,5,12,13,14] 1 0=S5a P t (0,0)→loopE X 5 lb5_3 (St.gc [2,5,12,13,14] 1 0) s=some o)∧
  ((∃ e n,o= .exit 0 ⟨e,[⟨3,[P.p.cs],.box⟩],[],0⟩∧get e 2= .ptr 0 0 0∧get e 5= .int .i64 n)∨∃e b,o= .ret ⟨(4,.bool false)::e,b,[],0⟩):=by
 refine loop_inv (S5a P t) (fun p=>p.1≤1) (fun p=>1-p.1) _ (fun p hp=>?_) (0,0) (by simp)
 obtain⟨i,n⟩:=p
 simp only at hp
 obtain rfl |rfl:i=0∨i=1:=by omega
 ·by_cases h2:(2000:Int) < IntKind.i64.wrap (n+t.length)
  ·left
   simp[lb5_3,Tryz.f5,S5a,L5,stops,h2]
  ·right
   obtain⟨o,h1,e,n',rfl,g1,g2,g3,g4,g5⟩:=loop5b P t ht 0 (IntKind.i64.wrap (n+t.length))
   simp only[lb5_9,Tryz.f5,S5b,hp5,L5,bodyOf_some,sub_seq0,sub_seq1,sub_block,sub_loop,sub_nil]at h1 g3
   simp at h1
   have hw:=wrap_nat 0 (by omega)
   simp at hw
   simp[lb5_3,Tryz.f5,S5a,L5,hp5,ex_loop,firstReg,h2,h1,g1,g2,g3,g4,g5,hw]
   exact⟨1,by omega,by omega,by omega⟩
 ·left
  simp[lb5_3,Tryz.f5,S5a,L5,stops]
theorem ic5 (hP:P.Ok) (ht:okTab t):∃b,icall X (call X) 5 [.agg P.p.cs,.lst 1 [[.lst (szOf 1 (t.map rowsC)) (t.map rowsC) .no]] .no]=some (.ret (.bool b)):=by
 obtain⟨o,h1,h2⟩:=loop5a P t ht
 simp only[lb5_3,Tryz.f5,S5a,L5,bodyOf_some,sub_seq0,sub_seq1,sub_block,sub_loop,sub_nil]at h1
 simp at h1
 rcases h2 with⟨e,n,rfl,g1,g2⟩ |⟨e,b,rfl⟩
 ·by_cases c:n≤2000
  ·obtain⟨b,hb⟩:=ic15 P hP 3000
   simp at hb
   refine⟨b,icall_ret (v:=.bool b) (H:=[]) (K:=[]) (by simp) (by simp) ?_ rfl rfl rfl⟩
   rw[call_eq (by decide) (by simp)]
   simp[Tryz.func5,Tryz.f5,envOf,ex_loop,firstReg,h1,g1,g2,c,hb,leave_pure]
  ·refine⟨false,icall_ret (v:=.bool false) (H:=[]) (K:=[]) (by simp) (by simp) ?_ rfl rfl rfl⟩
   rw[call_eq (by decide) (by simp)]
   simp[Tryz.func5,Tryz.f5,envOf,ex_loop,firstReg,h1,g1,g2,c,leave_pure]
 ·refine⟨false,icall_ret (v:=.bool false) (H:=[]) (K:=[]) (by simp) (by simp) ?_ rfl rfl rfl⟩
  rw[call_eq (by decide) (by simp)]
  simp[Tryz.func5,Tryz.f5,envOf,ex_loop,firstReg,h1,leave_pure]
end
end T
end
section
open Go Go.Proofs Go.Sym
namespace T
attribute [-simp] getElem?_pos
theorem ic137 (l:Lin) (hl:okLin l):icall X (call X) 137 [.agg [.lst (szOf 1 (l.C.map intC)) (l.C.map intC) .no,.int .i64 l.K]]=some (.ret (.agg [.lst (szOf 1 (l.C.map intC)) (l.C.map intC) .no,.int .i64 l.K])):=by
 simp only[okLin]at hl
 refine icall_ret (v:=.agg [.lst 1 (l.C.map intC) (.tok 0),.int .i64 l.K]) (H:=[]) (K:=[l.C.length]) (by simp) (by simp) ?_ rfl rfl (by simp)
 rw[call_eq (by decide) (by simp)]
 simp[Tryz.func137,Tryz.f137,envOf,hl,leave_pure]
theorem take_snoc {α β:Type} (f:α→β) (l:List α) (i:Nat) (x:α) (h:l[i]? =some x):(l.map f).take (i+1)=(l.map f).take i++[f x]:=by rw[List.take_add_one,List.getElem?_map,h];rfl
def S106 (A:Int) (subs:List Lin) (i:Nat):St:=⟨[(2,.ptr 1 0 0),(3,.ptr 2 0 0),(10,lst 2 (subs.map Lin.cs)),(11,.int .i64 subs.length),(12,.int .i64 i)],
 [⟨2,[[.int .i64 A,lst 2 (subs.map Lin.cs)]],.box⟩,⟨2,[[.int .i64 0,.lst 0 [] .nil]],.box⟩,⟨2,[[.int .i64 A,.lst 2 ((subs.map Lin.cs).take i) (.tok 0)]],.box⟩],[i],0⟩
theorem loop106 (A:Int) (subs:List Lin) (h:okLins subs):∃o,(∀ s,s.gc [2,3,10,11,12] 3 1=S106 A subs 0→loopE X 106 lb106_3 (St.gc [2,3,10,11,12] 3 1) s=some o)∧
  ∃e,o= .exit 0 ⟨e,[⟨2,[[.int .i64 A,lst 2 (subs.map Lin.cs)]],.box⟩,⟨2,[[.int .i64 0,.lst 0 [] .nil]],.box⟩,⟨2,[[.int .i64 A,.lst 2 (subs.map Lin.cs) (.tok 0)]],.box⟩],[subs.length],0⟩∧get e 2= .ptr 1 0 0∧get e 3= .ptr 2 0 0:=by
 refine loop_unit subs.length (S106 A subs) _ (by simp[lb106_3,Tryz.f106,S106,stops]) fun i hi=>?_
 have hc:=List.getElem?_eq_getElem hi
 have hlen:=h.1
 have hw:=wrap_nat i (by omega)
 have h137:=ic137 subs[i] (h.2 _ (List.getElem_mem hi))
 have htk:=take_snoc Lin.cs subs i _ hc
 have hmin:min i subs.length=i:=Nat.min_eq_left (by omega)
 have hb:i≤1073741823:=by omega
 simp only[Lin.cs_def,ints_def,int_def]at htk
 simp[lb106_3,Tryz.f106,S106,hi,hw,hc,h137,htk,hmin,hb]
theorem ic106 (A:Int) (subs:List Lin) (h:okLins subs):icall X (call X) 106 [.agg [.int .i64 A,.lst (szOf 2 (subs.map Lin.cs)) (subs.map Lin.cs) .no]]=some (.ret (.agg [.int .i64 A,.lst (szOf 2 (subs.map Lin.cs)) (subs.map Lin.cs) .no])):=by
 obtain⟨o,h1,e,rfl,g1,g2⟩:=loop106 A subs h
 simp only[lb106_3,Tryz.f106,S106,bodyOf_some,sub_seq0,sub_seq1,sub_block,sub_loop,sub_nil]at h1
 refine icall_ret (v:=.agg [.int .i64 A,.lst 2 (subs.map Lin.cs) (.tok 0)]) (H:=[]) (K:=[subs.length]) (by simp) (by simp) ?_ rfl rfl (by simp)
 rw[call_eq (by decide) (by simp)]
 simp[Tryz.func106,Tryz.f106,envOf,ex_loop,firstReg,h1,g1,g2,leave_pure]
end T
end
section
open Go Go.Proofs Go.Sym
namespace T
attribute [-simp] getElem?_pos
def S107 (op k:Int) (L:Lin) (A:Int) (subs:List Lin) (args:List Ex) (i:Nat):St:=⟨[(2,.ptr 1 0 0),(3,.ptr 2 0 0),(18,lst 7 (args.map Ex.cs)),(19,.int .i64 args.length),(20,.int .i64 i)],
 [⟨7,[Ex.cs (.mk op k L A subs args)],.box⟩,⟨7,[[.int .i64 0,.int .i64 0,.lst 0 [] .nil,.int .i64 0,.int .i64 0,.lst 0 [] .nil,.lst 0 [] .nil]],.box⟩,
  ⟨7,[[.int .i64 op,.int .i64 k,ints L.C,.int .i64 L.K,.int .i64 A,lst 2 (subs.map Lin.cs),.lst 7 ((args.map Ex.cs).take i) (.tok 0)]],.box⟩],[i],0⟩
theorem ic107 {e:Ex} (h:OkEx e):icall X (call X) 107 [.agg e.cs]=some (.ret (.agg e.cs)):=by
 induction h with
 | @mk op k L A subs args hL hs hl ha ih=>
  have hloop:∃o,(∀ s,s.gc [2,3,18,19,20] 3 1=S107 op k L A subs args 0→loopE X 107 lb107_3 (St.gc [2,3,18,19,20] 3 1) s=some o)∧
    ∃e,o= .exit 0 ⟨e,[⟨7,[Ex.cs (.mk op k L A subs args)],.box⟩,⟨7,[[.int .i64 0,.int .i64 0,.lst 0 [] .nil,.int .i64 0,.int .i64 0,.lst 0 [] .nil,.lst 0 [] .nil]],.box⟩,
     ⟨7,[[.int .i64 op,.int .i64 k,ints L.C,.int .i64 L.K,.int .i64 A,lst 2 (subs.map Lin.cs),.lst 7 (args.map Ex.cs) (.tok 0)]],.box⟩],[args.length],0⟩∧get e 2= .ptr 1 0 0∧get e 3= .ptr 2 0 0:=by
   refine loop_unit args.length (S107 op k L A subs args) _ (by simp[lb107_3,Tryz.f107,S107,stops]) fun i hi=>?_
   have hc:=List.getElem?_eq_getElem hi
   have hw:=wrap_nat i (by omega)
   have hia:=ih args[i] (List.getElem_mem hi)
   have htk:=take_snoc Ex.cs args i _ hc
   generalize args[i]=a at hc hia htk
   have hmin:min i args.length=i:=Nat.min_eq_left (by omega)
   have hb:i≤1073741823:=by omega
   obtain⟨op',k',L',A',subs',args'⟩:=a
   simp at hia
   simp only[Ex.cs_mk,ints_def,lst_def]at htk
   simp[lb107_3,Tryz.f107,S107,hi,hw,hc,hia,htk,hmin,hb]
  obtain⟨o,h1,e,rfl,g1,g2⟩:=hloop
  simp only[lb107_3,Tryz.f107,S107,bodyOf_some,sub_seq0,sub_seq1,sub_block,sub_loop,sub_nil]at h1
  have h137:=ic137 L hL
  have h106:=ic106 A subs hs
  refine icall_ret (v:=.agg [.int .i64 op,.int .i64 k,ints L.C,.int .i64 L.K,.int .i64 A,lst 2 (subs.map Lin.cs),.lst 7 (args.map Ex.cs) (.tok 0)]) (H:=[]) (K:=[args.length]) (by simp) (by simp) ?_ rfl rfl (by simp)
  rw[call_eq (by decide) (by simp)]
  simp[Tryz.func107,Tryz.f107,envOf,ex_loop,firstReg,h137,h106,h1,g1,g2,leave_pure]
end T
end
section
open Go Go.Proofs Go.Sym
namespace T
attribute [-simp] getElem?_pos
def hp104 (t:Tab) (i:Nat):List Blk:=[⟨1,[[tabV t]],.box⟩,⟨1,[[.lst 0 [] .nil]],.box⟩,⟨1,[[.lst 1 ((t.map rowsC).take i) (.tok 0)]],.box⟩]
def S104b (t:Tab) (i:Nat) (l:List Row) (j:Nat):St:=⟨[(2,.ptr 1 0 0),(3,.ptr 2 0 0),(6,.lst 3 ((l.map Row.cs).take j) (.tok 1)),(10,tabV t),(11,.int .i64 t.length),(12,.int .i64 i),(16,rowsV l),(17,.int .i64 l.length),(18,.int .i64 j)],hp104 t i,[i,j],0⟩
theorem loop104b (t:Tab) (i:Nat) (l:List Row) (hl:l.length≤1073741823) (hr:∀r ∈ l,okLin r.L):∃o,(∀ s,s.gc [2,3,6,10,11,12,16,17,18] 3 2=S104b t i l 0→loopE X 104 lb104_7 (St.gc [2,3,6,10,11,12,16,17,18] 3 2) s=some o)∧
  ∃e,o= .exit 2 ⟨e,hp104 t i,[i,l.length],0⟩∧get e 2= .ptr 1 0 0∧get e 3= .ptr 2 0 0∧get e 6= .lst 3 (l.map Row.cs) (.tok 1)∧get e 10=tabV t∧get e 11= .int .i64 t.length∧get e 12= .int .i64 i:=by
 refine loop_unit l.length (S104b t i l) _ (by simp[lb104_7,Tryz.f104,S104b,hp104,stops]) fun j hj=>?_
 have hc:=List.getElem?_eq_getElem hj
 have hw:=wrap_nat j (by omega)
 have h137:=ic137 l[j].L (hr _ (List.getElem_mem hj))
 have htk:=take_snoc Row.cs l j _ hc
 have hmin:min j l.length=j:=Nat.min_eq_left (by omega)
 have hb:j≤1073741823:=by omega
 simp only[Row.cs_def,ints_def,int_def]at htk
 simp[lb104_7,Tryz.f104,S104b,hp104,hj,hw,hc,h137,htk,hmin,hb]
def S104a (t:Tab) (i:Nat):St:=⟨[(2,.ptr 1 0 0),(3,.ptr 2 0 0),(10,tabV t),(11,.int .i64 t.length),(12,.int .i64 i)],hp104 t i,[i],0⟩
theorem ic104 (t:Tab) (h:okTab' t):icall X (call X) 104 [.agg [.lst (szOf 1 (t.map rowsC)) (t.map rowsC) .no]]=some (.ret (.agg [.lst (szOf 1 (t.map rowsC)) (t.map rowsC) .no])):=by
 have hloop:∃o,(∀ s,s.gc [2,3,10,11,12] 3 1=S104a t 0→loopE X 104 lb104_3 (St.gc [2,3,10,11,12] 3 1) s=some o)∧
   ∃e,o= .exit 0 ⟨e,[⟨1,[[tabV t]],.box⟩,⟨1,[[.lst 0 [] .nil]],.box⟩,⟨1,[[.lst 1 (t.map rowsC) (.tok 0)]],.box⟩],[t.length],0⟩∧get e 2= .ptr 1 0 0∧get e 3= .ptr 2 0 0:=by
  refine loop_unit t.length (S104a t) _ (by simp[lb104_3,Tryz.f104,S104a,hp104,stops]) fun i hi=>?_
  have hc:=List.getElem?_eq_getElem hi
  have hlen:=h.1
  have hw:=wrap_nat i (by omega)
  obtain⟨hl,hr⟩:=h.2 t[i] (List.getElem_mem hi)
  have htk:=take_snoc rowsC t i _ hc
  obtain⟨o,h1,e,rfl,g1,g2,g3,g4,g5,g6⟩:=loop104b t i t[i] hl hr
  generalize t[i]=l at*
  simp only[lb104_7,Tryz.f104,S104b,hp104,bodyOf_some,sub_seq0,sub_seq1,sub_block,sub_loop,sub_nil]at h1
  simp at h1
  have hmin:min i t.length=i:=Nat.min_eq_left (by omega)
  have hb:i≤1073741823:=by omega
  simp only[rowsC_def,rowsV_def]at htk
  simp[lb104_3,Tryz.f104,S104a,hp104,ex_loop,firstReg,hi,hw,hc,h1,g1,g2,g3,g4,g5,g6,htk,hmin,hb]
 obtain⟨o,h1,e,rfl,g1,g2⟩:=hloop
 simp only[lb104_3,Tryz.f104,S104a,hp104,bodyOf_some,sub_seq0,sub_seq1,sub_block,sub_loop,sub_nil]at h1
 refine icall_ret (v:=.agg [.lst 1 (t.map rowsC) (.tok 0)]) (H:=[]) (K:=[t.length]) (by simp) (by simp) ?_ rfl rfl (by simp)
 rw[call_eq (by decide) (by simp)]
 simp[Tryz.func104,Tryz.f104,envOf,ex_loop,firstReg,h1,g1,g2,leave_pure]
end T
end
section
open Go Go.Proofs Go.Sym
namespace T
attribute [-simp] getElem?_pos
def cs1 (c:Cnd):List AV:=[.int .i64 c.kind,.int .i64 c.m,.lst 1 (c.L.C.map intC) .no,.int .i64 c.L.K]
theorem cs1_def (c:Cnd):cs1 c=[.int .i64 c.kind,.int .i64 c.m,.lst 1 (c.L.C.map intC) .no,.int .i64 c.L.K]:=Eq.trans rfl rfl
def z105:List AV:=[.int .i64 0,.int .i64 0,.lst 0 [] .nil,.int .i64 0]
theorem z105_def:z105=[.int .i64 0,.int .i64 0,.lst 0 [] .nil,.int .i64 0]:=Eq.trans rfl rfl
theorem nm1 (l:List Cnd):(l.map cs1).map normL=l.map Cnd.cs:=by
 rw[List.map_map]
 exact List.map_congr_left fun c _=>by simp[cs1]
theorem szOf_cs1 (n:Nat) (l:List Cnd):szOf n (l.map cs1)=szOf n (l.map Cnd.cs):=szOf_ext _ _ _ (by simp)
def S105 (P:List Cnd) (i:Nat):St:=⟨[(3,.win 0 0 P.length (some P.length)),(9,lst 4 (P.map Cnd.cs)),(10,.int .i64 P.length),(11,.int .i64 i)],[⟨4,part (P.map cs1) z105 i,.data⟩],[],0⟩
theorem ic105 (P:List Cnd) (h:P.length≤1073741823∧∀c ∈ P,okLin c.L):icall X (call X) 105 [.lst (szOf 4 (P.map Cnd.cs)) (P.map Cnd.cs) .no]=some (.ret (.lst (szOf 4 (P.map Cnd.cs)) (P.map Cnd.cs) .no)):=by
 have hpf:part (P.map cs1) z105 P.length=P.map cs1:=by
  have:=part_full (P.map cs1) z105
  rwa[List.length_map]at this
 have hloop:∃o,(∀ s,s.gc [3,9,10,11] 1 0=S105 P 0→loopE X 105 lb105_3 (St.gc [3,9,10,11] 1 0) s=some o)∧
   ∃e,o= .exit 0 ⟨e,[⟨4,P.map cs1,.data⟩],[],0⟩∧get e 3= .win 0 0 P.length (some P.length):=by
  refine loop_unit P.length (S105 P) _ (by simp[lb105_3,Tryz.f105,S105,hpf,stops]) fun i hi=>?_
  have hc:=List.getElem?_eq_getElem hi
  have hlen:=h.1
  have hw:=wrap_nat i (by omega)
  have hC:=h.2 _ (List.getElem_mem hi)
  simp only[okLin]at hC
  have hz:(part (P.map cs1) z105 i)[i]? =some [.int .i64 0,.int .i64 0,.lst 0 [] .nil,.int .i64 0]:=by rw[part_get,if_neg (by omega),if_pos (by simp;omega),z105_def]
  have hs:(part (P.map cs1) z105 i).set i (cs1 P[i])=part (P.map cs1) z105 (i+1):=part_set _ _ _ _ (by simp[hc])
  simp only[cs1_def P[i]]at hs
  simp[-List.map_set,lb105_3,Tryz.f105,S105,hi,hw,hc,hC,hz,hs]
 obtain⟨o,h1,e,rfl,g1⟩:=hloop
 simp only[lb105_3,Tryz.f105,S105,bodyOf_some,sub_seq0,sub_seq1,sub_block,sub_loop,sub_nil,part_zero,List.length_map]at h1
 have hb:P.length≤1073741824:=by have:=h.1;omega
 have hn1:=nm1 P
 refine icall_ret (v:=.lst (szOf 4 (P.map Cnd.cs)) (P.map Cnd.cs) .no) (H:=[]) (K:=[]) (by simp) (by simp) ?_ rfl rfl (by simp)
 rw[call_eq (by decide) (by simp)]
 simp[-List.map_map,Tryz.func105,Tryz.f105,envOf,ex_loop,firstReg,h1,g1,z105,hb,hn1,szOf_cs1,leave_pure]
end T
end
section
open Go Go.Proofs Go.Sym
namespace T
attribute [-simp] getElem?_pos
def C62 (s:Stm):Prop:=icall X (call X) 62 [.agg s.cs]=some (.ret (.agg s.cs))
def S108 (l:List Stm) (i:Nat):St:=⟨[(3,.lst 19 ((l.map Stm.cs).take i) (.tok 0)),(6,lst 19 (l.map Stm.cs)),(7,.int .i64 l.length),(8,.int .i64 i)],[],[i],0⟩
theorem ic108 (l:List Stm) (hl:l.length≤1073741823) (h:∀s ∈ l,C62 s):icall X (call X) 108 [.lst (szOf 19 (l.map Stm.cs)) (l.map Stm.cs) .no]=some (.ret (.lst (szOf 19 (l.map Stm.cs)) (l.map Stm.cs) .no)):=by
 have hloop:∃o,(∀ s,s.gc [3,6,7,8] 0 1=S108 l 0→loopE X 108 lb108_3 (St.gc [3,6,7,8] 0 1) s=some o)∧∃e,o= .exit 0 ⟨e,[],[l.length],0⟩∧get e 3= .lst 19 (l.map Stm.cs) (.tok 0):=by
  refine loop_unit l.length (S108 l) _ (by simp[lb108_3,Tryz.f108,S108,stops]) fun i hi=>?_
  have hc:=List.getElem?_eq_getElem hi
  have hw:=wrap_nat i (by omega)
  have hia:=h l[i] (List.getElem_mem hi)
  have htk:=take_snoc Stm.cs l i _ hc
  generalize l[i]=s at hc hia htk
  have hmin:min i l.length=i:=Nat.min_eq_left (by omega)
  have hb:i≤1073741823:=by omega
  obtain⟨kind,name,low,high,step,mark,dim,pieces,tA,tS,val,body,els⟩:=s
  obtain⟨op,k,L,rA,subs,args⟩:=val
  unfold C62 at hia
  simp only[Stm.cs_mk,ints_def,lst_def,tabV_def]at htk hia
  simp[lb108_3,Tryz.f108,S108,hi,hw,hc,hia,htk,hmin,hb]
 obtain⟨o,h1,e,rfl,g1⟩:=hloop
 simp only[lb108_3,Tryz.f108,S108,bodyOf_some,sub_seq0,sub_seq1,sub_block,sub_loop,sub_nil]at h1
 refine icall_ret (v:=.lst 19 (l.map Stm.cs) (.tok 0)) (H:=[]) (K:=[l.length]) (by simp) (by simp) ?_ rfl rfl (by simp)
 rw[call_eq (by decide) (by simp)]
 simp[Tryz.func108,Tryz.f108,envOf,ex_loop,firstReg,h1,g1,leave_pure]
def z62:List AV:=[.int .i64 0,.str ⟨#[]⟩,.lst 0 [] .nil,.lst 0 [] .nil,.int .i64 0,.int .i64 0,.int .i64 0,.lst 0 [] .nil,.int .i64 0,.lst 0 [] .nil,.int .i64 0,.int .i64 0,.lst 0 [] .nil,.int .i64 0,.int .i64 0,.lst 0 [] .nil,.lst 0 [] .nil,.lst 0 [] .nil,.lst 0 [] .nil]
section
variable (A B:AV) (c0 c1 c2 c3 c4 c5 c6 c8 c9 d0 d1 d2 d3 d4 d5 d6 c17 c18:AV)
def S62 (b0:Blk) (row:AV→List AV) (P:List (List Cnd)) (i:Nat):St:=⟨[(1,.ptr 0 0 0),(2,.ptr 1 0 0),(3,.ptr 2 0 0),(22,lst 1 (P.map pieC)),(23,.int .i64 P.length),(24,.int .i64 i)],[b0,⟨19,[z62],.box⟩,⟨19,[row (.lst 1 ((P.map pieC).take i) (.tok 0))],.box⟩],[i],0⟩
end
theorem ic62 (kind:Int) (name:ByteArray) (low high:Tab) (step mark dim:Int) (pieces:List (List Cnd)) (tA:Int) (tS:List Lin) (op k:Int) (L:Lin) (rA:Int) (subs:List Lin) (args:List Ex) (body els:List Stm)
  (h2:okTab' low) (h3:okTab' high) (h4:okPie pieces) (h5:okLins tS) (h6:OkEx (.mk op k L rA subs args))
  (hB:icall X (call X) 108 [.lst (szOf 19 (body.map Stm.cs)) (body.map Stm.cs) .no]=some (.ret (.lst (szOf 19 (body.map Stm.cs)) (body.map Stm.cs) .no)))
  (hE:icall X (call X) 108 [.lst (szOf 19 (els.map Stm.cs)) (els.map Stm.cs) .no]=some (.ret (.lst (szOf 19 (els.map Stm.cs)) (els.map Stm.cs) .no))):
  C62 (.mk kind name low high step mark dim pieces tA tS (.mk op k L rA subs args) body els):=by
 have hLow:=ic104 low h2
 have hHigh:=ic104 high h3
 have h106:=ic106 tA tS h5
 have h107:=ic107 h6
 simp at h107
 generalize hrow:(fun c7:AV=>[.int .i64 kind,.str name,tabV low,tabV high,.int .i64 step,.int .i64 mark,.int .i64 dim,c7,.int .i64 tA,lst 2 (tS.map Lin.cs),
   .int .i64 op,.int .i64 k,ints L.C,.int .i64 L.K,.int .i64 rA,lst 2 (subs.map Lin.cs),lst 7 (args.map Ex.cs),lst 19 (body.map Stm.cs),lst 19 (els.map Stm.cs)])=row
 have hloop:∃o,(∀ s,s.gc [1,2,3,22,23,24] 3 1=S62 ⟨19,[Stm.cs (.mk kind name low high step mark dim pieces tA tS (.mk op k L rA subs args) body els)],.box⟩ row pieces 0→loopE X 62 lb62_5 (St.gc [1,2,3,22,23,24] 3 1) s=some o)∧
   ∃e,o= .exit 0 ⟨e,[⟨19,[Stm.cs (.mk kind name low high step mark dim pieces tA tS (.mk op k L rA subs args) body els)],.box⟩,⟨19,[z62],.box⟩,⟨19,[row (.lst 1 (pieces.map pieC) (.tok 0))],.box⟩],[pieces.length],0⟩∧get e 1= .ptr 0 0 0∧get e 2= .ptr 1 0 0∧get e 3= .ptr 2 0 0:=by
  refine loop_unit pieces.length (S62 _ row pieces) _ (by simp[lb62_5,Tryz.f62,S62,stops]) fun i hi=>?_
  have hc:=List.getElem?_eq_getElem hi
  have hlen:=h4.1
  have hw:=wrap_nat i (by omega)
  have h105:=ic105 pieces[i] (h4.2 _ (List.getElem_mem hi))
  have htk:=take_snoc pieC pieces i _ hc
  have hmin:min i pieces.length=i:=Nat.min_eq_left (by omega)
  have hb:i≤1073741823:=by omega
  simp only[pieC_def,lst_def]at htk
  subst hrow
  simp[lb62_5,Tryz.f62,S62,z62,hi,hw,hc,h105,htk,hmin,hb]
 obtain⟨o,h1,e,rfl,g1,g2,g3⟩:=hloop
 subst hrow
 simp only[lb62_5,Tryz.f62,S62,bodyOf_some,sub_seq0,sub_seq1,sub_block,sub_loop,sub_nil]at h1
 unfold C62
 refine icall_ret (v:=.agg [.int .i64 kind,.str name,tabV low,tabV high,.int .i64 step,.int .i64 mark,.int .i64 dim,.lst 1 (pieces.map pieC) (.tok 0),.int .i64 tA,lst 2 (tS.map Lin.cs),
   .int .i64 op,.int .i64 k,ints L.C,.int .i64 L.K,.int .i64 rA,lst 2 (subs.map Lin.cs),lst 7 (args.map Ex.cs),lst 19 (body.map Stm.cs),lst 19 (els.map Stm.cs)]) (H:=[]) (K:=[pieces.length]) (by simp) (by simp) ?_ rfl rfl (by simp)
 rw[call_eq (by decide) (by simp)]
 simp[Tryz.func62,Tryz.f62,envOf,ex_loop,firstReg,z62,hLow,hHigh,h1,g1,g2,g3,h106,h107,hB,hE,leave_pure]
theorem copy_ok {s:Stm} (h:OkStm s):C62 s:=by
 induction h with
 | @mk kind name low high step mark dim pieces tA tS val body els h1 h2 h3 h4 h5 h6 h7 h8 h9 h10 ih1 ih2=>
  obtain⟨op,k,L,rA,subs,args⟩:=val
  exact ic62 kind name low high step mark dim pieces tA tS op k L rA subs args body els h2 h3 h4 h5 h6 (ic108 body h7 ih1) (ic108 els h8 ih2)
end T
end
section
open Go Go.Proofs Go.Sym
namespace T
attribute [-simp] getElem?_pos
theorem pl163:placeF Tryz.prog 163=some (plc []):=by kernel_rfl
theorem ic133_t:icall X (call X) 133 [.bool true]=some (.ret (.tup [])):=by
 refine icall_ret (v:=.tup []) (H:=[]) (K:=[]) (by simp) (by simp) ?_ rfl rfl (by simp)
 rw[call_eq (by decide) (by simp)]
 simp[Tryz.func133,Tryz.f133,envOf,leave_pure]
theorem ic133_f:icall X (call X) 133 [.bool false]=some (.panic (.iface 163 (.agg []))):=by
 refine icall_panic (H:=[]) (K:=[]) (by simp) ?_ rfl
 rw[call_eq (by decide) (by simp)]
 simp[Tryz.func133,Tryz.f133,envOf,pl163]
attribute [simp] ic133_t ic133_f
def over (n:Int) (l:Lin):Bool:=decide ((l.C.length:Int)=n)&&linValid l
theorem ic135 (l:Lin) (hl:okLin l) (n:Int):icall X (call X) 135 [.agg [.lst (szOf 1 (l.C.map intC)) (l.C.map intC) .no,.int .i64 l.K],.int .i64 n]=some (.ret (.bool (over n l))):=by
 have h:=ic116 l hl
 refine icall_ret (v:=.bool (over n l)) (H:=[]) (K:=[]) (by simp) (by simp) ?_ rfl rfl rfl
 rw[call_eq (by decide) (by simp)]
 by_cases c:(l.C.length:Int)=n
 ·simp[Tryz.func135,Tryz.f135,envOf,h,c,over,leave_pure]
 ·simp[Tryz.func135,Tryz.f135,envOf,h,c,over,leave_pure]
def plainLin (l:Lin):Bool:=decide (l.C.length=0)&&decide (l.K=0)
theorem ic207 (l:Lin):icall X (call X) 207 [.agg [.lst (szOf 1 (l.C.map intC)) (l.C.map intC) .no,.int .i64 l.K]]=some (.ret (.bool (plainLin l))):=by
 refine icall_ret (v:=.bool (plainLin l)) (H:=[]) (K:=[]) (by simp) (by simp) ?_ rfl rfl rfl
 rw[call_eq (by decide) (by simp)]
 by_cases c:l.C=[]
 ·simp[Tryz.func207,Tryz.f207,envOf,c,plainLin,leave_pure]
 ·simp[Tryz.func207,Tryz.f207,envOf,c,plainLin,leave_pure]
def plainRef (A:Int) (subs:List Lin):Bool:=decide (A=0)&&decide (subs.length=0)
theorem ic204 (A:Int) (subs:List Lin):icall X (call X) 204 [.agg [.int .i64 A,.lst (szOf 2 (subs.map Lin.cs)) (subs.map Lin.cs) .no]]=some (.ret (.bool (plainRef A subs))):=by
 refine icall_ret (v:=.bool (plainRef A subs)) (H:=[]) (K:=[]) (by simp) (by simp) ?_ rfl rfl rfl
 rw[call_eq (by decide) (by simp)]
 by_cases c:A=0
 ·simp[Tryz.func204,Tryz.f204,envOf,c,plainRef,leave_pure]
 ·simp[Tryz.func204,Tryz.f204,envOf,c,plainRef,leave_pure]
def plainEx:Ex→Bool
 | .mk op k L A subs args=>decide (op=0)&&decide (k=0)&&plainLin L&&plainRef A subs&&decide (args.length=0)
theorem ic205 (e:Ex):icall X (call X) 205 [.agg e.cs]=some (.ret (.bool (plainEx e))):=by
 obtain⟨op,k,L,A,subs,args⟩:=e
 have h1:=ic207 L
 have h2:=ic204 A subs
 refine icall_ret (v:=.bool (plainEx (.mk op k L A subs args))) (H:=[]) (K:=[]) (by simp) (by simp) ?_ rfl rfl rfl
 rw[call_eq (by decide) (by simp)]
 by_cases c1:op=0
 ·by_cases c2:k=0
  ·by_cases c3:plainLin L=true
   ·by_cases c4:plainRef A subs=true
    ·simp[Tryz.func205,Tryz.f205,envOf,c1,c2,c3,c4,h1,h2,plainEx,leave_pure]
    ·simp[Tryz.func205,Tryz.f205,envOf,c1,c2,c3,c4,h1,h2,plainEx,leave_pure]
   ·simp[Tryz.func205,Tryz.f205,envOf,c1,c2,c3,h1,plainEx,leave_pure]
  ·simp[Tryz.func205,Tryz.f205,envOf,c1,c2,plainEx,leave_pure]
 ·simp[Tryz.func205,Tryz.f205,envOf,c1,plainEx,leave_pure]
def unset (dim:Int) (P:List (List Cnd)):Bool:=decide (dim=0)&&decide (P.length=0)
theorem ic203 (dim:Int) (P:List (List Cnd)):icall X (call X) 203 [.agg [.int .i64 dim,.lst (szOf 1 (P.map pieC)) (P.map pieC) .no]]=some (.ret (.bool (unset dim P))):=by
 refine icall_ret (v:=.bool (unset dim P)) (H:=[]) (K:=[]) (by simp) (by simp) ?_ rfl rfl rfl
 rw[call_eq (by decide) (by simp)]
 by_cases c:dim=0
 ·simp[Tryz.func203,Tryz.f203,envOf,c,unset,leave_pure]
 ·simp[Tryz.func203,Tryz.f203,envOf,c,unset,leave_pure]
end T
end
section
open Go Go.Proofs Go.Sym
namespace T
theorem loop_all {α:Type} {X:Ctx} {f:FuncId} {lb:Code} {gc:St→St} (xs:List α) (S:Nat→St) (p:α→Bool) (Qe Qb:Out→Prop)
  (hend:∃o,ex X f lb (S xs.length)=some o∧stops o=true∧Qe o)
  (hstep:∀i x,xs[i]? =some x→i < xs.length→(p x=true→∃s',ex X f lb (S i)=some (.next s')∧gc s'=S (i+1))∧(p x=false→∃o,ex X f lb (S i)=some o∧stops o=true∧Qb o)):
  ∃o,(∀ s,gc s=S 0→loopE X f lb gc s=some o)∧((xs.all p=true∧Qe o)∨(xs.all p=false∧Qb o)):=by
 refine loop_inv S (fun i=>i≤xs.length∧(xs.take i).all p=true) (fun i=>xs.length-i) _ (fun i hI=>?_) 0 ⟨Nat.zero_le _,by simp⟩
 obtain⟨hi',ht⟩:=hI
 by_cases hi:i < xs.length
 ·have hx:=List.getElem?_eq_getElem hi
  obtain⟨h1,h2⟩:=hstep i _ hx hi
  cases hp:p xs[i]with
  |true=>
   right
   obtain⟨s',e1,e2⟩:=h1 hp
   refine⟨s',i+1,e1,e2,⟨hi,?_⟩,by omega⟩
   rw[List.take_add_one,hx,List.all_append,ht]
   simp[hp]
  |false=>
   left
   obtain⟨o,e1,e2,e3⟩:=h2 hp
   refine⟨o,e1,e2,.inr ⟨?_,e3⟩⟩
   rw[Bool.eq_false_iff]
   intro hall
   have:=List.all_eq_true.1 hall _ (List.getElem_mem hi)
   rw[hp]at this;cases this
 ·left
  obtain rfl:i=xs.length:=by omega
  rw[List.take_length]at ht
  obtain⟨o,e1,e2,e3⟩:=hend
  exact⟨o,e1,e2,.inl ⟨ht,e3⟩⟩
theorem loop_allI {α:Type} {X:Ctx} {f:FuncId} {lb:Code} {gc:St→St} (xs:List α) (S:Nat→St) (p:Nat→α→Prop) (Qe Qb:Out→Prop)
  (hend:∃o,ex X f lb (S xs.length)=some o∧stops o=true∧Qe o)
  (hstep:∀i x,xs[i]? =some x→i < xs.length→(p i x∧∃s',ex X f lb (S i)=some (.next s')∧gc s'=S (i+1))∨(¬ p i x∧∃o,ex X f lb (S i)=some o∧stops o=true∧Qb o)):
  ∃o,(∀ s,gc s=S 0→loopE X f lb gc s=some o)∧(((∀ i x,xs[i]? =some x→p i x)∧Qe o)∨((¬ ∀i x,xs[i]? =some x→p i x)∧Qb o)):=by
 refine loop_inv S (fun i=>i≤xs.length∧∀j x,j < i→xs[j]? =some x→p j x) (fun i=>xs.length-i) _ (fun i hI=>?_) 0 ⟨Nat.zero_le _,fun j x h=>absurd h (Nat.not_lt_zero _)⟩
 obtain⟨hi',ht⟩:=hI
 by_cases hi:i < xs.length
 ·have hx:=List.getElem?_eq_getElem hi
  rcases hstep i _ hx hi with⟨hp,s',e1,e2⟩ |⟨hp,o,e1,e2,e3⟩
  ·right
   refine⟨s',i+1,e1,e2,⟨hi,fun j x hj hjx=>?_⟩,by omega⟩
   by_cases e:j=i
   ·subst e;rw[hx]at hjx;cases hjx;exact hp
   ·exact ht j x (by omega) hjx
  ·left
   exact⟨o,e1,e2,.inr ⟨fun h=>hp (h i _ hx),e3⟩⟩
 ·left
  obtain rfl:i=xs.length:=by omega
  obtain⟨o,e1,e2,e3⟩:=hend
  exact⟨o,e1,e2,.inl ⟨fun j x h=>ht j x (List.getElem?_eq_some_iff.1 h).1 h,e3⟩⟩
end T
end
section
open Go Go.Proofs Go.Sym
namespace T
attribute [-simp] getElem?_pos
def Nd (b:Bool) (x:Option IRes):Prop:=(x=some (.ret (.tup []))∧b=true)∨(x=some (.panic (.iface 163 (.agg [])))∧b=false)
def okB (n:Int) (r:Row):Bool:=over n r.L&&decide (1≤r.D)&&decide (r.D≤512)
def okP (n:Int) (l:List Row):Bool:=decide (1≤l.length)&&decide (l.length≤96)&&l.all (okB n)
def bndB (n:Int) (t:Tab):Bool:=decide (1≤t.length)&&decide (t.length≤400)&&t.all (okP n)
section
variable (t:Tab) (n:Int)
def S202b (i:Nat) (l:List Row) (j:Nat):St:=⟨[(1,.int .i64 n),(20,tabV t),(21,.int .i64 t.length),(22,.int .i64 i),(35,rowsV l),(36,.int .i64 l.length),(37,.int .i64 j)],[⟨1,[[tabV t]],.box⟩],[],0⟩
theorem loop202b (i:Nat) (l:List Row) (hl:l.length≤1073741823) (hr:∀r ∈ l,okLin r.L):∃o,(∀ s,s.gc [1,20,21,22,35,36,37] 1 0=S202b t n i l 0→loopE X 202 lb202_7 (St.gc [1,20,21,22,35,36,37] 1 0) s=some o)∧
  ((l.all (okB n)=true∧∃e,o= .exit 2 ⟨e,[⟨1,[[tabV t]],.box⟩],[],0⟩∧get e 1= .int .i64 n∧get e 20=tabV t∧get e 21= .int .i64 t.length∧get e 22= .int .i64 i)∨(l.all (okB n)=false∧∃e b,o= .panic (.iface 163 (.agg [])) ⟨e,b,[],0⟩)):=by
 refine loop_all l (S202b t n i l) (okB n) _ _ (by simp[lb202_7,Tryz.f202,S202b,stops]) (fun j r hc hj=>?_)
 have hw:=wrap_nat j (by omega)
 have h135:=ic135 r.L (hr _ (List.mem_of_getElem? hc)) n
 unfold okB
 by_cases c1:over n r.L=true
 ·by_cases c2:(1:Int)≤r.D
  ·by_cases c3:r.D≤512
   ·refine⟨fun _=>?_,fun h=>by simp[c1,c2,c3]at h⟩
    simp[lb202_7,Tryz.f202,S202b,hj,hw,hc,h135,c1,c2,c3]
   ·refine⟨fun h=>by simp[c3]at h,fun _=>?_⟩
    simp[lb202_7,Tryz.f202,S202b,hj,hc,h135,c1,c2,c3,stops]
  ·refine⟨fun h=>by simp[c2]at h,fun _=>?_⟩
   simp[lb202_7,Tryz.f202,S202b,hj,hc,h135,c1,c2,stops]
 ·refine⟨fun h=>by simp[c1]at h,fun _=>?_⟩
  simp[lb202_7,Tryz.f202,S202b,hj,hc,h135,c1,stops]
def S202a (i:Nat):St:=⟨[(1,.int .i64 n),(20,tabV t),(21,.int .i64 t.length),(22,.int .i64 i)],[⟨1,[[tabV t]],.box⟩],[],0⟩
theorem loop202a (h:okTab' t):∃o,(∀ s,s.gc [1,20,21,22] 1 0=S202a t n 0→loopE X 202 lb202_3 (St.gc [1,20,21,22] 1 0) s=some o)∧
  ((t.all (okP n)=true∧∃e,o= .exit 0 ⟨e,[⟨1,[[tabV t]],.box⟩],[],0⟩)∨(t.all (okP n)=false∧∃e b,o= .panic (.iface 163 (.agg [])) ⟨e,b,[],0⟩)):=by
 refine loop_all t (S202a t n) (okP n) _ _ (by simp[lb202_3,Tryz.f202,S202a,stops]) (fun i l hc hi=>?_)
 have hw:=wrap_nat i (by have:=h.1;omega)
 obtain⟨hl,hr⟩:=h.2 l (List.mem_of_getElem? hc)
 obtain⟨o,h1,h2⟩:=loop202b t n i l hl hr
 simp only[lb202_7,Tryz.f202,S202b,bodyOf_some,sub_seq0,sub_seq1,sub_block,sub_loop,sub_nil]at h1
 simp at h1
 unfold okP
 by_cases c1:(1:Int)≤l.length
 ·have c1':1≤l.length:=by omega
  by_cases c2:(l.length:Int)≤96
  ·have c2':l.length≤96:=by omega
   rcases h2 with⟨hb,e,rfl,g1,g2,g3,g4⟩ |⟨hb,e,b,rfl⟩
   ·refine⟨fun _=>?_,fun h=>by simp[c1',c2',hb]at h⟩
    simp[lb202_3,Tryz.f202,S202a,hi,hw,hc,c1,c1',c2,c2',ex_loop,firstReg,h1,g1,g2,g3,g4]
   ·refine⟨fun h=>by simp[c1',c2',hb]at h,fun _=>?_⟩
    simp[lb202_3,Tryz.f202,S202a,hi,hc,c1,c1',c2,c2',ex_loop,firstReg,h1,stops]
  ·have c2': ¬l.length≤96:=by omega
   refine⟨fun h=>by simp[c2']at h,fun _=>?_⟩
   simp[lb202_3,Tryz.f202,S202a,hi,hc,c1,c1',c2,c2',stops]
 ·have c1': ¬1≤l.length:=by omega
  have c1'':l=[]:=List.length_eq_zero_iff.1 (by omega)
  subst c1''
  refine⟨fun h=>by simp at h,fun _=>?_⟩
  simp[lb202_3,Tryz.f202,S202a,hi,hc,stops]
theorem ic202 (h:okTab' t):Nd (bndB n t) (icall X (call X) 202 [.agg [.lst (szOf 1 (t.map rowsC)) (t.map rowsC) .no],.int .i64 n]):=by
 obtain⟨o,h1,h2⟩:=loop202a t n h
 simp only[lb202_3,Tryz.f202,S202a,bodyOf_some,sub_seq0,sub_seq1,sub_block,sub_loop,sub_nil]at h1
 simp at h1
 unfold bndB
 by_cases c1:(1:Int)≤t.length
 ·have c1':1≤t.length:=by omega
  by_cases c2:(t.length:Int)≤400
  ·have c2':t.length≤400:=by omega
   rcases h2 with⟨hb,e,rfl⟩ |⟨hb,e,b,rfl⟩
   ·left
    refine⟨icall_ret (v:=.tup []) (H:=[]) (K:=[]) (by simp) (by simp) ?_ rfl rfl rfl,by simp[c1',c2',hb]⟩
    rw[call_eq (by decide) (by simp)]
    simp[Tryz.func202,Tryz.f202,envOf,ex_loop,firstReg,h1,c1,c1',c2,c2',leave_pure]
   ·right
    refine⟨icall_panic (H:=[]) (K:=[]) (by simp) ?_ rfl,by simp[hb]⟩
    rw[call_eq (by decide) (by simp)]
    simp[Tryz.func202,Tryz.f202,envOf,ex_loop,firstReg,h1,c1,c1',c2,c2']
  ·have c2': ¬t.length≤400:=by omega
   right
   refine⟨icall_panic (H:=[]) (K:=[]) (by simp) ?_ rfl,by simp[c2']⟩
   rw[call_eq (by decide) (by simp)]
   simp[Tryz.func202,Tryz.f202,envOf,c1,c1',c2,c2']
 ·have c1'':t=[]:=List.length_eq_zero_iff.1 (by omega)
  subst c1''
  right
  refine⟨icall_panic (H:=[]) (K:=[]) (by simp) ?_ rfl,by simp⟩
  rw[call_eq (by decide) (by simp)]
  simp[Tryz.func202,Tryz.f202,envOf]
end
end T
end
section
open Go Go.Proofs Go.Sym
namespace T
attribute [-simp] getElem?_pos
def cndB (c:Cnd):Bool:=((decide (c.kind=0)||decide (c.kind=1))&&decide (c.m=0)||decide (c.kind=2)&&decide (1≤c.m)&&decide (c.m≤512))&&linValid c.L
theorem ic212 (c:Cnd) (h:okLin c.L):icall X (call X) 212 [.agg [.int .i64 c.kind,.int .i64 c.m,.lst (szOf 1 (c.L.C.map intC)) (c.L.C.map intC) .no,.int .i64 c.L.K]]=some (.ret (.bool (cndB c))):=by
 have h116:=ic116 c.L h
 have fin:∀b,call X 212 [.agg c.cs] [] []=some (.ret (.bool b),[],[])→cndB c=b→icall X (call X) 212 [.agg [.int .i64 c.kind,.int .i64 c.m,.lst (szOf 1 (c.L.C.map intC)) (c.L.C.map intC) .no,.int .i64 c.L.K]]=some (.ret (.bool (cndB c))):=fun b h e=>by rw[e];exact icall_ret (by simp) (by simp) h rfl rfl rfl
 by_cases k0:c.kind=0
 ·by_cases m0:c.m=0
  ·refine fin (linValid c.L) ?_ (by simp[cndB,k0,m0])
   rw[call_eq (by decide) (by simp)]
   simp[Tryz.func212,Tryz.f212,envOf,k0,m0,h116,leave_pure]
  ·refine fin false ?_ (by simp[cndB,k0,m0])
   rw[call_eq (by decide) (by simp)]
   simp[Tryz.func212,Tryz.f212,envOf,k0,m0,leave_pure]
 ·by_cases k1:c.kind=1
  ·by_cases m0:c.m=0
   ·refine fin (linValid c.L) ?_ (by simp[cndB,k1,m0])
    rw[call_eq (by decide) (by simp)]
    simp[Tryz.func212,Tryz.f212,envOf,k1,m0,h116,leave_pure]
   ·refine fin false ?_ (by simp[cndB,k1,m0])
    rw[call_eq (by decide) (by simp)]
    simp[Tryz.func212,Tryz.f212,envOf,k1,m0,leave_pure]
  ·by_cases k2:c.kind=2
   ·by_cases m1:1≤c.m
    ·by_cases m2:c.m≤512
     ·refine fin (linValid c.L) ?_ (by simp[cndB,k2,m1,m2])
      rw[call_eq (by decide) (by simp)]
      simp[Tryz.func212,Tryz.f212,envOf,k2,m1,m2,h116,leave_pure]
     ·refine fin false ?_ (by simp[cndB,k2,m2])
      rw[call_eq (by decide) (by simp)]
      simp[Tryz.func212,Tryz.f212,envOf,k2,m1,m2,leave_pure]
    ·refine fin false ?_ (by simp[cndB,k2,m1])
     rw[call_eq (by decide) (by simp)]
     simp[Tryz.func212,Tryz.f212,envOf,k2,m1,leave_pure]
   ·refine fin false ?_ (by simp[cndB,k0,k1,k2])
    rw[call_eq (by decide) (by simp)]
    simp[Tryz.func212,Tryz.f212,envOf,k0,k1,k2,leave_pure]
def cndN (n:Int) (c:Cnd):Bool:=cndB c&&decide ((c.L.C.length:Int)=n)
def S211 (P:List Cnd) (n:Int) (i:Nat):St:=⟨[(1,.int .i64 n),(7,lst 4 (P.map Cnd.cs)),(8,.int .i64 P.length),(9,.int .i64 i)],[],[],0⟩
theorem ic211 (P:List Cnd) (h:P.length≤1073741823∧∀c ∈ P,okLin c.L) (n:Int):icall X (call X) 211 [.lst (szOf 4 (P.map Cnd.cs)) (P.map Cnd.cs) .no,.int .i64 n]=some (.ret (.bool (P.all (cndN n)))):=by
 have hloop:∃o,(∀ s,s.gc [1,7,8,9] 0 0=S211 P n 0→loopE X 211 lb211_2 (St.gc [1,7,8,9] 0 0) s=some o)∧((P.all (cndN n)=true∧∃e,o= .exit 0 ⟨e,[],[],0⟩)∨(P.all (cndN n)=false∧∃e b,o= .ret ⟨(4,.bool false)::e,b,[],0⟩)):=by
  refine loop_all P (S211 P n) (cndN n) _ _ (by simp[lb211_2,Tryz.f211,S211,stops]) (fun i c hc hi=>?_)
  have hw:=wrap_nat i (by have:=h.1;omega)
  have hb:=ic212 c (h.2 _ (List.mem_of_getElem? hc))
  unfold cndN
  cases hv:cndB c with
  |false=>refine⟨fun h=>by simp at h,fun _=>?_⟩;rw[hv]at hb;simp[lb211_2,Tryz.f211,S211,hi,hc,hb,stops]
  |true=>
   rw[hv]at hb
   by_cases c1:(c.L.C.length:Int)=n
   ·refine⟨fun _=>?_,fun h=>by simp[c1]at h⟩
    simp[lb211_2,Tryz.f211,S211,hi,hw,hc,hb,c1]
   ·refine⟨fun h=>by simp[c1]at h,fun _=>?_⟩
    simp[lb211_2,Tryz.f211,S211,hi,hc,hb,c1,stops]
 obtain⟨o,h1,h2⟩:=hloop
 simp only[lb211_2,Tryz.f211,S211,bodyOf_some,sub_seq0,sub_seq1,sub_block,sub_loop,sub_nil]at h1
 simp at h1
 rcases h2 with⟨hb,e,rfl⟩ |⟨hb,e,b,rfl⟩
 ·rw[hb]
  refine icall_ret (v:=.bool true) (H:=[]) (K:=[]) (by simp) (by simp) ?_ rfl rfl rfl
  rw[call_eq (by decide) (by simp)]
  simp[Tryz.func211,Tryz.f211,envOf,ex_loop,firstReg,h1,leave_pure]
 ·rw[hb]
  refine icall_ret (v:=.bool false) (H:=[]) (K:=[]) (by simp) (by simp) ?_ rfl rfl rfl
  rw[call_eq (by decide) (by simp)]
  simp[Tryz.func211,Tryz.f211,envOf,ex_loop,firstReg,h1,leave_pure]
def pieB (n:Int) (l:List Cnd):Bool:=decide (l.length≤96)&&l.all (cndN n)
def setB (dim:Int) (P:List (List Cnd)):Bool:=decide (0≤dim)&&decide (dim≤12)&&decide (P.length≤400)&&P.all (pieB dim)
def S210 (dim:Int) (P:List (List Cnd)) (i:Nat):St:=⟨[(1,.ptr 0 0 0),(20,lst 1 (P.map pieC)),(21,.int .i64 P.length),(22,.int .i64 i)],[⟨2,[[.int .i64 dim,lst 1 (P.map pieC)]],.box⟩],[],0⟩
theorem ic210 (dim:Int) (P:List (List Cnd)) (h:okPie P):icall X (call X) 210 [.agg [.int .i64 dim,.lst (szOf 1 (P.map pieC)) (P.map pieC) .no]]=some (.ret (.bool (setB dim P))):=by
 have hloop:∃o,(∀ s,s.gc [1,20,21,22] 1 0=S210 dim P 0→loopE X 210 lb210_4 (St.gc [1,20,21,22] 1 0) s=some o)∧((P.all (pieB dim)=true∧∃e b,o= .exit 0 ⟨e,b,[],0⟩)∨(P.all (pieB dim)=false∧∃e b,o= .ret ⟨(2,.bool false)::e,b,[],0⟩)):=by
  refine loop_all P (S210 dim P) (pieB dim) _ _ (by simp[lb210_4,Tryz.f210,S210,stops]) (fun i l hc hi=>?_)
  have hw:=wrap_nat i (by have:=h.1;omega)
  unfold pieB
  by_cases c1:(96:Int) < l.length
  ·have c1':96 < l.length:=by omega
   have c1'': ¬l.length≤96:=by omega
   refine⟨fun h=>by simp[c1'']at h,fun _=>?_⟩
   simp[lb210_4,Tryz.f210,S210,hi,hc,c1,c1',stops]
  ·have c1': ¬96 < l.length:=by omega
   have c1'':l.length≤96:=by omega
   have hb:=ic211 l (h.2 _ (List.mem_of_getElem? hc)) dim
   cases hv:l.all (cndN dim)with
   |false=>
    rw[hv]at hb
    refine⟨fun h=>by simp at h,fun _=>?_⟩
    simp[lb210_4,Tryz.f210,S210,hi,hc,c1,c1',hb,stops]
   |true=>
    rw[hv]at hb
    refine⟨fun _=>?_,fun h=>by simp[c1'']at h⟩
    simp[lb210_4,Tryz.f210,S210,hi,hw,hc,c1,c1',hb]
 obtain⟨o,h1,h2⟩:=hloop
 simp only[lb210_4,Tryz.f210,S210,bodyOf_some,sub_seq0,sub_seq1,sub_block,sub_loop,sub_nil]at h1
 simp at h1
 have fin:∀b,call X 210 [.agg [.int .i64 dim,.lst (szOf 1 (P.map pieC)) (P.map pieC) .no]] [] []=some (.ret (.bool b),[],[])→setB dim P=b→icall X (call X) 210 [.agg [.int .i64 dim,.lst (szOf 1 (P.map pieC)) (P.map pieC) .no]]=some (.ret (.bool (setB dim P))):=fun b h e=>by rw[e];exact icall_ret (by simp) (by simp) h rfl rfl rfl
 by_cases d0:dim < 0
 ·refine fin false ?_ (by
              have: ¬0≤dim:=by omega
              simp[setB,this])
  rw[call_eq (by decide) (by simp)]
  simp[Tryz.func210,Tryz.f210,envOf,d0,leave_pure]
 ·by_cases d1:12 < dim
  ·refine fin false ?_ (by
               have: ¬dim≤12:=by omega
               simp[setB,this])
   rw[call_eq (by decide) (by simp)]
   simp[Tryz.func210,Tryz.f210,envOf,d0,d1,leave_pure]
  ·by_cases d2:(400:Int) < P.length
   ·have d2':400 < P.length:=by omega
    refine fin false ?_ (by
                have: ¬P.length≤400:=by omega
                simp[setB,this])
    rw[call_eq (by decide) (by simp)]
    simp[Tryz.func210,Tryz.f210,envOf,d0,d1,d2,d2',leave_pure]
   ·have d2': ¬400 < P.length:=by omega
    have e0:0≤dim:=by omega
    have e1:dim≤12:=by omega
    have e2:P.length≤400:=by omega
    rcases h2 with⟨hb,e,b,rfl⟩ |⟨hb,e,b,rfl⟩
    ·refine fin true ?_ (by simp[setB,e0,e1,e2,hb])
     rw[call_eq (by decide) (by simp)]
     simp[Tryz.func210,Tryz.f210,envOf,ex_loop,firstReg,h1,d0,d1,d2,d2',leave_pure]
    ·refine fin false ?_ (by simp[setB,hb])
     rw[call_eq (by decide) (by simp)]
     simp[Tryz.func210,Tryz.f210,envOf,ex_loop,firstReg,h1,d0,d1,d2,d2',leave_pure]
end T
end
section
open Go Go.Proofs Go.Sym
namespace T
attribute [-simp] getElem?_pos
def blankB:Stm→Bool
 | .mk _ name low high step mark _ _ _ _ _ _ _=>name.toList.isEmpty&&decide (low=[])&&decide (high=[])&&decide (step=0)&&decide (mark=0)
theorem ic209 (s:Stm):icall X (call X) 209 [.agg s.cs]=some (.ret (.bool (blankB s))):=by
 obtain⟨kind,name,low,high,step,mark,dim,pieces,tA,tS,val,body,els⟩:=s
 obtain⟨op,k,L,rA,subs,args⟩:=val
 have fin:∀b,call X 209 [.agg (Stm.cs (.mk kind name low high step mark dim pieces tA tS (.mk op k L rA subs args) body els))] [] []=some (.ret (.bool b),[],[])→blankB (.mk kind name low high step mark dim pieces tA tS (.mk op k L rA subs args) body els)=b→
  icall X (call X) 209 [.agg (Stm.cs (.mk kind name low high step mark dim pieces tA tS (.mk op k L rA subs args) body els))]=some (.ret (.bool (blankB (.mk kind name low high step mark dim pieces tA tS (.mk op k L rA subs args) body els)))):=fun b h e=>by rw[e];exact icall_ret (by simp) (by simp) h rfl rfl rfl
 by_cases c1:name.toList.isEmpty=true
 ·by_cases c2:low=[]
  ·by_cases c3:high=[]
   ·by_cases c4:step=0
    ·refine fin (decide (mark=0)) ?_ (by simp only[blankB,c1,c2,c3,c4];simp)
     rw[call_eq (by decide) (by simp)]
     simp[Tryz.func209,Tryz.f209,envOf,c1,c2,c3,c4,leave_pure]
    ·refine fin false ?_ (by simp[blankB,c4])
     rw[call_eq (by decide) (by simp)]
     simp[Tryz.func209,Tryz.f209,envOf,c1,c2,c3,c4,leave_pure]
   ·refine fin false ?_ (by simp[blankB,c3])
    rw[call_eq (by decide) (by simp)]
    simp[Tryz.func209,Tryz.f209,envOf,c1,c2,c3,leave_pure]
  ·refine fin false ?_ (by simp[blankB,c2])
   rw[call_eq (by decide) (by simp)]
   simp[Tryz.func209,Tryz.f209,envOf,c1,c2,leave_pure]
 ·refine fin false ?_ (by rw[Bool.not_eq_true]at c1;simp only[blankB,c1];simp)
  rw[call_eq (by decide) (by simp)]
  simp[Tryz.func209,Tryz.f209,envOf,c1,leave_pure]
end T
end
section
open Go Go.Proofs Go.Sym
namespace T
attribute [-simp] getElem?_pos
def digB (c:Int):Bool:=decide (48≤c)&&decide (c≤57)
theorem ic167 (c:Int):icall X (call X) 167 [.int .u8 c]=some (.ret (.bool (digB c))):=by
 unfold digB
 by_cases c1:48≤c
 ·refine icall_ret (v:=.bool (decide (48≤c)&&decide (c≤57))) (H:=[]) (K:=[]) (by simp) (by simp) ?_ rfl rfl rfl
  rw[call_eq (by decide) (by simp)]
  simp[Tryz.func167,Tryz.f167,envOf,c1,leave_pure]
 ·refine icall_ret (v:=.bool (decide (48≤c)&&decide (c≤57))) (H:=[]) (K:=[]) (by simp) (by simp) ?_ rfl rfl rfl
  rw[call_eq (by decide) (by simp)]
  simp[Tryz.func167,Tryz.f167,envOf,c1,leave_pure]
def eqS (s x:ByteArray):Bool:=s.toList==x.toList
def memS (l:List ByteArray) (s:ByteArray):Bool:= !l.all (fun x=> !eqS s x)
def S169 (l:List ByteArray) (s:ByteArray) (i:Nat):St:=⟨[(0,lst 1 (l.map strC)),(1,.str s),(7,.int .i64 l.length),(8,.int .i64 i)],[],[],0⟩
theorem ic169 (l:List ByteArray) (hl:l.length≤1073741823) (s:ByteArray):∃n,icall X (call X) 169 [.lst (szOf 1 (l.map strC)) (l.map strC) .no,.str s]=some (.ret (.int .i64 n))∧decide (0≤n)=memS l s:=by
 have hloop:∃o,(∀ s',s'.gc [0,1,7,8] 0 0=S169 l s 0→loopE X 169 lb169_2 (St.gc [0,1,7,8] 0 0) s'=some o)∧((l.all (fun x=> !eqS s x)=true∧∃e,o= .exit 0 ⟨e,[],[],0⟩)∨(l.all (fun x=> !eqS s x)=false∧∃(e:_) (n:Nat),o= .ret ⟨(4,.int .i64 n)::e,[],[],0⟩)):=by
  refine loop_all l (S169 l s) (fun x=> !eqS s x) _ _ (by simp[lb169_2,Tryz.f169,S169,stops]) (fun i x hc hi=>?_)
  have hw:=wrap_nat i (by omega)
  unfold eqS
  by_cases c1:(s.toList==x.toList)=true
  ·refine⟨fun h=>(by rw[c1]at h;cases h),fun _=>?_⟩
   simp[-beq_iff_eq,lb169_2,Tryz.f169,S169,hi,hc,c1,stops]
  ·rw[Bool.not_eq_true]at c1
   refine⟨fun _=>?_,fun h=>(by rw[c1]at h;cases h)⟩
   simp[lb169_2,Tryz.f169,S169,hi,hw,hc,c1]
 obtain⟨o,h1,h2⟩:=hloop
 simp only[lb169_2,Tryz.f169,S169,bodyOf_some,sub_seq0,sub_seq1,sub_block,sub_loop,sub_nil]at h1
 simp at h1
 unfold memS
 rcases h2 with⟨hb,e,rfl⟩ |⟨hb,e,n,rfl⟩
 ·refine⟨-1,icall_ret (v:=.int .i64 (-1)) (H:=[]) (K:=[]) (by simp) (by simp) ?_ rfl rfl rfl,by rw[hb];rfl⟩
  rw[call_eq (by decide) (by simp)]
  simp[Tryz.func169,Tryz.f169,envOf,ex_loop,firstReg,h1,leave_pure]
 ·refine⟨n,icall_ret (v:=.int .i64 n) (H:=[]) (K:=[]) (by simp) (by simp) ?_ rfl rfl rfl,by rw[hb];simp⟩
  rw[call_eq (by decide) (by simp)]
  simp[Tryz.func169,Tryz.f169,envOf,ex_loop,firstReg,h1,leave_pure]
theorem ic151 (l:List ByteArray) (hl:l.length≤1073741823) (s:ByteArray):icall X (call X) 151 [.lst (szOf 1 (l.map strC)) (l.map strC) .no,.str s]=some (.ret (.bool (memS l s))):=by
 obtain⟨n,hn,hm⟩:=ic169 l hl s
 rw[←hm]
 refine icall_ret (v:=.bool (decide (0≤n))) (H:=[]) (K:=[]) (by simp) (by simp) ?_ rfl rfl rfl
 rw[call_eq (by decide) (by simp)]
 simp[Tryz.func151,Tryz.f151,envOf,hn,leave_pure]
end T
end
section
open Go Go.Proofs Go.Sym
namespace T
attribute [-simp] getElem?_pos
def kindV (kind:Int):Nat:=if kind=1 then 222 else if kind=2 then 223 else 224
def Stm.kind:Stm→Int | .mk k _ _ _ _ _ _ _ _ _ _ _ _=>k
def okK (k:Int):Bool:=decide (k=1)||decide (k=2)||decide (k=3)
theorem ic136_ok (s:Stm) (h:okK s.kind=true):icall X (call X) 136 [.agg s.cs]=some (.ret (.iface (kindV s.kind) (.agg s.cs))):=by
 obtain⟨kind,name,low,high,step,mark,dim,pieces,tA,tS,val,body,els⟩:=s
 obtain⟨op,k,L,rA,subs,args⟩:=val
 have h:okK kind=true:=h
 show _=some (IRes.ret (.iface (kindV kind) _))
 simp only[okK,Bool.or_eq_true,decide_eq_true_eq]at h
 refine icall_ret (v:=.iface (kindV kind) (.agg (Stm.cs (.mk kind name low high step mark dim pieces tA tS (.mk op k L rA subs args) body els)))) (H:=[]) (K:=[]) (by simp) (by simp) ?_ rfl (by simp) (by simp)
 rw[call_eq (by decide) (by simp)]
 rcases h with(rfl |rfl) |rfl
 ·simp[Tryz.func136,Tryz.f136,envOf,kindV,leave_pure]
 ·simp[Tryz.func136,Tryz.f136,envOf,kindV,leave_pure]
 ·simp[Tryz.func136,Tryz.f136,envOf,kindV,leave_pure]
theorem ic136_no (s:Stm) (h:okK s.kind=false):icall X (call X) 136 [.agg s.cs]=some (.panic (.iface 163 (.agg []))):=by
 obtain⟨kind,name,low,high,step,mark,dim,pieces,tA,tS,val,body,els⟩:=s
 obtain⟨op,k,L,rA,subs,args⟩:=val
 have h:okK kind=false:=h
 simp only[okK,Bool.or_eq_false_iff,decide_eq_false_iff_not]at h
 refine icall_panic (H:=[]) (K:=[]) (by simp) ?_ rfl
 rw[call_eq (by decide) (by simp)]
 simp[Tryz.func136,Tryz.f136,envOf,h.1.1,h.1.2,h.2,pl163]
end T
end
section
open Go Go.Proofs Go.Sym
namespace T
attribute [-simp] getElem?_pos
theorem sc84 (cl:CallFn) (args H K):scall X cl 84 args H K=insE args H K:=scall_some (F:=insE) rfl
theorem sc89 (cl:CallFn) (args H K):scall X cl 89 args H K=delF args H K:=scall_some (F:=delF) rfl
attribute [simp] sc84 sc89 insE_win
theorem lstN_rows (l:List Row):lstN 3 (l.map Row.cs)=rowsV l:=Eq.trans rfl rfl
theorem del_win (l:List Row) (a:Nat) (ha:a < l.length) (H:List Blk) (K:List Nat) (b:Nat) (hk:H[b]? =some (winB l)) (c:Option Nat):
  delF [.win b 0 l.length c,.int .i64 a,.int .i64 ((a:Int)+1)] H K=some (.ret (rowsV (fuseL a l)),H.set b ⟨3,[],.dead⟩,K):=by
 have h0:l≠[]:=by rintro rfl;simp at ha
 simp only[delF,hk]
 rw[if_pos (by refine⟨rfl,rfl,by omega,by simp[winB],by simp[winB],by omega,by omega,trivial⟩),←lstN_rows,fuseL]
 simp[winB,List.map_take,List.map_drop]
theorem ins_win (l:List Row) (a:Nat) (ha:a≤l.length) (h0:l≠[]) (v:List Row) (hv:v≠[]) (hb:l.length+v.length≤1073741824) (H:List Blk) (K:List Nat) (b:Nat) (hk:H[b]? =some (winB l)) (c:Option Nat) (q:Cap):
  insF [.win b 0 l.length c,.int .i64 a,.lst 3 (v.map Row.cs) q] H K=some (.ret (rowsV (l.take a++v++l.drop a)),H.set b ⟨3,[],.dead⟩,K):=by
 have hl0:0 < l.length:=by cases l with |nil=>exact absurd rfl h0 |cons=>simp
 have hv0:0 < v.length:=by cases v with |nil=>exact absurd rfl hv |cons=>simp
 simp only[insF,hk]
 rw[if_pos (by refine⟨rfl,rfl,by omega,by simp[winB],by simp[winB],by omega,by omega,by simpa using hv0,by simpa using hb⟩),←lstN_rows]
 simp[winB,List.map_take,List.map_drop]
theorem makes88 (k0:Blk) (m:Mv) (l:List Row) (i a:Nat) (ha:m.a=a) (h1:a < l.length) (hl:l.length≤1073741824):Makes2 k0 (mvB m) 88 i l (fuseL a l):=fun K=>by
 refine⟨rowsV (fuseL a l),[⟨3,[],.dead⟩],K,fun kb=>?_,rfl,fun kb=>by simp⟩
 rw[call_eq (by decide) (by simp)]
 have hw:=wrap_nat a (by omega)
 have h:=del_win l a h1 [k0,mvB m,kb,winB l] K 3 rfl none
 simp only[winB_def,mvB_def,rowsV_def,Mv.cs_def,int_def,ints_def,ha]at h
 simp at h
 simp[Tryz.func88,Tryz.f88,envOf,ha,hw,h,leave_pure]
end T
end
section
open Go Go.Proofs Go.Sym
namespace T
attribute [-simp] getElem?_pos
theorem Good.ne {t:Tab} {n:Nat} (h:Good t n) {a:Nat} (ha:a < n):∀l ∈ t,l≠[]:=fun l hl e=>by
 have:=h.even l hl
 rw[e]at this
 simp at this
 omega
theorem e46' (irs:List (List AV)) (n:Nat) (t:Tab) (m:Mv) (hG:Good t n):∃T K,call X 46 [.agg (tblC irs n t),.agg m.cs] [] []=some (.ret T,[],K)∧Ret T (fuseT n t m) (fuseE n m):=by
 by_cases h1:rowB n m.a=true
 ·obtain⟨a,ha,han⟩:=rowB_nat h1
  have h1':=h1
  rw[ha]at h1'
  have r2:=ic87 irs n t hG.ok a (hG.wide han)
  by_cases hw:(!t.any (notW a)&& !t.any (notC a))=true
  ·rw[hw]at r2
   obtain⟨K,h⟩:=e47 t (t.map (fuseL a)) hG.ok.1 hG.ok.len (hG.ne han) (by simp) ⟨3,[tblC irs n t],.box⟩ (mvB m) 88 ⟨by decide,rfl⟩ (sh_all 88 rfl (by simp)) (fun i l l' e1 e2=>by
    have hl:=hG.even l (List.mem_of_getElem? e1)
    have:l'=fuseL a l:=by
     rw[List.getElem?_map,e1]at e2
     simp only[Option.map_some,Option.some.injEq]at e2
     exact e2.symm
    rw[this]
    exact makes88 _ m l i a ha (by omega) (hG.ok.len l (List.mem_of_getElem? e1))) []
   refine⟨.tup [tabV (t.map (fuseL a)),int 0],K,?_,?_⟩
   ·rw[call_eq (by decide) (by simp)]
    simp only[tabV_def,mvB_def,tblC_def,infV_def,int_def,Mv.cs_def,ints_def,ha]at h
    simp[-List.map_map,Tryz.func46,Tryz.f46,envOf,ha,h1',r2,h,leave_pure]
   ·simp only[Bool.and_eq_true]at hw
    have:fuseT n t m=some (t.map (fuseL a)):=by
     unfold fuseT
     rw[h1,ha]
     simp only[Int.toNat_natCast,hw.1,hw.2]
     rfl
    rw[this];rfl
  ·rw[Bool.not_eq_true]at hw
   rw[hw]at r2
   refine⟨.tup [.lst 0 [] .nil,int 9],[],?_,ret_none (by decide) ?_ (by simp[fuseE,h1])⟩
   ·rw[call_eq (by decide) (by simp)]
    simp[Tryz.func46,Tryz.f46,envOf,ha,h1',r2,leave_pure]
   ·unfold fuseT
    rw[ha]
    simp only[Int.toNat_natCast,Bool.and_assoc,hw,Bool.and_false]
    rfl
 ·refine⟨.tup [.lst 0 [] .nil,int 6],[],?_,ret_none (by decide) (by simp[fuseT,h1]) (by simp[fuseE,h1])⟩
  rw[call_eq (by decide) (by simp)]
  simp[Tryz.func46,Tryz.f46,envOf,h1,leave_pure]
theorem mover46:Mover 46 (fun _ n t m=>fuseT n t m) (fun n _ m=>fuseE n m):=fun is t m hc ht _ _=>e46' _ _ t m (hc.good ht)
def tilesL (a b:Nat) (k:Int) (l:List Row):List Row:=((l.take b).drop a).map fun r=>⟨r.L,k⟩
theorem tok_last (K:List Nat) (i:Nat):(K++[i])[K.length]? =some i:=by rw[List.getElem?_append_right (Nat.le_refl _)];simp
theorem tok_set (K:List Nat) (i j:Nat):(K++[i]).set K.length j=K++[j]:=by rw[List.set_append_right _ _ (Nat.le_refl _)];simp
attribute [simp] tok_last tok_set
def S83 (k0 kb:Blk) (m:Mv) (l:List Row) (a b:Nat) (K:List Nat) (i:Nat):St:=
 ⟨[(1,.win 3 0 l.length none),(2,.ptr 1 0 0),(6,.lst 3 (((tilesL a b m.k l).take i).map Row.cs) (.tok K.length)),(14,.win 3 a (b-a) none),(15,int ((b-a:Nat):Int)),(16,int i)],[k0,mvB m,kb,winB l],K++[i],4⟩
theorem tilesL_len {a b:Nat} {k:Int} {l:List Row} (hb:b≤l.length):(tilesL a b k l).length=b-a:=by simp[tilesL];omega
theorem loop83 (k0 kb:Blk) (m:Mv) (l:List Row) (a b:Nat) (hab:a < b) (hb:b≤l.length) (hl:l.length≤1073741823) (K:List Nat):
  ∃o,(∀ s,s.gc [1,2,6,14,15,16] 4 (K.length+1)=S83 k0 kb m l a b K 0→loopE X 83 lb83_3 (St.gc [1,2,6,14,15,16] 4 (K.length+1)) s=some o)∧
  ∃e,o= .exit 0 ⟨e,[k0,mvB m,kb,winB l],K++[b-a],4⟩∧get e 1= .win 3 0 l.length none∧get e 2= .ptr 1 0 0∧get e 6= .lst 3 ((tilesL a b m.k l).map Row.cs) (.tok K.length):=by
 refine loop_unit (b-a) (S83 k0 kb m l a b K) _ ?_ fun i hi=>?_
 ·have e1:(tilesL a b m.k l).take (b-a)=tilesL a b m.k l:=List.take_of_length_le (by rw[tilesL_len hb];exact Nat.le_refl _)
  simp[lb83_3,Tryz.f83,S83,stops,e1]
 ·have hw:=wrap_nat i (by omega)
  have hc:=List.getElem?_eq_getElem (show a+i < l.length by omega)
  have hlt:((i:Int) < ((b-a:Nat):Int)):=by omega
  have hai:a+i < l.length:=by omega
  have ht:min i (tilesL a b m.k l).length=i:=by rw[tilesL_len hb];omega
  have hi2:i≤1073741823:=by omega
  have hn:(tilesL a b m.k l).take (i+1)=(tilesL a b m.k l).take i++[⟨l[a+i].L,m.k⟩]:=by
   rw[List.take_add_one]
   have:(tilesL a b m.k l)[i]? =some ⟨l[a+i].L,m.k⟩:=by
    simp only[tilesL,List.getElem?_map,List.getElem?_drop,List.getElem?_take]
    rw[if_pos (by omega),hc]
    rfl
   rw[this];rfl
  simp[-List.map_take,lb83_3,Tryz.f83,S83,hlt,hw,hc,hn,hai,ht,hi2]
end T
end
section
open Go Go.Proofs Go.Sym
namespace T
attribute [-simp] getElem?_pos
theorem makes83 (k0:Blk) (m:Mv) (l:List Row) (i a b:Nat) (ha:m.a=a) (hb:m.b=b) (hab:a < b) (hbl:b≤l.length) (hl:l.length≤536870912):Makes2 k0 (mvB m) 83 i l (tileL a b m.k l):=fun K=>by
 refine⟨rowsV (tileL a b m.k l),[⟨3,[],.dead⟩],K++[b-a],fun kb=>?_,rfl,fun kb=>by simp⟩
 obtain⟨o,h1,e,rfl,g1,g2,g3⟩:=loop83 k0 kb m l a b hab hbl (by omega) K
 simp only[lb83_3,Tryz.f83,S83,bodyOf_some,sub_seq0,sub_seq1,sub_block,sub_loop,sub_nil,List.take_zero,List.map_nil]at h1
 have hn:tilesL a b m.k l≠[]:=fun e=>by have:=tilesL_len (a:=a) (k:=m.k) hbl;rw[e]at this;simp at this;omega
 have h:=ins_win l a (by omega) (by rintro rfl;simp at hbl;omega) (tilesL a b m.k l) hn (by rw[tilesL_len hbl];omega) [k0,mvB m,kb,winB l] (K++[b-a]) 3 rfl none (.tok K.length)
 have ht:l.take a++tilesL a b m.k l++l.drop a=tileL a b m.k l:=rfl
 rw[ht]at h
 simp only[winB_def,mvB_def,rowsV_def,Mv.cs_def,int_def,ints_def,ha,hb]at h h1
 simp[-List.map_map]at h h1
 have hab':a≤b:=by omega
 rw[call_eq (by decide) (by simp)]
 simp[-List.map_map,Tryz.func83,Tryz.f83,envOf,ex_loop,firstReg,ha,hb,hbl,hab',h1,g1,g2,g3,h,leave_pure]
def S44 (irs:List (List AV)) (n:Nat) (t:Tab) (m:Mv) (a:Nat):St:=⟨[(2,.ptr 0 0 0),(3,.ptr 1 0 0),(6,int a)],[⟨3,[tblC irs n t],.box⟩,mvB m],[],0⟩
theorem loop44 (irs:List (List AV)) (n:Nat) (t:Tab) (m:Mv) (ht:okTab t) (a0 b:Nat) (hb:m.b=b) (hbn:b≤n) (hn:n≤1073741823) (hw:∀a,a < n→wide t a) (ha0:a0≤b):
  ∃o,(∀ s,s.gc [2,3,6] 2 0=S44 irs n t m a0→loopE X 44 lb44_4 (St.gc [2,3,6] 2 0) s=some o)∧
  ((((List.range b).drop a0).any (fun a=>t.any (notW a))=false∧∃e,o= .exit 0 ⟨e,[⟨3,[tblC irs n t],.box⟩,mvB m],[],0⟩∧get e 2= .ptr 0 0 0∧get e 3= .ptr 1 0 0)∨
   (((List.range b).drop a0).any (fun a=>t.any (notW a))=true∧∃e,o= .ret ⟨(5,int 9)::(4,.lst 0 [] .nil)::e,[⟨3,[tblC irs n t],.box⟩,mvB m],[],0⟩)):=by
 have key:((List.range b).drop a0).any (fun a=>t.any (notW a))=true↔∃x,a0≤x∧x < b∧t.any (notW x)=true:=by
  simp only[List.any_eq_true]
  constructor
  ·rintro⟨x,hx,y,hy,hy2⟩
   obtain⟨j,hj,rfl⟩:=List.getElem_of_mem hx
   simp at hj
   exact⟨_,by simp,by simp;omega,y,hy,hy2⟩
  ·rintro⟨x,h1,h2,y,hy,hy2⟩
   refine⟨x,?_,y,hy,hy2⟩
   rw[List.mem_iff_getElem?]
   exact⟨x-a0,by rw[List.getElem?_drop,show a0+(x-a0)=x by omega,List.getElem?_range h2]⟩
 generalize ((List.range b).drop a0).any (fun a=>t.any (notW a))=B at*
 refine loop_inv (S44 irs n t m) (fun a=>a0≤a∧a≤b∧∀x,a0≤x→x < a→t.any (notW x)=false) (fun a=>b-a) _ (fun a hI=>?_) a0 ⟨Nat.le_refl _,ha0,fun x h1 h2=>by omega⟩
 obtain⟨i1,i2,i3⟩:=hI
 by_cases hlt:a < b
 ·have h77:=ic77 irs n t ht a (hw a (by omega))
  have hwr:=wrap_nat a (by omega)
  by_cases hc:t.any (notW a)=true
  ·left
   rw[hc]at h77
   have hB:B=true:=key.2 ⟨a,i1,hlt,hc⟩
   simp[lb44_4,Tryz.f44,S44,hb,hlt,h77,stops,hB]
  ·rw[Bool.not_eq_true]at hc
   rw[hc]at h77
   right
   simp[lb44_4,Tryz.f44,S44,hb,hlt,h77,hwr]
   refine⟨a+1,by omega,⟨by omega,by omega,fun x h1 h2=>?_⟩,by omega⟩
   by_cases e:x=a
   ·subst e;simpa using hc
   ·simpa using i3 x h1 (by omega)
 ·left
  obtain rfl:a=b:=by omega
  have hB:B=false:=by
   rw[←Bool.not_eq_true,key]
   rintro⟨x,h1,h2,h3⟩
   rw[i3 x h1 h2]at h3
   cases h3
  simp[lb44_4,Tryz.f44,S44,hb,stops,hB]
end T
end
