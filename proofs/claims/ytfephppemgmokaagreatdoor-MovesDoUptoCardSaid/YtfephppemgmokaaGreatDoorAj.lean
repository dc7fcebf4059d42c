/- The law MovesDo of headlandlaw20 returns true, at arguments of the row's types whose lengths are at most uptoBulk: the program's Do and Back answer as the reference's do. Conditions: those of the given row (Rows.MovesDoUptoCardSaid), and no others. Part 10 of the proof. -/
import Derived.Test.YtfephppemgmokaaGreatDoorAi
import Derived.Test.YtfephppemgmokaaGreatDoorRows
import Derived.WalkKit
import Derived.ProofKit
import Derived.OpenShut
import Derived.Deep.DeepHandedRow
import Derived.Lib.LaidTab
import Derived.Shelf.Strings.Shaped
import Derived.Test.YtfephppemgmokaaGreatDoorCards
import Derived.Test.YtfephppemgmokaaGreatDoorTie
set_option linter.unusedVariables false
set_option linter.unusedSimpArgs false
set_option linter.unusedSectionVars false
section
open Go Go.Proofs Go.Sym
namespace T
attribute [-simp] getElem?_pos
def in2 (g:Nat):Bool:=inL g [5,6,7,8,10,12,13,14,22]
noncomputable def prim2 (g:FuncId):Option (List AV→Option IRes):=if g=23 then some F23 else if in2 g=true then some (icall X (call X) g)else none
noncomputable def X2:Ctx:={ X with prim:=prim2 }
theorem in2_prim {g:Nat} (h:in2 g=true):primT g=none∧g < rid:=by
 have hr:rid=1000000:=rfl
 have:g=5∨g=6∨g=7∨g=8∨g=10∨g=12∨g=13∨g=14∨g=22:=by simpa[in2,inL] using h
 rcases this with rfl |rfl |rfl |rfl |rfl |rfl |rfl |rfl |rfl <;> exact⟨by simp,by decide⟩
theorem prim2OK:PrimOK X2:=fun g F args r h hF=>by
 have h':prim2 g=some F:=h
 unfold prim2 at h'
 split at h'
 ·rename_i e
  subst e
  cases h'
  exact p23 args r hF
 ·split at h'
  ·rename_i hg
   cases h'
   obtain⟨hp,hlt⟩:=in2_prim hg
   unfold icall at hF
   rw[show X.prim g=none from hp]at hF
   obtain⟨q,hq,hc⟩:=ob_eq hF
   have hs:=(call_sound xOK).call g args [] [] q hlt hq
   exact⟨hs.1,X.own g,q,hc,fun L w us hi hr=>hs.2 L w w.heap.size us hi hr⟩
  ·cases h'
theorem x2OK:SymOK X2:=⟨xOK.prog,xOK.code,prim2OK,xOK.sprim,xOK.snone,xOK.rok⟩
theorem tr {g:Nat} {args:List AV} {r:IRes} (hg:in2 g=true) (h:icall X (call X) g args=some r):icall X2 (call X2) g args=some r:=by
 have hp:X2.prim g=some (icall X (call X) g):=by
  show prim2 g=_
  unfold prim2
  rw[if_neg (by rintro rfl;cases hg),if_pos hg]
 rw[icall_prim hp,h]
theorem tr23 {args:List AV} {r:IRes} (h:F23 args=some r):icall X2 (call X2) 23 args=some r:=by
 have hp:X2.prim 23=some F23:=rfl
 rw[icall_prim hp,h]
theorem y2P:X2.P=Tryz.prog:=Eq.trans rfl rfl
theorem y2h (f):X2.has f=true:=Eq.trans rfl rfl
theorem y2D (f):X2.dfr f=inL f [60]:=Eq.trans rfl rfl
theorem y2R (f):X2.raw f=inL f [61,90,115]:=Eq.trans rfl rfl
theorem y2M (f s):X2.mode f s=modeT f s:=Eq.trans rfl rfl
theorem y2K (f s):X2.keep f s=keepT f s:=Eq.trans rfl rfl
theorem y2T (f s):X2.tz f s=tzT f s:=Eq.trans rfl rfl
theorem y2S (f s):X2.sep f s=sepT f s:=Eq.trans rfl rfl
theorem y2C (f s):X2.cut f s=cutT f s:=Eq.trans rfl rfl
theorem y2O (f):X2.own f=inL f [30]:=Eq.trans rfl rfl
theorem y2Pr (f) (h:(inL f [5,6,7,8,10,12,13,14,22,23])=false):X2.prim f=none:=by
 show prim2 f=none
 simp[inL]at h
 obtain⟨a1,a2,a3,a4,a5,a6,a7,a8,a9,a10⟩:=h
 have h2:in2 f=false:=by simp[in2,inL,a1,a2,a3,a4,a5,a6,a7,a8,a9]
 unfold prim2
 rw[if_neg a10,h2]
 rfl
theorem y2Sh (f a):X2.share f a=shareT f a:=Eq.trans rfl rfl
attribute [simp] y2P y2h y2D y2R y2M y2K y2T y2S y2C y2O y2Pr y2Sh
theorem loop11' (p:Prg) (t t':Tab) (m:Mv) (ht:t.length≤1073741823) (a:Nat) (ha:m.a=a) (KS:List Int) (hl:KS.length=t.length) (hK:∀(i:Nat) l,t[i]? =some l→∃r,l[a]? =some r∧KS[i]? =some r.L.K):∃o,(∀ s,s.gc [5,6,10,66,67,68] 6 1=S11 p t t' m KS 0→loopE X2 11 lb11_19 (St.gc [5,6,10,66,67,68] 6 1) s=some o)∧
  ∃e,o= .exit 1 ⟨e,hp11 p t t' m KS,[t.length],0⟩∧get e 6= .ptr 3 0 0∧get e 10= .ptr 5 0 0:=by
 refine loop_unit t.length (S11 p t t' m KS) _ (by simp[lb11_19,Tryz.f11,S11,hp11,stops,←hl]) fun i hi=>?_
 have hw':=wrap_nat i (by omega)
 have hc:=List.getElem?_eq_getElem hi
 obtain⟨r,hr,hKi⟩:=hK i _ hc
 have hb:i≤1073741823:=by omega
 have hmin:min i t.length=i:=Nat.min_eq_left (by omega)
 have htk:(KS.map intC).take (i+1)=(KS.map intC).take i++[[.int .i64 r.L.K]]:=by rw[List.take_add_one,List.getElem?_map,hKi];rfl
 simp[lb11_19,Tryz.f11,S11,hp11,ha,hi,hw',hc,hr,hb,hl,hmin,htk]
theorem ic11' (p:Prg) (is:List Inf) (e:Int) (hnm:∀i ∈ is,i.nm.length≤12) (t:Tab) (ht:okTab t) (ht1:t.length≤1073741823) (m:Mv) (hm:m.list.length≤1073741824) (h9:icall X2 (call X2) 9 [.agg p.cs,.agg [.lst (szOf 1 (t.map rowsC)) (t.map rowsC) .no],.agg m.cs]=some (.ret (DoV (doO is e t m) (doE is e t m)))∧(doO is e t m=none→doE is e t m≠0)) (hk1: -9223372036854775808≤m.k) (hk2:m.k < 9223372036854775808):
  ∃c,(c≠0∧(backO is e t m=none→c=backE is e t m))∧icall X2 (call X2) 11 [.agg p.cs,.agg [.lst (szOf 1 (t.map rowsC)) (t.map rowsC) .no],.agg m.cs]=some (.ret (BackV (backO is e t m) c)):=by
 obtain⟨h7,hc⟩:=h9
 simp only[Prg.cs_def,Mv.cs_def,ints_def,int_def]at h7
 cases hd:doO is e t m with
 |none=>
  rw[hd,DoV_none]at h7
  replace hc:=hc hd
  unfold backO backE
  rw[hd]
  refine⟨doE is e t m,⟨hc,fun _=>rfl⟩,?_⟩
  generalize doE is e t m=c at*
  simp only[BackV_none]
  refine icall_ret (v:=.tup [.agg [int 0,int 0,int 0,int 0,.lst 0 [] .nil],int c]) (H:=[]) (K:=[]) (by simp) (by simp) ?_ rfl rfl (by simp)
  rw[call_eq (by decide) (by simp)]
  simp[Tryz.func11,Tryz.f11,envOf,h7,hc,leave_pure]
 |some t'=>
  rw[hd,DoV_some]at h7
  unfold backO backE
  rw[hd]
  simp only
  have hmv:chk is e t=0∧mvT is t m=some t':=by
   unfold doO at hd
   split at hd
   ·rename_i hc;exact⟨hc,hd⟩
   ·cases hd
  obtain⟨k1,k7⟩:=mvT_kind hmv.2
  obtain⟨k,hk⟩:∃k:Nat,m.kind=k:=⟨m.kind.toNat,by omega⟩
  obtain rfl |rfl |rfl |rfl |rfl |rfl |rfl:k=1∨k=2∨k=3∨k=4∨k=5∨k=6∨k=7:=by omega
  ·have hb:back t m=some ⟨1,m.a,m.b,0,[]⟩:=by unfold back;rw[if_pos (by omega)]
   rw[hb]
   simp only[BackV_some]
   simp at hk
   rw[hk]at h7
   refine⟨1,⟨by decide,fun h=>by cases h⟩,icall_ret (v:=.tup [.agg [int 1,int m.a,int m.b,int 0,.lst 0 [] .nil],int 0]) (H:=[]) (K:=[]) (by simp) (by simp) ?_ rfl rfl (by simp)⟩
   rw[call_eq (by decide) (by simp)]
   simp[Tryz.func11,Tryz.f11,envOf,h7,hk,leave_pure]
  ·have hb:back t m=some ⟨2,m.a,0,0,[]⟩:=by unfold back;rw[if_neg (by omega),if_pos (by omega)]
   rw[hb]
   simp only[BackV_some]
   simp at hk
   rw[hk]at h7
   refine⟨1,⟨by decide,fun h=>by cases h⟩,icall_ret (v:=.tup [.agg [int 2,int m.a,int 0,int 0,.lst 0 [] .nil],int 0]) (H:=[]) (K:=[]) (by simp) (by simp) ?_ rfl rfl (by simp)⟩
   rw[call_eq (by decide) (by simp)]
   simp[Tryz.func11,Tryz.f11,envOf,h7,hk,leave_pure]
  ·simp at hk
   rw[hk]at h7
   by_cases hkm:m.k=-9223372036854775808
   ·have hb:back t m=none:=by unfold back;rw[if_neg (by omega),if_neg (by omega),if_pos (by omega),if_pos hkm]
    rw[hb]
    refine⟨3,⟨by decide,fun _=>by rw[if_neg (by omega)]⟩,?_⟩
    rw[BackV_none]
    refine icall_ret (v:=.tup [.agg [int 0,int 0,int 0,int 0,.lst 0 [] .nil],int 3]) (H:=[]) (K:=[]) (by simp) (by simp) ?_ rfl rfl (by simp)
    rw[hkm]at h7
    rw[call_eq (by decide) (by simp)]
    simp[Tryz.func11,Tryz.f11,envOf,h7,hk,hkm,leave_pure]
   ·have hb:back t m=some ⟨m.kind,m.a,m.b,-m.k,[]⟩:=by unfold back;rw[if_neg (by omega),if_neg (by omega),if_pos (by omega),if_neg hkm]
    rw[hb]
    simp only[BackV_some]
    have hwn:=wrap_neg hk1 hk2 hkm
    refine⟨1,⟨by decide,fun h=>by cases h⟩,icall_ret (v:=.tup [.agg [int 3,int m.a,int m.b,int (-m.k),.lst 0 [] .nil],int 0]) (H:=[]) (K:=[]) (by simp) (by simp) ?_ rfl rfl (by simp[hk])⟩
    rw[call_eq (by decide) (by simp)]
    simp[Tryz.func11,Tryz.f11,envOf,h7,hk,hkm,hwn,leave_pure]
  ·simp at hk
   rw[hk]at h7
   by_cases hkm:m.k=-9223372036854775808
   ·have hb:back t m=none:=by unfold back;rw[if_neg (by omega),if_neg (by omega),if_pos (by omega),if_pos hkm]
    rw[hb]
    refine⟨3,⟨by decide,fun _=>by rw[if_neg (by omega)]⟩,?_⟩
    rw[BackV_none]
    refine icall_ret (v:=.tup [.agg [int 0,int 0,int 0,int 0,.lst 0 [] .nil],int 3]) (H:=[]) (K:=[]) (by simp) (by simp) ?_ rfl rfl (by simp)
    rw[hkm]at h7
    rw[call_eq (by decide) (by simp)]
    simp[Tryz.func11,Tryz.f11,envOf,h7,hk,hkm,leave_pure]
   ·have hb:back t m=some ⟨m.kind,m.a,m.b,-m.k,[]⟩:=by unfold back;rw[if_neg (by omega),if_neg (by omega),if_pos (by omega),if_neg hkm]
    rw[hb]
    simp only[BackV_some]
    have hwn:=wrap_neg hk1 hk2 hkm
    refine⟨1,⟨by decide,fun h=>by cases h⟩,icall_ret (v:=.tup [.agg [int 4,int m.a,int m.b,int (-m.k),.lst 0 [] .nil],int 0]) (H:=[]) (K:=[]) (by simp) (by simp) ?_ rfl rfl (by simp[hk])⟩
    rw[call_eq (by decide) (by simp)]
    simp[Tryz.func11,Tryz.f11,envOf,h7,hk,hkm,hwn,leave_pure]
  ·have hb:back t m=none:=by unfold back;rw[if_neg (by omega),if_neg (by omega),if_neg (by omega),if_neg (by omega),if_neg (by omega)]
   rw[hb]
   simp at hk
   rw[hk]at h7
   refine⟨9,⟨by decide,fun _=>by rw[if_pos (by omega)]⟩,?_⟩
   rw[BackV_none]
   refine icall_ret (v:=.tup [.agg [int 0,int 0,int 0,int 0,.lst 0 [] .nil],int 9]) (H:=[]) (K:=[]) (by simp) (by simp) ?_ rfl rfl (by simp)
   rw[call_eq (by decide) (by simp)]
   simp[Tryz.func11,Tryz.f11,envOf,h7,hk,leave_pure]
  ·have hb:back t m=some ⟨7,m.a,0,0,[]⟩:=by unfold back;rw[if_neg (by omega),if_neg (by omega),if_neg (by omega),if_pos (by omega)]
   rw[hb]
   simp only[BackV_some]
   simp at hk
   rw[hk]at h7
   refine⟨1,⟨by decide,fun h=>by cases h⟩,icall_ret (v:=.tup [.agg [int 7,int m.a,int 0,int 0,.lst 0 [] .nil],int 0]) (H:=[]) (K:=[]) (by simp) (by simp) ?_ rfl rfl (by simp)⟩
   rw[call_eq (by decide) (by simp)]
   simp[Tryz.func11,Tryz.f11,envOf,h7,hk,leave_pure]
  ·have hb:back t m=some ⟨6,m.a,0,0,t.map (rowK m.a.toNat)⟩:=by unfold back;rw[if_neg (by omega),if_neg (by omega),if_neg (by omega),if_neg (by omega),if_pos (by omega)]
   rw[hb]
   simp only[BackV_some]
   have hC:=(chk_zero hmv.1).2
   have hrow:∃a:Nat,m.a=a∧a < nrows t:=by
    have h:=hmv.2
    unfold mvT at h
    rw[if_neg (by omega),if_neg (by omega),if_neg (by omega),if_neg (by omega),if_neg (by omega),if_neg (by omega),if_pos (by omega)]at h
    unfold fuseT at h
    split at h
    ·rename_i hc
     simp only[Bool.and_eq_true]at hc
     exact rowB_nat hc.1.1
    ·cases h
   obtain⟨a,ha,han⟩:=hrow
   generalize hKS:t.map (rowK m.a.toNat)=KS
   obtain⟨o,h1,e',rfl,g1,g2⟩:=loop11' p t t' m ht1 a ha KS (by rw[←hKS];simp) fun i l hl=>by
    obtain⟨_,_,hll,_⟩:=hC.at hl
    have hr:=List.getElem?_eq_getElem (show a < l.length by omega)
    refine⟨_,hr,?_⟩
    rw[←hKS,List.getElem?_map,hl,ha]
    simp[rowK,hr]
   simp only[lb11_19,Tryz.f11,S11,hp11,bodyOf_some,sub_seq0,sub_seq1,sub_block,sub_loop,sub_nil,mvB_def,Mv.cs_def,Prg.cs_def]at h1
   simp at hk
   rw[hk]at h7 h1
   simp at h1
   refine⟨1,⟨by decide,fun h=>by cases h⟩,icall_ret (v:=.tup [.agg [int 6,int m.a,int 0,int 0,.lst 1 (KS.map intC) (.tok 0)],int 0]) (H:=[]) (K:=[t.length]) (by simp) (by simp) ?_ rfl rfl (by simp)⟩
   rw[call_eq (by decide) (by simp)]
   simp[Tryz.func11,Tryz.f11,envOf,h7,hk,ex_loop,firstReg,hp11,h1,g1,g2,leave_pure]
theorem law3' (M:Movers) (p:Prg) (is:List Inf) (e:Int) (hA:Asg p is e) (hnm:∀i ∈ is,i.nm.length≤12) (t:Tab) (ht:okTab t) (ht1:t.length≤1073741823) (m:Mv) (hm:m.list.length≤1073741824) (hk1: -9223372036854775808≤m.k) (hk2:m.k < 9223372036854775808)
  (few:Bool) (hF:icall X2 (call X2) 5 [.agg p.cs,.lst 1 [[.lst (szOf 1 (t.map rowsC)) (t.map rowsC) .no]] .no]=some (.ret (.bool few))) (hW:icall X2 (call X2) 6 []=some (.ret (.bool true)))
  (h9:m.list.length≤1000→icall X2 (call X2) 9 [.agg p.cs,.agg [.lst (szOf 1 (t.map rowsC)) (t.map rowsC) .no],.agg m.cs]=some (.ret (DoV (doO is e t m) (doE is e t m)))):
  call X2 3 [.agg p.cs,.agg [tabV t],.agg m.cs] [] []=some (.ret (.bool true),[],[]):=by
 have h7:=ic7 M p is e hA hnm t ht m hm
 replace h7:=And.intro (tr (by rfl) h7.1) h7.2
 rw[call_eq (by decide) (by simp)]
 simp only[Prg.cs_def]at hF
 by_cases h1:few=true
 ·subst h1
  by_cases h2:(1000:Int) < m.list.length
  ·simp[Tryz.func3,Tryz.f3,envOf,hF,hW,h2,leave_pure]
  ·have h9:=h9 (by omega)
   obtain⟨c2,⟨hc2,hce⟩,h10⟩:=ic10 M p is e hA hnm t ht ht1 m hm hk1 hk2
   obtain⟨c3,⟨hc3,hcf⟩,h11⟩:=ic11' p is e hnm t ht ht1 m hm ⟨h9,h7.2⟩ hk1 hk2
   have h8:=tr (by rfl) (ic8 m)
   replace h10:=tr (by rfl) h10
   have hbv:BackV (backO is e t m) c3=BackV (backO is e t m) c2:=by
    cases hb:backO is e t m with
    |some x=>rw[BackV_some,BackV_some]
    |none=>rw[hce hb,hcf hb]
   rw[hbv]at h11
   obtain⟨h7,hcz⟩:=h7
   simp only[Prg.cs_def,Mv.cs_def,ints_def,int_def]at h7 h8 h9 h10 h11
   have h12n:=tr (by rfl) (ic12 [] ⟨by simp,by simp⟩)
   have h13n:=tr (by rfl) (ic13 ⟨0,0,0,0,[]⟩ (by simp))
   have h14n:=tr (by rfl) (ic14 ⟨0,0,0,0,[]⟩)
   simp at h12n h13n h14n
   have hBl:∀x,backO is e t m=some x→x.list.length≤1073741824:=fun x hx=>by
    unfold backO at hx
    split at hx
    ·have:=back_len hx;omega
    ·cases hx
   have hOk:∀a,doO is e t m=some a→okTab a:=fun a hd=>by
    have hmv:chk is e t=0∧mvT is t m=some a:=by
     unfold doO at hd
     split at hd
     ·rename_i hc;exact⟨hc,hd⟩
     ·cases hd
    obtain⟨he,hC⟩:=chk_zero hmv.1
    exact(mv_ok hC hnm hmv.2).okTab (by rw[←hC.len];exact ht.1)
   cases hd:doO is e t m with
   |none=>
    have hb:backO is e t m=none:=by unfold backO;rw[hd]
    rw[hd,DoV_none]at h7 h9
    rw[hb,BackV_none]at h10 h11
    simp at h7 h9 h10 h11
    simp[Tryz.func3,Tryz.f3,envOf,hF,hW,h2,h7,h8,h9,h10,h11,h12n,h13n,h14n,leave_pure]
   |some a=>
    rw[hd,DoV_some]at h7 h9
    have h12:=tr (by rfl) (ic12 a (hOk a hd))
    simp at h7 h9 h12
    cases hb:backO is e t m with
    |none=>
     rw[hb,BackV_none]at h10 h11
     simp at h10 h11
     simp[Tryz.func3,Tryz.f3,envOf,hF,hW,h2,h7,h8,h9,h10,h11,h12,h13n,h14n,leave_pure]
    |some x=>
     have h13:=tr (by rfl) (ic13 x (hBl x hb))
     have h14:=tr (by rfl) (ic14 x)
     rw[hb,BackV_some]at h10 h11
     simp at h10 h11 h13 h14
     simp[Tryz.func3,Tryz.f3,envOf,hF,hW,h2,h7,h8,h9,h10,h11,h12,h13,h14,leave_pure]
 ·rw[Bool.not_eq_true]at h1
  subst h1
  simp[Tryz.func3,Tryz.f3,envOf,hF,hW,leave_pure]
theorem ic9' (t:PT) (is:List Inf) (e:Int) (h22:∀tb,okTab tb→icall X2 (call X2) 22 [.agg t.p.cs,.agg [.lst (szOf 1 (tb.map rowsC)) (tb.map rowsC) .no]]=some (.ret (.int .i64 (chk is e tb))))
  (hM:∀(tb:Tab) (m:Mv),okTab tb→chk is e tb=0→m.list.length≤1000→ -9223372036854775808≤m.k→m.k < 9223372036854775808→icall X2 (call X2) 23 [.agg t.p.cs,.agg [.lst (szOf 1 (tb.map rowsC)) (tb.map rowsC) .no],.agg m.cs]=some (.ret (DoV (mvT is tb m) (mvE tb m))))
  (tb:Tab) (ht:okTab tb) (m:Mv) (hm:m.list.length≤1000) (hk1: -9223372036854775808≤m.k) (hk2:m.k < 9223372036854775808):
  icall X2 (call X2) 9 [.agg t.p.cs,.agg [.lst (szOf 1 (tb.map rowsC)) (tb.map rowsC) .no],.agg m.cs]=some (.ret (DoV (doO is e tb m) (doE is e tb m))):=by
 have h:=h22 tb ht
 unfold doO doE
 by_cases hc:chk is e tb=0
 ·have h23:=hM tb m ht hc hm hk1 hk2
  rw[if_pos hc,if_pos hc]
  rw[hc]at h
  simp only[PT.cs,Mv.cs_def,ints_def,int_def]at h h23 ⊢
  cases hd:mvT is tb m with
  |some a=>
   rw[hd,DoV_some]at h23
   rw[DoV_some]
   simp at h23
   refine icall_ret (v:=.tup [.agg [tabV a],int 0]) (H:=[]) (K:=[]) (by simp) (by simp) ?_ rfl (by simp) (by simp)
   rw[call_eq (by decide) (by simp)]
   simp[Tryz.func9,Tryz.f9,envOf,h,h23,leave_pure]
  |none=>
   rw[hd,DoV_none]at h23
   rw[DoV_none]
   simp at h23
   refine icall_ret (v:=.tup [.agg [.lst 0 [] .no],int (mvE tb m)]) (H:=[]) (K:=[]) (by simp) (by simp) ?_ rfl (by simp) (by simp)
   rw[call_eq (by decide) (by simp)]
   simp[Tryz.func9,Tryz.f9,envOf,h,h23,leave_pure]
 ·rw[if_neg hc,if_neg hc,DoV_none]
  simp only[PT.cs]at h ⊢
  refine icall_ret (v:=.tup [.agg [.lst 0 [] .nil],int (chk is e tb)]) (H:=[]) (K:=[]) (by simp) (by simp) ?_ rfl (by simp) (by simp)
  rw[call_eq (by decide) (by simp)]
  simp[Tryz.func9,Tryz.f9,envOf,h,hc,leave_pure]
end T
end
section
open Go Go.Proofs Go.Sym
namespace T
theorem doesAs (t:PT) (h:t.Ok) (hx:xszL t.body≤1073741824) (tb:Tab) (ht:okTab tb) (ht1:tb.length≤1073741823) (m:Mv) (hm:m.list.length≤1073741824) (hk1: -9223372036854775808≤m.k) (hk2:m.k < 9223372036854775808):
  call X2 3 [.agg t.p.cs,.agg [tabV tb],.agg m.cs] [] []=some (.ret (.bool true),[],[]):=by
 obtain⟨is,hA,hn,his,hnl⟩:=asg t h
 obtain⟨few,hF⟩:=ic5 t tb h ht
 have hgood:∀tb,chk is (perr t) tb=0→GoodP t:=fun tb hc=>by
  apply Classical.byContradiction
  intro hg
  have he:perr t=1:=if_neg hg
  have:=(chk_zero hc).1
  omega
 have h22:∀tb,okTab tb→icall X2 (call X2) 22 [.agg t.p.cs,.agg [.lst (szOf 1 (tb.map rowsC)) (tb.map rowsC) .no]]=some (.ret (.int .i64 (chk is (perr t) tb))):=fun tb ht=>tr (by rfl) (by
  rw[ic22 t h hx tb ht]
  by_cases hg:GoodP t
  ·rw[chk_N,hnl hg]
  ·have he:perr t=1:=if_neg hg
   rw[he]
   rfl)
 exact law3' movers t.p is _ hA hn tb ht ht1 m hm hk1 hk2 few (tr (by rfl) hF) (tr (by rfl) ic6) fun hm'=>
  ic9' t is (perr t) h22 (fun tb m ht hc hm hk1 hk2=>tr23 (F23_eq t h (hgood tb hc) is hn his (hnl (hgood tb hc)) tb ht (chk_zero hc).2 m hm hk1 hk2)) tb ht m hm' hk1 hk2
end T
end
section
open Go Go.Proofs Go.Sym
namespace T
variable {H:Type}
def Img (n:Nat) (t:TypeId) {α:Type} (F:α→List AV):Prop:=∀(d:DataW H) vs,avT Tryz.prog n t d=some vs→∃x:α,vs=F x
theorem img_slice {t e:TypeId} (hu:Tryz.prog.underlying t=some (.slice e)) {α:Type} (F:α→List AV) {n:Nat} (he:∀m,m < n→Img (H:=H) m e F) {k:Nat} (hk:Tryz.prog.cellsOf e=k):Img (H:=H) n t (fun xs:List α=>[lst k (xs.map F)]):=fun d vs h=>by
 cases n with
 |zero=>unfold avT at h;cases h
 |succ n=>
  obtain⟨xs,rfl⟩:=iv_slice hu F (he n (Nat.lt_succ_self n)) d vs h
  exact⟨xs,by rw[hk];rfl⟩
theorem i3 (n:Nat):Img (H:=H) n 3 intC:=fun d vs h=>by
 obtain⟨i,rfl,_⟩:=iv_int Tryz.underlying3 d vs h
 exact⟨i,rfl⟩
theorem i9 (n:Nat):Img (H:=H) n 9 strC:=fun d vs h=>iv_str Tryz.underlying9 d vs h
theorem i30 (n:Nat):Img (H:=H) n 30 (fun l:List Int=>[ints l]):=img_slice Tryz.underlying30 intC (fun m _=>i3 m) (by kernel_rfl)
theorem i52 (n:Nat):Img (H:=H) n 52 Lin.cs:=fun d vs h=>by
 cases n with
 |zero=>unfold avT at h;cases h
 |succ n=>
  obtain⟨ds,g0⟩:=iv_struct Tryz.underlying52 d vs h
  obtain⟨d1,r1,c1,w1,a1,g1,rfl⟩:=iv_field g0
  obtain⟨d2,r2,c2,w2,a2,g2,rfl⟩:=iv_field g1
  obtain rfl:=iv_end g2
  obtain⟨l,rfl⟩:=i30 n d1 _ a1
  obtain⟨k,rfl⟩:=i3 n d2 _ a2
  exact⟨⟨l,k⟩,rfl⟩
theorem i54 (n:Nat):Img (H:=H) n 54 Row.cs:=fun d vs h=>by
 cases n with
 |zero=>unfold avT at h;cases h
 |succ n=>
  obtain⟨ds,g0⟩:=iv_struct Tryz.underlying54 d vs h
  obtain⟨d1,r1,c1,w1,a1,g1,rfl⟩:=iv_field g0
  obtain⟨d2,r2,c2,w2,a2,g2,rfl⟩:=iv_field g1
  obtain rfl:=iv_end g2
  obtain⟨l,rfl⟩:=i52 n d1 _ a1
  obtain⟨k,rfl⟩:=i3 n d2 _ a2
  exact⟨⟨l,k⟩,rfl⟩
theorem i50 (n:Nat):Img (H:=H) n 50 rowsC:=img_slice Tryz.underlying50 Row.cs (fun m _=>i54 m) (by kernel_rfl)
theorem i27 (n:Nat):Img (H:=H) n 27 (fun t:Tab=>[tabV t]):=img_slice Tryz.underlying27 rowsC (fun m _=>i50 m) (by kernel_rfl)
theorem i29 (n:Nat):Img (H:=H) n 29 (fun t:Tab=>[tabV t]):=fun d vs h=>by
 cases n with
 |zero=>unfold avT at h;cases h
 |succ n=>
  obtain⟨ds,g0⟩:=iv_struct Tryz.underlying29 d vs h
  obtain⟨d1,r1,c1,w1,a1,g1,rfl⟩:=iv_field g0
  obtain rfl:=iv_end g1
  obtain⟨t,rfl⟩:=i27 n d1 _ a1
  exact⟨t,rfl⟩
theorem i73 (n:Nat):Img (H:=H) n 73 (fun l:List Lin=>[lst 2 (l.map Lin.cs)]):=img_slice Tryz.underlying73 Lin.cs (fun m _=>i52 m) (by kernel_rfl)
theorem i75 (n:Nat):Img (H:=H) n 75 Arr.cs:=fun d vs h=>by
 cases n with
 |zero=>unfold avT at h;cases h
 |succ n=>
  obtain⟨ds,g0⟩:=iv_struct Tryz.underlying75 d vs h
  obtain⟨d1,r1,c1,w1,a1,g1,rfl⟩:=iv_field g0
  obtain⟨d2,r2,c2,w2,a2,g2,rfl⟩:=iv_field g1
  obtain rfl:=iv_end g2
  obtain⟨x,rfl⟩:=i9 n d1 _ a1
  obtain⟨l,rfl⟩:=i73 n d2 _ a2
  exact⟨⟨x,l⟩,rfl⟩
theorem i79 (n:Nat):Img (H:=H) n 79 (fun x:Int×List Lin=>[.int .i64 x.1,lst 2 (x.2.map Lin.cs)]):=fun d vs h=>by
 cases n with
 |zero=>unfold avT at h;cases h
 |succ n=>
  obtain⟨ds,g0⟩:=iv_struct Tryz.underlying79 d vs h
  obtain⟨d1,r1,c1,w1,a1,g1,rfl⟩:=iv_field g0
  obtain⟨d2,r2,c2,w2,a2,g2,rfl⟩:=iv_field g1
  obtain rfl:=iv_end g2
  obtain⟨x,rfl⟩:=i3 n d1 _ a1
  obtain⟨l,rfl⟩:=i73 n d2 _ a2
  exact⟨(x,l),rfl⟩
theorem i84 (n:Nat):Img (H:=H) n 84 (fun t:Tab=>[tabV t]):=fun d vs h=>by
 cases n with
 |zero=>unfold avT at h;cases h
 |succ n=>
  obtain⟨ds,g0⟩:=iv_struct Tryz.underlying84 d vs h
  obtain⟨d1,r1,c1,w1,a1,g1,rfl⟩:=iv_field g0
  obtain rfl:=iv_end g1
  obtain⟨t,rfl⟩:=i27 n d1 _ a1
  exact⟨t,rfl⟩
theorem i209 (n:Nat):Img (H:=H) n 209 Cnd.cs:=fun d vs h=>by
 cases n with
 |zero=>unfold avT at h;cases h
 |succ n=>
  obtain⟨ds,g0⟩:=iv_struct Tryz.underlying209 d vs h
  obtain⟨d1,r1,c1,w1,a1,g1,rfl⟩:=iv_field g0
  obtain⟨d2,r2,c2,w2,a2,g2,rfl⟩:=iv_field g1
  obtain⟨d3,r3,c3,w3,a3,g3,rfl⟩:=iv_field g2
  obtain rfl:=iv_end g3
  obtain⟨x,rfl⟩:=i3 n d1 _ a1
  obtain⟨y,rfl⟩:=i3 n d2 _ a2
  obtain⟨l,rfl⟩:=i52 n d3 _ a3
  exact⟨⟨x,y,l⟩,rfl⟩
theorem i132 (n:Nat):Img (H:=H) n 132 pieC:=img_slice Tryz.underlying132 Cnd.cs (fun m _=>i209 m) (by kernel_rfl)
theorem i86 (n:Nat):Img (H:=H) n 86 (fun l:List (List Cnd)=>[lst 1 (l.map pieC)]):=img_slice Tryz.underlying86 pieC (fun m _=>i132 m) (by kernel_rfl)
theorem i88 (n:Nat):Img (H:=H) n 88 (fun x:Int×List (List Cnd)=>[.int .i64 x.1,lst 1 (x.2.map pieC)]):=fun d vs h=>by
 cases n with
 |zero=>unfold avT at h;cases h
 |succ n=>
  obtain⟨ds,g0⟩:=iv_struct Tryz.underlying88 d vs h
  obtain⟨d1,r1,c1,w1,a1,g1,rfl⟩:=iv_field g0
  obtain⟨d2,r2,c2,w2,a2,g2,rfl⟩:=iv_field g1
  obtain rfl:=iv_end g2
  obtain⟨x,rfl⟩:=i3 n d1 _ a1
  obtain⟨l,rfl⟩:=i86 n d2 _ a2
  exact⟨(x,l),rfl⟩
theorem i82:∀(n:Nat),Img (H:=H) n 82 Ex.cs:=fun n=>by
 induction n using Nat.strongRecOn with
 |_ n ih=>
 intro d vs h
 cases n with
 |zero=>unfold avT at h;cases h
 |succ n=>
  obtain⟨ds,g0⟩:=iv_struct Tryz.underlying82 d vs h
  have ir:Img (H:=H) n 80 (fun l:List Ex=>[lst 7 (l.map Ex.cs)]):=img_slice Tryz.underlying80 Ex.cs (fun m hm=>ih m (by omega)) (by kernel_rfl)
  obtain⟨d1,r1,c1,w1,a1,g1,rfl⟩:=iv_field g0
  obtain⟨d2,r2,c2,w2,a2,g2,rfl⟩:=iv_field g1
  obtain⟨d3,r3,c3,w3,a3,g3,rfl⟩:=iv_field g2
  obtain⟨d4,r4,c4,w4,a4,g4,rfl⟩:=iv_field g3
  obtain⟨d5,r5,c5,w5,a5,g5,rfl⟩:=iv_field g4
  obtain rfl:=iv_end g5
  obtain⟨x1,rfl⟩:=i3 n d1 _ a1
  obtain⟨x2,rfl⟩:=i3 n d2 _ a2
  obtain⟨x3,rfl⟩:=i52 n d3 _ a3
  obtain⟨x4,rfl⟩:=i79 n d4 _ a4
  obtain⟨x5,rfl⟩:=ir d5 _ a5
  exact⟨Ex.mk x1 x2 x3 x4.1 x4.2 x5,by rw[Ex.cs_mk];rfl⟩
theorem i90:∀(n:Nat),Img (H:=H) n 90 Stm.cs:=fun n=>by
 induction n using Nat.strongRecOn with
 |_ n ih=>
 intro d vs h
 cases n with
 |zero=>unfold avT at h;cases h
 |succ n=>
  obtain⟨ds,g0⟩:=iv_struct Tryz.underlying90 d vs h
  have ir:Img (H:=H) n 24 (fun l:List Stm=>[lst 19 (l.map Stm.cs)]):=img_slice Tryz.underlying24 Stm.cs (fun m hm=>ih m (by omega)) (by kernel_rfl)
  obtain⟨d1,r1,c1,w1,a1,g1,rfl⟩:=iv_field g0
  obtain⟨d2,r2,c2,w2,a2,g2,rfl⟩:=iv_field g1
  obtain⟨d3,r3,c3,w3,a3,g3,rfl⟩:=iv_field g2
  obtain⟨d4,r4,c4,w4,a4,g4,rfl⟩:=iv_field g3
  obtain⟨d5,r5,c5,w5,a5,g5,rfl⟩:=iv_field g4
  obtain⟨d6,r6,c6,w6,a6,g6,rfl⟩:=iv_field g5
  obtain⟨d7,r7,c7,w7,a7,g7,rfl⟩:=iv_field g6
  obtain⟨d8,r8,c8,w8,a8,g8,rfl⟩:=iv_field g7
  obtain⟨d9,r9,c9,w9,a9,g9,rfl⟩:=iv_field g8
  obtain⟨d10,r10,c10,w10,a10,g10,rfl⟩:=iv_field g9
  obtain⟨d11,r11,c11,w11,a11,g11,rfl⟩:=iv_field g10
  obtain rfl:=iv_end g11
  obtain⟨x1,rfl⟩:=i3 n d1 _ a1
  obtain⟨x2,rfl⟩:=i9 n d2 _ a2
  obtain⟨x3,rfl⟩:=i84 n d3 _ a3
  obtain⟨x4,rfl⟩:=i84 n d4 _ a4
  obtain⟨x5,rfl⟩:=i3 n d5 _ a5
  obtain⟨x6,rfl⟩:=i3 n d6 _ a6
  obtain⟨x7,rfl⟩:=i88 n d7 _ a7
  obtain⟨x8,rfl⟩:=i79 n d8 _ a8
  obtain⟨x9,rfl⟩:=i82 n d9 _ a9
  obtain⟨x10,rfl⟩:=ir d10 _ a10
  obtain⟨x11,rfl⟩:=ir d11 _ a11
  exact⟨Stm.mk x1 x2 x3 x4 x5 x6 x7.1 x7.2 x8.1 x8.2 x9 x10 x11,by rw[Stm.cs,Stm.csL_map,Stm.csL_map];simp[intC,strC]⟩
theorem i24 (n:Nat):Img (H:=H) n 24 (fun l:List Stm=>[lst 19 (l.map Stm.cs)]):=img_slice Tryz.underlying24 Stm.cs (fun m _=>i90 m) (by kernel_rfl)
theorem i22 (n:Nat):Img (H:=H) n 22 (fun l:List ByteArray=>[lst 1 (l.map strC)]):=img_slice Tryz.underlying22 strC (fun m _=>i9 m) (by kernel_rfl)
theorem i23 (n:Nat):Img (H:=H) n 23 (fun l:List Arr=>[lst 2 (l.map Arr.cs)]):=img_slice Tryz.underlying23 Arr.cs (fun m _=>i75 m) (by kernel_rfl)
theorem i26 (n:Nat):Img (H:=H) n 26 (fun t:PT=>t.p.cs):=fun d vs h=>by
 cases n with
 |zero=>unfold avT at h;cases h
 |succ n=>
  obtain⟨ds,g0⟩:=iv_struct Tryz.underlying26 d vs h
  obtain⟨d1,r1,c1,w1,a1,g1,rfl⟩:=iv_field g0
  obtain⟨d2,r2,c2,w2,a2,g2,rfl⟩:=iv_field g1
  obtain⟨d3,r3,c3,w3,a3,g3,rfl⟩:=iv_field g2
  obtain rfl:=iv_end g3
  obtain⟨a,rfl⟩:=i22 n d1 _ a1
  obtain⟨b,rfl⟩:=i23 n d2 _ a2
  obtain⟨c,rfl⟩:=i24 n d3 _ a3
  exact⟨⟨a,b,c⟩,rfl⟩
end T
end
section
open Go Go.Proofs Go.Sym Go.Proofs.YtfephppemgmokaaGreatDoor
namespace T
mutual
def lenV (N:Nat):AV→Prop
 | .lst _ rows _=>rows.length≤N∧lenR N rows
 | .str s=>s.size≤N
 |_=>True
def lenC (N:Nat):List AV→Prop
 | []=>True
 |v::r=>lenV N v∧lenC N r
def lenR (N:Nat):List (List AV)→Prop
 | []=>True
 |r::q=>lenC N r∧lenR N q
end
theorem lenC_append {N:Nat}:∀{a b:List AV},lenC N a→lenC N b→lenC N (a++b)
 | [],_,_,h=>h
 |v::r,b,h,h'=>by
  simp only[lenC,List.cons_append]at h ⊢
  exact⟨h.1,lenC_append h.2 h'⟩
section
variable {H:Type} {P:Program}
theorem avR_len {n:Nat} {e:TypeId} (ih:∀(d:DataW H) vs,avT P n e d=some vs→∀N,Rows.uptoBulk d≤N→lenC N vs) (N:Nat):∀(ds:List (DataW H)) (rows:List (List AV)),avR P n e ds=some rows→Rows.uptoBulkAll ds≤N→lenR N rows∧rows.length≤Rows.uptoBulkAll ds
 | [],rows,h,_=>by
  unfold avR at h
  cases h
  exact⟨trivial,Nat.zero_le _⟩
 |d::r,rows,h,hN=>by
  unfold avR at h
  obtain⟨row,h1,h⟩:=ob_eq h
  obtain⟨rs,h2,h⟩:=ob_eq h
  cases h
  simp only[Rows.uptoBulkAll]at hN ⊢
  obtain⟨a1,a2⟩:=avR_len ih N r rs h2 (by omega)
  have hb:1≤Rows.uptoBulk d:=by
   cases d with
   |lit l=>cases l <;> simp[Rows.uptoBulk]
   |_=>simp[Rows.uptoBulk]
  refine⟨⟨ih d row h1 N (by omega),a1⟩,by rw[List.length_cons];omega⟩
theorem avF_len {n:Nat} (ih:∀t (d:DataW H) vs,avT P n t d=some vs→∀N,Rows.uptoBulk d≤N→lenC N vs) (N:Nat):∀(fs:List Field) (off:Nat) (ds:List (DataW H)) (vs:List AV),avF P n off fs ds=some vs→Rows.uptoBulkAll ds≤N→lenC N vs
 | [],off,ds,vs,h,_=>by
  obtain rfl:=iv_end h
  trivial
 |f::r,off,[],vs,h,_=>by unfold avF at h;cases h
 |f::r,off,d::ds,vs,h,hN=>by
  unfold avF at h
  split at h
  ·obtain⟨cs,h1,h⟩:=ob_eq h
   split at h
   ·obtain⟨ws,h2,h⟩:=ob_eq h
    cases h
    simp only[Rows.uptoBulkAll]at hN
    exact lenC_append (ih _ d cs h1 N (by omega)) (avF_len ih N r _ ds ws h2 (by omega))
   ·cases h
  ·cases h
theorem av_len:∀(n:Nat) (t:TypeId) (d:DataW H) vs,avT P n t d=some vs→∀N,Rows.uptoBulk d≤N→lenC N vs
 |0,t,d,vs,h,N,_=>by unfold avT at h;cases h
 |n+1,t,d,vs,h,N,hN=>by
  unfold avT at h
  split at h
  ·cases h;exact⟨trivial,trivial⟩
  ·split at h
   ·cases h;exact⟨trivial,trivial⟩
   ·cases h
  ·cases h
   rename_i s _
   refine⟨?_,trivial⟩
   simp only[Rows.uptoBulk]at hN
   show s.toArray.size≤N
   simp
   omega
  ·cases h;exact⟨trivial,trivial⟩
  ·cases h;exact⟨⟨Nat.zero_le _,trivial⟩,trivial⟩
  ·split at h
   ·cases h
   ·obtain⟨rows,h1,h⟩:=ob_eq h
    cases h
    simp only[Rows.uptoBulk]at hN
    obtain⟨a1,a2⟩:=avR_len (fun d vs h N hN=>av_len n _ d vs h N hN) N _ rows h1 (by omega)
    exact⟨⟨by omega,a1⟩,trivial⟩
  ·simp only[Rows.uptoBulk]at hN
   exact avF_len (fun t d vs h N hN=>av_len n t d vs h N hN) N _ _ _ vs h (by omega)
  ·cases h
end
end T
end
section
open Go Go.Proofs Go.Sym
namespace T
theorem lenR_map {α:Type} {F:α→List AV} {N:Nat}:∀{xs:List α},lenR N (xs.map F)→∀x ∈ xs,lenC N (F x)
 |y::r,h,x,hx=>by
  simp only[List.map_cons,lenR]at h
  rcases List.mem_cons.1 hx with rfl |hx
  ·exact h.1
  ·exact lenR_map h.2 x hx
section
variable {N:Nat} (hN:N≤1073741823)
include hN
theorem ok_ints {l:List Int} (h:lenV N (ints l)):l.length≤1073741823:=by
 have:(l.map intC).length≤N:=h.1
 rw[List.length_map]at this
 omega
theorem ok_lin {l:Lin} (h:lenC N l.cs):okLin l:=by
 have:=ok_ints hN h.1
 show l.C.length≤1073741824
 omega
theorem ok_lst {k:Nat} {rows:List (List AV)} (h:lenV N (lst k rows)):rows.length≤1073741823∧lenR N rows:=by
 have h:rows.length≤N∧lenR N rows:=h
 exact⟨by omega,h.2⟩
theorem ok_lins {l:List Lin} (h:lenV N (lst 2 (l.map Lin.cs))):okLins l:=by
 obtain⟨h1,h2⟩:=ok_lst hN h
 rw[List.length_map]at h1
 exact⟨h1,fun x hx=>ok_lin hN (lenR_map h2 x hx)⟩
theorem ok_tab' {t:Tab} (h:lenV N (tabV t)):okTab' t:=by
 obtain⟨h1,h2⟩:=ok_lst hN h
 rw[List.length_map]at h1
 refine⟨h1,fun l hl=>?_⟩
 have h3:lenV N (lst 3 (l.map Row.cs)):=(lenR_map h2 l hl).1
 obtain⟨h4,h5⟩:=ok_lst hN h3
 rw[List.length_map]at h4
 refine⟨h4,fun r hr=>?_⟩
 have h6:lenC N r.cs:=lenR_map h5 r hr
 have h7:=ok_ints hN h6.1
 show r.L.C.length≤1073741824
 omega
theorem ok_ex:∀(n:Nat) (e:Ex),nsz e≤n→lenC N e.cs→OkEx e
 |0,.mk ..,h,_=>by simp[nsz]at h
 |n+1,.mk op k L rA subs args,hn,h=>by
  rw[Ex.cs_mk]at h
  obtain⟨_,_,h1,_,_,h2,h3,_⟩:=h
  obtain⟨a1,a2⟩:=ok_lst hN h3
  rw[List.length_map]at a1
  refine .mk ?_ (ok_lins hN h2) a1 fun a ha=>ok_ex n a ?_ (lenR_map a2 a ha)
  ·have:=ok_ints hN h1
   show L.C.length≤1073741824
   omega
  ·have:=nszL_mem args a ha
   simp only[nsz]at hn
   omega
theorem ok_pie {p:List (List Cnd)} (h:lenV N (lst 1 (p.map pieC))):okPie p:=by
 obtain⟨h1,h2⟩:=ok_lst hN h
 rw[List.length_map]at h1
 refine⟨h1,fun l hl=>?_⟩
 have h3:lenV N (lst 4 (l.map Cnd.cs)):=(lenR_map h2 l hl).1
 obtain⟨h4,h5⟩:=ok_lst hN h3
 rw[List.length_map]at h4
 refine⟨h4,fun c hc=>?_⟩
 have h6:lenC N c.cs:=lenR_map h5 c hc
 have h7:=ok_ints hN h6.2.2.1
 show c.L.C.length≤1073741824
 omega
omit hN in
theorem sszL_mem {l:List Stm} (e:Stm) (h:e ∈ l):ssz e≤sszL l:=by
 induction l with
 |nil=>cases h
 |cons a r ih=>
  rcases List.mem_cons.1 h with rfl |h
  ·simp[sszL]
  ·have:=ih h;simp[sszL];omega
theorem ok_stm:∀(n:Nat) (s:Stm),ssz s≤n→lenC N s.cs→OkStm s
 |0,.mk ..,h,_=>by simp[ssz]at h
 |n+1,.mk kind name low high step mark dim pieces tA tS (.mk op k L rA subs args) body els,hn,h=>by
  rw[Stm.cs_mk]at h
  obtain⟨_,a2,a3,a4,_,_,_,a8,_,a10,b1,b2,b3,b4,b5,b6,b7,a12,a13,_⟩:=h
  have hex:lenC N (Ex.cs (.mk op k L rA subs args)):=by rw[Ex.cs_mk];exact⟨b1,b2,b3,b4,b5,b6,b7,trivial⟩
  obtain⟨c1,c2⟩:=ok_lst hN a12
  obtain⟨c3,c4⟩:=ok_lst hN a13
  rw[List.length_map]at c1 c3
  simp only[ssz]at hn
  refine .mk ?_ (ok_tab' hN a3) (ok_tab' hN a4) (ok_pie hN a8) (ok_lins hN a10) (ok_ex hN _ _ (Nat.le_refl _) hex) c1 c3 (fun s hs=>ok_stm n s (by have:=sszL_mem s hs;omega) (lenR_map c2 s hs)) fun s hs=>ok_stm n s (by have:=sszL_mem s hs;omega) (lenR_map c4 s hs)
  ·have h:name.size≤N:=a2
   omega
theorem ok_pt {t:PT} (h:lenC N t.p.cs):t.Ok:=by
 obtain⟨h1,h2,h3,_⟩:=h
 obtain⟨a1,a2⟩:=ok_lst (k:=1) hN h1
 obtain⟨b1,b2⟩:=ok_lst (k:=2) hN h2
 obtain⟨c1,c2⟩:=ok_lst (k:=19) hN h3
 simp only[PT.p_a,PT.p_b,PT.p_c,List.length_map]at a1 b1 c1
 refine⟨a1,fun s hs=>?_,b1,fun a ha=>?_,c1,fun s hs=>ok_stm hN _ s (Nat.le_refl _) (lenR_map c2 s hs)⟩
 ·have h:lenC N (strC s):=lenR_map a2 s hs
  have h:s.size≤N:=h.1
  omega
 ·have h:lenC N a.cs:=lenR_map b2 a ha
  have h':a.name.size≤N:=h.1
  exact⟨by omega,ok_lins hN h.2.1⟩
theorem ok_table {t:Tab} (h:lenC N [tabV t]):okTab t∧t.length≤1073741823:=by
 obtain⟨h1,h2⟩:=ok_tab' hN h.1
 refine⟨⟨by omega,fun l hl=>?_⟩,h1⟩
 obtain⟨a1,a2⟩:=h2 l hl
 exact⟨by omega,fun r hr=>a2 r hr⟩
end
theorem i32 {H:Type} (n:Nat) (d:DataW H) (vs:List AV) (h:avT Tryz.prog n 32 d=some vs):∃m:Mv,vs=m.cs∧ -9223372036854775808≤m.k∧m.k < 9223372036854775808:=by
 cases n with
 |zero=>unfold avT at h;cases h
 |succ n=>
  obtain⟨ds,g0⟩:=iv_struct Tryz.underlying32 d vs h
  obtain⟨d1,r1,c1,w1,a1,g1,rfl⟩:=iv_field g0
  obtain⟨d2,r2,c2,w2,a2,g2,rfl⟩:=iv_field g1
  obtain⟨d3,r3,c3,w3,a3,g3,rfl⟩:=iv_field g2
  obtain⟨d4,r4,c4,w4,a4,g4,rfl⟩:=iv_field g3
  obtain⟨d5,r5,c5,w5,a5,g5,rfl⟩:=iv_field g4
  obtain rfl:=iv_end g5
  obtain⟨x1,rfl⟩:=i3 n d1 _ a1
  obtain⟨x2,rfl⟩:=i3 n d2 _ a2
  obtain⟨x3,rfl⟩:=i3 n d3 _ a3
  obtain⟨x4,rfl,hk1,hk2⟩:=iv_int Tryz.underlying3 d4 _ a4
  obtain⟨x5,rfl⟩:=i30 n d5 _ a5
  have e1:IntKind.i64.min=-9223372036854775808:=rfl
  have e2:IntKind.i64.max=9223372036854775807:=rfl
  exact⟨⟨x1,x2,x3,x4,x5⟩,rfl,by rw[e1]at hk1;exact hk1,by rw[e2]at hk2;show x4 < _;omega⟩
end T
end
section
open Go Go.Proofs Go.Sym Go.Proofs.YtfephppemgmokaaGreatDoor
namespace T
mutual
def wV:AV→Nat
 | .lst _ rows _=>wR rows
 |_=>0
def wC:List AV→Nat
 | []=>0
 |v::r=>wV v+wC r
def wR:List (List AV)→Nat
 | []=>0
 |r::q=>1+wC r+wR q
end
theorem wC_append:∀{a b:List AV},wC (a++b)=wC a+wC b
 | [],_=>by simp[wC]
 |v::r,b=>by
  simp only[wC,List.cons_append,wC_append (a:=r) (b:=b)]
  omega
section
variable {H:Type} {P:Program}
theorem avR_w {n:Nat} {e:TypeId} (ih:∀(d:DataW H) vs,avT P n e d=some vs→wC vs+1≤Rows.uptoBulk d):∀(ds:List (DataW H)) (rows:List (List AV)),avR P n e ds=some rows→wR rows≤Rows.uptoBulkAll ds
 | [],rows,h=>by
  unfold avR at h
  cases h
  exact Nat.zero_le _
 |d::r,rows,h=>by
  unfold avR at h
  obtain⟨row,h1,h⟩:=ob_eq h
  obtain⟨rs,h2,h⟩:=ob_eq h
  cases h
  simp only[Rows.uptoBulkAll,wR]
  have a1:=avR_w ih r rs h2
  have a2:=ih d row h1
  omega
theorem avF_w {n:Nat} (ih:∀t (d:DataW H) vs,avT P n t d=some vs→wC vs+1≤Rows.uptoBulk d):∀(fs:List Field) (off:Nat) (ds:List (DataW H)) (vs:List AV),avF P n off fs ds=some vs→wC vs≤Rows.uptoBulkAll ds
 | [],off,ds,vs,h=>by
  obtain rfl:=iv_end h
  exact Nat.zero_le _
 |f::r,off,[],vs,h=>by unfold avF at h;cases h
 |f::r,off,d::ds,vs,h=>by
  unfold avF at h
  split at h
  ·obtain⟨cs,h1,h⟩:=ob_eq h
   split at h
   ·obtain⟨ws,h2,h⟩:=ob_eq h
    cases h
    simp only[Rows.uptoBulkAll,wC_append]
    have a1:=ih _ d cs h1
    have a2:=avF_w ih r _ ds ws h2
    omega
   ·cases h
  ·cases h
theorem av_w:∀(n:Nat) (t:TypeId) (d:DataW H) vs,avT P n t d=some vs→wC vs+1≤Rows.uptoBulk d
 |0,t,d,vs,h=>by unfold avT at h;cases h
 |n+1,t,d,vs,h=>by
  have one:∀d:DataW H,1≤Rows.uptoBulk d:=fun d=>by
   cases d with
   |lit l=>cases l <;> simp[Rows.uptoBulk]
   |_=>simp[Rows.uptoBulk]
  unfold avT at h
  split at h
  ·cases h;exact one _
  ·split at h
   ·cases h;exact one _
   ·cases h
  ·cases h;exact one _
  ·cases h;exact one _
  ·cases h;exact one _
  ·split at h
   ·cases h
   ·obtain⟨rows,h1,h⟩:=ob_eq h
    cases h
    simp only[Rows.uptoBulk,wC,wV]
    have a1:=avR_w (fun d vs h=>av_w n _ d vs h) _ rows h1
    omega
  ·simp only[Rows.uptoBulk]
   have:=avF_w (fun t d vs h=>av_w n t d vs h) _ _ _ vs h
   omega
  ·cases h
end
theorem wR_map {α:Type} {F:α→List AV} {g:α→Nat}:∀{xs:List α},(∀ x ∈ xs,g x≤1+wC (F x))→(xs.map g).sum≤wR (xs.map F)
 | [],_=>Nat.zero_le _
 |x::r,h=>by
  simp only[List.map_cons,List.sum_cons,wR]
  have a1:=h x (by simp)
  have a2:=wR_map (F:=F) (g:=g) (xs:=r) fun y hy=>h y (by simp[hy])
  omega
theorem nszL_sum:∀l:List Ex,nszL l=(l.map nsz).sum
 | []=>rfl
 |a::r=>by simp only[nszL,List.map_cons,List.sum_cons,nszL_sum r]
theorem xszL_sum:∀l:List Stm,xszL l=(l.map xszS).sum
 | []=>rfl
 |a::r=>by simp only[xszL,List.map_cons,List.sum_cons,xszL_sum r]
theorem w_lst (k:Nat) (rows:List (List AV)):wV (lst k rows)=wR rows:=by rw[lst_def];rfl
theorem w_ex:∀(n:Nat) (e:Ex),nsz e≤n→nsz e≤1+wC e.cs
 |0,.mk ..,h=>by simp[nsz]at h
 |n+1,.mk op k L rA subs args,hn=>by
  rw[Ex.cs_mk]
  simp only[nsz]at hn ⊢
  have h1:=wR_map (F:=Ex.cs) (g:=nsz) (xs:=args) fun a ha=>w_ex n a (by have:=nszL_mem args a ha;omega)
  rw[←nszL_sum]at h1
  simp only[wC,w_lst]
  omega
theorem w_stm:∀(n:Nat) (s:Stm),ssz s≤n→xszS s≤1+wC s.cs
 |0,.mk ..,h=>by simp[ssz]at h
 |n+1,.mk kind name low high step mark dim pieces tA tS (.mk op k L rA subs args) body els,hn=>by
  have he:=w_ex _ (.mk op k L rA subs args) (Nat.le_refl _)
  rw[Ex.cs_mk]at he
  rw[Stm.cs_mk]
  simp only[ssz]at hn
  simp only[xszS]
  have h1:=wR_map (F:=Stm.cs) (g:=xszS) (xs:=body) fun a ha=>w_stm n a (by have:=sszL_mem a ha;omega)
  have h2:=wR_map (F:=Stm.cs) (g:=xszS) (xs:=els) fun a ha=>w_stm n a (by have:=sszL_mem a ha;omega)
  rw[←xszL_sum]at h1 h2
  simp only[wC,w_lst,wC_append]at he ⊢
  omega
theorem w_pt (t:PT):xszL t.body≤wC t.p.cs:=by
 have h1:=wR_map (F:=Stm.cs) (g:=xszS) (xs:=t.body) fun a _=>w_stm _ a (Nat.le_refl _)
 rw[←xszL_sum]at h1
 simp only[Prg.cs_def,wC,PT.p_a,PT.p_b,PT.p_c,w_lst]
 show _≤_+(_+(wV (lst 19 _)+0))
 rw[w_lst]
 omega
end T
end
section
open Go Go.Proofs Go.Sym Go.RowKit Go.ChangeShapes Go.WideShapes Go.ChangeAt Go.Proofs.YtfephppemgmokaaGreatDoor
namespace T
def typesS:List Nat:=[26,29,32,22,23,24,27,30,50,52,54,73,75,79,80,82,84,86,88,90,132,209,3,9]
theorem typesOK:∀t ∈ typesS,plainT Tryz.prog typesS t=true:=by
 have h:typesS.all (fun t=>plainT Tryz.prog typesS t)=true:=by kernel_rfl
 exact fun t ht=>List.all_eq_true.1 h t ht
set_option maxRecDepth 100000
theorem agg_of {W:World} {base:Nat} {t:TypeId} {v:Value} {fs:Array Field} (hu:Tryz.prog.underlying t=some (.struct fs)) (h:Value.okWide Tryz.prog W .any base t v):∃cs,v= .agg cs:=by
 unfold Value.okWide at h
 rw[hu]at h
 obtain⟨cs,h,_⟩:=h
 exact⟨cs,h⟩
theorem contract (H:Type) (enc:TypeId×Value→H) (W:World) (base:Nat) (args:Array Value) (ds gs:List (DataW H)) (before:List MemPlace)
  (hval:∀(j:Nat) t v,Tryz.f3.params[j]? =some t→args[j]? =some v→Value.okWide Tryz.prog W .any base t v)
  (hW:DataW.Whole enc Tryz.prog Tryz.f3.params.toList Rows.movesDoSpec.vars false W args.toList ds gs before) (hk:Rows.uptoBulkAll ds≤1048576) (hg:GlobOK W W.heap.size):
  Calls Tryz.prog 3 args W fun e W'=>∃v,e= .returned v∧Rows.movesDoSpec.post enc Tryz.prog Tryz.f3 false true false false W args v W':=by
 have hW':=hW
 obtain⟨p,q,hA0,hV,rfl,hfz,hnd⟩:=hW
 have hA:DataW.TrodAll enc Tryz.prog W 0 (fun _=>true) true Tryz.f3.params.toList args.toList ds p:=hA0
 rw[Tryz.params3]at hA hval
 obtain⟨v0,vs0,d0,ds0,p0,q0,hargs,rfl,rfl,h0,r0⟩:=trodAll_cons hA
 obtain⟨v1,vs1,d1,ds1,p1,q1,rfl,rfl,rfl,h1,r1⟩:=trodAll_cons r0
 obtain⟨v2,vs2,d2,ds2,p2,q2,rfl,rfl,rfl,h2,r2⟩:=trodAll_cons r1
 obtain⟨rfl,rfl,rfl⟩:=trodAll_nil r2
 obtain rfl:args= #[v0,v1,v2]:=by simpa using congrArg List.toArray hargs
 obtain⟨rfl,rfl⟩:=trodVars_none hV
 have f0:=agg_of Tryz.underlying26 (hval 0 26 v0 (by simp) (by simp))
 have f1:=agg_of Tryz.underlying29 (hval 1 29 v1 (by simp) (by simp))
 have f2:=agg_of Tryz.underlying32 (hval 2 32 v2 (by simp) (by simp))
 obtain⟨c0,rfl⟩:=f0
 obtain⟨c1,rfl⟩:=f1
 obtain⟨c2,rfl⟩:=f2
 obtain⟨n0,h0⟩:=h0
 obtain⟨n1,h1⟩:=h1
 obtain⟨n2,h2⟩:=h2
 obtain⟨vs0,a0,ok0,_⟩:=trod_av typesS typesOK n0 26 _ _ _ (by decide) h0
 obtain⟨vs1,a1,ok1,_⟩:=trod_av typesS typesOK n1 29 _ _ _ (by decide) h1
 obtain⟨vs2,a2,ok2,_⟩:=trod_av typesS typesOK n2 32 _ _ _ (by decide) h2
 simp only[Rows.uptoBulkAll]at hk
 have l0:=av_len n0 26 d0 vs0 a0 1048576 (by omega)
 have l1:=av_len n1 29 d1 vs1 a1 1048576 (by omega)
 have l2:=av_len n2 32 d2 vs2 a2 1048576 (by omega)
 have w0:=av_w n0 26 d0 vs0 a0
 obtain⟨t,rfl⟩:=i26 n0 d0 vs0 a0
 obtain⟨tb,rfl⟩:=i29 n1 d1 vs1 a1
 obtain⟨m,rfl,hk1,hk2⟩:=i32 n2 d2 vs2 a2
 have hN:(1048576:Nat)≤1073741823:=by decide
 obtain⟨t1,t2⟩:=ok_table hN l1
 have lm:=ok_ints hN l2.2.2.2.2.1
 have hu:=doesAs t (ok_pt hN l0) (by have h1:=w_pt t;have h2:wC t.p.cs+1≤Rows.uptoBulk d0:=w0;omega) tb t1 t2 m (by omega) hk1 hk2
 have hrep:RepL (topL W) W [.agg t.p.cs,.agg [tabV tb],.agg m.cs] #[Value.agg c0,.agg c1,.agg c2].toList:=by
  simp only[RepL,Rep]
  exact⟨_,_,rfl,⟨c0,rfl,ok0.1⟩,_,_,rfl,⟨c1,rfl,ok1.1⟩,_,_,rfl,⟨c2,rfl,ok2.1⟩,rfl⟩
 refine Calls.mono (top_bool x2OK (by decide) hu hg hrep) ?_
 rintro e W' ⟨rfl,hb⟩
 refine⟨_,rfl,post_keep (pa:=p0++(p1++(p2++[]))) (pv:=[]) hW' (fun _ _ _=>trodAll_cons_mk (shut_bool Tryz.underlying4 _) trodAll_mk0) (fun sp hsp=>?_) (fun _ _=>rfl) rfl ?_ (fun b off hp=>?_) (ok_one (by kernel_rfl) rfl (okWide_bool_mk Tryz.underlying4 _))⟩
 ·have s0:∀p ∈ p0,sp p.block=true:=fun p hp=>hsp p (by simp[hp])
  have s1:∀p ∈ p1,sp p.block=true:=fun p hp=>hsp p (by simp[hp])
  have s2:∀p ∈ p2,sp p.block=true:=fun p hp=>hsp p (by simp[hp])
  rw[Tryz.params3]
  exact⟨p0,p1++(p2++[]),⟨n0,trod_keep typesS typesOK hb n0 26 _ _ _ (by decide) h0 sp s0⟩,⟨p1,p2++[],⟨n1,trod_keep typesS typesOK hb n1 29 _ _ _ (by decide) h1 sp s1⟩,⟨p2,[],⟨n2,trod_keep typesS typesOK hb n2 32 _ _ _ (by decide) h2 sp s2⟩,rfl,rfl⟩,rfl⟩,rfl⟩
 ·refine⟨hb.os,hb.output,fun i hi=>?_⟩
  rw[hb.block i hi]
  cases W.heap[i]? with
  |none=>rfl
  |some o=>cases o <;> simp
 ·have hlt:=hW'.lt _ hp
  have hlt:b < W.heap.size:=hlt
  simp[World.frozen?,hb.block b hlt]
end T
end
section
open Go Go.Proofs Go.Sym
namespace T
theorem glob_of {W:World} (h:W.ShapedOpen Tryz.prog):GlobOK W W.heap.size:=by
 obtain⟨m,hm⟩:∃m,W.cell? ⟨1,0,none⟩=some (.int .i64 m):=Go.Proofs.cell_of_shapedOpen_int (zero:= #[.int .i64 0]) (t:=3) h (of_decide_eq_true (by kernel_rfl)) (by kernel_rfl) rfl (by kernel_rfl) (by kernel_rfl) Tryz.underlying3
 refine⟨?_,m,hm⟩
 show 1 < W.heap.size
 unfold World.cell? at hm
 cases hh:W.heap[1]? with
 |none=>simp[hh]at hm
 |some y=>exact(Array.getElem?_eq_some_iff.1 hh).1
end T
end
section
open Go Go.Proofs Go.Sym Go.RowKit Go.ChangeShapes Go.WideShapes Go.ChangeAt Go.Proofs.YtfephppemgmokaaGreatDoor
namespace T
theorem own:ownKnob Tryz.prog.godebug=none:=by kernel_rfl
def cellsD:DataW Unit→Array Value
 | .agg ds=>(ds.map fun | .lit (.int k n)=>Value.int k n |_=>undef).toArray
 |_=> #[]
def setC (c:Array Value):Obj→Obj
 | .cells _ t frozen=>.cells c t frozen
 |o=>o
noncomputable def laidWorld (os:Os):World:=
 { World.holding Tryz.prog os ⟨#[],#[],[]⟩with heap:=(((World.holding Tryz.prog os ⟨#[],#[],[]⟩).heap.modify 2 (setC (cellsD Rows.laid_math_bits_deBruijn32tab))).modify 3 (setC (cellsD Rows.laid_math_bits_deBruijn64tab))).modify 0 (setC (cellsD Rows.laid_internal_strconv_uint64pow10)) }
def wit:Array Value:= #[.agg #[.slice none 0 0,.slice none 0 0,.slice none 0 0],.agg #[.slice none 0 0],.agg #[.int .i64 0,.int .i64 0,.int .i64 0,.int .i64 0,.slice none 0 0]]
theorem laid_met (os:Os):laidMet Tryz.prog Rows.movesDoUptoRow.laid ((laidWorld os).forCall (fun _ _=>0) ⟨#[],wit,[]⟩).memory:=
 laidMet_of_run' 8 (by kernel_rfl) (by kernel_rfl)
set_option maxRecDepth 100000 in
theorem liftedUpto (os:Os) (started:os.Started) (H:Type) (enc:TypeId×Value→H) (F:Stop.Interp):
  ReturnsInHanded {} Tryz.checked os 3 .any ((Rows.OpenSpec.upto Rows.movesDoSpec).preRow enc Tryz.prog Tryz.f3 Rows.movesDoUptoRow.domain false Rows.movesDoUptoRow.laid) (((Rows.OpenSpec.upto Rows.movesDoSpec).at F).post enc Tryz.prog Tryz.f3 false true false false):=by
 refine returnsInHanded_of_row (C:=Tryz.checked) (s:=Rows.OpenSpec.upto Rows.movesDoSpec) own started (by kernel_rfl) Tryz.func3 (by
   obtain⟨places,hx⟩:∃places,DataW.whole enc Tryz.prog ((laidWorld os).forCall (fun _ _=>0) ⟨#[],wit,[]⟩).memory Tryz.f3.params.toList Rows.movesDoSpec.vars false wit.toList 8=some ([.agg [.nil,.nil,.nil],.agg [.nil],.agg [.lit (.int .i64 0),.lit (.int .i64 0),.lit (.int .i64 0),.lit (.int .i64 0),.nil]],[],places):=⟨[],by kernel_rfl⟩
   exact witness_row_at (enc:=enc) (C:=Tryz.checked) false (laidWorld os) wit rfl (by kernel_rfl) (by kernel_rfl) (by kernel_rfl) (OpenSpec.preRow_of_cond 8 hx (by kernel_rfl) (fun k hk=>by cases hk;kernel_rfl) (by kernel_rfl) (laid_met os))) ?_
 intro W base args ds gs before hval hW _ hcond _ hL hsh _
 have hgs:gs=[]:=by
  obtain⟨p,q,_,hV,_⟩:=hW
  exact(trodVars_none hV).1
 have hk:Rows.uptoBulkAll (ds++gs)≤1048576:=of_decide_eq_true (hcond _ rfl)
 rw[hgs,List.append_nil]at hk
 exact contract H enc W base args ds gs before hval hW hk (glob_of hsh)
end T
end
section
open Go Go.Proofs Go.Sym Go.RowKit Go.ChangeShapes Go.WideShapes Go.ChangeAt Go.Proofs.YtfephppemgmokaaGreatDoor
namespace Go.Proofs.YtfephppemgmokaaGreatDoor.movesDo
set_option maxRecDepth 100000
theorem saidUpto:Rows.MovesDoUptoSaid:=
 OpenClaim.holds_of_cond 3 Tryz.f3 rfl rfl rfl rfl rfl rfl rfl ⟨rfl,rfl,rfl,rfl,rfl⟩ rfl rfl rfl rfl rfl (by kernel_rfl) Tryz.func3 (by kernel_rfl)
  (of_decide_eq_true (by kernel_rfl)) (by unfold Func.isWrapper;first | (rw [if_pos (by decide +kernel)];kernel_rfl) | (rw [if_neg (by decide +kernel)];exact⟨rfl,rfl⟩))
  (fun os started H enc _ F=>by rw[OpenClaim.pre_eq_preRow];exact T.liftedUpto os started H enc F)
theorem plain (f:FuncId) (fn:Func) (hf:Tryz.pinned.checked.prog.funcNamed "headland/headlandlaw20.MovesDo" =some f) (hfn:Tryz.pinned.checked.prog.funcs[f]? =some fn):
  true=Tryz.pinned.checked.prog.looks []∧∀(j:Nat) t,fn.params[j]? =some t→Tryz.pinned.checked.prog.wantsStandIn t=false:=by
 obtain rfl:f=3:=Option.some.inj ((show Tryz.prog.funcNamed "headland/headlandlaw20.MovesDo" =some 3 by kernel_rfl).symm.trans hf) |>.symm
 obtain rfl:fn=Tryz.f3:=(Option.some.inj (Tryz.func3.symm.trans hfn)).symm
 refine⟨by kernel_rfl,fun j t ht=>?_⟩
 rw[Tryz.params3]at ht
 have h:t=26∨t=29∨t=32:=by simpa using Array.mem_of_getElem? ht
 rcases h with rfl |rfl |rfl
 ·exact(show Tryz.prog.wantsStandIn 26=false by kernel_rfl)
 ·exact(show Tryz.prog.wantsStandIn 29=false by kernel_rfl)
 ·exact(show Tryz.prog.wantsStandIn 32=false by kernel_rfl)
theorem cardUpto:Rows.MovesDoUptoCardSaid:=
 Claim7.holds_tied_plain_at .later [] _ _ _ _ saidUpto (fun _ h=>by cases h) (by kernel_rfl) (fun _ h=>by cases h) movesDoUpto_row_tie rfl ⟨rfl,rfl⟩ (by kernel_rfl) rfl plain (by kernel_rfl)
end Go.Proofs.YtfephppemgmokaaGreatDoor.movesDo
end
