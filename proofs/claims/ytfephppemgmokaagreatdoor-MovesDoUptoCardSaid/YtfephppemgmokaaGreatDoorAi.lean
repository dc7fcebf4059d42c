/- The law MovesDo of headlandlaw20 returns true, at arguments of the row's types whose lengths are at most uptoBulk: the program's Do and Back answer as the reference's do. Conditions: those of the given row (Rows.MovesDoUptoCardSaid), and no others. Part 9 of the proof. -/
import Derived.Test.YtfephppemgmokaaGreatDoorAh
set_option linter.unusedVariables false
set_option linter.unusedSimpArgs false
set_option linter.unusedSectionVars false
section
open Go Go.Proofs Go.Sym
namespace T
attribute [-simp] getElem?_pos
section
variable (G:List Blk) (K:List Nat) (c:Nat) (t:PT) (l:List ByteArray) (z:Nat) (cp:Cap) (d:Int) (s:Stm)
def S149 (i:Nat):St:=⟨[(0,.ptr c 0 0),(2,.lst z (l.map strC) cp),(3,.int .i64 d),(5,.ptr G.length 0 0),(9,.int .i64 l.length),(95,lst 2 (t.arrs.map Arr.cs)),(96,.int .i64 t.arrs.length),(97,.int .i64 i)],G++[⟨19,[s.cs],.box⟩],K,G.length⟩
theorem loop149 (k:Nat) (hb:G[c]? =some (ckB t k)) (hn:NmOK K l z cp) (harr:t.arrs.length≤1073741823):
  ∃o,(∀ s',s'.gc [0,2,3,5,9,95,96,97] (G.length+1) K.length=S149 G K c t l z cp d s 0→loopE X 149 lb149_10 (St.gc [0,2,3,5,9,95,96,97] (G.length+1) K.length) s'=some o)∧
  ((t.arrs.all (fun a=> !eqS a.name s.name)=true∧∃e,o= .exit 1 ⟨e,G++[⟨19,[s.cs],.box⟩],K,G.length⟩∧get e 0= .ptr c 0 0∧get e 2= .lst z (l.map strC) cp∧get e 3= .int .i64 d∧get e 5= .ptr G.length 0 0∧get e 9= .int .i64 l.length)∨
   (t.arrs.all (fun a=> !eqS a.name s.name)=false∧∃e r,o= .ret ⟨(8,.bool false)::e,G++r,K,G.length⟩)):=by
 have hlc:c < G.length:=(List.getElem?_eq_some_iff.1 hb).1
 have hG:G≠[]:=by rintro rfl;simp at hb
 have hsc:=hn.scrub
 obtain⟨kind,name,low,high,step,mark,dim,pieces,tA,tS,val,body,els⟩:=s
 obtain⟨op,k1,L,rA,subs,args⟩:=val
 have hnm:(Stm.mk kind name low high step mark dim pieces tA tS (Ex.mk op k1 L rA subs args) body els).name=name:=rfl
 rw[hnm]
 refine loop_all t.arrs (S149 G K c t l z cp d _) (fun a=> !eqS a.name name) _ _ (by simp[lb149_10,Tryz.f149,S149,stops]) (fun i x hc hi=>?_)
 have hw:=wrap_nat i (by omega)
 obtain⟨nm,sizes⟩:=x
 unfold eqS
 by_cases c1:(nm.toList==name.toList)=true
 ·refine⟨fun h=>(by rw[c1]at h;cases h),fun _=>?_⟩
  simp[-beq_iff_eq,lb149_10,Tryz.f149,S149,hi,hc,hlc,c1,stops,app_new0,app_new1,List.getElem?_append_left]
 ·rw[Bool.not_eq_true]at c1
  refine⟨fun _=>?_,fun h=>(by rw[c1]at h;cases h)⟩
  simp[-beq_iff_eq,lb149_10,Tryz.f149,S149,hi,hw,hc,hlc,Nat.lt_succ_of_lt hlc,c1,hsc,app_new0,app_new1,List.getElem?_append_left,gc_app _ _ _ hG]
end
section
variable (G:List Blk) (K:List Nat) (c:Nat) (t:PT) (l:List ByteArray) (z:Nat) (cp:Cap) (d:Int)
def SegR (x:Option Out) (s:Stm) (good:Prop):Prop:=
 ∃e',(x=some (.next ⟨e',BH G s,K,G.length⟩)∧Fr1 G c l z cp d e'∧good)∨((∃ r,x=some (.ret ⟨e',G++r,K,G.length⟩))∧get e' 8= .bool false∧¬good)
variable {G K c t l z cp d}
theorem segR_ok {x:Option Out} {s:Stm} {good:Prop} (h:∃e',x=some (.next ⟨e',BH G s,K,G.length⟩)∧Fr1 G c l z cp d e') (hg:good):SegR G K c l z cp d x s good:=by
 obtain⟨e',h1,h2⟩:=h
 exact⟨e',.inl ⟨h1,h2,hg⟩⟩
theorem segR_no {x:Option Out} {s:Stm} {good:Prop} (h:∃e',x=some (.ret ⟨e',BH G s,K,G.length⟩)∧get e' 8= .bool false) (hg: ¬good):SegR G K c l z cp d x s good:=by
 obtain⟨e',h1,h2⟩:=h
 exact⟨e',.inr ⟨⟨_,h1⟩,h2,hg⟩⟩
variable (G K c t l z cp d)
variable (name:ByteArray) (low high:Tab) (step mark dim:Int) (pieces:List (List Cnd)) (tA:Int) (tS:List Lin) (val:Ex) (body els:List Stm) (e:List (Nat×AV))
theorem if1_ok (hn:NmOK K l z cp) (hll:l.length≤1073741823) (hf:Fr G c l z cp d (.mk 1 name low high step mark dim pieces tA tS val body els) e):
  SegR G K c l z cp d (ex X 149 if1 ⟨e,BH G (.mk 1 name low high step mark dim pieces tA tS val body els),K,G.length⟩) (.mk 1 name low high step mark dim pieces tA tS val body els)
   (unset dim pieces=true∧(plainRef tA tS&&plainEx val)=true∧els=[]∧nameB name=true∧memS l name=false):=by
 obtain⟨⟨g0,g2,g3,g5,g9⟩,g10,g11,g12⟩:=hf
 have hkv:∀a,freeze a (.lst z (l.map strC) cp)= .lst (szOf 1 (l.map strC)) (l.map strC) .no:=fun a=>by rw[fz_any _ _ _ _ hn.bor,hn.sz]
 have h129:=ic129 name
 have h130:=ic130 l hll name
 simp only[plainS,unsetS]at g11 g12
 generalize (plainRef tA tS&&plainEx val)=v2 at*
 generalize unset dim pieces=v1 at*
 obtain⟨op,k1,L,rA,subs,args⟩:=val
 simp only[if1,B149,Tryz.f149,bodyOf_some,↓sub_seq0,↓sub_seq1,↓sub_block,↓sub_cond0,↓sub_cond1,↓sub_nil]
 cases v1
 ·refine segR_no ?_ (by simp)
  simp[BH,g0,g2,g3,g5,g9,g10,g11,g12]
 cases v2
 ·refine segR_no ?_ (by simp)
  simp[BH,g0,g2,g3,g5,g9,g10,g11,g12]
 by_cases c3:els=[]
 ·subst c3
  cases v3:nameB name with
  |false=>
   rw[v3]at h129
   refine segR_no ?_ (by simp)
   simp[BH,g0,g2,g3,g5,g9,g10,g11,g12,h129,app_new0]
  |true=>
   rw[v3]at h129
   cases v4:memS l name with
   |true=>
    rw[v4]at h130
    refine segR_no ?_ (by simp)
    simp[BH,g0,g2,g3,g5,g9,g10,g11,g12,h129,h130,hkv,app_new0]
   |false=>
    rw[v4]at h130
    refine segR_ok ?_ (by simp)
    simp[BH,Fr1,g0,g2,g3,g5,g9,g10,g11,g12,h129,h130,hkv,app_new0]
 ·have hz':0 < els.length:=List.length_pos_iff.2 c3
  have hz:(0:Int) < els.length:=by omega
  refine segR_no ?_ (fun h=>c3 h.2.2.1)
  simp[BH,g0,g2,g3,g5,g9,g10,g11,g12,hz,hz',c3,app_new0]
theorem for1_ok (k:Nat) (hb:G[c]? =some (ckB t k)) (hn:NmOK K l z cp) (harr:t.arrs.length≤1073741823) (hf:Fr1 G c l z cp d e):
  SegR G K c l z cp d (ex X 149 for1 ⟨e,BH G (.mk 1 name low high step mark dim pieces tA tS val body els),K,G.length⟩) (.mk 1 name low high step mark dim pieces tA tS val body els) (arrN name t.arrs=false):=by
 obtain⟨g0,g2,g3,g5,g9⟩:=hf
 have hG:G≠[]:=by rintro rfl;simp at hb
 have hlc:c < G.length:=(List.getElem?_eq_some_iff.1 hb).1
 have hsc:=hn.scrub
 obtain⟨o,h1,h2⟩:=loop149 G K c t l z cp d (.mk 1 name low high step mark dim pieces tA tS val body els) k hb hn harr
 have hnm:(Stm.mk 1 name low high step mark dim pieces tA tS val body els).name=name:=rfl
 rw[hnm]at h2
 obtain⟨op,k1,L,rA,subs,args⟩:=val
 simp only[ckB_def]at hb
 simp only[lb149_10,Tryz.f149,S149,bodyOf_some,↓sub_seq0,↓sub_seq1,↓sub_block,↓sub_loop,↓sub_cond0,↓sub_cond1,↓sub_nil]at h1
 simp at h1
 simp only[for1,B149,Tryz.f149,bodyOf_some,↓sub_seq0,↓sub_seq1,↓sub_block,↓sub_cond0,↓sub_cond1,↓sub_nil]
 unfold arrN
 rcases h2 with⟨hv,e2,rfl,a0,a2,a3,a5,a9⟩ |⟨hv,e2,r,rfl⟩
 ·refine segR_ok ?_ (by rw[hv];rfl)
  simp[BH,Fr1,g0,g2,g3,g5,g9,ex_loop,firstReg,h1,hb,hlc,Nat.lt_succ_of_lt hlc,hsc,a0,a2,a3,a5,a9,app_new0,List.getElem?_append_left,gc_app _ _ _ hG]
 ·refine⟨(8,.bool false)::e2,.inr ⟨⟨r,?_⟩,by simp,by rw[hv];simp⟩⟩
  simp[BH,g0,g2,g3,g5,g9,ex_loop,firstReg,h1,hb,hlc,Nat.lt_succ_of_lt hlc,hsc,app_new0,List.getElem?_append_left,gc_app _ _ _ hG]
theorem if2_ok (hlow:okTab' low) (hhigh:okTab' high) (hf:Fr1 G c l z cp d e):
  SegR G K c l z cp d (ex X 149 if2 ⟨e,BH G (.mk 1 name low high step mark dim pieces tA tS val body els),K,G.length⟩) (.mk 1 name low high step mark dim pieces tA tS val body els)
   (bndB l.length low=true∧bndB l.length high=true∧1≤step∧step≤64∧0≤mark∧mark≤2):=by
 obtain⟨g0,g2,g3,g5,g9⟩:=hf
 have hlo:=ic161 low l.length hlow
 have hhi:=ic161 high l.length hhigh
 obtain⟨op,k1,L,rA,subs,args⟩:=val
 simp only[if2,B149,Tryz.f149,bodyOf_some,↓sub_seq0,↓sub_seq1,↓sub_block,↓sub_cond0,↓sub_cond1,↓sub_nil]
 cases v1:bndB l.length low with
 |false=>
  rw[v1]at hlo
  refine segR_no ?_ (by simp)
  simp[BH,g0,g2,g3,g5,g9,hlo,app_new0]
 |true=>
  rw[v1]at hlo
  cases v2:bndB l.length high with
  |false=>
   rw[v2]at hhi
   refine segR_no ?_ (by simp)
   simp[BH,g0,g2,g3,g5,g9,hlo,hhi,app_new0]
  |true=>
   rw[v2]at hhi
   by_cases c1:step < 1
   ·refine segR_no ?_ (by omega)
    simp[BH,g0,g2,g3,g5,g9,hlo,hhi,c1,app_new0]
   ·by_cases c2:64 < step
    ·refine segR_no ?_ (by omega)
     simp[BH,g0,g2,g3,g5,g9,hlo,hhi,c1,c2,app_new0]
    ·by_cases c3:mark < 0
     ·refine segR_no ?_ (by omega)
      simp[BH,g0,g2,g3,g5,g9,hlo,hhi,c1,c2,c3,app_new0]
     ·by_cases c4:2 < mark
      ·refine segR_no ?_ (by omega)
       simp[BH,g0,g2,g3,g5,g9,hlo,hhi,c1,c2,c3,c4,app_new0]
      ·refine segR_ok ?_ ⟨rfl,rfl,by omega,by omega,by omega,by omega⟩
       simp[BH,Fr1,g0,g2,g3,g5,g9,hlo,hhi,c1,c2,c3,c4,app_new0]
theorem if3_ok (hf:Fr1 G c l z cp d e) (hst:1≤step):
  SegR G K c l z cp d (ex X 149 if3 ⟨e,BH G (.mk 1 name low high step mark dim pieces tA tS val body els),K,G.length⟩) (.mk 1 name low high step mark dim pieces tA tS val body els)
   (step=1∨∃r,low=[[r]]∧r.D=1):=by
 obtain⟨g0,g2,g3,g5,g9⟩:=hf
 obtain⟨op,k1,L,rA,subs,args⟩:=val
 simp only[if3,B149,Tryz.f149,bodyOf_some,↓sub_seq0,↓sub_seq1,↓sub_block,↓sub_cond0,↓sub_cond1,↓sub_nil]
 by_cases c1:1 < step
 ·have c1': ¬step=1:=by omega
  rcases low with _ |⟨lo0,_ |⟨lo1,lo2⟩⟩
  ·refine segR_no ?_ (by simp[c1'])
   simp[BH,g0,g2,g3,g5,g9,c1,app_new0]
  ·rcases lo0 with _ |⟨r0,_ |⟨r1,r2⟩⟩
   ·refine segR_no ?_ (by simp[c1'])
    simp[BH,g0,g2,g3,g5,g9,c1,app_new0]
   ·by_cases cd:r0.D=1
    ·refine segR_ok ?_ (.inr ⟨r0,rfl,cd⟩)
     simp[BH,Fr1,g0,g2,g3,g5,g9,c1,cd,app_new0]
    ·refine segR_no ?_ (by simp[c1',cd])
     simp[BH,g0,g2,g3,g5,g9,c1,cd,app_new0]
   ·have hz: ¬((r2.length:Int)+1+1=1):=by omega
    refine segR_no ?_ (by simp[c1'])
    simp[BH,g0,g2,g3,g5,g9,c1,hz,app_new0]
  ·have hz: ¬((lo2.length:Int)+1+1=1):=by omega
   refine segR_no ?_ (by simp[c1'])
   simp[BH,g0,g2,g3,g5,g9,c1,hz,app_new0]
 ·refine segR_ok ?_ (.inl (by omega))
  simp[BH,Fr1,g0,g2,g3,g5,g9,c1,app_new0]
end
end T
end
section
open Go Go.Proofs Go.Sym
namespace T
attribute [-simp] getElem?_pos
theorem exists_imp_exists2 {x:Option Out} {G:List Blk} {K:List Nat} {c:Nat} {t:PT} {B:Blk} {k:Nat} {fact:Prop} (K1 K2:List Nat) (h:∃e',x=some (.ret ⟨e',G.set c (ckB t k)++[B],K++(K1++K2),G.length⟩)∧get e' 8= .bool true) (hq:fact):
  ∃e' K2,(x=some (.ret ⟨e',G.set c (ckB t k)++[B],K++K2,G.length⟩)∧get e' 8= .bool true∧fact)∨∃k2:Nat,x=some (.ret ⟨e',G.set c (ckB t k2)++[B],K++K2,G.length⟩)∧get e' 8= .bool false∧¬fact:=by
 obtain⟨e',h1,h2⟩:=h
 exact⟨e',_,.inl ⟨h1,h2,hq⟩⟩
theorem exists_imp_exists2' {x:Option Out} {G:List Blk} {K:List Nat} {c:Nat} {t:PT} {B:Blk} {k:Nat} {fact:Prop} (K1 K2:List Nat) (k2:Nat) (h:∃e',x=some (.ret ⟨e',G.set c (ckB t k2)++[B],K++(K1++K2),G.length⟩)∧get e' 8= .bool false) (hq: ¬fact):
  ∃e' K2,(x=some (.ret ⟨e',G.set c (ckB t k)++[B],K++K2,G.length⟩)∧get e' 8= .bool true∧fact)∨∃k2:Nat,x=some (.ret ⟨e',G.set c (ckB t k2)++[B],K++K2,G.length⟩)∧get e' 8= .bool false∧¬fact:=by
 obtain⟨e',h1,h2⟩:=h
 exact⟨e',_,.inr ⟨k2,h1,h2,hq⟩⟩
section
variable (G:List Blk) (K:List Nat) (c:Nat) (t:PT) (l:List ByteArray) (z:Nat) (cp:Cap) (d:Int)
variable (name:ByteArray) (low high:Tab) (step mark dim:Int) (pieces:List (List Cnd)) (tA:Int) (tS:List Lin) (val:Ex) (body els:List Stm) (e:List (Nat×AV))
theorem ret1_ok (k:Nat) (hk:k≤256) (hb:G[c]? =some (ckB t k)) (hn:NmOK K l z cp) (hd:d=(l.length:Int)-t.ps.length) (hlen:l.length≤t.ps.length+10) (hps:t.ps.length≤2) (hbl:body.length≤1073741823) (hbody:∀s ∈ body,OkStm s∧SpecR t s) (hf:Fr1 G c l z cp d e):
  ∃e' K2,(ex X 149 ret1 ⟨e,BH G (.mk 1 name low high step mark dim pieces tA tS val body els),K,G.length⟩=some (.ret ⟨e',G.set c (ckB t (k+sszL body:Nat))++[⟨19,[Stm.cs (.mk 1 name low high step mark dim pieces tA tS val body els)],.box⟩],K++K2,G.length⟩)∧get e' 8= .bool true∧(k+sszL body≤256∧∀s ∈ body,GoodS t (l++[name]) s))∨
   ∃k2:Nat,ex X 149 ret1 ⟨e,BH G (.mk 1 name low high step mark dim pieces tA tS val body els),K,G.length⟩=some (.ret ⟨e',G.set c (ckB t k2)++[⟨19,[Stm.cs (.mk 1 name low high step mark dim pieces tA tS val body els)],.box⟩],K++K2,G.length⟩)∧get e' 8= .bool false∧¬(k+sszL body≤256∧∀s ∈ body,GoodS t (l++[name]) s):=by
 obtain⟨g0,g2,g3,g5,g9⟩:=hf
 have hG:G≠[]:=by rintro rfl;simp at hb
 have hlc:c < G.length:=(List.getElem?_eq_some_iff.1 hb).1
 have hsc:=hn.scrub
 have hlim:l.length+1≤1073741824:=by omega
 have hlim0:l.length≤1073741824:=by omega
 obtain⟨op,k1,L,rA,subs,args⟩:=val
 have hw:=wrap_id (d+1) (by omega) (by omega)
 have h131:=e131 (G++[⟨19,[Stm.cs (.mk 1 name low high step mark dim pieces tA tS (.mk op k1 L rA subs args) body els)],.box⟩]) (K++[l.length+1]) c t (l++[name]) 1 (.tok K.length) (d+1) body k hk
  (by rw[List.getElem?_append_left hlc,hb]) ⟨by simp,by simp,fun i h=>by cases h;simp⟩ (by simp;omega) hbl hbody
 have hset:∀q,(G++[(⟨19,[Stm.cs (.mk 1 name low high step mark dim pieces tA tS (.mk op k1 L rA subs args) body els)],.box⟩:Blk)]).set c q=G.set c q++[⟨19,[Stm.cs (.mk 1 name low high step mark dim pieces tA tS (.mk op k1 L rA subs args) body els)],.box⟩]:=fun q=>by rw[List.set_append_left _ _ hlc]
 unfold OutR at h131
 simp only[hset]at h131
 simp only[ckB_def]at hb
 simp only[BH_def]
 simp only[ret1,B149,Tryz.f149,bodyOf_some,↓sub_seq0,↓sub_seq1,↓sub_block,↓sub_cond0,↓sub_cond1,↓sub_nil]
 by_cases hl0:l=[]
 ·subst hl0
  rcases h131 with⟨K2,h131,hq⟩ |⟨k2,K2,h131,hq⟩
  ·simp[ckB]at h131
   refine exists_imp_exists2 [1] K2 ?_ hq
   simp[g0,g2,g3,g5,g9,hb,hlc,hlim,hlim0,hw,app_new0,List.getElem?_append_left,tok_new,set_tok,h131,ckB]
  ·simp[ckB]at h131
   refine exists_imp_exists2' [1] K2 k2 ?_ hq
   simp[g0,g2,g3,g5,g9,hb,hlc,hlim,hlim0,hw,app_new0,List.getElem?_append_left,tok_new,set_tok,h131,ckB]
 ·have hz:z=1:=by
   have:=hn.sz
   rcases l with _ |⟨a,r⟩
   ·exact absurd rfl hl0
   ·simpa[szOf] using this
  subst hz
  rcases h131 with⟨K2,h131,hq⟩ |⟨k2,K2,h131,hq⟩
  ·simp[ckB]at h131
   refine exists_imp_exists2 [l.length+1] K2 ?_ hq
   simp[g0,g2,g3,g5,g9,hb,hlc,hlim,hlim0,hl0,hw,app_new0,List.getElem?_append_left,tok_new,set_tok,h131,ckB]
  ·simp[ckB]at h131
   refine exists_imp_exists2' [l.length+1] K2 k2 ?_ hq
   simp[g0,g2,g3,g5,g9,hb,hlc,hlim,hlim0,hl0,hw,app_new0,List.getElem?_append_left,tok_new,set_tok,h131,ckB]
theorem ex_ret {f:FuncId} {a b:Code} {s s':St} (h:ex X f a s=some (.ret s')):ex X f (.seq a b) s=some (.ret s'):=by rw[ex_seq,h];rfl
theorem loop_whole (k:Nat) (hk:k≤256) (hb:G[c]? =some (ckB t k)) (hn:NmOK K l z cp) (hd:d=(l.length:Int)-t.ps.length) (hlen:l.length≤t.ps.length+10) (hps:t.ps.length≤2) (harr:t.arrs.length≤1073741823) (hlow:okTab' low) (hhigh:okTab' high) (hbl:body.length≤1073741823) (hbody:∀s ∈ body,OkStm s∧SpecR t s)
  (hf:Fr G c l z cp d (.mk 1 name low high step mark dim pieces tA tS val body els) e):
  EndR (ex X 149 T1 ⟨e,BH G (.mk 1 name low high step mark dim pieces tA tS val body els),K,G.length⟩) G K c t (.mk 1 name low high step mark dim pieces tA tS val body els) (k+(sszL body+sszL els)) (k+(sszL body+sszL els)≤256∧GoodS t l (.mk 1 name low high step mark dim pieces tA tS val body els)):=by
 have hself:=set_self hb
 have hF:GoodS t l (.mk 1 name low high step mark dim pieces tA tS val body els)→(∀ s ∈ body,GoodS t (l++[name]) s)∧(unset dim pieces=true∧(plainRef tA tS&&plainEx val)=true∧els=[]∧nameB name=true∧memS l name=false)∧arrN name t.arrs=false∧
   (bndB l.length low=true∧bndB l.length high=true∧1≤step∧step≤64∧0≤mark∧mark≤2)∧(step=1∨∃r,low=[[r]]∧r.D=1):=fun h=>by
  cases h with
  |loop _ g1 g2 g3 g4 g5 g6 g7 g8 g9 g10 g11 g12 g13=>
   simp only[nmdB,Bool.and_eq_true,Bool.not_eq_true']at g1
   exact⟨g13,⟨g10,by rw[g11,g12];rfl,rfl,g1.1,g1.2⟩,g2,⟨g3,g4,g5,g6,g7,g8⟩,g9⟩
 have stop:∀{x:Option Out} {e':List (Nat×AV)},(∃ r,x=some (.ret ⟨e',G++r,K,G.length⟩))→get e' 8= .bool false→¬(k+(sszL body+sszL els)≤256∧GoodS t l (.mk 1 name low high step mark dim pieces tA tS val body els))→EndR x G K c t (.mk 1 name low high step mark dim pieces tA tS val body els) (k+(sszL body+sszL els)) (k+(sszL body+sszL els)≤256∧GoodS t l (.mk 1 name low high step mark dim pieces tA tS val body els)):=fun {x e'} h h8 hn=>by
  obtain⟨r,h⟩:=h
  exact⟨e',[],.inr ⟨k,r,by rw[hself,List.append_nil];exact h,h8,hn⟩⟩
 rw[T1_eq]
 obtain⟨e1,⟨h1,f1,q1⟩ |⟨⟨r,h1⟩,f1,q1⟩⟩:=if1_ok G K c l z cp d name low high step mark dim pieces tA tS val body els e hn (by omega) hf
 ·rw[ex_next h1]
  obtain⟨e2,⟨h2,f2,q2⟩ |⟨⟨r,h2⟩,f2,q2⟩⟩:=for1_ok G K c t l z cp d name low high step mark dim pieces tA tS val body els e1 k hb hn harr f1
  ·rw[ex_next h2]
   obtain⟨e3,⟨h3,f3,q3⟩ |⟨⟨r,h3⟩,f3,q3⟩⟩:=if2_ok G K c l z cp d name low high step mark dim pieces tA tS val body els e2 hlow hhigh f2
   ·rw[ex_next h3]
    obtain⟨e4,⟨h4,f4,q4⟩ |⟨⟨r,h4⟩,f4,q4⟩⟩:=if3_ok G K c l z cp d name low high step mark dim pieces tA tS val body els e3 f3 q3.2.2.1
    ·rw[ex_next h4]
     obtain⟨p1,p2,p3,p4,p5⟩:=q1
     subst p3
     rw[Bool.and_eq_true]at p2
     obtain⟨e5,K2,⟨h5,f5,q5⟩ |⟨k2,h5,f5,q5⟩⟩:=ret1_ok G K c t l z cp d name low high step mark dim pieces tA tS val body [] e4 k hk hb hn hd hlen hps hbl hbody f4
     ·rw[h5]
      simp only[sszL,Nat.add_zero]
      exact endR_ok K2 ⟨e5,rfl,f5⟩ ⟨q5.1,GoodS.loop hlen (by rw[nmdB,p4,p5];rfl) q2 q3.1 q3.2.1 q3.2.2.1 q3.2.2.2.1 q3.2.2.2.2.1 q3.2.2.2.2.2 q4 p1 p2.1 p2.2 q5.2⟩
     ·rw[h5]
      refine endR_fail2 k2 K2 ⟨e5,rfl,f5⟩ fun hq=>q5 ⟨by have:=hq.1;simp[sszL]at this;omega,(hF hq.2).1⟩
    ·rw[ex_ret h4]
     exact stop ⟨r,rfl⟩ f4 fun hq=>q4 (hF hq.2).2.2.2.2
   ·rw[ex_ret h3]
    exact stop ⟨r,rfl⟩ f3 fun hq=>q3 (hF hq.2).2.2.2.1
  ·rw[ex_ret h2]
   exact stop ⟨r,rfl⟩ f2 fun hq=>q2 (hF hq.2).2.2.1
 ·rw[ex_ret h1]
  exact stop ⟨r,rfl⟩ f1 fun hq=>q1 (hF hq.2).2.1
end
theorem endR_out {x:Option Out} {G:List Blk} {K:List Nat} {c:Nat} {t:PT} {s:Stm} {k:Nat} {fact:Prop} (h:EndR x G K c t s k fact):
  OutR (ob (andThen (blk 0 x) (ex X 149 T24)) (fin X.P (X.raw 149) Tryz.f149.results.toList)) G K c t k fact:=by
 have hl:∀q,(G.set c q).length=G.length:=fun q=>List.length_set ..
 obtain⟨e',K2,⟨rfl,h8,hf⟩ |⟨k2,r,rfl,h8,hf⟩⟩:=h
 ·left
  refine⟨K2,?_,hf⟩
  have:=fin149 (G.set c (ckB t k)) (K++K2) [⟨19,[s.cs],.box⟩] e' true h8
  rw[hl]at this
  exact this
 ·right
  refine⟨k2,K2,?_,hf⟩
  have:=fin149 (G.set c (ckB t k2)) (K++K2) r e' false h8
  rw[hl]at this
  exact this
theorem specR (t:PT) (hps:t.ps.length≤2) (harr:t.arrs.length≤1073741823) {s:Stm} (h:OkStm s):xszS s≤1073741824→SpecR t s:=by
 induction h with
 | @mk kind name low high step mark dim pieces tA tS val body els hname hlow hhigh hpie htS hval hbl hel hbody hels ih1 ih2=>
 intro hx G K c k l z cp d hk hb hn hd hlen
 simp only[xszS]at hx
 have hbody':∀s ∈ body,OkStm s∧SpecR t s:=fun s hs=>⟨hbody s hs,ih1 s hs (by have:=xszL_mem body s hs;omega)⟩
 have hels':∀s ∈ els,OkStm s∧SpecR t s:=fun s hs=>⟨hels s hs,ih2 s hs (by have:=xszL_mem els s hs;omega)⟩
 obtain⟨e0,h0,f0,a9,a10,a11,a12⟩:=call149 G K c l z cp d (.mk kind name low high step mark dim pieces tA tS val body els)
 have hfr:Fr G c l z cp d (.mk kind name low high step mark dim pieces tA tS val body els) e0:=⟨⟨f0.1,f0.2.1,f0.2.2.1,f0.2.2.2,a9⟩,a10,a11,a12⟩
 obtain⟨e1,f1,h1⟩:=kinds G K c l z cp d _ e0 hfr
 rw[h0,←BH_def,h1]
 show OutR (ob (andThen (blk 0 (if kind=1 then _ else if kind=2 then _ else if kind=3 then _ else _)) _) _) G K c t (k+(sszL body+sszL els)) (k+(sszL body+sszL els)≤256∧_)
 by_cases c1:kind=1
 ·subst c1
  rw[if_pos rfl]
  exact endR_out (loop_whole G K c t l z cp d name low high step mark dim pieces tA tS val body els e1 k hk hb hn hd hlen hps harr hlow hhigh hbl hbody' f1)
 rw[if_neg c1]
 by_cases c2:kind=2
 ·subst c2
  rw[if_pos rfl]
  exact endR_out (test149 G K c t l z cp d name low high step mark dim pieces tA tS val body els hpie hbl hel hbody' hels' k hk hb hn hd hlen e1 f1)
 rw[if_neg c2]
 by_cases c3:kind=3
 ·subst c3
  rw[if_pos rfl]
  obtain⟨e2,h2,h8⟩:=asg149 G K c t l z cp d _ e1 f1 k hb (OkStm.mk hname hlow hhigh hpie htS hval hbl hel hbody hels) (by show nsz val≤_;omega) rfl
  rw[h2]
  have hself:=set_self hb
  cases hv:asgB t l.length (.mk 3 name low high step mark dim pieces tA tS val body els)with
  |true=>
   rw[hv]at h8
   have hv2:=hv
   simp only[asgB,Bool.and_eq_true,decide_eq_true_eq]at hv2
   have e1':body=[]:=List.length_eq_zero_iff.1 hv2.1.1.1.1.2
   have e2':els=[]:=List.length_eq_zero_iff.1 hv2.1.1.1.2
   subst e1' e2'
   simp only[sszL,Nat.add_zero]
   left
   refine⟨[],?_,hk,GoodS.asg hlen hv⟩
   rw[hself,List.append_nil]
   exact fin149 G K _ e2 true h8
  |false=>
   rw[hv]at h8
   right
   refine⟨k,[],?_,fun hq=>?_⟩
   ·rw[hself,List.append_nil]
    exact fin149 G K _ e2 false h8
   ·have hq:=hq.2
    cases hq with
    |asg _ g=>rw[g]at hv;cases hv
 ·rw[if_neg c3]
  right
  refine⟨k,[],?_,fun hq=>?_⟩
  ·rw[set_self hb,List.append_nil]
   exact fin149n G K _ e1
  ·have hq:=hq.2.kind.1
   have hq:okK kind=true:=hq
   simp[okK,c1,c2,c3]at hq
end T
end
section
open Go Go.Proofs Go.Sym
namespace T
attribute [-simp] getElem?_pos
def anm (t:PT):List ByteArray:=t.arrs.map (·.name)
def SzOK (t:PT) (a:Arr):Bool:=decide (a.sizes.length≤3)&&a.sizes.all (over t.ps.length)
def NmsOK (N:List ByteArray) (i:Nat) (s:ByteArray):Prop:=nmdB s (N.take i)=true
theorem head_iff (t:PT):HeadOK t↔t.ps.length≤2∧t.arrs.length≤8∧t.arrs.all (SzOK t)=true∧∀i s,(t.ps++anm t)[i]? =some s→NmsOK (t.ps++anm t) i s:=by
 have hm:∀i:Nat,(anm t)[i]? =t.arrs[i]?.map (·.name):=fun i=>by simp[anm]
 have htk:∀i:Nat,(anm t).take i=(t.arrs.take i).map (·.name):=fun i=>by simp[anm,List.map_take]
 constructor
 ·rintro⟨h1,h2,h3,h4⟩
  refine⟨h1,h2,List.all_eq_true.2 fun a ha=>?_,fun i s hs=>?_⟩
  ·obtain⟨i,hi⟩:=List.mem_iff_getElem?.1 ha
   obtain⟨_,b,c⟩:=h4 i a hi
   simp[SzOK,b,c]
  ·unfold NmsOK
   by_cases hi:i < t.ps.length
   ·rw[List.getElem?_append_left hi]at hs
    rw[List.take_append_of_le_length (by omega)]
    exact h3 i s hs
   ·rw[List.getElem?_append_right (by omega),hm]at hs
    cases ha:t.arrs[i-t.ps.length]? with
    |none=>rw[ha]at hs;cases hs
    |some a=>
     rw[ha]at hs
     have hs:a.name=s:=by simpa using hs
     have:=(h4 _ a ha).1
     rw[List.take_append,List.take_of_length_le (by omega),htk,←hs]
     exact this
 ·rintro⟨h1,h2,h3,h4⟩
  refine⟨h1,h2,fun i s hs=>?_,fun i a ha=>?_⟩
  ·have hi:i < t.ps.length:=(List.getElem?_eq_some_iff.1 hs).1
   have:=h4 i s (by rw[List.getElem?_append_left hi,hs])
   unfold NmsOK at this
   rw[List.take_append_of_le_length (by omega)]at this
   exact this
  ·have h5:=List.all_eq_true.1 h3 a (List.mem_of_getElem? ha)
   simp only[SzOK,Bool.and_eq_true,decide_eq_true_eq]at h5
   have:=h4 (t.ps.length+i) a.name (by rw[List.getElem?_append_right (by omega),Nat.add_sub_cancel_left,hm,ha];rfl)
   unfold NmsOK at this
   rw[List.take_append,List.take_of_length_le (by omega),Nat.add_sub_cancel_left,htk]at this
   exact⟨this,h5⟩
section
variable (t:PT)
def S91c (ns:List ByteArray) (i:Nat) (x:Arr) (j:Nat):St:=⟨[(1,.ptr 0 0 0),(3,.lst 1 (ns.map strC) (.tok 0)),(26,lst 2 (t.arrs.map Arr.cs)),(27,.int .i64 t.arrs.length),(28,.int .i64 i),(42,lst 2 (x.sizes.map Lin.cs)),(43,.int .i64 x.sizes.length),(44,.int .i64 j)],[b60 t,arB x],[ns.length],0⟩
theorem loop91c (ns:List ByteArray) (i:Nat) (x:Arr) (hx:okLins x.sizes):∃o,(∀ s,s.gc [1,3,26,27,28,42,43,44] 2 1=S91c t ns i x 0→loopE X 91 lb91_11 (St.gc [1,3,26,27,28,42,43,44] 2 1) s=some o)∧
  ((x.sizes.all (over t.ps.length)=true∧∃e,o= .exit 2 ⟨e,[b60 t,arB x],[ns.length],0⟩∧get e 1= .ptr 0 0 0∧get e 3= .lst 1 (ns.map strC) (.tok 0)∧get e 26=lst 2 (t.arrs.map Arr.cs)∧get e 27= .int .i64 t.arrs.length∧get e 28= .int .i64 i)∨(x.sizes.all (over t.ps.length)=false∧∃(e:_) (r:_),o= .ret ⟨(2,.bool false)::e,r,[ns.length],0⟩)):=by
 refine loop_all x.sizes (S91c t ns i x) (over t.ps.length) _ _ (by simp[lb91_11,Tryz.f91,S91c,arB,b60,stops]) (fun j y hy hj=>?_)
 have hw:=wrap_nat j (by have:=hx.1;omega)
 have h128:=ic128 y (hx.2 _ (List.mem_of_getElem? hy)) t.ps.length
 cases ho:over t.ps.length y with
 |true=>
  rw[ho]at h128
  refine⟨fun _=>?_,fun h=>by simp at h⟩
  simp[lb91_11,Tryz.f91,S91c,arB,b60,hj,hw,hy,h128]
 |false=>
  rw[ho]at h128
  refine⟨fun h=>by simp at h,fun _=>?_⟩
  simp[lb91_11,Tryz.f91,S91c,arB,b60,hj,hy,h128,stops]
def S91b (i:Nat):St:=⟨[(1,.ptr 0 0 0),(3,.lst 1 ((t.ps++(t.arrs.take i).map (·.name)).map strC) (.tok 0)),(26,lst 2 (t.arrs.map Arr.cs)),(27,.int .i64 t.arrs.length),(28,.int .i64 i)],[b60 t],[t.ps.length+i],0⟩
theorem loop91b (h2:t.ps.length≤2) (h8:t.arrs.length≤8) (hx:∀a ∈ t.arrs,okLins a.sizes):∃o,(∀ s,s.gc [1,3,26,27,28] 1 1=S91b t 0→loopE X 91 lb91_5 (St.gc [1,3,26,27,28] 1 1) s=some o)∧
  ((t.arrs.all (SzOK t)=true∧∃e,o= .exit 0 ⟨e,[b60 t],[(t.ps++anm t).length],0⟩∧get e 1= .ptr 0 0 0∧get e 3= .lst 1 ((t.ps++anm t).map strC) (.tok 0))∨(t.arrs.all (SzOK t)=false∧∃(e:_) (r:_) (K':List Nat),o= .ret ⟨(2,.bool false)::e,r,K',0⟩)):=by
 refine loop_all t.arrs (S91b t) (SzOK t) _ _ (by simp[lb91_5,Tryz.f91,S91b,b60,anm,stops]) (fun i x hy hi=>?_)
 have hw:=wrap_nat i (by omega)
 obtain⟨o,h1,h3⟩:=loop91c t (t.ps++(t.arrs.take i).map (·.name)++[x.name]) i x (hx _ (List.mem_of_getElem? hy))
 have htk:t.ps++(t.arrs.take (i+1)).map (·.name)=t.ps++(t.arrs.take i).map (·.name)++[x.name]:=by rw[List.take_add_one,hy,List.map_append,List.append_assoc];rfl
 have hln:(t.ps++(t.arrs.take i).map (·.name)).length=t.ps.length+i:=by simp;omega
 obtain⟨nm,sizes⟩:=x
 unfold SzOK
 simp only[lb91_11,Tryz.f91,S91c,arB,b60,bodyOf_some,↓sub_seq0,↓sub_seq1,↓sub_block,↓sub_loop,↓sub_nil]at h1
 simp only[lb91_5,S91b]
 rw[htk]
 generalize hN:t.ps++(t.arrs.take i).map (·.name)=N at*
 have hlN:N.length+1≤1073741824:=by omega
 have hlN':t.ps.length+(i+1)=N.length+1:=by omega
 rw[hlN',←hln]
 simp at h1
 simp only at h3 ⊢
 by_cases c1:(3:Int) < sizes.length
 ·have c1':3 < sizes.length:=by omega
  have c1'': ¬sizes.length≤3:=by omega
  refine⟨fun h=>by simp[c1'']at h,fun _=>?_⟩
  simp[Tryz.f91,b60,hi,hy,c1,c1',hlN,stops]
 ·have c1': ¬3 < sizes.length:=by omega
  have c1'':sizes.length≤3:=by omega
  rcases h3 with⟨hs,e,rfl,g1,g2,g3,g4,g5⟩ |⟨hs,e,r,rfl⟩
  ·refine⟨fun _=>?_,fun h=>by simp[c1'',hs]at h⟩
   simp[b60,arB]at h1
   simp[Tryz.f91,b60,arB,hi,hw,hy,c1,c1',hlN,ex_loop,firstReg,h1,g1,g2,g3,g4,g5]
  ·refine⟨fun h=>by simp[c1'',hs]at h,fun _=>?_⟩
   simp[b60,arB]at h1
   simp[Tryz.f91,b60,hi,hy,c1,c1',hlN,ex_loop,firstReg,h1,stops]
def S91d (N:List ByteArray) (i:Nat):St:=⟨[(1,.ptr 0 0 0),(3,.lst 1 (N.map strC) (.tok 0)),(56,.lst 1 (N.map strC) (.tok 0)),(57,.int .i64 N.length),(58,.int .i64 i)],[b60 t],[N.length],0⟩
theorem loop91d (N:List ByteArray) (hN:N.length≤1000):∃o,(∀ s,s.gc [1,3,56,57,58] 1 1=S91d t N 0→loopE X 91 lb91_18 (St.gc [1,3,56,57,58] 1 1) s=some o)∧
  (((∀ i s,N[i]? =some s→NmsOK N i s)∧∃e,o= .exit 4 ⟨e,[b60 t],[N.length],0⟩∧get e 1= .ptr 0 0 0)∨((¬ ∀i s,N[i]? =some s→NmsOK N i s)∧∃(e:_) (r:_) (K':List Nat),o= .ret ⟨(2,.bool false)::e,r,K',0⟩)):=by
 refine loop_allI N (S91d t N) (NmsOK N) _ _ (by simp[lb91_18,Tryz.f91,S91d,b60,stops]) (fun i x hx hi=>?_)
 have hw:=wrap_nat i (by omega)
 have hmin:min i N.length=i:=by omega
 have hle:i≤N.length:=by omega
 have h129:=ic129 x
 have h130:=ic130 (N.take i) (by simp;omega) x
 rw[List.map_take]at h130
 unfold NmsOK nmdB
 cases v1:nameB x with
 |false=>
  rw[v1]at h129
  right
  refine⟨by simp,?_⟩
  simp[lb91_18,Tryz.f91,S91d,b60,hi,hx,h129,stops]
 |true=>
  rw[v1]at h129
  cases v2:memS (N.take i) x with
  |true=>
   rw[v2]at h130
   right
   refine⟨by simp,?_⟩
   simp[lb91_18,Tryz.f91,S91d,b60,hi,hx,hle,h129,h130,stops]
  |false=>
   rw[v2]at h130
   left
   refine⟨by simp,?_⟩
   simp[lb91_18,Tryz.f91,S91d,b60,hi,hw,hx,hle,h129,h130]
end
end T
end
section
open Go Go.Proofs Go.Sym
namespace T
attribute [-simp] getElem?_pos
def S132 (op k:Int) (L:Lin) (rA:Int) (subs:List Lin) (args:List Ex) (i:Nat):St:=⟨[(3,.lst 2 ((rdsL (args.take i)).map rfC) (.tok 0)),(13,lst 7 (args.map Ex.cs)),(14,.int .i64 args.length),(15,.int .i64 i)],[⟨7,[Ex.cs (.mk op k L rA subs args)],.box⟩],[(rdsL (args.take i)).length],0⟩
theorem ic132 {e:Ex} (h:OkEx e):nsz e≤1000→icall X (call X) 132 [.agg e.cs]=some (.ret (.lst (szOf 2 ((rds e).map rfC)) ((rds e).map rfC) .no)):=by
 induction h with
 | @mk op k1 L rA subs args hL hs ha hargs ih=>
 intro hz
 have hz':nszL args≤999:=by simp[nsz]at hz;omega
 by_cases c:op=2
 ·subst c
  have hr:rds (.mk 2 k1 L rA subs args)=[(rA,subs)]:=by rw[rds,if_pos rfl]
  rw[hr]
  refine icall_ret (v:=.lst 2 [rfC (rA,subs)] .exact) (H:=[]) (K:=[]) (by simp) (by simp) ?_ rfl (by simp) (by simp)
  rw[call_eq (by decide) (by simp)]
  simp[Tryz.func132,Tryz.f132,envOf,leave_pure]
 ·have hloop:∃o,(∀ s,s.gc [3,13,14,15] 1 1=S132 op k1 L rA subs args 0→loopE X 132 lb132_5 (St.gc [3,13,14,15] 1 1) s=some o)∧∃e,o= .exit 0 ⟨e,[⟨7,[Ex.cs (.mk op k1 L rA subs args)],.box⟩],[(rdsL args).length],0⟩∧get e 3= .lst 2 ((rdsL args).map rfC) (.tok 0):=by
   refine loop_inv (S132 op k1 L rA subs args) (fun i=>i≤args.length) (fun i=>args.length-i) _ (fun i hi'=>?_) 0 (Nat.zero_le _)
   by_cases hi:i < args.length
   ·right
    have hx:=List.getElem?_eq_getElem hi
    have hw:=wrap_nat i (by omega)
    have h1:=rdsL_take_succ args i _ hx
    have h2:=nszL_take args i _ hx
    have h3:=rdsL_len (args.take i)
    have h4:=rds_len args[i]
    have h5:=ih _ (List.getElem_mem hi) (by omega)
    generalize args[i]=x at*
    have hlim:(rdsL (args.take i)).length+(rds x).length≤1073741824:=by omega
    generalize rds x=R at*
    generalize hA:rdsL (args.take i)=A at*
    obtain⟨p1,p2,p3,p4,p5,p6⟩:=x
    simp at h5
    have hor:szOf 2 (R.map rfC)=2∨R=[]:=by cases R <;> simp
    simp[lb132_5,Tryz.f132,S132,hi,hw,hx,h5,hA,hlim,hor]
    exact⟨i+1,⟨⟨by rw[h1,List.map_append],by omega⟩,by rw[h1,List.length_append]⟩,by omega,by omega⟩
   ·left
    obtain rfl:i=args.length:=by omega
    simp[lb132_5,Tryz.f132,S132,stops]
  obtain⟨o,h1,e,rfl,g1⟩:=hloop
  simp only[lb132_5,Tryz.f132,S132,bodyOf_some,sub_seq0,sub_seq1,sub_block,sub_loop,sub_nil]at h1
  simp[rdsL]at h1
  have hr:rds (.mk op k1 L rA subs args)=rdsL args:=by rw[rds,if_neg c]
  rw[hr]
  refine icall_ret (v:=.lst 2 ((rdsL args).map rfC) (.tok 0)) (H:=[]) (K:=[(rdsL args).length]) (by simp) (by simp) ?_ rfl (by simp) (by simp)
  rw[call_eq (by decide) (by simp)]
  simp[Tryz.func132,Tryz.f132,envOf,ex_loop,firstReg,c,h1,g1,leave_pure]
end T
end
section
open Go Go.Proofs Go.Sym
namespace T
attribute [-simp] getElem?_pos
theorem anm_len (t:PT):(anm t).length=t.arrs.length:=by simp[anm]
set_option maxHeartbeats 4000000 in
theorem ic91 (t:PT) (h:t.Ok) (hx:xszL t.body≤1073741824):∃b,icall X (call X) 91 [.agg t.p.cs]=some (.ret (.bool b))∧(b=true↔GoodP t):=by
 have hgo:∀(b:Bool) (K:List Nat),call X 91 [.agg t.p.cs] [] []=some (.ret (.bool b),[],K)→(b=true↔GoodP t)→∃b,icall X (call X) 91 [.agg t.p.cs]=some (.ret (.bool b))∧(b=true↔GoodP t):=
  fun b K h hb=>⟨b,icall_ret (v:=.bool b) (H:=[]) (K:=K) (by simp) (by simp) h rfl rfl rfl,hb⟩
 have hi:=head_iff t
 by_cases c1:(2:Int) < t.ps.length
 ·have c1':2 < t.ps.length:=by omega
  refine hgo false [] ?_ ⟨fun h=>(by cases h),fun hg=>by have:=hg.1.1;omega⟩
  rw[call_eq (by decide) (by simp)]
  simp[PT.cs,Tryz.func91,Tryz.f91,envOf,c1,c1',leave_pure]
 have c1': ¬2 < t.ps.length:=by omega
 by_cases c2:(8:Int) < t.arrs.length
 ·have c2':8 < t.arrs.length:=by omega
  refine hgo false [] ?_ ⟨fun h=>(by cases h),fun hg=>by have:=hg.1.2.1;omega⟩
  rw[call_eq (by decide) (by simp)]
  simp[PT.cs,Tryz.func91,Tryz.f91,envOf,c1,c1',c2,c2',leave_pure]
 have c2': ¬8 < t.arrs.length:=by omega
 have hl2:t.ps.length≤1073741824:=by omega
 obtain⟨o,h1,h2⟩:=loop91b t (by omega) (by omega) (fun a ha=>(h.arr a ha).2)
 obtain⟨o2,h3,h4⟩:=loop91d t (t.ps++anm t) (by rw[List.length_append,anm_len];omega)
 have h131:=e131 [b60 t,ckB t 0] [(t.ps++anm t).length] 1 t t.ps (szOf 1 (t.ps.map strC)) .no 0 t.body 0 (by omega) rfl ⟨by simp,by simp,fun i h=>by cases h⟩ (by omega) h.body
  (fun s hs=>⟨h.stm s hs,specR t (by omega) h.arrs (h.stm s hs) (by have:=xszL_mem _ s hs;omega)⟩)
 unfold OutR at h131
 simp only[lb91_5,Tryz.f91,S91b,b60,bodyOf_some,↓sub_seq0,↓sub_seq1,↓sub_block,↓sub_loop,↓sub_nil]at h1
 simp only[lb91_18,Tryz.f91,S91d,b60,bodyOf_some,↓sub_seq0,↓sub_seq1,↓sub_block,↓sub_loop,↓sub_nil]at h3
 have hor:szOf 1 (t.ps.map strC)=1∨t.ps=[]:=by cases t.ps <;> simp
 generalize hN:t.ps++anm t=N at*
 simp at h1 h3
 rcases h2 with⟨q2,e,rfl,g1,g3⟩ |⟨q2,e,r,K',rfl⟩
 ·rcases h4 with⟨q4,e4,rfl,g4⟩ |⟨q4,e4,r4,K4,rfl⟩
  ·have hH:HeadOK t:=hi.2 ⟨by omega,by omega,q2,q4⟩
   rcases h131 with⟨K2,h131,hq⟩ |⟨k2,K2,h131,hq⟩
   ·refine hgo true ([N.length]++K2) ?_ ⟨fun _=>⟨hH,by simpa using hq⟩,fun _=>rfl⟩
    simp[ckB,b60]at h131
    rw[call_eq (by decide) (by simp)]
    simp[PT.cs,Tryz.func91,Tryz.f91,envOf,c1,c1',c2,c2',hl2,hor,ex_loop,firstReg,b60,h1,g1,g3,h3,g4,h131,leave_pure]
   ·refine hgo false ([N.length]++K2) ?_ ⟨fun h=>(by cases h),fun hg=>absurd (by simpa using hg.2) hq⟩
    simp[ckB,b60]at h131
    rw[call_eq (by decide) (by simp)]
    simp[PT.cs,Tryz.func91,Tryz.f91,envOf,c1,c1',c2,c2',hl2,hor,ex_loop,firstReg,b60,h1,g1,g3,h3,g4,h131,leave_pure]
  ·refine hgo false K4 ?_ ⟨fun h=>(by cases h),fun hg=>absurd (hi.1 hg.1).2.2.2 q4⟩
   rw[call_eq (by decide) (by simp)]
   simp[PT.cs,Tryz.func91,Tryz.f91,envOf,c1,c1',c2,c2',hl2,hor,ex_loop,firstReg,b60,h1,g1,g3,h3,leave_pure]
 ·refine hgo false K' ?_ ⟨fun h=>(by cases h),fun hg=>by rw[(hi.1 hg.1).2.2.1]at q2;cases q2⟩
  rw[call_eq (by decide) (by simp)]
  simp[PT.cs,Tryz.func91,Tryz.f91,envOf,c1,c1',c2,c2',hl2,hor,ex_loop,firstReg,b60,h1,leave_pure]
theorem ic50 (t:PT) (h:t.Ok) (hx:xszL t.body≤1073741824):icall X (call X) 50 [.agg t.p.cs]=some (.ret (.int .i64 (perr t))):=by
 obtain⟨b,h91,hb⟩:=ic91 t h hx
 refine icall_ret (v:=.int .i64 (perr t)) (H:=[]) (K:=[]) (by simp) (by simp) ?_ rfl rfl rfl
 rw[call_eq (by decide) (by simp)]
 simp only[PT.cs]at h91 ⊢
 cases b with
 |true=>
  have:perr t=0:=if_pos (hb.1 rfl)
  rw[this]
  simp[Tryz.func50,Tryz.f50,envOf,h91,leave_pure]
 |false=>
  have:perr t=1:=if_neg fun hg=>by cases hb.2 hg
  rw[this]
  simp[Tryz.func50,Tryz.f50,envOf,h91,leave_pure]
end T
end
section
open Go Go.Proofs Go.Sym
namespace T
attribute [-simp] getElem?_pos
def infR (path:List Int) (l:List ByteArray) (s:Stm):List AV:=[ints path,lst 1 (l.map strC)]++s.cs++[lst 2 ((rds s.val).map rfC)]
mutual
def ifS (path:List Int) (l:List ByteArray) (i:Nat):Stm→List (List AV)
 | .mk kind name low high step mark dim pieces tA tS val body els=>
  if kind=1 then ifL (path++[(i:Int),0]) (l++[name]) 0 body
  else if kind=2 then ifL (path++[(i:Int),0]) l 0 body++ifL (path++[(i:Int),1]) l 0 els
  else [infR (path++[(i:Int)]) l (.mk kind name low high step mark dim pieces tA tS val body els)]
def ifL (path:List Int) (l:List ByteArray) (i:Nat):List Stm→List (List AV)
 | []=>[]
 |s::r=>ifS path l i s++ifL path l (i+1) r
end
theorem ifL_take_succ (path:List Int) (l:List ByteArray):∀(ss:List Stm) (j i:Nat) (s:Stm),ss[i]? =some s→ifL path l j (ss.take (i+1))=ifL path l j (ss.take i)++ifS path l (j+i) s
 | [],_,_,_,h=>by simp at h
 |a::r,j,0,s,h=>by cases h;simp[ifL]
 |a::r,j,i+1,s,h=>by
  have:=ifL_take_succ path l r (j+1) i s (by simpa using h)
  simp only[List.take_succ_cons,ifL,this,List.append_assoc]
  rw[show j+1+i=j+(i+1)from by omega]
mutual
theorem ifS_len:∀(s:Stm) (path:List Int) (l:List ByteArray) (i:Nat),(ifS path l i s).length≤ssz s
 | .mk kind name low high step mark dim pieces tA tS val body els,path,l,i=>by
  have h1:=ifL_len body (path++[(i:Int),0]) (l++[name]) 0
  have h2:=ifL_len body (path++[(i:Int),0]) l 0
  have h3:=ifL_len els (path++[(i:Int),1]) l 0
  simp only[ifS,ssz]
  split
  ·omega
  ·split
   ·rw[List.length_append];omega
   ·simp;omega
theorem ifL_len:∀(ss:List Stm) (path:List Int) (l:List ByteArray) (i:Nat),(ifL path l i ss).length≤sszL ss
 | [],_,_,_=>by simp[ifL]
 |s::r,path,l,i=>by
  have h1:=ifS_len s path l i
  have h2:=ifL_len r path l (i+1)
  simp only[ifL,sszL,List.length_append];omega
end
def Sp92 (t:PT) (ss:List Stm):Prop:=∀(path:List Int) (l:List ByteArray),(∀ s ∈ ss,GoodS t l s)→sszL ss≤1000→path.length+2*sszL ss≤1000000→l.length≤13→
 icall X (call X) 92 [lst 19 (ss.map Stm.cs),ints path,lst 1 (l.map strC)]=some (.ret (lst 22 (ifL path l 0 ss)))
def S92 (path:List Int) (l:List ByteArray) (ss:List Stm) (i:Nat):St:=⟨[(1,ints path),(2,lst 1 (l.map strC)),(7,.lst 22 (ifL path l 0 (ss.take i)) (.tok 0)),(11,lst 19 (ss.map Stm.cs)),(12,.int .i64 ss.length),(13,.int .i64 i)],[],[(ifL path l 0 (ss.take i)).length],0⟩
theorem ic92 (t:PT) (hps:t.ps.length≤2) (ss:List Stm) (hss:ss.length≤1073741823) (hs:∀s ∈ ss,OkStm s∧Sp92 t s.body∧Sp92 t s.els):Sp92 t ss:=by
 intro path l hgd hz hp hl
 have hloop:∃o,(∀ s,s.gc [1,2,7,11,12,13] 0 1=S92 path l ss 0→loopE X 92 lb92_3 (St.gc [1,2,7,11,12,13] 0 1) s=some o)∧∃e,o= .exit 0 ⟨e,[],[(ifL path l 0 ss).length],0⟩∧get e 7= .lst 22 (ifL path l 0 ss) (.tok 0):=by
  refine loop_inv (S92 path l ss) (fun i=>i≤ss.length) (fun i=>ss.length-i) _ (fun i hi'=>?_) 0 (Nat.zero_le _)
  by_cases hi:i < ss.length
  ·right
   have hx:=List.getElem?_eq_getElem hi
   have hw:=wrap_nat i (by omega)
   have hmem:=List.getElem_mem hi
   have hit:=ifL_take_succ path l ss 0 i _ hx
   rw[Nat.zero_add]at hit
   have hts:=sszL_take_succ ss i _ hx
   have hmono:=sszL_take_le ss (i+1)
   have hlen:=ifL_len (ss.take i) path l 0
   have hlen2:=ifS_len ss[i] path l i
   obtain⟨hok,hwb,hwe⟩:=hs _ hmem
   have hg:=hgd _ hmem
   obtain⟨_,hgv,hgb,hge⟩:=hg.parts
   have hgk:=hg.kind.1
   generalize ss[i]=s at*
   have hrl0:path.length+1≤1073741824:=by omega
   have hrl1:path.length+1+1≤1073741824:=by omega
   have hrl2:path.length≤1073741824:=by omega
   have hll1:l.length+1≤1073741824:=by omega
   have hll0:l.length≤1073741824:=by omega
   have hval:OkEx s.val:=by cases hok;assumption
   have hsz:ssz s=1+sszL s.body+sszL s.els:=by obtain⟨kind,name,low,high,step,mark,dim,pieces,tA,tS,val,body,els⟩:=s;rfl
   have hb1:=fun q=>hwb (path++[(i:Int),0]) (l++[s.name]) q (by omega) (by simp;omega) (by simp;have:=hg.parts.1;omega)
   have hb2:=fun q=>hwb (path++[(i:Int),0]) l q (by omega) (by simp;omega) hl
   have he2:=fun q=>hwe (path++[(i:Int),1]) l q (by omega) (by simp;omega) hl
   have h132:=fun q=>ic132 hval q
   have hla:(ifL path l 0 (ss.take i)).length+(ifS path l i s).length≤1073741824:=by omega
   obtain⟨kind,name,low,high,step,mark,dim,pieces,tA,tS,val,body,els⟩:=s
   have hgk:okK kind=true:=hgk
   have hgv:kind=3→nsz val≤64:=hgv
   have hb1:_→icall X (call X) 92 [lst 19 (body.map Stm.cs),ints (path++[(i:Int),0]),lst 1 ((l++[name]).map strC)]=some (IRes.ret (lst 22 (ifL (path++[(i:Int),0]) (l++[name]) 0 body))):=hb1
   have hb2:_→icall X (call X) 92 [lst 19 (body.map Stm.cs),ints (path++[(i:Int),0]),lst 1 (l.map strC)]=some (IRes.ret (lst 22 (ifL (path++[(i:Int),0]) l 0 body))):=hb2
   have he2:_→icall X (call X) 92 [lst 19 (els.map Stm.cs),ints (path++[(i:Int),1]),lst 1 (l.map strC)]=some (IRes.ret (lst 22 (ifL (path++[(i:Int),1]) l 0 els))):=he2
   have h132:nsz val≤1000→icall X (call X) 132 [AV.agg val.cs]=some (IRes.ret (AV.lst (szOf 2 (List.map rfC (rds val))) (List.map rfC (rds val)) Cap.no)):=h132
   by_cases k1:kind=1
   ·subst k1
    have hR:ifS path l i (.mk 1 name low high step mark dim pieces tA tS val body els)=ifL (path++[(i:Int),0]) (l++[name]) 0 body:=by simp[ifS]
    rw[hR]at hit hla hlen2
    have hc:=hb1 hgb
    clear hb1 hb2 he2 hR hgb hge hgd hg
    generalize ifL (path++[(i:Int),0]) (l++[name]) 0 body=R at*
    generalize hA:ifL path l 0 (ss.take i)=A at*
    have hor:szOf 22 R=22∨R=[]:=by cases R <;> simp
    obtain⟨op,q1,L,rA,subs,args⟩:=val
    rcases path with _ |⟨p0,pr⟩ <;> rcases l with _ |⟨l0,lr⟩
    all_goals simp at hc hrl0 hrl1 hrl2 hll1 hll0
    all_goals simp[lb92_3,Tryz.f92,S92,hA,hi,hw,hx,hc,hla,hor,hrl0,hrl1,hrl2,hll1,hll0]
    all_goals exact⟨i+1,⟨⟨hit.symm,by omega⟩,by rw[hit,List.length_append]⟩,by omega,by omega⟩
   by_cases k2:kind=2
   ·subst k2
    have hR:ifS path l i (.mk 2 name low high step mark dim pieces tA tS val body els)=ifL (path++[(i:Int),0]) l 0 body++ifL (path++[(i:Int),1]) l 0 els:=by simp[ifS]
    rw[hR]at hit hla hlen2
    have hc:=hb2 hgb
    have hd:=he2 hge
    clear hb1 hb2 he2 hR hgb hge hgd hg
    generalize ifL (path++[(i:Int),0]) l 0 body=R at*
    generalize ifL (path++[(i:Int),1]) l 0 els=Q at*
    generalize hA:ifL path l 0 (ss.take i)=A at*
    have hor:szOf 22 R=22∨R=[]:=by cases R <;> simp
    have hoq:szOf 22 Q=22∨Q=[]:=by cases Q <;> simp
    rw[List.length_append]at hla
    have hla1:A.length+R.length≤1073741824:=by omega
    have hla2:A.length+R.length+Q.length≤1073741824:=by omega
    obtain⟨op,q1,L,rA,subs,args⟩:=val
    rcases path with _ |⟨p0,pr⟩ <;> rcases l with _ |⟨l0,lr⟩
    all_goals simp at hc hd hrl0 hrl1 hrl2 hll1 hll0
    all_goals simp[lb92_3,Tryz.f92,S92,hA,hi,hw,hx,hc,hd,hla,hor,hrl0,hrl1,hrl2,hll1,hll0,hoq,hla1,hla2]
    all_goals exact⟨i+1,⟨⟨hit.symm,by omega⟩,by rw[hit,List.length_append,List.length_append]⟩,by omega,by omega⟩
   have k3:kind=3:=by
    simp only[okK,Bool.or_eq_true,decide_eq_true_eq]at hgk
    rcases hgk with(h |h) |h
    ·exact absurd h k1
    ·exact absurd h k2
    ·exact h
   subst k3
   have hR:ifS path l i (.mk 3 name low high step mark dim pieces tA tS val body els)=[infR (path++[(i:Int)]) l (.mk 3 name low high step mark dim pieces tA tS val body els)]:=by simp[ifS]
   rw[hR]at hit hla hlen2
   have hc:icall X (call X) 132 [AV.agg val.cs]=some (IRes.ret (AV.lst (szOf 2 ((rds val).map rfC)) ((rds val).map rfC) .no)):=h132 (Nat.le_trans (hgv rfl) (by decide))
   clear hb1 hb2 he2 hR hgb hge hgd hg h132
   generalize hA:ifL path l 0 (ss.take i)=A at*
   have hla':A.length+1≤1073741824:=by simpa using hla
   simp only[infR,Stm.val]at hit
   generalize rds val=W at*
   obtain⟨op,q1,L,rA,subs,args⟩:=val
   simp at hc
   rcases path with _ |⟨p0,pr⟩ <;> rcases l with _ |⟨l0,lr⟩
   all_goals (try simp at hrl0 hrl1 hrl2 hll1 hll0)
   all_goals simp at hit
   all_goals simp[lb92_3,Tryz.f92,S92,hA,hi,hw,hx,hc,hla',hrl0,hrl1,hrl2,hll1,hll0]
   all_goals exact⟨i+1,⟨⟨hit.symm,by omega⟩,by rw[hit,List.length_append];simp⟩,by omega,by omega⟩
  ·left
   obtain rfl:i=ss.length:=by omega
   simp[lb92_3,Tryz.f92,S92,stops]
 obtain⟨o,h1,e,rfl,g1⟩:=hloop
 have hlen:=ifL_len ss path l 0
 simp only[lb92_3,Tryz.f92,S92,bodyOf_some,↓sub_seq0,↓sub_seq1,↓sub_block,↓sub_loop,↓sub_nil]at h1
 simp[ifL]at h1
 refine icall_ret (v:=.lst 22 (ifL path l 0 ss) (.tok 0)) (H:=[]) (K:=[(ifL path l 0 ss).length]) (by simp) (by simp) ?_ rfl rfl rfl
 ·rw[call_eq (by decide) (by simp)]
  simp[Tryz.func92,Tryz.f92,envOf,ex_loop,firstReg,h1,g1,leave_pure]
end T
end
section
open Go Go.Proofs Go.Sym
namespace T
attribute [-simp] getElem?_pos
def stm0:Stm:=.mk 0 ⟨#[]⟩ [] [] 0 0 0 [] 0 [] (.mk 0 0 ⟨[],0⟩ 0 [] []) [] []
def zst:List AV:=[.int .i64 0,.str ⟨#[]⟩,.lst 0 [] .nil,.lst 0 [] .nil,.int .i64 0,.int .i64 0,.int .i64 0,.lst 0 [] .nil,.int .i64 0,.lst 0 [] .nil,.int .i64 0,.int .i64 0,.lst 0 [] .nil,.int .i64 0,.int .i64 0,.lst 0 [] .nil,.lst 0 [] .nil,.lst 0 [] .nil,.lst 0 [] .nil]
theorem zst_ok:pureL (stripL zst)=true∧normL zst=stm0.cs:=⟨rfl,by simp[zst,stm0]⟩
def Fd (x:Option IRes):Prop:=∃(s:Stm) (l:List ByteArray) (b:Bool),x=some (.ret (.tup [.agg s.cs,lst 1 (l.map strC),.bool b]))
def Sp93 (ss:List Stm):Prop:=∀(path:List Int) (l:List ByteArray),l.length+path.length≤1000000→Fd (icall X (call X) 93 [lst 19 (ss.map Stm.cs),ints path,lst 1 (l.map strC)])
set_option maxHeartbeats 4000000 in
theorem ic93 (ss:List Stm) (hs:∀s ∈ ss,Sp93 s.body∧Sp93 s.els):Sp93 ss:=by
 intro path l hl
 have fin:∀(s:Stm) (cs:List AV) (l':List ByteArray) (b:Bool) (v:AV) (K:List Nat),call X 93 [lst 19 (ss.map Stm.cs),ints path,lst 1 (l.map strC)] [] []=some (.ret (.tup [.agg cs,v,.bool b]),[],K)→(pureL (stripL cs)=true∧normL cs=s.cs)→(pureB (strip v)=true∧normv v=lst 1 (l'.map strC))→
   Fd (icall X (call X) 93 [lst 19 (ss.map Stm.cs),ints path,lst 1 (l.map strC)]):=fun s cs l' b v K h hc hv=>
  ⟨s,l',b,icall_ret (v:=.tup [.agg cs,v,.bool b]) (H:=[]) (K:=K) (by simp) (by simp) h rfl (by simp[hc.1,hv.1]) (by simp[hc.2,hv.2])⟩
 have hst:∀s:Stm,pureL (stripL s.cs)=true∧normL s.cs=s.cs:=fun s=>by
  obtain⟨kind,name,low,high,step,mark,dim,pieces,tA,tS,val,body,els⟩:=s
  obtain⟨op,q1,L,rA,subs,args⟩:=val
  exact⟨by simp,by simp⟩
 rcases path with _ |⟨p0,pr⟩
 ·refine fin stm0 zst [] false (.lst 0 [] .nil) [] ?_ zst_ok ⟨rfl,rfl⟩
  rw[call_eq (by decide) (by simp)]
  simp[Tryz.func93,Tryz.f93,envOf,zst,leave_pure]
 by_cases c1:p0 < 0
 ·refine fin stm0 zst [] false (.lst 0 [] .nil) [] ?_ zst_ok ⟨rfl,rfl⟩
  rw[call_eq (by decide) (by simp)]
  have hz: ¬((pr.length:Int)+1=0):=by omega
  simp[Tryz.func93,Tryz.f93,envOf,zst,c1,hz,leave_pure]
 obtain⟨a,rfl⟩:∃a:Nat,p0=a:=⟨p0.toNat,by omega⟩
 by_cases c2:(ss.length:Int)≤a
 ·have c2':ss.length≤a:=by omega
  refine fin stm0 zst [] false (.lst 0 [] .nil) [] ?_ zst_ok ⟨rfl,rfl⟩
  rw[call_eq (by decide) (by simp)]
  have hz: ¬((pr.length:Int)+1=0):=by omega
  simp[Tryz.func93,Tryz.f93,envOf,zst,c1,c2,c2',hz,leave_pure]
 have c2': ¬ss.length≤a:=by omega
 have hx:=List.getElem?_eq_getElem (show a < ss.length by omega)
 obtain⟨hwb,hwe⟩:=hs _ (List.getElem_mem (show a < ss.length by omega))
 generalize ss[a]=s at*
 obtain⟨kind,name,low,high,step,mark,dim,pieces,tA,tS,val,body,els⟩:=s
 replace hwb:Sp93 body:=hwb
 replace hwe:Sp93 els:=hwe
 have hz: ¬((pr.length:Int)+1=0):=by omega
 rcases pr with _ |⟨p1,pt⟩
 ·refine fin (.mk kind name low high step mark dim pieces tA tS val body els) _ l true (lst 1 (l.map strC)) [] ?_ (hst _) ⟨rfl,by simp⟩
  rw[call_eq (by decide) (by simp)]
  obtain⟨op,q1,L,rA,subs,args⟩:=val
  simp[Tryz.func93,Tryz.f93,envOf,c1,c2,c2',hx,leave_pure]
 replace hz: ¬((pt.length:Int)+1+1=0):=by omega
 have hz2: ¬((pt.length:Int)+1+1=1):=by omega
 have hlen:(2:Int)≤pt.length+1+1:=by omega
 simp only[List.length_cons]at hl
 have hl1:l.length+1≤1073741824:=by omega
 have hl0:l.length≤1073741824:=by omega
 obtain⟨op,q1,L,rA,subs,args⟩:=val
 by_cases k1:kind=1
 ·subst k1
  by_cases q:p1=0
  ·subst q
   obtain⟨s',l',b',hr⟩:=hwb pt (l++[name]) (by simp;omega)
   refine fin s' s'.cs l' b' (lst 1 (l'.map strC)) [l.length+1] ?_ (hst _) ⟨rfl,by simp⟩
   obtain⟨kind',name',low',high',step',mark',dim',pieces',tA',tS',val',body',els'⟩:=s'
   obtain⟨op',q1',L',rA',subs',args'⟩:=val'
   rw[call_eq (by decide) (by simp)]
   rcases l with _ |⟨l0,lr⟩
   all_goals simp at hr hl1 hl0
   all_goals simp[Tryz.func93,Tryz.f93,envOf,c1,c2,c2',hx,hz,hz2,hlen,hl1,hl0,hr,leave_pure]
  ·refine fin stm0 zst [] false (.lst 0 [] .nil) [] ?_ zst_ok ⟨rfl,rfl⟩
   rw[call_eq (by decide) (by simp)]
   simp[Tryz.func93,Tryz.f93,envOf,zst,c1,c2,c2',hx,hz,hz2,q,leave_pure]
 by_cases k2:kind=2
 ·subst k2
  by_cases q:p1=0
  ·subst q
   obtain⟨s',l',b',hr⟩:=hwb pt l (by omega)
   refine fin s' s'.cs l' b' (lst 1 (l'.map strC)) [] ?_ (hst _) ⟨rfl,by simp⟩
   obtain⟨kind',name',low',high',step',mark',dim',pieces',tA',tS',val',body',els'⟩:=s'
   obtain⟨op',q1',L',rA',subs',args'⟩:=val'
   rw[call_eq (by decide) (by simp)]
   simp at hr
   simp[Tryz.func93,Tryz.f93,envOf,c1,c2,c2',hx,hz,hz2,hlen,hl1,hl0,hr,leave_pure]
  by_cases q1:p1=1
  ·subst q1
   obtain⟨s',l',b',hr⟩:=hwe pt l (by omega)
   refine fin s' s'.cs l' b' (lst 1 (l'.map strC)) [] ?_ (hst _) ⟨rfl,by simp⟩
   obtain⟨kind',name',low',high',step',mark',dim',pieces',tA',tS',val',body',els'⟩:=s'
   obtain⟨op',q1',L',rA',subs',args'⟩:=val'
   rw[call_eq (by decide) (by simp)]
   simp at hr
   simp[Tryz.func93,Tryz.f93,envOf,c1,c2,c2',hx,hz,hz2,hlen,hl1,hl0,hr,leave_pure]
  ·refine fin stm0 zst [] false (.lst 0 [] .nil) [] ?_ zst_ok ⟨rfl,rfl⟩
   rw[call_eq (by decide) (by simp)]
   simp[Tryz.func93,Tryz.f93,envOf,zst,c1,c2,c2',hx,hz,hz2,q,q1,leave_pure]
 ·refine fin stm0 zst [] false (.lst 0 [] .nil) [] ?_ zst_ok ⟨rfl,rfl⟩
  rw[call_eq (by decide) (by simp)]
  simp[Tryz.func93,Tryz.f93,envOf,zst,c1,c2,c2',hx,hz,hz2,k1,k2,leave_pure]
theorem sp93 {s:Stm} (h:OkStm s):Sp93 s.body∧Sp93 s.els:=by
 induction h with
 | @mk kind name low high step mark dim pieces tA tS val body els hname hlow hhigh hpie htS hval hbl hel hbody hels ih1 ih2=>
 exact⟨ic93 body ih1,ic93 els ih2⟩
theorem sp92 (t:PT) (hps:t.ps.length≤2) {s:Stm} (h:OkStm s):Sp92 t s.body∧Sp92 t s.els:=by
 induction h with
 | @mk kind name low high step mark dim pieces tA tS val body els hname hlow hhigh hpie htS hval hbl hel hbody hels ih1 ih2=>
 exact⟨ic92 t hps body hbl fun s hs=>⟨hbody s hs,ih1 s hs⟩,ic92 t hps els hel fun s hs=>⟨hels s hs,ih2 s hs⟩⟩
end T
end
section
open Go Go.Proofs Go.Sym
namespace T
attribute [-simp] getElem?_pos
structure Q3 where
 p:List Int
 l:List ByteArray
 s:Stm
def Q3.cs (q:Q3):List AV:=infR q.p q.l q.s
mutual
def trS (path:List Int) (l:List ByteArray) (i:Nat):Stm→List Q3
 | .mk kind name low high step mark dim pieces tA tS val body els=>
  if kind=1 then trL (path++[(i:Int),0]) (l++[name]) 0 body
  else if kind=2 then trL (path++[(i:Int),0]) l 0 body++trL (path++[(i:Int),1]) l 0 els
  else [⟨path++[(i:Int)],l,.mk kind name low high step mark dim pieces tA tS val body els⟩]
def trL (path:List Int) (l:List ByteArray) (i:Nat):List Stm→List Q3
 | []=>[]
 |s::r=>trS path l i s++trL path l (i+1) r
end
mutual
theorem trS_cs:∀(s:Stm) (path:List Int) (l:List ByteArray) (i:Nat),ifS path l i s=(trS path l i s).map Q3.cs
 | .mk kind name low high step mark dim pieces tA tS val body els,path,l,i=>by
  have h1:=trL_cs body (path++[(i:Int),0]) (l++[name]) 0
  have h2:=trL_cs body (path++[(i:Int),0]) l 0
  have h3:=trL_cs els (path++[(i:Int),1]) l 0
  simp only[ifS,trS]
  split
  ·exact h1
  ·split
   ·rw[List.map_append,h2,h3]
   ·rfl
theorem trL_cs:∀(ss:List Stm) (path:List Int) (l:List ByteArray) (i:Nat),ifL path l i ss=(trL path l i ss).map Q3.cs
 | [],_,_,_=>by simp[ifL,trL]
 |s::r,path,l,i=>by
  simp only[ifL,trL,List.map_append,trS_cs s path l i,trL_cs r path l (i+1)]
end
theorem trL_ok (t:PT) {s:Stm} {l:List ByteArray} (h:GoodS t l s):∀(path:List Int) (i:Nat),(trS path l i s).map (fun q=>q.l.length)=nlS l.length s∧∀q ∈ trS path l i s,q.p.length≤path.length+2*ssz s:=by
 have key:∀(l:List ByteArray) (ss:List Stm),(∀ s ∈ ss,∀(path:List Int) (i:Nat),(trS path l i s).map (fun q=>q.l.length)=nlS l.length s∧∀q ∈ trS path l i s,q.p.length≤path.length+2*ssz s)→
   ∀(path:List Int) (i:Nat),(trL path l i ss).map (fun q=>q.l.length)=nlL l.length ss∧∀q ∈ trL path l i ss,q.p.length≤path.length+2*sszL ss:=fun l ss=>by
  induction ss with
  |nil=>intro _ path i;exact⟨by simp[trL,nlL],by simp[trL]⟩
  |cons a r ih=>
   intro h path i
   obtain⟨a1,a2⟩:=h a (by simp) path i
   obtain⟨b1,b2⟩:=ih (fun s hs=>h s (by simp[hs])) path (i+1)
   refine⟨by simp only[trL,nlL,List.map_append,a1,b1],fun q hq=>?_⟩
   simp only[trL,List.mem_append]at hq
   simp only[sszL]
   rcases hq with hq |hq
   ·have:=a2 q hq;omega
   ·have:=b2 q hq;omega
 induction h with
 | @loop l name low high step mark dim pieces tA tS val body h1 g1 g2 g3 g4 g5 g6 g7 g8 g9 g10 g11 g12 h2 ih=>
  intro path i
  obtain⟨a1,a2⟩:=key (l++[name]) body ih (path++[(i:Int),0]) 0
  refine⟨by simpa[trS,nlS,nlL] using a1,fun q hq=>?_⟩
  have:=a2 q (by simpa[trS] using hq)
  simp[ssz]at this ⊢;omega
 | @test l name low high step mark dim pieces tA tS val body els h1 g1 g2 g3 g4 g5 h2 h3 ih1 ih2=>
  intro path i
  obtain⟨a1,a2⟩:=key l body ih1 (path++[(i:Int),0]) 0
  obtain⟨b1,b2⟩:=key l els ih2 (path++[(i:Int),1]) 0
  refine⟨by simp[trS,nlS,a1,b1],fun q hq=>?_⟩
  simp[trS]at hq
  rcases hq with hq |hq
  ·have:=a2 q hq;simp[ssz]at this ⊢;omega
  ·have:=b2 q hq;simp[ssz]at this ⊢;omega
 | @asg l name low high step mark dim pieces tA tS val body els h1 h2=>
  simp only[asgB,Bool.and_eq_true,decide_eq_true_eq]at h2
  have e1:body=[]:=List.length_eq_zero_iff.1 h2.1.1.1.1.2
  have e2:els=[]:=List.length_eq_zero_iff.1 h2.1.1.1.2
  subst e1 e2
  intro path i
  refine⟨by simp[trS,nlS,nlL],fun q hq=>?_⟩
  simp[trS]at hq
  subst hq
  simp[ssz];omega
theorem trL_all (t:PT) (l:List ByteArray):∀(ss:List Stm),(∀ s ∈ ss,GoodS t l s)→∀(path:List Int) (i:Nat),(trL path l i ss).map (fun q=>q.l.length)=nlL l.length ss∧∀q ∈ trL path l i ss,q.p.length≤path.length+2*sszL ss
 | [],_,path,i=>⟨by simp[trL,nlL],by simp[trL]⟩
 |a::r,h,path,i=>by
  obtain⟨a1,a2⟩:=trL_ok t (h a (by simp)) path i
  obtain⟨b1,b2⟩:=trL_all t l r (fun s hs=>h s (by simp[hs])) path (i+1)
  refine⟨by simp only[trL,nlL,List.map_append,a1,b1],fun q hq=>?_⟩
  simp only[trL,List.mem_append]at hq
  simp only[sszL]
  rcases hq with hq |hq
  ·have:=a2 q hq;omega
  ·have:=b2 q hq;omega
section
variable (t:PT) (qs:List Q3)
def S51b (acc:List (List AV)) (i:Nat) (q:Q3) (p:Nat×List (List AV)):St:=⟨[(1,.ptr 0 0 0),(3,.lst 23 acc (.tok 0)),(5,.ptr 1 0 0),(6,.ptr 2 0 0),(7,.int .i64 p.1),(15,lst 22 (qs.map Q3.cs)),(16,.int .i64 qs.length),(17,.int .i64 i)],[b60 t,⟨22,[q.cs],.box⟩,⟨23,[q.cs++[.lst 1 p.2 (.tok 1)]],.box⟩],[acc.length,p.2.length],0⟩
set_option maxHeartbeats 1000000 in
theorem loop51b (h:t.Ok) (acc:List (List AV)) (i:Nat) (q:Q3) (hp:q.p.length≤100000) (hps:t.ps.length≤2):∃o,(∀ s,s.gc [1,3,5,6,7,15,16,17] 3 2=S51b t qs acc i q (1,[])→loopE X 51 lb51_7 (St.gc [1,3,5,6,7,15,16,17] 3 2) s=some o)∧
  ∃e L,o= .exit 2 ⟨e,[b60 t,⟨22,[q.cs],.box⟩,⟨23,[q.cs++[.lst 1 L (.tok 1)]],.box⟩],[acc.length,L.length],0⟩∧get e 1= .ptr 0 0 0∧get e 3= .lst 23 acc (.tok 0)∧get e 6= .ptr 2 0 0∧get e 15=lst 22 (qs.map Q3.cs)∧get e 16= .int .i64 qs.length∧get e 17= .int .i64 i:=by
 refine loop_inv (S51b t qs acc i q) (fun p=>p.1≤q.p.length+2∧p.2.length≤p.1) (fun p=>q.p.length+2-p.1) _ (fun p hp'=>?_) (1,[]) ⟨by omega,by simp⟩
 obtain⟨n,L⟩:=p
 obtain⟨hn,hL⟩:=hp'
 simp only at hn hL
 have h93:=fun k:Nat=>ic93 t.body (fun s hs=>sp93 (h.stm s hs)) (q.p.take k) t.ps (by simp;omega)
 obtain⟨p,l,s⟩:=q
 obtain⟨kind,name,low,high,step,mark,dim,pieces,tA,tS,val,body,els⟩:=s
 obtain⟨op,q1,L1,rA,subs,args⟩:=val
 simp only at hn hp h93
 by_cases c:n < p.length
 ·right
  have hw:=wrap_id ((n:Int)+2) (by omega) (by omega)
  obtain⟨s',l',b',hr⟩:=h93 n
  obtain⟨kind',name',low',high',step',mark',dim',pieces',tA',tS',val',body',els'⟩:=s'
  obtain⟨op',q1',L',rA',subs',args'⟩:=val'
  have hcl:(n:Int) < p.length:=by omega
  have hcl':n≤p.length:=by omega
  have hLm:L.length+1≤1073741824:=by omega
  have hsz:szOf 1 (p.map intC)=1:=by
   rcases p with _ |⟨a,r⟩
   ·simp at c
   ·rfl
  simp at hr
  by_cases k:kind'=1
  ·simp[lb51_7,Tryz.f51,S51b,b60,Q3.cs,infR,c,hcl,hcl',hw,hr,k,hLm,hsz]
   exact⟨n+2,_,⟨by omega,rfl,by simp⟩,⟨by omega,by simp;omega⟩,by omega⟩
  ·simp[lb51_7,Tryz.f51,S51b,b60,Q3.cs,infR,c,hcl,hcl',hw,hr,k,hsz]
   exact⟨n+2,_,⟨by omega,rfl,rfl⟩,⟨by omega,by omega⟩,by omega⟩
 ·left
  have hcl: ¬(n:Int) < p.length:=by omega
  simp[lb51_7,Tryz.f51,S51b,b60,Q3.cs,infR,c,hcl,stops]
structure Q4 where
 q:Q3
 L:List (List AV)
def Q4.cs (x:Q4):List AV:=x.q.cs++[lst 1 x.L]
def S51a (p:Nat×List Q4):St:=⟨[(1,.ptr 0 0 0),(3,.lst 23 (p.2.map Q4.cs) (.tok 0)),(15,lst 22 (qs.map Q3.cs)),(16,.int .i64 qs.length),(17,.int .i64 p.1)],[b60 t],[p.2.length],0⟩
set_option maxHeartbeats 1000000 in
theorem loop51a (h:t.Ok) (hq:qs.length≤1000) (hp:∀q ∈ qs,q.p.length≤100000) (hps:t.ps.length≤2):∃o,(∀ s,s.gc [1,3,15,16,17] 1 1=S51a t qs (0,[])→loopE X 51 lb51_3 (St.gc [1,3,15,16,17] 1 1) s=some o)∧
  ∃(e:_) (xs:List Q4),o= .exit 0 ⟨e,[b60 t],[xs.length],0⟩∧get e 3= .lst 23 (xs.map Q4.cs) (.tok 0)∧xs.map Q4.q=qs:=by
 refine loop_inv (S51a t qs) (fun p=>p.1≤qs.length∧p.2.map Q4.q=qs.take p.1) (fun p=>qs.length-p.1) _ (fun p hp'=>?_) (0,[]) ⟨Nat.zero_le _,by simp⟩
 obtain⟨i,xs⟩:=p
 obtain⟨hi',hxs⟩:=hp'
 simp only at hi' hxs
 have hxl:xs.length=i:=by
  have:=congrArg List.length hxs
  simp at this;omega
 by_cases hi:i < qs.length
 ·right
  have hx:=List.getElem?_eq_getElem hi
  have hw:=wrap_nat i (by omega)
  have htk:qs.take (i+1)=qs.take i++[qs[i]]:=by rw[List.take_add_one,hx];rfl
  obtain⟨o,h1,e,L,rfl,g1,g3,g6,g15,g16,g17⟩:=loop51b t qs h (xs.map Q4.cs) i qs[i] (hp _ (List.getElem_mem hi)) hps
  generalize qs[i]=q at*
  have hLm:xs.length+1≤1073741824:=by omega
  obtain⟨p,l,s⟩:=q
  obtain⟨kind,name,low,high,step,mark,dim,pieces,tA,tS,val,body,els⟩:=s
  obtain⟨op,q1,L1,rA,subs,args⟩:=val
  simp only[lb51_7,Tryz.f51,S51b,b60,Q3.cs,infR,bodyOf_some,↓sub_seq0,↓sub_seq1,↓sub_block,↓sub_loop,↓sub_nil]at h1
  simp at h1
  simp[lb51_3,Tryz.f51,S51a,b60,Q3.cs,infR,hi,hw,hx,ex_loop,firstReg,h1,g1,g3,g6,g15,g16,g17,hLm]
  exact⟨i+1,xs++[⟨⟨p,l,.mk kind name low high step mark dim pieces tA tS (.mk op q1 L1 rA subs args) body els⟩,L⟩],by simp[Q4.cs,Q3.cs,infR],⟨by omega,by rw[List.map_append,hxs,htk];rfl⟩,by omega⟩
 ·left
  obtain rfl:i=qs.length:=by omega
  rw[List.take_length]at hxs
  simp[lb51_3,Tryz.f51,S51a,stops]
  exact⟨_,xs,⟨rfl,rfl⟩,rfl,hxs⟩
end
theorem ic51 (t:PT) (h:t.Ok) (hg:GoodP t):∃xs:List Q4,icall X (call X) 51 [.agg t.p.cs]=some (.ret (lst 23 (xs.map Q4.cs)))∧xs.map (fun x=>x.q.l.length)=nlL t.ps.length t.body:=by
 obtain⟨hH,hs,hgs⟩:=hg
 have hps:=hH.1
 have h92:=ic92 t hps t.body h.body (fun s hs=>⟨h.stm s hs,sp92 t hps (h.stm s hs)⟩) [] t.ps hgs (by omega) (by simp;omega) (by omega)
 rw[trL_cs]at h92
 obtain⟨hnl,hpl⟩:=trL_all t t.ps t.body hgs [] 0
 have hlen:=ifL_len t.body [] t.ps 0
 rw[trL_cs,List.length_map]at hlen
 generalize trL [] t.ps 0 t.body=qs at*
 obtain⟨o,h1,e,xs,rfl,g3,hx⟩:=loop51a t qs h (by omega) (fun q hq=>by have:=hpl q hq;simp at this;omega) hps
 refine⟨xs,?_,by rw[←hnl,←hx,List.map_map];rfl⟩
 refine icall_ret (v:=.lst 23 (xs.map Q4.cs) (.tok 0)) (H:=[]) (K:=[xs.length]) (by simp) (by simp) ?_ rfl rfl rfl
 simp only[lb51_3,Tryz.f51,S51a,b60,bodyOf_some,↓sub_seq0,↓sub_seq1,↓sub_block,↓sub_loop,↓sub_nil]at h1
 simp at h1 h92
 rw[call_eq (by decide) (by simp)]
 simp only[PT.cs]
 simp[Tryz.func51,Tryz.f51,envOf,ex_loop,firstReg,b60,h92,h1,g3,leave_pure]
end T
end
section
open Go Go.Proofs Go.Sym
namespace T
attribute [-simp] getElem?_pos
def stepN (ns:List Nat) (k:Nat) (_:Unit) (l:List Row):Unit ⊕ Int:=match ns[k]? with
 |some n=>foldS (stepE n) 0 l ()
 |none=>.inl ()
def chkN (ns:List Nat) (e:Int) (t:Tab):Int:=if e≠0 then e else if shapeE ns.length t≠0 then shapeE ns.length t else match foldS (stepN ns) 0 t ()with
 | .inl _=>0
 | .inr c=>c
theorem chk_N (is:List Inf) (e:Int) (t:Tab):chk is e t=chkN (is.map Inf.nl) e t:=by
 have h:∀(t:Tab) (k:Nat),foldS (stepO is) k t ()=foldS (stepN (is.map Inf.nl)) k t ():=fun t=>by
  induction t with
  |nil=>intro k;rfl
  |cons a r ih=>
   intro k
   have hs:stepO is k () a=stepN (is.map Inf.nl) k () a:=by
    unfold stepO stepN
    rw[List.getElem?_map]
    cases is[k]? <;> rfl
   simp only[foldS,hs]
   cases stepN (is.map Inf.nl) k () a with
   |inl u=>exact ih (k+1)
   |inr c=>rfl
 unfold chk chkN
 rw[List.length_map,h]
 cases foldS (stepN (is.map Inf.nl)) 0 t () <;> rfl
section
variable (t:PT) (tb:Tab) (xs:List Q4)
def H22:List Blk:=[⟨3,[t.p.cs],.box⟩,⟨1,[[tabV tb]],.box⟩]
def S22a (i:Nat):St:=⟨[(3,.ptr 1 0 0),(6,lst 23 (xs.map Q4.cs)),(29,tabV tb),(30,.int .i64 tb.length),(31,.int .i64 i)],H22 t tb,[],0⟩
theorem loop22a (ht:okTab tb):∃o,(∀ s,s.gc [3,6,29,30,31] 2 0=S22a t tb xs 0→loopE X 22 lb22_8 (St.gc [3,6,29,30,31] 2 0) s=some o)∧
  ((tb.all (fun l=> !big l)=true∧∃e,o= .exit 0 ⟨e,H22 t tb,[],0⟩∧get e 3= .ptr 1 0 0∧get e 6=lst 23 (xs.map Q4.cs))∨(tb.all (fun l=> !big l)=false∧∃e b,o= .ret ⟨(4,.int .i64 3)::e,b,[],0⟩)):=by
 refine loop_all tb (S22a t tb xs) (fun l=> !big l) _ _ (by simp[lb22_8,Tryz.f22,S22a,H22,PT.cs,stops]) (fun i l hc hi=>?_)
 have hw:=wrap_nat i (by have:=ht.1;omega)
 unfold big
 by_cases c:(8:Int) < l.length
 ·have c':8 < l.length:=by omega
  refine⟨fun h=>by simp[c']at h,fun _=>?_⟩
  simp[lb22_8,Tryz.f22,S22a,H22,PT.cs,hi,hc,c,c',stops]
 ·have c': ¬8 < l.length:=by omega
  refine⟨fun _=>?_,fun h=>by simp[c']at h⟩
  simp[lb22_8,Tryz.f22,S22a,H22,PT.cs,hi,hw,hc,c,c']
def S22b (i:Nat):St:=⟨[(3,.ptr 1 0 0),(6,lst 23 (xs.map Q4.cs)),(40,tabV tb),(41,.int .i64 tb.length),(42,.int .i64 i)],H22 t tb,[],0⟩
theorem loop22b (ht:okTab tb):∃o,(∀ s,s.gc [3,6,40,41,42] 2 0=S22b t tb xs 0→loopE X 22 lb22_14 (St.gc [3,6,40,41,42] 2 0) s=some o)∧
  ((tb.all (fun l=> !odd tb l)=true∧∃e,o= .exit 2 ⟨e,H22 t tb,[],0⟩∧get e 3= .ptr 1 0 0∧get e 6=lst 23 (xs.map Q4.cs))∨(tb.all (fun l=> !odd tb l)=false∧∃e b,o= .ret ⟨(4,.int .i64 2)::e,b,[],0⟩)):=by
 refine loop_all tb (S22b t tb xs) (fun l=> !odd tb l) _ _ (by simp[lb22_14,Tryz.f22,S22b,H22,PT.cs,stops]) (fun i l hc hi=>?_)
 have hw:=wrap_nat i (by have:=ht.1;omega)
 have h0:=List.getElem?_eq_getElem (show 0 < tb.length by omega)
 have hn:=nrows_get h0
 unfold odd
 rw[hn]
 generalize tb[0]=l0 at*
 by_cases c:(l.length:Int)=l0.length
 ·have c':l.length=l0.length:=by omega
  refine⟨fun _=>?_,fun h=>by simp[c']at h⟩
  simp[lb22_14,Tryz.f22,S22b,H22,PT.cs,hi,hw,hc,h0,c,c']
 ·have c': ¬l.length=l0.length:=by omega
  refine⟨fun h=>by simp[c']at h,fun _=>?_⟩
  simp[lb22_14,Tryz.f22,S22b,H22,PT.cs,hi,hc,h0,c,c',stops]
def S22d (i:Nat) (l:List Row) (j:Nat) (_:Unit):St:=⟨[(6,lst 23 (xs.map Q4.cs)),(11,.int .i64 i),(56,tabV tb),(57,.int .i64 tb.length),(58,.int .i64 i),(63,rowsV l),(64,.int .i64 l.length),(65,.int .i64 j)],H22 t tb,[],0⟩
theorem loop22d (i:Nat) (x:Q4) (hx:xs[i]? =some x) (l:List Row) (hl:okRows l):∃o,(∀ s,s.gc [6,11,56,57,58,63,64,65] 2 0=S22d t tb xs i l 0 ()→loopE X 22 lb22_23 (St.gc [6,11,56,57,58,63,64,65] 2 0) s=some o)∧
  (∀ u,foldS (stepE x.q.l.length) 0 l ()= .inl u→∃e,o= .exit 6 ⟨e,H22 t tb,[],0⟩∧get e 6=lst 23 (xs.map Q4.cs)∧get e 56=tabV tb∧get e 57= .int .i64 tb.length∧get e 58= .int .i64 i)∧(∀ c,foldS (stepE x.q.l.length) 0 l ()= .inr c→∃e b,o= .ret ⟨(4,.int .i64 c)::e,b,[],0⟩):=by
 have hil:i < xs.length:=(List.getElem?_eq_some_iff.1 hx).1
 obtain⟨⟨⟨p,nm,s⟩,L4⟩,hx0⟩:∃y,y=x:=⟨x,rfl⟩
 subst hx0
 obtain⟨o,h1,h2,h3⟩:=loop_list (X:=X) (f:=22) (lb:=lb22_23) (gc:=St.gc [6,11,56,57,58,63,64,65] 2 0) l (S22d t tb xs i l) (fun _ _=>True) (stepE nm.length)
  (fun _ o=>∃e,o= .exit 6 ⟨e,H22 t tb,[],0⟩∧get e 6=lst 23 (xs.map Q4.cs)∧get e 56=tabV tb∧get e 57= .int .i64 tb.length∧get e 58= .int .i64 i) (fun c o=>∃e b,o= .ret ⟨(4,.int .i64 c)::e,b,[],0⟩)
  (fun b _=>by simp[lb22_23,Tryz.f22,S22d,H22,PT.cs,stops]) (fun j r b hc _=>by
   have hj:=(List.getElem?_eq_some_iff.1 hc).1
   have hw:=wrap_nat j (by have:=hl.1;omega)
   have h52:=ic52 r.L (hl.2 r (List.mem_of_getElem? hc))
   have hxs:(xs.map Q4.cs)[i]? =some (Q4.cs ⟨⟨p,nm,s⟩,L4⟩):=by rw[List.getElem?_map,hx];rfl
   unfold stepE errR
   cases v:linValid r.L with
   |false=>
    rw[v]at h52
    simp[lb22_23,Tryz.f22,S22d,H22,PT.cs,hj,hc,h52,stops]
   |true=>
    rw[v]at h52
    by_cases c1:(r.L.C.length:Int)=nm.length
    ·have c1':r.L.C.length=nm.length:=by omega
     by_cases c2:r.D < 1
     ·simp[lb22_23,Tryz.f22,S22d,H22,PT.cs,Q4.cs,Q3.cs,infR,hj,hc,h52,hx,hil,c1,c1',c2,stops]
     ·by_cases c3:64 < r.D
      ·simp[lb22_23,Tryz.f22,S22d,H22,PT.cs,Q4.cs,Q3.cs,infR,hj,hc,h52,hx,hil,c1,c1',c2,c3,stops]
      ·simp[lb22_23,Tryz.f22,S22d,H22,PT.cs,Q4.cs,Q3.cs,infR,hj,hw,hc,h52,hx,hil,c1,c1',c2,c3]
    ·have c1': ¬r.L.C.length=nm.length:=by omega
     simp[lb22_23,Tryz.f22,S22d,H22,PT.cs,Q4.cs,Q3.cs,infR,hj,hc,h52,hx,hil,c1,c1',stops]) 0 () (Nat.zero_le _) trivial
 rw[List.drop_zero]at h2 h3
 exact⟨o,h1,fun u h=>(h2 u h).1,h3⟩
def S22c (i:Nat) (_:Unit):St:=⟨[(6,lst 23 (xs.map Q4.cs)),(56,tabV tb),(57,.int .i64 tb.length),(58,.int .i64 i)],H22 t tb,[],0⟩
theorem loop22c (ht:okTab tb) (hl:tb.length=xs.length):∃o,(∀ s,s.gc [6,56,57,58] 2 0=S22c t tb xs 0 ()→loopE X 22 lb22_20 (St.gc [6,56,57,58] 2 0) s=some o)∧
  (∀ u,foldS (stepN (xs.map fun x=>x.q.l.length)) 0 tb ()= .inl u→∃e,o= .exit 4 ⟨e,H22 t tb,[],0⟩)∧(∀ c,foldS (stepN (xs.map fun x=>x.q.l.length)) 0 tb ()= .inr c→∃e b,o= .ret ⟨(4,.int .i64 c)::e,b,[],0⟩):=by
 obtain⟨o,h1,h2,h3⟩:=loop_list (X:=X) (f:=22) (lb:=lb22_20) (gc:=St.gc [6,56,57,58] 2 0) tb (S22c t tb xs) (fun _ _=>True) (stepN (xs.map fun x=>x.q.l.length))
  (fun _ o=>∃e,o= .exit 4 ⟨e,H22 t tb,[],0⟩) (fun c o=>∃e b,o= .ret ⟨(4,.int .i64 c)::e,b,[],0⟩)
  (fun b _=>by simp[lb22_20,Tryz.f22,S22c,H22,PT.cs,stops]) (fun i l b hc _=>by
   have hi:=(List.getElem?_eq_some_iff.1 hc).1
   have hw:=wrap_nat i (by have:=ht.1;omega)
   have hx:=List.getElem?_eq_getElem (show i < xs.length by omega)
   obtain⟨o,h1,h2,h3⟩:=loop22d t tb xs i _ hx l (ht.2 l (List.mem_of_getElem? hc))
   simp only[lb22_23,Tryz.f22,S22d,H22,PT.cs,bodyOf_some,↓sub_seq0,↓sub_seq1,↓sub_block,↓sub_loop,↓sub_nil]at h1
   simp at h1
   unfold stepN
   rw[List.getElem?_map,hx]
   simp only[Option.map_some]
   cases hf:foldS (stepE (xs[i].q.l.length)) 0 l ()with
   |inl u=>
    obtain⟨e,rfl,g6,g56,g57,g58⟩:=h2 u hf
    simp[lb22_20,Tryz.f22,S22c,H22,PT.cs,hi,hw,hc,ex_loop,firstReg,h1,g6,g56,g57,g58]
   |inr c=>
    obtain⟨e,b,rfl⟩:=h3 c hf
    simp[lb22_20,Tryz.f22,S22c,H22,PT.cs,hi,hc,ex_loop,firstReg,h1,stops]) 0 () (Nat.zero_le _) trivial
 rw[List.drop_zero]at h2 h3
 exact⟨o,h1,fun u h=>(h2 u h).1,h3⟩
end
theorem any_all {α:Type} (f:α→Bool) (l:List α):l.any f= !l.all (fun x=> !f x):=by
 induction l with
 |nil=>rfl
 |cons a r ih=>simp[ih]
theorem ic22 (t:PT) (h:t.Ok) (hx:xszL t.body≤1073741824) (tb:Tab) (ht:okTab tb):
  icall X (call X) 22 [.agg t.p.cs,.agg [.lst (szOf 1 (tb.map rowsC)) (tb.map rowsC) .no]]=some (.ret (.int .i64 (chkN (nlL t.ps.length t.body) (perr t) tb))):=by
 have h50:=ic50 t h hx
 by_cases hg:GoodP t
 ·have he:perr t=0:=if_pos hg
  rw[he]at h50 ⊢
  obtain⟨xs,h51,hns⟩:=ic51 t h hg
  have hnl:(nlL t.ps.length t.body).length=xs.length:=by rw[←hns,List.length_map]
  refine icall_ret (v:=.int .i64 (chkN (nlL t.ps.length t.body) 0 tb)) (H:=[]) (K:=[]) (by simp) (by simp) ?_ rfl rfl rfl
  rw[call_eq (by decide) (by simp)]
  simp only[PT.cs]at h50 h51 ⊢
  unfold chkN
  rw[hnl,if_neg (by simp)]
  by_cases hl:(tb.length:Int)=xs.length
  ·have hl':tb.length=xs.length:=by omega
   obtain⟨o,k1,k2⟩:=loop22a t tb xs ht
   simp only[lb22_8,Tryz.f22,S22a,H22,PT.cs,bodyOf_some,↓sub_seq0,↓sub_seq1,↓sub_block,↓sub_loop,↓sub_nil]at k1
   simp at k1
   rcases k2 with⟨hb,e,rfl,g3,g6⟩ |⟨hb,e,b,rfl⟩
   ·have hb':tb.any big=false:=by rw[any_all,hb];rfl
    obtain⟨o,k3,k4⟩:=loop22b t tb xs ht
    simp only[lb22_14,Tryz.f22,S22b,H22,PT.cs,bodyOf_some,↓sub_seq0,↓sub_seq1,↓sub_block,↓sub_loop,↓sub_nil]at k3
    simp at k3
    rcases k4 with⟨ho,e2,rfl,g3',g6'⟩ |⟨ho,e2,b2,rfl⟩
    ·have ho':tb.any (odd tb)=false:=by rw[any_all,ho];rfl
     have hE:shapeE xs.length tb=0:=by unfold shapeE;rw[if_neg (by omega),if_neg (by rw[hb'];simp)];exact if_neg (by show ¬tb.any (odd tb)=true;rw[ho'];simp)
     rw[hE,if_neg (by simp),←hns]
     obtain⟨o,k5,k6,k7⟩:=loop22c t tb xs ht hl'
     simp only[lb22_20,Tryz.f22,S22c,H22,PT.cs,bodyOf_some,↓sub_seq0,↓sub_seq1,↓sub_block,↓sub_loop,↓sub_nil]at k5
     simp at k5
     cases hf:foldS (stepN (xs.map fun x=>x.q.l.length)) 0 tb ()with
     |inl u=>
      obtain⟨e3,rfl⟩:=k6 u hf
      simp[Tryz.func22,Tryz.f22,envOf,ex_loop,firstReg,H22,PT.cs,h50,h51,hl,k1,g3,g6,k3,g3',g6',k5,leave_pure]
     |inr c=>
      obtain⟨e3,b3,rfl⟩:=k7 c hf
      simp[Tryz.func22,Tryz.f22,envOf,ex_loop,firstReg,H22,PT.cs,h50,h51,hl,k1,g3,g6,k3,g3',g6',k5,leave_pure]
    ·have ho':tb.any (odd tb)=true:=by rw[any_all,ho];rfl
     have hE:shapeE xs.length tb=2:=by unfold shapeE;rw[if_neg (by omega),if_neg (by rw[hb'];simp)];exact if_pos ho'
     rw[hE,if_pos (by simp)]
     simp[Tryz.func22,Tryz.f22,envOf,ex_loop,firstReg,H22,PT.cs,h50,h51,hl,k1,g3,g6,k3,leave_pure]
   ·have hb':tb.any big=true:=by rw[any_all,hb];rfl
    have hE:shapeE xs.length tb=3:=by unfold shapeE;rw[if_neg (by omega),if_pos hb']
    rw[hE,if_pos (by simp)]
    simp[Tryz.func22,Tryz.f22,envOf,ex_loop,firstReg,H22,PT.cs,h50,h51,hl,k1,leave_pure]
  ·have hE:shapeE xs.length tb=2:=by unfold shapeE;rw[if_pos (by omega)]
   rw[hE,if_pos (by simp)]
   simp[Tryz.func22,Tryz.f22,envOf,h50,h51,hl,leave_pure]
 ·have he:perr t=1:=if_neg hg
  rw[he]at h50 ⊢
  have hc:chkN (nlL t.ps.length t.body) 1 tb=1:=if_pos (by simp)
  rw[hc]
  refine icall_ret (v:=.int .i64 1) (H:=[]) (K:=[]) (by simp) (by simp) ?_ rfl rfl rfl
  rw[call_eq (by decide) (by simp)]
  simp only[PT.cs]at h50 ⊢
  simp[Tryz.func22,Tryz.f22,envOf,h50,leave_pure]
end T
end
section
open Go Go.Proofs Go.Sym
namespace T
attribute [-simp] getElem?_pos
theorem ic55 (t:Tab):icall X (call X) 55 [.agg [.lst (szOf 1 (t.map rowsC)) (t.map rowsC) .no]]=some (.ret (.int .i64 (nrows t))):=by
 refine icall_ret (v:=int (nrows t)) (H:=[]) (K:=[]) (by simp) (by simp) ?_ rfl rfl (by simp)
 rw[call_eq (by decide) (by simp)]
 cases t with
 |nil=>simp[Tryz.func55,Tryz.f55,envOf,leave_pure,nrows]
 |cons a r=>
  have h: ¬((r.length:Int)+1=0):=by omega
  simp[Tryz.func55,Tryz.f55,envOf,leave_pure,nrows,h]
theorem ic95 (k n:Int):icall X (call X) 95 [.int .i64 k,.int .i64 n]=some (.ret (.bool (rowB n k))):=by
 refine icall_ret (v:=.bool (rowB n k)) (H:=[]) (K:=[]) (by simp) (by simp) ?_ rfl rfl rfl
 rw[call_eq (by decide) (by simp)]
 by_cases h:(0:Int)≤k
 ·simp[Tryz.func95,Tryz.f95,envOf,rowB,h,leave_pure]
 ·simp[Tryz.func95,Tryz.f95,envOf,rowB,h,leave_pure]
section
variable (t:Tab) (a:Nat)
def S96 (i:Nat):St:=⟨[(1,.int .i64 a),(8,tabV t),(9,.int .i64 t.length),(10,.int .i64 i)],[⟨1,[[tabV t]],.box⟩],[],0⟩
theorem ic96 (ht:okTab t) (hw:wide t a):icall X (call X) 96 [.agg [.lst (szOf 1 (t.map rowsC)) (t.map rowsC) .no],.int .i64 a]=some (.ret (.bool (!t.any (notW a)))):=by
 have hloop:∃o,(∀ s,s.gc [1,8,9,10] 1 0=S96 t a 0→loopE X 96 lb96_2 (St.gc [1,8,9,10] 1 0) s=some o)∧((t.all (fun l=> !notW a l)=true∧∃e b,o= .exit 0 ⟨e,b,[],0⟩)∨(t.all (fun l=> !notW a l)=false∧∃e b,o= .ret ⟨(4,.bool false)::e,b,[],0⟩)):=by
  refine loop_all t (S96 t a) (fun l=> !notW a l) _ _ (by simp[lb96_2,Tryz.f96,S96,stops]) (fun i l hc hi=>?_)
  have hwr:=wrap_nat i (by have:=ht.1;omega)
  have hlt:=hw l (List.mem_of_getElem? hc)
  have hr:=List.getElem?_eq_getElem hlt
  unfold notW
  rw[hr]
  generalize l[a]=r at*
  by_cases c:r.D=1
  ·refine⟨fun _=>?_,fun h=>by simp[c]at h⟩
   simp[lb96_2,Tryz.f96,S96,hi,hwr,hc,hr,hlt,c]
  ·refine⟨fun h=>by simp[c]at h,fun _=>?_⟩
   simp[lb96_2,Tryz.f96,S96,hi,hc,hr,hlt,c,stops]
 obtain⟨o,h1,h2⟩:=hloop
 simp only[lb96_2,Tryz.f96,S96,bodyOf_some,sub_seq0,sub_seq1,sub_block,sub_loop,sub_nil]at h1
 simp at h1
 rw[any_all]
 rcases h2 with⟨hv,e,b,rfl⟩ |⟨hv,e,b,rfl⟩
 ·rw[hv]
  refine icall_ret (v:=.bool true) (H:=[]) (K:=[]) (by simp) (by simp) ?_ rfl rfl rfl
  rw[call_eq (by decide) (by simp)]
  simp[Tryz.func96,Tryz.f96,envOf,ex_loop,firstReg,h1,leave_pure]
 ·rw[hv]
  refine icall_ret (v:=.bool false) (H:=[]) (K:=[]) (by simp) (by simp) ?_ rfl rfl rfl
  rw[call_eq (by decide) (by simp)]
  simp[Tryz.func96,Tryz.f96,envOf,ex_loop,firstReg,h1,leave_pure]
def S97b (i:Nat) (C:List Int) (j:Nat):St:=⟨[(1,.int .i64 a),(2,.ptr 0 0 0),(10,tabV t),(11,.int .i64 t.length),(12,.int .i64 i),(21,ints C),(22,.int .i64 C.length),(23,.int .i64 j)],[⟨1,[[tabV t]],.box⟩],[],0⟩
theorem loop97b (i:Nat) (C:List Int) (hC:C.length≤1073741824):∃o,(∀ s,s.gc [1,2,10,11,12,21,22,23] 1 0=S97b t a i C 0→loopE X 97 lb97_5 (St.gc [1,2,10,11,12,21,22,23] 1 0) s=some o)∧
  ((C.all (fun c=> !nz c)=true∧∃e,o= .exit 2 ⟨e,[⟨1,[[tabV t]],.box⟩],[],0⟩∧get e 1= .int .i64 a∧get e 2= .ptr 0 0 0∧get e 10=tabV t∧get e 11= .int .i64 t.length∧get e 12= .int .i64 i)∨(C.all (fun c=> !nz c)=false∧∃e b,o= .ret ⟨(4,.bool false)::e,b,[],0⟩)):=by
 refine loop_all C (S97b t a i C) (fun c=> !nz c) _ _ (by simp[lb97_5,Tryz.f97,S97b,stops]) (fun j c hc hj=>?_)
 have hwr:=wrap_nat j (by omega)
 unfold nz
 by_cases h:c=0
 ·refine⟨fun _=>?_,fun h'=>by simp[h]at h'⟩
  simp[lb97_5,Tryz.f97,S97b,hj,hwr,hc,h]
 ·refine⟨fun h'=>by simp[h]at h',fun _=>?_⟩
  simp[lb97_5,Tryz.f97,S97b,hj,hc,h,stops]
def S97a (i:Nat):St:=⟨[(1,.int .i64 a),(2,.ptr 0 0 0),(10,tabV t),(11,.int .i64 t.length),(12,.int .i64 i)],[⟨1,[[tabV t]],.box⟩],[],0⟩
theorem ic97 (ht:okTab t) (hw:wide t a):icall X (call X) 97 [.agg [.lst (szOf 1 (t.map rowsC)) (t.map rowsC) .no],.int .i64 a]=some (.ret (.bool (!t.any (notW a)&& !t.any (notC a)))):=by
 have h96:=ic96 t a ht hw
 have hloop:∃o,(∀ s,s.gc [1,2,10,11,12] 1 0=S97a t a 0→loopE X 97 lb97_2 (St.gc [1,2,10,11,12] 1 0) s=some o)∧((t.all (fun l=> !notC a l)=true∧∃e,o= .exit 0 ⟨e,[⟨1,[[tabV t]],.box⟩],[],0⟩∧get e 1= .int .i64 a∧get e 2= .ptr 0 0 0)∨(t.all (fun l=> !notC a l)=false∧∃e b,o= .ret ⟨(4,.bool false)::e,b,[],0⟩)):=by
  refine loop_all t (S97a t a) (fun l=> !notC a l) _ _ (by simp[lb97_2,Tryz.f97,S97a,stops]) (fun i l hc hi=>?_)
  have hwr:=wrap_nat i (by have:=ht.1;omega)
  have hlt:=hw l (List.mem_of_getElem? hc)
  have hr:=List.getElem?_eq_getElem hlt
  have hlin:=(ht.2 l (List.mem_of_getElem? hc)).2 _ (List.getElem_mem hlt)
  unfold notC
  rw[hr]
  generalize l[a]=r at*
  obtain⟨o,h1,h2⟩:=loop97b t a i r.L.C hlin
  simp only[lb97_5,Tryz.f97,S97b,bodyOf_some,↓sub_seq0,↓sub_seq1,↓sub_block,↓sub_loop,↓sub_nil]at h1
  simp at h1
  simp only[any_all,Bool.not_not]
  rcases h2 with⟨hv,e,rfl,g1,g2,g3,g4,g5⟩ |⟨hv,e,b,rfl⟩
  ·refine⟨fun _=>?_,fun h=>(by rw[hv]at h;cases h)⟩
   simp[lb97_2,Tryz.f97,S97a,hi,hwr,hc,hr,hlt,ex_loop,firstReg,h1,g1,g2,g3,g4,g5]
  ·refine⟨fun h=>(by rw[hv]at h;cases h),fun _=>?_⟩
   simp[lb97_2,Tryz.f97,S97a,hi,hc,hr,hlt,ex_loop,firstReg,h1,stops]
 obtain⟨o,h1,h2⟩:=hloop
 simp only[lb97_2,Tryz.f97,S97a,bodyOf_some,↓sub_seq0,↓sub_seq1,↓sub_block,↓sub_loop,↓sub_nil]at h1
 simp at h1
 rw[any_all (notC a)]
 rcases h2 with⟨hv,e,rfl,g1,g2⟩ |⟨hv,e,b,rfl⟩
 ·rw[hv]
  simp only[Bool.not_true,Bool.not_false,Bool.and_true]
  refine icall_ret (v:=.bool (!t.any (notW a))) (H:=[]) (K:=[]) (by simp) (by simp) ?_ rfl rfl rfl
  rw[call_eq (by decide) (by simp)]
  simp[Tryz.func97,Tryz.f97,envOf,ex_loop,firstReg,h1,g1,g2,h96,leave_pure]
 ·rw[hv]
  simp only[Bool.not_true,Bool.not_false,Bool.and_false]
  refine icall_ret (v:=.bool false) (H:=[]) (K:=[]) (by simp) (by simp) ?_ rfl rfl rfl
  rw[call_eq (by decide) (by simp)]
  simp[Tryz.func97,Tryz.f97,envOf,ex_loop,firstReg,h1,leave_pure]
end
def much (k n:Int):Int:=if n=0∨(-2097152≤k∧k≤2097152)then k*n else 4194304
theorem ic57 (k n:Int) (hk: -9223372036854775808≤k∧k < 9223372036854775808) (hn: -1048576≤n∧n≤1048576):icall X (call X) 57 [.int .i64 k,.int .i64 n]=some (.ret (.int .i64 (much k n))):=by
 have fin:∀c,call X 57 [.int .i64 k,.int .i64 n] [] []=some (.ret (.int .i64 c),[],[])→much k n=c→icall X (call X) 57 [.int .i64 k,.int .i64 n]=some (.ret (.int .i64 (much k n))):=fun c h e=>by rw[e];exact icall_ret (v:=.int .i64 c) (H:=[]) (K:=[]) (by simp) (by simp) h rfl rfl rfl
 by_cases c0:n=0
 ·subst c0
  refine fin 0 ?_ (by simp[much])
  have hw:IntKind.i64.wrap 0=0:=wrap_id _ (by omega) (by omega)
  rw[call_eq (by decide) (by simp)]
  simp[Tryz.func57,Tryz.f57,envOf,hw,leave_pure]
 ·by_cases c1: -2097152≤k
  ·by_cases c2:k≤2097152
   ·have hb: -2199023255552≤k*n∧k*n≤2199023255552:=by
     have h1:k.natAbs≤2097152:=by omega
     have h2:n.natAbs≤1048576:=by omega
     have h3:(k*n).natAbs≤2097152*1048576:=by rw[Int.natAbs_mul];exact Nat.mul_le_mul h1 h2
     omega
    have hw:IntKind.i64.wrap (k*n)=k*n:=wrap_id _ (by omega) (by omega)
    refine fin (k*n) ?_ (by simp[much,c1,c2])
    rw[call_eq (by decide) (by simp)]
    simp[Tryz.func57,Tryz.f57,envOf,c0,c1,c2,hw,leave_pure]
   ·refine fin 4194304 ?_ (by simp[much,c0,c2])
    rw[call_eq (by decide) (by simp)]
    simp[Tryz.func57,Tryz.f57,envOf,c0,c1,c2,leave_pure]
  ·refine fin 4194304 ?_ (by simp[much,c0,c1])
   rw[call_eq (by decide) (by simp)]
   simp[Tryz.func57,Tryz.f57,envOf,c0,c1,leave_pure]
end T
end
section
open Go Go.Proofs Go.Sym
namespace T
attribute [-simp] getElem?_pos
def negL (x:Lin):Lin:=⟨x.C.map (fun c=> -c),-x.K⟩
def hp56 (x:Lin) (i:Nat):List Blk:=[⟨2,[x.cs],.box⟩,⟨2,[x.cs],.box⟩,⟨2,[[.lst 0 [] .nil,int 0]],.box⟩,⟨1,part ((x.C.map (fun c=> -c)).map intC) (intC 0) i,.data⟩,⟨2,[[.win 3 0 x.C.length (some x.C.length),int (-x.K)]],.box⟩]
def S56 (x:Lin) (i:Nat):St:=⟨[(0,int (-1)),(2,int 0),(5,.ptr 0 0 0),(7,.ptr 1 0 0),(8,.ptr 2 0 0),(9,.ptr 4 0 0),(27,int x.C.length),(28,int i)],hp56 x i,[],0⟩
theorem wrap0:IntKind.i64.wrap 0=0:=wrap_id _ (by omega) (by omega)
theorem loop56 (x:Lin) (hx:linValid x=true):
  ∃o,(∀ s,s.gc [0,2,5,7,8,9,27,28] 5 0=S56 x 0→loopE X 56 lb56_3 (St.gc [0,2,5,7,8,9,27,28] 5 0) s=some o)∧∃e,o= .exit 0 ⟨e,hp56 x x.C.length,[],0⟩∧get e 8= .ptr 2 0 0∧get e 9= .ptr 4 0 0:=by
 have hvx:=valid_iff.1 hx
 refine loop_unit x.C.length (S56 x) _ (by simp[lb56_3,Tryz.f56,S56,hp56,stops]) fun i hi=>?_
 have hw:=wrap_nat i (by omega)
 have hcx:=List.getElem?_eq_getElem hi
 have hf:=fits_iff.1 (hvx.1 _ (List.getElem_mem hi))
 have w1:IntKind.i64.wrap (-x.C[i])=-x.C[i]:=wrap_id _ (by omega) (by omega)
 have w0:=wrap0
 have hg:(part ((x.C.map (fun c=> -c)).map intC) (intC 0) i)[i]? =some [.int .i64 0]:=by
  rw[part_get,if_neg (by omega),if_pos (by simp;exact hi)];rfl
 have hs:(part ((x.C.map (fun c=> -c)).map intC) (intC 0) i).set i [.int .i64 (-x.C[i])]=part ((x.C.map (fun c=> -c)).map intC) (intC 0) (i+1):=part_set _ _ _ _ (by simp[hcx])
 simp only[intC_def]at hg hs
 simp[-List.map_map,lb56_3,Tryz.f56,S56,hp56,hi,hw,hcx,w0,w1,hg,hs]
theorem ic56 (x:Lin) (hx:linValid x=true):icall X (call X) 56 [.int .i64 (-1),.agg [.lst (szOf 1 (x.C.map intC)) (x.C.map intC) .no,.int .i64 x.K],.int .i64 0,.agg [.lst (szOf 1 (x.C.map intC)) (x.C.map intC) .no,.int .i64 x.K]]=some (.ret (.agg (negL x).cs)):=by
 have hvx:=valid_iff.1 hx
 obtain⟨o,h1,e,rfl,g1,g2⟩:=loop56 x hx
 have hf:=fits_iff.1 hvx.2.2
 have w1:IntKind.i64.wrap (-x.K)=-x.K:=wrap_id _ (by omega) (by omega)
 have w0:=wrap0
 have hpf:part ((x.C.map (fun c=> -c)).map intC) (intC 0) x.C.length=(x.C.map (fun c=> -c)).map intC:=by
  have:=part_full ((x.C.map (fun c=> -c)).map intC) (intC 0)
  rwa[List.length_map,List.length_map]at this
 have hb:x.C.length≤1073741824:=by omega
 simp only[lb56_3,Tryz.f56,S56,hp56,bodyOf_some,↓sub_seq0,↓sub_seq1,↓sub_block,↓sub_loop,↓sub_nil,part_zero]at h1
 simp only[intC_def]at hpf
 refine icall_ret (v:=.agg (negL x).cs) (H:=[]) (K:=[]) (by simp) (by simp) ?_ rfl (by simp[negL]) (by simp[negL])
 rw[call_eq (by decide) (by simp)]
 simp[-List.map_map,Tryz.func56,Tryz.f56,envOf,ex_loop,firstReg,hp56,h1,g1,g2,w0,w1,hpf,hb,negL,leave_pure]
end T
end
section
open Go Go.Proofs Go.Sym
namespace T
attribute [-simp] getElem?_pos
def addC (k:Int) (x y:List Int):List Int:=List.zipWith (fun a b=>a+much k b) x y
def addL (x:Lin) (k:Int) (y:Lin):Lin:=⟨addC k x.C y.C,x.K+much k y.K⟩
theorem much_bd {k n:Int} (hn: -1048576≤n∧n≤1048576): -2199023255552≤much k n∧much k n≤2199023255552:=by
 unfold much
 split
 ·rename_i h
  rcases h with rfl |h
  ·simp
  ·have h1:k.natAbs≤2097152:=by omega
   have h2:n.natAbs≤1048576:=by omega
   have h3:(k*n).natAbs≤2097152*1048576:=by rw[Int.natAbs_mul];exact Nat.mul_le_mul h1 h2
   omega
 ·omega
def hp58 (x:Lin) (k:Int) (y:Lin) (i:Nat):List Blk:=[⟨2,[x.cs],.box⟩,⟨2,[y.cs],.box⟩,⟨2,[[.lst 0 [] .nil,int 0]],.box⟩,⟨1,part ((addC k x.C y.C).map intC) (intC 0) i,.data⟩,⟨2,[[.win 3 0 x.C.length (some x.C.length),int (x.K+much k y.K)]],.box⟩]
def S58 (x:Lin) (k:Int) (y:Lin) (i:Nat):St:=⟨[(1,int k),(3,.ptr 0 0 0),(5,.ptr 1 0 0),(6,.ptr 2 0 0),(7,.ptr 4 0 0),(23,int x.C.length),(24,int i)],hp58 x k y i,[],0⟩
theorem loop58 (x:Lin) (k:Int) (y:Lin) (hk: -9223372036854775808≤k∧k < 9223372036854775808) (hx:linValid x=true) (hy:linValid y=true) (hl:y.C.length=x.C.length):
  ∃o,(∀ s,s.gc [1,3,5,6,7,23,24] 5 0=S58 x k y 0→loopE X 58 lb58_3 (St.gc [1,3,5,6,7,23,24] 5 0) s=some o)∧∃e,o= .exit 0 ⟨e,hp58 x k y x.C.length,[],0⟩∧get e 6= .ptr 2 0 0∧get e 7= .ptr 4 0 0:=by
 have hvx:=valid_iff.1 hx
 have hvy:=valid_iff.1 hy
 have hlen:(addC k x.C y.C).length=x.C.length:=by simp[addC,hl]
 refine loop_unit x.C.length (S58 x k y) _ (by simp[lb58_3,Tryz.f58,S58,hp58,stops]) fun i hi=>?_
 have hw:=wrap_nat i (by omega)
 have hcx:=List.getElem?_eq_getElem hi
 have hcy:=List.getElem?_eq_getElem (show i < y.C.length by omega)
 have hf:=fits_iff.1 (hvx.1 _ (List.getElem_mem hi))
 have hg:=fits_iff.1 (hvy.1 _ (List.getElem_mem (show i < y.C.length by omega)))
 have hm:=much_bd (k:=k) hg
 have h57:=ic57 k y.C[i] hk hg
 have w1:IntKind.i64.wrap (x.C[i]+much k y.C[i])=x.C[i]+much k y.C[i]:=wrap_id _ (by omega) (by omega)
 have hgt:(part ((addC k x.C y.C).map intC) (intC 0) i)[i]? =some [.int .i64 0]:=by
  rw[part_get,if_neg (by omega),if_pos (by simp[hlen];exact hi)];rfl
 have hs:(part ((addC k x.C y.C).map intC) (intC 0) i).set i [.int .i64 (x.C[i]+much k y.C[i])]=part ((addC k x.C y.C).map intC) (intC 0) (i+1):=part_set _ _ _ _ (by simp[addC,List.getElem?_zipWith,hcx,hcy])
 simp only[intC_def]at hgt hs
 simp[-List.map_map,lb58_3,Tryz.f58,S58,hp58,hi,hw,hcx,hcy,h57,w1,hgt,hs]
theorem ic58 (x:Lin) (k:Int) (y:Lin) (hk: -9223372036854775808≤k∧k < 9223372036854775808) (hx:linValid x=true) (hy:linValid y=true) (hl:y.C.length=x.C.length):
  icall X (call X) 58 [.agg [.lst (szOf 1 (x.C.map intC)) (x.C.map intC) .no,.int .i64 x.K],.int .i64 k,.agg [.lst (szOf 1 (y.C.map intC)) (y.C.map intC) .no,.int .i64 y.K]]=some (.ret (.agg (addL x k y).cs)):=by
 have hvx:=valid_iff.1 hx
 have hvy:=valid_iff.1 hy
 have hlen:(addC k x.C y.C).length=x.C.length:=by simp[addC,hl]
 obtain⟨o,h1,e,rfl,g1,g2⟩:=loop58 x k y hk hx hy hl
 have hf:=fits_iff.1 hvx.2.2
 have hg:=fits_iff.1 hvy.2.2
 have hm:=much_bd (k:=k) hg
 have h57:=ic57 k y.K hk hg
 have w1:IntKind.i64.wrap (x.K+much k y.K)=x.K+much k y.K:=wrap_id _ (by omega) (by omega)
 have hpf:part ((addC k x.C y.C).map intC) (intC 0) x.C.length=(addC k x.C y.C).map intC:=by
  have:=part_full ((addC k x.C y.C).map intC) (intC 0)
  rwa[List.length_map,hlen]at this
 have hb:x.C.length≤1073741824:=by omega
 have hz:part ((addC k x.C y.C).map intC) (intC 0) 0=List.replicate x.C.length (intC 0):=by rw[part_zero,List.length_map,hlen]
 simp only[lb58_3,Tryz.f58,S58,hp58,bodyOf_some,↓sub_seq0,↓sub_seq1,↓sub_block,↓sub_loop,↓sub_nil,hz]at h1
 simp only[intC_def]at hpf
 refine icall_ret (v:=.agg (addL x k y).cs) (H:=[]) (K:=[]) (by simp) (by simp) ?_ rfl (by simp[addL]) (by simp[addL])
 rw[call_eq (by decide) (by simp)]
 simp[-List.map_map,Tryz.func58,Tryz.f58,envOf,ex_loop,firstReg,hp58,h57,h1,g1,g2,w1,hpf,hb,hlen,addL,leave_pure]
end T
end
section
open Go Go.Proofs Go.Sym
namespace T
attribute [-simp] getElem?_pos
def shE (t:Tab) (m:Mv):Int:=
 if m.kind=1 then(if rowB (nrows t) m.a&&rowB (nrows t) m.b then 0 else 6)
 else if m.kind=2 then(if rowB (nrows t) m.a then(if t.any (notW m.a.toNat)then 9 else 0)else 6)
 else if m.kind=3 then(if rowB t.length m.a then(if rowB (nrows t) m.b then 0 else 6)else 5)
 else if m.kind=4 then(if rowB (nrows t) m.a&&rowB (nrows t) m.b&&decide (m.a≠m.b)then(if t.any (notW m.a.toNat)||t.any (notW m.b.toNat)then 9 else 0)else 6)
 else if m.kind=5 then(if m.a < 0∨m.b≤m.a∨(nrows t:Int) < m.b∨m.k < 2∨64 < m.k then 6 else if((List.range m.b.toNat).drop m.a.toNat).any (fun a=>t.any (notW a))then 9 else if 8 < (nrows t:Int)+m.b-m.a then 3 else 0)
 else if m.kind=6 then(if m.a < 0∨(nrows t:Int) < m.a then 6 else if m.list.length≠t.length then 2 else if m.list.any (fun c=> !fits c)then 3 else if nrows t=8 then 3 else 0)
 else if m.kind=7 then(if rowB (nrows t) m.a then(if !t.any (notW m.a.toNat)&& !t.any (notC m.a.toNat)then 0 else 9)else 6)
 else 5
def S53a (n:Nat) (t:Tab) (m:Mv) (a:Nat):St:=⟨[(2,.ptr 0 0 0),(3,.ptr 1 0 0),(5,int n),(6,int a)],[⟨1,[[tabV t]],.box⟩,mvB m],[],0⟩
theorem loop53a (n:Nat) (t:Tab) (m:Mv) (ht:okTab t) (a0 b:Nat) (hb:m.b=b) (hbn:b≤n) (hn:n≤1073741823) (hw:∀a,a < n→wide t a) (ha0:a0≤b):
  ∃o,(∀ s,s.gc [2,3,5,6] 2 0=S53a n t m a0→loopE X 53 lb53_26 (St.gc [2,3,5,6] 2 0) s=some o)∧
  ((((List.range b).drop a0).any (fun a=>t.any (notW a))=false∧∃e,o= .exit 1 ⟨e,[⟨1,[[tabV t]],.box⟩,mvB m],[],0⟩∧get e 2= .ptr 0 0 0∧get e 3= .ptr 1 0 0∧get e 5= .int .i64 n)∨
   (((List.range b).drop a0).any (fun a=>t.any (notW a))=true∧∃e,o= .ret ⟨(4,int 9)::e,[⟨1,[[tabV t]],.box⟩,mvB m],[],0⟩)):=by
 have key:((List.range b).drop a0).any (fun a=>t.any (notW a))=true↔∃x,a0≤x∧x < b∧t.any (notW x)=true:=by
  simp only[List.any_eq_true]
  constructor
  ·rintro⟨x,hx,y,hy,hy2⟩
   obtain⟨j,hj,rfl⟩:=List.getElem_of_mem hx
   simp at hj
   exact⟨_,by simp,by simp;omega,y,hy,hy2⟩
  ·rintro⟨x,h1,h2,y,hy,hy2⟩
   refine⟨x,?_,y,hy,hy2⟩
   rw[List.mem_iff_getElem?]
   exact⟨x-a0,by rw[List.getElem?_drop,show a0+(x-a0)=x by omega,List.getElem?_range h2]⟩
 generalize ((List.range b).drop a0).any (fun a=>t.any (notW a))=B at*
 refine loop_inv (S53a n t m) (fun a=>a0≤a∧a≤b∧∀x,a0≤x→x < a→t.any (notW x)=false) (fun a=>b-a) _ (fun a hI=>?_) a0 ⟨Nat.le_refl _,ha0,fun x h1 h2=>by omega⟩
 obtain⟨i1,i2,i3⟩:=hI
 by_cases hlt:a < b
 ·have h96:=ic96 t a ht (hw a (by omega))
  have hwr:=wrap_nat a (by omega)
  by_cases hc:t.any (notW a)=true
  ·left
   rw[hc]at h96
   have hB:B=true:=key.2 ⟨a,i1,hlt,hc⟩
   simp[lb53_26,Tryz.f53,S53a,hb,hlt,h96,stops,hB]
  ·rw[Bool.not_eq_true]at hc
   rw[hc]at h96
   right
   simp[lb53_26,Tryz.f53,S53a,hb,hlt,h96,hwr]
   refine⟨a+1,by omega,⟨by omega,by omega,fun x h1 h2=>?_⟩,by omega⟩
   by_cases e:x=a
   ·subst e;simpa using hc
   ·simpa using i3 x h1 (by omega)
 ·left
  obtain rfl:a=b:=by omega
  have hB:B=false:=by
   rw[←Bool.not_eq_true,key]
   rintro⟨x,h1,h2,h3⟩
   rw[i3 x h1 h2]at h3
   cases h3
  simp[lb53_26,Tryz.f53,S53a,hb,stops,hB]
def S53b (n:Nat) (t:Tab) (m:Mv) (i:Nat):St:=⟨[(5,int n),(157,ints m.list),(158,int m.list.length),(159,int i)],[⟨1,[[tabV t]],.box⟩,mvB m],[],0⟩
theorem loop53b (n:Nat) (t:Tab) (m:Mv) (hm:m.list.length≤1073741823):∃o,(∀ s,s.gc [5,157,158,159] 2 0=S53b n t m 0→loopE X 53 lb53_38 (St.gc [5,157,158,159] 2 0) s=some o)∧
  ((m.list.all fits=true∧∃e,o= .exit 3 ⟨e,[⟨1,[[tabV t]],.box⟩,mvB m],[],0⟩∧get e 5= .int .i64 n)∨(m.list.all fits=false∧∃e b,o= .ret ⟨(4,int 3)::e,b,[],0⟩)):=by
 refine loop_all m.list (S53b n t m) fits _ _ (by simp[lb53_38,Tryz.f53,S53b,stops]) (fun i c hc hi=>?_)
 have hw:=wrap_nat i (by omega)
 cases hf:fits c with
 |true=>
  refine⟨fun _=>?_,fun h=>by simp at h⟩
  simp[lb53_38,Tryz.f53,S53b,hi,hw,hc,hf]
 |false=>
  refine⟨fun h=>by simp at h,fun _=>?_⟩
  simp[lb53_38,Tryz.f53,S53b,hi,hc,hf,stops]
end T
end
section
open Go Go.Proofs Go.Sym
namespace T
attribute [-simp] getElem?_pos
set_option maxHeartbeats 4000000 in
theorem ic53 (t:Tab) (hG:Good t (nrows t)) (hn8:nrows t≤8) (m:Mv) (hm:m.list.length≤1073741823):
  icall X (call X) 53 [.agg [.lst (szOf 1 (t.map rowsC)) (t.map rowsC) .no],.agg m.cs]=some (.ret (.int .i64 (shE t m))):=by
 have fin:∀c,call X 53 [.agg [.lst (szOf 1 (t.map rowsC)) (t.map rowsC) .no],.agg m.cs] [] []=some (.ret (.int .i64 c),[],[])→shE t m=c→icall X (call X) 53 [.agg [.lst (szOf 1 (t.map rowsC)) (t.map rowsC) .no],.agg m.cs]=some (.ret (.int .i64 (shE t m))):=fun c h e=>by rw[e];exact icall_ret (v:=.int .i64 c) (H:=[]) (K:=[]) (by simp) (by simp) h rfl rfl rfl
 have h55:=ic55 t
 have ra:=ic95 m.a (nrows t)
 have rb:=ic95 m.b (nrows t)
 have wa:∀a:Nat,a < nrows t→_:=fun a h=>ic96 t a hG.ok (hG.wide h)
 have ca:∀a:Nat,a < nrows t→_:=fun a h=>ic97 t a hG.ok (hG.wide h)
 generalize hn:nrows t=n at*
 obtain⟨kind,ma,mb,mk,ml⟩:=m
 simp only at*
 by_cases k1:kind=1
 ·subst k1
  cases va:rowB n ma with
  |false=>
   rw[va]at ra
   refine fin 6 ?_ (by simp[shE,hn,va])
   rw[call_eq (by decide) (by simp)]
   simp[Tryz.func53,Tryz.f53,envOf,h55,ra,leave_pure]
  |true=>
   rw[va]at ra
   cases vb:rowB n mb with
   |false=>
    rw[vb]at rb
    refine fin 6 ?_ (by simp[shE,hn,vb])
    rw[call_eq (by decide) (by simp)]
    simp[Tryz.func53,Tryz.f53,envOf,h55,ra,rb,leave_pure]
   |true=>
    rw[vb]at rb
    refine fin 0 ?_ (by simp[shE,hn,va,vb])
    rw[call_eq (by decide) (by simp)]
    simp[Tryz.func53,Tryz.f53,envOf,h55,ra,rb,leave_pure]
 by_cases k2:kind=2
 ·subst k2
  cases va:rowB n ma with
  |false=>
   rw[va]at ra
   refine fin 6 ?_ (by simp[shE,hn,va])
   rw[call_eq (by decide) (by simp)]
   simp[Tryz.func53,Tryz.f53,envOf,h55,ra,leave_pure]
  |true=>
   rw[va]at ra
   obtain⟨a,rfl,han⟩:=rowB_nat va
   have h96:=wa a han
   cases vw:t.any (notW a)with
   |true=>
    rw[vw]at h96
    refine fin 9 ?_ (by simp[shE,hn,va,vw])
    rw[call_eq (by decide) (by simp)]
    simp[Tryz.func53,Tryz.f53,envOf,h55,ra,h96,leave_pure]
   |false=>
    rw[vw]at h96
    refine fin 0 ?_ (by simp[shE,hn,va,vw])
    rw[call_eq (by decide) (by simp)]
    simp[Tryz.func53,Tryz.f53,envOf,h55,ra,h96,leave_pure]
 by_cases k3:kind=3
 ·subst k3
  by_cases c0:ma < 0
  ·refine fin 5 ?_ (by simp[shE,show rowB t.length ma=false by simp[rowB];omega])
   rw[call_eq (by decide) (by simp)]
   simp[Tryz.func53,Tryz.f53,envOf,h55,c0,leave_pure]
  ·by_cases c1:(t.length:Int)≤ma
   ·refine fin 5 ?_ (by simp[shE,show rowB t.length ma=false by simp[rowB];omega])
    rw[call_eq (by decide) (by simp)]
    simp[Tryz.func53,Tryz.f53,envOf,h55,c0,c1,leave_pure]
   ·have hA:rowB t.length ma=true:=by simp[rowB];omega
    cases vb:rowB n mb with
    |false=>
     rw[vb]at rb
     refine fin 6 ?_ (by simp[shE,hn,hA,vb])
     rw[call_eq (by decide) (by simp)]
     simp[Tryz.func53,Tryz.f53,envOf,h55,c0,c1,rb,leave_pure]
    |true=>
     rw[vb]at rb
     refine fin 0 ?_ (by simp[shE,hn,hA,vb])
     rw[call_eq (by decide) (by simp)]
     simp[Tryz.func53,Tryz.f53,envOf,h55,c0,c1,rb,leave_pure]
 by_cases k4:kind=4
 ·subst k4
  cases va:rowB n ma with
  |false=>
   rw[va]at ra
   refine fin 6 ?_ (by simp[shE,hn,va])
   rw[call_eq (by decide) (by simp)]
   simp[Tryz.func53,Tryz.f53,envOf,h55,ra,leave_pure]
  |true=>
   rw[va]at ra
   cases vb:rowB n mb with
   |false=>
    rw[vb]at rb
    refine fin 6 ?_ (by simp[shE,hn,vb])
    rw[call_eq (by decide) (by simp)]
    simp[Tryz.func53,Tryz.f53,envOf,h55,ra,rb,leave_pure]
   |true=>
    rw[vb]at rb
    obtain⟨a,rfl,han⟩:=rowB_nat va
    obtain⟨b,rfl,hbn⟩:=rowB_nat vb
    by_cases hab:a=b
    ·subst hab
     refine fin 6 ?_ (by simp[shE,hn])
     rw[call_eq (by decide) (by simp)]
     simp[Tryz.func53,Tryz.f53,envOf,h55,ra,rb,leave_pure]
    ·have hab': ¬((a:Int)=b):=by omega
     have h96:=wa a han
     have h96b:=wa b hbn
     cases vw:t.any (notW a)with
     |true=>
      rw[vw]at h96
      refine fin 9 ?_ (by simp[shE,hn,va,vb,hab,vw])
      rw[call_eq (by decide) (by simp)]
      simp[Tryz.func53,Tryz.f53,envOf,h55,ra,rb,hab,hab',h96,leave_pure]
     |false=>
      rw[vw]at h96
      cases vx:t.any (notW b)with
      |true=>
       rw[vx]at h96b
       refine fin 9 ?_ (by simp[shE,hn,va,vb,hab,vx])
       rw[call_eq (by decide) (by simp)]
       simp[Tryz.func53,Tryz.f53,envOf,h55,ra,rb,hab,hab',h96,h96b,leave_pure]
      |false=>
       rw[vx]at h96b
       refine fin 0 ?_ (by simp[shE,hn,va,vb,hab,vw,vx])
       rw[call_eq (by decide) (by simp)]
       simp[Tryz.func53,Tryz.f53,envOf,h55,ra,rb,hab,hab',h96,h96b,leave_pure]
 by_cases k5:kind=5
 ·subst k5
  by_cases c1:ma < 0
  ·refine fin 6 ?_ (by simp[shE,c1])
   rw[call_eq (by decide) (by simp)]
   simp[Tryz.func53,Tryz.f53,envOf,h55,c1,leave_pure]
  by_cases c2:mb≤ma
  ·refine fin 6 ?_ (by simp[shE,c2])
   rw[call_eq (by decide) (by simp)]
   simp[Tryz.func53,Tryz.f53,envOf,h55,c1,c2,leave_pure]
  by_cases c3:(n:Int) < mb
  ·refine fin 6 ?_ (by simp[shE,hn,c3])
   rw[call_eq (by decide) (by simp)]
   simp[Tryz.func53,Tryz.f53,envOf,h55,c1,c2,c3,leave_pure]
  by_cases c4:mk < 2
  ·refine fin 6 ?_ (by simp[shE,c4])
   rw[call_eq (by decide) (by simp)]
   simp[Tryz.func53,Tryz.f53,envOf,h55,c1,c2,c3,c4,leave_pure]
  by_cases c5:64 < mk
  ·refine fin 6 ?_ (by simp[shE,c5])
   rw[call_eq (by decide) (by simp)]
   simp[Tryz.func53,Tryz.f53,envOf,h55,c1,c2,c3,c4,c5,leave_pure]
  obtain⟨a,rfl⟩:∃a:Nat,ma=a:=⟨ma.toNat,by omega⟩
  obtain⟨b,rfl⟩:∃b:Nat,mb=b:=⟨mb.toNat,by omega⟩
  have hc0: ¬((a:Int) < 0∨(b:Int)≤(a:Int)∨(n:Int) < (b:Int)∨mk < 2∨64 < mk):=by omega
  obtain⟨o,h1,h2⟩:=loop53a n t ⟨5,a,b,mk,ml⟩ hG.ok a b rfl (by omega) (by omega) (fun a ha=>hG.wide (by omega)) (by omega)
  have c2'': ¬(b≤a):=by omega
  have c3'': ¬(n < b):=by omega
  have w1:IntKind.i64.wrap ((n:Int)+(b:Int))=(n:Int)+(b:Int):=wrap_id _ (by omega) (by omega)
  have w2:IntKind.i64.wrap ((n:Int)+(b:Int)-(a:Int))=(n:Int)+(b:Int)-(a:Int):=wrap_id _ (by omega) (by omega)
  simp only[lb53_26,Tryz.f53,S53a,mvB_def,Mv.cs_def,bodyOf_some,↓sub_seq0,↓sub_seq1,↓sub_block,↓sub_loop,↓sub_cond0,↓sub_cond1,↓sub_nil]at h1
  simp at h1
  have hsh:shE t ⟨5,a,b,mk,ml⟩=if((List.range b).drop a).any (fun a=>t.any (notW a))then 9 else if 8 < (n:Int)+b-a then 3 else 0:=by
   simp only[shE,hn,Int.toNat_natCast]
   rw[if_neg (by decide),if_neg (by decide),if_neg (by decide),if_neg (by decide),if_pos trivial,if_neg hc0]
  rw[hsh]at fin ⊢
  rcases h2 with⟨hB,e,rfl,g1,g2,g3⟩ |⟨hB,e,rfl⟩
  ·rw[hB]at fin ⊢
   by_cases c6:8 < (n:Int)+(b:Int)-(a:Int)
   ·refine fin 3 ?_ (by rw[if_neg (by simp),if_pos c6])
    rw[call_eq (by decide) (by simp)]
    simp[Tryz.func53,Tryz.f53,envOf,h55,c1,c2,c2'',c3,c3'',c4,c5,ex_loop,firstReg,h1,g1,g2,g3,w1,w2,c6,leave_pure]
   ·refine fin 0 ?_ (by rw[if_neg (by simp),if_neg c6])
    rw[call_eq (by decide) (by simp)]
    simp[Tryz.func53,Tryz.f53,envOf,h55,c1,c2,c2'',c3,c3'',c4,c5,ex_loop,firstReg,h1,g1,g2,g3,w1,w2,c6,leave_pure]
  ·rw[hB]at fin ⊢
   refine fin 9 ?_ (by rw[if_pos rfl])
   rw[call_eq (by decide) (by simp)]
   simp[Tryz.func53,Tryz.f53,envOf,h55,c1,c2,c2'',c3,c3'',c4,c5,ex_loop,firstReg,h1,leave_pure]
 by_cases k6:kind=6
 ·subst k6
  by_cases c1:ma < 0
  ·refine fin 6 ?_ (by simp[shE,c1])
   rw[call_eq (by decide) (by simp)]
   simp[Tryz.func53,Tryz.f53,envOf,h55,c1,leave_pure]
  by_cases c2:(n:Int) < ma
  ·refine fin 6 ?_ (by simp[shE,hn,c2])
   rw[call_eq (by decide) (by simp)]
   simp[Tryz.func53,Tryz.f53,envOf,h55,c1,c2,leave_pure]
  have hc0: ¬(ma < 0∨(n:Int) < ma):=by omega
  by_cases c3:ml.length=t.length
  ·obtain⟨o,h1,h2⟩:=loop53b n t ⟨6,ma,mb,mk,ml⟩ hm
   simp only[lb53_38,Tryz.f53,S53b,mvB_def,Mv.cs_def,bodyOf_some,↓sub_seq0,↓sub_seq1,↓sub_block,↓sub_loop,↓sub_cond0,↓sub_cond1,↓sub_nil]at h1
   simp at h1
   have hsh:shE t ⟨6,ma,mb,mk,ml⟩=if ml.any (fun c=> !fits c)then 3 else if n=8 then 3 else 0:=by
    simp only[shE,hn]
    rw[if_neg (by decide),if_neg (by decide),if_neg (by decide),if_neg (by decide),if_neg (by decide),if_pos trivial,if_neg hc0,if_neg (by simp[c3])]
   rw[hsh,any_all]at fin ⊢
   simp only[Bool.not_not]at fin ⊢
   rcases h2 with⟨hB,e,rfl,g1⟩ |⟨hB,e,b,rfl⟩
   ·rw[hB]at fin ⊢
    by_cases c4:(n:Int)=8
    ·have c4':n=8:=by omega
     have c2': ¬(8:Int) < ma:=by omega
     refine fin 3 ?_ (by simp[c4'])
     rw[call_eq (by decide) (by simp)]
     simp[Tryz.func53,Tryz.f53,envOf,h55,c1,c2,c3,ex_loop,firstReg,h1,g1,c2',c4,c4',leave_pure]
    ·have c4': ¬n=8:=by omega
     refine fin 0 ?_ (by simp[c4'])
     rw[call_eq (by decide) (by simp)]
     simp[Tryz.func53,Tryz.f53,envOf,h55,c1,c2,c3,ex_loop,firstReg,h1,g1,c4,c4',leave_pure]
   ·rw[hB]at fin ⊢
    refine fin 3 ?_ (by simp)
    rw[call_eq (by decide) (by simp)]
    simp[Tryz.func53,Tryz.f53,envOf,h55,c1,c2,c3,ex_loop,firstReg,h1,leave_pure]
  ·have c3': ¬((ml.length:Int)=t.length):=by omega
   refine fin 2 ?_ (by simp only[shE,hn];rw[if_neg (by decide),if_neg (by decide),if_neg (by decide),if_neg (by decide),if_neg (by decide),if_pos trivial,if_neg hc0,if_pos c3])
   rw[call_eq (by decide) (by simp)]
   simp[Tryz.func53,Tryz.f53,envOf,h55,c1,c2,c3,c3',leave_pure]
 by_cases k7:kind=7
 ·subst k7
  cases va:rowB n ma with
  |false=>
   rw[va]at ra
   refine fin 6 ?_ (by simp[shE,hn,va])
   rw[call_eq (by decide) (by simp)]
   simp[Tryz.func53,Tryz.f53,envOf,h55,ra,leave_pure]
  |true=>
   rw[va]at ra
   obtain⟨a,rfl,han⟩:=rowB_nat va
   have h97:=ca a han
   have hsh:shE t ⟨7,a,mb,mk,ml⟩=if(!t.any (notW a)&& !t.any (notC a))=true then 0 else 9:=by
    simp only[shE,hn,Int.toNat_natCast]
    rw[if_neg (by decide),if_neg (by decide),if_neg (by decide),if_neg (by decide),if_neg (by decide),if_neg (by decide),if_pos trivial,if_pos va]
   rw[hsh]at fin ⊢
   cases vw:(!t.any (notW a)&& !t.any (notC a))with
   |true=>
    rw[vw]at h97 fin
    refine fin 0 ?_ rfl
    rw[call_eq (by decide) (by simp)]
    simp[Tryz.func53,Tryz.f53,envOf,h55,ra,h97,leave_pure]
   |false=>
    rw[vw]at h97 fin
    refine fin 9 ?_ rfl
    rw[call_eq (by decide) (by simp)]
    simp[Tryz.func53,Tryz.f53,envOf,h55,ra,h97,leave_pure]
 ·refine fin 5 ?_ (by simp[shE,k1,k2,k3,k4,k5,k6,k7])
  rw[call_eq (by decide) (by simp)]
  simp[Tryz.func53,Tryz.f53,envOf,h55,k1,k2,k3,k4,k5,k6,k7,leave_pure]
end T
end
section
open Go Go.Proofs Go.Sym
namespace T
attribute [-simp] getElem?_pos
def S25 (l:List Int) (i:Nat):St:=⟨[(0,ints l),(1,ints l),(7,int l.length),(8,int i)],[],[],0⟩
theorem ic25 (l:List Int) (hl:l.length≤1073741824):icall X (call X) 25 [.lst (szOf 1 (l.map intC)) (l.map intC) .no,.lst (szOf 1 (l.map intC)) (l.map intC) .no]=some (.ret (.int .i64 0)):=by
 have hloop:∃o,(∀ s,s.gc [0,1,7,8] 0 0=S25 l 0→loopE X 25 lb25_2 (St.gc [0,1,7,8] 0 0) s=some o)∧∃e,o= .exit 0 ⟨e,[],[],0⟩:=by
  refine loop_unit l.length (S25 l) _ (by simp[lb25_2,Tryz.f25,S25,stops]) fun i hi=>?_
  have hw:=wrap_nat i (by omega)
  have hc:=List.getElem?_eq_getElem hi
  simp[lb25_2,Tryz.f25,S25,hi,hw,hc]
 obtain⟨o,h1,e,rfl⟩:=hloop
 simp only[lb25_2,Tryz.f25,S25,bodyOf_some,sub_seq0,sub_seq1,sub_block,sub_loop,sub_nil]at h1
 simp at h1
 refine icall_ret (v:=.int .i64 0) (H:=[]) (K:=[]) (by simp) (by simp) ?_ rfl rfl rfl
 rw[call_eq (by decide) (by simp)]
 simp[Tryz.func25,Tryz.f25,envOf,ex_loop,firstReg,h1,leave_pure]
theorem ic13 (m:Mv) (hl:m.list.length≤1073741824):icall X (call X) 13 [.agg m.cs,.agg m.cs]=some (.ret (.bool true)):=by
 have h:=ic25 m.list hl
 refine icall_ret (v:=.bool true) (H:=[]) (K:=[]) (by simp) (by simp) ?_ rfl rfl rfl
 rw[call_eq (by decide) (by simp)]
 simp[Tryz.func13,Tryz.f13,envOf,h,leave_pure]
theorem ic14 (m:Mv):icall X (call X) 14 [.agg m.cs]=some (.ret (.agg m.cs)):=by
 refine icall_ret (v:=.agg m.cs) (H:=[]) (K:=[]) (by simp) (by simp) ?_ rfl (by simp) (by simp)
 rw[call_eq (by decide) (by simp)]
 simp[Tryz.func14,Tryz.f14,envOf,leave_pure]
def hp11 (p:Prg) (t t':Tab) (m:Mv) (ks:List Int):List Blk:=[⟨3,[p.cs],.box⟩,⟨1,[[tabV t]],.box⟩,mvB m,⟨5,[[int 0,int 0,int 0,int 0,.lst 0 [] .nil]],.box⟩,⟨1,[[tabV t']],.box⟩,⟨5,[[int 6,int m.a,int 0,int 0,.lst 1 (ks.map intC) (.tok 0)]],.box⟩]
def S11 (p:Prg) (t t':Tab) (m:Mv) (KS:List Int) (i:Nat):St:=⟨[(5,.ptr 2 0 0),(6,.ptr 3 0 0),(10,.ptr 5 0 0),(66,tabV t),(67,int t.length),(68,int i)],hp11 p t t' m (KS.take i),[i],0⟩
end T
end
section
open Go Go.Proofs Go.Sym
namespace T
attribute [-simp] getElem?_pos
end T
end
section
open Go Go.Proofs Go.Sym
namespace T
attribute [-simp] getElem?_pos
def nextL (is:List Inf) (m:Mv) (k:Nat) (l:List Row):List Row:=
 if m.kind=1 then swapL m.a.toNat m.b.toNat l
 else if m.kind=2 then rowAt m.a.toNat (match l[m.a.toNat]? with |some r=>negL r.L |none=>⟨[],0⟩) l
 else if m.kind=3 then(if (k:Int)=m.a then rowAt m.b.toNat (match l[m.b.toNat]? with |some r=>⟨r.L.C,r.L.K+much m.k r.D⟩ |none=>⟨[],0⟩) l else l)
 else if m.kind=4 then rowAt m.a.toNat (match l[m.a.toNat]?,l[m.b.toNat]? with |some r,some q=>addL r.L m.k q.L |_,_=>⟨[],0⟩) l
 else if m.kind=5 then tileL m.a.toNat m.b.toNat m.k l
 else if m.kind=6 then cutL is m k l
 else fuseL m.a.toNat l
def mdT (is:List Inf) (t:Tab) (m:Mv):Tab:=t.mapIdx (nextL is m)
def allV (t:Tab):Bool:=t.all fun l=>l.all fun r=>linValid r.L
theorem plusA_neg {x:Lin} (hx:linValid x=true):plusA x (-2) x=(negL x,linValid (negL x)):=by
 have e:plusL x (-2) x=negL x:=by
  unfold plusL negL plusC
  have h1:List.zipWith (fun a b=>a+ -2*b) x.C x.C=x.C.map fun c=> -c:=by
   rw[List.zipWith_self]
   exact List.map_congr_left fun c _=>by omega
  rw[h1,show x.K+ -2*x.K=-x.K by omega]
 unfold plusA
 rw[if_pos (by omega),e]
theorem addC_zero {k:Int}:∀{x y:List Int},y.length=x.length→(∀ c ∈ y,c=0)→addC k x y=x
 | [],[],_,_=>rfl
 |a::x,c::y,h,hz=>by
  have hc:=hz c (List.mem_cons_self)
  subst hc
  have:=addC_zero (k:=k) (x:=x) (y:=y) (by simpa using h) fun c hc=>hz c (List.mem_cons_of_mem _ hc)
  unfold addC at this ⊢
  simp only[List.zipWith_cons_cons,this]
  simp[much]
 | [],_::_,h,_=>by simp at h
 |_::_,[],h,_=>by simp at h
theorem plusC_zero {k:Int}:∀{x y:List Int},y.length=x.length→(∀ c ∈ y,c=0)→plusC k x y=x
 | [],[],_,_=>rfl
 |a::x,c::y,h,hz=>by
  have hc:=hz c (List.mem_cons_self)
  subst hc
  have:=plusC_zero (k:=k) (x:=x) (y:=y) (by simpa using h) fun c hc=>hz c (List.mem_cons_of_mem _ hc)
  unfold plusC at this ⊢
  simp[this]
 | [],_::_,h,_=>by simp at h
 |_::_,[],h,_=>by simp at h
theorem zeros_iff {y:Lin}:zeros y=true↔(∀ c ∈ y.C,c=0)∧y.K=0:=by
 unfold zeros nz
 simp
theorem far {a c k:Int} (ha:fits a=true) (hc:c≠0) (hk: ¬(-2097152≤k∧k≤2097152)):fits (a+much k c)=false∧fits (a+k*c)=false:=by
 have h1:=fits_iff.1 ha
 have hm:much k c=4194304:=by unfold much;rw[if_neg (by simp[hc];omega)]
 constructor
 ·rw[hm,←Bool.not_eq_true,fits_iff];omega
 ·rw[←Bool.not_eq_true,fits_iff]
  have h2:2097153*1≤k.natAbs*c.natAbs:=Nat.mul_le_mul (by omega) (by omega)
  rw[←Int.natAbs_mul]at h2
  omega
theorem valid_at {x:Lin} (h:linValid x=true) {i:Nat} {c:Int} (hc:x.C[i]? =some c):fits c=true:=(valid_iff.1 h).1 c (List.mem_of_getElem? hc)
theorem addA {x:Lin} {k:Int} {y:Lin} (hx:linValid x=true) (hl:y.C.length=x.C.length):(plusA x k y).2=linValid (addL x k y)∧((plusA x k y).2=true→(plusA x k y).1=addL x k y):=by
 by_cases hk: -2097152≤k∧k≤2097152
 ·have hm:∀n,much k n=k*n:=fun n=>by unfold much;rw[if_pos (.inr hk)]
  have e:addL x k y=plusL x k y:=by unfold addL plusL addC plusC;simp only[hm]
  unfold plusA
  rw[if_pos (by omega),e]
  exact⟨rfl,fun _=>rfl⟩
 ·by_cases hz:zeros y=true
  ·have h1:=zeros_iff.1 hz
   have e1:addL x k y=x:=by unfold addL;rw[addC_zero hl h1.1,h1.2];simp[much]
   have e2:plusL x k y=x:=by unfold plusL;rw[plusC_zero hl h1.1,h1.2];simp
   rw[e1]
   unfold plusA
   rw[e2,if_pos hz]
   split
   ·exact⟨rfl,fun _=>rfl⟩
   ·exact⟨hx.symm,fun _=>rfl⟩
  ·have hn:linValid (addL x k y)=false∧linValid (plusL x k y)=false:=by
    have:(∃(i:Nat) (c:Int),y.C[i]? =some c∧c≠0)∨y.K≠0:=by
     apply Classical.byContradiction
     intro h
     simp only[not_or,not_exists,not_and,Classical.not_not]at h
     exact hz (zeros_iff.2 ⟨fun c hc=>by obtain⟨i,hi⟩:=List.getElem?_of_mem hc;exact h.1 i c hi,h.2⟩)
    rcases this with⟨i,c,hi,hc⟩ |hK
    ·have hi':=(List.getElem?_eq_some_iff.1 hi).1
     have ha:=List.getElem?_eq_getElem (show i < x.C.length by omega)
     have hf:=far (valid_at hx ha) hc hk
     constructor
     ·rw[←Bool.not_eq_true]
      intro h
      rw[valid_at (x:=addL x k y) h (i:=i) (c:=x.C[i]+much k c) (by simp[addL,addC,List.getElem?_zipWith,ha,hi])]at hf
      exact absurd hf.1 (by simp)
     ·rw[←Bool.not_eq_true]
      intro h
      rw[valid_at (x:=plusL x k y) h (i:=i) (c:=x.C[i]+k*c) (by simp[plusL,plusC,List.getElem?_zipWith,ha,hi])]at hf
      exact absurd hf.2 (by simp)
    ·have hf:=far (valid_iff.1 hx).2.2 hK hk
     constructor
     ·rw[←Bool.not_eq_true]
      intro h
      have:=(valid_iff.1 h).2.2
      simp only[addL]at this
      rw[this]at hf
      exact absurd hf.1 (by simp)
     ·rw[←Bool.not_eq_true]
      intro h
      have:=(valid_iff.1 h).2.2
      simp only[plusL]at this
      rw[this]at hf
      exact absurd hf.2 (by simp)
   unfold plusA
   rw[hn.1,hn.2,if_neg hz]
   split
   ·exact⟨rfl,fun h=>by cases h⟩
   ·exact⟨rfl,fun h=>by cases h⟩
theorem unit_add {r:Row} {k:Int}:addL r.L k (unitL r)=⟨r.L.C,r.L.K+much k r.D⟩:=by
 unfold addL unitL
 simp only
 rw[addC_zero (by simp) fun c hc=>(List.mem_replicate.1 hc).2]
theorem setX_law {is:List Inf} {t:Tab} (h:Chkd is t) {a:Nat} (ha:a < nrows t) (f:Nat→List Row→Lin×Bool) (g:Nat→List Row→Lin)
  (hfg:∀(k:Nat) l,t[k]? =some l→(f k l).2=linValid (g k l)∧((f k l).2=true→(f k l).1=g k l)):
  okX f t=allV (t.mapIdx fun k l=>rowAt a (g k l) l)∧(okX f t=true→setX a f t=t.mapIdx fun k l=>rowAt a (g k l) l):=by
 constructor
 ·rw[Bool.eq_iff_iff,okX_iff]
  simp only[allV,List.all_eq_true]
  constructor
  ·intro hok l' hl' r hr
   obtain⟨k,hk⟩:=List.getElem?_of_mem hl'
   rw[List.getElem?_mapIdx,Option.map_eq_some_iff]at hk
   obtain⟨l,hl,rfl⟩:=hk
   have hg:=hfg k l hl
   rw[hok k l hl]at hg
   obtain⟨i,hi,hll,hrow⟩:=h.at hl
   have hra:=List.getElem?_eq_getElem (show a < l.length by omega)
   simp only[rowAt,hra]at hr
   rcases mem_set' hr with h1 |rfl
   ·exact(errR_iff.1 (hrow r h1)).1
   ·exact hg.1.symm
  ·intro hv k l hl
   rw[(hfg k l hl).1]
   obtain⟨i,hi,hll,hrow⟩:=h.at hl
   have hra:=List.getElem?_eq_getElem (show a < l.length by omega)
   refine hv (rowAt a (g k l) l) (List.mem_of_getElem? (i:=k) (by rw[List.getElem?_mapIdx,hl];rfl)) ⟨g k l,l[a].D⟩ ?_
   simp only[rowAt,hra]
   exact List.mem_iff_getElem?.2 ⟨a,by simp[show a < l.length by omega]⟩
 ·intro hok
  rw[okX_iff]at hok
  unfold setX
  refine List.ext_getElem? fun k=>?_
  rw[List.getElem?_mapIdx,List.getElem?_mapIdx]
  cases hl:t[k]? with
  |none=>rfl
  |some l=>
   have hg:=hfg k l hl
   simp only[Option.map_some,hg.2 (hok k l hl)]
section
variable {is:List Inf} {t:Tab} {m:Mv}
theorem mv_1 (h:m.kind=1):mvT is t m=swapM (nrows t) t m∧mvE t m=6∧shE t m=(if rowB (nrows t) m.a&&rowB (nrows t) m.b then 0 else 6)∧∀k l,nextL is m k l=swapL m.a.toNat m.b.toNat l:=by
 unfold mvT mvE shE nextL
 simp only[h]
 exact⟨rfl,rfl,rfl,fun _ _=>rfl⟩
theorem mv_2 (h:m.kind=2):mvT is t m=flipT (nrows t) t m∧mvE t m=flipE (nrows t) t m∧shE t m=(if rowB (nrows t) m.a then(if t.any (notW m.a.toNat)then 9 else 0)else 6)∧∀k l,nextL is m k l=rowAt m.a.toNat (match l[m.a.toNat]? with |some r=>negL r.L |none=>⟨[],0⟩) l:=by
 unfold mvT mvE shE nextL
 simp only[h]
 exact⟨rfl,rfl,rfl,fun _ _=>rfl⟩
theorem mv_3 (h:m.kind=3):mvT is t m=shiftT (nrows t) t m∧mvE t m=shiftE (nrows t) t m∧shE t m=(if rowB t.length m.a then(if rowB (nrows t) m.b then 0 else 6)else 5)∧∀k l,nextL is m k l=(if (k:Int)=m.a then rowAt m.b.toNat (match l[m.b.toNat]? with |some r=>⟨r.L.C,r.L.K+much m.k r.D⟩ |none=>⟨[],0⟩) l else l):=by
 unfold mvT mvE shE nextL
 simp only[h]
 exact⟨rfl,rfl,rfl,fun _ _=>rfl⟩
theorem mv_4 (h:m.kind=4):mvT is t m=skewT (nrows t) t m∧mvE t m=skewE (nrows t) t m∧shE t m=(if rowB (nrows t) m.a&&rowB (nrows t) m.b&&decide (m.a≠m.b)then(if t.any (notW m.a.toNat)||t.any (notW m.b.toNat)then 9 else 0)else 6)∧∀k l,nextL is m k l=rowAt m.a.toNat (match l[m.a.toNat]?,l[m.b.toNat]? with |some r,some q=>addL r.L m.k q.L |_,_=>⟨[],0⟩) l:=by
 unfold mvT mvE shE nextL
 simp only[h]
 exact⟨rfl,rfl,rfl,fun _ _=>rfl⟩
theorem mv_5 (h:m.kind=5):mvT is t m=tileT (nrows t) t m∧mvE t m=tileE (nrows t) t m∧shE t m=(if m.a < 0∨m.b≤m.a∨(nrows t:Int) < m.b∨m.k < 2∨64 < m.k then 6 else if((List.range m.b.toNat).drop m.a.toNat).any (fun a=>t.any (notW a))then 9 else if 8 < (nrows t:Int)+m.b-m.a then 3 else 0)∧∀k l,nextL is m k l=tileL m.a.toNat m.b.toNat m.k l:=by
 unfold mvT mvE shE nextL
 simp only[h]
 exact⟨rfl,rfl,rfl,fun _ _=>rfl⟩
theorem mv_6 (h:m.kind=6):mvT is t m=cutM is (nrows t) t m∧mvE t m=cutE (nrows t) t m∧shE t m=(if m.a < 0∨(nrows t:Int) < m.a then 6 else if m.list.length≠t.length then 2 else if m.list.any (fun c=> !fits c)then 3 else if nrows t=8 then 3 else 0)∧∀k l,nextL is m k l=cutL is m k l:=by
 unfold mvT mvE shE nextL
 simp only[h]
 exact⟨rfl,rfl,rfl,fun _ _=>rfl⟩
theorem mv_7 (h:m.kind=7):mvT is t m=fuseT (nrows t) t m∧mvE t m=fuseE (nrows t) m∧shE t m=(if rowB (nrows t) m.a then(if !t.any (notW m.a.toNat)&& !t.any (notC m.a.toNat)then 0 else 9)else 6)∧∀k l,nextL is m k l=fuseL m.a.toNat l:=by
 unfold mvT mvE shE nextL
 simp only[h]
 exact⟨rfl,rfl,rfl,fun _ _=>rfl⟩
theorem md_map {f:List Row→List Row} (h:∀k l,nextL is m k l=f l):mdT is t m=t.map f:=List.ext_getElem? fun i=>by
 rw[mdT,List.getElem?_mapIdx,List.getElem?_map]
 cases t[i]? with
 |none=>rfl
 |some l=>simp only[Option.map_some,h]
theorem md_idx {f:Nat→List Row→List Row} (h:∀(k:Nat) l,t[k]? =some l→nextL is m k l=f k l):mdT is t m=t.mapIdx f:=List.ext_getElem? fun i=>by
 simp only[mdT,List.getElem?_mapIdx]
 cases hl:t[i]? with
 |none=>rfl
 |some l=>simp only[Option.map_some,h i l hl]
end
theorem md_law {is:List Inf} {t:Tab} {m:Mv} (h:Chkd is t) (hnm:∀i ∈ is,i.nm.length≤12):
  (shE t m≠0→mvT is t m=none∧mvE t m=shE t m)∧(shE t m=0→(allV (mdT is t m)=true→mvT is t m=some (mdT is t m))∧(allV (mdT is t m)=false→mvT is t m=none∧mvE t m=3)):=by
 have hval:∀(k:Nat) l r,t[k]? =some l→r ∈ l→linValid r.L=true∧1≤r.D∧r.D≤64:=fun k l r hk hr=>by
  obtain⟨i,_,_,e⟩:=h.at hk
  have:=errR_iff.1 (e r hr)
  exact⟨this.1,this.2.2⟩
 have hdim:∀(k:Nat) l r q,t[k]? =some l→r ∈ l→q ∈ l→q.L.C.length=r.L.C.length:=fun k l r q hk hr hq=>by
  obtain⟨i,_,_,e⟩:=h.at hk
  have h1:=errR_iff.1 (e r hr)
  have h2:=errR_iff.1 (e q hq)
  omega
 have good:∀t',mvT is t m=some t'→allV t'=true:=fun t' e=>by
  have hc:=mv_ok h hnm e
  simp only[allV,List.all_eq_true]
  intro l hl r hr
  obtain⟨k,hk⟩:=List.getElem?_of_mem hl
  obtain⟨i,_,_,e⟩:=hc.at hk
  exact(errR_iff.1 (e r hr)).1
 have simple:mvT is t m=some (mdT is t m)→(allV (mdT is t m)=true→mvT is t m=some (mdT is t m))∧(allV (mdT is t m)=false→mvT is t m=none∧mvE t m=3):=fun e=>⟨fun _=>e,fun hv=>by rw[good _ e]at hv;cases hv⟩
 have bad:∀{P:Prop} {e:Int},e≠0→shE t m=e→mvT is t m=none∧mvE t m=e→(shE t m≠0→mvT is t m=none∧mvE t m=shE t m)∧(shE t m=0→P):=fun h0 he hm=>⟨fun _=>by rw[he];exact hm,fun hs=>absurd (he.symm.trans hs) h0⟩
 by_cases k1:m.kind=1
 ·obtain⟨e1,e2,e3,e4⟩:=mv_1 (is:=is) (t:=t) k1
  by_cases hc:(rowB (nrows t) m.a&&rowB (nrows t) m.b)=true
  ·refine⟨fun hs=>absurd (by rw[e3,if_pos hc]) hs,fun _=>simple ?_⟩
   rw[e1,md_map e4]
   unfold swapM
   rw[if_pos hc]
   rfl
  ·refine bad (e:=6) (by decide) (by rw[e3,if_neg hc]) ⟨?_,e2⟩
   rw[e1];unfold swapM;rw[if_neg hc]
 by_cases k2:m.kind=2
 ·obtain⟨e1,e2,e3,e4⟩:=mv_2 (is:=is) (t:=t) k2
  by_cases hA:rowB (nrows t) m.a=true
  ·by_cases hw:t.any (notW m.a.toNat)=true
   ·refine bad (e:=9) (by decide) (by rw[e3,if_pos hA,if_pos hw]) ⟨?_,?_⟩
    ·rw[e1];unfold flipT;rw[hw];simp
    ·rw[e2];unfold flipE;rw[if_pos hA,if_pos hw]
   ·refine⟨fun hs=>absurd (by rw[e3,if_pos hA,if_neg hw]) hs,fun _=>?_⟩
    have hE:flipE (nrows t) t m=3:=by unfold flipE;rw[if_pos hA,if_neg hw]
    rw[Bool.not_eq_true]at hw
    have e1':mvT is t m=if okX (fun _ l=>flipX m.a.toNat l) t then some (setX m.a.toNat (fun _ l=>flipX m.a.toNat l) t)else none:=by rw[e1];unfold flipT;rw[hA,hw];simp
    obtain⟨a,ha,han⟩:=rowB_nat hA
    rw[ha]at e1' e4
    simp only[Int.toNat_natCast]at e1' e4
    have hs:=setX_law h han (fun _ l=>flipX a l) (fun _ l=>match l[a]? with |some r=>negL r.L |none=>⟨[],0⟩) fun k l hl=>by
     obtain⟨i,hi,hll,hrow⟩:=h.at hl
     have hra:=List.getElem?_eq_getElem (show a < l.length by omega)
     simp only[flipX,hra]
     rw[plusA_neg (hval k l _ hl (List.getElem_mem _)).1]
     exact⟨rfl,fun _=>rfl⟩
    rw[md_idx fun k l _=>e4 k l,←hs.1]
    refine⟨fun hok=>?_,fun hok=>⟨?_,e2.trans hE⟩⟩
    ·rw[e1',if_pos hok,hs.2 hok]
    ·rw[e1',hok];rfl
  ·refine bad (e:=6) (by decide) (by rw[e3,if_neg hA]) ⟨?_,?_⟩
   ·rw[e1];unfold flipT;rw[Bool.not_eq_true]at hA;rw[hA];rfl
   ·rw[e2];unfold flipE;rw[if_neg hA]
 by_cases k3:m.kind=3
 ·obtain⟨e1,e2,e3,e4⟩:=mv_3 (is:=is) (t:=t) k3
  by_cases hA:rowB t.length m.a=true
  ·by_cases hB:rowB (nrows t) m.b=true
   ·refine⟨fun hs=>absurd (by rw[e3,if_pos hA,if_pos hB]) hs,fun _=>?_⟩
    have hE:shiftE (nrows t) t m=3:=by unfold shiftE;rw[if_pos hA,if_pos hB]
    have e1':mvT is t m=if okX (shiftY m m.b.toNat) t then some (setX m.b.toNat (shiftY m m.b.toNat) t)else none:=by rw[e1];unfold shiftT;rw[hA,hB];simp
    obtain⟨b,hb,hbn⟩:=rowB_nat hB
    rw[hb]at e1' e4
    simp only[Int.toNat_natCast]at e1' e4
    have hs:=setX_law h hbn (shiftY m b) (fun k l=>match l[b]? with |some r=>(if (k:Int)=m.a then⟨r.L.C,r.L.K+much m.k r.D⟩else r.L) |none=>⟨[],0⟩) fun k l hl=>by
     obtain⟨i,hi,hll,hrow⟩:=h.at hl
     have hra:=List.getElem?_eq_getElem (show b < l.length by omega)
     have hv:=hval k l _ hl (List.getElem_mem (show b < l.length by omega))
     simp only[shiftY,hra,shiftX]
     split
     ·rw[←unit_add]
      exact addA hv.1 (by simp[unitL])
     ·exact⟨hv.1.symm,fun _=>rfl⟩
    have e:mdT is t m=t.mapIdx fun k l=>rowAt b (match l[b]? with |some r=>(if (k:Int)=m.a then⟨r.L.C,r.L.K+much m.k r.D⟩else r.L) |none=>⟨[],0⟩) l:=md_idx fun k l hl=>by
     obtain⟨i,hi,hll,hrow⟩:=h.at hl
     have hlt:b < l.length:=by omega
     have hra:=List.getElem?_eq_getElem hlt
     rw[e4 k l]
     by_cases hk:(k:Int)=m.a
     ·simp only[hra,if_pos hk]
     ·simp only[rowAt,hra,if_neg hk]
      exact(List.set_getElem_self hlt).symm
    rw[e,←hs.1]
    refine⟨fun hok=>?_,fun hok=>⟨?_,e2.trans hE⟩⟩
    ·rw[e1',if_pos hok,hs.2 hok]
    ·rw[e1',hok];rfl
   ·refine bad (e:=6) (by decide) (by rw[e3,if_pos hA,if_neg hB]) ⟨?_,?_⟩
    ·rw[e1];unfold shiftT;rw[Bool.not_eq_true]at hB;rw[hB];simp
    ·rw[e2];unfold shiftE;rw[if_pos hA,if_neg hB]
  ·refine bad (e:=5) (by decide) (by rw[e3,if_neg hA]) ⟨?_,?_⟩
   ·rw[e1];unfold shiftT;rw[Bool.not_eq_true]at hA;rw[hA];rfl
   ·rw[e2];unfold shiftE;rw[if_neg hA]
 by_cases k4:m.kind=4
 ·obtain⟨e1,e2,e3,e4⟩:=mv_4 (is:=is) (t:=t) k4
  by_cases hc:(rowB (nrows t) m.a&&rowB (nrows t) m.b&&decide (m.a≠m.b))=true
  ·by_cases hw:(t.any (notW m.a.toNat)||t.any (notW m.b.toNat))=true
   ·refine bad (e:=9) (by decide) (by rw[e3,if_pos hc,if_pos hw]) ⟨?_,?_⟩
    ·rw[e1];unfold skewT
     rw[Bool.or_eq_true]at hw
     rcases hw with hw |hw <;> rw[hw] <;> simp
    ·rw[e2];unfold skewE;rw[if_pos hc,if_pos hw]
   ·refine⟨fun hs=>absurd (by rw[e3,if_pos hc,if_neg hw]) hs,fun _=>?_⟩
    have hE:skewE (nrows t) t m=3:=by unfold skewE;rw[if_pos hc,if_neg hw]
    simp only[Bool.or_eq_true,not_or,Bool.not_eq_true]at hw
    have e1':mvT is t m=if okX (fun _ l=>skewX m m.a.toNat m.b.toNat l) t then some (setX m.a.toNat (fun _ l=>skewX m m.a.toNat m.b.toNat l) t)else none:=by rw[e1];unfold skewT;rw[hc,hw.1,hw.2];simp
    simp only[Bool.and_eq_true]at hc
    obtain⟨a,ha,han⟩:=rowB_nat hc.1.1
    obtain⟨b,hb,hbn⟩:=rowB_nat hc.1.2
    rw[ha,hb]at e1' e4
    simp only[Int.toNat_natCast]at e1' e4
    have hs:=setX_law h han (fun _ l=>skewX m a b l) (fun k l=>match l[a]?,l[b]? with |some r,some q=>addL r.L m.k q.L |_,_=>⟨[],0⟩) fun k l hl=>by
     obtain⟨i,hi,hll,hrow⟩:=h.at hl
     have hra:=List.getElem?_eq_getElem (show a < l.length by omega)
     have hrb:=List.getElem?_eq_getElem (show b < l.length by omega)
     simp only[skewX,hra,hrb]
     exact addA (hval k l _ hl (List.getElem_mem (show a < l.length by omega))).1 (hdim k l _ _ hl (List.getElem_mem (show a < l.length by omega)) (List.getElem_mem (show b < l.length by omega)))
    rw[md_idx fun k l _=>e4 k l,←hs.1]
    refine⟨fun hok=>?_,fun hok=>⟨?_,e2.trans hE⟩⟩
    ·rw[e1',if_pos hok,hs.2 hok]
    ·rw[e1',hok];rfl
  ·refine bad (e:=6) (by decide) (by rw[e3,if_neg hc]) ⟨?_,?_⟩
   ·rw[e1];unfold skewT;rw[Bool.not_eq_true]at hc;rw[hc];rfl
   ·rw[e2];unfold skewE;rw[if_neg hc]
 by_cases k5:m.kind=5
 ·obtain⟨e1,e2,e3,e4⟩:=mv_5 (is:=is) (t:=t) k5
  by_cases c1:m.a < 0∨m.b≤m.a∨(nrows t:Int) < m.b∨m.k < 2∨64 < m.k
  ·refine bad (e:=6) (by decide) (by rw[e3,if_pos c1]) ⟨?_,?_⟩
   ·rw[e1];unfold tileT;rw[if_pos c1]
   ·rw[e2];unfold tileE;rw[if_pos c1]
  ·by_cases c2:((List.range m.b.toNat).drop m.a.toNat).any (fun a=>t.any (notW a))=true
   ·refine bad (e:=9) (by decide) (by rw[e3,if_neg c1,if_pos c2]) ⟨?_,?_⟩
    ·rw[e1];unfold tileT;rw[if_neg c1,if_pos c2]
    ·rw[e2];unfold tileE;rw[if_neg c1,if_pos c2]
   ·by_cases c3:8 < (nrows t:Int)+m.b-m.a
    ·refine bad (e:=3) (by decide) (by rw[e3,if_neg c1,if_neg c2,if_pos c3]) ⟨?_,?_⟩
     ·rw[e1];unfold tileT;rw[if_neg c1,if_neg c2,if_pos c3]
     ·rw[e2];unfold tileE;rw[if_neg c1,if_neg c2]
    ·refine⟨fun hs=>absurd (by rw[e3,if_neg c1,if_neg c2,if_neg c3]) hs,fun _=>simple ?_⟩
     rw[e1,md_map e4];unfold tileT;rw[if_neg c1,if_neg c2,if_neg c3]
 by_cases k6:m.kind=6
 ·obtain⟨e1,e2,e3,e4⟩:=mv_6 (is:=is) (t:=t) k6
  by_cases c1:m.a < 0∨(nrows t:Int) < m.a
  ·refine bad (e:=6) (by decide) (by rw[e3,if_pos c1]) ⟨?_,?_⟩
   ·rw[e1];unfold cutM;rw[if_pos c1]
   ·rw[e2];unfold cutE;rw[if_pos c1]
  ·by_cases c2:m.list.length≠t.length
   ·refine bad (e:=2) (by decide) (by rw[e3,if_neg c1,if_pos c2]) ⟨?_,?_⟩
    ·rw[e1];unfold cutM;rw[if_neg c1,if_pos c2]
    ·rw[e2];unfold cutE;rw[if_neg c1,if_pos c2]
   ·by_cases c3:m.list.any (fun c=> !fits c)=true
    ·refine bad (e:=3) (by decide) (by rw[e3,if_neg c1,if_neg c2,if_pos c3]) ⟨?_,?_⟩
     ·rw[e1];unfold cutM;rw[if_neg c1,if_neg c2,c3];rfl
     ·rw[e2];unfold cutE;rw[if_neg c1,if_neg c2]
    ·by_cases c4:nrows t=8
     ·refine bad (e:=3) (by decide) (by rw[e3,if_neg c1,if_neg c2,if_neg c3,if_pos c4]) ⟨?_,?_⟩
      ·rw[e1];unfold cutM;rw[if_neg c1,if_neg c2,if_pos (by simp[c4])]
      ·rw[e2];unfold cutE;rw[if_neg c1,if_neg c2]
     ·refine⟨fun hs=>absurd (by rw[e3,if_neg c1,if_neg c2,if_neg c3,if_neg c4]) hs,fun _=>simple ?_⟩
      have hn8:=h.n8
      rw[Bool.not_eq_true]at c3
      rw[e1,md_idx fun k l _=>e4 k l];unfold cutM;rw[if_neg c1,if_neg c2,c3,if_neg (by simp;omega)]
 by_cases k7:m.kind=7
 ·obtain⟨e1,e2,e3,e4⟩:=mv_7 (is:=is) (t:=t) k7
  by_cases hA:rowB (nrows t) m.a=true
  ·by_cases hw:(!t.any (notW m.a.toNat)&& !t.any (notC m.a.toNat))=true
   ·refine⟨fun hs=>absurd (by rw[e3,if_pos hA,if_pos hw]) hs,fun _=>simple ?_⟩
    rw[e1,md_map e4];unfold fuseT;rw[if_pos (by rw[hA,Bool.true_and];exact hw)]
   ·refine bad (e:=9) (by decide) (by rw[e3,if_pos hA,if_neg hw]) ⟨?_,?_⟩
    ·rw[e1];unfold fuseT;rw[if_neg (by rw[hA,Bool.true_and];exact hw)]
    ·rw[e2];unfold fuseE;rw[if_pos hA]
  ·refine bad (e:=6) (by decide) (by rw[e3,if_neg hA]) ⟨?_,?_⟩
   ·rw[e1];unfold fuseT;rw[Bool.not_eq_true]at hA;rw[hA];rfl
   ·rw[e2];unfold fuseE;rw[if_neg hA]
 ·refine bad (e:=5) (by decide) ?_ ⟨?_,?_⟩
  ·unfold shE;rw[if_neg k1,if_neg k2,if_neg k3,if_neg k4,if_neg k5,if_neg k6,if_neg k7]
  ·unfold mvT;rw[if_neg k1,if_neg k2,if_neg k3,if_neg k4,if_neg k5,if_neg k6,if_neg k7]
  ·unfold mvE;rw[if_neg k1,if_neg k2,if_neg k3,if_neg k4,if_neg k5,if_neg k6,if_neg k7]
end T
end
section
open Go Go.Proofs Go.Sym
namespace T
attribute [-simp] getElem?_pos
def rwB (l:List Row):Blk:=⟨3,l.map Row.cs,.toky⟩
theorem rwB_def (l):rwB l=⟨3,l.map Row.cs,.toky⟩:=Eq.trans rfl rfl
structure D23 where
 z1:Nat
 r1:List (List AV)
 z2:Nat
 r2:List (List AV)
 z3:Nat
 r3:List (List AV)
 tz:Nat
 tr:List (List AV)
 m:Mv
def D23.fr (D:D23) (N:Nat) (O:List (List AV)) (T:List Blk):List Blk:=
 ⟨3,[[.lst D.z1 D.r1 .no,.lst D.z2 D.r2 .no,.lst D.z3 D.r3 .no]],.box⟩::⟨1,[[.lst D.tz D.tr .no]],.box⟩::⟨5,[D.m.cs],.box⟩::⟨1,[[.lst 0 [] .nil]],.box⟩::⟨1,[[.win 5 0 N (some N)]],.box⟩::⟨1,O,.box⟩::T
def D23.S (D:D23) (N:Nat) (xs:List Q4) (O:List (List AV)) (T:List Blk) (i:Nat):St:=
 ⟨[(5,.ptr 2 0 0),(6,.ptr 3 0 0),(9,.ptr 4 0 0),(34,lst 23 (xs.map Q4.cs)),(35,int xs.length),(36,int i)],D.fr N O T,[],0⟩
structure Kp (e:List (Nat×AV)) (xs:List Q4) (i:Nat):Prop where
 g5:get e 5= .ptr 2 0 0
 g6:get e 6= .ptr 3 0 0
 g9:get e 9= .ptr 4 0 0
 g34:get e 34=lst 23 (xs.map Q4.cs)
 g35:get e 35=int xs.length
 g36:get e 36=int i
theorem kp_iff {e xs i}:Kp e xs i↔get e 5= .ptr 2 0 0∧get e 6= .ptr 3 0 0∧get e 9= .ptr 4 0 0∧get e 34=lst 23 (xs.map Q4.cs)∧get e 35=int xs.length∧get e 36=int i:=
 ⟨fun h=>⟨h.g5,h.g6,h.g9,h.g34,h.g35,h.g36⟩,fun⟨a,b,c,d,e,f⟩=>⟨a,b,c,d,e,f⟩⟩
section
variable (D:D23) (xs:List Q4) (x:Q4) (O:List (List AV)) (T:List Blk) (N k n:Nat) (l:List Row) (hN:N=O.length) (hk:k < N) (hN2:N≤1000) (hx:xs[k]? =some x) (hO:O[k]? =some [.win (k+6) 0 n none]) (hT:T[k]? =some (rwB l)) (hn:n=l.length) (hl:xs.length=N)
include hN hk hN2 hx hO hT hn hl
set_option maxHeartbeats 2000000 in
theorem r23_1 (h1:D.m.kind=1) (a b:Nat) (ha:D.m.a=a) (hb:D.m.b=b) (han:a < n) (hbn:b < n):
  ∃e q,ex X 23 lb23_6 (D.S N xs O T k)=some (.next ⟨e,D.fr N O (T.set k (rwB (swapL a b l))++[q]),[],0⟩)∧Kp e xs (k+1):=by
 have hw:=wrap_nat k (by omega)
 have hkT:=(List.getElem?_eq_some_iff.1 hT).1
 have hT0:k+6 < T.length+6+1:=by omega
 have hT1:∀b,(T++[b])[k]? =some ⟨3,l.map Row.cs,.toky⟩:=fun b=>by rw[List.getElem?_append_left hkT];exact hT
 have hT2:∀b,(T++[b])[T.length]? =some b:=fun b=>List.getElem?_concat_length
 have hT3:∀b c,(T.set k c++[b])[k]? =some c:=fun b c=>by rw[List.getElem?_append_left (by simpa using hkT)];simp[hkT]
 have hT4:∀b c,(T.set k c++[b])[T.length]? =some b:=fun b c=>by have:=List.getElem?_concat_length (l:=T.set k c) (a:=b);rwa[List.length_set]at this
 have hA:∀b c,(T++[b]).set k c=T.set k c++[b]:=fun b c=>List.set_append_left _ _ hkT
 have hB:∀b c,(T++[b]).set T.length c=T++[c]:=fun b c=>by simp[List.set_append_right]
 have hA2:∀b c d,(T.set k d++[b]).set k c=T.set k c++[b]:=fun b c d=>by rw[List.set_append_left _ _ (by simpa using hkT),List.set_set]
 obtain⟨z1,r1,z2,r2,z3,r3,tz,tr,⟨kind,ma,mb,mk,ml⟩⟩:=D
 obtain⟨⟨p,nm,⟨kd,name,low,high,step,mark,dim,pieces,tA,tS,⟨op,q1,L1,rA,subs,args⟩,body,els⟩⟩,L⟩:=x
 simp only at h1
 subst h1
 have hkx:k < xs.length:=by omega
 have hkO:k < O.length:=by omega
 simp only at ha hb
 subst ha hb
 have hra:=List.getElem?_eq_getElem (show a < l.length by omega)
 have han':(a:Int) < n:=by omega
 have hrb:=List.getElem?_eq_getElem (show b < l.length by omega)
 have hbn':(b:Int) < n:=by omega
 have hsw:swapL a b l=(l.set a l[b]).set b l[a]:=by simp only[swapL,hra,hrb]
 subst hn
 rw[hsw]
 generalize l[a]=ra at*
 obtain⟨⟨ca,ka⟩,da⟩:=ra
 generalize l[b]=rb at*
 obtain⟨⟨cb,kb⟩,db⟩:=rb
 have hs1:((l.map Row.cs).set a (Row.cs ⟨⟨cb,kb⟩,db⟩))[b]? =some (Row.cs ⟨⟨cb,kb⟩,db⟩):=by
  by_cases hab:a=b
  ·subst hab
   rw[List.getElem?_set_self (by simpa using han)]
  ·rw[List.getElem?_set_ne hab,List.getElem?_map,hrb]
   rfl
 simp only[Row.cs_def,ints_def,int_def]at hs1
 simp[hs1,lb23_6,Tryz.f23,D23.S,D23.fr,Q4.cs,Q3.cs,infR,rwB_def,hra,hrb,han,hbn,hkx,hkO,hk,hw,hx,hO,hT1,hT2,hT3,hT4,hA,hB,hA2,hl,hN,kp_iff]
set_option maxHeartbeats 2000000 in
theorem r23_2 (h1:D.m.kind=2) (a:Nat) (ha:D.m.a=a) (han:a < n) (han2:a < l.length) (hv:linValid l[a].L=true):
  ∃e q,ex X 23 lb23_6 (D.S N xs O T k)=some (.next ⟨e,D.fr N O (T.set k (rwB (l.set a ⟨negL l[a].L,l[a].D⟩))++[q]),[],0⟩)∧Kp e xs (k+1):=by
 have hw:=wrap_nat k (by omega)
 have hkT:=(List.getElem?_eq_some_iff.1 hT).1
 have hT0:k+6 < T.length+6+1:=by omega
 have hT1:∀b,(T++[b])[k]? =some ⟨3,l.map Row.cs,.toky⟩:=fun b=>by rw[List.getElem?_append_left hkT];exact hT
 have hT2:∀b,(T++[b])[T.length]? =some b:=fun b=>List.getElem?_concat_length
 have hT3:∀b c,(T.set k c++[b])[k]? =some c:=fun b c=>by rw[List.getElem?_append_left (by simpa using hkT)];simp[hkT]
 have hT4:∀b c,(T.set k c++[b])[T.length]? =some b:=fun b c=>by have:=List.getElem?_concat_length (l:=T.set k c) (a:=b);rwa[List.length_set]at this
 have hA:∀b c,(T++[b]).set k c=T.set k c++[b]:=fun b c=>List.set_append_left _ _ hkT
 have hB:∀b c,(T++[b]).set T.length c=T++[c]:=fun b c=>by simp[List.set_append_right]
 have hA2:∀b c d,(T.set k d++[b]).set k c=T.set k c++[b]:=fun b c d=>by rw[List.set_append_left _ _ (by simpa using hkT),List.set_set]
 obtain⟨z1,r1,z2,r2,z3,r3,tz,tr,⟨kind,ma,mb,mk,ml⟩⟩:=D
 obtain⟨⟨p,nm,⟨kd,name,low,high,step,mark,dim,pieces,tA,tS,⟨op,q1,L1,rA,subs,args⟩,body,els⟩⟩,L⟩:=x
 simp only at h1
 subst h1
 have hkx:k < xs.length:=by omega
 have hkO:k < O.length:=by omega
 simp only at ha
 subst ha
 have hra:=List.getElem?_eq_getElem (show a < l.length by omega)
 have han':(a:Int) < n:=by omega
 have h56:=ic56 _ hv
 have hb0:=(valid_iff.1 hv).2.1
 have e1:(l.set a ⟨negL l[a].L,l[a].D⟩).map Row.cs=(l.map Row.cs).set a (Row.cs ⟨negL l[a].L,l[a].D⟩):=List.map_set
 subst hn
 rw[rwB_def,e1]
 generalize l[a]=ra at*
 obtain⟨⟨ca,ka⟩,da⟩:=ra
 generalize negL ⟨ca,ka⟩=nl at*
 obtain⟨nc,nk⟩:=nl
 simp at h56
 simp[-List.map_set,lb23_6,Tryz.f23,D23.S,D23.fr,Q4.cs,Q3.cs,infR,rwB_def,hra,han,h56,hkx,hkO,hk,hw,hx,hO,hT1,hT2,hT3,hT4,hA,hB,hA2,hl,hN,kp_iff]
set_option maxHeartbeats 2000000 in
theorem r23_3 (h1:D.m.kind=3) (b:Nat) (ha:D.m.a=k) (hb:D.m.b=b) (hbn:b < n) (hbn2:b < l.length) (hv:linValid l[b].L=true) (hd:1≤l[b].D∧l[b].D≤64) (hk1: -9223372036854775808≤D.m.k) (hk2:D.m.k < 9223372036854775808):
  ∃e q,ex X 23 lb23_6 (D.S N xs O T k)=some (.next ⟨e,D.fr N O (T.set k (rwB (l.set b ⟨⟨l[b].L.C,l[b].L.K+much D.m.k l[b].D⟩,l[b].D⟩))++[q]),[],0⟩)∧Kp e xs (k+1):=by
 have hw:=wrap_nat k (by omega)
 have hkT:=(List.getElem?_eq_some_iff.1 hT).1
 have hT0:k+6 < T.length+6+1:=by omega
 have hT1:∀b,(T++[b])[k]? =some ⟨3,l.map Row.cs,.toky⟩:=fun b=>by rw[List.getElem?_append_left hkT];exact hT
 have hT2:∀b,(T++[b])[T.length]? =some b:=fun b=>List.getElem?_concat_length
 have hT3:∀b c,(T.set k c++[b])[k]? =some c:=fun b c=>by rw[List.getElem?_append_left (by simpa using hkT)];simp[hkT]
 have hT4:∀b c,(T.set k c++[b])[T.length]? =some b:=fun b c=>by have:=List.getElem?_concat_length (l:=T.set k c) (a:=b);rwa[List.length_set]at this
 have hA:∀b c,(T++[b]).set k c=T.set k c++[b]:=fun b c=>List.set_append_left _ _ hkT
 have hB:∀b c,(T++[b]).set T.length c=T++[c]:=fun b c=>by simp[List.set_append_right]
 have hA2:∀b c d,(T.set k d++[b]).set k c=T.set k c++[b]:=fun b c d=>by rw[List.set_append_left _ _ (by simpa using hkT),List.set_set]
 obtain⟨z1,r1,z2,r2,z3,r3,tz,tr,⟨kind,ma,mb,mk,ml⟩⟩:=D
 obtain⟨⟨p,nm,⟨kd,name,low,high,step,mark,dim,pieces,tA,tS,⟨op,q1,L1,rA,subs,args⟩,body,els⟩⟩,L⟩:=x
 simp only at h1
 subst h1
 have hkx:k < xs.length:=by omega
 have hkO:k < O.length:=by omega
 simp only at ha hb hk1 hk2
 subst ha hb
 have hrb:=List.getElem?_eq_getElem (show b < l.length by omega)
 have hbn':(b:Int) < n:=by omega
 have h57:=ic57 mk l[b].D ⟨hk1,hk2⟩ (by omega)
 have hm:=much_bd (k:=mk) (n:=l[b].D) (by omega)
 have hf:=fits_iff.1 (valid_iff.1 hv).2.2
 have w1:=wrap_id (l[b].L.K+much mk l[b].D) (by omega) (by omega)
 have e1:(l.set b ⟨⟨l[b].L.C,l[b].L.K+much mk l[b].D⟩,l[b].D⟩).map Row.cs=(l.map Row.cs).set b (Row.cs ⟨⟨l[b].L.C,l[b].L.K+much mk l[b].D⟩,l[b].D⟩):=List.map_set
 subst hn
 rw[rwB_def,e1]
 generalize l[b]=rb at*
 obtain⟨⟨cb,kb⟩,db⟩:=rb
 simp only at h57 w1
 generalize much mk db=my at*
 simp[-List.map_set,lb23_6,Tryz.f23,D23.S,D23.fr,Q4.cs,Q3.cs,infR,rwB_def,hrb,hbn,h57,w1,hkx,hkO,hk,hw,hx,hO,hT1,hT2,hT3,hT4,hA,hB,hA2,hl,hN,kp_iff]
theorem r23_3' (h1:D.m.kind=3) (ha:D.m.a≠k):
  ∃e q,ex X 23 lb23_6 (D.S N xs O T k)=some (.next ⟨e,D.fr N O (T++[q]),[],0⟩)∧Kp e xs (k+1):=by
 have hw:=wrap_nat k (by omega)
 have hkT:=(List.getElem?_eq_some_iff.1 hT).1
 have hT0:k+6 < T.length+6+1:=by omega
 have hT1:∀b,(T++[b])[k]? =some ⟨3,l.map Row.cs,.toky⟩:=fun b=>by rw[List.getElem?_append_left hkT];exact hT
 have hT2:∀b,(T++[b])[T.length]? =some b:=fun b=>List.getElem?_concat_length
 have hT3:∀b c,(T.set k c++[b])[k]? =some c:=fun b c=>by rw[List.getElem?_append_left (by simpa using hkT)];simp[hkT]
 have hT4:∀b c,(T.set k c++[b])[T.length]? =some b:=fun b c=>by have:=List.getElem?_concat_length (l:=T.set k c) (a:=b);rwa[List.length_set]at this
 have hA:∀b c,(T++[b]).set k c=T.set k c++[b]:=fun b c=>List.set_append_left _ _ hkT
 have hB:∀b c,(T++[b]).set T.length c=T++[c]:=fun b c=>by simp[List.set_append_right]
 have hA2:∀b c d,(T.set k d++[b]).set k c=T.set k c++[b]:=fun b c d=>by rw[List.set_append_left _ _ (by simpa using hkT),List.set_set]
 obtain⟨z1,r1,z2,r2,z3,r3,tz,tr,⟨kind,ma,mb,mk,ml⟩⟩:=D
 obtain⟨⟨p,nm,⟨kd,name,low,high,step,mark,dim,pieces,tA,tS,⟨op,q1,L1,rA,subs,args⟩,body,els⟩⟩,L⟩:=x
 simp only at h1
 subst h1
 have hkx:k < xs.length:=by omega
 have hkO:k < O.length:=by omega
 simp only at ha
 have ha': ¬(k:Int)=ma:=fun e=>ha e.symm
 simp[lb23_6,Tryz.f23,D23.S,D23.fr,Q4.cs,Q3.cs,infR,rwB_def,ha,ha',hkx,hkO,hk,hw,hx,hO,hT1,hT2,hT3,hT4,hA,hB,hA2,hl,hN,kp_iff]
set_option maxHeartbeats 2000000 in
theorem r23_4 (h1:D.m.kind=4) (a b:Nat) (ha:D.m.a=a) (hb:D.m.b=b) (han:a < n) (hbn:b < n) (han2:a < l.length) (hbn2:b < l.length) (hva:linValid l[a].L=true) (hvb:linValid l[b].L=true) (hlc:l[b].L.C.length=l[a].L.C.length) (hk1: -9223372036854775808≤D.m.k) (hk2:D.m.k < 9223372036854775808):
  ∃e q,ex X 23 lb23_6 (D.S N xs O T k)=some (.next ⟨e,D.fr N O (T.set k (rwB (l.set a ⟨addL l[a].L D.m.k l[b].L,l[a].D⟩))++[q]),[],0⟩)∧Kp e xs (k+1):=by
 have hw:=wrap_nat k (by omega)
 have hkT:=(List.getElem?_eq_some_iff.1 hT).1
 have hT0:k+6 < T.length+6+1:=by omega
 have hT1:∀b,(T++[b])[k]? =some ⟨3,l.map Row.cs,.toky⟩:=fun b=>by rw[List.getElem?_append_left hkT];exact hT
 have hT2:∀b,(T++[b])[T.length]? =some b:=fun b=>List.getElem?_concat_length
 have hT3:∀b c,(T.set k c++[b])[k]? =some c:=fun b c=>by rw[List.getElem?_append_left (by simpa using hkT)];simp[hkT]
 have hT4:∀b c,(T.set k c++[b])[T.length]? =some b:=fun b c=>by have:=List.getElem?_concat_length (l:=T.set k c) (a:=b);rwa[List.length_set]at this
 have hA:∀b c,(T++[b]).set k c=T.set k c++[b]:=fun b c=>List.set_append_left _ _ hkT
 have hB:∀b c,(T++[b]).set T.length c=T++[c]:=fun b c=>by simp[List.set_append_right]
 have hA2:∀b c d,(T.set k d++[b]).set k c=T.set k c++[b]:=fun b c d=>by rw[List.set_append_left _ _ (by simpa using hkT),List.set_set]
 obtain⟨z1,r1,z2,r2,z3,r3,tz,tr,⟨kind,ma,mb,mk,ml⟩⟩:=D
 obtain⟨⟨p,nm,⟨kd,name,low,high,step,mark,dim,pieces,tA,tS,⟨op,q1,L1,rA,subs,args⟩,body,els⟩⟩,L⟩:=x
 simp only at h1
 subst h1
 have hkx:k < xs.length:=by omega
 have hkO:k < O.length:=by omega
 simp only at ha hb hk1 hk2
 subst ha hb
 have hra:=List.getElem?_eq_getElem (show a < l.length by omega)
 have han':(a:Int) < n:=by omega
 have hrb:=List.getElem?_eq_getElem (show b < l.length by omega)
 have hbn':(b:Int) < n:=by omega
 have h58:=ic58 l[a].L mk l[b].L ⟨hk1,hk2⟩ hva hvb hlc
 have e1:(l.set a ⟨addL l[a].L mk l[b].L,l[a].D⟩).map Row.cs=(l.map Row.cs).set a (Row.cs ⟨addL l[a].L mk l[b].L,l[a].D⟩):=List.map_set
 subst hn
 rw[rwB_def,e1]
 generalize l[a]=ra at*
 obtain⟨⟨ca,ka⟩,da⟩:=ra
 generalize l[b]=rb at*
 obtain⟨⟨cb,kb⟩,db⟩:=rb
 generalize addL ⟨ca,ka⟩ mk ⟨cb,kb⟩=nl at*
 obtain⟨nc,nk⟩:=nl
 simp at h58
 simp[-List.map_set,lb23_6,Tryz.f23,D23.S,D23.fr,Q4.cs,Q3.cs,infR,rwB_def,hra,hrb,han,hbn,h58,hkx,hkO,hk,hw,hx,hO,hT1,hT2,hT3,hT4,hA,hB,hA2,hl,hN,kp_iff]
end
end T
end
section
open Go Go.Proofs Go.Sym
namespace T
attribute [-simp] getElem?_pos
def S23t (D:D23) (N:Nat) (xs:List Q4) (O:List (List AV)) (q:Blk) (k a:Nat) (l M:List Row) (j:Nat):St:=
 ⟨[(5,.ptr 2 0 0),(6,.ptr 3 0 0),(9,.ptr 4 0 0),(10,int k),(12,.lst 3 (l.map Row.cs) .no),(13,.lst 3 ((l.map Row.cs).take a++(M.map fun r=>Row.cs ⟨r.L,D.m.k⟩).take j) (.tok 0)),(34,lst 23 (xs.map Q4.cs)),(35,int xs.length),(36,int k),
  (149,.lst 3 (M.map Row.cs) .no),(150,int M.length),(151,int j)],D.fr N O [q],[a+j],0⟩
set_option maxHeartbeats 2000000 in
theorem loop23t (D:D23) (N:Nat) (xs:List Q4) (O:List (List AV)) (q:List AV) (hqs:∀n H,sealL n H q=q) (hqc:∀n m,scrubL n m q=q) (hO1:∀n H,O.map (sealL n H)=O) (hO2:∀n m,O.map (scrubL n m)=O) (k a:Nat) (l M:List Row) (ha:a≤l.length) (hl:l.length≤1000) (hM:M.length≤1000) (hv:∀r ∈ M,r.L.C.length≤1000):
  ∃o,(∀ s,s.gc [5,6,9,10,12,13,34,35,36,149,150,151] 7 1=S23t D N xs O ⟨23,[q],.box⟩ k a l M 0→loopE X 23 lb23_23 (St.gc [5,6,9,10,12,13,34,35,36,149,150,151] 7 1) s=some o)∧
  ∃e,o= .exit 3 ⟨e,D.fr N O [⟨23,[q],.box⟩],[a+M.length],0⟩∧get e 13= .lst 3 ((l.map Row.cs).take a++M.map fun r=>Row.cs ⟨r.L,D.m.k⟩) (.tok 0)∧get e 10=int k∧get e 12= .lst 3 (l.map Row.cs) .no∧Kp e xs k:=by
 obtain⟨z1,r1,z2,r2,z3,r3,tz,tr,⟨kind,ma,mb,mk,ml⟩⟩:=D
 refine loop_unit M.length (S23t _ N xs O ⟨23,[q],.box⟩ k a l M) _ ?_ fun j hj=>?_
 ·simp[lb23_23,Tryz.f23,S23t,D23.fr,stops,kp_iff]
 ·have hw:=wrap_nat j (by omega)
  have hc:=List.getElem?_eq_getElem hj
  have hC:=hv M[j] (List.getElem_mem hj)
  have htk:=take_snoc (fun r:Row=>Row.cs ⟨r.L,mk⟩) M j _ hc
  generalize M[j]=r at*
  obtain⟨⟨C,K⟩,d⟩:=r
  simp only at hC htk
  have hmin:min a l.length=a:=by omega
  have hmin2:min j M.length=j:=by omega
  have hb1:C.length≤1073741824:=by omega
  have hb2:a+j+1≤1073741824:=by omega
  have hass:a+(j+1)=a+j+1:=by omega
  have hq:szOf 1 (C.map intC)=1∨C=[]:=by
   cases C with
   |nil=>exact .inr rfl
   |cons r q=>exact .inl rfl
  have hsz:szOf 3 (M.map Row.cs)=3:=by
   cases M with
   |nil=>simp at hj
   |cons r q=>rfl
  simp only[Row.cs_def,ints_def,int_def]at htk
  simp[-List.map_map,lb23_23,Tryz.f23,S23t,D23.fr,hj,hw,hc,hmin,hmin2,hb1,hb2,htk,hqs,hqc,hO1,hO2,hsz,hq,hass]
section
variable (D:D23) (xs:List Q4) (x:Q4) (O:List (List AV)) (N k:Nat) (l:List Row) (hN:N=O.length) (hk:k < N) (hN2:N≤1000) (hx:xs[k]? =some x) (hO:O[k]? =some [.lst (szOf 3 (l.map Row.cs)) (l.map Row.cs) .no]) (hl:xs.length=N) (hlen:l.length≤1000)
include hN hk hN2 hx hO hl hlen
set_option maxHeartbeats 2000000 in
theorem r23_7 (h1:D.m.kind=7) (a:Nat) (ha:D.m.a=a) (han:a < l.length):
  ∃e q ts,ex X 23 lb23_6 (D.S N xs O [] k)=some (.next ⟨e,D.fr N (O.set k [.lst 3 ((l.map Row.cs).take a++(l.map Row.cs).drop (a+1)) (.tok 0)]) [q],ts,0⟩)∧Kp e xs (k+1):=by
 have hw:=wrap_nat k (by omega)
 obtain⟨z1,r1,z2,r2,z3,r3,tz,tr,⟨kind,ma,mb,mk,ml⟩⟩:=D
 obtain⟨⟨p,nm,⟨kd,name,low,high,step,mark,dim,pieces,tA,tS,⟨op,q1,L1,rA,subs,args⟩,body,els⟩⟩,L⟩:=x
 simp only at h1
 subst h1
 have hkx:k < xs.length:=by omega
 have hkO:k < O.length:=by omega
 simp only at ha
 subst ha
 have hb1:a≤1073741824:=by omega
 have hb2:l.length-a≤1073741824:=by omega
 have hb4:l.length≤1073741824:=by omega
 have hw1:=wrap_nat a (by omega)
 have ha1:a≤l.length:=by omega
 have ha2:a+1≤l.length:=by omega
 have hmin:min a l.length=a:=by omega
 have ha3:(0:Int)≤(a:Int)+1:=by omega
 have ha4:(a:Int)+1≤l.length:=by omega
 have hsz:szOf 3 (l.map Row.cs)=3:=by
  cases l with
  |nil=>simp at han
  |cons r q=>rfl
 have hb3:a+(l.length-(a+1))≤1073741824:=by omega
 simp[lb23_6,Tryz.f23,D23.S,D23.fr,Q4.cs,Q3.cs,infR,ha1,ha2,han,hw1,hmin,hsz,ha3,ha4,hb1,hb2,hb3,hkx,hkO,hk,hw,hx,hO,hl,hN,kp_iff]
set_option maxHeartbeats 2000000 in
theorem r23_6 (h1:D.m.kind=6) (a:Nat) (ha:D.m.a=a) (han:a≤l.length) (c:Int) (hc:D.m.list[k]? =some c) (hnm:x.q.l.length≤12) (hne:l≠[]):
  ∃e q ts,ex X 23 lb23_6 (D.S N xs O [] k)=some (.next ⟨e,D.fr N (O.set k [.lst 3 ((l.map Row.cs).take a++Row.cs ⟨⟨List.replicate x.q.l.length 0,c⟩,1⟩::(l.map Row.cs).drop a) (.tok 0)]) [q],ts,0⟩)∧Kp e xs (k+1):=by
 have hw:=wrap_nat k (by omega)
 obtain⟨z1,r1,z2,r2,z3,r3,tz,tr,⟨kind,ma,mb,mk,ml⟩⟩:=D
 obtain⟨⟨p,nm,⟨kd,name,low,high,step,mark,dim,pieces,tA,tS,⟨op,q1,L1,rA,subs,args⟩,body,els⟩⟩,L⟩:=x
 simp only at h1
 subst h1
 have hkx:k < xs.length:=by omega
 have hkO:k < O.length:=by omega
 simp only at ha
 subst ha
 have hb1:a≤1073741824:=by omega
 have hb2:l.length-a≤1073741824:=by omega
 have hb4:l.length≤1073741824:=by omega
 simp only at hc hnm
 have hkm:k < ml.length:=(List.getElem?_eq_some_iff.1 hc).1
 have hmin:min a l.length=a:=by omega
 have hb3:nm.length≤1073741824:=by omega
 have hb5:a+1≤1073741824:=by omega
 have hb6:a+1+(l.length-a)≤1073741824:=by omega
 have hsz:szOf 3 (l.map Row.cs)=3:=by
  cases l with
  |nil=>exact absurd rfl hne
  |cons r q=>rfl
 have hrp:(List.replicate nm.length (0:Int)).map intC=List.replicate nm.length [.int .i64 0]:=by simp
 simp[lb23_6,Tryz.f23,D23.S,D23.fr,Q4.cs,Q3.cs,infR,han,hc,hkm,hmin,hsz,hrp,hb1,hb2,hb3,hb5,hb6,hkx,hkO,hk,hw,hx,hO,hl,hN,kp_iff]
set_option maxHeartbeats 2000000 in
theorem r23_6e (h1:D.m.kind=6) (a:Nat) (ha:D.m.a=a) (ha0:a=0) (c:Int) (hc:D.m.list[k]? =some c) (hnm:x.q.l.length≤12) (hne:l=[]):
  ∃e q ts,ex X 23 lb23_6 (D.S N xs O [] k)=some (.next ⟨e,D.fr N (O.set k [.lst 3 ([Row.cs ⟨⟨List.replicate x.q.l.length 0,c⟩,1⟩]) (.tok 0)]) [q],ts,0⟩)∧Kp e xs (k+1):=by
 have hw:=wrap_nat k (by omega)
 obtain⟨z1,r1,z2,r2,z3,r3,tz,tr,⟨kind,ma,mb,mk,ml⟩⟩:=D
 obtain⟨⟨p,nm,⟨kd,name,low,high,step,mark,dim,pieces,tA,tS,⟨op,q1,L1,rA,subs,args⟩,body,els⟩⟩,L⟩:=x
 simp only at h1
 subst h1
 have hkx:k < xs.length:=by omega
 have hkO:k < O.length:=by omega
 simp only at ha
 subst ha
 have hb1:a≤1073741824:=by omega
 have hb2:l.length-a≤1073741824:=by omega
 have hb4:l.length≤1073741824:=by omega
 simp only at hc hnm
 subst hne
 subst ha0
 simp at hO
 have hkm:k < ml.length:=(List.getElem?_eq_some_iff.1 hc).1
 have hb3:nm.length≤1073741824:=by omega
 have hrp:(List.replicate nm.length (0:Int)).map intC=List.replicate nm.length [.int .i64 0]:=by simp
 simp[lb23_6,Tryz.f23,D23.S,D23.fr,Q4.cs,Q3.cs,infR,hc,hkm,hrp,hb3,hkx,hkO,hk,hw,hx,hO,hl,hN,kp_iff]
set_option maxHeartbeats 2000000 in
theorem r23_5 (h1:D.m.kind=5) (a b:Nat) (ha:D.m.a=a) (hb:D.m.b=b) (hab:a < b) (hbl:b≤l.length) (hO1:∀n H,O.map (sealL n H)=O) (hO2:∀n m,O.map (scrubL n m)=O) (hv:∀r ∈ l,r.L.C.length≤1000):
  ∃e q ts,ex X 23 lb23_6 (D.S N xs O [] k)=some (.next ⟨e,D.fr N (O.set k [.lst 3 (((l.map Row.cs).take a++((l.take b).drop a).map fun r=>Row.cs ⟨r.L,D.m.k⟩)++(l.map Row.cs).drop a) (.tok 0)]) [q],ts,0⟩)∧Kp e xs (k+1):=by
 have hw:=wrap_nat k (by omega)
 obtain⟨z1,r1,z2,r2,z3,r3,tz,tr,⟨kind,ma,mb,mk,ml⟩⟩:=D
 obtain⟨⟨p,nm,⟨kd,name,low,high,step,mark,dim,pieces,tA,tS,⟨op,q1,L1,rA,subs,args⟩,body,els⟩⟩,L⟩:=x
 simp only at h1
 subst h1
 have hkx:k < xs.length:=by omega
 have hkO:k < O.length:=by omega
 simp only at ha
 subst ha
 have hb1:a≤1073741824:=by omega
 have hb2:l.length-a≤1073741824:=by omega
 have hb4:l.length≤1073741824:=by omega
 simp only at hb
 subst hb
 have han:a≤l.length:=by omega
 have hmin:min a l.length=a:=by omega
 have hminb:min b l.length=b:=by omega
 have hsz:szOf 3 (l.map Row.cs)=3:=by
  cases l with
  |nil=>simp at hbl;omega
  |cons r q=>rfl
 have hlM:((l.take b).drop a).length=b-a:=by simp;omega
 obtain⟨o,h1,e,rfl,g13,g10,g12,gk⟩:=loop23t ⟨z1,r1,z2,r2,z3,r3,tz,tr,⟨5,a,b,mk,ml⟩⟩ N xs O
  [.lst (szOf 1 (p.map intC)) (p.map intC) .no,.lst (szOf 1 (nm.map strC)) (nm.map strC) .no,.int .i64 kd,.str name,tabV low,tabV high,.int .i64 step,.int .i64 mark,.int .i64 dim,lst 1 (pieces.map pieC),.int .i64 tA,lst 2 (tS.map Lin.cs),
   .int .i64 op,.int .i64 q1,ints L1.C,.int .i64 L1.K,.int .i64 rA,lst 2 (subs.map Lin.cs),lst 7 (args.map Ex.cs),lst 19 (body.map Stm.cs),lst 19 (els.map Stm.cs),lst 2 ((rds (Stm.val (.mk kd name low high step mark dim pieces tA tS (.mk op q1 L1 rA subs args) body els))).map rfC),lst 1 L]
  (fun n H=>by simp[sealL]) (fun n m=>by simp[scrubL,scrub]) hO1 hO2 k a l ((l.take b).drop a) han hlen (by omega) fun r hr=>hv r (List.mem_of_mem_take (List.mem_of_mem_drop hr))
 obtain⟨g5,g6,g9,g34,g35,g36⟩:=gk
 have hab':a≤b:=by omega
 have hb7:b+(l.length-a)≤1073741824:=by omega
 have hxb:a+(b-a)=b:=by omega
 have hab2:(a:Int)≤b:=by omega
 have hbl2:(b:Int)≤l.length:=by omega
 rw[hlM]at h1
 simp only[lb23_23,Tryz.f23,S23t,bodyOf_some,↓sub_seq0,↓sub_seq1,↓sub_cond0,↓sub_cond1,↓sub_block,↓sub_loop,↓sub_nil,D23.fr,hlM]at h1
 rw[hN]at h1
 simp[-List.map_map,hl,hN,hxb]at h1
 simp only[hlM]at g13
 simp[-List.map_map,ex_loop,firstReg,lb23_6,Tryz.f23,D23.S,D23.fr,Q4.cs,Q3.cs,infR,h1,g13,g10,g12,g5,g6,g9,g34,g35,g36,han,hab,hab',hab2,hbl,hbl2,hmin,hminb,hsz,hlM,hb1,hb2,hb7,hxb,hO1,hO2,hkx,hkO,hk,hw,hx,hO,hl,hN,kp_iff]
end
end T
end
section
open Go Go.Proofs Go.Sym
namespace T
attribute [-simp] getElem?_pos
def clr:List AV→List AV
 | [.lst z R (.tok _)]=>[.lst (szOf z R) R .no]
 |r=>r
theorem clr_win (b o n c):clr [.win b o n c]=[.win b o n c]:=Eq.trans rfl rfl
theorem clr_tok (z R t):clr [.lst z R (.tok t)]=[.lst (szOf z R) R .no]:=Eq.trans rfl rfl
theorem clr_no (z R):clr [.lst z R .no]=[.lst z R .no]:=Eq.trans rfl rfl
theorem clr_nil (z R):clr [.lst z R .nil]=[.lst z R .nil]:=Eq.trans rfl rfl
def EntK (nT:Nat) (row:List AV):Prop:=(∃ j n,row=[.win (j+6) 0 n none]∧j < nT)∨(∃ z R,row=[.lst z R .no])∨(∃ z R,row=[.lst z R .nil])∨∃z R t,row=[.lst z R (.tok t)]
theorem gc_rows {nT:Nat} {H:Nat→Option Blk} {O:List (List AV)} (h:∀row ∈ O,EntK nT row):O.map (fun row=>scrubL (nT+6) 0 (sealL (nT+6) H row))=O.map clr:=by
 refine List.map_congr_left fun row hr=>?_
 rcases h row hr with⟨j,n,rfl,hj⟩ |⟨z,R,rfl⟩ |⟨z,R,rfl⟩ |⟨z,R,t,rfl⟩
 ·have hlt:j+6 < nT+6:=by omega
  simp only[sealL,se_win_lt _ _ _ _ _ _ hlt,scrubL,scrub,if_pos hlt,clr_win]
 ·simp only[sealL,se_lst,scrubL,scrub,clr_no]
 ·simp only[sealL,se_lst,scrubL,scrub,clr_nil]
 ·simp only[sealL,se_lst,scrubL,scrub,clr_tok,Nat.not_lt_zero,if_false]
theorem gc_blk {nT:Nat} {H:Nat→Option Blk} (l:List Row):scrubK (nT+6) 0 (sealK (nT+6) H (rwB l))=rwB l:=by
 have:(l.map Row.cs).map (scrubL (nT+6) 0)=l.map Row.cs:=by
  rw[List.map_map]
  exact List.map_congr_left fun r _=>by simp[scrubL,scrub]
 simp only[rwB_def,sealK,scrubK,this]
theorem gc_T {nT:Nat} {H:Nat→Option Blk} {T:List Blk} (h:∀b ∈ T,∃l,b=rwB l):T.map (fun k=>scrubK (nT+6) 0 (sealK (nT+6) H k))=T:=by
 have:=List.map_congr_left (f:=fun k=>scrubK (nT+6) 0 (sealK (nT+6) H k)) (g:=id) (l:=T) fun b hb=>by
  obtain⟨l,rfl⟩:=h b hb
  exact gc_blk l
 rw[this,List.map_id]
theorem gc_fr (D:D23) (N:Nat) (O:List (List AV)) (T r:List Blk) (nT:Nat) (hn:nT=T.length) (H:Nat→Option Blk) (hO:∀row ∈ O,EntK nT row) (hT:∀b ∈ T,∃l,b=rwB l):
  ((D.fr N O (T++r)).take (nT+6)).map (fun k=>scrubK (nT+6) 0 (sealK (nT+6) H k))=D.fr N (O.map clr) T:=by
 subst hn
 have h1:=gc_T (nT:=T.length) (H:=H) hT
 have h2:=gc_rows (H:=H) hO
 have h5:(5:Nat) < T.length+6:=by omega
 have e:(D.fr N O (T++r)).take (T.length+6)=D.fr N O T:=by simp[D23.fr]
 rw[e]
 simp only[D23.fr,List.map_cons,h1]
 obtain⟨z1,r1,z2,r2,z3,r3,tz,tr,m⟩:=D
 simp only[List.cons.injEq,and_true]
 refine⟨?_,?_,?_,?_,?_,?_⟩
 ·simp[sealK,scrubK,sealL,scrubL,scrub]
 ·simp[sealK,scrubK,sealL,scrubL,scrub]
 ·simp[sealK,scrubK,sealL,scrubL,scrub]
 ·simp[sealK,scrubK,sealL,scrubL,scrub]
 ·simp[sealK,scrubK,sealL,scrubL,scrub,se_win_lt _ _ _ _ _ _ h5,h5]
 ·simp only[sealK,scrubK,List.map_map,Blk.mk.injEq,and_true,true_and]
  exact h2
theorem gc23 (D:D23) (N:Nat) (xs:List Q4) (O:List (List AV)) (T r:List Blk) (ts:List Nat) (e:List (Nat×AV)) (i:Nat) (hk:Kp e xs i) (hO:∀row ∈ O,EntK T.length row) (hT:∀b ∈ T,∃l,b=rwB l):
  St.gc [5,6,9,34,35,36] (T.length+6) 0 ⟨e,D.fr N O (T++r),ts,0⟩=D.S N xs (O.map clr) T i:=by
 obtain⟨g5,g6,g9,g34,g35,g36⟩:=hk
 have:=fun H=>gc_fr D N O T r T.length rfl H hO hT
 unfold St.gc
 simp only[if_true,this,D23.S,keepEnv,g5,g6,g9,g34,g35,g36]
 simp[scrub]
end T
end
section
open Go Go.Proofs Go.Sym
namespace T
attribute [-simp] getElem?_pos
def mix (is:List Inf) (t:Tab) (m:Mv) (i:Nat):Tab:=t.mapIdx fun j l=>if j < i then nextL is m j l else l
theorem mix_get (is t m i k):(mix is t m i)[k]? =(t[k]?).map fun l=>if k < i then nextL is m k l else l:=by rw[mix,List.getElem?_mapIdx]
theorem mix_zero (is t m):mix is t m 0=t:=List.ext_getElem? fun k=>by
 rw[mix_get]
 cases t[k]? with
 |none=>rfl
 |some l=>simp only[Nat.not_lt_zero,if_false,Option.map_some]
theorem mix_len (is t m i):(mix is t m i).length=t.length:=by simp[mix]
theorem mix_all (is:List Inf) (t:Tab) (m:Mv):mix is t m t.length=mdT is t m:=List.ext_getElem? fun k=>by
 rw[mix_get,mdT,List.getElem?_mapIdx]
 cases h:t[k]? with
 |none=>rfl
 |some l=>simp only[(List.getElem?_eq_some_iff.1 h).1,if_true,Option.map_some]
theorem mix_at {is:List Inf} {t:Tab} {m:Mv} {i:Nat} {l:List Row} (h:t[i]? =some l):(mix is t m i)[i]? =some l:=by
 rw[mix_get,h]
 simp only[Nat.lt_irrefl,if_false,Option.map_some]
theorem mix_set {is:List Inf} {t:Tab} {m:Mv} {i:Nat} {l:List Row} (h:t[i]? =some l):(mix is t m i).set i (nextL is m i l)=mix is t m (i+1):=List.ext_getElem? fun k=>by
 have hlt:=(List.getElem?_eq_some_iff.1 h).1
 rw[mix_get,List.getElem?_set,mix_get,mix_len]
 by_cases e:i=k
 ·subst e
  rw[if_pos rfl,if_pos hlt,h]
  simp only[Nat.lt_succ_self,if_true,Option.map_some]
 ·rw[if_neg e]
  cases t[k]? with
  |none=>rfl
  |some q=>simp only[Option.map_some,show(k < i+1)=(k < i)by apply propext;omega]
def Ow (N n:Nat):List (List AV):=(List.range N).map fun k=>[.win (k+6) 0 n none]
theorem ow_get {N n k:Nat} (h:k < N):(Ow N n)[k]? =some [.win (k+6) 0 n none]:=by simp[Ow,List.getElem?_range h]
theorem ow_len (N n):(Ow N n).length=N:=by simp[Ow]
theorem ow_clr (N n):(Ow N n).map clr=Ow N n:=by
 unfold Ow
 rw[List.map_map]
 exact List.map_congr_left fun k _=>rfl
theorem ow_ent {N n nT:Nat} (h:N≤nT):∀row ∈ Ow N n,EntK nT row:=fun row hr=>by
 obtain⟨k,hk,rfl⟩:=List.mem_map.1 hr
 exact .inl ⟨k,n,rfl,by have:=List.mem_range.1 hk;omega⟩
theorem rw_all (t:Tab):∀b ∈ t.map rwB,∃l,b=rwB l:=fun b hb=>by
 obtain⟨l,_,rfl⟩:=List.mem_map.1 hb
 exact⟨l,rfl⟩
theorem rc_ent {nT:Nat} (t:Tab):∀row ∈ t.map rowsC,EntK nT row:=fun row hr=>by
 obtain⟨l,_,rfl⟩:=List.mem_map.1 hr
 exact .inr (.inl ⟨_,_,rfl⟩)
theorem rc_clr (t:Tab):(t.map rowsC).map clr=t.map rowsC:=by
 rw[List.map_map]
 exact List.map_congr_left fun k _=>rfl
theorem rc_seal (t:Tab) (n H):(t.map rowsC).map (sealL n H)=t.map rowsC:=by
 rw[List.map_map]
 exact List.map_congr_left fun k _=>by simp[sealL]
theorem rc_scrub (t:Tab) (n m):(t.map rowsC).map (scrubL n m)=t.map rowsC:=by
 rw[List.map_map]
 exact List.map_congr_left fun k _=>by simp[scrubL,scrub]
section
variable (D:D23) (is:List Inf) (t:Tab) (m:Mv) (hD:D.m=m) (hC:Chkd is t) (hnm:∀i ∈ is,i.nm.length≤12) (xs:List Q4) (hxl:xs.length=t.length) (hxn:∀(k:Nat) x i,xs[k]? =some x→is[k]? =some i→x.q.l.length=i.nm.length)
 (hk1: -9223372036854775808≤m.k) (hk2:m.k < 9223372036854775808) (hN:t.length≤1000) (hs:shE t m=0)
include hD hC hnm hxl hxn hk1 hk2 hN hs
theorem stepW (hk5:m.kind < 5) (k:Nat) (l:List Row) (hl:t[k]? =some l) (T:List Blk) (hT:T[k]? =some (rwB l)):
  ∃e q T',ex X 23 lb23_6 (D.S t.length xs (Ow t.length (nrows t)) T k)=some (.next ⟨e,D.fr t.length (Ow t.length (nrows t)) (T'++[q]),[],0⟩)∧Kp e xs (k+1)∧T'=T.set k (rwB (nextL is m k l)):=by
 have hkN:=(List.getElem?_eq_some_iff.1 hl).1
 obtain⟨i,hi,hll,hrow⟩:=hC.at hl
 have hx:=List.getElem?_eq_getElem (show k < xs.length by omega)
 have hval:∀r ∈ l,linValid r.L=true∧r.L.C.length=i.nm.length∧1≤r.D∧r.D≤64:=fun r hr=>errR_iff.1 (hrow r hr)
 subst hD
 have hO:=ow_get (n:=nrows t) hkN
 have hol:=ow_len t.length (nrows t)
 by_cases k1:D.m.kind=1
 ·obtain⟨_,_,e3,e4⟩:=mv_1 (is:=is) (t:=t) k1
  rw[e3]at hs
  split at hs
  ·rename_i hc
   simp only[Bool.and_eq_true]at hc
   obtain⟨a,ha,han⟩:=rowB_nat hc.1
   obtain⟨b,hb,hbn⟩:=rowB_nat hc.2
   obtain⟨e,q,h1,h2⟩:=r23_1 D xs _ _ T t.length k (nrows t) l hol.symm hkN hN hx hO hT hll.symm hxl k1 a b ha hb han hbn
   exact⟨e,q,_,h1,h2,by rw[e4,ha,hb];rfl⟩
  ·cases hs
 by_cases k2:D.m.kind=2
 ·obtain⟨_,_,e3,e4⟩:=mv_2 (is:=is) (t:=t) k2
  rw[e3]at hs
  split at hs
  ·rename_i hc
   obtain⟨a,ha,han⟩:=rowB_nat hc
   have hal:a < l.length:=by omega
   have hra:=List.getElem?_eq_getElem hal
   obtain⟨e,q,h1,h2⟩:=r23_2 D xs _ _ T t.length k (nrows t) l hol.symm hkN hN hx hO hT hll.symm hxl k2 a ha han hal (hval _ (List.getElem_mem hal)).1
   exact⟨e,q,_,h1,h2,by rw[e4,ha];simp only[Int.toNat_natCast,rowAt,hra]⟩
  ·cases hs
 by_cases k3:D.m.kind=3
 ·obtain⟨_,_,e3,e4⟩:=mv_3 (is:=is) (t:=t) k3
  rw[e3]at hs
  split at hs
  ·split at hs
   ·rename_i hc
    obtain⟨b,hb,hbn⟩:=rowB_nat hc
    have hbl:b < l.length:=by omega
    have hrb:=List.getElem?_eq_getElem hbl
    by_cases hka:D.m.a=k
    ·obtain⟨e,q,h1,h2⟩:=r23_3 D xs _ _ T t.length k (nrows t) l hol.symm hkN hN hx hO hT hll.symm hxl k3 b hka hb hbn hbl (hval _ (List.getElem_mem hbl)).1 (hval _ (List.getElem_mem hbl)).2.2 hk1 hk2
     exact⟨e,q,_,h1,h2,by rw[e4,hb,if_pos hka.symm];simp only[Int.toNat_natCast,rowAt,hrb]⟩
    ·obtain⟨e,q,h1,h2⟩:=r23_3' D xs _ _ T t.length k (nrows t) l hol.symm hkN hN hx hO hT hll.symm hxl k3 hka
     obtain⟨h3,h4⟩:=List.getElem?_eq_some_iff.1 hT
     exact⟨e,q,_,h1,h2,by rw[e4,if_neg (fun h=>hka h.symm),←h4,List.set_getElem_self]⟩
   ·cases hs
  ·cases hs
 by_cases k4:D.m.kind=4
 ·obtain⟨_,_,e3,e4⟩:=mv_4 (is:=is) (t:=t) k4
  rw[e3]at hs
  split at hs
  ·rename_i hc
   simp only[Bool.and_eq_true]at hc
   obtain⟨a,ha,han⟩:=rowB_nat hc.1.1
   obtain⟨b,hb,hbn⟩:=rowB_nat hc.1.2
   have hal:a < l.length:=by omega
   have hra:=List.getElem?_eq_getElem hal
   have hbl:b < l.length:=by omega
   have hrb:=List.getElem?_eq_getElem hbl
   have va:=hval _ (List.getElem_mem hal)
   have vb:=hval _ (List.getElem_mem hbl)
   obtain⟨e,q,h1,h2⟩:=r23_4 D xs _ _ T t.length k (nrows t) l hol.symm hkN hN hx hO hT hll.symm hxl k4 a b ha hb han hbn hal hbl va.1 vb.1 (vb.2.1.trans va.2.1.symm) hk1 hk2
   exact⟨e,q,_,h1,h2,by rw[e4,ha,hb];simp only[Int.toNat_natCast,rowAt,hra,hrb]⟩
  ·cases hs
 exfalso
 have:shE t D.m=5:=by
  unfold shE
  rw[if_neg k1,if_neg k2,if_neg k3,if_neg k4,if_neg (by omega),if_neg (by omega),if_neg (by omega)]
 rw[this]at hs
 cases hs
theorem stepL (hk5:5≤m.kind) (k:Nat) (l:List Row) (hl:t[k]? =some l) (O:List (List AV)) (hOl:O.length=t.length) (hO:O[k]? =some (rowsC l)) (hO1:∀n H,O.map (sealL n H)=O) (hO2:∀n m,O.map (scrubL n m)=O):
  ∃e q ts,ex X 23 lb23_6 (D.S t.length xs O [] k)=some (.next ⟨e,D.fr t.length (O.set k [.lst 3 ((nextL is m k l).map Row.cs) (.tok 0)]) [q],ts,0⟩)∧Kp e xs (k+1):=by
 have hkN:=(List.getElem?_eq_some_iff.1 hl).1
 obtain⟨i,hi,hll,hrow⟩:=hC.at hl
 have hx:=List.getElem?_eq_getElem (show k < xs.length by omega)
 have hn8:=hC.n8
 have hval:∀r ∈ l,linValid r.L=true∧r.L.C.length=i.nm.length∧1≤r.D∧r.D≤64:=fun r hr=>errR_iff.1 (hrow r hr)
 have hin:i.nm.length≤12:=hnm i (List.mem_of_getElem? hi)
 have hxk:=hxn k _ i hx hi
 subst hD
 rw[rowsC_def,rowsV_def]at hO
 by_cases k5:D.m.kind=5
 ·obtain⟨_,_,e3,e4⟩:=mv_5 (is:=is) (t:=t) k5
  rw[e3]at hs
  split at hs
  ·cases hs
  rename_i hc
  simp only[not_or,Int.not_lt,Int.not_le]at hc
  obtain⟨a,ha⟩:∃a:Nat,D.m.a=a:=⟨D.m.a.toNat,by omega⟩
  obtain⟨b,hb⟩:∃b:Nat,D.m.b=b:=⟨D.m.b.toNat,by omega⟩
  obtain⟨e,q,ts,h1,h2⟩:=r23_5 D xs _ O t.length k l hOl.symm hkN hN hx hO hxl (by omega) k5 a b ha hb (by omega) (by omega) hO1 hO2 fun r hr=>by have:=(hval r hr).2.1;omega
  refine⟨e,q,ts,?_,h2⟩
  rw[h1,e4,ha,hb]
  simp only[tileL,Int.toNat_natCast,List.map_append,List.map_map,List.map_take,List.map_drop]
  rfl
 by_cases k6:D.m.kind=6
 ·obtain⟨_,_,e3,e4⟩:=mv_6 (is:=is) (t:=t) k6
  rw[e3]at hs
  split at hs
  ·cases hs
  rename_i hc
  split at hs
  ·cases hs
  rename_i hc2
  simp only[not_or,Int.not_lt]at hc
  simp only[ne_eq,Classical.not_not]at hc2
  obtain⟨a,ha⟩:∃a:Nat,D.m.a=a:=⟨D.m.a.toNat,by omega⟩
  have hm:=List.getElem?_eq_getElem (show k < D.m.list.length by omega)
  by_cases hne:l=[]
  ·subst hne
   have ha0:a=0:=by simp at hll;omega
   obtain⟨e,q,ts,h1,h2⟩:=r23_6e D xs _ O t.length k [] hOl.symm hkN hN hx hO hxl (by simp) k6 a ha ha0 _ hm (by omega) rfl
   refine⟨e,q,ts,?_,h2⟩
   rw[h1,e4]
   simp only[cutL,hi,hm,cutR,ha,ha0,hxk]
   simp
  ·obtain⟨e,q,ts,h1,h2⟩:=r23_6 D xs _ O t.length k l hOl.symm hkN hN hx hO hxl (by omega) k6 a ha (by omega) _ hm (by omega) hne
   refine⟨e,q,ts,?_,h2⟩
   rw[h1,e4]
   simp only[cutL,hi,hm,cutR,ha,hxk,Int.toNat_natCast,List.map_append,List.map_cons,List.map_take,List.map_drop]
 by_cases k7:D.m.kind=7
 ·obtain⟨_,_,e3,e4⟩:=mv_7 (is:=is) (t:=t) k7
  rw[e3]at hs
  split at hs
  ·rename_i hc
   obtain⟨a,ha,han⟩:=rowB_nat hc
   obtain⟨e,q,ts,h1,h2⟩:=r23_7 D xs _ O t.length k l hOl.symm hkN hN hx hO hxl (by omega) k7 a ha (by omega)
   refine⟨e,q,ts,?_,h2⟩
   rw[h1,e4,ha]
   simp only[fuseL,Int.toNat_natCast,List.map_append,List.map_take,List.map_drop]
  ·cases hs
 exfalso
 have:shE t D.m=5:=by
  unfold shE
  rw[if_neg (by omega),if_neg (by omega),if_neg (by omega),if_neg (by omega),if_neg k5,if_neg k6,if_neg k7]
 rw[this]at hs
 cases hs
theorem loopW (hk5:m.kind < 5):∃o,(∀ s,s.gc [5,6,9,34,35,36] (t.length+6) 0=D.S t.length xs (Ow t.length (nrows t)) (t.map rwB) 0→loopE X 23 lb23_6 (St.gc [5,6,9,34,35,36] (t.length+6) 0) s=some o)∧
  ∃e,o= .exit 0 ⟨e,D.fr t.length (Ow t.length (nrows t)) ((mdT is t m).map rwB),[],0⟩∧get e 6= .ptr 3 0 0∧get e 9= .ptr 4 0 0:=by
 have h:=loop_unit (X:=X) (f:=23) (lb:=lb23_6) (gc:=St.gc [5,6,9,34,35,36] (t.length+6) 0) t.length (fun i=>D.S t.length xs (Ow t.length (nrows t)) ((mix is t m i).map rwB) i)
  (fun o=>∃e,o= .exit 0 ⟨e,D.fr t.length (Ow t.length (nrows t)) ((mdT is t m).map rwB),[],0⟩∧get e 6= .ptr 3 0 0∧get e 9= .ptr 4 0 0) ?_ fun k hk=>?_
 ·rw[mix_zero]at h
  exact h
 ·rw[mix_all]
  simp[lb23_6,Tryz.f23,D23.S,hxl,stops]
 ·have hl:=List.getElem?_eq_getElem hk
  have hT:((mix is t m k).map rwB)[k]? =some (rwB t[k]):=by rw[List.getElem?_map,mix_at hl];rfl
  obtain⟨e,q,T',h1,h2,h3⟩:=stepW D is t m hD hC hnm xs hxl hxn hk1 hk2 hN hs hk5 k _ hl _ hT
  refine⟨_,h1,?_⟩
  have hT':T'=(mix is t m (k+1)).map rwB:=by rw[h3,←mix_set hl,List.map_set]
  have hlen:t.length=T'.length:=by rw[hT',List.length_map,mix_len]
  have hg:=gc23 D t.length xs (Ow t.length (nrows t)) T' [q] [] e (k+1) h2 (ow_ent (by omega)) (by rw[hT'];exact rw_all _)
  rw[ow_clr,←hlen]at hg
  rw[hg,hT']
theorem loopL (hk5:5≤m.kind):∃o,(∀ s,s.gc [5,6,9,34,35,36] 6 0=D.S t.length xs (t.map rowsC) [] 0→loopE X 23 lb23_6 (St.gc [5,6,9,34,35,36] 6 0) s=some o)∧
  ∃e,o= .exit 0 ⟨e,D.fr t.length ((mdT is t m).map rowsC) [],[],0⟩∧get e 6= .ptr 3 0 0∧get e 9= .ptr 4 0 0:=by
 have h:=loop_unit (X:=X) (f:=23) (lb:=lb23_6) (gc:=St.gc [5,6,9,34,35,36] 6 0) t.length (fun i=>D.S t.length xs ((mix is t m i).map rowsC) [] i)
  (fun o=>∃e,o= .exit 0 ⟨e,D.fr t.length ((mdT is t m).map rowsC) [],[],0⟩∧get e 6= .ptr 3 0 0∧get e 9= .ptr 4 0 0) ?_ fun k hk=>?_
 ·rw[mix_zero]at h
  exact h
 ·rw[mix_all]
  simp[-rowsC_def,lb23_6,Tryz.f23,D23.S,hxl,stops]
 ·have hl:=List.getElem?_eq_getElem hk
  have hO:((mix is t m k).map rowsC)[k]? =some (rowsC t[k]):=by rw[List.getElem?_map,mix_at hl];rfl
  obtain⟨e,q,ts,h1,h2⟩:=stepL D is t m hD hC hnm xs hxl hxn hk1 hk2 hN hs hk5 k _ hl _ (by rw[List.length_map,mix_len]) hO (rc_seal _) (rc_scrub _)
  refine⟨_,h1,?_⟩
  have hO':(((mix is t m k).map rowsC).set k [.lst 3 ((nextL is m k t[k]).map Row.cs) (.tok 0)]).map clr=(mix is t m (k+1)).map rowsC:=by
   rw[List.map_set,rc_clr,←mix_set hl,List.map_set];rfl
  have hg:=gc23 D t.length xs (((mix is t m k).map rowsC).set k [.lst 3 ((nextL is m k t[k]).map Row.cs) (.tok 0)]) [] [q] ts e (k+1) h2 (fun row hr=>by
   rcases List.mem_or_eq_of_mem_set hr with hr |rfl
   ·exact rc_ent _ row hr
   ·exact .inr (.inr (.inr ⟨_,_,_,rfl⟩))) (by simp)
  rw[hO']at hg
  exact hg
end
end T
end
section
open Go Go.Proofs Go.Sym
namespace T
attribute [-simp] getElem?_pos
theorem gc_any (D:D23) (N:Nat) (O:List (List AV)) (T r:List Blk) (ts:List Nat) (e:List (Nat×AV)) (keep:List Nat) (hc:O.map clr=O) (hO:∀row ∈ O,EntK T.length row) (hT:∀b ∈ T,∃l,b=rwB l):
  St.gc keep (T.length+6) 0 ⟨e,D.fr N O (T++r),ts,0⟩=⟨keepEnv (T.length+6) 0 (fun b=>(D.fr N O (T++r))[b]?) e keep,D.fr N O T,[],0⟩:=by
 have:=gc_fr D N O T r T.length rfl (fun b=>(D.fr N O (T++r))[b]?) hO hT
 rw[hc]at this
 unfold St.gc
 rw[if_pos rfl]
 congr 1
def S42 (D:D23) (N:Nat) (O:List (List AV)) (T:List Blk) (j:Nat) (v:AV) (len r:Nat):St:=
 ⟨[(6,.ptr 3 0 0),(9,.ptr 4 0 0),(235,.win 5 0 N (some N)),(236,int N),(237,int j),(241,v),(242,int len),(243,int r)],D.fr N O T,[],0⟩
structure Kq (e:List (Nat×AV)) (N j:Nat):Prop where
 g6:get e 6= .ptr 3 0 0
 g9:get e 9= .ptr 4 0 0
 g235:get e 235= .win 5 0 N (some N)
 g236:get e 236=int N
 g237:get e 237=int j
theorem kq_iff {e N j}:Kq e N j↔get e 6= .ptr 3 0 0∧get e 9= .ptr 4 0 0∧get e 235= .win 5 0 N (some N)∧get e 236=int N∧get e 237=int j:=
 ⟨fun h=>⟨h.g6,h.g9,h.g235,h.g236,h.g237⟩,fun⟨a,b,c,d,e⟩=>⟨a,b,c,d,e⟩⟩
def EntV (T:List Blk) (j:Nat) (v:AV) (l:List Row):Prop:=(v= .win (j+6) 0 l.length none∧T[j]? =some (rwB l))∨v= .lst (szOf 3 (l.map Row.cs)) (l.map Row.cs) .no
section
variable (D:D23) (N:Nat) (O:List (List AV)) (T:List Blk) (hc:O.map clr=O) (hE:∀row ∈ O,EntK T.length row) (hT:∀b ∈ T,∃l,b=rwB l)
include hc hE hT
set_option maxHeartbeats 1000000 in
theorem loop42 (j:Nat) (v:AV) (l:List Row) (hv:EntV T j v l) (hl:l.length≤1000) (hL:∀r ∈ l,okLin r.L):
  ∃o,(∀ s,s.gc [6,9,235,236,237,241,242,243] (T.length+6) 0=S42 D N O T j v l.length 0→loopE X 23 lb23_42 (St.gc [6,9,235,236,237,241,242,243] (T.length+6) 0) s=some o)∧
   ((l.all (fun r=>linValid r.L)=true∧∃e,o= .exit 7 ⟨e,D.fr N O T,[],0⟩∧Kq e N j)∨(l.all (fun r=>linValid r.L)=false∧∃e q,o= .ret ⟨e,D.fr N O (T++[q]),[],0⟩∧get e 6= .ptr 3 0 0∧get e 7=int 3)):=by
 refine loop_all l (S42 D N O T j v l.length) (fun r=>linValid r.L) _ _ ?_ fun i r hr hi=>?_
 ·obtain⟨z1,r1,z2,r2,z3,r3,tz,tr,m⟩:=D
  simp[lb23_42,Tryz.f23,S42,D23.fr,stops,kq_iff]
 ·have hw:=wrap_nat i (by omega)
  have h52:=ic52 r.L (hL r (List.mem_of_getElem? hr))
  have hT2:∀b,(T++[b])[T.length]? =some b:=fun b=>List.getElem?_concat_length
  have hB:∀b c,(T++[b]).set T.length c=T++[c]:=fun b c=>by simp[List.set_append_right]
  have h5:(5:Nat) < T.length+6:=by omega
  have key:(linValid r.L=true→∃e q,ex X 23 lb23_42 (S42 D N O T j v l.length i)=some (.next ⟨e,D.fr N O (T++[q]),[],0⟩)∧Kq e N j∧get e 241=v∧get e 242=int l.length∧get e 243=int (i+1:Nat))∧
    (linValid r.L=false→∃e q,ex X 23 lb23_42 (S42 D N O T j v l.length i)=some (.ret ⟨e,D.fr N O (T++[q]),[],0⟩)∧get e 6= .ptr 3 0 0∧get e 7=int 3):=by
   obtain⟨⟨C,K⟩,d⟩:=r
   obtain⟨z1,r1,z2,r2,z3,r3,tz,tr,m⟩:=D
   simp only at h52
   rcases hv with⟨rfl,hTj⟩ |rfl
   ·rw[rwB_def]at hTj
    have hTk:∀b,(T++[b])[j]? =some ⟨3,l.map Row.cs,.toky⟩:=fun b=>by rw[List.getElem?_append_left (List.getElem?_eq_some_iff.1 hTj).1];exact hTj
    constructor
    ·intro hval
     rw[hval]at h52
     simp[lb23_42,Tryz.f23,S42,D23.fr,hi,hw,hr,hTj,hTk,h52,hT2,hB,kq_iff]
    ·intro hval
     rw[hval]at h52
     simp[lb23_42,Tryz.f23,S42,D23.fr,hi,hw,hr,hTj,hTk,h52,hT2,hB]
   ·have hsz:szOf 3 (l.map Row.cs)=3:=by
     cases l with
     |nil=>simp at hi
     |cons r q=>rfl
    constructor
    ·intro hval
     rw[hval]at h52
     simp[lb23_42,Tryz.f23,S42,D23.fr,hi,hw,hr,h52,hT2,hB,hsz,kq_iff]
    ·intro hval
     rw[hval]at h52
     simp[lb23_42,Tryz.f23,S42,D23.fr,hi,hw,hr,h52,hT2,hB,hsz]
  refine⟨fun hval=>?_,fun hval=>?_⟩
  ·obtain⟨e,q,h1,⟨g6,g9,g235,g236,g237⟩,g241,g242,g243⟩:=key.1 hval
   refine⟨_,h1,?_⟩
   rw[gc_any D N O T [q] [] e _ hc hE hT]
   have hv':∀H,scrub (T.length+6) 0 (sealv (T.length+6) H v)=v:=fun H=>by
    rcases hv with⟨rfl,hTj⟩ |rfl
    ·have:=(List.getElem?_eq_some_iff.1 hTj).1
     have hlt:j+6 < T.length+6:=by omega
     rw[se_win_lt _ _ _ _ _ _ hlt]
     simp[scrub,hlt]
    ·simp[scrub]
   simp only[keepEnv,g6,g9,g235,g236,g237,g241,g242,g243,S42,hv',se_win_lt _ _ _ _ _ _ h5]
   simp[scrub,h5]
  ·obtain⟨e,q,h1,h2,h3⟩:=key.2 hval
   exact⟨_,h1,rfl,e,q,rfl,h2,h3⟩
def S39 (D:D23) (N:Nat) (O:List (List AV)) (T:List Blk) (j:Nat):St:=
 ⟨[(6,.ptr 3 0 0),(9,.ptr 4 0 0),(235,.win 5 0 N (some N)),(236,int N),(237,int j)],D.fr N O T,[],0⟩
set_option maxHeartbeats 1000000 in
theorem loop39 (t':Tab) (hN:t'.length=N) (hOl:O.length=N) (hN2:N≤1000) (hO:∀(j:Nat) l,t'[j]? =some l→∃v,O[j]? =some [v]∧EntV T j v l) (hl:∀l ∈ t',l.length≤1000) (hL:∀l ∈ t',∀r ∈ l,okLin r.L):
  ∃o,(∀ s,s.gc [6,9,235,236,237] (T.length+6) 0=S39 D N O T 0→loopE X 23 lb23_39 (St.gc [6,9,235,236,237] (T.length+6) 0) s=some o)∧
   ((allV t'=true∧∃e,o= .exit 5 ⟨e,D.fr N O T,[],0⟩∧get e 6= .ptr 3 0 0∧get e 9= .ptr 4 0 0)∨(allV t'=false∧∃e q,o= .ret ⟨e,D.fr N O (T++[q]),[],0⟩∧get e 6= .ptr 3 0 0∧get e 7=int 3)):=by
 refine loop_all t' (S39 D N O T) (fun l=>l.all (fun r=>linValid r.L)) _ _ ?_ fun j l hj hjl=>?_
 ·rw[hN]
  simp[lb23_39,Tryz.f23,S39,D23.fr,stops]
 ·obtain⟨v,hOj,hv⟩:=hO j l hj
  obtain⟨o,h1,hcase⟩:=loop42 D N O T hc hE hT j v l hv (hl l (List.mem_of_getElem? hj)) (hL l (List.mem_of_getElem? hj))
  have hll:=hl l (List.mem_of_getElem? hj)
  have hw:=wrap_nat j (by omega)
  have hjN:j < N:=by omega
  have hjO:j < O.length:=by omega
  have h5:(5:Nat) < T.length+6:=by omega
  have key:(l.all (fun r=>linValid r.L)=true→∃e,ex X 23 lb23_39 (S39 D N O T j)=some (.next ⟨e,D.fr N O T,[],0⟩)∧Kq e N (j+1))∧
    (l.all (fun r=>linValid r.L)=false→∃e q,ex X 23 lb23_39 (S39 D N O T j)=some (.ret ⟨e,D.fr N O (T++[q]),[],0⟩)∧get e 6= .ptr 3 0 0∧get e 7=int 3):=by
   have hv':∀H,scrub (T.length+6) 0 (sealv (T.length+6) H v)=v:=fun H=>by
    rcases hv with⟨rfl,hTj⟩ |rfl
    ·have:=(List.getElem?_eq_some_iff.1 hTj).1
     have hlt:j+6 < T.length+6:=by omega
     rw[se_win_lt _ _ _ _ _ _ hlt]
     simp[scrub,hlt]
    ·simp[scrub]
   have h1':∀e,get e 6= .ptr 3 0 0→get e 9= .ptr 4 0 0→get e 235= .win 5 0 N (some N)→get e 236=int N→get e 237=int j→get e 241=v→get e 242=int l.length→get e 243=int 0→
     loopE X 23 lb23_42 (St.gc [6,9,235,236,237,241,242,243] (T.length+1+1+1+1+1+1) 0) ⟨e,D.fr N O T,[],0⟩=some o:=fun e g6 g9 g235 g236 g237 g241 g242 g243=>h1 _ (by
    have hg:=gc_any D N O T [] [] e [6,9,235,236,237,241,242,243] hc hE hT
    rw[List.append_nil]at hg
    rw[hg]
    simp only[keepEnv,g6,g9,g235,g236,g237,g241,g242,g243,S42,hv',se_win_lt _ _ _ _ _ _ h5]
    simp[scrub,h5])
   obtain⟨z1,r1,z2,r2,z3,r3,tz,tr,m⟩:=D
   simp only[lb23_42,Tryz.f23,bodyOf_some,↓sub_seq0,↓sub_seq1,↓sub_cond0,↓sub_cond1,↓sub_block,↓sub_loop,↓sub_nil,D23.fr,int_def,Mv.cs_def,ints_def]at h1'
   have hvl:(∃ c,v= .win (j+6) 0 l.length c)∨v= .lst (szOf 3 (l.map Row.cs)) (l.map Row.cs) .no:=hv.imp (fun h=>⟨none,h.1⟩) id
   clear hv hv' h1
   constructor
   ·intro hval
    rcases hcase with⟨_,e,rfl,g6,g9,g235,g236,g237⟩ |⟨h0,_⟩
    ·rcases hvl with⟨c,rfl⟩ |rfl
     ·simp[lb23_39,Tryz.f23,S39,D23.fr,ex_loop,firstReg,hjN,hjO,hOj,hw,h1',g6,g9,g235,g236,g237,kq_iff]
     ·simp[lb23_39,Tryz.f23,S39,D23.fr,ex_loop,firstReg,hjN,hjO,hOj,hw,h1',g6,g9,g235,g236,g237,kq_iff]
    ·rw[hval]at h0;cases h0
   ·intro hval
    rcases hcase with⟨h0,_⟩ |⟨_,e,q,rfl,g6,g7⟩
    ·rw[hval]at h0;cases h0
    ·rcases hvl with⟨c,rfl⟩ |rfl
     ·simp[lb23_39,Tryz.f23,S39,D23.fr,ex_loop,firstReg,hjN,hjO,hOj,hw,h1',g6,g7]
     ·simp[lb23_39,Tryz.f23,S39,D23.fr,ex_loop,firstReg,hjN,hjO,hOj,hw,h1',g6,g7]
  refine⟨fun hval=>?_,fun hval=>?_⟩
  ·obtain⟨e,h1,⟨g6,g9,g235,g236,g237⟩⟩:=key.1 hval
   refine⟨_,h1,?_⟩
   have hg:=gc_any D N O T [] [] e [6,9,235,236,237] hc hE hT
   rw[List.append_nil]at hg
   rw[hg]
   simp only[keepEnv,g6,g9,g235,g236,g237,S39,se_win_lt _ _ _ _ _ _ h5]
   simp[scrub,h5]
  ·obtain⟨e,q,h1,h2,h3⟩:=key.2 hval
   exact⟨_,h1,rfl,e,q,rfl,h2,h3⟩
end
end T
end
section
open Go Go.Proofs Go.Sym
namespace T
attribute [-simp] getElem?_pos
theorem seal_L (t':Tab) (H:Nat→Option Blk) (h5:H 5=some ⟨1,t'.map rowsC,.box⟩) (c:Option Nat):sealv 0 H (.win 5 0 t'.length c)=tabV t':=by
 rw[se_win_ge _ _ _ _ _ _ (Nat.zero_le _),h5,sew_box,if_neg (by simp),List.drop_zero,List.take_of_length_le (by simp),if_pos (puT _),nmT]
 rfl
theorem seal_W (t':Tab) (n:Nat) (hn:∀l ∈ t',l.length=n) (H:Nat→Option Blk) (h5:H 5=some ⟨1,Ow t'.length n,.box⟩) (hH:∀(j:Nat) l,t'[j]? =some l→H (j+6)=some (rwB l)) (c:Option Nat):sealv 0 H (.win 5 0 t'.length c)=tabV t':=by
 have hm:(Ow t'.length n).map (seal0L 0 H)=t'.map rowsC:=List.ext_getElem? fun j=>by
  rw[List.getElem?_map,List.getElem?_map]
  cases hl:t'[j]? with
  |none=>
   have:(Ow t'.length n)[j]? =none:=by
    rw[List.getElem?_eq_none_iff]at hl ⊢
    rw[ow_len];exact hl
   rw[this];rfl
  |some l=>
   rw[ow_get (List.getElem?_eq_some_iff.1 hl).1]
   have hk:=hH j l hl
   have hln:=hn l (List.mem_of_getElem? hl)
   subst hln
   have e:seal0 0 H (.win (j+6) 0 l.length none)=rowsV l:=by
    simp only[seal0,Nat.not_lt_zero,if_false,hk,rwB_def,List.length_map,Nat.zero_add,Nat.lt_irrefl,List.drop_zero]
    rw[List.take_of_length_le (by simp),nmR]
    rfl
   simp only[Option.map_some,seal0L,e,rowsC_def]
 rw[se_win_ge _ _ _ _ _ _ (Nat.zero_le _),h5,sew_box,if_neg (by simp[ow_len]),List.drop_zero,List.take_of_length_le (by simp[ow_len]),hm,if_pos (puT _),nmT]
 cases t' with
 |nil=>rw[if_pos (by rfl)];rfl
 |cons l r=>
  rw[if_neg]
  ·rw[szOf_ext 1 (Ow (l::r).length n) ((l::r).map rowsC) (by simp[ow_len])]
   rfl
  ·have h0:pureB (strip (.win 6 0 n none))=false:=rfl
   simp[Ow,List.range_succ_eq_map,h0]
theorem fin23 {e:List (Nat×AV)} {heap:List Blk} {ts:List Nat} {v V:AV} {c:Int} (g6:get e 6= .ptr 3 0 0) (g7:get e 7=int c) (h3:heap[3]? =some ⟨1,[[v]],.box⟩) (hV:sealv 0 (fun b=>heap[b]?) v=V) (hb:pureB (strip V)=true) (hn:normv V=V) (hbel:below 0 V=true):
  ∃q,fin Tryz.prog false Tryz.f23.results.toList (.ret ⟨e,heap,ts,0⟩)=some q∧q.1= .ret (.tup [.agg [V],int c])∧iret false q.2.2 (.tup [.agg [V],int c])=some (.ret (.tup [.agg [V],int c])):=by
 have hr:resOf Tryz.prog ⟨e,heap,ts,0⟩ Tryz.f23.results.toList=some [.agg [v],int c]:=by
  simp[Tryz.f23,g6,g7,h3]
 have:=leave_pure (P:=Tryz.prog) (s:=⟨e,heap,ts,0⟩) hr (v:=.tup [.agg [V],int c]) (by
  have hV':sealv 0 (St.H ⟨e,heap,ts,0⟩) v=V:=hV
  simp only[one,se_tup,se_agg,sealL,hV']
  rfl) (by simp[below,belowL,hbel])
 refine⟨_,this,rfl,?_⟩
 simp[iret,strip,stripL,pureB,pureL,hb,hn]
def s23 (D:D23) (N:Nat) (O:List (List AV)) (T:List Blk):St:=⟨[(3,.ptr 0 0 0),(4,.ptr 1 0 0),(5,.ptr 2 0 0),(6,.ptr 3 0 0),(9,.ptr 4 0 0)],D.fr N O T,[],0⟩
set_option maxHeartbeats 1000000 in
theorem rest_ok1 (D:D23) (N:Nat) (xs:List Q4) (O0 O1:List (List AV)) (T0 T1:List Blk) (hN:O1.length=N) (q1:szOf D.z1 D.r1=D.z1) (q2:szOf D.z2 D.r2=D.z2) (q3:szOf D.z3 D.r3=D.z3) (h51:icall X (call X) 51 [.agg [.lst D.z1 D.r1 .no,.lst D.z2 D.r2 .no,.lst D.z3 D.r3 .no]]=some (.ret (lst 23 (xs.map Q4.cs))))
  (e1:List (Nat×AV)) (hl1:∀e,Kp e xs 0→loopE X 23 lb23_6 (St.gc [5,6,9,34,35,36] (T0.length+1+1+1+1+1+1) 0) ⟨e,D.fr N O0 T0,[],0⟩=some (.exit 0 ⟨e1,D.fr N O1 T1,[],0⟩)) (g6:get e1 6= .ptr 3 0 0) (g9:get e1 9= .ptr 4 0 0)
  (e2:List (Nat×AV)) (hl2:∀e,Kq e N 0→loopE X 23 lb23_39 (St.gc [6,9,235,236,237] (T1.length+1+1+1+1+1+1) 0) ⟨e,D.fr N O1 T1,[],0⟩=some (.exit 5 ⟨e2,D.fr N O1 T1,[],0⟩)) (f6:get e2 6= .ptr 3 0 0) (f9:get e2 9= .ptr 4 0 0):
  ∃e,ex X 23 rest23 (s23 D N O0 T0)=some (.ret ⟨e,(D.fr N O1 T1).set 3 ⟨1,[[.win 5 0 N (some N)]],.box⟩,[],0⟩)∧get e 6= .ptr 3 0 0∧get e 7=int 0:=by
 obtain⟨z1,r1,z2,r2,z3,r3,tz,tr,m⟩:=D
 simp only[lb23_6,lb23_39,Tryz.f23,bodyOf_some,↓sub_seq0,↓sub_seq1,↓sub_cond0,↓sub_cond1,↓sub_block,↓sub_loop,↓sub_nil,D23.fr,int_def,Mv.cs_def,ints_def,lst_def,kp_iff,kq_iff]at hl1 hl2 h51 q1 q2 q3
 simp[rest23,cdr,Tryz.f23,s23,D23.fr,ex_loop,firstReg,q1,q2,q3,h51,hl1,g6,g9,hl2,f6,f9]
set_option maxHeartbeats 1000000 in
theorem rest_ok2 (D:D23) (N:Nat) (xs:List Q4) (O0 O1:List (List AV)) (T0 T1:List Blk) (hN:O1.length=N) (q1:szOf D.z1 D.r1=D.z1) (q2:szOf D.z2 D.r2=D.z2) (q3:szOf D.z3 D.r3=D.z3) (h51:icall X (call X) 51 [.agg [.lst D.z1 D.r1 .no,.lst D.z2 D.r2 .no,.lst D.z3 D.r3 .no]]=some (.ret (lst 23 (xs.map Q4.cs))))
  (e1:List (Nat×AV)) (hl1:∀e,Kp e xs 0→loopE X 23 lb23_6 (St.gc [5,6,9,34,35,36] (T0.length+1+1+1+1+1+1) 0) ⟨e,D.fr N O0 T0,[],0⟩=some (.exit 0 ⟨e1,D.fr N O1 T1,[],0⟩)) (g6:get e1 6= .ptr 3 0 0) (g9:get e1 9= .ptr 4 0 0)
  (s2:St) (hl2:∀e,Kq e N 0→loopE X 23 lb23_39 (St.gc [6,9,235,236,237] (T1.length+1+1+1+1+1+1) 0) ⟨e,D.fr N O1 T1,[],0⟩=some (.ret s2)):
  ex X 23 rest23 (s23 D N O0 T0)=some (.ret s2):=by
 obtain⟨z1,r1,z2,r2,z3,r3,tz,tr,m⟩:=D
 simp only[lb23_6,lb23_39,Tryz.f23,bodyOf_some,↓sub_seq0,↓sub_seq1,↓sub_cond0,↓sub_cond1,↓sub_block,↓sub_loop,↓sub_nil,D23.fr,int_def,Mv.cs_def,ints_def,lst_def,kp_iff,kq_iff]at hl1 hl2 h51 q1 q2 q3
 simp[rest23,cdr,Tryz.f23,s23,D23.fr,ex_loop,firstReg,q1,q2,q3,h51,hl1,g6,g9,hl2]
end T
end
section
open Go Go.Proofs Go.Sym
namespace T
attribute [-simp] getElem?_pos
theorem F23_def (z1 r1 z2 r2 z3 r3 sz rows k1 k2 k3 k4 z5 r5):F23 [.agg [.lst z1 r1 .no,.lst z2 r2 .no,.lst z3 r3 .no],.agg [.lst sz rows .no],.agg [.int .i64 k1,.int .i64 k2,.int .i64 k3,.int .i64 k4,.lst z5 r5 .no]]=
  match icall X (call X) 53 [.agg [.lst sz rows .no],.agg [.int .i64 k1,.int .i64 k2,.int .i64 k3,.int .i64 k4,.lst z5 r5 .no]]with
  |some (.ret (.int .i64 e))=>if e≠0 then some (.ret (.tup [.agg [.lst 0 [] .no],.int .i64 e]))else match icall X (call X) 55 [.agg [.lst sz rows .no]]with
   |some (.ret (.int .i64 n))=>out23 [.lst z1 r1 .no,.lst z2 r2 .no,.lst z3 r3 .no] sz rows [.int .i64 k1,.int .i64 k2,.int .i64 k3,.int .i64 k4,.lst z5 r5 .no] n k1
   |_=>none
  |_=>none:=Eq.trans rfl rfl
def toR3 (r:Row):R3:=(r.L.C,r.L.K,r.D)
theorem r3_cs (r:Row):r3c (toR3 r)=r.cs:=rfl
theorem decI_ok:∀l:List Int,decI (l.map intC)=some l
 | []=>rfl
 |a::r=>by
  show ob (decI (r.map intC)) _=_
  rw[decI_ok r];rfl
theorem decR_ok:∀l:List Row,(∀ r ∈ l,r.L.C.length≤1000)→decR (l.map Row.cs)=some (l.map toR3)
 | [],_=>rfl
 |a::r,h=>by
  show ob (decI (a.L.C.map intC)) (fun l=>if l.length≤1000 then ob (decR (r.map Row.cs)) fun q=>some ((l,a.L.K,a.D)::q)else none)=_
  rw[decI_ok,decR_ok r fun x hx=>h x (by simp[hx])]
  simp only[ob_some,h a (by simp),if_true]
  rfl
theorem decT_ok:∀t:Tab,(∀ l ∈ t,∀r ∈ l,r.L.C.length≤1000)→decT (t.map rowsC)=some (t.map fun l=>l.map toR3)
 | [],_=>rfl
 |a::r,h=>by
  show ob (decR (a.map Row.cs)) (fun l=>ob (decT (r.map rowsC)) fun q=>some (l::q))=_
  rw[decR_ok a (h a (by simp)),decT_ok r fun x hx=>h x (by simp[hx])]
  rfl
theorem map_r3 (l:List Row):(l.map toR3).map r3c=l.map Row.cs:=by
 rw[List.map_map]
 exact List.map_congr_left fun r _=>r3_cs r
section
variable (D:D23) (is:List Inf) (t:Tab) (m:Mv) (hD:D.m=m) (htr:D.tr=t.map rowsC)
theorem st_W (hD:D.m=m) (n:Nat) (hn:0 < n):st23 [.lst D.z1 D.r1 .no,.lst D.z2 D.r2 .no,.lst D.z3 D.r3 .no] D.tz D.tr m.cs n (t.map fun l=>l.map toR3)=s23 D t.length (Ow t.length n) (t.map rwB):=by
 subst hD
 have e1:(List.range t.length).map (fun k=>[AV.win (5+1+k) 0 n none])=Ow t.length n:=by
  unfold Ow
  exact List.map_congr_left fun k _=>by rw[show 5+1+k=k+6 by omega]
 have e2:(t.map fun l=>l.map toR3).map (fun l=>(⟨3,l.map r3c,.toky⟩:Blk))=t.map rwB:=by
  rw[List.map_map]
  exact List.map_congr_left fun l _=>by rw[rwB_def,Function.comp,map_r3]
 unfold st23 hp23 b54 s23 D23.fr
 rw[if_neg (by omega),List.length_map,e1,e2]
 rfl
theorem st_L (hD:D.m=m):st23l [.lst D.z1 D.r1 .no,.lst D.z2 D.r2 .no,.lst D.z3 D.r3 .no] D.tz D.tr m.cs (t.map fun l=>l.map toR3)=s23 D t.length (t.map rowsC) []:=by
 subst hD
 have e1:(t.map fun l=>l.map toR3).map (fun l=>[AV.lst (szOf 3 (l.map r3c)) (l.map r3c) .no])=t.map rowsC:=by
  rw[List.map_map]
  exact List.map_congr_left fun l _=>by rw[Function.comp,map_r3];rfl
 unfold st23l l54 s23 D23.fr
 rw[List.length_map,e1]
end
theorem next_len {is:List Inf} {m:Mv} {k:Nat} {l:List Row} (h1:1≤m.kind) (h5:m.kind < 5):(nextL is m k l).length=l.length:=by
 have hr:∀a x,(rowAt a x l).length=l.length:=fun a x=>by unfold rowAt;split <;> simp
 unfold nextL
 split
 ·unfold swapL;split <;> simp
 split
 ·exact hr _ _
 split
 ·split
  ·exact hr _ _
  ·rfl
 split
 ·exact hr _ _
 ·omega
theorem mdT_at {is:List Inf} {t:Tab} {m:Mv} {k:Nat} {l':List Row} (h:(mdT is t m)[k]? =some l'):∃l,t[k]? =some l∧l'=nextL is m k l:=by
 rw[mdT,List.getElem?_mapIdx,Option.map_eq_some_iff]at h
 obtain⟨l,h1,h2⟩:=h
 exact⟨l,h1,h2.symm⟩
theorem next_dim {is:List Inf} {t:Tab} {m:Mv} (hC:Chkd is t) (hnm:∀i ∈ is,i.nm.length≤12) {k:Nat} {l:List Row} (hl:t[k]? =some l):∀r ∈ nextL is m k l,r.L.C.length≤12:=by
 obtain⟨i,hi,hll,hrow⟩:=hC.at hl
 have hin:i.nm.length≤12:=hnm i (List.mem_of_getElem? hi)
 have hv:∀r ∈ l,r.L.C.length≤12:=fun r hr=>by have:=(errR_iff.1 (hrow r hr)).2.1;omega
 have hr:∀a x,x.C.length≤12→∀r ∈ rowAt a x l,r.L.C.length≤12:=fun a x hx r hr=>by
  unfold rowAt at hr
  split at hr
  ·rcases mem_set' hr with h |rfl
   ·exact hv r h
   ·exact hx
  ·exact hv r hr
 unfold nextL
 intro r h
 split at h
 ·unfold swapL at h
  split at h
  ·rename_i ra rb ha hb
   rcases mem_set' h with h |rfl
   ·rcases mem_set' h with h |rfl
    ·exact hv r h
    ·exact hv _ (List.mem_of_getElem? hb)
   ·exact hv _ (List.mem_of_getElem? ha)
  ·exact hv r h
 split at h
 ·refine hr _ _ ?_ r h
  split
  ·rename_i x hx
   have:=hv x (List.mem_of_getElem? hx)
   simpa[negL] using this
  ·simp
 split at h
 ·split at h
  ·refine hr _ _ ?_ r h
   split
   ·rename_i x hx
    exact hv x (List.mem_of_getElem? hx)
   ·simp
  ·exact hv r h
 split at h
 ·refine hr _ _ ?_ r h
  split
  ·rename_i x y hx hy
   have:=hv x (List.mem_of_getElem? hx)
   simp[addL,addC];omega
  ·simp
 split at h
 ·unfold tileL at h
  simp only[List.mem_append,List.mem_map]at h
  rcases h with(h |⟨q,h,rfl⟩) |h
  ·exact hv r (List.mem_of_mem_take h)
  ·exact hv q (List.mem_of_mem_take (List.mem_of_mem_drop h))
  ·exact hv r (List.mem_of_mem_drop h)
 split at h
 ·unfold cutL at h
  split at h
  ·rename_i i' c hi' hc
   rw[hi]at hi'
   cases hi'
   simp only[List.mem_append,List.mem_cons]at h
   rcases h with h |rfl |h
   ·exact hv r (List.mem_of_mem_take h)
   ·simpa[cutR] using hin
   ·exact hv r (List.mem_of_mem_drop h)
  ·exact hv r h
 ·unfold fuseL at h
  simp only[List.mem_append]at h
  rcases h with h |h
  ·exact hv r (List.mem_of_mem_take h)
  ·exact hv r (List.mem_of_mem_drop h)
theorem next_most {is:List Inf} {m:Mv} {k:Nat} {l:List Row} (h:l.length≤8):(nextL is m k l).length≤1000:=by
 have hr:∀a x,(rowAt a x l).length≤1000:=fun a x=>by
  unfold rowAt
  split
  ·rw[List.length_set];omega
  ·omega
 unfold nextL
 split
 ·unfold swapL
  split
  ·rw[List.length_set,List.length_set];omega
  ·omega
 split
 ·exact hr _ _
 split
 ·split
  ·exact hr _ _
  ·omega
 split
 ·exact hr _ _
 split
 ·unfold tileL;simp;omega
 split
 ·unfold cutL
  split
  ·simp;omega
  ·omega
 ·unfold fuseL;simp;omega
end T
end
section
open Go Go.Proofs Go.Sym
namespace T
attribute [-simp] getElem?_pos
theorem k_first (D:D23) (N:Nat) (xs:List Q4) (O:List (List AV)) (T:List Blk) (e:List (Nat×AV)) (hk:Kp e xs 0) (hc:O.map clr=O) (hO:∀row ∈ O,EntK T.length row) (hT:∀b ∈ T,∃l,b=rwB l):
  St.gc [5,6,9,34,35,36] (T.length+6) 0 ⟨e,D.fr N O T,[],0⟩=D.S N xs O T 0:=by
 have:=gc23 D N xs O T [] [] e 0 hk hO hT
 rwa[List.append_nil,hc]at this
theorem k_second (D:D23) (N:Nat) (O:List (List AV)) (T:List Blk) (e:List (Nat×AV)) (hk:Kq e N 0) (hc:O.map clr=O) (hO:∀row ∈ O,EntK T.length row) (hT:∀b ∈ T,∃l,b=rwB l):
  St.gc [6,9,235,236,237] (T.length+6) 0 ⟨e,D.fr N O T,[],0⟩=S39 D N O T 0:=by
 have hg:=gc_any D N O T [] [] e [6,9,235,236,237] hc hO hT
 rw[List.append_nil]at hg
 rw[hg]
 have h5:(5:Nat) < T.length+6:=by omega
 obtain⟨g6,g9,g235,g236,g237⟩:=hk
 simp only[keepEnv,g6,g9,g235,g236,g237,S39,se_win_lt _ _ _ _ _ _ h5]
 simp[scrub,h5]
theorem sz_sz (n:Nat) (l:List (List AV)):szOf (szOf n l) l=szOf n l:=by cases l <;> rfl
section
variable (D:D23) (is:List Inf) (t:Tab) (m:Mv) (hD:D.m=m) (hC:Chkd is t) (hnm:∀i ∈ is,i.nm.length≤12) (xs:List Q4) (hxl:xs.length=t.length) (hxn:∀(k:Nat) x i,xs[k]? =some x→is[k]? =some i→x.q.l.length=i.nm.length)
 (hk1: -9223372036854775808≤m.k) (hk2:m.k < 9223372036854775808) (hN:t.length≤1000) (hs:shE t m=0)
 (q1:szOf D.z1 D.r1=D.z1) (q2:szOf D.z2 D.r2=D.z2) (q3:szOf D.z3 D.r3=D.z3) (h51:icall X (call X) 51 [.agg [.lst D.z1 D.r1 .no,.lst D.z2 D.r2 .no,.lst D.z3 D.r3 .no]]=some (.ret (lst 23 (xs.map Q4.cs))))
def Ans (is:List Inf) (t:Tab) (m:Mv):AV:=if allV (mdT is t m)then .tup [.agg [tabV (mdT is t m)],int 0]else .tup [.agg [.lst 0 [] .no],int 3]
def Says (s:St) (v:AV):Prop:=∃o q,ex X 23 rest23 s=some o∧fin Tryz.prog false Tryz.f23.results.toList o=some q∧∃v',q.1= .ret v'∧iret false q.2.2 v'=some (.ret v)
include hD hC hnm hxl hxn hk1 hk2 hN hs q1 q2 q3 h51
theorem says_of (O0 O1:List (List AV)) (T0 T1:List Blk) (c0:O0.map clr=O0) (a0:∀row ∈ O0,EntK T0.length row) (b0:∀b ∈ T0,∃l,b=rwB l) (c1:O1.map clr=O1) (a1:∀row ∈ O1,EntK T1.length row) (b1:∀b ∈ T1,∃l,b=rwB l) (hO1:O1.length=t.length)
  (hl:∃o,(∀ s,s.gc [5,6,9,34,35,36] (T0.length+6) 0=D.S t.length xs O0 T0 0→loopE X 23 lb23_6 (St.gc [5,6,9,34,35,36] (T0.length+6) 0) s=some o)∧∃e,o= .exit 0 ⟨e,D.fr t.length O1 T1,[],0⟩∧get e 6= .ptr 3 0 0∧get e 9= .ptr 4 0 0)
  (hE:∀(j:Nat) l,(mdT is t m)[j]? =some l→∃v,O1[j]? =some [v]∧EntV T1 j v l)
  (hV:∀(H:Nat→Option Blk),(∀ b,5≤b→H b=(D.fr t.length O1 T1)[b]?)→sealv 0 H (.win 5 0 t.length (some t.length))=tabV (mdT is t m)):Says (s23 D t.length O0 T0) (Ans is t m):=by
 obtain⟨o,h1,e1,rfl,g6,g9⟩:=hl
 have hml:(mdT is t m).length=t.length:=by simp[mdT]
 have hn8:=hC.n8
 obtain⟨o2,h2,hcase⟩:=loop39 D t.length O1 T1 c1 a1 b1 (mdT is t m) hml hO1 hN hE (fun l' hl'=>by
  obtain⟨k,hk⟩:=List.getElem?_of_mem hl'
  obtain⟨l,hl,rfl⟩:=mdT_at hk
  obtain⟨_,_,hll,_⟩:=hC.at hl
  exact next_most (by omega)) fun l' hl' r hr=>by
  obtain⟨k,hk⟩:=List.getElem?_of_mem hl'
  obtain⟨l,hl,rfl⟩:=mdT_at hk
  have:=next_dim hC hnm hl r hr
  simp only[okLin];omega
 have hl1:∀e,Kp e xs 0→loopE X 23 lb23_6 (St.gc [5,6,9,34,35,36] (T0.length+1+1+1+1+1+1) 0) ⟨e,D.fr t.length O0 T0,[],0⟩=some (.exit 0 ⟨e1,D.fr t.length O1 T1,[],0⟩):=fun e hk=>
  h1 _ (k_first D t.length xs O0 T0 e hk c0 a0 b0)
 have hl2:∀e,Kq e t.length 0→loopE X 23 lb23_39 (St.gc [6,9,235,236,237] (T1.length+1+1+1+1+1+1) 0) ⟨e,D.fr t.length O1 T1,[],0⟩=some o2:=fun e hk=>
  h2 _ (k_second D t.length O1 T1 e hk c1 a1 b1)
 rcases hcase with⟨hv,e2,rfl,f6,f9⟩ |⟨hv,e2,q,rfl,f6,f7⟩
 ·obtain⟨e,hx,x6,x7⟩:=rest_ok1 D t.length xs O0 O1 T0 T1 hO1 q1 q2 q3 h51 e1 hl1 g6 g9 e2 hl2 f6 f9
  obtain⟨q,hq,hq1,hq2⟩:=fin23 (ts:=[]) (V:=tabV (mdT is t m)) (c:=0) x6 x7 (heap:=(D.fr t.length O1 T1).set 3 ⟨1,[[.win 5 0 t.length (some t.length)]],.box⟩) (v:=.win 5 0 t.length (some t.length)) (by simp[D23.fr]) (hV _ fun b hb=>by rw[List.getElem?_set_ne (by omega)]) (by simp) (by simp) (by simp[below])
  refine⟨_,q,hx,hq,_,hq1,?_⟩
  rw[hq2,Ans,if_pos hv]
 ·have hx:=rest_ok2 D t.length xs O0 O1 T0 T1 hO1 q1 q2 q3 h51 e1 hl1 g6 g9 _ hl2
  have hr:resOf Tryz.prog ⟨e2,D.fr t.length O1 (T1++[q]),[],0⟩ Tryz.f23.results.toList=some [.agg [.lst 0 [] .nil],int 3]:=by
   simp[Tryz.f23,f6,f7,D23.fr]
  have:=leave_pure (P:=Tryz.prog) (s:=⟨e2,D.fr t.length O1 (T1++[q]),[],0⟩) hr (v:=.tup [.agg [.lst 0 [] .nil],int 3]) (by simp[sealL]) (by simp[below,belowL])
  refine⟨_,_,hx,this,_,rfl,?_⟩
  rw[Ans,hv]
  simp[iret]
end
theorem rowB_pos {n:Nat} {a:Int} (h:rowB n a=true):0 < n:=by
 obtain⟨k,_,hk⟩:=rowB_nat h
 omega
theorem shE_pos {is:List Inf} {t:Tab} {m:Mv} (hs:shE t m=0) (h5:m.kind < 5):0 < nrows t∧1≤m.kind:=by
 by_cases k1:m.kind=1
 ·obtain⟨_,_,e3,_⟩:=mv_1 (is:=is) (t:=t) k1
  rw[e3]at hs
  split at hs
  ·rename_i hc
   simp only[Bool.and_eq_true]at hc
   exact⟨rowB_pos hc.1,by omega⟩
  ·cases hs
 by_cases k2:m.kind=2
 ·obtain⟨_,_,e3,_⟩:=mv_2 (is:=is) (t:=t) k2
  rw[e3]at hs
  split at hs
  ·rename_i hc
   exact⟨rowB_pos hc,by omega⟩
  ·cases hs
 by_cases k3:m.kind=3
 ·obtain⟨_,_,e3,_⟩:=mv_3 (is:=is) (t:=t) k3
  rw[e3]at hs
  split at hs
  ·split at hs
   ·rename_i hc
    exact⟨rowB_pos hc,by omega⟩
   ·cases hs
  ·cases hs
 by_cases k4:m.kind=4
 ·obtain⟨_,_,e3,_⟩:=mv_4 (is:=is) (t:=t) k4
  rw[e3]at hs
  split at hs
  ·rename_i hc
   simp only[Bool.and_eq_true]at hc
   exact⟨rowB_pos hc.1.1,by omega⟩
  ·cases hs
 exfalso
 have:shE t m=5:=by
  unfold shE
  rw[if_neg k1,if_neg k2,if_neg k3,if_neg k4,if_neg (by omega),if_neg (by omega),if_neg (by omega)]
 rw[this]at hs
 cases hs
theorem F23_eq (pt:PT) (hpt:pt.Ok) (hg:GoodP pt) (is:List Inf) (hnm:∀i ∈ is,i.nm.length≤12) (his:is.length≤256) (hnl:is.map Inf.nl=nlL pt.ps.length pt.body) (t:Tab) (ht:okTab t) (hC:Chkd is t) (m:Mv) (hm:m.list.length≤1000)
  (hk1: -9223372036854775808≤m.k) (hk2:m.k < 9223372036854775808):F23 [.agg pt.p.cs,.agg [.lst (szOf 1 (t.map rowsC)) (t.map rowsC) .no],.agg m.cs]=some (.ret (DoV (mvT is t m) (mvE t m))):=by
 have h53:=ic53 t (hC.good ht) hC.n8 m (by omega)
 have h55:=ic55 t
 obtain⟨law1,law2⟩:=md_law (m:=m) hC hnm
 have hn8:=hC.n8
 have hlen:=hC.len
 simp only[Prg.cs_def,Mv.cs_def,int_def,ints_def]at h53 ⊢
 rw[F23_def,h53]
 simp only
 by_cases hs:shE t m=0
 ·rw[if_neg (by simpa using hs),h55]
  simp only
  have hdim:∀l ∈ t,∀r ∈ l,r.L.C.length≤1000:=fun l hl r hr=>by
   obtain⟨k,hk⟩:=List.getElem?_of_mem hl
   obtain⟨i,hi,_,hrow⟩:=hC.at hk
   have h1:=(errR_iff.1 (hrow r hr)).2.1
   have h2:=hnm i (List.mem_of_getElem? hi)
   omega
  obtain⟨xs,h51,hxs⟩:=ic51 pt hpt hg
  have hxe:xs.map (fun x=>x.q.l.length)=is.map Inf.nl:=hxs.trans hnl.symm
  have hxl:xs.length=t.length:=by
   have:=congrArg List.length hxe
   simp only[List.length_map]at this
   omega
  have hxn:∀(k:Nat) x i,xs[k]? =some x→is[k]? =some i→x.q.l.length=i.nm.length:=fun k x i hx hi=>by
   have:=congrArg (fun l=>l[k]?) hxe
   simp only[List.getElem?_map,hx,hi,Option.map_some,Option.some.injEq]at this
   exact this
  obtain⟨D,hD⟩:∃D:D23,D=⟨szOf 1 pt.p.a,pt.p.a,szOf 2 pt.p.b,pt.p.b,szOf 19 pt.p.c,pt.p.c,szOf 1 (t.map rowsC),t.map rowsC,m⟩:=⟨_,rfl⟩
  have hDm:D.m=m:=by rw[hD]
  have hsays:Says (if 5≤m.kind then st23l [.lst (szOf 1 pt.p.a) pt.p.a .no,.lst (szOf 2 pt.p.b) pt.p.b .no,.lst (szOf 19 pt.p.c) pt.p.c .no] (szOf 1 (t.map rowsC)) (t.map rowsC) m.cs (t.map fun l=>l.map toR3)else
    st23 [.lst (szOf 1 pt.p.a) pt.p.a .no,.lst (szOf 2 pt.p.b) pt.p.b .no,.lst (szOf 19 pt.p.c) pt.p.c .no] (szOf 1 (t.map rowsC)) (t.map rowsC) m.cs (nrows t) (t.map fun l=>l.map toR3)) (Ans is t m):=by
   have z1:szOf D.z1 D.r1=D.z1:=by rw[hD];exact sz_sz _ _
   have z2:szOf D.z2 D.r2=D.z2:=by rw[hD];exact sz_sz _ _
   have z3:szOf D.z3 D.r3=D.z3:=by rw[hD];exact sz_sz _ _
   have h51':icall X (call X) 51 [.agg [.lst D.z1 D.r1 .no,.lst D.z2 D.r2 .no,.lst D.z3 D.r3 .no]]=some (.ret (lst 23 (xs.map Q4.cs))):=by rw[hD];exact h51
   by_cases hk5:5≤m.kind
   ·rw[if_pos hk5]
    have e:=st_L D t m hDm
    rw[hD]at e
    simp only at e
    rw[e,←hD]
    refine says_of D is t m hDm hC hnm xs hxl hxn hk1 hk2 (by omega) hs z1 z2 z3 h51' (t.map rowsC) ((mdT is t m).map rowsC) [] [] (rc_clr _) (rc_ent _) (by simp) (rc_clr _) (rc_ent _) (by simp) (by simp[mdT]) (loopL D is t m hDm hC hnm xs hxl hxn hk1 hk2 (by omega) hs hk5) (fun j l hl=>⟨_,by rw[List.getElem?_map,hl];rfl,.inr rfl⟩) fun H hH=>?_
    have:=seal_L (mdT is t m) H (by rw[hH 5 (by omega)];rfl) (some t.length)
    simpa only[mdT,List.length_mapIdx] using this
   ·rw[if_neg hk5]
    have hk5':m.kind < 5:=by omega
    obtain⟨hn0,hk1'⟩:=shE_pos (is:=is) hs hk5'
    have e:=st_W D t m hDm (nrows t) hn0
    rw[hD]at e
    simp only at e
    rw[e,←hD]
    have hml:(mdT is t m).length=t.length:=by simp[mdT]
    have hmn:∀(j:Nat) l',(mdT is t m)[j]? =some l'→l'.length=nrows t:=fun j l' hl'=>by
     obtain⟨l,hl,rfl⟩:=mdT_at hl'
     obtain⟨_,_,hll,_⟩:=hC.at hl
     rw[next_len hk1' hk5',hll]
    have hw:=loopW D is t m hDm hC hnm xs hxl hxn hk1 hk2 (by omega) hs hk5'
    refine says_of D is t m hDm hC hnm xs hxl hxn hk1 hk2 (by omega) hs z1 z2 z3 h51' (Ow t.length (nrows t)) (Ow t.length (nrows t)) (t.map rwB) ((mdT is t m).map rwB) (ow_clr _ _) (ow_ent (by simp)) (rw_all _) (ow_clr _ _) (ow_ent (by simp[hml])) (rw_all _) (ow_len _ _) (by rw[List.length_map];exact hw) (fun j l hl=>⟨_,ow_get (by have:=(List.getElem?_eq_some_iff.1 hl).1;omega),.inl ⟨by rw[hmn j l hl],by rw[List.getElem?_map,hl];rfl⟩⟩) fun H hH=>?_
    have:=seal_W (mdT is t m) (nrows t) (fun l hl=>by obtain⟨j,hj⟩:=List.getElem?_of_mem hl;exact hmn j l hj) H (by rw[hH 5 (by omega),hml];rfl) (fun j l hl=>by
     rw[hH (j+6) (by omega)]
     simp only[D23.fr,List.getElem?_cons_succ,List.getElem?_map,hl,Option.map_some]) (some t.length)
    rwa[hml]at this
  obtain⟨o,q,hx,hf,v',hq1,hq2⟩:=hsays
  unfold out23
  rw[decT_ok t hdim,ob_some,if_pos ⟨by omega,by omega,by rw[List.length_map];omega,fun l' hl'=>by
   obtain⟨l,hl,rfl⟩:=List.mem_map.1 hl'
   rw[List.length_map,Int.toNat_natCast]
   exact hC.even l hl⟩]
  simp only[Mv.cs_def,int_def,ints_def]at hx
  rw[Int.toNat_natCast,hx,ob_some,hf,ob_some,hq1]
  simp only
  rw[hq2,Ans]
  obtain⟨l1,l2⟩:=law2 hs
  cases hv:allV (mdT is t m)with
  |true=>rw[if_pos rfl,l1 hv,DoV_some]
  |false=>
   rw[(l2 hv).1,(l2 hv).2,DoV_none]
   rfl
 ·rw[if_pos hs,(law1 hs).1,(law1 hs).2,DoV_none]
  rfl
end T
end
