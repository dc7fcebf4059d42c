/- The law MovesDo of headlandlaw20 returns true, at arguments of the row's types whose lengths are at most uptoBulk: the program's Do and Back answer as the reference's do. Conditions: those of the given row (Rows.MovesDoUptoCardSaid), and no others. Part 8 of the proof. -/
import Derived.Test.YtfephppemgmokaaGreatDoorAg
set_option linter.unusedVariables false
set_option linter.unusedSimpArgs false
set_option linter.unusedSectionVars false
section
open Go Go.Proofs Go.Sym
namespace T
attribute [-simp] getElem?_pos
theorem e44' (irs:List (List AV)) (n:Nat) (t:Tab) (m:Mv) (hG:Good t n) (hn8:n≤8):∃T K,call X 44 [.agg (tblC irs n t),.agg m.cs] [] []=some (.ret T,[],K)∧Ret T (tileT n t m) (tileE n t m):=by
 by_cases c1:m.a < 0
 ·refine⟨.tup [.lst 0 [] .nil,int 6],[],?_,ret_none (by decide) (by simp[tileT,c1]) (by simp[tileE,c1])⟩
  rw[call_eq (by decide) (by simp)]
  simp[Tryz.func44,Tryz.f44,envOf,c1,leave_pure]
 by_cases c2:m.b≤m.a
 ·refine⟨.tup [.lst 0 [] .nil,int 6],[],?_,ret_none (by decide) (by simp[tileT,c2]) (by simp[tileE,c2])⟩
  rw[call_eq (by decide) (by simp)]
  simp[Tryz.func44,Tryz.f44,envOf,c1,c2,leave_pure]
 by_cases c3:(n:Int) < m.b
 ·refine⟨.tup [.lst 0 [] .nil,int 6],[],?_,ret_none (by decide) (by simp[tileT,c3]) (by simp[tileE,c3])⟩
  rw[call_eq (by decide) (by simp)]
  simp[Tryz.func44,Tryz.f44,envOf,c1,c2,c3,leave_pure]
 by_cases c4:m.k < 2
 ·refine⟨.tup [.lst 0 [] .nil,int 6],[],?_,ret_none (by decide) (by simp[tileT,c4]) (by simp[tileE,c4])⟩
  rw[call_eq (by decide) (by simp)]
  simp[Tryz.func44,Tryz.f44,envOf,c1,c2,c3,c4,leave_pure]
 by_cases c5:64 < m.k
 ·refine⟨.tup [.lst 0 [] .nil,int 6],[],?_,ret_none (by decide) (by simp[tileT,c5]) (by simp[tileE,c5])⟩
  rw[call_eq (by decide) (by simp)]
  simp[Tryz.func44,Tryz.f44,envOf,c1,c2,c3,c4,c5,leave_pure]
 obtain⟨a,ha⟩:∃a:Nat,m.a=a:=⟨m.a.toNat,by omega⟩
 obtain⟨b,hb⟩:∃b:Nat,m.b=b:=⟨m.b.toNat,by omega⟩
 have hab:a < b:=by omega
 have hbn:b≤n:=by omega
 have hc0: ¬(m.a < 0∨m.b≤m.a∨(n:Int) < m.b∨m.k < 2∨64 < m.k):=by omega
 obtain⟨o,h1,h2⟩:=loop44 irs n t m hG.ok a b hb hbn (by omega) (fun a ha=>hG.wide ha) (by omega)
 simp only[lb44_4,Tryz.f44,S44,bodyOf_some,sub_seq0,sub_seq1,sub_block,sub_loop,sub_nil]at h1
 have c1': ¬((a:Int) < 0):=by omega
 have c2': ¬((b:Int)≤(a:Int)):=by omega
 have c2'': ¬(b≤a):=by omega
 have c3': ¬((n:Int) < (b:Int)):=by omega
 have c3'': ¬(n < b):=by omega
 have w1:IntKind.i64.wrap ((n:Int)+(b:Int))=(n:Int)+(b:Int):=wrap_id _ (by omega) (by omega)
 have w2:IntKind.i64.wrap ((n:Int)+(b:Int)-(a:Int))=(n:Int)+(b:Int)-(a:Int):=wrap_id _ (by omega) (by omega)
 simp only[tabV_def,mvB_def,tblC_def,infV_def,int_def,Mv.cs_def,ints_def,ha,hb]at h1
 rcases h2 with⟨hB,e,rfl,g1,g2⟩ |⟨hB,e,rfl⟩
 ·by_cases c6:8 < (n:Int)+(b:Int)-(a:Int)
  ·refine⟨.tup [.lst 0 [] .nil,int 3],[],?_,ret_none (by decide) ?_ (by unfold tileE;rw[if_neg hc0,ha,hb];simp only[Int.toNat_natCast,hB];rfl)⟩
   ·rw[call_eq (by decide) (by simp)]
    simp[Tryz.func44,Tryz.f44,envOf,ha,hb,c1',c2',c2'',c3',c3'',c4,c5,ex_loop,firstReg,h1,g1,g2,w1,w2,c6,leave_pure]
   ·unfold tileT
    rw[if_neg hc0,ha,hb]
    simp only[Int.toNat_natCast,hB,c6,if_true,if_false,Bool.false_eq_true]
  ·obtain⟨K,h⟩:=e47 t (t.map (tileL a b m.k)) hG.ok.1 hG.ok.len (hG.ne (show a < n by omega)) (by simp) ⟨3,[tblC irs n t],.box⟩ (mvB m) 83 ⟨by decide,rfl⟩ (sh_all 83 rfl (by simp)) (fun i l l' e1 e2=>by
    have hl:=hG.even l (List.mem_of_getElem? e1)
    have:l'=tileL a b m.k l:=by
     rw[List.getElem?_map,e1]at e2
     simp only[Option.map_some,Option.some.injEq]at e2
     exact e2.symm
    rw[this]
    exact makes83 _ m l i a b ha hb hab (by omega) (by omega)) []
   refine⟨.tup [tabV (t.map (tileL a b m.k)),int 0],K,?_,?_⟩
   ·rw[call_eq (by decide) (by simp)]
    simp only[tabV_def,mvB_def,tblC_def,infV_def,int_def,Mv.cs_def,ints_def,ha,hb]at h
    simp[-List.map_map,Tryz.func44,Tryz.f44,envOf,ha,hb,c1',c2',c2'',c3',c3'',c4,c5,ex_loop,firstReg,h1,g1,g2,w1,w2,c6,h,leave_pure]
   ·have:tileT n t m=some (t.map (tileL a b m.k)):=by
     unfold tileT
     rw[if_neg hc0,ha,hb]
     simp only[Int.toNat_natCast,hB,c6,if_false,Bool.false_eq_true]
    rw[this];rfl
 ·refine⟨.tup [.lst 0 [] .nil,int 9],[],?_,ret_none (by decide) ?_ (by unfold tileE;rw[if_neg hc0,ha,hb];simp only[Int.toNat_natCast,hB];rfl)⟩
  ·rw[call_eq (by decide) (by simp)]
   simp[Tryz.func44,Tryz.f44,envOf,ha,hb,c1',c2',c2'',c3',c3'',c4,c5,ex_loop,firstReg,h1,leave_pure]
  ·unfold tileT
   rw[if_neg hc0,ha,hb]
   simp only[Int.toNat_natCast,hB,if_true]
theorem mover44:Mover 44 (fun _ n t m=>tileT n t m) tileE:=fun _ t m hc ht _ _=>e44' _ _ t m (hc.good ht) hc.n8
end T
end
section
open Go Go.Proofs Go.Sym
namespace T
attribute [-simp] getElem?_pos
def k0C (is:List Inf) (n:Int) (t:Tab):Blk:=⟨3,[tblC (is.map Inf.cs) n t],.box⟩
theorem k0C_def (is n t):k0C is n t=⟨3,[tblC (is.map Inf.cs) n t],.box⟩:=Eq.trans rfl rfl
theorem cutR_cs (i:Inf) (c:Int):(cutR i c).cs=[.lst (szOf 1 (List.replicate i.nm.length [.int .i64 0])) (List.replicate i.nm.length [.int .i64 0]) .no,.int .i64 c,.int .i64 1]:=by simp[cutR]
theorem e86 (is:List Inf) (n:Int) (t:Tab) (m:Mv) (kb:Blk) (l:List Row) (k a:Nat) (i:Inf) (c:Int) (hi:is[k]? =some i) (hc:m.list[k]? =some c) (hnm:i.nm.length≤12) (ha:m.a=a) (h1:a≤l.length) (h0:l≠[]) (hl:l.length≤536870912) (K:List Nat):
  call X 86 [int k,.win 3 0 l.length none,.ptr 0 0 0,.ptr 1 0 0] [k0C is n t,mvB m,kb,winB l] K=some (.ret (rowsV (l.take a++[cutR i c]++l.drop a)),[k0C is n t,mvB m,kb,⟨3,[],.dead⟩],K):=by
 have hlk:=(List.getElem?_eq_some_iff.1 hi).1
 have hlc:=(List.getElem?_eq_some_iff.1 hc).1
 have h:=ins_win l a h1 h0 [cutR i c] (by simp) (by simp;omega) [k0C is n t,mvB m,kb,winB l,⟨2,[[.lst 1 (List.replicate i.nm.length [.int .i64 0]) .exact,.int .i64 c]],.box⟩] K 3 rfl none .exact
 have hb:i.nm.length≤1073741824:=by omega
 simp only[k0C_def,winB_def,mvB_def,rowsV_def,Mv.cs_def,int_def,ints_def,ha,List.map_cons,List.map_nil,cutR_cs]at h ⊢
 simp at h
 rw[call_eq (by decide) (by simp)]
 simp[Tryz.func86,Tryz.f86,envOf,ha,hi,hc,hlk,hlc,hb,h,leave_pure]
theorem e86n (is:List Inf) (n:Int) (t:Tab) (m:Mv) (kb:Blk) (k:Nat) (i:Inf) (c:Int) (hi:is[k]? =some i) (hc:m.list[k]? =some c) (hnm:i.nm.length≤12) (ha:m.a=0) (q:Nat) (K:List Nat) (hq:K[q]? =some 0):
  call X 86 [int k,.lst 3 [] (.tok q),.ptr 0 0 0,.ptr 1 0 0] [k0C is n t,mvB m,kb] K=some (.ret (.lst 3 [(cutR i c).cs] (.tok q)),[k0C is n t,mvB m,kb],K.set q 1):=by
 have hlk:=(List.getElem?_eq_some_iff.1 hi).1
 have hlc:=(List.getElem?_eq_some_iff.1 hc).1
 have hb:i.nm.length≤1073741824:=by omega
 have h:∀H,insE [.lst 3 [] (.tok q),.int .i64 0,.lst 3 [(cutR i c).cs] .exact] H K=some (.ret (.lst 3 [(cutR i c).cs] (.tok q)),H,K.set q 1):=fun H=>by
  show(if _ then _ else _)=_
  rw[if_pos ⟨rfl,hq,by simp,by simp⟩]
  rfl
 simp only[k0C_def,winB_def,mvB_def,rowsV_def,Mv.cs_def,int_def,ints_def,ha,List.map_cons,List.map_nil,cutR_cs]at h ⊢
 rw[call_eq (by decide) (by simp)]
 simp[Tryz.func86,Tryz.f86,envOf,ha,hi,hc,hlk,hlc,hb,h,leave_pure]
end T
end
section
open Go Go.Proofs Go.Sym
namespace T
attribute [-simp] getElem?_pos
section
variable (t t':Tab) (k0 k1:Blk) (g:Nat)
def S47d (p:Nat×List Nat):St:=⟨[(1,.fn g [.ptr 0 0 0,.ptr 1 0 0]),(5,.win 2 0 t.length (some t.length)),(11,tabV t),(12,int t.length),(13,int p.1)],[k0,k1,⟨1,part (t'.map rowsC) z47 p.1,.box⟩],p.2,2⟩
def Makes3 (i:Nat) (l l':List Row):Prop:=∀kb K,call X g [int i,.win 3 0 l.length none,.ptr 0 0 0,.ptr 1 0 0] [k0,k1,kb,winB l] K=some (.ret (rowsV l'),[k0,k1,kb,⟨3,[],.dead⟩],K)
theorem loop47d (ht:t.length≤1073741824) (htt:∀l ∈ t,l.length≤1073741824) (hne:∀l ∈ t,l≠[]) (hlen:t'.length=t.length) (hg:decide (g < 1000000)=true∧sprimT g=none) (hs:shareT g=fun _=>true)
  (hF:∀i l l',t[i]? =some l→t'[i]? =some l'→Makes3 k0 k1 g i l l') (K:List Nat):
  ∃o,(∀ s,s.gc [1,5,11,12,13] 3 K.length=S47d t t' k0 k1 g (0,K)→loopE X 47 lb47_3 (St.gc [1,5,11,12,13] 3 K.length) s=some o)∧∃e K',o= .exit 0 ⟨e,[k0,k1,⟨1,t'.map rowsC,.box⟩],K',2⟩∧get e 5= .win 2 0 t.length (some t.length):=by
 refine loop_inv (S47d t t' k0 k1 g) (fun p=>p.1≤t.length) (fun p=>t.length-p.1) _ (fun p hp=>?_) (0,K) (Nat.zero_le _)
 obtain⟨i,K1⟩:=p
 by_cases hi:i < t.length
 ·right
  have hc:=List.getElem?_eq_getElem hi
  have hc':=List.getElem?_eq_getElem (show i < t'.length by omega)
  have h1:=hF i _ _ hc hc'
  have hw:=wrap_nat i (by omega)
  have hn:t[i]≠[]:=hne _ (List.getElem_mem hi)
  have h90:=e90 t[i] (htt _ (List.getElem_mem hi)) hn [k0,k1,⟨1,part (t'.map rowsC) z47 i,.box⟩] K1
  have hsh:shareT 90 [rowsV t[i]]=true:=by
   cases h:t[i]with
   |nil=>exact absurd h hn
   |cons a q=>rfl
  have hz:(part (t'.map rowsC) z47 i)[i]? =some [.lst 0 [] .nil]:=by rw[part_get,if_neg (by omega),if_pos (by simp;omega),z47_def]
  have h1':=h1 ⟨1,part (t'.map rowsC) z47 i,.box⟩ K1
  have hps:(List.map (scrubL 3 K1.length) (List.map (sealL 3 (fun b=>[k0,k1,⟨1,(part (t'.map rowsC) z47 i).set i [rowsV t'[i]],.box⟩,(⟨3,[],.dead⟩:Blk)][b]?)) ((part (t'.map rowsC) z47 i).set i [rowsV t'[i]])))=part (t'.map rowsC) z47 (i+1):=by
   refine part_step2 _ _ _ _ (rowsC t'[i]) _ i (by simp[hc']) (fun y hy=>?_) (by simp[z47]) (by simp)
   obtain⟨l,_,rfl⟩:=List.mem_map.1 hy
   simp
  simp only[rowsV_def,winB_def,int_def]at*
  simp[-List.map_set,-List.map_map,lb47_3,Tryz.f47,S47d,hi,hc,hw,hs,hg,hsh,h90,h1',hz,hps]
  exact⟨i+1,⟨by omega,rfl⟩,by omega,by omega⟩
 ·left
  obtain rfl:i=t.length:=by simp at hp;omega
  have hpf:part (t'.map rowsC) z47 t.length=t'.map rowsC:=by
   have:=part_full (t'.map rowsC) z47
   rwa[List.length_map,hlen]at this
  simp[lb47_3,Tryz.f47,S47d,stops,hpf]
theorem e47d (ht:t.length≤1073741824) (htt:∀l ∈ t,l.length≤1073741824) (hne:∀l ∈ t,l≠[]) (hlen:t'.length=t.length) (hg:decide (g < 1000000)=true∧sprimT g=none) (hs:shareT g=fun _=>true)
  (hF:∀i l l',t[i]? =some l→t'[i]? =some l'→Makes3 k0 k1 g i l l') (K:List Nat):∃K',call X 47 [tabV t,.fn g [.ptr 0 0 0,.ptr 1 0 0]] [k0,k1] K=some (.ret (tabV t'),[k0,k1],K'):=by
 obtain⟨o,h1,e,K',rfl,h2⟩:=loop47d t t' k0 k1 g ht htt hne hlen hg hs hF K
 refine⟨K',?_⟩
 simp only[lb47_3,Tryz.f47,S47d,bodyOf_some,sub_seq0,sub_seq1,sub_block,sub_loop,sub_nil,part_zero,List.length_map,hlen]at h1
 rw[call_eq (by decide) (by simp)]
 have hb:t'.length=t.length:=hlen
 simp[Tryz.func47,Tryz.f47,envOf,ex_loop,firstReg,h1,h2,z47,ht,hb,leave_pure]
def rowE (k:Nat) (l:List Row):List AV:=[.lst 3 (l.map Row.cs) (.tok k)]
def S47e (i:Nat):St:=⟨[(1,.fn g [.ptr 0 0 0,.ptr 1 0 0]),(5,.win 2 0 t.length (some t.length)),(11,tabV t),(12,int t.length),(13,int i)],[k0,k1,⟨1,part (t'.mapIdx rowE) z47 i,.box⟩],List.replicate i 1,2⟩
theorem loop47e (ht:t.length≤1073741824) (hem:∀l ∈ t,l=[]) (hlen:t'.length=t.length) (hg:decide (g < 1000000)=true∧sprimT g=none) (hs:shareT g=fun _=>true)
  (hF:∀(i:Nat) l',t'[i]? =some l'→∃r:Row,l'=[r]∧∀kb (q:Nat) (K:List Nat),K[q]? =some 0→call X g [int i,.lst 3 [] (.tok q),.ptr 0 0 0,.ptr 1 0 0] [k0,k1,kb] K=some (.ret (.lst 3 [r.cs] (.tok q)),[k0,k1,kb],K.set q 1)):
  ∃o,(∀ s,s.gc [1,5,11,12,13] 3 0=S47e t t' k0 k1 g 0→loopE X 47 lb47_3 (St.gc [1,5,11,12,13] 3 0) s=some o)∧∃e K,o= .exit 0 ⟨e,[k0,k1,⟨1,t'.mapIdx rowE,.box⟩],K,2⟩∧get e 5= .win 2 0 t.length (some t.length):=by
 refine loop_unit t.length (S47e t t' k0 k1 g) _ ?_ fun i hi=>?_
 ·have hpf:part (t'.mapIdx rowE) z47 t.length=t'.mapIdx rowE:=by
   have:=part_full (t'.mapIdx rowE) z47
   rwa[List.length_mapIdx,hlen]at this
  simp[lb47_3,Tryz.f47,S47e,stops,hpf]
 ·have hc:t[i]? =some []:=by rw[List.getElem?_eq_getElem hi,hem _ (List.getElem_mem hi)]
  have hc':=List.getElem?_eq_getElem (show i < t'.length by omega)
  obtain⟨r,hr,h1⟩:=hF i _ hc'
  have hw:=wrap_nat i (by omega)
  have h1':=h1 ⟨1,part (t'.mapIdx rowE) z47 i,.box⟩ i (List.replicate i 1++[0]) (by have:=tok_last (List.replicate i 1) 0;rwa[List.length_replicate]at this)
  have hset:(List.replicate i 1++[0]).set i 1=List.replicate (i+1) 1:=by
   have:=tok_set (List.replicate i 1) 0 1
   rw[List.length_replicate]at this
   rw[this,List.replicate_succ']
  rw[hset]at h1'
  have hz:(part (t'.mapIdx rowE) z47 i)[i]? =some [.lst 0 [] .nil]:=by rw[part_get,if_neg (by omega),if_pos (by simp;omega),z47_def]
  have hps:(List.map (scrubL 3 (i+1)) (List.map (sealL 3 (fun b=>[k0,k1,(⟨1,(part (t'.mapIdx rowE) z47 i).set i [.lst 3 [r.cs] (.tok i)],.box⟩:Blk)][b]?)) ((part (t'.mapIdx rowE) z47 i).set i [.lst 3 [r.cs] (.tok i)])))=part (t'.mapIdx rowE) z47 (i+1):=by
   have e1:part (t'.mapIdx rowE) z47 (i+1)=(part (t'.mapIdx rowE) z47 i).set i [.lst 3 [r.cs] (.tok i)]:=by
    rw[part_set]
    rw[List.getElem?_mapIdx,hc',hr];rfl
   rw[e1,List.map_map]
   conv=>rhs;rw[←List.map_id ((part (t'.mapIdx rowE) z47 i).set i [.lst 3 [r.cs] (.tok i)])]
   refine List.map_congr_left fun y hy=>?_
   rcases List.mem_or_eq_of_mem_set hy with hy |rfl
   ·unfold part at hy
    rcases List.mem_append.1 hy with hy |hy
    ·obtain⟨j,hj⟩:=List.getElem?_of_mem hy
     rw[List.getElem?_take]at hj
     split at hj
     ·rename_i hji
      rw[List.getElem?_mapIdx,Option.map_eq_some_iff]at hj
      obtain⟨l,_,rfl⟩:=hj
      simp[rowE,show j < i+1 by omega]
     ·cases hj
    ·rw[(List.mem_replicate.1 hy).2]
     simp[z47]
   ·simp
  simp only[rowsV_def,winB_def,int_def,Row.cs_def,ints_def]at*
  simp[-List.map_set,-List.map_map,lb47_3,Tryz.f47,S47e,hi,hc,hw,hs,hg,h1',hz,hps]
end
end T
end
section
open Go Go.Proofs Go.Sym
namespace T
attribute [-simp] getElem?_pos
theorem e47e (t t':Tab) (k0 k1:Blk) (g:Nat) (ht:t.length≤1073741824) (hem:∀l ∈ t,l=[]) (hlen:t'.length=t.length) (hg:decide (g < 1000000)=true∧sprimT g=none) (hs:shareT g=fun _=>true)
  (hF:∀(i:Nat) l',t'[i]? =some l'→∃r:Row,l'=[r]∧∀kb (q:Nat) (K:List Nat),K[q]? =some 0→call X g [int i,.lst 3 [] (.tok q),.ptr 0 0 0,.ptr 1 0 0] [k0,k1,kb] K=some (.ret (.lst 3 [r.cs] (.tok q)),[k0,k1,kb],K.set q 1)):
  ∃K',call X 47 [tabV t,.fn g [.ptr 0 0 0,.ptr 1 0 0]] [k0,k1] []=some (.ret (tabV t'),[k0,k1],K'):=by
 obtain⟨o,h1,e,K',rfl,h2⟩:=loop47e t t' k0 k1 g ht hem hlen hg hs hF
 refine⟨K',?_⟩
 have hpu:purR (t'.mapIdx rowE)=true:=by
  have:∀(l:List (List Row)) (j:Nat),purR (l.mapIdx fun i=>rowE (i+j))=true:=by
   intro l
   induction l with
   |nil=>intro j;rfl
   |cons a r ih=>
    intro j
    rw[List.mapIdx_cons]
    simp only[purR,Bool.and_eq_true]
    refine⟨by simp[rowE],?_⟩
    have:=ih (j+1)
    simpa[Nat.add_assoc,Nat.add_comm 1 j] using this
  simpa using this t' 0
 have hnr:(t'.mapIdx rowE).map normL=t'.map rowsC:=by
  refine List.ext_getElem? fun j=>?_
  simp only[List.getElem?_map,List.getElem?_mapIdx]
  cases t'[j]? with
  |none=>rfl
  |some l=>simp[rowE]
 have hsz:szOf 1 (t'.mapIdx rowE)=szOf 1 (t'.map rowsC):=szOf_ext _ _ _ (by simp)
 simp only[lb47_3,Tryz.f47,S47e,bodyOf_some,sub_seq0,sub_seq1,sub_block,sub_loop,sub_nil,part_zero,List.length_mapIdx,hlen]at h1
 rw[call_eq (by decide) (by simp)]
 have hb:t'.length=t.length:=hlen
 simp[Tryz.func47,Tryz.f47,envOf,ex_loop,firstReg,h1,h2,z47,ht,hb,hpu,hnr,hsz,leave_pure]
theorem ic85 (c:Int):icall X (call X) 85 [.int .i64 c]=some (.ret (.bool (!fits c))):=by
 refine icall_ret (v:=.bool (!fits c)) (H:=[]) (K:=[]) (by simp) (by simp) ?_ rfl rfl rfl
 rw[call_eq (by decide) (by simp)]
 simp[Tryz.func85,Tryz.f85,envOf,leave_pure]
theorem e45' (is:List Inf) (t:Tab) (m:Mv) (hC:Chkd is t) (ht:okTab t) (hm:m.list.length≤1073741824) (hnm:∀i ∈ is,i.nm.length≤12):∃T K,call X 45 [.agg (tblC (is.map Inf.cs) (nrows t) t),.agg m.cs] [] []=some (.ret T,[],K)∧Ret T (cutM is (nrows t) t m) (cutE (nrows t) t m):=by
 have hG:=hC.good ht
 by_cases c1:m.a < 0
 ·refine⟨.tup [.lst 0 [] .nil,int 6],[],?_,ret_none (by decide) (by simp[cutM,c1]) (by simp[cutE,c1])⟩
  rw[call_eq (by decide) (by simp)]
  simp[Tryz.func45,Tryz.f45,envOf,c1,leave_pure]
 by_cases c2:(nrows t:Int) < m.a
 ·refine⟨.tup [.lst 0 [] .nil,int 6],[],?_,ret_none (by decide) (by simp[cutM,c2]) (by simp[cutE,c2])⟩
  rw[call_eq (by decide) (by simp)]
  simp[Tryz.func45,Tryz.f45,envOf,c1,c2,leave_pure]
 have hc12: ¬(m.a < 0∨(nrows t:Int) < m.a):=by omega
 by_cases c3:m.list.length=t.length
 ·have h69:=e69 m.list hm 85 ⟨by decide,rfl⟩ (sh_fun 85 rfl (by simp)) (fun c=> !fits c) ic85
  by_cases c4:m.list.any (fun c=> !fits c)=true
  ·rw[c4]at h69
   refine⟨.tup [.lst 0 [] .nil,int 3],[],?_,ret_none (by decide) (by unfold cutM;rw[if_neg hc12,if_neg (by simp[c3]),c4];rfl) (by unfold cutE;rw[if_neg hc12,if_neg (by simp[c3])])⟩
   rw[call_eq (by decide) (by simp)]
   simp[Tryz.func45,Tryz.f45,envOf,c1,c2,c3,h69,leave_pure]
  ·rw[Bool.not_eq_true]at c4
   rw[c4]at h69
   by_cases c5:(8:Int)≤nrows t
   ·have c5':8≤nrows t:=by omega
    refine⟨.tup [.lst 0 [] .nil,int 3],[],?_,ret_none (by decide) (by unfold cutM;rw[if_neg hc12,if_neg (by simp[c3]),c4];simp[c5']) (by unfold cutE;rw[if_neg hc12,if_neg (by simp[c3])])⟩
    rw[call_eq (by decide) (by simp)]
    simp[Tryz.func45,Tryz.f45,envOf,c1,c2,c3,h69,c5,c5',leave_pure]
   ·have c5': ¬8≤nrows t:=by omega
    obtain⟨a,ha⟩:∃a:Nat,m.a=a:=⟨m.a.toNat,by omega⟩
    have hcut:cutM is (nrows t) t m=some (t.mapIdx (cutL is m)):=by
     unfold cutM
     rw[if_neg hc12,if_neg (by simp[c3]),c4]
     simp[c5']
    have hat:∀(k:Nat) l,t[k]? =some l→∃i c,is[k]? =some i∧m.list[k]? =some c∧i.nm.length≤12∧cutL is m k l=l.take a++[cutR i c]++l.drop a:=fun k l hk=>by
     have hlt:=(List.getElem?_eq_some_iff.1 hk).1
     have h1:=List.getElem?_eq_getElem (show k < is.length by rw[←hC.len];exact hlt)
     have h2:=List.getElem?_eq_getElem (show k < m.list.length by omega)
     refine⟨_,_,h1,h2,hnm _ (List.getElem_mem _),?_⟩
     simp only[cutL,h1,h2,ha,Int.toNat_natCast]
     simp
    have h:∃K,call X 47 [tabV t,.fn 86 [.ptr 0 0 0,.ptr 1 0 0]] [k0C is (nrows t) t,mvB m] []=some (.ret (tabV (t.mapIdx (cutL is m))),[k0C is (nrows t) t,mvB m],K):=by
     by_cases hn:nrows t=0
     ·have hem:∀l ∈ t,l=[]:=fun l hl=>List.length_eq_zero_iff.1 (by rw[hG.even l hl,hn])
      refine e47e t (t.mapIdx (cutL is m)) _ _ 86 ht.1 hem (by simp) ⟨by decide,rfl⟩ (sh_all 86 rfl (by simp)) fun k l' hk=>?_
      rw[List.getElem?_mapIdx,Option.map_eq_some_iff]at hk
      obtain⟨l,hl,rfl⟩:=hk
      obtain⟨i,c,h1,h2,h3,h4⟩:=hat k l hl
      obtain rfl:=hem l (List.mem_of_getElem? hl)
      refine⟨cutR i c,by rw[h4];simp,fun kb q K hq=>?_⟩
      exact e86n is (nrows t) t m kb k i c h1 h2 h3 (by omega) q K hq
     ·refine e47d t (t.mapIdx (cutL is m)) _ _ 86 ht.1 ht.len (hG.ne (show 0 < nrows t by omega)) (by simp) ⟨by decide,rfl⟩ (sh_all 86 rfl (by simp)) (fun k l l' hk hk'=>?_) []
      rw[List.getElem?_mapIdx,hk]at hk'
      simp only[Option.map_some,Option.some.injEq]at hk'
      subst hk'
      obtain⟨i,c,h1,h2,h3,h4⟩:=hat k l hk
      have hll:=hG.even l (List.mem_of_getElem? hk)
      have h8:=hC.n8
      rw[h4]
      exact fun kb K=>e86 is (nrows t) t m kb l k a i c h1 h2 h3 ha (by omega) (by rintro rfl;simp at hll;omega) (by omega) K
    obtain⟨K,h⟩:=h
    refine⟨.tup [tabV (t.mapIdx (cutL is m)),int 0],K,?_,by rw[hcut];rfl⟩
    rw[call_eq (by decide) (by simp)]
    simp only[tabV_def,mvB_def,k0C_def,tblC_def,infV_def,int_def,Mv.cs_def,ints_def]at h
    simp[-List.map_map,Tryz.func45,Tryz.f45,envOf,c1,c2,c3,h69,c5,c5',h,leave_pure]
 ·have c3': ¬((m.list.length:Int)=(t.length:Int)):=by omega
  refine⟨.tup [.lst 0 [] .nil,int 2],[],?_,ret_none (by decide) (by unfold cutM;rw[if_neg hc12,if_pos c3]) (by unfold cutE;rw[if_neg hc12,if_pos c3])⟩
  rw[call_eq (by decide) (by simp)]
  simp[Tryz.func45,Tryz.f45,envOf,c1,c2,c3,c3',leave_pure]
theorem mover45:Mover 45 (fun is n t m=>cutM is n t m) cutE:=fun is t m hc ht hm hnm=>e45' is t m hc ht hm hnm
theorem movers:Movers:=⟨mover44,mover45,mover46⟩
end T
end
section
open Go Go.Proofs Go.Sym
namespace T
def isT:Option IRes→Bool |some (.ret (.bool b))=>b |_=>false
theorem isT_spec {r:Option IRes} (h:isT r=true):r=some (.ret (.bool true)):=by
 unfold isT at h
 split at h
 ·rw[h]
 ·cases h
theorem icall_of_n {X:Ctx} {g:FuncId} {args:List AV} {n:Nat} {r:IRes} (h:icall X (callN X n) g args=some r):icall X (call X) g args=some r:=by
 unfold icall at h ⊢
 split at h
 ·exact h
 ·obtain⟨q,hq,h⟩:=ob_eq h
  have:=call_iff.2 ⟨n,hq⟩
  simp only[this,ob]
  exact h
theorem ic6:icall X (call X) 6 []=some (.ret (.bool true)):=icall_of_n (n:=900) (isT_spec (by kernel_rfl))
end T
end
section
open Go Go.Proofs Go.Sym
namespace T
attribute [-simp] getElem?_pos
def letB (c:Int):Bool:=decide (97≤c)&&decide (c≤122)||decide (65≤c)&&decide (c≤90)
theorem ic166 (c:Int):icall X (call X) 166 [.int .u8 c]=some (.ret (.bool (letB c))):=by
 have go:∀b,call X 166 [.int .u8 c] [] []=some (.ret (.bool b),[],[])→letB c=b→icall X (call X) 166 [.int .u8 c]=some (.ret (.bool (letB c))):=fun b h e=>by rw[e];exact icall_ret (v:=.bool b) (H:=[]) (K:=[]) (by simp) (by simp) h rfl rfl rfl
 by_cases c1:97≤c
 ·by_cases c2:c≤122
  ·refine go true ?_ (by simp[letB,c1,c2])
   rw[call_eq (by decide) (by simp)]
   simp[Tryz.func166,Tryz.f166,envOf,c1,c2,leave_pure]
  ·have c3:65≤c:=by omega
   have c4: ¬c≤90:=by omega
   refine go false ?_ (by simp[letB,c2,c4])
   rw[call_eq (by decide) (by simp)]
   simp[Tryz.func166,Tryz.f166,envOf,c1,c2,c3,c4,leave_pure]
 ·by_cases c3:65≤c
  ·by_cases c4:c≤90
   ·refine go true ?_ (by simp[letB,c3,c4])
    rw[call_eq (by decide) (by simp)]
    simp[Tryz.func166,Tryz.f166,envOf,c1,c3,c4,leave_pure]
   ·refine go false ?_ (by simp[letB,c1,c4])
    rw[call_eq (by decide) (by simp)]
    simp[Tryz.func166,Tryz.f166,envOf,c1,c3,c4,leave_pure]
  ·refine go false ?_ (by simp[letB,c1,c3])
   rw[call_eq (by decide) (by simp)]
   simp[Tryz.func166,Tryz.f166,envOf,c1,c3,leave_pure]
theorem bytes_at (s:ByteArray) (i:Nat) (h:i < s.size):∃c,s[i]? =some c:=⟨s[i],by simp[h]⟩
theorem bytes_empty {s:ByteArray} (h:s.size=0):s=⟨#[]⟩:=by
 obtain⟨d⟩:=s
 have:d= #[]:=Array.eq_empty_of_size_eq_zero h
 rw[this]
theorem bytes_list (s:ByteArray) (i:Nat):s[i]? =s.data.toList[i]? :=by
 by_cases h:i < s.size
 ·have h':i < s.data.toList.length:=h
  rw[getElem?_pos s i h,List.getElem?_eq_getElem h'];rfl
 ·have h': ¬i < s.data.toList.length:=h
  rw[getElem?_neg s i h,List.getElem?_eq_none (by omega)]
theorem ic168 (a b:ByteArray) (h:decide (a.size < 4294967281)=true):icall X (call X) 168 [.str a,.str b]=some (.ret (.bool (Lib.contains a.data.toList b.data.toList))):=by
 have h':a.size < 4294967281:=by simpa using h
 rw[icall_prim (F:=containsF) rfl]
 simp[containsF,h']
def kw150:ByteArray:=⟨(List.append [32,97,110,100,32,111,114,32,116,114,117,101,32,102,97,108,115,101,32,102,111,114,32,116,111,32,115,116,101,112,32,105,102,32,101,108,115,101,32,109,105,110,32] [109,97,120,32,102,108,111,111,114,32,99,101,105,108,32,97,114,114,97,121,32,112,97,114,97,109,32,112,97,114,97,108,108,101,108,32,118,101,99,116,111,114,32]).toArray⟩
def ldB (c:UInt8):Bool:=letB c.toNat||digB c.toNat
def preB (s:ByteArray):Bool:= !s.toList.isEmpty&&decide (s.size≤12)&&(match s[0]? with |some c=>letB c.toNat |none=>false)&&s.data.toList.all ldB
def nameB (s:ByteArray):Bool:=preB s&& !Lib.contains kw150.data.toList ((⟨#[32]⟩:ByteArray)++s++⟨#[32]⟩).data.toList
def S150 (s:ByteArray) (i:Nat):St:=⟨[(0,.str s),(18,.int .i64 s.size),(19,.int .i64 i)],[],[],0⟩
theorem ic150 (s:ByteArray):icall X (call X) 150 [.str s]=some (.ret (.bool (nameB s))):=by
 have go:∀b,call X 150 [.str s] [] []=some (.ret (.bool b),[],[])→nameB s=b→icall X (call X) 150 [.str s]=some (.ret (.bool (nameB s))):=fun b h e=>by rw[e];exact icall_ret (v:=.bool b) (H:=[]) (K:=[]) (by simp) (by simp) h rfl rfl rfl
 by_cases c1:s.toList.isEmpty=true
 ·refine go false ?_ (by simp only[nameB,preB,c1];rfl)
  rw[call_eq (by decide) (by simp)]
  simp[-beq_iff_eq,Tryz.func150,Tryz.f150,envOf,c1,leave_pure]
 ·have hz:0 < s.size:=by
   rcases Nat.eq_zero_or_pos s.size with h |h
   ·exact absurd (by rw[bytes_empty h];simp) c1
   ·exact h
  rw[Bool.not_eq_true]at c1
  by_cases c2:(12:Int) < s.size
  ·refine go false ?_ (by
               have: ¬s.size≤12:=by omega
               simp only[nameB,preB,this];simp)
   rw[call_eq (by decide) (by simp)]
   simp[-beq_iff_eq,Tryz.func150,Tryz.f150,envOf,c1,c2,leave_pure]
  ·obtain⟨x,hx⟩:=bytes_at s 0 hz
   have hb:=ic166 x.toNat
   have c2':s.size≤12:=by omega
   have hpre:preB s=(letB x.toNat&&s.data.toList.all ldB):=by simp only[preB,c1,hx,c2',decide_true];rfl
   cases hl:letB x.toNat with
   |false=>
    rw[hl]at hb
    refine go false ?_ (by rw[nameB,hpre,hl];rfl)
    rw[call_eq (by decide) (by simp)]
    simp[-beq_iff_eq,Tryz.func150,Tryz.f150,envOf,c1,c2,hx,hb,leave_pure]
   |true=>
    rw[hl]at hb
    have hloop:∃o,(∀ s',s'.gc [0,18,19] 0 0=S150 s 0→loopE X 150 lb150_4 (St.gc [0,18,19] 0 0) s'=some o)∧((s.data.toList.all ldB=true∧∃e,o= .exit 0 ⟨e,[],[],0⟩∧get e 0= .str s)∨(s.data.toList.all ldB=false∧∃e,o= .ret ⟨(2,.bool false)::e,[],[],0⟩)):=by
     have hsz:s.data.toList.length=s.size:=rfl
     refine loop_all s.data.toList (S150 s) ldB _ _ (by rw[hsz];simp[lb150_4,Tryz.f150,S150,stops]) (fun i y hy hi=>?_)
     rw[hsz]at hi
     rw[←bytes_list]at hy
     have hw:=wrap_nat i (by omega)
     have hb1:=ic166 y.toNat
     have hb2:=ic167 y.toNat
     unfold ldB
     cases v1:letB y.toNat with
     |true=>
      rw[v1]at hb1
      refine⟨fun _=>?_,fun h=>by simp at h⟩
      simp[lb150_4,Tryz.f150,S150,hi,hw,hy,hb1]
     |false=>
      rw[v1]at hb1
      cases v2:digB y.toNat with
      |true=>
       rw[v2]at hb2
       refine⟨fun _=>?_,fun h=>by simp at h⟩
       simp[lb150_4,Tryz.f150,S150,hi,hw,hy,hb1,hb2]
      |false=>
       rw[v2]at hb2
       refine⟨fun h=>by simp at h,fun _=>?_⟩
       simp[lb150_4,Tryz.f150,S150,hi,hy,hb1,hb2,stops]
    obtain⟨o,h1,h2⟩:=hloop
    simp only[lb150_4,Tryz.f150,S150,bodyOf_some,sub_seq0,sub_seq1,sub_block,sub_loop,sub_nil]at h1
    simp at h1
    rcases h2 with⟨hall,e,rfl,g1⟩ |⟨hall,e,rfl⟩
    ·have hs:s.size≤12:=by omega
     refine go (!(Lib.contains kw150.data.toList ((⟨#[32]⟩:ByteArray)++s++⟨#[32]⟩).data.toList)) ?_ (by rw[nameB,hpre,hl,hall];rfl)
     have h9:=ic168 kw150 ((⟨#[32]⟩:ByteArray)++s++⟨#[32]⟩) (by kernel_rfl)
     have e1:(⟨#[32]⟩:ByteArray).size=1:=rfl
     have z1:(⟨#[32]⟩:ByteArray).size+s.size≤4611686018427387904:=by omega
     have z2:((⟨#[32]⟩:ByteArray)++s).size+(⟨#[32]⟩:ByteArray).size≤4611686018427387904:=by rw[ByteArray.size_append];omega
     generalize Lib.contains kw150.data.toList ((⟨#[32]⟩:ByteArray)++s++⟨#[32]⟩).data.toList=bb at h9 ⊢
     simp[kw150]at h9
     rw[call_eq (by decide) (by simp)]
     simp[-beq_iff_eq,-ByteArray.size_append,Tryz.func150,Tryz.f150,envOf,ex_loop,firstReg,c1,c2,hx,hb,h1,g1,z1,z2,h9,leave_pure]
    ·refine go false ?_ (by rw[nameB,hpre,hl,hall];rfl)
     rw[call_eq (by decide) (by simp)]
     simp[-beq_iff_eq,Tryz.func150,Tryz.f150,envOf,ex_loop,firstReg,c1,c2,hx,hb,h1,leave_pure]
end T
end
section
open Go Go.Proofs Go.Sym
namespace T
attribute [-simp] getElem?_pos
def nmdB (s:ByteArray) (l:List ByteArray):Bool:=nameB s&& !memS l s
theorem ic134 (s:ByteArray) (l:List ByteArray) (hl:l.length≤1073741823):icall X (call X) 134 [.str s,.lst (szOf 1 (l.map strC)) (l.map strC) .no]=some (.ret (.bool (nmdB s l))):=by
 have go:∀b,call X 134 [.str s,.lst (szOf 1 (l.map strC)) (l.map strC) .no] [] []=some (.ret (.bool b),[],[])→nmdB s l=b→icall X (call X) 134 [.str s,.lst (szOf 1 (l.map strC)) (l.map strC) .no]=some (.ret (.bool (nmdB s l))):=fun b h e=>by rw[e];exact icall_ret (v:=.bool b) (H:=[]) (K:=[]) (by simp) (by simp) h rfl rfl rfl
 have h1:=ic150 s
 have h2:=ic151 l hl s
 cases hv:nameB s with
 |false=>
  rw[hv]at h1
  refine go false ?_ (by simp[nmdB,hv])
  rw[call_eq (by decide) (by simp)]
  simp[Tryz.func134,Tryz.f134,envOf,h1,leave_pure]
 |true=>
  rw[hv]at h1
  refine go (!memS l s) ?_ (by simp[nmdB,hv])
  rw[call_eq (by decide) (by simp)]
  simp[Tryz.func134,Tryz.f134,envOf,h1,h2,leave_pure]
def Stm.name:Stm→ByteArray | .mk _ n _ _ _ _ _ _ _ _ _ _ _=>n
def arrN (nm:ByteArray) (l:List Arr):Bool:= !l.all (fun a=> !eqS a.name nm)
def arrB (s:Stm) (l:List Arr):Bool:=arrN s.name l
section
variable (G:List Blk) (K:List Nat) (b:Nat) (s:Stm) (hb:G[b]? =some ⟨19,[s.cs],.box⟩)
include hb
theorem e201 (a:Arr):call X 201 [.agg a.cs,.ptr b 0 0] G K=some (.ret (.bool (eqS a.name s.name)),G,K):=by
 obtain⟨kind,name,low,high,step,mark,dim,pieces,tA,tS,val,body,els⟩:=s
 obtain⟨op,k,L,rA,subs,args⟩:=val
 have hlt:b < G.length:=(List.getElem?_eq_some_iff.1 hb).1
 simp at hb
 show _=some (Res.ret (.bool (a.name.toList==name.toList)),G,K)
 rw[call_eq (by decide) (by simp)]
 simp[-beq_iff_eq,Tryz.func201,Tryz.f201,envOf,hb,hlt,List.getElem?_append_left,app_new0,leave_pure]
def S206 (l:List Arr) (i:Nat) (_:Unit):St:=⟨[(0,lst 2 (l.map Arr.cs)),(1,.fn 201 [.ptr b 0 0]),(7,.int .i64 l.length),(8,.int .i64 i)],G,K,G.length⟩
theorem e206 (l:List Arr) (hl:l.length≤1073741823):∃n,call X 206 [lst 2 (l.map Arr.cs),.fn 201 [.ptr b 0 0]] G K=some (.ret (.int .i64 n),G,K)∧decide (0≤n)=arrB s l:=by
 have hlt:b < G.length:=(List.getElem?_eq_some_iff.1 hb).1
 have hG:G≠[]:=by rintro rfl;simp at hb
 have hloop:∃o,(∀ s,s.gc [0,1,7,8] G.length K.length=S206 G K b l 0 ()→loopE X 206 lb206_2 (St.gc [0,1,7,8] G.length K.length) s=some o)∧((l.all (fun a=> !eqS a.name s.name)=true∧∃e,o= .exit 0 ⟨e,G,K,G.length⟩)∨(l.all (fun a=> !eqS a.name s.name)=false∧∃(e:_) (n:Nat),o= .ret ⟨(4,.int .i64 n)::e,G,K,G.length⟩)):=by
  refine loop_all l (fun i=>S206 G K b l i ()) (fun a=> !eqS a.name s.name) _ _ (by simp[lb206_2,Tryz.f206,S206,stops]) (fun i x hc hi=>?_)
  have hw:=wrap_nat i (by omega)
  have hy:=e201 G K b s hb x
  simp at hy
  cases hv:eqS x.name s.name with
  |true=>
   rw[hv]at hy
   refine⟨fun h=>by simp at h,fun _=>?_⟩
   simp[lb206_2,Tryz.f206,S206,hi,hc,hy,stops,hlt,hb]
  |false=>
   rw[hv]at hy
   refine⟨fun _=>?_,fun h=>by simp at h⟩
   simp[lb206_2,Tryz.f206,S206,hi,hw,hc,hy,hlt,hb,gc_own0' _ _ hG]
 obtain⟨o,h1,h2⟩:=hloop
 simp only[lb206_2,Tryz.f206,S206,bodyOf_some,sub_seq0,sub_seq1,sub_block,sub_loop,sub_nil]at h1
 simp at h1
 unfold arrB arrN
 rcases h2 with⟨hv,e,rfl⟩ |⟨hv,e,n,rfl⟩
 ·refine⟨-1,?_,by rw[hv];rfl⟩
  rw[call_eq (by decide) (by simp)]
  simp[Tryz.func206,Tryz.f206,envOf,ex_loop,firstReg,h1,hlt,hb,gc_own0' _ _ hG,leave_pure]
 ·refine⟨n,?_,by rw[hv];simp⟩
  rw[call_eq (by decide) (by simp)]
  simp[Tryz.func206,Tryz.f206,envOf,ex_loop,firstReg,h1,hlt,hb,gc_own0' _ _ hG,leave_pure]
theorem e200 (l:List Arr) (hl:l.length≤1073741823):call X 200 [lst 2 (l.map Arr.cs),.fn 201 [.ptr b 0 0]] G K=some (.ret (.bool (arrB s l)),G,K):=by
 have hlt:b < G.length:=(List.getElem?_eq_some_iff.1 hb).1
 obtain⟨n,hn,hd⟩:=e206 G K b s hb l hl
 simp at hn
 rw[←hd]
 rw[call_eq (by decide) (by simp)]
 simp[Tryz.func200,Tryz.f200,envOf,hn,hb,leave_pure]
end
end T
end
section
open Go Go.Proofs Go.Sym
namespace T
attribute [-simp] getElem?_pos
def ckB (t:PT) (n:Int):Blk:=⟨4,[[lst 1 (t.ps.map strC),lst 2 (t.arrs.map Arr.cs),lst 19 (t.body.map Stm.cs),.int .i64 n]],.box⟩
theorem ckB_def (t:PT) (n:Int):ckB t n=⟨4,[[lst 1 (t.ps.map strC),lst 2 (t.arrs.map Arr.cs),lst 19 (t.body.map Stm.cs),.int .i64 n]],.box⟩:=Eq.trans rfl rfl
def Nds (b:Bool) (x:Option (Res×List Blk×List Nat)) (G:List Blk) (K:List Nat):Prop:=(x=some (.ret (.tup []),G,K)∧b=true)∨(x=some (.panic (.iface 163 (.agg [])),G,K)∧b=false)
def celB (t:PT) (n:Int) (A:Int) (subs:List Lin):Bool:=decide (0≤A)&&(match t.arrs[A.toNat]? with |some x=>decide (subs.length=x.sizes.length) |none=>false)&&subs.all (over n)
section
variable (G:List Blk) (K:List Nat) (c:Nat) (t:PT) (k:Int) (hb:G[c]? =some (ckB t k)) (A:Int) (subs:List Lin) (n:Int)
def refB (A:Int) (subs:List Lin):Blk:=⟨2,[[.int .i64 A,lst 2 (subs.map Lin.cs)]],.box⟩
def S214 (i:Nat):St:=⟨[(2,.int .i64 n),(41,lst 2 (subs.map Lin.cs)),(42,.int .i64 subs.length),(43,.int .i64 i)],G++[refB A subs],K,G.length⟩
include hb
theorem loop214 (hs:okLins subs):∃o,(∀ s,s.gc [2,41,42,43] (G.length+1) K.length=S214 G K A subs n 0→loopE X 214 lb214_3 (St.gc [2,41,42,43] (G.length+1) K.length) s=some o)∧
  ((subs.all (over n)=true∧∃e,o= .exit 0 ⟨e,G++[refB A subs],K,G.length⟩)∨(subs.all (over n)=false∧∃e r,o= .panic (.iface 163 (.agg [])) ⟨e,G++r,K,G.length⟩)):=by
 have hG:G≠[]:=by rintro rfl;simp at hb
 refine loop_all subs (S214 G K A subs n) (over n) _ _ (by simp[lb214_3,Tryz.f214,S214,refB,stops]) (fun i x hc hi=>?_)
 have hw:=wrap_nat i (by have:=hs.1;omega)
 have h135:=ic135 x (hs.2 _ (List.mem_of_getElem? hc)) n
 cases hx:over n x with
 |true=>
  rw[hx]at h135
  refine⟨fun _=>?_,fun h=>by simp at h⟩
  simp[lb214_3,Tryz.f214,S214,refB,hi,hw,hc,h135,app_new0,app_new1,gc_app _ _ _ hG]
 |false=>
  rw[hx]at h135
  refine⟨fun h=>by simp at h,fun _=>?_⟩
  simp[lb214_3,Tryz.f214,S214,refB,hi,hc,h135,app_new0,app_new1,stops]
theorem e214 (hs:okLins subs):Nds (celB t n A subs) (call X 214 [.ptr c 0 0,.agg [.int .i64 A,lst 2 (subs.map Lin.cs)],.int .i64 n] G K) G K:=by
 have hlt:c < G.length:=(List.getElem?_eq_some_iff.1 hb).1
 have hG:G≠[]:=by rintro rfl;simp at hb
 obtain⟨o,h1,h2⟩:=loop214 G K c t k hb A subs n hs
 simp only[ckB_def]at hb
 simp only[lb214_3,Tryz.f214,S214,refB,bodyOf_some,sub_seq0,sub_seq1,sub_block,sub_loop,sub_nil]at h1
 simp at h1
 by_cases c1:0≤A
 ·obtain⟨a,rfl⟩:∃a:Nat,A=a:=⟨A.toNat,by omega⟩
  by_cases c2:(a:Int) < t.arrs.length
  ·have c2':a < t.arrs.length:=by omega
   have hx:=List.getElem?_eq_getElem c2'
   generalize t.arrs[a]=x at hx
   by_cases c3:subs.length=x.sizes.length
   ·rcases h2 with⟨hv,e,rfl⟩ |⟨hv,e,r,rfl⟩
    ·left
     refine⟨?_,by simp[celB,hx,c3,hv]⟩
     rw[call_eq (by decide) (by simp)]
     simp[Tryz.func214,Tryz.f214,envOf,ex_loop,firstReg,c1,c2,c2',c3,hx,hb,hlt,h1,app_new0,app_new1,List.getElem?_append_left,gc_app _ _ _ hG,leave_pure]
    ·right
     refine⟨?_,by simp[celB,hv]⟩
     rw[call_eq (by decide) (by simp)]
     simp[Tryz.func214,Tryz.f214,envOf,ex_loop,firstReg,c1,c2,c2',c3,hx,hb,hlt,h1,app_new0,app_new1,List.getElem?_append_left,gc_app _ _ _ hG]
   ·right
    refine⟨?_,by simp[celB,hx,c3]⟩
    rw[call_eq (by decide) (by simp)]
    simp[Tryz.func214,Tryz.f214,envOf,c1,c2,c2',c3,hx,hb,hlt,app_new0,app_new1,List.getElem?_append_left]
  ·right
   have c2': ¬a < t.arrs.length:=by omega
   refine⟨?_,by simp[celB,List.getElem?_eq_none (Nat.le_of_not_lt c2')]⟩
   rw[call_eq (by decide) (by simp)]
   simp[Tryz.func214,Tryz.f214,envOf,c1,c2,c2',hb,hlt,app_new0,app_new1,List.getElem?_append_left]
 ·right
  refine⟨?_,by simp[celB,c1]⟩
  rw[call_eq (by decide) (by simp)]
  simp[Tryz.func214,Tryz.f214,envOf,c1,hb,hlt,app_new0,app_new1,List.getElem?_append_left]
end
end T
end
section
open Go Go.Proofs Go.Sym
namespace T
attribute [-simp] getElem?_pos
mutual
def nsz:Ex→Nat
 | .mk _ _ _ _ _ args=>1+nszL args
def nszL:List Ex→Nat
 | []=>0
 |e::r=>nsz e+nszL r
end
theorem app_set0 (H:List Blk) (d:Nat) (x k:Blk) (r:List Blk):(H.set d x++k::r)[H.length]? =some k:=by
 have:=app_new0 (H.set d x) k r
 rwa[List.length_set]at this
theorem app_set1 (H:List Blk) (d:Nat) (x k k':Blk) (r:List Blk):(H.set d x++k::k'::r)[H.length+1]? =some k':=by
 have:=app_new1 (H.set d x) k k' r
 rwa[List.length_set]at this
def cnB (m:Nat):Blk:=⟨1,[[.int .i64 m]],.box⟩
theorem cnB_def (m:Nat):cnB m=⟨1,[[.int .i64 m]],.box⟩:=Eq.trans rfl rfl
def exB (op k:Int) (L:Lin) (rA:Int) (subs:List Lin) (args:List Ex):Blk:=⟨7,[Ex.cs (.mk op k L rA subs args)],.box⟩
mutual
def nodB (t:PT) (n:Int):Ex→Bool
 | .mk op k L A subs args=>if op=0 then decide (-2147483648≤k)&&decide (k < 2147483648)&&plainLin L&&plainRef A subs&&decide (args.length=0)
  else if op=1 then decide (k=0)&&over n L&&plainRef A subs&&decide (args.length=0)
  else if op=2 then decide (k=0)&&plainLin L&&celB t n A subs&&decide (args.length=0)
  else decide (0≤op)&&decide (op≤7)&&decide (k=0)&&plainLin L&&plainRef A subs&&decide (args.length=2)&&nodBL t n args
def nodBL (t:PT) (n:Int):List Ex→Bool
 | []=>true
 |e::r=>nodB t n e&&nodBL t n r
end
def NdC (x:Option (Res×List Blk×List Nat)) (G:List Blk) (K:List Nat) (d m:Nat) (b:Bool):Prop:=
 (x=some (.ret (.tup []),G.set d (cnB m),K)∧m≤64∧b=true)∨∃m',x=some (.panic (.iface 163 (.agg [])),G.set d (cnB m'),K)∧¬(m≤64∧b=true)
theorem e215 (c d:Nat) (hcd:c≠d) (t:PT) (k:Int) (n:Int) (K:List Nat) {e:Ex} (he:OkEx e):∀(G:List Blk) (m:Nat),m≤64→G[c]? =some (ckB t k)→G[d]? =some (cnB m)→
  NdC (call X 215 [.ptr c 0 0,.agg e.cs,.int .i64 n,.ptr d 0 0] G K) G K d (m+nsz e) (nodB t n e):=by
 induction he with
 | @mk op k1 L rA subs args hL hs ha hargs ih=>
 intro G m hm hb hd
 have hlc:c < G.length:=(List.getElem?_eq_some_iff.1 hb).1
 have hld:d < G.length:=(List.getElem?_eq_some_iff.1 hd).1
 have hdc:d≠c:=fun e=>hcd e.symm
 have hw:=wrap_nat m (by omega)
 have hb0:=hb
 simp only[ckB_def]at hb
 simp only[cnB_def]at hd
 have h207:=ic207 L
 have h204:=ic204 rA subs
 have h135:=ic135 L hL n
 by_cases c1:(m:Int)+1≤64
 ·by_cases c2:0≤op
  ·by_cases c3:op≤7
   ·skip
    by_cases o0:op=0
    ·subst o0
     by_cases cl:plainLin L=true
     ·skip
      by_cases cr:plainRef rA subs=true
      ·skip
       by_cases ca: -2147483648≤k1
       ·skip
        by_cases cb:k1 < 2147483648
        ·skip
         rcases args with _ |⟨a1,r⟩
         ·skip
          left
          refine⟨?_,by simp[nsz,nszL];omega,by simp[nodB,c1,cl,cr,ca,cb]⟩
          rw[call_eq (by decide) (by simp)]
          simp[Tryz.func215,Tryz.f215,envOf,hb,hd,hlc,hld,hdc,hw,cnB,List.set_append_left,List.getElem?_append_left,app_new0,app_set0,h207,h204,c1,cl,cr,ca,cb,nsz,nszL,leave_pure]
         ·have hz: ¬((r.length:Int)+1=0):=by omega
          right
          refine⟨m+1,?_,fun hq=>by simp[nodB,c1,cl,cr,ca,cb]at hq⟩
          rw[call_eq (by decide) (by simp)]
          simp[Tryz.func215,Tryz.f215,envOf,hb,hd,hlc,hld,hdc,hw,cnB,List.set_append_left,List.getElem?_append_left,app_new0,app_set0,h207,h204,c1,cl,cr,ca,cb,hz]
        ·right
         refine⟨m+1,?_,fun hq=>by simp[nodB,c1,cl,cr,ca,cb]at hq⟩
         rw[call_eq (by decide) (by simp)]
         simp[Tryz.func215,Tryz.f215,envOf,hb,hd,hlc,hld,hdc,hw,cnB,List.set_append_left,List.getElem?_append_left,app_new0,app_set0,h207,h204,c1,cl,cr,ca,cb]
       ·right
        refine⟨m+1,?_,fun hq=>by simp[nodB,c1,cl,cr,ca]at hq⟩
        rw[call_eq (by decide) (by simp)]
        simp[Tryz.func215,Tryz.f215,envOf,hb,hd,hlc,hld,hdc,hw,cnB,List.set_append_left,List.getElem?_append_left,app_new0,app_set0,h207,h204,c1,cl,cr,ca]
      ·right
       refine⟨m+1,?_,fun hq=>by simp[nodB,c1,cl,cr]at hq⟩
       rw[call_eq (by decide) (by simp)]
       simp[Tryz.func215,Tryz.f215,envOf,hb,hd,hlc,hld,hdc,hw,cnB,List.set_append_left,List.getElem?_append_left,app_new0,app_set0,h207,h204,c1,cl,cr]
     ·right
      refine⟨m+1,?_,fun hq=>by simp[nodB,c1,cl]at hq⟩
      rw[call_eq (by decide) (by simp)]
      simp[Tryz.func215,Tryz.f215,envOf,hb,hd,hlc,hld,hdc,hw,cnB,List.set_append_left,List.getElem?_append_left,app_new0,app_set0,h207,h204,c1,cl]
    by_cases o1:op=1
    ·subst o1
     by_cases ck:k1=0
     ·subst ck
      by_cases cr:plainRef rA subs=true
      ·skip
       by_cases co:over n L=true
       ·skip
        rcases args with _ |⟨a1,r⟩
        ·skip
         left
         refine⟨?_,by simp[nsz,nszL];omega,by simp[nodB,c1,cr,co]⟩
         rw[call_eq (by decide) (by simp)]
         simp[Tryz.func215,Tryz.f215,envOf,hb,hd,hlc,hld,hdc,hw,cnB,List.set_append_left,List.getElem?_append_left,app_new0,app_set0,h207,h204,c1,cr,co,h135,nsz,nszL,leave_pure]
        ·have hz: ¬((r.length:Int)+1=0):=by omega
         right
         refine⟨m+1,?_,fun hq=>by simp[nodB,c1,cr,co]at hq⟩
         rw[call_eq (by decide) (by simp)]
         simp[Tryz.func215,Tryz.f215,envOf,hb,hd,hlc,hld,hdc,hw,cnB,List.set_append_left,List.getElem?_append_left,app_new0,app_set0,h207,h204,c1,cr,co,h135,hz]
       ·right
        refine⟨m+1,?_,fun hq=>by simp[nodB,c1,cr,co]at hq⟩
        rw[call_eq (by decide) (by simp)]
        simp[Tryz.func215,Tryz.f215,envOf,hb,hd,hlc,hld,hdc,hw,cnB,List.set_append_left,List.getElem?_append_left,app_new0,app_set0,h207,h204,c1,cr,co,h135]
      ·right
       refine⟨m+1,?_,fun hq=>by simp[nodB,c1,cr]at hq⟩
       rw[call_eq (by decide) (by simp)]
       simp[Tryz.func215,Tryz.f215,envOf,hb,hd,hlc,hld,hdc,hw,cnB,List.set_append_left,List.getElem?_append_left,app_new0,app_set0,h207,h204,c1,cr]
     ·right
      refine⟨m+1,?_,fun hq=>by simp[nodB,c1,ck]at hq⟩
      rw[call_eq (by decide) (by simp)]
      simp[Tryz.func215,Tryz.f215,envOf,hb,hd,hlc,hld,hdc,hw,cnB,List.set_append_left,List.getElem?_append_left,app_new0,app_set0,h207,h204,c1,ck]
    by_cases o2:op=2
    ·subst o2
     by_cases ck:k1=0
     ·subst ck
      by_cases cl:plainLin L=true
      ·skip
       rcases args with _ |⟨a1,r⟩
       ·skip
        have h14:=e214 (G.set d (cnB (m+1))++[exB 2 0 L rA subs []]) K c t k (by simp[List.getElem?_append_left,hlc,hdc,hb,ckB]) rA subs n hs
        simp[exB,cnB]at h14
        rcases h14 with⟨h14,hv⟩ |⟨h14,hv⟩
        ·left
         refine⟨?_,by simp[nsz,nszL];omega,by simp[nodB,c1,cl,hv]⟩
         rw[call_eq (by decide) (by simp)]
         simp[Tryz.func215,Tryz.f215,envOf,hb,hd,hlc,hld,hdc,hw,cnB,List.set_append_left,List.getElem?_append_left,app_new0,app_set0,h207,h204,c1,cl,nsz,nszL,h14,leave_pure]
        ·right
         refine⟨m+1,?_,fun hq=>by simp[nodB,c1,cl,hv]at hq⟩
         rw[call_eq (by decide) (by simp)]
         simp[Tryz.func215,Tryz.f215,envOf,hb,hd,hlc,hld,hdc,hw,cnB,List.set_append_left,List.getElem?_append_left,app_new0,app_set0,h207,h204,c1,cl,h14]
       ·have hz: ¬((r.length:Int)+1=0):=by omega
        right
        refine⟨m+1,?_,fun hq=>by simp[nodB,c1,cl]at hq⟩
        rw[call_eq (by decide) (by simp)]
        simp[Tryz.func215,Tryz.f215,envOf,hb,hd,hlc,hld,hdc,hw,cnB,List.set_append_left,List.getElem?_append_left,app_new0,app_set0,h207,h204,c1,cl,hz]
      ·right
       refine⟨m+1,?_,fun hq=>by simp[nodB,c1,cl]at hq⟩
       rw[call_eq (by decide) (by simp)]
       simp[Tryz.func215,Tryz.f215,envOf,hb,hd,hlc,hld,hdc,hw,cnB,List.set_append_left,List.getElem?_append_left,app_new0,app_set0,h207,h204,c1,cl]
     ·right
      refine⟨m+1,?_,fun hq=>by simp[nodB,c1,ck]at hq⟩
      rw[call_eq (by decide) (by simp)]
      simp[Tryz.func215,Tryz.f215,envOf,hb,hd,hlc,hld,hdc,hw,cnB,List.set_append_left,List.getElem?_append_left,app_new0,app_set0,h207,h204,c1,ck]
    by_cases ck:k1=0
    ·subst ck
     by_cases cl:plainLin L=true
     ·skip
      by_cases cr:plainRef rA subs=true
      ·skip
       rcases args with _ |⟨a1,_ |⟨a2,_ |⟨a3,r⟩⟩⟩
       ·right
        refine⟨m+1,?_,fun hq=>by simp[nodB,c1,c2,c3,o0,o1,o2,cl,cr]at hq⟩
        rw[call_eq (by decide) (by simp)]
        simp[Tryz.func215,Tryz.f215,envOf,hb,hd,hlc,hld,hdc,hw,cnB,List.set_append_left,List.getElem?_append_left,app_new0,app_set0,h207,h204,c1,c2,c3,o0,o1,o2,cl,cr]
       ·right
        refine⟨m+1,?_,fun hq=>by simp[nodB,c1,c2,c3,o0,o1,o2,cl,cr]at hq⟩
        rw[call_eq (by decide) (by simp)]
        simp[Tryz.func215,Tryz.f215,envOf,hb,hd,hlc,hld,hdc,hw,cnB,List.set_append_left,List.getElem?_append_left,app_new0,app_set0,h207,h204,c1,c2,c3,o0,o1,o2,cl,cr]
       ·have i1:=ih a1 (by simp) (G.set d (cnB (m+1))++[exB op 0 L rA subs [a1,a2]]) (m+1) (by omega) (by simp[List.getElem?_append_left,hlc,hdc,hb,ckB]) (by simp[List.getElem?_append_left,hld])
        have e1:∀q,(G.set d (cnB (m+1))++[exB op 0 L rA subs [a1,a2]]).set d (cnB q)=G.set d (cnB q)++[exB op 0 L rA subs [a1,a2]]:=fun q=>by rw[List.set_append_left _ _ (by simpa using hld),List.set_set]
        have i2:=fun hm2=>ih a2 (by simp) (G.set d (cnB (m+1+nsz a1))++[exB op 0 L rA subs [a1,a2]]) (m+1+nsz a1) hm2 (by simp[List.getElem?_append_left,hlc,hdc,hb,ckB]) (by simp[List.getElem?_append_left,hld])
        have e2:∀q,(G.set d (cnB (m+1+nsz a1))++[exB op 0 L rA subs [a1,a2]]).set d (cnB q)=G.set d (cnB q)++[exB op 0 L rA subs [a1,a2]]:=fun q=>by rw[List.set_append_left _ _ (by simpa using hld),List.set_set]
        unfold NdC at i1 i2
        simp only[e1]at i1
        simp only[e2]at i2
        have hsz:m+nsz (.mk op 0 L rA subs [a1,a2])=m+1+nsz a1+nsz a2:=by simp[nsz,nszL];omega
        rw[hsz]
        have hnd:nodB t n (.mk op 0 L rA subs [a1,a2])=(nodB t n a1&&nodB t n a2):=by simp[nodB,nodBL,c2,c3,o0,o1,o2,cl,cr]
        rw[hnd]
        obtain⟨p1,p2,p3,p4,p5,p6⟩:=a1
        obtain⟨r1,r2,r3,r4,r5,r6⟩:=a2
        generalize nsz (Ex.mk p1 p2 p3 p4 p5 p6)=z1 at*
        generalize nsz (Ex.mk r1 r2 r3 r4 r5 r6)=z2 at*
        generalize nodB t n (Ex.mk p1 p2 p3 p4 p5 p6)=y1 at*
        generalize nodB t n (Ex.mk r1 r2 r3 r4 r5 r6)=y2 at*
        simp only[cnB,exB,Ex.cs_mk,ints_def,lst_def,Ex.csL_map,List.map_cons,List.map_nil]at i1 i2
        rcases i1 with⟨i1,hm1,hv1⟩ |⟨m1,i1,hv1⟩
        ·rcases i2 hm1 with⟨i2,hm2,hv2⟩ |⟨m2,i2,hv2⟩
         ·left
          refine⟨?_,hm2,by rw[hv1,hv2];rfl⟩
          simp at i1 i2
          rw[call_eq (by decide) (by simp)]
          simp[Tryz.func215,Tryz.f215,envOf,hb,hd,hlc,hld,hdc,hw,cnB,List.set_append_left,List.getElem?_append_left,app_new0,app_set0,h207,h204,c1,c2,c3,o0,o1,o2,cl,cr,i1,i2,leave_pure]
         ·right
          refine⟨m2,?_,fun hq=>hv2 ⟨hq.1,(Bool.and_eq_true _ _ ▸ hq.2).2⟩⟩
          simp at i1 i2
          rw[call_eq (by decide) (by simp)]
          simp[Tryz.func215,Tryz.f215,envOf,hb,hd,hlc,hld,hdc,hw,cnB,List.set_append_left,List.getElem?_append_left,app_new0,app_set0,h207,h204,c1,c2,c3,o0,o1,o2,cl,cr,i1,i2]
        ·right
         refine⟨m1,?_,fun hq=>hv1 ⟨by have:=hq.1;omega,(Bool.and_eq_true _ _ ▸ hq.2).1⟩⟩
         simp at i1
         rw[call_eq (by decide) (by simp)]
         simp[Tryz.func215,Tryz.f215,envOf,hb,hd,hlc,hld,hdc,hw,cnB,List.set_append_left,List.getElem?_append_left,app_new0,app_set0,h207,h204,c1,c2,c3,o0,o1,o2,cl,cr,i1]
       ·have hz: ¬((r.length:Int)+1+1+1=2):=by omega
        right
        refine⟨m+1,?_,fun hq=>by simp[nodB,c1,c2,c3,o0,o1,o2,cl,cr]at hq⟩
        rw[call_eq (by decide) (by simp)]
        simp[Tryz.func215,Tryz.f215,envOf,hb,hd,hlc,hld,hdc,hw,cnB,List.set_append_left,List.getElem?_append_left,app_new0,app_set0,h207,h204,c1,c2,c3,o0,o1,o2,cl,cr,hz]
      ·right
       refine⟨m+1,?_,fun hq=>by simp[nodB,c1,c2,c3,o0,o1,o2,cl,cr]at hq⟩
       rw[call_eq (by decide) (by simp)]
       simp[Tryz.func215,Tryz.f215,envOf,hb,hd,hlc,hld,hdc,hw,cnB,List.set_append_left,List.getElem?_append_left,app_new0,app_set0,h207,h204,c1,c2,c3,o0,o1,o2,cl,cr]
     ·right
      refine⟨m+1,?_,fun hq=>by simp[nodB,c1,c2,c3,o0,o1,o2,cl]at hq⟩
      rw[call_eq (by decide) (by simp)]
      simp[Tryz.func215,Tryz.f215,envOf,hb,hd,hlc,hld,hdc,hw,cnB,List.set_append_left,List.getElem?_append_left,app_new0,app_set0,h207,h204,c1,c2,c3,o0,o1,o2,cl]
    ·right
     refine⟨m+1,?_,fun hq=>by simp[nodB,c1,c2,c3,o0,o1,o2,ck]at hq⟩
     rw[call_eq (by decide) (by simp)]
     simp[Tryz.func215,Tryz.f215,envOf,hb,hd,hlc,hld,hdc,hw,cnB,List.set_append_left,List.getElem?_append_left,app_new0,app_set0,h207,h204,c1,c2,c3,o0,o1,o2,ck]
   ·right
    have z0: ¬op=0:=by omega
    have z1: ¬op=1:=by omega
    have z2: ¬op=2:=by omega
    refine⟨m+1,?_,fun hq=>by simp[nodB,z0,z1,z2,c3]at hq⟩
    rw[call_eq (by decide) (by simp)]
    simp[Tryz.func215,Tryz.f215,envOf,hb,hd,hlc,hld,hw,c1,c2,c3,cnB,List.set_append_left,List.getElem?_append_left,app_new0,app_set0]
  ·right
   have z0: ¬op=0:=by omega
   have z1: ¬op=1:=by omega
   have z2: ¬op=2:=by omega
   refine⟨m+1,?_,fun hq=>by simp[nodB,z0,z1,z2,c2]at hq⟩
   rw[call_eq (by decide) (by simp)]
   simp[Tryz.func215,Tryz.f215,envOf,hb,hd,hlc,hld,hw,c1,c2,cnB,List.set_append_left,List.getElem?_append_left,app_new0,app_set0]
 ·right
  refine⟨m+1,?_,fun hq=>by have:=hq.1;simp only[nsz]at this;omega⟩
  rw[call_eq (by decide) (by simp)]
  simp[Tryz.func215,Tryz.f215,envOf,hb,hd,hlc,hld,hw,c1,cnB,List.set_append_left,List.getElem?_append_left,app_new0,app_set0]
end T
end
section
open Go Go.Proofs Go.Sym
namespace T
attribute [-simp] getElem?_pos
theorem fz_any (H:Nat→Option Blk) (a:Nat) (b:List (List AV)) (c:Cap) (h:c≠ .bor):freeze H (.lst a b c)= .lst (szOf a b) b .no:=by cases c <;> first |rfl |exact absurd rfl h
def Stm.val:Stm→Ex | .mk _ _ _ _ _ _ _ _ _ _ v _ _=>v
theorem set_new2 (H:List Blk) (a b c x:Blk):(H++[a,b,c]).set (H.length+2) x=H++[a,b,x]:=by
 rw[List.set_append_right _ _ (by omega)]
 simp
theorem app_new2 (H:List Blk) (a b c:Blk) (r:List Blk):(H++a::b::c::r)[H.length+2]? =some c:=by
 rw[List.getElem?_append_right (by omega),Nat.add_sub_cancel_left]
 rfl
def asgB (t:PT) (n:Int):Stm→Bool
 | .mk kind name low high step mark dim pieces tA tS val body els=>blankB (.mk kind name low high step mark dim pieces tA tS val body els)&&unset dim pieces&&decide (body.length=0)&&decide (els.length=0)&&celB t n tA tS&&decide (nsz val≤64)&&nodB t n val
theorem e213 (G:List Blk) (K:List Nat) (c:Nat) (t:PT) (k:Int) (hb:G[c]? =some (ckB t k)) (l:List ByteArray) (z:Nat) (cp:Cap) (s:Stm) (hs:OkStm s):
  Nds (asgB t l.length s) (call X 213 [.agg s.cs,.ptr c 0 0,.lst z (l.map strC) cp] G K) G K:=by
 have h209:=ic209 s
 cases hs with
 | @mk kind name low high step mark dim pieces tA tS val body els hname hlow hhigh hpie htS hval hbl hel hbody hels=>
 have hlc:c < G.length:=(List.getElem?_eq_some_iff.1 hb).1
 have h203:=ic203 dim pieces
 have h14:=e214 (G++[⟨19,[Stm.cs (.mk kind name low high step mark dim pieces tA tS val body els)],.box⟩,⟨19,[Stm.cs (.mk kind name low high step mark dim pieces tA tS val body els)],.box⟩]) K c t k (by rw[List.getElem?_append_left hlc,hb]) tA tS l.length htS
 have h15:=e215 c (G.length+2) (by omega) t k l.length K hval (G++[⟨19,[Stm.cs (.mk kind name low high step mark dim pieces tA tS val body els)],.box⟩,⟨19,[Stm.cs (.mk kind name low high step mark dim pieces tA tS val body els)],.box⟩,cnB 0]) 0 (by omega)
  (by rw[List.getElem?_append_left hlc,hb]) (app_new2 _ _ _ _ _)
 unfold NdC at h15
 unfold Nds at h14
 simp only[set_new2]at h15
 rw[Nat.zero_add]at h15
 simp only[asgB]
 unfold Nds
 generalize hz:nsz val=zz at*
 generalize hbb:blankB (.mk kind name low high step mark dim pieces tA tS val body els)=b9 at*
 generalize nodB t l.length val=bn at*
 obtain⟨op,k1,L,rA,subs,args⟩:=val
 simp only[ckB_def]at hb
 simp only[Stm.cs_mk,cnB,Ex.cs_mk,ints_def,lst_def,tabV_def,int_def]at h14 h15 h209
 cases b9 with
 |false=>
  right
  refine⟨?_,by simp⟩
  rw[call_eq (by decide) (by simp)]
  simp[Tryz.func213,Tryz.f213,envOf,hb,hlc,h209,List.getElem?_append_left,app_new0,app_new1]
 |true=>
  by_cases c1:unset dim pieces=true
  ·by_cases c2:body=[]
   ·subst c2
    simp at h209
    by_cases c3:els=[]
    ·subst c3
     simp at h209
     rcases h14 with⟨h14,v14⟩ |⟨h14,v14⟩
     ·rcases h15 with⟨h15,hz,v15⟩ |⟨m,h15,v15⟩
      ·left
       refine⟨?_,by simp[c1,v14,hz,v15]⟩
       simp at h14 h15
       rw[call_eq (by decide) (by simp)]
       simp[Tryz.func213,Tryz.f213,envOf,hb,hlc,h209,h203,c1,h14,h15,List.getElem?_append_left,app_new0,app_new1,app_new2,set_new2,leave_pure]
      ·right
       refine⟨?_,by simp at v15;simp[c1,v14];exact v15⟩
       simp at h14 h15
       rw[call_eq (by decide) (by simp)]
       simp[Tryz.func213,Tryz.f213,envOf,hb,hlc,h209,h203,c1,h14,h15,List.getElem?_append_left,app_new0,app_new1,app_new2,set_new2]
     ·right
      refine⟨?_,by simp[v14]⟩
      simp at h14
      rw[call_eq (by decide) (by simp)]
      simp[Tryz.func213,Tryz.f213,envOf,hb,hlc,h209,h203,c1,h14,List.getElem?_append_left,app_new0,app_new1,app_new2,set_new2]
    ·right
     refine⟨?_,by simp[c3]⟩
     rw[call_eq (by decide) (by simp)]
     simp[Tryz.func213,Tryz.f213,envOf,hb,hlc,h209,h203,c1,c3,List.getElem?_append_left,app_new0,app_new1]
   ·right
    refine⟨?_,by simp[c2]⟩
    rw[call_eq (by decide) (by simp)]
    simp[Tryz.func213,Tryz.f213,envOf,hb,hlc,h209,h203,c1,c2,List.getElem?_append_left,app_new0,app_new1]
  ·right
   refine⟨?_,by simp[c1]⟩
   rw[call_eq (by decide) (by simp)]
   simp[Tryz.func213,Tryz.f213,envOf,hb,hlc,h209,h203,c1,List.getElem?_append_left,app_new0,app_new1]
end T
end
section
open Go Go.Proofs Go.Sym
namespace T
attribute [-simp] getElem?_pos
mutual
def ssz:Stm→Nat
 | .mk _ _ _ _ _ _ _ _ _ _ _ body els=>1+sszL body+sszL els
def sszL:List Stm→Nat
 | []=>0
 |e::r=>ssz e+sszL r
end
inductive GoodS (t:PT):List ByteArray→Stm→Prop
 |loop {l name low high step mark dim pieces tA tS val body}:l.length≤t.ps.length+10→nmdB name l=true→arrN name t.arrs=false→bndB l.length low=true→bndB l.length high=true→1≤step→step≤64→0≤mark→mark≤2→
  (step=1∨∃r,low=[[r]]∧r.D=1)→unset dim pieces=true→plainRef tA tS=true→plainEx val=true→(∀ s ∈ body,GoodS t (l++[name]) s)→GoodS t l (.mk 1 name low high step mark dim pieces tA tS val body [])
 |test {l name low high step mark dim pieces tA tS val body els}:l.length≤t.ps.length+10→blankB (.mk 2 name low high step mark dim pieces tA tS val body els)=true→plainRef tA tS=true→plainEx val=true→setB dim pieces=true→dim=l.length→
  (∀ s ∈ body,GoodS t l s)→(∀ s ∈ els,GoodS t l s)→GoodS t l (.mk 2 name low high step mark dim pieces tA tS val body els)
 |asg {l name low high step mark dim pieces tA tS val body els}:l.length≤t.ps.length+10→asgB t l.length (.mk 3 name low high step mark dim pieces tA tS val body els)=true→GoodS t l (.mk 3 name low high step mark dim pieces tA tS val body els)
theorem GoodS.kind {t:PT} {l:List ByteArray} {s:Stm} (h:GoodS t l s):okK s.kind=true∧l.length≤t.ps.length+10:=by
 cases h with
 |loop h=>exact⟨rfl,h⟩
 |test h=>exact⟨rfl,h⟩
 |asg h=>exact⟨rfl,h⟩
def Stm.inner:Stm→Nat | .mk _ _ _ _ _ _ _ _ _ _ _ body els=>sszL body+sszL els
def OutC (q:Option (Res×List Blk×List Nat)) (G:List Blk) (K:List Nat) (c:Nat) (t:PT) (k:Nat) (fact:Prop):Prop:=
 (∃ K',q=some (.ret (.tup []),G.set c (ckB t k),K++K')∧fact)∨∃(k2:Nat) (K':List Nat),q=some (.panic (.iface 163 (.agg [])),G.set c (ckB t k2),K++K')∧¬fact
def mfn (s:Stm):Nat:=if s.kind=1 then 199 else if s.kind=2 then 208 else 213
theorem mAt (s:Stm) (h:okK s.kind=true):methodAt Tryz.prog (kindV s.kind) "headland/lang.check" =some (mfn s):=by
 simp only[okK,Bool.or_eq_true,decide_eq_true_eq]at h
 unfold kindV mfn
 rcases h with(h |h) |h <;> rw[h]
 ·rw[if_pos rfl,if_pos rfl];kernel_rfl
 ·rw[if_neg (by decide),if_pos rfl,if_neg (by decide),if_pos rfl];kernel_rfl
 ·rw[if_neg (by decide),if_neg (by decide),if_neg (by decide),if_neg (by decide)];kernel_rfl
structure NmOK (K:List Nat) (l:List ByteArray) (z:Nat) (cp:Cap):Prop where
 bor:cp≠ .bor
 sz:szOf z (l.map strC)=szOf 1 (l.map strC)
 tok:∀i,cp= .tok i→i < K.length
theorem NmOK.scrub {K:List Nat} {l:List ByteArray} {z:Nat} {cp:Cap} (h:NmOK K l z cp) (n m:Nat) (hm:K.length≤m):scrub n m (.lst z (l.map strC) cp)= .lst z (l.map strC) cp:=by
 cases cp with
 |tok i=>have:=h.tok i rfl;simp[Sym.scrub];omega
 |_=>rfl
theorem NmOK.mono {K:List Nat} {l:List ByteArray} {z:Nat} {cp:Cap} (h:NmOK K l z cp) (K':List Nat):NmOK (K++K') l z cp:=
 ⟨h.bor,h.sz,fun i hi=>by have:=h.tok i hi;rw[List.length_append];omega⟩
theorem mfn_ok (s:Stm):decide (mfn s < 1000000)=true∧sprimT (mfn s)=none:=by
 unfold mfn
 split
 ·exact⟨rfl,rfl⟩
 ·split <;> exact⟨rfl,rfl⟩
def SpecS (t:PT) (s:Stm):Prop:=∀(G:List Blk) (K:List Nat) (c k:Nat) (l:List ByteArray) (z:Nat) (cp:Cap),k≤256→G[c]? =some (ckB t k)→NmOK K l z cp→l.length≤t.ps.length+10→okK s.kind=true→
 OutC (call X (mfn s) [.agg s.cs,.ptr c 0 0,.lst z (l.map strC) cp] G K) G K c t (k+s.inner) (k+s.inner≤256∧GoodS t l s)
theorem gc_set0 (keep:List Nat) (H:List Blk) (d:Nat) (x:Blk) (r:List Blk) (h:H≠[]) (M:Nat) (e:List (Nat×AV)) (ts:List Nat):St.gc keep H.length M ⟨e,H.set d x++r,ts,H.length⟩=
  ⟨keepEnv H.length ts.length (fun b=>(H.set d x++r)[b]?) e keep,H.set d x,ts,H.length⟩:=by
 have h0:H.set d x≠[]:=by simpa using h
 have:=gc_own0 keep (H.set d x) r h0 M e ts
 rwa[List.length_set]at this
theorem sszL_take_succ:∀(l:List Stm) (i:Nat) (s:Stm),l[i]? =some s→sszL (l.take (i+1))=sszL (l.take i)+ssz s
 | [],_,_,h=>by simp at h
 |a::r,0,s,h=>by cases h;simp[sszL]
 |a::r,i+1,s,h=>by
  have:=sszL_take_succ r i s (by simpa using h)
  simp[sszL,this,Nat.add_assoc]
theorem sszL_take_le:∀(l:List Stm) (i:Nat),sszL (l.take i)≤sszL l
 | [],i=>by simp
 |a::r,0=>by simp[sszL]
 |a::r,i+1=>by
  have:=sszL_take_le r i
  simp only[List.take_succ_cons,sszL]
  omega
section
variable (G:List Blk) (K:List Nat) (c:Nat) (t:PT) (l:List ByteArray) (z:Nat) (cp:Cap) (ss:List Stm)
def S100 (k:Nat) (p:Nat×List Nat):St:=⟨[(0,.ptr c 0 0),(2,.lst z (l.map strC) cp),(24,lst 19 (ss.map Stm.cs)),(25,.int .i64 ss.length),(26,.int .i64 p.1)],G.set c (ckB t (k+sszL (ss.take p.1):Nat)),K++p.2,G.length⟩
theorem loop100 (k:Nat) (hk:k≤256) (hb:G[c]? =some (ckB t k)) (hn:NmOK K l z cp) (hl:l.length≤t.ps.length+10) (hss:ss.length≤1073741823) (hs:∀s ∈ ss,OkStm s∧SpecS t s):
  ∃o,(∀ s,s.gc [0,2,24,25,26] G.length K.length=S100 G K c t l z cp ss k (0,[])→loopE X 100 lb100_2 (St.gc [0,2,24,25,26] G.length K.length) s=some o)∧
  ((∃ e K',o= .exit 0 ⟨e,G.set c (ckB t (k+sszL ss:Nat)),K++K',G.length⟩∧k+sszL ss≤256∧∀s ∈ ss,GoodS t l s)∨∃(e:_) (r:_) (K':_) (k2:Nat),o= .panic (.iface 163 (.agg [])) ⟨e,G.set c (ckB t k2)++r,K++K',G.length⟩∧¬(k+sszL ss≤256∧∀s ∈ ss,GoodS t l s)):=by
 have hlc:c < G.length:=(List.getElem?_eq_some_iff.1 hb).1
 have hG:G≠[]:=by rintro rfl;simp at hb
 obtain⟨Bad,hBad⟩:∃B:Prop,B=(¬(k+sszL ss≤256∧∀s ∈ ss,GoodS t l s)):=⟨_,rfl⟩
 rw[←hBad]
 refine loop_inv (S100 G K c t l z cp ss k) (fun p=>p.1≤ss.length∧k+sszL (ss.take p.1)≤256∧∀s ∈ ss.take p.1,GoodS t l s) (fun p=>ss.length-p.1) _ (fun p hp=>?_) (0,[]) ⟨Nat.zero_le _,by simpa[sszL] using hk,by simp⟩
 obtain⟨i,K1⟩:=p
 obtain⟨hi',hk1,hgood⟩:=hp
 simp only at hi' hk1 hgood
 by_cases hi:i < ss.length
 ·have hx:=List.getElem?_eq_getElem hi
  have hw:=wrap_nat i (by omega)
  have hts:=sszL_take_succ ss i _ hx
  have hmono:=sszL_take_le ss (i+1)
  have hmem:=List.getElem_mem hi
  have htk:ss.take (i+1)=ss.take i++[ss[i]]:=by rw[List.take_add_one,hx];rfl
  obtain⟨hok,hspec⟩:=hs _ (List.getElem_mem hi)
  rw[htk]at hts hmono
  generalize hxx:ss[i]=x at*
  have hzz:ssz x=1+x.inner:=by obtain⟨kind,name,low,high,step,mark,dim,pieces,tA,tS,val,body,els⟩:=x;simp[ssz,Stm.inner,Nat.add_assoc]
  have hm:=mAt x
  obtain⟨hg1,hg2⟩:=mfn_ok x
  have h136:=ic136_ok x
  have h136n:=ic136_no x
  have hsp:=hspec (G.set c (ckB t (k+sszL (ss.take i)+1:Nat))++[⟨19,[x.cs],.box⟩]) (K++K1) c (k+sszL (ss.take i)+1) l z cp
  have hset:∀q,(G.set c (ckB t (k+sszL (ss.take i)+1:Nat))++[(⟨19,[x.cs],.box⟩:Blk)]).set c q=G.set c q++[⟨19,[x.cs],.box⟩]:=fun q=>by rw[List.set_append_left _ _ (by simpa using hlc),List.set_set]
  have hget:(G.set c (ckB t (k+sszL (ss.take i)+1:Nat))++[(⟨19,[x.cs],.box⟩:Blk)])[c]? =some (ckB t (k+sszL (ss.take i)+1:Nat)):=by
   rw[List.getElem?_append_left (by simpa using hlc),List.getElem?_set_self hlc]
  have hsc:=hn.scrub
  have hws:=wrap_nat (k+sszL (ss.take i)) (by omega)
  have hlt2:k+sszL (ss.take i)+1≤257:=by omega
  unfold OutC at hsp
  simp only[hset]at hsp
  generalize mfn x=g at*
  generalize hkk:k+sszL (ss.take i)=kk at*
  have hkk2:k+sszL (ss.take i++[x])=kk+1+x.inner:=by omega
  by_cases c1:(kk:Int)+1≤256
  ·cases hokk:okK x.kind with
   |false=>
    left
    have h136n:=h136n hokk
    have hbad:Bad:=hBad ▸ fun hq=>by
     have:=(hq.2 _ hmem).kind.1
     rw[hokk]at this;cases this
    obtain⟨kind,name,low,high,step,mark,dim,pieces,tA,tS,val,body,els⟩:=x
    obtain⟨op,k1,L,rA,subs,args⟩:=val
    simp at h136n
    simp[lb100_2,Tryz.f100,S100,ckB,hi,hlc,hx,hws,hkk,c1,h136n,stops,hbad,List.set_append_left,List.getElem?_append_left,app_new0,app_set0]
    exact⟨_,kk+1,rfl⟩
   |true=>
    have h136:=h136 hokk
    have hm:=hm hokk
    have hsp:=hsp (by omega) hget (hn.mono K1) hl hokk
    have hkv:∀a,freeze a (.lst z (l.map strC) cp)= .lst (szOf 1 (l.map strC)) (l.map strC) .no:=fun a=>by rw[fz_any _ _ _ _ hn.bor,hn.sz]
    rcases hsp with⟨K2,hsp,hle,hgs⟩ |⟨k2,K2,hsp,hnf⟩
    ·right
     have hgood':∀s ∈ ss.take i++[x],GoodS t l s:=fun s h=>by
      rcases List.mem_append.1 h with h |h
      ·exact hgood s h
      ·rw[List.mem_singleton.1 h];exact hgs
     obtain⟨kind,name,low,high,step,mark,dim,pieces,tA,tS,val,body,els⟩:=x
     obtain⟨op,k1,L,rA,subs,args⟩:=val
     generalize Stm.inner (Stm.mk kind name low high step mark dim pieces tA tS (Ex.mk op k1 L rA subs args) body els)=inn at*
     have hk2':(Stm.mk kind name low high step mark dim pieces tA tS (Ex.mk op k1 L rA subs args) body els).kind=kind:=rfl
     rw[hk2']at h136 hm
     simp[ckB]at h136 hsp
     simp[lb100_2,Tryz.f100,S100,ckB,hi,hw,hlc,hx,hws,hkk,c1,h136,hm,hg1,hg2,hsp,hsc,hkv,gc_set0 _ _ _ _ _ hG,List.set_append_left,List.getElem?_append_left,app_new0,app_set0]
     have hE:(k:Int)+(sszL (ss.take (i+1)):Int)=kk+1+inn:=by rw[htk];omega
     exact⟨i+1,⟨by omega,by rw[hE]⟩,⟨by omega,by rw[htk];omega,by rw[htk];exact hgood'⟩,by omega⟩
    ·left
     have hbad:Bad:=hBad ▸ fun hq=>hnf ⟨by have:=hq.1;omega,hq.2 _ hmem⟩
     obtain⟨kind,name,low,high,step,mark,dim,pieces,tA,tS,val,body,els⟩:=x
     obtain⟨op,k1,L,rA,subs,args⟩:=val
     have hk2':(Stm.mk kind name low high step mark dim pieces tA tS (Ex.mk op k1 L rA subs args) body els).kind=kind:=rfl
     rw[hk2']at h136 hm
     simp[ckB]at h136 hsp
     simp[lb100_2,Tryz.f100,S100,ckB,hi,hlc,hx,hws,hkk,c1,h136,hm,hg1,hg2,hsp,hsc,hkv,stops,hbad,List.set_append_left,List.getElem?_append_left,app_new0,app_set0]
     exact⟨_,k2,rfl⟩
  ·left
   have hbad:Bad:=hBad ▸ fun hq=>by have:=hq.1;omega
   obtain⟨kind,name,low,high,step,mark,dim,pieces,tA,tS,val,body,els⟩:=x
   obtain⟨op,k1,L,rA,subs,args⟩:=val
   simp[lb100_2,Tryz.f100,S100,ckB,hi,hlc,hx,hws,hkk,c1,stops,hbad,List.set_append_left,List.getElem?_append_left,app_new0,app_set0]
   exact⟨_,kk+1,rfl⟩
 ·left
  obtain rfl:i=ss.length:=by omega
  rw[List.take_length]at hk1 hgood
  simp[lb100_2,Tryz.f100,S100,stops]
  exact⟨hk1,hgood⟩
theorem e100 (k:Nat) (hk:k≤256) (hb:G[c]? =some (ckB t k)) (hn:NmOK K l z cp) (hps:t.ps.length≤2) (hln:l.length≤1073741823) (hss:ss.length≤1073741823) (hs:∀s ∈ ss,OkStm s∧SpecS t s):
  OutC (call X 100 [.ptr c 0 0,lst 19 (ss.map Stm.cs),.lst z (l.map strC) cp] G K) G K c t (k+sszL ss) (k+sszL ss≤256∧∀s ∈ ss,GoodS t l s):=by
 have hlc:c < G.length:=(List.getElem?_eq_some_iff.1 hb).1
 have hG:G≠[]:=by rintro rfl;simp at hb
 have hsc:=hn.scrub
 have hw0:=wrap_id ((l.length:Int)-t.ps.length) (by omega) (by omega)
 have hself:G.set c (ckB t k)=G:=by
  apply List.ext_getElem?
  intro j
  by_cases e:j=c
  ·subst e;rw[List.getElem?_set_self hlc,hb]
  ·rw[List.getElem?_set_ne (fun h=>e h.symm)]
 by_cases c0:ss=[]
 ·subst c0
  have hb':=hb
  simp only[ckB_def]at hb'
  left
  refine⟨[],?_,by simpa[sszL] using hk⟩
  simp only[sszL,Nat.add_zero,hself,List.append_nil]
  have hloop:∃o,(∀ s,s.gc [0,2,24,25,26] G.length K.length=(⟨[(0,.ptr c 0 0),(2,.lst z (l.map strC) cp),(24,.lst 0 [] .no),(25,.int .i64 0),(26,.int .i64 0)],G,K,G.length⟩:St)→loopE X 100 lb100_2 (St.gc [0,2,24,25,26] G.length K.length) s=some o)∧∃e,o= .exit 0 ⟨e,G,K,G.length⟩:=by
   refine loop_inv (fun _:Unit=>(⟨[(0,.ptr c 0 0),(2,.lst z (l.map strC) cp),(24,.lst 0 [] .no),(25,.int .i64 0),(26,.int .i64 0)],G,K,G.length⟩:St)) (fun _=>True) (fun _=>0) _ (fun p hp=>?_) () trivial
   left
   simp[lb100_2,Tryz.f100,stops]
  obtain⟨o,h1,e,rfl⟩:=hloop
  simp only[lb100_2,Tryz.f100,bodyOf_some,sub_seq0,sub_seq1,sub_block,sub_loop,sub_nil]at h1
  rw[call_eq (by decide) (by simp)]
  simp[Tryz.func100,Tryz.f100,envOf,ex_loop,firstReg,hb',hlc,h1,hsc,gc_own0' _ _ hG,leave_pure]
 ·by_cases c1:(l.length:Int)-t.ps.length≤10
  ·obtain⟨o,h1,h2⟩:=loop100 G K c t l z cp ss k hk hb hn (by omega) hss hs
   have h0:S100 G K c t l z cp ss k (0,[])=⟨[(0,.ptr c 0 0),(2,.lst z (l.map strC) cp),(24,lst 19 (ss.map Stm.cs)),(25,.int .i64 ss.length),(26,.int .i64 0)],G,K,G.length⟩:=by
    simp only[S100,List.take_zero,sszL,Nat.add_zero,hself,List.append_nil]
    rfl
   rw[h0]at h1
   simp only[ckB_def]at hb
   simp only[lb100_2,Tryz.f100,bodyOf_some,sub_seq0,sub_seq1,sub_block,sub_loop,sub_nil]at h1
   simp at h1
   rcases h2 with⟨e,K',rfl,h3,h4⟩ |⟨e,r,K',k2,rfl,hbad⟩
   ·left
    refine⟨K',?_,h3,h4⟩
    rw[call_eq (by decide) (by simp)]
    simp[Tryz.func100,Tryz.f100,envOf,ex_loop,firstReg,hb,hlc,hw0,c0,c1,h1,hsc,gc_own0' _ _ hG,leave_pure]
   ·right
    refine⟨k2,K',?_,hbad⟩
    rw[call_eq (by decide) (by simp)]
    simp[Tryz.func100,Tryz.f100,envOf,ex_loop,firstReg,hb,hlc,hw0,c0,c1,h1,hsc,gc_own0' _ _ hG]
  ·right
   have hbad: ¬(k+sszL ss≤256∧∀s ∈ ss,GoodS t l s):=fun hq=>by
    rcases ss with _ |⟨s0,r0⟩
    ·exact c0 rfl
    ·have:=(hq.2 s0 (by simp)).kind.2;omega
   refine⟨k,[],?_,hbad⟩
   simp only[hself,List.append_nil]
   simp only[ckB_def]at hb
   rw[call_eq (by decide) (by simp)]
   simp[Tryz.func100,Tryz.f100,envOf,hb,hlc,hw0,c0,c1]
end
end T
end
section
open Go Go.Proofs Go.Sym
namespace T
attribute [-simp] getElem?_pos
theorem set_self {G:List Blk} {c:Nat} {x:Blk} (h:G[c]? =some x):G.set c x=G:=by
 have hlc:c < G.length:=(List.getElem?_eq_some_iff.1 h).1
 apply List.ext_getElem?
 intro j
 by_cases e:j=c
 ·subst e;rw[List.getElem?_set_self hlc,h]
 ·rw[List.getElem?_set_ne (fun h=>e h.symm)]
theorem tok_new (K:List Nat) (n:Nat) (r:List Nat):(K++n::r)[K.length]? =some n:=by
 rw[List.getElem?_append_right (Nat.le_refl _),Nat.sub_self]
 rfl
theorem set_tok (K:List Nat) (n m:Nat) (r:List Nat):(K++n::r).set K.length m=K++m::r:=by
 rw[List.set_append_right _ _ (Nat.le_refl _)];simp
set_option maxHeartbeats 4000000 in
theorem spec199 (t:PT) (hps:t.ps.length≤2) (harr:t.arrs.length≤1073741823) (name:ByteArray) (low high:Tab) (step mark dim:Int) (pieces:List (List Cnd)) (tA:Int) (tS:List Lin) (val:Ex) (body els:List Stm) (hlow:okTab' low) (hhigh:okTab' high)
  (hbl:body.length≤1073741823) (hbody:∀s ∈ body,OkStm s∧SpecS t s) (G:List Blk) (K:List Nat) (c k:Nat) (l:List ByteArray) (z:Nat) (cp:Cap) (hk:k≤256) (hb:G[c]? =some (ckB t k)) (hn:NmOK K l z cp) (hlen:l.length≤t.ps.length+10):
  OutC (call X 199 [.agg (Stm.cs (.mk 1 name low high step mark dim pieces tA tS val body els)),.ptr c 0 0,.lst z (l.map strC) cp] G K) G K c t (k+(sszL body+sszL els)) (k+(sszL body+sszL els)≤256∧GoodS t l (.mk 1 name low high step mark dim pieces tA tS val body els)):=by
 have hlc:c < G.length:=(List.getElem?_eq_some_iff.1 hb).1
 have hself:=set_self hb
 have hF:GoodS t l (.mk 1 name low high step mark dim pieces tA tS val body els)→(∀ s ∈ body,GoodS t (l++[name]) s)∧nmdB name l=true∧arrN name t.arrs=false∧bndB l.length low=true∧bndB l.length high=true∧1≤step∧step≤64∧0≤mark∧mark≤2∧
  (step=1∨∃r,low=[[r]]∧r.D=1)∧unset dim pieces=true∧plainRef tA tS=true∧plainEx val=true∧els=[]:=fun h=>by
  cases h with
  |loop _ g1 g2 g3 g4 g5 g6 g7 g8 g9 g10 g11 g12 g13=>exact⟨g13,g1,g2,g3,g4,g5,g6,g7,g8,g9,g10,g11,g12,rfl⟩
 obtain⟨op,k1,L,rA,subs,args⟩:=val
 have hkv:∀a,freeze a (.lst z (l.map strC) cp)= .lst (szOf 1 (l.map strC)) (l.map strC) .no:=fun a=>by rw[fz_any _ _ _ _ hn.bor,hn.sz]
 have hlim:l.length+1≤1073741824:=by omega
 have h134:=ic134 name l (by omega)
 have h200:=e200 (G++[⟨19,[Stm.cs (.mk 1 name low high step mark dim pieces tA tS (.mk op k1 L rA subs args) body els)],.box⟩,⟨19,[Stm.cs (.mk 1 name low high step mark dim pieces tA tS (.mk op k1 L rA subs args) body els)],.box⟩]) K (G.length+1) _ (app_new1 _ _ _ _) t.arrs harr
 have hlo:=ic202 low l.length hlow
 have hhi:=ic202 high l.length hhigh
 have h203:=ic203 dim pieces
 have h204:=ic204 tA tS
 have h205:=ic205 (.mk op k1 L rA subs args)
 have h101:=ic101 (l.map strC) (by simp;omega)
 have h100:=e100 (G++[⟨19,[Stm.cs (.mk 1 name low high step mark dim pieces tA tS (.mk op k1 L rA subs args) body els)],.box⟩,⟨19,[Stm.cs (.mk 1 name low high step mark dim pieces tA tS (.mk op k1 L rA subs args) body els)],.box⟩]) (K++[l.length+1]) c t (l++[name]) 1 (.tok K.length) body k hk
  (by rw[List.getElem?_append_left hlc,hb]) ⟨by simp,by simp,fun i h=>by cases h;simp⟩ hps (by simp;omega) hbl hbody
 have hset:∀q,(G++[(⟨19,[Stm.cs (.mk 1 name low high step mark dim pieces tA tS (.mk op k1 L rA subs args) body els)],.box⟩:Blk),⟨19,[Stm.cs (.mk 1 name low high step mark dim pieces tA tS (.mk op k1 L rA subs args) body els)],.box⟩]).set c q=G.set c q++[⟨19,[Stm.cs (.mk 1 name low high step mark dim pieces tA tS (.mk op k1 L rA subs args) body els)],.box⟩,⟨19,[Stm.cs (.mk 1 name low high step mark dim pieces tA tS (.mk op k1 L rA subs args) body els)],.box⟩]:=fun q=>by rw[List.set_append_left _ _ hlc]
 unfold OutC at h100
 simp only[hset,List.length_append,List.length_cons,List.length_nil,Nat.zero_add]at h100
 unfold Nd at hlo hhi
 simp only[ckB_def]at hb hself
 unfold OutC
 simp only[arrB,Stm.name]at h200
 simp at h200 h205
 simp only[Stm.cs_mk,ckB_def]
 cases v1:nmdB name l with
 |false=>
  rw[v1]at h134
  right
  refine⟨k,[],?_,fun hq=>by have hq:=(hF hq.2).2;simp[v1]at hq⟩
  simp only[hself,List.append_nil]
  try simp at h200
  rw[call_eq (by decide) (by simp)]
  simp[Tryz.func199,Tryz.f199,envOf,hb,hlc,hkv,h134,h203,h204,h205,h101,hlim,List.getElem?_append_left,app_new0,app_new1]
 |true=>
  rw[v1]at h134
  cases v2:arrN name t.arrs with
  |true=>
   rw[v2]at h200
   right
   refine⟨k,[],?_,fun hq=>by have hq:=(hF hq.2).2;simp[v2]at hq⟩
   simp only[hself,List.append_nil]
   try simp at h200
   rw[call_eq (by decide) (by simp)]
   simp[Tryz.func199,Tryz.f199,envOf,hb,hlc,hkv,h134,h203,h204,h205,h101,hlim,List.getElem?_append_left,app_new0,app_new1,h200]
  |false=>
   rw[v2]at h200
   rcases hlo with⟨hlo,vlo⟩ |⟨hlo,vlo⟩
   ·skip
    rcases hhi with⟨hhi,vhi⟩ |⟨hhi,vhi⟩
    ·skip
     by_cases c1:1≤step
     ·skip
      by_cases c2:step≤64
      ·skip
       by_cases c3:0≤mark
       ·skip
        by_cases c4:mark≤2
        ·skip
         by_cases cs1:step=1
         ·subst cs1
          by_cases c5:unset dim pieces=true
          ·skip
           by_cases c6:plainRef tA tS=true
           ·skip
            by_cases c7:plainEx (Ex.mk op k1 L rA subs args)=true
            ·skip
             by_cases c8:els=[]
             ·subst c8
              try simp at h200
              rcases h100 with⟨K',h100,hle,hgd⟩ |⟨k2,K',h100,hnf⟩
              ·left
               refine⟨[l.length+1]++K',?_,by simpa[sszL] using hle,GoodS.loop hlen v1 v2 vlo vhi c1 c2 c3 c4 (.inl rfl) c5 c6 c7 hgd⟩
               simp[ckB]at h100
               rw[call_eq (by decide) (by simp)]
               simp[Tryz.func199,Tryz.f199,envOf,hb,hlc,hkv,h134,h203,h204,h205,h101,hlim,List.getElem?_append_left,app_new0,app_new1,h200,hlo,hhi,c1,c2,c3,c4,c5,c6,c7,h100,tok_new,set_tok,ckB,sszL,leave_pure]
              ·right
               refine⟨k2,[l.length+1]++K',?_,fun hq=>hnf ⟨by have:=hq.1;simp[sszL]at this;omega,(hF hq.2).1⟩⟩
               simp[ckB]at h100
               rw[call_eq (by decide) (by simp)]
               simp[Tryz.func199,Tryz.f199,envOf,hb,hlc,hkv,h134,h203,h204,h205,h101,hlim,List.getElem?_append_left,app_new0,app_new1,h200,hlo,hhi,c1,c2,c3,c4,c5,c6,c7,h100,tok_new,set_tok,ckB]
             ·right
              refine⟨k,[],?_,fun hq=>by have hq:=(hF hq.2).2;simp[c8]at hq⟩
              simp only[hself,List.append_nil]
              try simp at h200
              rw[call_eq (by decide) (by simp)]
              simp[Tryz.func199,Tryz.f199,envOf,hb,hlc,hkv,h134,h203,h204,h205,h101,hlim,List.getElem?_append_left,app_new0,app_new1,h200,hlo,hhi,c1,c2,c3,c4,c5,c6,c7,c8]
            ·right
             refine⟨k,[],?_,fun hq=>by have hq:=(hF hq.2).2;simp[c7]at hq⟩
             simp only[hself,List.append_nil]
             try simp at h200
             rw[call_eq (by decide) (by simp)]
             simp[Tryz.func199,Tryz.f199,envOf,hb,hlc,hkv,h134,h203,h204,h205,h101,hlim,List.getElem?_append_left,app_new0,app_new1,h200,hlo,hhi,c1,c2,c3,c4,c5,c6,c7]
           ·right
            refine⟨k,[],?_,fun hq=>by have hq:=(hF hq.2).2;simp[c6]at hq⟩
            simp only[hself,List.append_nil]
            try simp at h200
            rw[call_eq (by decide) (by simp)]
            simp[Tryz.func199,Tryz.f199,envOf,hb,hlc,hkv,h134,h203,h204,h205,h101,hlim,List.getElem?_append_left,app_new0,app_new1,h200,hlo,hhi,c1,c2,c3,c4,c5,c6]
          ·right
           refine⟨k,[],?_,fun hq=>by have hq:=(hF hq.2).2;simp[c5]at hq⟩
           simp only[hself,List.append_nil]
           try simp at h200
           rw[call_eq (by decide) (by simp)]
           simp[Tryz.func199,Tryz.f199,envOf,hb,hlc,hkv,h134,h203,h204,h205,h101,hlim,List.getElem?_append_left,app_new0,app_new1,h200,hlo,hhi,c1,c2,c3,c4,c5]
         ·rcases low with _ |⟨lo0,_ |⟨lo1,lo2⟩⟩
          ·right
           refine⟨k,[],?_,fun hq=>by have hq:=(hF hq.2).2;simp[cs1]at hq⟩
           simp only[hself,List.append_nil]
           try simp at h200
           try simp at hlo
           rw[call_eq (by decide) (by simp)]
           simp[Tryz.func199,Tryz.f199,envOf,hb,hlc,hkv,h134,h203,h204,h205,h101,hlim,List.getElem?_append_left,app_new0,app_new1,h200,hlo,hhi,c1,c2,c3,c4,cs1]
          ·rcases lo0 with _ |⟨r0,_ |⟨r1,r2⟩⟩
           ·right
            refine⟨k,[],?_,fun hq=>by have hq:=(hF hq.2).2;simp[cs1]at hq⟩
            simp only[hself,List.append_nil]
            try simp at h200
            try simp at hlo
            rw[call_eq (by decide) (by simp)]
            simp[Tryz.func199,Tryz.f199,envOf,hb,hlc,hkv,h134,h203,h204,h205,h101,hlim,List.getElem?_append_left,app_new0,app_new1,h200,hlo,hhi,c1,c2,c3,c4,cs1]
           ·by_cases cd:r0.D=1
            ·simp[cd]at hlo
             by_cases c5:unset dim pieces=true
             ·skip
              by_cases c6:plainRef tA tS=true
              ·skip
               by_cases c7:plainEx (Ex.mk op k1 L rA subs args)=true
               ·skip
                by_cases c8:els=[]
                ·subst c8
                 try simp[cd]at h200
                 rcases h100 with⟨K',h100,hle,hgd⟩ |⟨k2,K',h100,hnf⟩
                 ·left
                  refine⟨[l.length+1]++K',?_,by simpa[sszL] using hle,GoodS.loop hlen v1 v2 vlo vhi c1 c2 c3 c4 (.inr ⟨r0,rfl,cd⟩) c5 c6 c7 hgd⟩
                  simp[ckB,cd]at h100
                  rw[call_eq (by decide) (by simp)]
                  simp[Tryz.func199,Tryz.f199,envOf,hb,hlc,hkv,h134,h203,h204,h205,h101,hlim,List.getElem?_append_left,app_new0,app_new1,h200,hlo,hhi,c1,c2,c3,c4,cs1,cd,c5,c6,c7,h100,tok_new,set_tok,ckB,sszL,leave_pure]
                 ·right
                  refine⟨k2,[l.length+1]++K',?_,fun hq=>hnf ⟨by have:=hq.1;simp[sszL]at this;omega,(hF hq.2).1⟩⟩
                  simp[ckB,cd]at h100
                  rw[call_eq (by decide) (by simp)]
                  simp[Tryz.func199,Tryz.f199,envOf,hb,hlc,hkv,h134,h203,h204,h205,h101,hlim,List.getElem?_append_left,app_new0,app_new1,h200,hlo,hhi,c1,c2,c3,c4,cs1,cd,c5,c6,c7,h100,tok_new,set_tok,ckB]
                ·right
                 refine⟨k,[],?_,fun hq=>by have hq:=(hF hq.2).2;simp[c8]at hq⟩
                 simp only[hself,List.append_nil]
                 try simp[cd]at h200
                 try simp[cd]at hlo
                 rw[call_eq (by decide) (by simp)]
                 simp[Tryz.func199,Tryz.f199,envOf,hb,hlc,hkv,h134,h203,h204,h205,h101,hlim,List.getElem?_append_left,app_new0,app_new1,h200,hlo,hhi,c1,c2,c3,c4,cs1,cd,c5,c6,c7,c8]
               ·right
                refine⟨k,[],?_,fun hq=>by have hq:=(hF hq.2).2;simp[c7]at hq⟩
                simp only[hself,List.append_nil]
                try simp[cd]at h200
                try simp[cd]at hlo
                rw[call_eq (by decide) (by simp)]
                simp[Tryz.func199,Tryz.f199,envOf,hb,hlc,hkv,h134,h203,h204,h205,h101,hlim,List.getElem?_append_left,app_new0,app_new1,h200,hlo,hhi,c1,c2,c3,c4,cs1,cd,c5,c6,c7]
              ·right
               refine⟨k,[],?_,fun hq=>by have hq:=(hF hq.2).2;simp[c6]at hq⟩
               simp only[hself,List.append_nil]
               try simp[cd]at h200
               try simp[cd]at hlo
               rw[call_eq (by decide) (by simp)]
               simp[Tryz.func199,Tryz.f199,envOf,hb,hlc,hkv,h134,h203,h204,h205,h101,hlim,List.getElem?_append_left,app_new0,app_new1,h200,hlo,hhi,c1,c2,c3,c4,cs1,cd,c5,c6]
             ·right
              refine⟨k,[],?_,fun hq=>by have hq:=(hF hq.2).2;simp[c5]at hq⟩
              simp only[hself,List.append_nil]
              try simp[cd]at h200
              try simp[cd]at hlo
              rw[call_eq (by decide) (by simp)]
              simp[Tryz.func199,Tryz.f199,envOf,hb,hlc,hkv,h134,h203,h204,h205,h101,hlim,List.getElem?_append_left,app_new0,app_new1,h200,hlo,hhi,c1,c2,c3,c4,cs1,cd,c5]
            ·simp at hlo
             right
             refine⟨k,[],?_,fun hq=>by have hq:=(hF hq.2).2;simp[cs1,cd]at hq⟩
             simp only[hself,List.append_nil]
             try simp[cd]at h200
             try simp[cd]at hlo
             rw[call_eq (by decide) (by simp)]
             simp[Tryz.func199,Tryz.f199,envOf,hb,hlc,hkv,h134,h203,h204,h205,h101,hlim,List.getElem?_append_left,app_new0,app_new1,h200,hlo,hhi,c1,c2,c3,c4,cs1,cd]
           ·have hz: ¬((r2.length:Int)+1+1=1):=by omega
            right
            refine⟨k,[],?_,fun hq=>by have hq:=(hF hq.2).2;simp[cs1,hz]at hq⟩
            simp only[hself,List.append_nil]
            try simp at h200
            try simp at hlo
            rw[call_eq (by decide) (by simp)]
            simp[Tryz.func199,Tryz.f199,envOf,hb,hlc,hkv,h134,h203,h204,h205,h101,hlim,List.getElem?_append_left,app_new0,app_new1,h200,hlo,hhi,c1,c2,c3,c4,cs1,hz]
          ·have hz: ¬((lo2.length:Int)+1+1=1):=by omega
           right
           refine⟨k,[],?_,fun hq=>by have hq:=(hF hq.2).2;simp[cs1,hz]at hq⟩
           simp only[hself,List.append_nil]
           try simp at h200
           try simp at hlo
           rw[call_eq (by decide) (by simp)]
           simp[Tryz.func199,Tryz.f199,envOf,hb,hlc,hkv,h134,h203,h204,h205,h101,hlim,List.getElem?_append_left,app_new0,app_new1,h200,hlo,hhi,c1,c2,c3,c4,cs1,hz]
        ·right
         refine⟨k,[],?_,fun hq=>by have hq:=(hF hq.2).2;simp[c4]at hq⟩
         simp only[hself,List.append_nil]
         try simp at h200
         rw[call_eq (by decide) (by simp)]
         simp[Tryz.func199,Tryz.f199,envOf,hb,hlc,hkv,h134,h203,h204,h205,h101,hlim,List.getElem?_append_left,app_new0,app_new1,h200,hlo,hhi,c1,c2,c3,c4]
       ·right
        refine⟨k,[],?_,fun hq=>by have hq:=(hF hq.2).2;simp[c3]at hq⟩
        simp only[hself,List.append_nil]
        try simp at h200
        rw[call_eq (by decide) (by simp)]
        simp[Tryz.func199,Tryz.f199,envOf,hb,hlc,hkv,h134,h203,h204,h205,h101,hlim,List.getElem?_append_left,app_new0,app_new1,h200,hlo,hhi,c1,c2,c3]
      ·right
       refine⟨k,[],?_,fun hq=>by have hq:=(hF hq.2).2;simp[c2]at hq⟩
       simp only[hself,List.append_nil]
       try simp at h200
       rw[call_eq (by decide) (by simp)]
       simp[Tryz.func199,Tryz.f199,envOf,hb,hlc,hkv,h134,h203,h204,h205,h101,hlim,List.getElem?_append_left,app_new0,app_new1,h200,hlo,hhi,c1,c2]
     ·right
      refine⟨k,[],?_,fun hq=>by have hq:=(hF hq.2).2;simp[c1]at hq⟩
      simp only[hself,List.append_nil]
      try simp at h200
      rw[call_eq (by decide) (by simp)]
      simp[Tryz.func199,Tryz.f199,envOf,hb,hlc,hkv,h134,h203,h204,h205,h101,hlim,List.getElem?_append_left,app_new0,app_new1,h200,hlo,hhi,c1]
    ·right
     refine⟨k,[],?_,fun hq=>by have hq:=(hF hq.2).2;simp[vhi]at hq⟩
     simp only[hself,List.append_nil]
     try simp at h200
     rw[call_eq (by decide) (by simp)]
     simp[Tryz.func199,Tryz.f199,envOf,hb,hlc,hkv,h134,h203,h204,h205,h101,hlim,List.getElem?_append_left,app_new0,app_new1,h200,hlo,hhi]
   ·right
    refine⟨k,[],?_,fun hq=>by have hq:=(hF hq.2).2;simp[vlo]at hq⟩
    simp only[hself,List.append_nil]
    try simp at h200
    rw[call_eq (by decide) (by simp)]
    simp[Tryz.func199,Tryz.f199,envOf,hb,hlc,hkv,h134,h203,h204,h205,h101,hlim,List.getElem?_append_left,app_new0,app_new1,h200,hlo]
end T
end
section
open Go Go.Proofs Go.Sym
namespace T
attribute [-simp] getElem?_pos
set_option maxHeartbeats 4000000 in
theorem spec208 (t:PT) (hps:t.ps.length≤2) (name:ByteArray) (low high:Tab) (step mark dim:Int) (pieces:List (List Cnd)) (tA:Int) (tS:List Lin) (val:Ex) (body els:List Stm) (hpie:okPie pieces)
  (hbl:body.length≤1073741823) (hel:els.length≤1073741823) (hbody:∀s ∈ body,OkStm s∧SpecS t s) (hels:∀s ∈ els,OkStm s∧SpecS t s) (G:List Blk) (K:List Nat) (c k:Nat) (l:List ByteArray) (z:Nat) (cp:Cap) (hk:k≤256) (hb:G[c]? =some (ckB t k)) (hn:NmOK K l z cp) (hlen:l.length≤t.ps.length+10):
  OutC (call X 208 [.agg (Stm.cs (.mk 2 name low high step mark dim pieces tA tS val body els)),.ptr c 0 0,.lst z (l.map strC) cp] G K) G K c t (k+(sszL body+sszL els)) (k+(sszL body+sszL els)≤256∧GoodS t l (.mk 2 name low high step mark dim pieces tA tS val body els)):=by
 have hlc:c < G.length:=(List.getElem?_eq_some_iff.1 hb).1
 have hself:=set_self hb
 have h209:=ic209 (.mk 2 name low high step mark dim pieces tA tS val body els)
 have hF:GoodS t l (.mk 2 name low high step mark dim pieces tA tS val body els)→(∀ s ∈ body,GoodS t l s)∧(∀ s ∈ els,GoodS t l s)∧blankB (.mk 2 name low high step mark dim pieces tA tS val body els)=true∧plainRef tA tS=true∧plainEx val=true∧setB dim pieces=true∧dim=l.length:=fun h=>by
  cases h with
  |test _ g1 g2 g3 g4 g5 g6 g7=>exact⟨g6,g7,g1,g2,g3,g4,g5⟩
 have hT:= @GoodS.test t l name low high step mark dim pieces tA tS val body els hlen
 obtain⟨b9,hb9⟩:∃b,b=blankB (.mk 2 name low high step mark dim pieces tA tS val body els):=⟨_,rfl⟩
 rw[←hb9]at h209 hF hT
 obtain⟨op,k1,L,rA,subs,args⟩:=val
 have h204:=ic204 tA tS
 have h205:=ic205 (.mk op k1 L rA subs args)
 have h210:=ic210 dim pieces hpie
 generalize hB:(⟨19,[Stm.cs (.mk 2 name low high step mark dim pieces tA tS (.mk op k1 L rA subs args) body els)],.box⟩:Blk)=B
 have hset:∀q,(G++[B,B]).set c q=G.set c q++[B,B]:=fun q=>by rw[List.set_append_left _ _ hlc]
 have hset2:∀x q,(G.set c x++[B,B]).set c q=G.set c q++[B,B]:=fun x q=>by rw[List.set_append_left _ _ (by simpa using hlc),List.set_set]
 have ha:=e100 (G++[B,B]) K c t l z cp body k hk (by rw[List.getElem?_append_left hlc,hb]) hn hps (by omega) hbl hbody
 have hb2:∀K1,k+sszL body≤256→_:=fun K1 hk2=>e100 (G.set c (ckB t (k+sszL body:Nat))++[B,B]) (K++K1) c t l z cp els (k+sszL body) hk2 (by rw[List.getElem?_append_left (by simpa using hlc),List.getElem?_set_self hlc]) (hn.mono K1) hps (by omega) hel hels
 unfold OutC at ha hb2
 simp only[hset]at ha
 simp only[hset2]at hb2
 subst hB
 simp only[ckB_def]at hb hself
 unfold OutC
 simp at h205
 simp only[Stm.cs_mk,Ex.cs_mk,ints_def,lst_def,tabV_def,int_def]at h209
 simp only[Stm.cs_mk,ckB_def]
 cases b9 with
 |false=>
  right
  refine⟨k,[],?_,fun hq=>by have hq:=(hF hq.2).2.2;simp at hq⟩
  simp only[hself,List.append_nil]
  rw[call_eq (by decide) (by simp)]
  simp[Tryz.func208,Tryz.f208,envOf,hb,hlc,h209,List.getElem?_append_left,app_new0,app_new1]
 |true=>
  by_cases c1:plainRef tA tS=true
  ·by_cases c2:plainEx (Ex.mk op k1 L rA subs args)=true
   ·cases v10:setB dim pieces with
    |false=>
     rw[v10]at h210
     right
     refine⟨k,[],?_,fun hq=>by have hq:=(hF hq.2).2.2;simp[v10]at hq⟩
     simp only[hself,List.append_nil]
     rw[call_eq (by decide) (by simp)]
     simp[Tryz.func208,Tryz.f208,envOf,hb,hlc,h209,h204,h205,h210,c1,c2,List.getElem?_append_left,app_new0,app_new1]
    |true=>
     rw[v10]at h210
     by_cases c3:dim=l.length
     ·subst c3
      rcases ha with⟨K1,ha,hle1,hg1⟩ |⟨k2,K1,ha,hn1⟩
      ·rcases hb2 K1 hle1 with⟨K2,hb2,hle2,hg2⟩ |⟨k2,K2,hb2,hn2⟩
       ·left
        refine⟨K1++K2,?_,by omega,hT rfl c1 c2 v10 rfl hg1 hg2⟩
        simp[ckB]at ha hb2
        rw[call_eq (by decide) (by simp)]
        simp[Tryz.func208,Tryz.f208,envOf,hb,hlc,h209,h204,h205,h210,c1,c2,ha,hb2,List.getElem?_append_left,app_new0,app_new1,app_set0,app_set1,leave_pure]
        rw[Int.add_assoc]
       ·right
        refine⟨k2,K1++K2,?_,fun hq=>hn2 ⟨by have:=hq.1;omega,(hF hq.2).2.1⟩⟩
        simp[ckB]at ha hb2
        rw[call_eq (by decide) (by simp)]
        simp[Tryz.func208,Tryz.f208,envOf,hb,hlc,h209,h204,h205,h210,c1,c2,ha,hb2,List.getElem?_append_left,app_new0,app_new1,app_set0,app_set1]
      ·right
       refine⟨k2,K1,?_,fun hq=>hn1 ⟨by have:=hq.1;omega,(hF hq.2).1⟩⟩
       simp[ckB]at ha
       rw[call_eq (by decide) (by simp)]
       simp[Tryz.func208,Tryz.f208,envOf,hb,hlc,h209,h204,h205,h210,c1,c2,ha,List.getElem?_append_left,app_new0,app_new1,app_set0,app_set1]
     ·right
      refine⟨k,[],?_,fun hq=>by have hq:=(hF hq.2).2.2;simp[c3]at hq⟩
      simp only[hself,List.append_nil]
      rw[call_eq (by decide) (by simp)]
      simp[Tryz.func208,Tryz.f208,envOf,hb,hlc,h209,h204,h205,h210,c1,c2,c3,List.getElem?_append_left,app_new0,app_new1]
   ·right
    refine⟨k,[],?_,fun hq=>by have hq:=(hF hq.2).2.2;simp[c2]at hq⟩
    simp only[hself,List.append_nil]
    rw[call_eq (by decide) (by simp)]
    simp[Tryz.func208,Tryz.f208,envOf,hb,hlc,h209,h204,h205,c1,c2,List.getElem?_append_left,app_new0,app_new1]
  ·right
   refine⟨k,[],?_,fun hq=>by have hq:=(hF hq.2).2.2;simp[c1]at hq⟩
   simp only[hself,List.append_nil]
   rw[call_eq (by decide) (by simp)]
   simp[Tryz.func208,Tryz.f208,envOf,hb,hlc,h209,h204,c1,List.getElem?_append_left,app_new0,app_new1]
theorem specS (t:PT) (hps:t.ps.length≤2) (harr:t.arrs.length≤1073741823) {s:Stm} (h:OkStm s):SpecS t s:=by
 induction h with
 | @mk kind name low high step mark dim pieces tA tS val body els hname hlow hhigh hpie htS hval hbl hel hbody hels ih1 ih2=>
 intro G K c k l z cp hk hb hn hlen hok
 have hok':okK kind=true:=hok
 simp only[okK,Bool.or_eq_true,decide_eq_true_eq]at hok'
 rcases hok' with(rfl |rfl) |rfl
 ·exact spec199 t hps harr name low high step mark dim pieces tA tS val body els hlow hhigh hbl (fun s hs=>⟨hbody s hs,ih1 s hs⟩) G K c k l z cp hk hb hn hlen
 ·exact spec208 t hps name low high step mark dim pieces tA tS val body els hpie hbl hel (fun s hs=>⟨hbody s hs,ih1 s hs⟩) (fun s hs=>⟨hels s hs,ih2 s hs⟩) G K c k l z cp hk hb hn hlen
 ·have hs0:OkStm (.mk 3 name low high step mark dim pieces tA tS val body els):=OkStm.mk hname hlow hhigh hpie htS hval hbl hel hbody hels
  rcases e213 G K c t k hb l z cp _ hs0 with⟨h,hv⟩ |⟨h,hv⟩
  ·left
   have hv':=hv
   simp only[asgB,Bool.and_eq_true,decide_eq_true_eq]at hv
   have h1':body=[]:=List.length_eq_zero_iff.1 hv.1.1.1.1.2
   have h2':els=[]:=List.length_eq_zero_iff.1 hv.1.1.1.2
   subst h1' h2'
   refine⟨[],?_,by simpa[Stm.inner,sszL] using hk,GoodS.asg hlen hv'⟩
   simp only[Stm.inner,sszL,Nat.add_zero,List.append_nil,set_self hb]
   exact h
  ·right
   refine⟨k,[],?_,fun hq=>?_⟩
   ·simp only[List.append_nil,set_self hb]
    exact h
   ·have hq:=hq.2
    cases hq with
    |asg _ g=>rw[g]at hv;cases hv
end T
end
section
open Go Go.Proofs Go.Sym
namespace T
attribute [-simp] getElem?_pos
section
variable (G:List Blk) (K:List Nat) (c:Nat) (t:PT) (k:Int) (hb:G[c]? =some (ckB t k)) (h8:t.arrs.length≤8) (h2:t.ps.length≤2)
include hb
def S99a (i:Nat):St:=⟨[(0,.ptr c 0 0),(2,.lst 1 ((t.ps.take i).map strC) (.tok K.length)),(30,lst 1 (t.ps.map strC)),(31,.int .i64 t.ps.length),(32,.int .i64 i)],G,K++[i],G.length⟩
def PsOK (t:PT) (i:Nat) (s:ByteArray):Prop:=nmdB s (t.ps.take i)=true
theorem loop99a (h2:t.ps.length≤2):∃o,(∀ s,s.gc [0,2,30,31,32] G.length (K.length+1)=S99a G K c t 0→loopE X 99 lb99_3 (St.gc [0,2,30,31,32] G.length (K.length+1)) s=some o)∧
  (((∀ i s,t.ps[i]? =some s→PsOK t i s)∧∃e,o= .exit 0 ⟨e,G,K++[t.ps.length],G.length⟩∧get e 0= .ptr c 0 0∧get e 2= .lst 1 (t.ps.map strC) (.tok K.length))∨((¬ ∀i s,t.ps[i]? =some s→PsOK t i s)∧∃(e:_) (r:_) (K':List Nat),o= .panic (.iface 163 (.agg [])) ⟨e,G++r,K++K',G.length⟩)):=by
 have hlc:c < G.length:=(List.getElem?_eq_some_iff.1 hb).1
 have hG:G≠[]:=by rintro rfl;simp at hb
 refine loop_allI t.ps (S99a G K c t) (PsOK t) _ _ (by simp[lb99_3,Tryz.f99,S99a,stops]) (fun i x hx hi=>?_)
 have hw:=wrap_nat i (by omega)
 have htk:(t.ps.take (i+1)).map strC=(t.ps.take i).map strC++[[.str x]]:=by rw[List.take_add_one,hx,List.map_append];rfl
 have hlim:i+1≤1073741824:=by omega
 have h134:=ic134 x (t.ps.take i) (by simp;omega)
 have hmin:min i t.ps.length=i:=by omega
 unfold PsOK
 cases hv:nmdB x (t.ps.take i)with
 |true=>
  rw[hv]at h134
  left
  refine⟨rfl,?_⟩
  simp[-List.map_take,lb99_3,Tryz.f99,S99a,hi,hw,hx,hlc,h134,hmin,hlim,tok_new,set_tok,gc_own0' _ _ hG]
  exact htk.symm
 |false=>
  rw[hv]at h134
  right
  refine⟨by simp,?_⟩
  simp[-List.map_take,lb99_3,Tryz.f99,S99a,hi,hx,hlc,h134,hmin,hlim,tok_new,set_tok,stops]
def arB (x:Arr):Blk:=⟨2,[[.str x.name,lst 2 (x.sizes.map Lin.cs)]],.box⟩
def S99c (ns:List ByteArray) (i:Nat) (x:Arr) (j:Nat):St:=⟨[(0,.ptr c 0 0),(2,.lst 1 (ns.map strC) (.tok K.length)),(49,lst 2 (t.arrs.map Arr.cs)),(50,.int .i64 t.arrs.length),(51,.int .i64 i),(72,lst 2 (x.sizes.map Lin.cs)),(73,.int .i64 x.sizes.length),(74,.int .i64 j)],G++[arB x],K++[ns.length],G.length⟩
theorem loop99c (ns:List ByteArray) (i:Nat) (x:Arr) (hx:okLins x.sizes):∃o,(∀ s,s.gc [0,2,49,50,51,72,73,74] (G.length+1) (K.length+1)=S99c G K c t ns i x 0→loopE X 99 lb99_14 (St.gc [0,2,49,50,51,72,73,74] (G.length+1) (K.length+1)) s=some o)∧
  ((x.sizes.all (over t.ps.length)=true∧∃e,o= .exit 4 ⟨e,G++[arB x],K++[ns.length],G.length⟩∧get e 0= .ptr c 0 0∧get e 2= .lst 1 (ns.map strC) (.tok K.length)∧get e 49=lst 2 (t.arrs.map Arr.cs)∧get e 50= .int .i64 t.arrs.length∧get e 51= .int .i64 i)∨(x.sizes.all (over t.ps.length)=false∧∃(e:_) (r:_) (K':List Nat),o= .panic (.iface 163 (.agg [])) ⟨e,G++r,K++K',G.length⟩)):=by
 have hlc:c < G.length:=(List.getElem?_eq_some_iff.1 hb).1
 have hG:G≠[]:=by rintro rfl;simp at hb
 simp only[ckB_def]at hb
 refine loop_all x.sizes (S99c G K c t ns i x) (over t.ps.length) _ _ (by simp[lb99_14,Tryz.f99,S99c,arB,stops]) (fun j y hy hj=>?_)
 have hw:=wrap_nat j (by have:=hx.1;omega)
 have h135:=ic135 y (hx.2 _ (List.mem_of_getElem? hy)) t.ps.length
 cases ho:over t.ps.length y with
 |true=>
  rw[ho]at h135
  refine⟨fun _=>?_,fun h=>by simp at h⟩
  simp[lb99_14,Tryz.f99,S99c,arB,hj,hw,hy,hb,hlc,Nat.lt_succ_of_lt hlc,h135,List.getElem?_append_left,app_new0,app_new1,gc_app _ _ _ hG]
 |false=>
  rw[ho]at h135
  refine⟨fun h=>by simp at h,fun _=>?_⟩
  simp[lb99_14,Tryz.f99,S99c,arB,hj,hy,hb,hlc,h135,List.getElem?_append_left,app_new0,app_new1,stops]
def S99b (i:Nat):St:=⟨[(0,.ptr c 0 0),(2,.lst 1 ((t.ps++(t.arrs.take i).map (·.name)).map strC) (.tok K.length)),(49,lst 2 (t.arrs.map Arr.cs)),(50,.int .i64 t.arrs.length),(51,.int .i64 i)],G,K++[t.ps.length+i],G.length⟩
def ArOK (t:PT) (i:Nat) (a:Arr):Prop:=nmdB a.name (t.ps++(t.arrs.take i).map (·.name))=true∧a.sizes.length≤3∧a.sizes.all (over t.ps.length)=true
theorem loop99b (h2:t.ps.length≤2) (h8:t.arrs.length≤8) (hx:∀a ∈ t.arrs,okLins a.sizes):∃o,(∀ s,s.gc [0,2,49,50,51] G.length (K.length+1)=S99b G K c t 0→loopE X 99 lb99_9 (St.gc [0,2,49,50,51] G.length (K.length+1)) s=some o)∧
  (((∀ i a,t.arrs[i]? =some a→ArOK t i a)∧∃e r K',o= .exit 2 ⟨e,G++r,K++K',G.length⟩)∨((¬ ∀i a,t.arrs[i]? =some a→ArOK t i a)∧∃(e:_) (r:_) (K':List Nat),o= .panic (.iface 163 (.agg [])) ⟨e,G++r,K++K',G.length⟩)):=by
 have hlc:c < G.length:=(List.getElem?_eq_some_iff.1 hb).1
 have hG:G≠[]:=by rintro rfl;simp at hb
 refine loop_allI t.arrs (S99b G K c t) (ArOK t) _ _ (by simp[lb99_9,Tryz.f99,S99b,stops]) (fun i x hy hi=>?_)
 have hw:=wrap_nat i (by omega)
 obtain⟨o,h1,h3⟩:=loop99c G K c t k hb (t.ps++(t.arrs.take i).map (·.name)++[x.name]) i x (hx _ (List.mem_of_getElem? hy))
 have htk:t.ps++(t.arrs.take (i+1)).map (·.name)=t.ps++(t.arrs.take i).map (·.name)++[x.name]:=by rw[List.take_add_one,hy,List.map_append,List.append_assoc];rfl
 have hlim:t.ps.length+i+1≤1073741824:=by omega
 have hln:(t.ps++(t.arrs.take i).map (·.name)).length=t.ps.length+i:=by simp;omega
 have h134:=ic134 x.name (t.ps++(t.arrs.take i).map (·.name)) (by omega)
 obtain⟨nm,sizes⟩:=x
 unfold ArOK
 simp only[ckB_def]at hb
 simp only[lb99_14,Tryz.f99,S99c,arB,bodyOf_some,sub_seq0,sub_seq1,sub_block,sub_loop,sub_nil]at h1
 simp only[lb99_9,S99b]
 generalize hN:t.ps++(t.arrs.take i).map (·.name)=N at*
 have hlN:N.length+1≤1073741824:=by omega
 rw[←hln]at*
 simp at h1
 simp only at h3 h134 ⊢
 cases hv:nmdB nm N with
 |false=>
  rw[hv]at h134
  right
  refine⟨by simp,?_⟩
  simp[Tryz.f99,hi,hy,hb,hlc,h134,stops,app_new0,List.getElem?_append_left]
 |true=>
  rw[hv]at h134
  by_cases c1:(sizes.length:Int)≤3
  ·have c1':sizes.length≤3:=by omega
   rcases h3 with⟨hs,e,rfl,g1,g2,g3,g4,g5⟩ |⟨hs,e,r,K',rfl⟩
   ·left
    refine⟨⟨rfl,c1',hs⟩,?_⟩
    simp[Tryz.f99,hi,hw,hy,hb,hlc,Nat.lt_succ_of_lt hlc,h134,c1,hlN,ex_loop,firstReg,h1,g1,g2,g3,g4,g5,app_new0,List.getElem?_append_left,tok_new,set_tok,gc_own0 _ _ _ hG,gc_app _ _ _ hG]
    exact⟨by have:=congrArg (List.map strC) htk;simpa using this.symm,by
                                         have:N.length=t.ps.length+i:=by(rw [←hN];simp;omega)
                                         omega⟩
   ·right
    refine⟨by simp[hs],?_⟩
    simp[Tryz.f99,hi,hy,hb,hlc,Nat.lt_succ_of_lt hlc,h134,c1,hlN,ex_loop,firstReg,h1,stops,app_new0,List.getElem?_append_left,tok_new,set_tok,gc_app _ _ _ hG]
  ·right
   refine⟨fun h=>c1 (by have:=h.2.1;omega),?_⟩
   simp[Tryz.f99,hi,hy,hb,hlc,h134,c1,stops,app_new0,List.getElem?_append_left]
def HeadOK (t:PT):Prop:=t.ps.length≤2∧t.arrs.length≤8∧(∀ i s,t.ps[i]? =some s→PsOK t i s)∧∀i a,t.arrs[i]? =some a→ArOK t i a
set_option maxHeartbeats 1000000 in
theorem e99 (hx:∀a ∈ t.arrs,okLins a.sizes) (hps:t.ps.length≤1073741823) (harr:t.arrs.length≤1073741823):
  (∃ K',call X 99 [.ptr c 0 0] G K=some (.ret (.tup []),G,K++K')∧HeadOK t)∨∃K',call X 99 [.ptr c 0 0] G K=some (.panic (.iface 163 (.agg [])),G,K++K')∧¬HeadOK t:=by
 have hlc:c < G.length:=(List.getElem?_eq_some_iff.1 hb).1
 have hG:G≠[]:=by rintro rfl;simp at hb
 have hb0:=hb
 simp only[ckB_def]at hb
 by_cases c1:(t.ps.length:Int)≤2
 ·have c1':t.ps.length≤2:=by omega
  by_cases c2:(t.arrs.length:Int)≤8
  ·have c2':t.arrs.length≤8:=by omega
   obtain⟨o,h1,h3⟩:=loop99a G K c t k hb0 c1'
   obtain⟨o2,h4,h5⟩:=loop99b G K c t k hb0 c1' c2' hx
   simp only[lb99_3,Tryz.f99,S99a,bodyOf_some,sub_seq0,sub_seq1,sub_block,sub_loop,sub_nil]at h1
   simp only[lb99_9,Tryz.f99,S99b,bodyOf_some,sub_seq0,sub_seq1,sub_block,sub_loop,sub_nil]at h4
   simp at h1 h4
   rcases h3 with⟨hps,e,rfl,g1,g2⟩ |⟨hps,e,r,K',rfl⟩
   ·rcases h5 with⟨har,e2,r2,K2,rfl⟩ |⟨har,e2,r2,K2,rfl⟩
    ·left
     refine⟨K2,?_,c1',c2',hps,har⟩
     rw[call_eq (by decide) (by simp)]
     simp[Tryz.func99,Tryz.f99,envOf,ex_loop,firstReg,hb,hlc,c1,c1',c2,c2',h1,g1,g2,h4,tok_new,set_tok,gc_own0' _ _ hG,leave_pure]
    ·right
     refine⟨K2,?_,fun hq=>har hq.2.2.2⟩
     rw[call_eq (by decide) (by simp)]
     simp[Tryz.func99,Tryz.f99,envOf,ex_loop,firstReg,hb,hlc,c1,c1',c2,c2',h1,g1,g2,h4,tok_new,set_tok,gc_own0' _ _ hG]
   ·right
    refine⟨K',?_,fun hq=>hps hq.2.2.1⟩
    rw[call_eq (by decide) (by simp)]
    simp[Tryz.func99,Tryz.f99,envOf,ex_loop,firstReg,hb,hlc,c1,c1',c2,c2',h1,tok_new,set_tok,gc_own0' _ _ hG]
  ·right
   have c2': ¬t.arrs.length≤8:=by omega
   refine⟨[],?_,fun hq=>c2' hq.2.1⟩
   rw[call_eq (by decide) (by simp)]
   simp[Tryz.func99,Tryz.f99,envOf,hb,hlc,c1,c1',c2,c2']
 ·right
  have c1': ¬t.ps.length≤2:=by omega
  refine⟨[],?_,fun hq=>c1' hq.1⟩
  rw[call_eq (by decide) (by simp)]
  simp[Tryz.func99,Tryz.f99,envOf,hb,hlc,c1,c1']
end
end T
end
section
open Go Go.Proofs Go.Sym
namespace T
attribute [-simp] getElem?_pos
def GoodP (t:PT):Prop:=HeadOK t∧sszL t.body≤256∧∀s ∈ t.body,GoodS t t.ps s
theorem r98_ok (b0:Blk) (x:Int) (r:List Blk) (K:List Nat):runD X (ex X) 98 [.ptr 1 0 0] .niface (b0::⟨1,[[.int .i64 x]],.box⟩::r) K=some (b0::⟨1,[[.int .i64 x]],.box⟩::r,K):=by
 unfold runD
 simp[Tryz.func98,Tryz.f98,recOf,envOf,endD]
theorem set_new0 (H:List Blk) (a x:Blk):(H++[a]).set H.length x=H++[x]:=by
 rw[List.set_append_right _ _ (Nat.le_refl _)]
 simp
theorem r98_stp (b0:Blk) (x:Int) (r:List Blk) (K:List Nat):runD X (ex X) 98 [.ptr 1 0 0] (.iface 163 (.agg [])) (b0::⟨1,[[.int .i64 x]],.box⟩::r) K=some (b0::⟨1,[[.int .i64 1]],.box⟩::r,K):=by
 unfold runD
 simp[Tryz.func98,Tryz.f98,recOf,envOf,endD,app_new0,set_new0]
def b60 (t:PT):Blk:=⟨3,[[lst 1 (t.ps.map strC),lst 2 (t.arrs.map Arr.cs),lst 19 (t.body.map Stm.cs)]],.box⟩
set_option maxHeartbeats 1000000 in
theorem e60 (t:PT) (h:t.Ok):∃(e:Int) (K:List Nat),call X 60 [.agg t.p.cs] [] []=some (.ret (.int .i64 e),[],K)∧(e=1∧¬GoodP t∨e=0∧GoodP t):=by
 have hb:([b60 t,⟨1,[[.int .i64 0]],.box⟩,ckB t 0]:List Blk)[2]? =some (ckB t 0):=rfl
 have h99:=e99 [b60 t,⟨1,[[.int .i64 0]],.box⟩,ckB t 0] [] 2 t 0 hb (fun a ha=>(h.arr a ha).2) h.ps h.arrs
 simp only[b60,ckB_def]at h99
 rcases h99 with⟨K1,h99,hH⟩ |⟨K1,h99,hH⟩
 ·have hp2:=hH.1
  have h100:=e100 [b60 t,⟨1,[[.int .i64 0]],.box⟩,ckB t 0] (K1++[t.ps.length]) 2 t t.ps 1 (.tok K1.length) t.body 0 (by omega) hb ⟨by simp,by simp,fun i h=>by cases h;simp⟩ hp2 h.ps h.body (fun s hs=>⟨h.stm s hs,specS t hp2 h.arrs (h.stm s hs)⟩)
  have h101:=ic101 (t.ps.map strC) (by simp;omega)
  unfold OutC at h100
  simp only[b60,ckB_def]at h100
  simp at h99
  rcases h100 with⟨K2,h100,hs,hg⟩ |⟨k2,K2,h100,hn⟩
  ·simp at h100
   refine⟨0,(K1++[t.ps.length])++K2,?_,.inr ⟨rfl,hH,by simpa using hs,hg⟩⟩
   rw[call_dfr (by decide) (by simp)]
   simp[PT.cs,Tryz.func60,Tryz.f60,callD,dfrOf,finD,envOf,h99,h101,h100,r98_ok,leave_pure]
  ·simp at h100
   refine⟨1,(K1++[t.ps.length])++K2,?_,.inl ⟨rfl,fun hq=>hn ⟨by simpa using hq.2.1,hq.2.2⟩⟩⟩
   rw[call_dfr (by decide) (by simp)]
   simp[PT.cs,Tryz.func60,Tryz.f60,callD,dfrOf,finD,envOf,h99,h101,h100,r98_stp,leave_pure]
 ·simp at h99
  refine⟨1,K1,?_,.inl ⟨rfl,fun hq=>hH hq.1⟩⟩
  rw[call_dfr (by decide) (by simp)]
  simp[PT.cs,Tryz.func60,Tryz.f60,callD,dfrOf,finD,envOf,h99,r98_stp,leave_pure]
theorem ic60 (t:PT) (h:t.Ok):(icall X (call X) 60 [.agg t.p.cs]=some (.ret (.int .i64 1))∧¬GoodP t)∨(icall X (call X) 60 [.agg t.p.cs]=some (.ret (.int .i64 0))∧GoodP t):=by
 obtain⟨e,K,h1,h2⟩:=e60 t h
 have h3:icall X (call X) 60 [.agg t.p.cs]=some (.ret (.int .i64 e)):=icall_ret (v:=.int .i64 e) (H:=[]) (K:=K) (by simp) (by simp) h1 rfl rfl rfl
 rcases h2 with⟨rfl,h2⟩ |⟨rfl,h2⟩
 ·exact .inl ⟨h3,h2⟩
 ·exact .inr ⟨h3,h2⟩
end T
end
section
open Go Go.Proofs Go.Sym
namespace T
attribute [-simp] getElem?_pos
def rfC (r:Int×List Lin):List AV:=[.int .i64 r.1,lst 2 (r.2.map Lin.cs)]
theorem rfC_def (r):rfC r=[.int .i64 r.1,lst 2 (r.2.map Lin.cs)]:=Eq.trans rfl rfl
attribute [simp] rfC_def
mutual
def rds:Ex→List (Int×List Lin)
 | .mk op _ _ rA subs args=>if op=2 then [(rA,subs)]else rdsL args
def rdsL:List Ex→List (Int×List Lin)
 | []=>[]
 |e::r=>rds e++rdsL r
end
mutual
theorem rds_len:∀e:Ex,(rds e).length≤nsz e
 | .mk op _ _ rA subs args=>by
  unfold rds nsz
  split
  ·simp
  ·have:=rdsL_len args;omega
theorem rdsL_len:∀l:List Ex,(rdsL l).length≤nszL l
 | []=>by simp[rdsL,nszL]
 |e::r=>by
  have h1:=rds_len e
  have h2:=rdsL_len r
  simp[rdsL,nszL]
  omega
end
theorem rdsL_take_succ:∀(l:List Ex) (i:Nat) (e:Ex),l[i]? =some e→rdsL (l.take (i+1))=rdsL (l.take i)++rds e
 | [],_,_,h=>by simp at h
 |a::r,0,s,h=>by cases h;simp[rdsL]
 |a::r,i+1,s,h=>by
  have:=rdsL_take_succ r i s (by simpa using h)
  simp[rdsL,this,List.append_assoc]
theorem nszL_mem:∀(l:List Ex) (e:Ex),e ∈ l→nsz e≤nszL l
 |a::r,e,h=>by
  rcases List.mem_cons.1 h with rfl |h
  ·simp[nszL]
  ·have:=nszL_mem r e h;simp[nszL];omega
theorem nszL_take:∀(l:List Ex) (i:Nat) (e:Ex),l[i]? =some e→nszL (l.take i)+nsz e≤nszL l
 | [],_,_,h=>by simp at h
 |a::r,0,s,h=>by cases h;simp[nszL]
 |a::r,i+1,s,h=>by
  have:=nszL_take r i s (by simpa using h)
  simp[nszL];omega
def S63 (op k:Int) (L:Lin) (rA:Int) (subs:List Lin) (args:List Ex) (i:Nat):St:=⟨[(3,.lst 2 ((rdsL (args.take i)).map rfC) (.tok 0)),(14,lst 7 (args.map Ex.cs)),(15,.int .i64 args.length),(16,.int .i64 i)],[⟨7,[Ex.cs (.mk op k L rA subs args)],.box⟩],[(rdsL (args.take i)).length],0⟩
theorem ic63 {e:Ex} (h:OkEx e):nsz e≤1000→icall X (call X) 63 [.agg e.cs]=some (.ret (.lst (szOf 2 ((rds e).map rfC)) ((rds e).map rfC) .no)):=by
 induction h with
 | @mk op k1 L rA subs args hL hs ha hargs ih=>
 intro hz
 have hz':nszL args≤999:=by simp[nsz]at hz;omega
 by_cases c:op=2
 ·subst c
  have h106:=ic106 rA subs hs
  have hr:rds (.mk 2 k1 L rA subs args)=[(rA,subs)]:=by rw[rds,if_pos rfl]
  rw[hr]
  refine icall_ret (v:=.lst 2 [rfC (rA,subs)] .exact) (H:=[]) (K:=[]) (by simp) (by simp) ?_ rfl (by simp) (by simp)
  rw[call_eq (by decide) (by simp)]
  simp[Tryz.func63,Tryz.f63,envOf,h106,leave_pure]
 ·have hloop:∃o,(∀ s,s.gc [3,14,15,16] 1 1=S63 op k1 L rA subs args 0→loopE X 63 lb63_5 (St.gc [3,14,15,16] 1 1) s=some o)∧∃e,o= .exit 0 ⟨e,[⟨7,[Ex.cs (.mk op k1 L rA subs args)],.box⟩],[(rdsL args).length],0⟩∧get e 3= .lst 2 ((rdsL args).map rfC) (.tok 0):=by
   refine loop_inv (S63 op k1 L rA subs args) (fun i=>i≤args.length) (fun i=>args.length-i) _ (fun i hi'=>?_) 0 (Nat.zero_le _)
   by_cases hi:i < args.length
   ·right
    have hx:=List.getElem?_eq_getElem hi
    have hw:=wrap_nat i (by omega)
    have h1:=rdsL_take_succ args i _ hx
    have h2:=nszL_take args i _ hx
    have h3:=rdsL_len (args.take i)
    have h4:=rds_len args[i]
    have h5:=ih _ (List.getElem_mem hi) (by omega)
    generalize args[i]=x at*
    have hlim:(rdsL (args.take i)).length+(rds x).length≤1073741824:=by omega
    generalize rds x=R at*
    generalize hA:rdsL (args.take i)=A at*
    obtain⟨p1,p2,p3,p4,p5,p6⟩:=x
    simp at h5
    have hor:szOf 2 (R.map rfC)=2∨R=[]:=by cases R <;> simp
    simp[lb63_5,Tryz.f63,S63,hi,hw,hx,h5,hA,hlim,hor]
    exact⟨i+1,⟨⟨by rw[h1,List.map_append],by omega⟩,by rw[h1,List.length_append]⟩,by omega,by omega⟩
   ·left
    obtain rfl:i=args.length:=by omega
    simp[lb63_5,Tryz.f63,S63,stops]
  obtain⟨o,h1,e,rfl,g1⟩:=hloop
  simp only[lb63_5,Tryz.f63,S63,bodyOf_some,sub_seq0,sub_seq1,sub_block,sub_loop,sub_nil]at h1
  simp[rdsL]at h1
  have hr:rds (.mk op k1 L rA subs args)=rdsL args:=by rw[rds,if_neg c]
  rw[hr]
  refine icall_ret (v:=.lst 2 ((rdsL args).map rfC) (.tok 0)) (H:=[]) (K:=[(rdsL args).length]) (by simp) (by simp) ?_ rfl (by simp) (by simp)
  rw[call_eq (by decide) (by simp)]
  simp[Tryz.func63,Tryz.f63,envOf,ex_loop,firstReg,c,h1,g1,leave_pure]
end T
end
section
open Go Go.Proofs Go.Sym
namespace T
attribute [-simp] getElem?_pos
noncomputable def rec29 (env:List (Nat×AV)) (st:LoopSt):Blk:=⟨0,[],.rng 29 (ntOf Tryz.prog 29) env [14] ra29 rb29 st⟩
theorem rok29:okR 29 [14] ra29 rb29=true:=by kernel_rfl
def AccAt (E:Blk) (K:List Nat) (acc:List Inf):Prop:=
 (acc=[]∧E=⟨1,[[.lst 0 [] .nil]],.box⟩)∨∃i,E=⟨1,[[.lst 22 (acc.map Inf.cs) (.tok i)]],.box⟩∧K[i]? =some acc.length∧acc≠[]
set_option maxHeartbeats 1000000 in
theorem rd29_skip (env:List (Nat×AV)) (b0 E b2:Blk) (R:List Blk) (K:List Nat) (z1 z2:Nat) (r1 r2:List (List AV)) (c1 c2:Cap) (s:Stm) (h3:s.kind≠3):
  call X (rid+3) [.agg (.lst z1 r1 c1:: .lst z2 r2 c2::s.cs)] (b0::E::b2::rec29 env .ready::R) K=some (.ret (.bool true),b0::E::b2::rec29 env .ready::R,K):=by
 have hrok:=rok29
 simp only[ra29,rb29,Tryz.f29,bodyOf_some,sub_seq0,sub_seq1,sub_block,sub_loop,sub_nil,sub_rng0,sub_rng1]at hrok
 obtain⟨kind,name,low,high,step,mark,dim,pieces,tA,tS,val,body,els⟩:=s
 obtain⟨op,k1,L,rA,subs,args⟩:=val
 have h3:kind≠3:=h3
 rw[round_eq]
 simp[roundOf,rec29,xRok,hrok,roundEnv,ra29,rb29,Tryz.f29,h3,readyB,putSt,finR,app_new0,set_new0]
theorem pure_strip (a:Nat) (b:List (List AV)) (c:Cap) (h:c≠ .bor):pureB (strip (.lst a b c))=true:=by cases c <;> first |rfl |exact absurd rfl h
def infOf (r1:List (List AV)) (l:List ByteArray) (s:Stm):Inf:=⟨.lst (szOf 1 r1) r1 .no,l.map strC,s.cs++[.lst (szOf 2 ((rds s.val).map rfC)) ((rds s.val).map rfC) .no]⟩
set_option maxHeartbeats 4000000 in
theorem rd29_asg (env:List (Nat×AV)) (h5:get env 5= .ptr 1 0 0) (b0 E b2:Blk) (R:List Blk) (K:List Nat) (acc:List Inf) (hE:AccAt E K acc) (hacc:acc.length≤1000) (r1:List (List AV)) (l:List ByteArray) (z1 z2:Nat) (c1 c2:Cap) (hz1:szOf z1 r1=szOf 1 r1) (hz2:szOf z2 (l.map strC)=szOf 1 (l.map strC)) (hc1:c1≠ .bor) (hc2:c2≠ .bor) (s:Stm) (hs:OkStm s) (h3:s.kind=3) (hv:nsz s.val≤64):
  ∃E' K',call X (rid+3) [.agg (.lst z1 r1 c1:: .lst z2 (l.map strC) c2::s.cs)] (b0::E::b2::rec29 env .ready::R) K=some (.ret (.bool true),b0::E'::b2::rec29 env .ready::R,K')∧AccAt E' K' (acc++[infOf r1 l s])∧K.length≤K'.length:=by
 have hrok:=rok29
 simp only[ra29,rb29,Tryz.f29,bodyOf_some,sub_seq0,sub_seq1,sub_block,sub_loop,sub_nil,sub_rng0,sub_rng1]at hrok
 have h62:=copy_ok hs
 unfold C62 at h62
 have hval:OkEx s.val:=by cases hs;assumption
 have h63:=ic63 hval (by omega)
 obtain⟨kind,name,low,high,step,mark,dim,pieces,tA,tS,val,body,els⟩:=s
 have h3':kind=3:=h3
 subst h3'
 have hvv:Stm.val (.mk 3 name low high step mark dim pieces tA tS val body els)=val:=rfl
 rw[hvv]at h63
 obtain⟨op,k1,L,rA,subs,args⟩:=val
 simp at h62 h63
 have hlim:acc.length+1≤1073741824:=by omega
 have hp1:=pure_strip z1 r1 c1 hc1
 have hp2:=pure_strip z2 (l.map strC) c2 hc2
 rcases hE with⟨rfl,rfl⟩ |⟨i,rfl,hK,hne⟩
 ·refine⟨⟨1,[[.lst 22 (([]++[infOf r1 l (.mk 3 name low high step mark dim pieces tA tS (.mk op k1 L rA subs args) body els)]).map Inf.cs) (.tok K.length)]],.box⟩,K++[1],?_,.inr ⟨K.length,rfl,by simp[tok_new],by simp⟩,by simp⟩
  rw[round_eq]
  simp[roundOf,rec29,xRok,hrok,roundEnv,ra29,rb29,Tryz.f29,h5,h62,h63,hp1,hp2,hz1,hz2,readyB,putSt,finR,app_new0,set_new0,infOf,Stm.val]
 ·refine⟨⟨1,[[.lst 22 ((acc++[infOf r1 l (.mk 3 name low high step mark dim pieces tA tS (.mk op k1 L rA subs args) body els)]).map Inf.cs) (.tok i)]],.box⟩,K.set i (acc.length+1),?_,.inr ⟨i,rfl,by rw[List.getElem?_set_self (List.getElem?_eq_some_iff.1 hK).1];simp,by simp⟩,by simp⟩
  rw[round_eq]
  simp[roundOf,rec29,xRok,hrok,roundEnv,ra29,rb29,Tryz.f29,h5,h62,h63,hp1,hp2,hz1,hz2,hlim,hK,readyB,putSt,finR,app_new0,set_new0,infOf,Stm.val]
def Inf.nl (i:Inf):Nat:=i.nm.length
theorem list4 {G:List Blk} {r:Blk} (h:G[3]? =some r):∃b0 b1 b2 R,G=b0::b1::b2::r::R:=by
 rcases G with _ |⟨b0,_ |⟨b1,_ |⟨b2,_ |⟨b3,R⟩⟩⟩⟩
 ·simp at h
 ·simp at h
 ·simp at h
 ·simp at h
 ·exact⟨b0,b1,b2,R,by simp at h;rw[h]⟩
theorem rd29 (env:List (Nat×AV)) (h5:get env 5= .ptr 1 0 0) (G:List Blk) (h3:G[3]? =some (rec29 env .ready)) (E:Blk) (h1:G[1]? =some E) (K:List Nat) (acc:List Inf) (hE:AccAt E K acc) (hacc:acc.length≤1000) (r1:List (List AV)) (l:List ByteArray) (z1 z2:Nat) (c1 c2:Cap) (hz1:szOf z1 r1=szOf 1 r1) (hz2:szOf z2 (l.map strC)=szOf 1 (l.map strC)) (hc1:c1≠ .bor) (hc2:c2≠ .bor) (hl:l.length≤12) (s:Stm) (hs:OkStm s) (hv:s.kind=3→nsz s.val≤64):
  ∃E' K' is,call X (rid+3) [.agg (.lst z1 r1 c1:: .lst z2 (l.map strC) c2::s.cs)] G K=some (.ret (.bool true),G.set 1 E',K')∧AccAt E' K' (acc++is)∧K.length≤K'.length∧is.length≤1∧is.map Inf.nl=if s.kind=3 then [l.length]else []:=by
 obtain⟨b0,b1,b2,R,rfl⟩:=list4 h3
 have hb:b1=E:=by simpa using h1
 subst hb
 by_cases hk:s.kind=3
 ·obtain⟨E',K',h,h',h''⟩:=rd29_asg env h5 b0 b1 b2 R K acc hE hacc r1 l z1 z2 c1 c2 hz1 hz2 hc1 hc2 s hs hk (hv hk)
  exact⟨E',K',_,h,h',h'',by simp,by simp[infOf,Inf.nl,hk]⟩
 ·exact⟨b1,K,[],rd29_skip env b0 b1 b2 R K z1 z2 r1 (l.map strC) c1 c2 s hk,by simpa using hE,Nat.le_refl _,by simp,by simp[hk]⟩
end T
end
section
open Go Go.Proofs Go.Sym
namespace T
attribute [-simp] getElem?_pos
theorem tok_new2 (K:List Nat) (a n:Nat) (r:List Nat):(K++a::n::r)[K.length+1]? =some n:=by
 rw[List.getElem?_append_right (by omega),Nat.add_sub_cancel_left]
 rfl
theorem set_tok2 (K:List Nat) (a n m:Nat) (r:List Nat):(K++a::n::r).set (K.length+1) m=K++a::m::r:=by
 rw[List.set_append_right _ _ (by omega),Nat.add_sub_cancel_left]
 rfl
structure RwOK (K:List Nat) (rows:List (List AV)) (z:Nat) (cp:Cap):Prop where
 bor:cp≠ .bor
 sz:szOf z rows=szOf 1 rows
 tok:∀i,cp= .tok i→i < K.length
theorem RwOK.scrub {K:List Nat} {rows:List (List AV)} {z:Nat} {cp:Cap} (h:RwOK K rows z cp) (n m:Nat) (hm:K.length≤m):Sym.scrub n m (.lst z rows cp)= .lst z rows cp:=by
 cases cp with
 |tok i=>have:=h.tok i rfl;simp[Sym.scrub];omega
 |_=>rfl
theorem RwOK.fz {K:List Nat} {rows:List (List AV)} {z:Nat} {cp:Cap} (h:RwOK K rows z cp) (a:Nat→Option Blk):freeze a (.lst z rows cp)= .lst (szOf 1 rows) rows .no:=by rw[fz_any _ _ _ _ h.bor,h.sz]
theorem RwOK.mono {K:List Nat} {rows:List (List AV)} {z:Nat} {cp:Cap} (h:RwOK K rows z cp) {K':List Nat} (hk:K.length≤K'.length):RwOK K' rows z cp:=⟨h.bor,h.sz,fun i hi=>Nat.lt_of_lt_of_le (h.tok i hi) hk⟩
def yB:Blk:=⟨1,[[.yld 3]],.box⟩
def fB:Blk:=⟨1,[[.fn 103 [.ptr 4 0 0,.ptr 5 0 0]]],.box⟩
theorem AccAt.app {E:Blk} {K:List Nat} {acc:List Inf} (h:AccAt E K acc) (K':List Nat):AccAt E (K++K') acc:=by
 rcases h with h |⟨i,h1,h2,h3⟩
 ·exact .inl h
 ·exact .inr ⟨i,h1,by rw[List.getElem?_append_left (List.getElem?_eq_some_iff.1 h2).1,h2],h3⟩
theorem GoodS.parts {t:PT} {l:List ByteArray} {s:Stm} (h:GoodS t l s):l.length≤t.ps.length+10∧(s.kind=3→nsz s.val≤64)∧(∀ x ∈ s.body,GoodS t (if s.kind=1 then l++[s.name]else l) x)∧(∀ x ∈ s.els,GoodS t (if s.kind=1 then l++[s.name]else l) x):=by
 cases h with
 |loop h1 g1 g2 g3 g4 g5 g6 g7 g8 g9 g10 g11 g12 h2=>exact⟨h1,fun h=>by simp[Stm.kind]at h,fun x hx=>by simpa[Stm.kind,Stm.name] using h2 x hx,fun x hx=>by simp[Stm.els]at hx⟩
 |test h1 g1 g2 g3 g4 g5 h2 h3=>exact⟨h1,fun h=>by simp[Stm.kind]at h,fun x hx=>by simpa[Stm.kind] using h2 x hx,fun x hx=>by simpa[Stm.kind] using h3 x hx⟩
 | @asg _ name low high step mark dim pieces tA tS val body els h1 h2=>
  simp only[asgB,Bool.and_eq_true,decide_eq_true_eq]at h2
  have e1:body=[]:=List.length_eq_zero_iff.1 h2.1.1.1.1.2
  have e2:els=[]:=List.length_eq_zero_iff.1 h2.1.1.1.2
  subst e1 e2
  exact⟨h1,fun _=>h2.1.2,fun x hx=>by simp[Stm.body]at hx,fun x hx=>by simp[Stm.els]at hx⟩
mutual
def nlS (n:Nat):Stm→List Nat
 | .mk kind _ _ _ _ _ _ _ _ _ _ body els=>(if kind=3 then [n]else [])++nlL (if kind=1 then n+1 else n) body++nlL (if kind=1 then n+1 else n) els
def nlL (n:Nat):List Stm→List Nat
 | []=>[]
 |s::r=>nlS n s++nlL n r
end
theorem nlL_take_succ (n:Nat):∀(l:List Stm) (i:Nat) (s:Stm),l[i]? =some s→nlL n (l.take (i+1))=nlL n (l.take i)++nlS n s
 | [],_,_,h=>by simp at h
 |a::r,0,s,h=>by cases h;simp[nlL]
 |a::r,i+1,s,h=>by
  have:=nlL_take_succ n r i s (by simpa using h)
  simp[nlL,this,List.append_assoc]
def WalkOK (env:List (Nat×AV)) (t:PT) (ss:List Stm):Prop:=∀(G:List Blk) (E:Blk) (K:List Nat) (acc:List Inf) (rp:List (List AV)) (z1:Nat) (c1:Cap) (l:List ByteArray) (z2:Nat) (c2:Cap),
 G[1]? =some E→G[3]? =some (rec29 env .ready)→G[4]? =some yB→G[5]? =some fB→AccAt E K acc→acc.length+sszL ss≤1000→rp.length+2*sszL ss≤1000000→RwOK K rp z1 c1→RwOK K (l.map strC) z2 c2→(∀ s ∈ ss,GoodS t l s)→l.length≤13→
 ∃E' K' is,call X 103 [lst 19 (ss.map Stm.cs),.lst z1 rp c1,.lst z2 (l.map strC) c2,.ptr 4 0 0,.ptr 5 0 0] G K=some (.ret (.bool true),G.set 1 E',K')∧AccAt E' K' (acc++is)∧K.length≤K'.length∧is.length≤sszL ss∧is.map Inf.nl=nlL l.length ss
def S103 (env:List (Nat×AV)) (G:List Blk) (ss:List Stm) (rp:List (List AV)) (z1:Nat) (c1:Cap) (l:List ByteArray) (z2:Nat) (c2:Cap) (p:Nat×Blk×List Nat×List Inf):St:=
 ⟨[(1,.lst z1 rp c1),(2,.lst z2 (l.map strC) c2),(3,.ptr 4 0 0),(4,.ptr 5 0 0),(13,lst 19 (ss.map Stm.cs)),(14,.int .i64 ss.length),(15,.int .i64 p.1)],G.set 1 p.2.1,p.2.2.1,G.length⟩
section
variable (env:List (Nat×AV)) (h5:get env 5= .ptr 1 0 0) (t:PT) (hp:t.ps.length≤2) (ss:List Stm) (hss:ss.length≤1073741823) (hs:∀s ∈ ss,OkStm s∧WalkOK env t s.body∧WalkOK env t s.els)
 (G:List Blk) (E:Blk) (K:List Nat) (acc:List Inf) (rp:List (List AV)) (z1:Nat) (c1:Cap) (l:List ByteArray) (z2:Nat) (c2:Cap)
 (g1:G[1]? =some E) (g3:G[3]? =some (rec29 env .ready)) (g4:G[4]? =some yB) (g5:G[5]? =some fB) (hE:AccAt E K acc) (hacc:acc.length+sszL ss≤1000) (hrp:rp.length+2*sszL ss≤1000000) (hr1:RwOK K rp z1 c1) (hr2:RwOK K (l.map strC) z2 c2) (hgd:∀s ∈ ss,GoodS t l s) (hl:l.length≤13)
include h5 hp hss hs g1 g3 g4 g5 hE hacc hrp hr1 hr2 hgd hl
theorem loop103:∃o,(∀ s,s.gc [1,2,3,4,13,14,15] G.length K.length=S103 env G ss rp z1 c1 l z2 c2 (0,E,K,[])→loopE X 103 lb103_2 (St.gc [1,2,3,4,13,14,15] G.length K.length) s=some o)∧
  ∃e E' K' is,o= .exit 0 ⟨e,G.set 1 E',K',G.length⟩∧AccAt E' K' (acc++is)∧K.length≤K'.length∧is.length≤sszL ss∧is.map Inf.nl=nlL l.length ss:=by
 have hG:G≠[]:=by rintro rfl;simp at g1
 have hl5:5 < G.length:=(List.getElem?_eq_some_iff.1 g5).1
 refine loop_inv (S103 env G ss rp z1 c1 l z2 c2) (fun q=>q.1≤ss.length∧AccAt q.2.1 q.2.2.1 (acc++q.2.2.2)∧K.length≤q.2.2.1.length∧q.2.2.2.length≤sszL (ss.take q.1)∧q.2.2.2.map Inf.nl=nlL l.length (ss.take q.1)) (fun q=>ss.length-q.1) _ (fun q hq=>?_) (0,E,K,[]) ⟨Nat.zero_le _,by simpa using hE,Nat.le_refl _,by simp[sszL],by simp[nlL]⟩
 obtain⟨i,E1,K1,is⟩:=q
 obtain⟨hi',hE1,hK1,hlen,hnm⟩:=hq
 simp only at hi' hE1 hK1 hlen hnm
 by_cases hi:i < ss.length
 ·right
  have hx:=List.getElem?_eq_getElem hi
  have hw:=wrap_nat i (by omega)
  have hmem:=List.getElem_mem hi
  have hts:=sszL_take_succ ss i _ hx
  have hnt:=nlL_take_succ l.length ss i _ hx
  obtain⟨hok,hwb,hwe⟩:=hs _ hmem
  obtain⟨hgn,hgv,hgb,hge⟩:=(hgd _ hmem).parts
  have hle:sszL (ss.take i)+ssz ss[i]≤sszL ss:=by
   have:=sszL_take_le ss (i+1)
   omega
  generalize ss[i]=s at*
  have hsz:ssz s=1+sszL s.body+sszL s.els:=by obtain⟨kind,name,low,high,step,mark,dim,pieces,tA,tS,val,body,els⟩:=s;rfl
  have h4:4 < G.length:=by omega
  have q4:(G.set 1 E1)[4]? =some yB:=by rw[List.getElem?_set_ne (by decide),g4]
  have q5:(G.set 1 E1)[5]? =some fB:=by rw[List.getElem?_set_ne (by decide),g5]
  have l1:1 < G.length:=by omega
  obtain⟨E2,K2,is2,hrd,hE2,hK2,his2,hnm2⟩:=rd29 env h5 (G.set 1 E1++[⟨19,[s.cs],.box⟩]) (by rw[List.getElem?_append_left (by simp;omega),List.getElem?_set_ne (by decide),g3]) E1 (by rw[List.getElem?_append_left (by simp;omega),List.getElem?_set_self l1])
   (K1++[rp.length+1,l.length]) (acc++is) (hE1.app _) (by simp;omega) (rp++[[.int .i64 i]]) l 1 1 (.tok K1.length) (.tok (K1.length+1)) rfl rfl (by simp) (by simp) (by omega) s hok hgv
  have hset:∀x y,(G.set 1 x++[(⟨19,[s.cs],.box⟩:Blk)]).set 1 y=G.set 1 y++[⟨19,[s.cs],.box⟩]:=fun x y=>by rw[List.set_append_left _ _ (by simpa using l1),List.set_set]
  rw[hset]at hrd
  generalize hB:(⟨19,[s.cs],.box⟩:Blk)=B at*
  have qg1:∀x,(G.set 1 x++[B])[1]? =some x:=fun x=>by rw[List.getElem?_append_left (by simp;omega),List.getElem?_set_self l1]
  have qg3:∀x,(G.set 1 x++[B])[3]? =some (rec29 env .ready):=fun x=>by rw[List.getElem?_append_left (by simp;omega),List.getElem?_set_ne (by decide),g3]
  have qg4:∀x,(G.set 1 x++[B])[4]? =some yB:=fun x=>by rw[List.getElem?_append_left (by simp;omega),List.getElem?_set_ne (by decide),g4]
  have qg5:∀x,(G.set 1 x++[B])[5]? =some fB:=fun x=>by rw[List.getElem?_append_left (by simp;omega),List.getElem?_set_ne (by decide),g5]
  have l5:5 < G.length:=hl5
  have hfz1:=hr1.fz
  have hfz2:=hr2.fz
  have hsc1:=hr1.scrub
  have hsc2:=hr2.scrub
  have hrl0:rp.length≤1073741824:=by omega
  have hrl1:rp.length+1≤1073741824:=by omega
  have hrl2:rp.length+1+1≤1073741824:=by omega
  have hll0:l.length≤1073741824:=by omega
  have hll1:l.length+1≤1073741824:=by omega
  obtain⟨kind,name,low,high,step,mark,dim,pieces,tA,tS,val,body,els⟩:=s
  obtain⟨op,k1,L,rA,subs,args⟩:=val
  have hsz:1+sszL body+sszL els=ssz (.mk kind name low high step mark dim pieces tA tS (.mk op k1 L rA subs args) body els):=rfl
  have hwb:WalkOK env t body:=hwb
  have hwe:WalkOK env t els:=hwe
  have hgb:∀x ∈ body,GoodS t (if kind=1 then l++[name]else l) x:=hgb
  have hge:∀x ∈ els,GoodS t (if kind=1 then l++[name]else l) x:=hge
  by_cases c1k:kind=1
  ·subst c1k
   simp only[if_true]at hgb hge
   obtain⟨E3,K4,is3,hcb,hE3,hK3,his3,hnm3⟩:=hwb (G.set 1 E2++[B]) E2 ((K2++[l.length+1])++[rp.length+2]) (acc++is++is2) (rp++[[.int .i64 i],[.int .i64 0]]) 1 (.tok (K2++[l.length+1]).length) (l++[name]) 1 (.tok K2.length) (qg1 E2) (qg3 E2) (qg4 E2) (qg5 E2) ((hE2.app _).app _) (by simp;omega) (by simp;omega) ⟨by simp,rfl,fun i h=>by cases h;simp⟩ ⟨by simp,rfl,fun i h=>by cases h;simp⟩ hgb (by first |omega | (simp;omega))
   obtain⟨E4,K5,is4,hce,hE4,hK4,his4,hnm4⟩:=hwe (G.set 1 E3++[B]) E3 (K4++[rp.length+2]) (acc++is++is2++is3) (rp++[[.int .i64 i],[.int .i64 1]]) 1 (.tok K4.length) (l++[name]) 1 (.tok K2.length) (qg1 E3) (qg3 E3) (qg4 E3) (qg5 E3) (hE3.app _) (by simp;omega) (by simp;omega) ⟨by simp,rfl,fun i h=>by cases h;simp⟩ ⟨by simp,rfl,fun i h=>by cases h;simp at hK3 ⊢;omega⟩ hge (by first |omega | (simp;omega))
   rw[hset]at hcb hce
   subst hB
   simp[yB,fB,Stm.body,Stm.els]at hrd hcb hce
   simp[lb103_2,Tryz.f103,S103,yB,fB,hi,hw,hx,h4,l5,q4,q5,g4,g5,l1,hrd,hcb,hce,hfz1,hfz2,hsc1,hsc2,hrl0,hrl1,hrl2,hll0,hll1,tok_new,set_tok,tok_new2,set_tok2,List.getElem?_append_left,app_new0,app_set0,gc_set0 _ _ _ _ _ hG]
   have k2:K1.length+2≤K2.length:=by simpa using hK2
   have k3:K2.length+2≤K4.length:=by simpa using hK3
   have k4:K4.length+1≤K5.length:=by simpa using hK4
   try simp only[Stm.body,Stm.els]at his3 his4
   refine⟨i+1,E4,K5,⟨⟨hsc1 _ _ (by omega),hsc2 _ _ (by omega),by omega⟩,rfl,rfl⟩,⟨by omega,is++is2++is3++is4,by simpa[List.append_assoc] using hE4,by omega,by(simp;omega),?_⟩,by omega⟩
   rw[hnt,List.map_append,List.map_append,List.map_append,hnm,hnm2,hnm3,hnm4]
   simp[nlS,Stm.kind,Stm.body,Stm.els,List.append_assoc]
  ·skip
   have hkk: ¬kind=1:=c1k
   simp only[if_neg hkk]at hgb hge
   obtain⟨E3,K4,is3,hcb,hE3,hK3,his3,hnm3⟩:=hwb (G.set 1 E2++[B]) E2 (K2++[rp.length+2]) (acc++is++is2) (rp++[[.int .i64 i],[.int .i64 0]]) 1 (.tok K2.length) (l) z2 c2 (qg1 E2) (qg3 E2) (qg4 E2) (qg5 E2) (hE2.app _) (by simp;omega) (by simp;omega) ⟨by simp,rfl,fun i h=>by cases h;simp⟩ (hr2.mono (by have h:=hK2;rw[List.length_append]at h;rw[List.length_append];omega)) hgb (by first |omega | (simp;omega))
   obtain⟨E4,K5,is4,hce,hE4,hK4,his4,hnm4⟩:=hwe (G.set 1 E3++[B]) E3 (K4++[rp.length+2]) (acc++is++is2++is3) (rp++[[.int .i64 i],[.int .i64 1]]) 1 (.tok K4.length) (l) z2 c2 (qg1 E3) (qg3 E3) (qg4 E3) (qg5 E3) (hE3.app _) (by simp;omega) (by simp;omega) ⟨by simp,rfl,fun i h=>by cases h;simp⟩ (hr2.mono (by have h:=hK2;have h3:=hK3;rw[List.length_append]at h h3;rw[List.length_append];omega)) hge (by first |omega | (simp;omega))
   rw[hset]at hcb hce
   subst hB
   simp[yB,fB,Stm.body,Stm.els]at hrd hcb hce
   simp[lb103_2,Tryz.f103,S103,yB,fB,hi,hw,hx,h4,l5,q4,q5,g4,g5,l1,hrd,hcb,hce,hfz1,hfz2,hsc1,hsc2,hrl0,hrl1,hrl2,hll0,hll1,hkk,tok_new,set_tok,tok_new2,set_tok2,List.getElem?_append_left,app_new0,app_set0,gc_set0 _ _ _ _ _ hG]
   have k2:K1.length+2≤K2.length:=by simpa using hK2
   have k3:K2.length+1≤K4.length:=by simpa using hK3
   have k4:K4.length+1≤K5.length:=by simpa using hK4
   try simp only[Stm.body,Stm.els]at his3 his4
   refine⟨i+1,E4,K5,⟨⟨hsc1 _ _ (by omega),hsc2 _ _ (by omega),by omega⟩,rfl,rfl⟩,⟨by omega,is++is2++is3++is4,by simpa[List.append_assoc] using hE4,by omega,by(simp;omega),?_⟩,by omega⟩
   rw[hnt,List.map_append,List.map_append,List.map_append,hnm,hnm2,hnm3,hnm4]
   by_cases h3k:kind=3 <;> simp[nlS,Stm.kind,Stm.body,Stm.els,hkk,h3k,List.append_assoc]
 ·left
  obtain rfl:i=ss.length:=by omega
  rw[List.take_length]at hlen hnm
  simp[lb103_2,Tryz.f103,S103,stops]
  exact⟨_,E1,K1,⟨rfl,rfl,rfl⟩,is,hE1,hK1,hlen,hnm⟩
end
set_option maxHeartbeats 1000000 in
theorem walk_list (env:List (Nat×AV)) (h5:get env 5= .ptr 1 0 0) (t:PT) (hp:t.ps.length≤2) (ss:List Stm) (hss:ss.length≤1073741823) (hs:∀s ∈ ss,OkStm s∧WalkOK env t s.body∧WalkOK env t s.els):WalkOK env t ss:=by
 intro G E K acc rp z1 c1 l z2 c2 g1 g3 g4 g5 hE hacc hrp hr1 hr2 hgd hl
 have hG:G≠[]:=by rintro rfl;simp at g1
 have l5:5 < G.length:=(List.getElem?_eq_some_iff.1 g5).1
 have l4:4 < G.length:=by omega
 obtain⟨o,h1,e,E',K',is,rfl,a1,a2,a3,a4⟩:=loop103 env h5 t hp ss hss hs G E K acc rp z1 c1 l z2 c2 g1 g3 g4 g5 hE hacc hrp hr1 hr2 hgd hl
 refine⟨E',K',is,?_,a1,a2,a3,a4⟩
 have h0:S103 env G ss rp z1 c1 l z2 c2 (0,E,K,[])=⟨[(1,.lst z1 rp c1),(2,.lst z2 (l.map strC) c2),(3,.ptr 4 0 0),(4,.ptr 5 0 0),(13,lst 19 (ss.map Stm.cs)),(14,.int .i64 ss.length),(15,.int .i64 0)],G,K,G.length⟩:=by
  simp only[S103,set_self g1]
  rfl
 rw[h0]at h1
 simp only[lb103_2,Tryz.f103,bodyOf_some,sub_seq0,sub_seq1,sub_block,sub_loop,sub_nil]at h1
 simp at h1
 have hsc1:=hr1.scrub
 have hsc2:=hr2.scrub
 rw[call_eq (by decide) (by simp)]
 simp[Tryz.func103,Tryz.f103,envOf,ex_loop,firstReg,l4,l5,h1,hsc1,hsc2,gc_own0' _ _ hG,leave_pure]
theorem walk_stm (env:List (Nat×AV)) (h5:get env 5= .ptr 1 0 0) (t:PT) (hp:t.ps.length≤2) {s:Stm} (h:OkStm s):WalkOK env t s.body∧WalkOK env t s.els:=by
 induction h with
 | @mk kind name low high step mark dim pieces tA tS val body els hname hlow hhigh hpie htS hval hbl hel hbody hels ih1 ih2=>
 exact⟨walk_list env h5 t hp body hbl fun s hs=>⟨hbody s hs,ih1 s hs⟩,walk_list env h5 t hp els hel fun s hs=>⟨hels s hs,ih2 s hs⟩⟩
end T
end
section
open Go Go.Proofs Go.Sym
namespace T
attribute [-simp] getElem?_pos
theorem e61 (t:PT) (H:List Blk) (K:List Nat):call X 61 [.agg t.p.cs] H K=some (.ret (.fn 102 [.ptr H.length 0 0]),H++[b60 t],K):=by
 rw[call_eq (by decide) (by simp)]
 simp[PT.cs,Tryz.func61,Tryz.f61,envOf,leave,b60]
def E0:Blk:=⟨1,[[.lst 0 [] .nil]],.box⟩
set_option maxHeartbeats 1000000 in
theorem e102 (t:PT) (h:t.Ok) (hg:GoodP t) (env:List (Nat×AV)) (h5:get env 5= .ptr 1 0 0):∃E' K' is,call X 102 [.yld 3,.ptr 2 0 0] [b60 t,E0,b60 t,rec29 env .ready] []=some (.ret (.tup []),[b60 t,E',b60 t,rec29 env .ready],K')∧AccAt E' K' is∧is.length≤256∧is.map Inf.nl=nlL t.ps.length t.body:=by
 obtain⟨⟨hp2,_⟩,hsz,hgs⟩:=hg
 obtain⟨E',K',is,h1,h2,_,h3,h4⟩:=walk_list env h5 t hp2 t.body h.body (fun s hs=>⟨h.stm s hs,walk_stm env h5 _ hp2 (h.stm s hs)⟩) [b60 t,E0,b60 t,rec29 env .ready,yB,fB] E0 [] [] [] 0 .nil t.ps (szOf 1 (t.ps.map strC)) .no rfl rfl rfl rfl (.inl ⟨rfl,rfl⟩) (by simp;omega) (by simp;omega) ⟨by simp,rfl,fun i h=>by cases h⟩ ⟨by simp,by simp,fun i h=>by cases h⟩ hgs (by omega)
 refine⟨E',K',is,?_,by simpa using h2,by omega,h4⟩
 simp[yB,fB,b60,E0]at h1
 rw[call_eq (by decide) (by simp)]
 simp[Tryz.func102,Tryz.f102,envOf,b60,E0,h1,leave_pure]
def env29 (t:PT):List (Nat×AV):=[(13,.fn 102 [.ptr 2 0 0]),(12,.agg t.p.cs),(5,.ptr 1 0 0),(10,.bool false),(9,.int .i64 0),(4,.int .i64 0),(8,.int .i64 0),(7,.agg t.p.cs),(3,.int .i64 0),(2,.lst 0 [] .nil),(1,.ptr 0 0 0),(0,.agg t.p.cs)]
theorem nl_le (t:PT) (hp:t.ps.length≤2) {l:List ByteArray} {s:Stm} (h:GoodS t l s):∀n ∈ nlS l.length s,n≤12:=by
 have key:∀(l:List ByteArray) (ss:List Stm),(∀ s ∈ ss,∀n ∈ nlS l.length s,n≤12)→∀n ∈ nlL l.length ss,n≤12:=fun l ss=>by
  induction ss with
  |nil=>intro _ n hn;simp[nlL]at hn
  |cons a r ih=>
   intro h n hn
   simp only[nlL,List.mem_append]at hn
   rcases hn with hn |hn
   ·exact h a (by simp) n hn
   ·exact ih (fun s hs=>h s (by simp[hs])) n hn
 induction h with
 | @loop l name low high step mark dim pieces tA tS val body h1 g1 g2 g3 g4 g5 g6 g7 g8 g9 g10 g11 g12 h2 ih=>
  intro n hn
  simp only[nlS,List.mem_append]at hn
  rcases hn with(hn |hn) |hn
  ·simp at hn
  ·have:=key (l++[name]) body ih
   simp only[List.length_append,List.length_cons,List.length_nil,Nat.zero_add]at this
   exact this n (by simpa using hn)
  ·simp[nlL]at hn
 | @test l name low high step mark dim pieces tA tS val body els h1 g1 g2 g3 g4 g5 h2 h3 ih1 ih2=>
  intro n hn
  simp only[nlS,List.mem_append]at hn
  rcases hn with(hn |hn) |hn
  ·simp at hn
  ·exact key l body ih1 n (by simpa using hn)
  ·exact key l els ih2 n (by simpa using hn)
 | @asg l name low high step mark dim pieces tA tS val body els h1 h2=>
  simp only[asgB,Bool.and_eq_true,decide_eq_true_eq]at h2
  have e1:body=[]:=List.length_eq_zero_iff.1 h2.1.1.1.1.2
  have e2:els=[]:=List.length_eq_zero_iff.1 h2.1.1.1.2
  subst e1 e2
  intro n hn
  simp[nlS,nlL]at hn
  omega
theorem nlL_le (t:PT) (h:GoodP t):∀n ∈ nlL t.ps.length t.body,n≤12:=by
 obtain⟨⟨hp2,_⟩,_,hgs⟩:=h
 have key:∀(ss:List Stm),(∀ s ∈ ss,GoodS t t.ps s)→∀n ∈ nlL t.ps.length ss,n≤12:=fun ss=>by
  induction ss with
  |nil=>intro _ n hn;simp[nlL]at hn
  |cons a r ih=>
   intro h n hn
   simp only[nlL,List.mem_append]at hn
   rcases hn with hn |hn
   ·exact nl_le t hp2 (h a (by simp)) n hn
   ·exact ih (fun s hs=>h s (by simp[hs])) n hn
 exact key t.body hgs
noncomputable def perr (t:PT):Int:=open Classical in if GoodP t then 0 else 1
set_option maxHeartbeats 1000000 in
theorem asg (t:PT) (h:t.Ok):∃is,Asg t.p is (perr t)∧(∀ i ∈ is,i.nm.length≤12)∧is.length≤256∧(GoodP t→is.map Inf.nl=nlL t.ps.length t.body):=by
 rcases ic60 t h with⟨h60,hg⟩ |⟨h60,hg⟩
 ·have he:perr t=1:=if_neg hg
  rw[he]
  refine⟨[],?_,by simp,by simp,fun h=>absurd h hg⟩
  unfold Asg
  simp only[PT.cs]at h60 ⊢
  refine icall_ret (v:=.tup [.lst 0 [] .nil,.int .i64 1]) (H:=[]) (K:=[]) (by simp) (by simp) ?_ rfl (by simp) (by simp)
  rw[call_eq (by decide) (by simp)]
  simp[Tryz.func29,Tryz.f29,envOf,h60,leave_pure]
 ·have h61:=e61 t [b60 t,E0] []
  obtain⟨E',K',is,h102,hA,hn,hm⟩:=e102 t h hg (env29 t) rfl
  have he:perr t=0:=if_pos hg
  rw[he]
  refine⟨is,?_,fun i hi=>nlL_le t hg _ (hm ▸ List.mem_map_of_mem (f:=Inf.nl) hi),hn,fun _=>hm⟩
  unfold Asg
  simp only[PT.cs,b60,E0,env29,rec29,ra29,rb29,Tryz.f29,bodyOf_some,sub_seq0,sub_seq1,sub_block,sub_loop,sub_nil,sub_rng0,sub_rng1]at h60 h61 h102
  simp at h61 h102
  have hlen:is.length≤1073741824:=by omega
  rcases hA with⟨rfl,rfl⟩ |⟨i,rfl,hK,hne⟩
  ·refine icall_ret (v:=.tup [.lst 0 [] .nil,.int .i64 0]) (H:=[]) (K:=K') (by simp) (by simp) ?_ rfl (by simp) (by simp[PT.cs])
   rw[call_eq (by decide) (by simp)]
   simp[PT.cs,Tryz.func29,Tryz.f29,envOf,h60,h61,ex_rangeFunc,rid_def,h102,rangeEnd,leave_pure]
  ·refine icall_ret (v:=.tup [.lst 22 (is.map Inf.cs) (.tok i),.int .i64 0]) (H:=[]) (K:=K') (by simp) (by simp) ?_ rfl (by simp) (by simp[PT.cs])
   rw[call_eq (by decide) (by simp)]
   simp[PT.cs,Tryz.func29,Tryz.f29,envOf,h60,h61,ex_rangeFunc,rid_def,h102,rangeEnd,leave_pure]
end T
end
section
open Go Go.Proofs Go.Sym
namespace T
end T
end
section
open Go Go.Proofs Go.Sym
namespace T
attribute [-simp] getElem?_pos
theorem e94 (n:Int):call X 94 [int n] [] []=some (.ret (.bool (fits n)),[],[]):=by
 rw[call_eq (by decide) (by simp)]
 by_cases h:(-1048576:Int)≤n
 ·simp[Tryz.func94,Tryz.f94,envOf,leave_pure,fits,h]
 ·simp[Tryz.func94,Tryz.f94,envOf,leave_pure,fits,h]
theorem ic94 (n:Int):icall X (call X) 94 [.int .i64 n]=some (.ret (.bool (fits n))):=icall_ret (by simp) (by simp) (e94 n) rfl rfl rfl
attribute [simp] ic94
def S52 (l:Lin) (i:Nat):St:=⟨[(1,.ptr 0 0 0),(6,ints l.C),(7,int l.C.length),(8,int i)],[⟨2,[l.cs],.box⟩],[],0⟩
theorem ic52 (l:Lin) (hl:okLin l):icall X (call X) 52 [.agg [.lst (szOf 1 (l.C.map intC)) (l.C.map intC) .no,.int .i64 l.K]]=some (.ret (.bool (linValid l))):=by
 have hloop:∃o,(∀ s,s.gc [1,6,7,8] 1 0=S52 l 0→loopE X 52 lb52_2 (St.gc [1,6,7,8] 1 0) s=some o)∧((l.C.all fits=true∧∃e,o= .exit 0 ⟨e,[⟨2,[l.cs],.box⟩],[],0⟩∧get e 1= .ptr 0 0 0)∨(l.C.all fits=false∧∃e b,o= .ret ⟨(2,.bool false)::e,b,[],0⟩)):=by
  refine loop_all l.C (S52 l) fits _ _ (by simp[lb52_2,Tryz.f52,S52,stops]) (fun i c hc hi=>?_)
  have hw:=wrap_nat i (by have:=hl;simp[okLin]at this;omega)
  cases hf:fits c with
  |true=>
   refine⟨fun _=>?_,fun h=>by simp at h⟩
   simp[lb52_2,Tryz.f52,S52,hi,hw,hc,hf]
  |false=>
   refine⟨fun h=>by simp at h,fun _=>?_⟩
   simp[lb52_2,Tryz.f52,S52,hi,hc,hf,stops]
 obtain⟨o,h1,h2⟩:=hloop
 simp only[lb52_2,Tryz.f52,S52,bodyOf_some,sub_seq0,sub_seq1,sub_block,sub_loop,sub_nil]at h1
 simp at h1
 refine icall_ret (v:=.bool (linValid l)) (H:=[]) (K:=[]) (by simp) (by simp) ?_ rfl rfl rfl
 rw[call_eq (by decide) (by simp)]
 rcases h2 with⟨h,e,rfl,he⟩ |⟨h,e,b,rfl⟩
 ·by_cases hn:(l.C.length:Int)≤12
  ·have hn':l.C.length≤12:=by omega
   simp[hn',Tryz.func52,Tryz.f52,envOf,ex_loop,firstReg,h1,he,h,hn,linValid,leave_pure]
  ·have hn': ¬l.C.length≤12:=by omega
   simp[hn',Tryz.func52,Tryz.f52,envOf,ex_loop,firstReg,h1,he,h,hn,linValid,leave_pure]
 ·simp[Tryz.func52,Tryz.f52,envOf,ex_loop,firstReg,h1,h,linValid,leave_pure]
theorem ic128 (l:Lin) (hl:okLin l) (n:Int):icall X (call X) 128 [.agg [.lst (szOf 1 (l.C.map intC)) (l.C.map intC) .no,.int .i64 l.K],.int .i64 n]=some (.ret (.bool (over n l))):=by
 have h:=ic52 l hl
 refine icall_ret (v:=.bool (over n l)) (H:=[]) (K:=[]) (by simp) (by simp) ?_ rfl rfl rfl
 rw[call_eq (by decide) (by simp)]
 cases hv:linValid l with
 |true=>rw[hv]at h;simp[Tryz.func128,Tryz.f128,envOf,h,hv,over,leave_pure]
 |false=>rw[hv]at h;simp[Tryz.func128,Tryz.f128,envOf,h,hv,over,leave_pure]
theorem ic172 (l:Lin):icall X (call X) 172 [.agg [.lst (szOf 1 (l.C.map intC)) (l.C.map intC) .no,.int .i64 l.K]]=some (.ret (.bool (plainLin l))):=by
 refine icall_ret (v:=.bool (plainLin l)) (H:=[]) (K:=[]) (by simp) (by simp) ?_ rfl rfl rfl
 rw[call_eq (by decide) (by simp)]
 by_cases c:l.C=[]
 ·simp[Tryz.func172,Tryz.f172,envOf,c,plainLin,leave_pure]
 ·simp[Tryz.func172,Tryz.f172,envOf,c,plainLin,leave_pure]
theorem ic159 (A:Int) (subs:List Lin):icall X (call X) 159 [.agg [.int .i64 A,.lst (szOf 2 (subs.map Lin.cs)) (subs.map Lin.cs) .no]]=some (.ret (.bool (plainRef A subs))):=by
 refine icall_ret (v:=.bool (plainRef A subs)) (H:=[]) (K:=[]) (by simp) (by simp) ?_ rfl rfl rfl
 rw[call_eq (by decide) (by simp)]
 by_cases c:A=0
 ·simp[Tryz.func159,Tryz.f159,envOf,c,plainRef,leave_pure]
 ·simp[Tryz.func159,Tryz.f159,envOf,c,plainRef,leave_pure]
theorem ic160 (e:Ex):icall X (call X) 160 [.agg e.cs]=some (.ret (.bool (plainEx e))):=by
 obtain⟨op,k,L,A,subs,args⟩:=e
 have h1:=ic172 L
 have h2:=ic159 A subs
 refine icall_ret (v:=.bool (plainEx (.mk op k L A subs args))) (H:=[]) (K:=[]) (by simp) (by simp) ?_ rfl rfl rfl
 rw[call_eq (by decide) (by simp)]
 by_cases c1:op=0
 ·by_cases c2:k=0
  ·by_cases c3:plainLin L=true
   ·by_cases c4:plainRef A subs=true
    ·simp[Tryz.func160,Tryz.f160,envOf,c1,c2,c3,c4,h1,h2,plainEx,leave_pure]
    ·simp[Tryz.func160,Tryz.f160,envOf,c1,c2,c3,c4,h1,h2,plainEx,leave_pure]
   ·simp[Tryz.func160,Tryz.f160,envOf,c1,c2,c3,h1,plainEx,leave_pure]
  ·simp[Tryz.func160,Tryz.f160,envOf,c1,c2,plainEx,leave_pure]
 ·simp[Tryz.func160,Tryz.f160,envOf,c1,plainEx,leave_pure]
section
variable (t:Tab) (n:Int)
def S161b (i:Nat) (l:List Row) (j:Nat):St:=⟨[(1,.int .i64 n),(20,tabV t),(21,.int .i64 t.length),(22,.int .i64 i),(34,rowsV l),(35,.int .i64 l.length),(36,.int .i64 j)],[⟨1,[[tabV t]],.box⟩],[],0⟩
theorem loop161b (i:Nat) (l:List Row) (hl:l.length≤1073741823) (hr:∀r ∈ l,okLin r.L):∃o,(∀ s,s.gc [1,20,21,22,34,35,36] 1 0=S161b t n i l 0→loopE X 161 lb161_9 (St.gc [1,20,21,22,34,35,36] 1 0) s=some o)∧
  ((l.all (okB n)=true∧∃e,o= .exit 2 ⟨e,[⟨1,[[tabV t]],.box⟩],[],0⟩∧get e 1= .int .i64 n∧get e 20=tabV t∧get e 21= .int .i64 t.length∧get e 22= .int .i64 i)∨(l.all (okB n)=false∧∃e b,o= .ret ⟨(4,.bool false)::e,b,[],0⟩)):=by
 refine loop_all l (S161b t n i l) (okB n) _ _ (by simp[lb161_9,Tryz.f161,S161b,stops]) (fun j r hc hj=>?_)
 have hw:=wrap_nat j (by omega)
 have h128:=ic128 r.L (hr _ (List.mem_of_getElem? hc)) n
 unfold okB
 by_cases c1:over n r.L=true
 ·by_cases c2:r.D < 1
  ·have c2': ¬1≤r.D:=by omega
   refine⟨fun h=>by simp[c2']at h,fun _=>?_⟩
   simp[lb161_9,Tryz.f161,S161b,hj,hc,h128,c1,c2,stops]
  ·have c2':1≤r.D:=by omega
   by_cases c3:512 < r.D
   ·have c3': ¬r.D≤512:=by omega
    refine⟨fun h=>by simp[c3']at h,fun _=>?_⟩
    simp[lb161_9,Tryz.f161,S161b,hj,hc,h128,c1,c2,c3,stops]
   ·have c3':r.D≤512:=by omega
    refine⟨fun _=>?_,fun h=>by simp[c1,c2',c3']at h⟩
    simp[lb161_9,Tryz.f161,S161b,hj,hw,hc,h128,c1,c2,c3]
 ·refine⟨fun h=>by simp[c1]at h,fun _=>?_⟩
  simp[lb161_9,Tryz.f161,S161b,hj,hc,h128,c1,stops]
def S161a (i:Nat):St:=⟨[(1,.int .i64 n),(20,tabV t),(21,.int .i64 t.length),(22,.int .i64 i)],[⟨1,[[tabV t]],.box⟩],[],0⟩
theorem loop161a (h:okTab' t):∃o,(∀ s,s.gc [1,20,21,22] 1 0=S161a t n 0→loopE X 161 lb161_4 (St.gc [1,20,21,22] 1 0) s=some o)∧
  ((t.all (okP n)=true∧∃e,o= .exit 0 ⟨e,[⟨1,[[tabV t]],.box⟩],[],0⟩)∨(t.all (okP n)=false∧∃e b,o= .ret ⟨(4,.bool false)::e,b,[],0⟩)):=by
 refine loop_all t (S161a t n) (okP n) _ _ (by simp[lb161_4,Tryz.f161,S161a,stops]) (fun i l hc hi=>?_)
 have hw:=wrap_nat i (by have:=h.1;omega)
 obtain⟨hl,hr⟩:=h.2 l (List.mem_of_getElem? hc)
 obtain⟨o,h1,h2⟩:=loop161b t n i l hl hr
 simp only[lb161_9,Tryz.f161,S161b,bodyOf_some,sub_seq0,sub_seq1,sub_block,sub_loop,sub_nil]at h1
 simp at h1
 unfold okP
 by_cases c1:(l.length:Int) < 1
 ·have c1'':l=[]:=List.length_eq_zero_iff.1 (by omega)
  subst c1''
  refine⟨fun h=>by simp at h,fun _=>?_⟩
  simp[lb161_4,Tryz.f161,S161a,hi,hc,stops]
 ·have c1':1≤l.length:=by omega
  by_cases c2:(96:Int) < l.length
  ·have c2': ¬l.length≤96:=by omega
   have c2'':96 < l.length:=by omega
   refine⟨fun h=>by simp[c2']at h,fun _=>?_⟩
   simp[lb161_4,Tryz.f161,S161a,hi,hc,c1,c1',c2,c2'',stops]
  ·have c2':l.length≤96:=by omega
   have c2'': ¬96 < l.length:=by omega
   rcases h2 with⟨hb,e,rfl,g1,g2,g3,g4⟩ |⟨hb,e,b,rfl⟩
   ·refine⟨fun _=>?_,fun h=>by simp[c1',c2',hb]at h⟩
    simp[lb161_4,Tryz.f161,S161a,hi,hw,hc,c1,c1',c2,c2'',ex_loop,firstReg,h1,g1,g2,g3,g4]
   ·refine⟨fun h=>by simp[c1',c2',hb]at h,fun _=>?_⟩
    simp[lb161_4,Tryz.f161,S161a,hi,hc,c1,c1',c2,c2'',ex_loop,firstReg,h1,stops]
theorem ic161 (h:okTab' t):icall X (call X) 161 [.agg [.lst (szOf 1 (t.map rowsC)) (t.map rowsC) .no],.int .i64 n]=some (.ret (.bool (bndB n t))):=by
 obtain⟨o,h1,h2⟩:=loop161a t n h
 simp only[lb161_4,Tryz.f161,S161a,bodyOf_some,sub_seq0,sub_seq1,sub_block,sub_loop,sub_nil]at h1
 simp at h1
 have fin:∀b,call X 161 [.agg [.lst (szOf 1 (t.map rowsC)) (t.map rowsC) .no],.int .i64 n] [] []=some (.ret (.bool b),[],[])→bndB n t=b→icall X (call X) 161 [.agg [.lst (szOf 1 (t.map rowsC)) (t.map rowsC) .no],.int .i64 n]=some (.ret (.bool (bndB n t))):=fun b h e=>by rw[e];exact icall_ret (by simp) (by simp) h rfl rfl rfl
 unfold bndB at*
 by_cases c1:(t.length:Int) < 1
 ·have c1'':t=[]:=List.length_eq_zero_iff.1 (by omega)
  subst c1''
  refine fin false ?_ (by simp)
  rw[call_eq (by decide) (by simp)]
  simp[Tryz.func161,Tryz.f161,envOf,leave_pure]
 ·have c1':1≤t.length:=by omega
  by_cases c2:(400:Int) < t.length
  ·have c2': ¬t.length≤400:=by omega
   have c2'':400 < t.length:=by omega
   refine fin false ?_ (by simp[c2'])
   rw[call_eq (by decide) (by simp)]
   simp[Tryz.func161,Tryz.f161,envOf,c1,c1',c2,c2'',leave_pure]
  ·have c2':t.length≤400:=by omega
   have c2'': ¬400 < t.length:=by omega
   rcases h2 with⟨hb,e,rfl⟩ |⟨hb,e,b,rfl⟩
   ·refine fin true ?_ (by simp[c1',c2',hb])
    rw[call_eq (by decide) (by simp)]
    simp[Tryz.func161,Tryz.f161,envOf,ex_loop,firstReg,h1,c1,c1',c2,c2'',leave_pure]
   ·refine fin false ?_ (by simp[hb])
    rw[call_eq (by decide) (by simp)]
    simp[Tryz.func161,Tryz.f161,envOf,ex_loop,firstReg,h1,c1,c1',c2,c2'',leave_pure]
end
theorem ic173 (c:Cnd) (h:okLin c.L):icall X (call X) 173 [.agg [.int .i64 c.kind,.int .i64 c.m,.lst (szOf 1 (c.L.C.map intC)) (c.L.C.map intC) .no,.int .i64 c.L.K]]=some (.ret (.bool (cndB c))):=by
 have h52:=ic52 c.L h
 have fin:∀b,call X 173 [.agg c.cs] [] []=some (.ret (.bool b),[],[])→cndB c=b→icall X (call X) 173 [.agg [.int .i64 c.kind,.int .i64 c.m,.lst (szOf 1 (c.L.C.map intC)) (c.L.C.map intC) .no,.int .i64 c.L.K]]=some (.ret (.bool (cndB c))):=fun b h e=>by rw[e];exact icall_ret (by simp) (by simp) h rfl rfl rfl
 cases hv:linValid c.L with
 |false=>
  rw[hv]at h52
  refine fin false ?_ (by simp[cndB,hv])
  rw[call_eq (by decide) (by simp)]
  simp[Tryz.func173,Tryz.f173,envOf,h52,leave_pure]
 |true=>
  rw[hv]at h52
  by_cases k2:c.kind=2
  ·by_cases m1:1≤c.m
   ·refine fin (decide (c.m≤512)) ?_ (by simp[cndB,k2,m1,hv])
    rw[call_eq (by decide) (by simp)]
    simp[Tryz.func173,Tryz.f173,envOf,k2,m1,h52,leave_pure]
   ·refine fin false ?_ (by simp[cndB,k2,m1])
    rw[call_eq (by decide) (by simp)]
    simp[Tryz.func173,Tryz.f173,envOf,k2,m1,h52,leave_pure]
  ·by_cases k0:c.kind=0
   ·refine fin (decide (c.m=0)) ?_ (by simp[cndB,k0,hv])
    rw[call_eq (by decide) (by simp)]
    simp[Tryz.func173,Tryz.f173,envOf,k0,h52,leave_pure]
   ·by_cases k1:c.kind=1
    ·refine fin (decide (c.m=0)) ?_ (by simp[cndB,k1,hv])
     rw[call_eq (by decide) (by simp)]
     simp[Tryz.func173,Tryz.f173,envOf,k1,h52,leave_pure]
    ·refine fin false ?_ (by simp[cndB,k0,k1,k2])
     rw[call_eq (by decide) (by simp)]
     simp[Tryz.func173,Tryz.f173,envOf,k0,k1,k2,h52,leave_pure]
section
variable (dim:Int) (P:List (List Cnd))
def S162b (i:Nat) (l:List Cnd) (j:Nat):St:=⟨[(1,.ptr 0 0 0),(22,lst 1 (P.map pieC)),(23,.int .i64 P.length),(24,.int .i64 i),(31,lst 4 (l.map Cnd.cs)),(32,.int .i64 l.length),(33,.int .i64 j)],[⟨2,[[.int .i64 dim,lst 1 (P.map pieC)]],.box⟩],[],0⟩
theorem loop162b (i:Nat) (l:List Cnd) (hl:l.length≤1073741823) (hr:∀c ∈ l,okLin c.L):∃o,(∀ s,s.gc [1,22,23,24,31,32,33] 1 0=S162b dim P i l 0→loopE X 162 lb162_9 (St.gc [1,22,23,24,31,32,33] 1 0) s=some o)∧
  ((l.all (cndN dim)=true∧∃e,o= .exit 2 ⟨e,[⟨2,[[.int .i64 dim,lst 1 (P.map pieC)]],.box⟩],[],0⟩∧get e 1= .ptr 0 0 0∧get e 22=lst 1 (P.map pieC)∧get e 23= .int .i64 P.length∧get e 24= .int .i64 i)∨(l.all (cndN dim)=false∧∃e b,o= .ret ⟨(2,.bool false)::e,b,[],0⟩)):=by
 refine loop_all l (S162b dim P i l) (cndN dim) _ _ (by simp[lb162_9,Tryz.f162,S162b,stops]) (fun j c hc hj=>?_)
 have hw:=wrap_nat j (by omega)
 have h173:=ic173 c (hr _ (List.mem_of_getElem? hc))
 unfold cndN
 cases hv:cndB c with
 |false=>
  rw[hv]at h173
  refine⟨fun h=>by simp at h,fun _=>?_⟩
  simp[lb162_9,Tryz.f162,S162b,hj,hc,h173,stops]
 |true=>
  rw[hv]at h173
  by_cases c1:(c.L.C.length:Int)=dim
  ·refine⟨fun _=>?_,fun h=>by simp[c1]at h⟩
   simp[lb162_9,Tryz.f162,S162b,hj,hw,hc,h173,c1]
  ·refine⟨fun h=>by simp[c1]at h,fun _=>?_⟩
   simp[lb162_9,Tryz.f162,S162b,hj,hc,h173,c1,stops]
def S162a (i:Nat):St:=⟨[(1,.ptr 0 0 0),(22,lst 1 (P.map pieC)),(23,.int .i64 P.length),(24,.int .i64 i)],[⟨2,[[.int .i64 dim,lst 1 (P.map pieC)]],.box⟩],[],0⟩
theorem ic162 (h:okPie P):icall X (call X) 162 [.agg [.int .i64 dim,.lst (szOf 1 (P.map pieC)) (P.map pieC) .no]]=some (.ret (.bool (setB dim P))):=by
 have hloop:∃o,(∀ s,s.gc [1,22,23,24] 1 0=S162a dim P 0→loopE X 162 lb162_4 (St.gc [1,22,23,24] 1 0) s=some o)∧((P.all (pieB dim)=true∧∃e b,o= .exit 0 ⟨e,b,[],0⟩)∨(P.all (pieB dim)=false∧∃e b,o= .ret ⟨(2,.bool false)::e,b,[],0⟩)):=by
  refine loop_all P (S162a dim P) (pieB dim) _ _ (by simp[lb162_4,Tryz.f162,S162a,stops]) (fun i l hc hi=>?_)
  have hw:=wrap_nat i (by have:=h.1;omega)
  obtain⟨hl,hr⟩:=h.2 _ (List.mem_of_getElem? hc)
  obtain⟨o,h1,h2⟩:=loop162b dim P i l hl hr
  simp only[lb162_9,Tryz.f162,S162b,bodyOf_some,sub_seq0,sub_seq1,sub_block,sub_loop,sub_nil]at h1
  simp at h1
  unfold pieB
  by_cases c1:(96:Int) < l.length
  ·have c1':96 < l.length:=by omega
   have c1'': ¬l.length≤96:=by omega
   refine⟨fun h=>by simp[c1'']at h,fun _=>?_⟩
   simp[lb162_4,Tryz.f162,S162a,hi,hc,c1,c1',stops]
  ·have c1': ¬96 < l.length:=by omega
   have c1'':l.length≤96:=by omega
   rcases h2 with⟨hb,e,rfl,g1,g2,g3,g4⟩ |⟨hb,e,b,rfl⟩
   ·refine⟨fun _=>?_,fun h=>by simp[c1'',hb]at h⟩
    simp[lb162_4,Tryz.f162,S162a,hi,hw,hc,c1,c1',ex_loop,firstReg,h1,g1,g2,g3,g4]
   ·refine⟨fun h=>by simp[c1'',hb]at h,fun _=>?_⟩
    simp[lb162_4,Tryz.f162,S162a,hi,hc,c1,c1',ex_loop,firstReg,h1,stops]
 obtain⟨o,h1,h2⟩:=hloop
 simp only[lb162_4,Tryz.f162,S162a,bodyOf_some,sub_seq0,sub_seq1,sub_block,sub_loop,sub_nil]at h1
 simp at h1
 have fin:∀b,call X 162 [.agg [.int .i64 dim,.lst (szOf 1 (P.map pieC)) (P.map pieC) .no]] [] []=some (.ret (.bool b),[],[])→setB dim P=b→icall X (call X) 162 [.agg [.int .i64 dim,.lst (szOf 1 (P.map pieC)) (P.map pieC) .no]]=some (.ret (.bool (setB dim P))):=fun b h e=>by rw[e];exact icall_ret (by simp) (by simp) h rfl rfl rfl
 by_cases d0:dim < 0
 ·refine fin false ?_ (by
              have: ¬0≤dim:=by omega
              simp[setB,this])
  rw[call_eq (by decide) (by simp)]
  simp[Tryz.func162,Tryz.f162,envOf,d0,leave_pure]
 ·by_cases d1:12 < dim
  ·refine fin false ?_ (by
               have: ¬dim≤12:=by omega
               simp[setB,this])
   rw[call_eq (by decide) (by simp)]
   simp[Tryz.func162,Tryz.f162,envOf,d0,d1,leave_pure]
  ·by_cases d2:(400:Int) < P.length
   ·have d2':400 < P.length:=by omega
    refine fin false ?_ (by
                have: ¬P.length≤400:=by omega
                simp[setB,this])
    rw[call_eq (by decide) (by simp)]
    simp[Tryz.func162,Tryz.f162,envOf,d0,d1,d2,d2',leave_pure]
   ·have d2': ¬400 < P.length:=by omega
    have e0:0≤dim:=by omega
    have e1:dim≤12:=by omega
    have e2:P.length≤400:=by omega
    rcases h2 with⟨hb,e,b,rfl⟩ |⟨hb,e,b,rfl⟩
    ·refine fin true ?_ (by simp[setB,e0,e1,e2,hb])
     rw[call_eq (by decide) (by simp)]
     simp[Tryz.func162,Tryz.f162,envOf,ex_loop,firstReg,h1,d0,d1,d2,d2',leave_pure]
    ·refine fin false ?_ (by simp[setB,hb])
     rw[call_eq (by decide) (by simp)]
     simp[Tryz.func162,Tryz.f162,envOf,ex_loop,firstReg,h1,d0,d1,d2,d2',leave_pure]
end
end T
end
section
open Go Go.Proofs Go.Sym
namespace T
attribute [-simp] getElem?_pos
def has (sub:List UInt8):List UInt8→Bool
 | []=>false
 |b::l=>sub.isPrefixOf (b::l)||has sub l
theorem contains_has (sub:List UInt8) (hs:sub≠[]):∀s,Lib.contains s sub=has sub s
 | []=>by
  cases sub with
  |nil=>exact absurd rfl hs
  |cons a r=>simp[Lib.contains,Lib.index,has]
 |b::l=>by
  have ih:=contains_has sub hs l
  unfold Lib.contains Lib.index has
  by_cases h:sub.isPrefixOf (b::l)=true
  ·simp[h]
  ·rw[Bool.not_eq_true]at h
   have h1:=Lib.index_ge l sub
   rw[←ih,h,Lib.contains]
   by_cases h2:Lib.index l sub=-1
   ·simp[h2]
   ·have h3:0≤Lib.index l sub:=by omega
    have h4:0≤Lib.index l sub+1:=by omega
    simp[h2,h3,h4]
def joinW:List (List UInt8)→List UInt8
 | []=>[32]
 |w::r=>32::(w++joinW r)
theorem joinW_cons (ws:List (List UInt8)):∃r,joinW ws=32::r:=by cases ws <;> exact⟨_,rfl⟩
theorem pre_word:∀(s w r:List UInt8),(∀ c ∈ s,c≠32)→(∀ c ∈ w,c≠32)→(s++[32]).isPrefixOf (w++32::r)=(s==w)
 | [],[],r,_,_=>by simp
 | [],b::w,r,_,hw=>by
  have:=hw b (by simp)
  simp[List.isPrefixOf];exact fun h=>this h.symm
 |a::s,[],r,hs,_=>by
  have:=hs a (by simp)
  simp[List.isPrefixOf,this]
 |a::s,b::w,r,hs,hw=>by
  have ih:=pre_word s w r (fun c hc=>hs c (by simp[hc])) (fun c hc=>hw c (by simp[hc]))
  simp only[List.cons_append,List.isPrefixOf,ih]
  rfl
theorem has_skip (s w l:List UInt8) (hw:∀c ∈ w,c≠32):has (32::s) (w++l)=has (32::s) l:=by
 induction w with
 |nil=>rfl
 |cons a r ih=>
  have h1:((32:UInt8)==a)=false:=by
   have:=hw a (by simp)
   simpa using fun h:32=a=>this h.symm
  rw[List.cons_append,has,ih (fun c hc=>hw c (by simp[hc])),List.isPrefixOf,h1]
  rfl
theorem has_join (s:List UInt8) (h0:s≠[]) (hs:∀c ∈ s,c≠32):∀(ws:List (List UInt8)),(∀ w ∈ ws,∀c ∈ w,c≠32)→has (32::(s++[32])) (joinW ws)=ws.any (fun w=>s==w)
 | [],_=>by
  cases s with
  |nil=>exact absurd rfl h0
  |cons a r=>simp[joinW,has,List.isPrefixOf]
 |w::ws,hw=>by
  have ih:=has_join s h0 hs ws (fun x hx=>hw x (by simp[hx]))
  obtain⟨r,hr⟩:=joinW_cons ws
  rw[joinW,has,has_skip _ _ _ (hw w (by simp)),ih,List.isPrefixOf,hr,pre_word s w r hs (hw w (by simp))]
  simp
def wordL:List (List UInt8):=[[97,110,100],[111,114],[116,114,117,101],[102,97,108,115,101],[102,111,114],[116,111],[115,116,101,112],[105,102],[101,108,115,101],[109,105,110],[109,97,120],[102,108,111,111,114],[99,101,105,108],[97,114,114,97,121],[112,97,114,97,109],[112,97,114,97,108,108,101,108],[118,101,99,116,111,114]]
theorem word_ok:∀w ∈ wordL,∀c ∈ w,c≠32:=by decide
theorem kw_join:kw150.data.toList=joinW wordL:=by kernel_rfl
theorem ld_no32 {s:ByteArray} (h:s.data.toList.all ldB=true):∀c ∈ s.data.toList,c≠32:=by
 intro c hc e
 have:=List.all_eq_true.1 h c hc
 subst e
 exact absurd this (by decide)
def words:List ByteArray:=wordL.map fun w=>⟨w.toArray⟩
theorem eqS_data (s x:ByteArray):eqS s x=(s.data.toList==x.data.toList):=by rw[eqS,Lib.toList_data,Lib.toList_data]
theorem nameB_words (s:ByteArray):nameB s=(preB s&& !memS words s):=by
 unfold nameB
 cases hp:preB s with
 |false=>rfl
 |true=>
  simp only[preB,Bool.and_eq_true]at hp
  obtain⟨⟨⟨h1,_⟩,_⟩,h2⟩:=hp
  have h0:s.data.toList≠[]:=fun h=>by rw[Lib.toList_data,h]at h1;simp at h1
  have e:((⟨#[32]⟩:ByteArray)++s++⟨#[32]⟩).data.toList=32::(s.data.toList++[32]):=by simp[ByteArray.data_append]
  rw[e,contains_has _ (by simp),kw_join,has_join _ h0 (ld_no32 h2) _ word_ok]
  congr 2
  simp only[memS,words,List.all_map,Function.comp_def,eqS_data]
  rw[Bool.eq_iff_iff]
  simp
theorem ic147 (c:Int):icall X (call X) 147 [.int .u8 c]=some (.ret (.bool (digB c))):=by
 unfold digB
 by_cases c1:48≤c
 ·refine icall_ret (v:=.bool (decide (48≤c)&&decide (c≤57))) (H:=[]) (K:=[]) (by simp) (by simp) ?_ rfl rfl rfl
  rw[call_eq (by decide) (by simp)]
  simp[Tryz.func147,Tryz.f147,envOf,c1,leave_pure]
 ·refine icall_ret (v:=.bool (decide (48≤c)&&decide (c≤57))) (H:=[]) (K:=[]) (by simp) (by simp) ?_ rfl rfl rfl
  rw[call_eq (by decide) (by simp)]
  simp[Tryz.func147,Tryz.f147,envOf,c1,leave_pure]
theorem ic146 (c:Int):icall X (call X) 146 [.int .u8 c]=some (.ret (.bool (letB c))):=by
 have go:∀b,call X 146 [.int .u8 c] [] []=some (.ret (.bool b),[],[])→letB c=b→icall X (call X) 146 [.int .u8 c]=some (.ret (.bool (letB c))):=fun b h e=>by rw[e];exact icall_ret (v:=.bool b) (H:=[]) (K:=[]) (by simp) (by simp) h rfl rfl rfl
 by_cases c1:97≤c
 ·by_cases c2:c≤122
  ·refine go true ?_ (by simp[letB,c1,c2])
   rw[call_eq (by decide) (by simp)]
   simp[Tryz.func146,Tryz.f146,envOf,c1,c2,leave_pure]
  ·have c3:65≤c:=by omega
   have c4: ¬c≤90:=by omega
   refine go false ?_ (by simp[letB,c2,c4])
   rw[call_eq (by decide) (by simp)]
   simp[Tryz.func146,Tryz.f146,envOf,c1,c2,c3,c4,leave_pure]
 ·by_cases c3:65≤c
  ·by_cases c4:c≤90
   ·refine go true ?_ (by simp[letB,c3,c4])
    rw[call_eq (by decide) (by simp)]
    simp[Tryz.func146,Tryz.f146,envOf,c1,c3,c4,leave_pure]
   ·refine go false ?_ (by simp[letB,c1,c4])
    rw[call_eq (by decide) (by simp)]
    simp[Tryz.func146,Tryz.f146,envOf,c1,c3,c4,leave_pure]
  ·refine go false ?_ (by simp[letB,c1,c3])
   rw[call_eq (by decide) (by simp)]
   simp[Tryz.func146,Tryz.f146,envOf,c1,c3,leave_pure]
theorem ic148:icall X (call X) 148 []=some (.ret (.lst (szOf 1 (words.map strC)) (words.map strC) .no)):=by
 refine icall_ret (v:=.lst 1 (words.map strC) .exact) (H:=[]) (K:=[]) (by simp) (by simp) ?_ rfl (by simp[words,wordL]) (by simp[words,wordL])
 rw[call_eq (by decide) (by simp)]
 simp[Tryz.func148,Tryz.f148,envOf,words,wordL,leave_pure]
def S130 (l:List ByteArray) (s:ByteArray) (i:Nat):St:=⟨[(1,.str s),(7,lst 1 (l.map strC)),(8,.int .i64 l.length),(9,.int .i64 i)],[],[],0⟩
theorem ic130 (l:List ByteArray) (hl:l.length≤1073741823) (s:ByteArray):icall X (call X) 130 [.lst (szOf 1 (l.map strC)) (l.map strC) .no,.str s]=some (.ret (.bool (memS l s))):=by
 have hloop:∃o,(∀ s',s'.gc [1,7,8,9] 0 0=S130 l s 0→loopE X 130 lb130_2 (St.gc [1,7,8,9] 0 0) s'=some o)∧((l.all (fun x=> !eqS s x)=true∧∃e,o= .exit 0 ⟨e,[],[],0⟩)∨(l.all (fun x=> !eqS s x)=false∧∃(e:_),o= .ret ⟨(4,.bool true)::e,[],[],0⟩)):=by
  refine loop_all l (S130 l s) (fun x=> !eqS s x) _ _ (by simp[lb130_2,Tryz.f130,S130,stops]) (fun i x hc hi=>?_)
  have hw:=wrap_nat i (by omega)
  unfold eqS
  by_cases c1:(s.toList==x.toList)=true
  ·refine⟨fun h=>(by rw[c1]at h;cases h),fun _=>?_⟩
   simp[-beq_iff_eq,lb130_2,Tryz.f130,S130,hi,hc,c1,stops]
  ·rw[Bool.not_eq_true]at c1
   refine⟨fun _=>?_,fun h=>(by rw[c1]at h;cases h)⟩
   simp[lb130_2,Tryz.f130,S130,hi,hw,hc,c1]
 obtain⟨o,h1,h2⟩:=hloop
 simp only[lb130_2,Tryz.f130,S130,bodyOf_some,sub_seq0,sub_seq1,sub_block,sub_loop,sub_nil]at h1
 simp at h1
 unfold memS
 rcases h2 with⟨hb,e,rfl⟩ |⟨hb,e,rfl⟩
 ·rw[hb]
  refine icall_ret (v:=.bool false) (H:=[]) (K:=[]) (by simp) (by simp) ?_ rfl rfl rfl
  rw[call_eq (by decide) (by simp)]
  simp[Tryz.func130,Tryz.f130,envOf,ex_loop,firstReg,h1,leave_pure]
 ·rw[hb]
  refine icall_ret (v:=.bool true) (H:=[]) (K:=[]) (by simp) (by simp) ?_ rfl rfl rfl
  rw[call_eq (by decide) (by simp)]
  simp[Tryz.func130,Tryz.f130,envOf,ex_loop,firstReg,h1,leave_pure]
def S129a (s:ByteArray) (i:Nat):St:=⟨[(0,.str s),(3,.int .i64 i)],[],[],0⟩
def S129b (s:ByteArray) (i:Nat):St:=⟨[(0,.str s),(37,lst 1 (words.map strC)),(38,.int .i64 words.length),(39,.int .i64 i)],[],[],0⟩
theorem ic129 (s:ByteArray):icall X (call X) 129 [.str s]=some (.ret (.bool (nameB s))):=by
 rw[nameB_words]
 have go:∀b,call X 129 [.str s] [] []=some (.ret (.bool b),[],[])→(preB s&& !memS words s)=b→icall X (call X) 129 [.str s]=some (.ret (.bool (preB s&& !memS words s))):=fun b h e=>by rw[e];exact icall_ret (v:=.bool b) (H:=[]) (K:=[]) (by simp) (by simp) h rfl rfl rfl
 by_cases c1:s.toList.isEmpty=true
 ·refine go false ?_ (by simp only[preB,c1];rfl)
  rw[call_eq (by decide) (by simp)]
  simp[-beq_iff_eq,Tryz.func129,Tryz.f129,envOf,c1,leave_pure]
 ·have hz:0 < s.size:=by
   rcases Nat.eq_zero_or_pos s.size with h |h
   ·exact absurd (by rw[bytes_empty h];simp) c1
   ·exact h
  rw[Bool.not_eq_true]at c1
  by_cases c2:(12:Int) < s.size
  ·refine go false ?_ (by
               have: ¬s.size≤12:=by omega
               simp only[preB,this];simp)
   rw[call_eq (by decide) (by simp)]
   simp[-beq_iff_eq,Tryz.func129,Tryz.f129,envOf,c1,c2,leave_pure]
  ·obtain⟨x,hx⟩:=bytes_at s 0 hz
   have hb:=ic146 x.toNat
   have c2':s.size≤12:=by omega
   have hpre:preB s=(letB x.toNat&&s.data.toList.all ldB):=by simp only[preB,c1,hx,c2',decide_true];rfl
   cases hl:letB x.toNat with
   |false=>
    rw[hl]at hb
    refine go false ?_ (by rw[hpre,hl];rfl)
    rw[call_eq (by decide) (by simp)]
    simp[-beq_iff_eq,Tryz.func129,Tryz.f129,envOf,c1,c2,hx,hb,leave_pure]
   |true=>
    rw[hl]at hb
    have hloop:∃o,(∀ s',s'.gc [0,3] 0 0=S129a s 0→loopE X 129 lb129_4 (St.gc [0,3] 0 0) s'=some o)∧((s.data.toList.all ldB=true∧∃e,o= .exit 0 ⟨e,[],[],0⟩∧get e 0= .str s)∨(s.data.toList.all ldB=false∧∃e,o= .ret ⟨(2,.bool false)::e,[],[],0⟩)):=by
     have hsz:s.data.toList.length=s.size:=rfl
     refine loop_all s.data.toList (S129a s) ldB _ _ (by rw[hsz];simp[lb129_4,Tryz.f129,S129a,stops]) (fun i y hy hi=>?_)
     rw[hsz]at hi
     rw[←bytes_list]at hy
     have hw:=wrap_nat i (by omega)
     have hb1:=ic146 y.toNat
     have hb2:=ic147 y.toNat
     unfold ldB
     cases v1:letB y.toNat with
     |true=>
      rw[v1]at hb1
      refine⟨fun _=>?_,fun h=>by simp at h⟩
      simp[lb129_4,Tryz.f129,S129a,hi,hw,hy,hb1]
     |false=>
      rw[v1]at hb1
      cases v2:digB y.toNat with
      |true=>
       rw[v2]at hb2
       refine⟨fun _=>?_,fun h=>by simp at h⟩
       simp[lb129_4,Tryz.f129,S129a,hi,hw,hy,hb1,hb2]
      |false=>
       rw[v2]at hb2
       refine⟨fun h=>by simp at h,fun _=>?_⟩
       simp[lb129_4,Tryz.f129,S129a,hi,hy,hb1,hb2,stops]
    have hloop2:∃o,(∀ s',s'.gc [0,37,38,39] 0 0=S129b s 0→loopE X 129 lb129_9 (St.gc [0,37,38,39] 0 0) s'=some o)∧((words.all (fun x=> !eqS s x)=true∧∃e,o= .exit 2 ⟨e,[],[],0⟩)∨(words.all (fun x=> !eqS s x)=false∧∃(e:_),o= .ret ⟨(2,.bool false)::e,[],[],0⟩)):=by
     have hwl:words.length=17:=rfl
     refine loop_all words (S129b s) (fun x=> !eqS s x) _ _ (by simp[lb129_9,Tryz.f129,S129b,stops]) (fun i x hc hi=>?_)
     have hw:=wrap_nat i (by omega)
     unfold eqS
     by_cases c1:(s.toList==x.toList)=true
     ·refine⟨fun h=>(by rw[c1]at h;cases h),fun _=>?_⟩
      simp[-beq_iff_eq,lb129_9,Tryz.f129,S129b,hi,hc,c1,stops]
     ·rw[Bool.not_eq_true]at c1
      refine⟨fun _=>?_,fun h=>(by rw[c1]at h;cases h)⟩
      simp[lb129_9,Tryz.f129,S129b,hi,hw,hc,c1]
    obtain⟨o,h1,h2⟩:=hloop
    obtain⟨o2,h3,h4⟩:=hloop2
    have h148:=ic148
    have hwl:words.length=17:=rfl
    simp only[lb129_4,Tryz.f129,S129a,bodyOf_some,sub_seq0,sub_seq1,sub_block,sub_loop,sub_nil]at h1
    simp only[lb129_9,Tryz.f129,S129b,bodyOf_some,sub_seq0,sub_seq1,sub_block,sub_loop,sub_nil]at h3
    generalize words=ws at*
    simp[hwl]at h1 h3
    unfold memS
    rcases h2 with⟨hall,e,rfl,g1⟩ |⟨hall,e,rfl⟩
    ·rcases h4 with⟨hall2,e2,rfl⟩ |⟨hall2,e2,rfl⟩
     ·refine go true ?_ (by simp[hpre,hl,hall,memS,hall2])
      rw[call_eq (by decide) (by simp)]
      simp[-beq_iff_eq,Tryz.func129,Tryz.f129,envOf,ex_loop,firstReg,c1,c2,hx,hb,h1,g1,h148,hwl,h3,leave_pure]
     ·refine go false ?_ (by simp[memS,hall2])
      rw[call_eq (by decide) (by simp)]
      simp[-beq_iff_eq,Tryz.func129,Tryz.f129,envOf,ex_loop,firstReg,c1,c2,hx,hb,h1,g1,h148,hwl,h3,leave_pure]
    ·refine go false ?_ (by simp[hpre,hall])
     rw[call_eq (by decide) (by simp)]
     simp[-beq_iff_eq,Tryz.func129,Tryz.f129,envOf,ex_loop,firstReg,c1,c2,hx,hb,h1,leave_pure]
end T
end
section
open Go Go.Proofs Go.Sym
namespace T
attribute [-simp] getElem?_pos
section
variable (G:List Blk) (K:List Nat) (c:Nat) (t:PT) (k:Int) (hb:G[c]? =some (ckB t k)) (A:Int) (subs:List Lin) (n:Int)
def S163 (i:Nat):St:=⟨[(2,.int .i64 n),(41,lst 2 (subs.map Lin.cs)),(42,.int .i64 subs.length),(43,.int .i64 i)],G++[refB A subs],K,G.length⟩
include hb
theorem e163 (hs:okLins subs):call X 163 [.ptr c 0 0,.agg [.int .i64 A,lst 2 (subs.map Lin.cs)],.int .i64 n] G K=some (.ret (.bool (celB t n A subs)),G,K):=by
 have hlt:c < G.length:=(List.getElem?_eq_some_iff.1 hb).1
 have hG:G≠[]:=by rintro rfl;simp at hb
 have hloop:∃o,(∀ s,s.gc [2,41,42,43] (G.length+1) K.length=S163 G K A subs n 0→loopE X 163 lb163_4 (St.gc [2,41,42,43] (G.length+1) K.length) s=some o)∧
  ((subs.all (over n)=true∧∃e,o= .exit 0 ⟨e,G++[refB A subs],K,G.length⟩)∨(subs.all (over n)=false∧∃e r,o= .ret ⟨(6,.bool false)::e,G++r,K,G.length⟩)):=by
  refine loop_all subs (S163 G K A subs n) (over n) _ _ (by simp[lb163_4,Tryz.f163,S163,refB,stops]) (fun i x hc hi=>?_)
  have hw:=wrap_nat i (by have:=hs.1;omega)
  have h128:=ic128 x (hs.2 _ (List.mem_of_getElem? hc)) n
  cases hx:over n x with
  |true=>
   rw[hx]at h128
   refine⟨fun _=>?_,fun h=>by simp at h⟩
   simp[lb163_4,Tryz.f163,S163,refB,hi,hw,hc,h128,app_new0,app_new1,gc_app _ _ _ hG]
  |false=>
   rw[hx]at h128
   refine⟨fun h=>by simp at h,fun _=>?_⟩
   simp[lb163_4,Tryz.f163,S163,refB,hi,hc,h128,app_new0,app_new1,stops]
 obtain⟨o,h1,h2⟩:=hloop
 simp only[ckB_def]at hb
 simp only[lb163_4,Tryz.f163,S163,refB,bodyOf_some,sub_seq0,sub_seq1,sub_block,sub_loop,sub_nil]at h1
 simp at h1
 have fin:∀b,call X 163 [.ptr c 0 0,.agg [.int .i64 A,lst 2 (subs.map Lin.cs)],.int .i64 n] G K=some (.ret (.bool b),G,K)→celB t n A subs=b→call X 163 [.ptr c 0 0,.agg [.int .i64 A,lst 2 (subs.map Lin.cs)],.int .i64 n] G K=some (.ret (.bool (celB t n A subs)),G,K):=fun b h e=>by rw[e];exact h
 by_cases c1:A < 0
 ·have c1': ¬0≤A:=by omega
  refine fin false ?_ (by simp[celB,c1'])
  rw[call_eq (by decide) (by simp)]
  simp[Tryz.func163,Tryz.f163,envOf,c1,hb,hlt,app_new0,app_new1,List.getElem?_append_left,gc_app _ _ _ hG,leave_pure]
 ·obtain⟨a,rfl⟩:∃a:Nat,A=a:=⟨A.toNat,by omega⟩
  by_cases c2:(t.arrs.length:Int)≤a
  ·have c2': ¬a < t.arrs.length:=by omega
   refine fin false ?_ (by simp[celB,List.getElem?_eq_none (Nat.le_of_not_lt c2')])
   rw[call_eq (by decide) (by simp)]
   simp[Tryz.func163,Tryz.f163,envOf,c1,c2,c2',hb,hlt,app_new0,app_new1,List.getElem?_append_left,gc_app _ _ _ hG,leave_pure]
  ·have c2':a < t.arrs.length:=by omega
   have hx:=List.getElem?_eq_getElem c2'
   generalize t.arrs[a]=x at hx
   by_cases c3:subs.length=x.sizes.length
   ·rcases h2 with⟨hv,e,rfl⟩ |⟨hv,e,r,rfl⟩
    ·refine fin true ?_ (by simp[celB,hx,c3,hv])
     rw[call_eq (by decide) (by simp)]
     simp[Tryz.func163,Tryz.f163,envOf,ex_loop,firstReg,c1,c2,c2',c3,hx,hb,hlt,h1,app_new0,app_new1,List.getElem?_append_left,gc_app _ _ _ hG,leave_pure]
    ·refine fin false ?_ (by simp[celB,hv])
     rw[call_eq (by decide) (by simp)]
     simp[Tryz.func163,Tryz.f163,envOf,ex_loop,firstReg,c1,c2,c2',c3,hx,hb,hlt,h1,app_new0,app_new1,List.getElem?_append_left,gc_app _ _ _ hG,leave_pure]
   ·refine fin false ?_ (by simp[celB,hx,c3])
    rw[call_eq (by decide) (by simp)]
    simp[Tryz.func163,Tryz.f163,envOf,c1,c2,c2',c3,hx,hb,hlt,app_new0,app_new1,List.getElem?_append_left,gc_app _ _ _ hG,leave_pure]
end
end T
end
section
open Go Go.Proofs Go.Sym
namespace T
attribute [-simp] getElem?_pos
mutual
def ndR:Ex→Nat
 | .mk _ _ _ _ _ args=>ndF 1 args
def ndF (n:Nat):List Ex→Nat
 | []=>n
 |a::r=>ndF (if n < 1000 then n+ndR a else n) r
end
mutual
theorem ndR_le:∀e:Ex,ndR e≤nsz e
 | .mk _ _ _ _ _ args=>by
  have:=ndF_le args 1
  simp only[ndR,nsz];omega
theorem ndF_le:∀(l:List Ex) (n:Nat),ndF n l≤n+nszL l
 | [],n=>by simp[ndF,nszL]
 |a::r,n=>by
  have h1:=ndR_le a
  have h2:=ndF_le r (if n < 1000 then n+ndR a else n)
  simp only[ndF,nszL]
  by_cases h3:n < 1000
  ·simp only[if_pos h3]at h2 ⊢;omega
  ·simp only[if_neg h3]at h2 ⊢;omega
end
mutual
theorem ndR_eq:∀e:Ex,nsz e≤64→ndR e=nsz e
 | .mk _ _ _ _ _ args,h=>by
  simp only[ndR,nsz]at h ⊢
  exact ndF_eq args 1 h
theorem ndF_eq:∀(l:List Ex) (n:Nat),n+nszL l≤64→ndF n l=n+nszL l
 | [],n,_=>by simp[ndF,nszL]
 |a::r,n,h=>by
  simp only[nszL]at h
  have h1:=ndR_eq a (by omega)
  have h2:=ndF_eq r (n+nsz a) (by omega)
  have h3:n < 1000:=by omega
  simp only[ndF,nszL,if_pos h3,h1,h2]
  omega
end
theorem ndF_lb:∀(l:List Ex) (n:Nat),n≤ndF n l
 | [],n=>by simp[ndF]
 |a::r,n=>by
  have h2:=ndF_lb r (if n < 1000 then n+ndR a else n)
  simp only[ndF]
  by_cases h3:n < 1000
  ·simp only[if_pos h3]at h2 ⊢;omega
  ·simp only[if_neg h3]at h2 ⊢;omega
mutual
theorem ndR_64:∀e:Ex,ndR e≤64→nsz e≤64
 | .mk _ _ _ _ _ args,h=>by
  simp only[ndR,nsz]at h ⊢
  exact ndF_64 args 1 h
theorem ndF_64:∀(l:List Ex) (n:Nat),ndF n l≤64→n+nszL l≤64
 | [],n,h=>by simpa[ndF,nszL] using h
 |a::r,n,h=>by
  simp only[ndF]at h
  have h0:=ndF_lb r (if n < 1000 then n+ndR a else n)
  by_cases h3:n < 1000
  ·simp only[if_pos h3]at h h0
   have h1:=ndF_64 r _ h
   have h2:=ndR_64 a (by omega)
   have h4:=ndR_eq a h2
   simp only[nszL];omega
  ·simp only[if_neg h3]at h h0
   omega
end
theorem ndR_iff (e:Ex):decide ((ndR e:Int)≤64)=decide (nsz e≤64):=by
 by_cases h:nsz e≤64
 ·have:=ndR_eq e h
  have h2:(ndR e:Int)≤64:=by omega
  simp[h,h2]
 ·have h2: ¬(ndR e:Int)≤64:=fun h'=>h (ndR_64 e (by omega))
  simp[h,h2]
theorem nszL_mem0:∀(l:List Ex) (a:Ex),a ∈ l→nsz a≤nszL l
 |b::r,a,h=>by
  rcases List.mem_cons.1 h with rfl |h
  ·simp[nszL]
  ·have:=nszL_mem0 r a h;simp[nszL];omega
theorem ndF_take:∀(l:List Ex) (i n:Nat) (x:Ex),l[i]? =some x→ndF n (l.take (i+1))=if ndF n (l.take i) < 1000 then ndF n (l.take i)+ndR x else ndF n (l.take i)
 | [],_,_,_,h=>by simp at h
 |a::r,0,n,x,h=>by cases h;simp[ndF]
 |a::r,i+1,n,x,h=>by
  have:=ndF_take r i (if n < 1000 then n+ndR a else n) x (by simpa using h)
  simpa[ndF] using this
def S164 (op k:Int) (L:Lin) (rA:Int) (subs:List Lin) (args:List Ex) (i:Nat):St:=⟨[(3,.int .i64 (ndF 1 (args.take i):Nat)),(7,lst 7 (args.map Ex.cs)),(8,.int .i64 args.length),(9,.int .i64 i)],[⟨7,[Ex.cs (.mk op k L rA subs args)],.box⟩],[],0⟩
theorem nszL_take_le:∀(l:List Ex) (i:Nat),nszL (l.take i)≤nszL l
 | [],i=>by simp
 |a::r,0=>by simp[nszL]
 |a::r,i+1=>by
  have:=nszL_take_le r i
  simp only[List.take_succ_cons,nszL];omega
theorem ic164 {e:Ex} (he:OkEx e):nsz e≤1073741824→icall X (call X) 164 [.agg e.cs]=some (.ret (.int .i64 (ndR e:Nat))):=by
 induction he with
 | @mk op k L rA subs args hL hs ha hargs ih=>
 intro hz
 simp only[nsz]at hz
 have hloop:∃o,(∀ s,s.gc [3,7,8,9] 1 0=S164 op k L rA subs args 0→loopE X 164 lb164_3 (St.gc [3,7,8,9] 1 0) s=some o)∧∃e b,o= .exit 0 ⟨e,b,[],0⟩∧get e 3= .int .i64 (ndF 1 args:Nat):=by
  refine loop_inv (S164 op k L rA subs args) (fun i=>i≤args.length) (fun i=>args.length-i) _ (fun i hi'=>?_) 0 (Nat.zero_le _)
  by_cases hi:i < args.length
  ·right
   have hx:=List.getElem?_eq_getElem hi
   have hw:=wrap_nat i (by omega)
   have hm:=List.getElem_mem hi
   have hz2:=nszL_mem0 args _ hm
   have hxc:=ih _ hm (by omega)
   have hnt:=ndF_take args i 1 _ hx
   have hle:=ndF_le (args.take (i+1)) 1
   have hlt:=nszL_take_le args (i+1)
   generalize args[i]=x at*
   obtain⟨op',k',L',rA',subs',args'⟩:=x
   simp at hxc
   generalize hdd:ndF 1 (args.take i)=dd at*
   generalize ndR (.mk op' k' L' rA' subs' args')=zz at*
   by_cases c1:(dd:Int) < 1000
   ·have c1':dd < 1000:=by omega
    rw[if_pos c1']at hnt
    have hw2:=wrap_id ((dd:Int)+zz) (by omega) (by omega)
    simp[lb164_3,Tryz.f164,S164,hi,hw,hx,hdd,c1,hxc,hw2]
    exact⟨i+1,⟨by omega,by omega⟩,by omega,by omega⟩
   ·have c1': ¬dd < 1000:=by omega
    rw[if_neg c1']at hnt
    simp[lb164_3,Tryz.f164,S164,hi,hw,hx,hdd,c1]
    exact⟨i+1,⟨by omega,by omega⟩,by omega,by omega⟩
  ·left
   obtain rfl:i=args.length:=by omega
   simp[lb164_3,Tryz.f164,S164,stops]
 obtain⟨o,h1,e,b,rfl,g1⟩:=hloop
 simp only[lb164_3,Tryz.f164,S164,bodyOf_some,sub_seq0,sub_seq1,sub_block,sub_loop,sub_nil]at h1
 simp[ndF]at h1
 simp only[ndR]
 refine icall_ret (v:=.int .i64 (ndF 1 args:Nat)) (H:=[]) (K:=[]) (by simp) (by simp) ?_ rfl rfl rfl
 rw[call_eq (by decide) (by simp)]
 simp[Tryz.func164,Tryz.f164,envOf,ex_loop,firstReg,h1,g1,leave_pure]
end T
end
section
open Go Go.Proofs Go.Sym
namespace T
attribute [-simp] getElem?_pos
set_option maxHeartbeats 4000000 in
theorem e165 (c:Nat) (t:PT) (k:Int) (n:Int) (K:List Nat) {e:Ex} (he:OkEx e):∀(G:List Blk),G[c]? =some (ckB t k)→call X 165 [.ptr c 0 0,.agg e.cs,.int .i64 n] G K=some (.ret (.bool (nodB t n e)),G,K):=by
 induction he with
 | @mk op k1 L rA subs args hL hs ha hargs ih=>
 intro G hb
 have hlc:c < G.length:=(List.getElem?_eq_some_iff.1 hb).1
 have hG:G≠[]:=by rintro rfl;simp at hb
 have hb0:=hb
 have h163:=e163 (G++[exB op k1 L rA subs args]) K c t k (by rw[List.getElem?_append_left hlc,hb]) rA subs n hs
 simp only[ckB_def]at hb
 simp[exB]at h163
 have h172:=ic172 L
 have h159:=ic159 rA subs
 have h128:=ic128 L hL n
 have fin:∀b,call X 165 [.ptr c 0 0,.agg (Ex.cs (.mk op k1 L rA subs args)),.int .i64 n] G K=some (.ret (.bool b),G,K)→nodB t n (.mk op k1 L rA subs args)=b→call X 165 [.ptr c 0 0,.agg (Ex.cs (.mk op k1 L rA subs args)),.int .i64 n] G K=some (.ret (.bool (nodB t n (.mk op k1 L rA subs args))),G,K):=fun b h e=>by rw[e];exact h
 by_cases o0:op=0
 ·subst o0
  by_cases ca: -2147483648≤k1
  ·skip
   by_cases cb:k1 < 2147483648
   ·skip
    by_cases cl:plainLin L=true
    ·skip
     by_cases cr:plainRef rA subs=true
     ·skip
      rcases args with _ |⟨a1,r⟩
      ·skip
       refine fin true ?_ (by simp[nodB,ca,cb,cl,cr])
       rw[call_eq (by decide) (by simp)]
       simp[Tryz.func165,Tryz.f165,envOf,hb,hlc,List.getElem?_append_left,app_new0,h172,h159,gc_app _ _ _ hG,ca,cb,cl,cr,leave_pure]
      ·have hz: ¬((r.length:Int)+1=0):=by omega
       refine fin false ?_ (by simp[nodB,ca,cb,cl,cr,hz])
       rw[call_eq (by decide) (by simp)]
       simp[Tryz.func165,Tryz.f165,envOf,hb,hlc,List.getElem?_append_left,app_new0,h172,h159,gc_app _ _ _ hG,ca,cb,cl,cr,hz,leave_pure]
     ·skip
      refine fin false ?_ (by simp[nodB,ca,cb,cl,cr])
      rw[call_eq (by decide) (by simp)]
      simp[Tryz.func165,Tryz.f165,envOf,hb,hlc,List.getElem?_append_left,app_new0,h172,h159,gc_app _ _ _ hG,ca,cb,cl,cr,leave_pure]
    ·skip
     refine fin false ?_ (by simp[nodB,ca,cb,cl])
     rw[call_eq (by decide) (by simp)]
     simp[Tryz.func165,Tryz.f165,envOf,hb,hlc,List.getElem?_append_left,app_new0,h172,h159,gc_app _ _ _ hG,ca,cb,cl,leave_pure]
   ·skip
    refine fin false ?_ (by simp[nodB,ca,cb])
    rw[call_eq (by decide) (by simp)]
    simp[Tryz.func165,Tryz.f165,envOf,hb,hlc,List.getElem?_append_left,app_new0,h172,h159,gc_app _ _ _ hG,ca,cb,leave_pure]
  ·skip
   refine fin false ?_ (by simp[nodB,ca])
   rw[call_eq (by decide) (by simp)]
   simp[Tryz.func165,Tryz.f165,envOf,hb,hlc,List.getElem?_append_left,app_new0,h172,h159,gc_app _ _ _ hG,ca,leave_pure]
 by_cases o1:op=1
 ·subst o1
  by_cases ck:k1=0
  ·subst ck
   by_cases co:over n L=true
   ·skip
    by_cases cr:plainRef rA subs=true
    ·skip
     rcases args with _ |⟨a1,r⟩
     ·skip
      refine fin true ?_ (by simp[nodB,co,cr])
      rw[call_eq (by decide) (by simp)]
      simp[Tryz.func165,Tryz.f165,envOf,hb,hlc,List.getElem?_append_left,app_new0,h172,h159,gc_app _ _ _ hG,co,h128,cr,leave_pure]
     ·have hz: ¬((r.length:Int)+1=0):=by omega
      refine fin false ?_ (by simp[nodB,co,cr,hz])
      rw[call_eq (by decide) (by simp)]
      simp[Tryz.func165,Tryz.f165,envOf,hb,hlc,List.getElem?_append_left,app_new0,h172,h159,gc_app _ _ _ hG,co,h128,cr,hz,leave_pure]
    ·skip
     refine fin false ?_ (by simp[nodB,co,cr])
     rw[call_eq (by decide) (by simp)]
     simp[Tryz.func165,Tryz.f165,envOf,hb,hlc,List.getElem?_append_left,app_new0,h172,h159,gc_app _ _ _ hG,co,h128,cr,leave_pure]
   ·skip
    refine fin false ?_ (by simp[nodB,co])
    rw[call_eq (by decide) (by simp)]
    simp[Tryz.func165,Tryz.f165,envOf,hb,hlc,List.getElem?_append_left,app_new0,h172,h159,gc_app _ _ _ hG,co,h128,leave_pure]
  ·skip
   refine fin false ?_ (by simp[nodB,ck])
   rw[call_eq (by decide) (by simp)]
   simp[Tryz.func165,Tryz.f165,envOf,hb,hlc,List.getElem?_append_left,app_new0,h172,h159,gc_app _ _ _ hG,ck,leave_pure]
 by_cases o2:op=2
 ·subst o2
  by_cases ck:k1=0
  ·subst ck
   by_cases cl:plainLin L=true
   ·skip
    by_cases ce:celB t n rA subs=true
    ·skip
     rw[ce]at h163
     rcases args with _ |⟨a1,r⟩
     ·skip
      simp at h163
      refine fin true ?_ (by simp[nodB,cl,ce])
      rw[call_eq (by decide) (by simp)]
      simp[Tryz.func165,Tryz.f165,envOf,hb,hlc,List.getElem?_append_left,app_new0,h172,h159,gc_app _ _ _ hG,cl,ce,h163,leave_pure]
     ·have hz: ¬((r.length:Int)+1=0):=by omega
      simp at h163
      refine fin false ?_ (by simp[nodB,cl,ce,hz])
      rw[call_eq (by decide) (by simp)]
      simp[Tryz.func165,Tryz.f165,envOf,hb,hlc,List.getElem?_append_left,app_new0,h172,h159,gc_app _ _ _ hG,cl,ce,h163,hz,leave_pure]
    ·skip
     rw[Bool.not_eq_true]at ce;rw[ce]at h163
     refine fin false ?_ (by simp[nodB,cl,ce])
     rw[call_eq (by decide) (by simp)]
     simp[Tryz.func165,Tryz.f165,envOf,hb,hlc,List.getElem?_append_left,app_new0,h172,h159,gc_app _ _ _ hG,cl,ce,h163,leave_pure]
   ·skip
    refine fin false ?_ (by simp[nodB,cl])
    rw[call_eq (by decide) (by simp)]
    simp[Tryz.func165,Tryz.f165,envOf,hb,hlc,List.getElem?_append_left,app_new0,h172,h159,gc_app _ _ _ hG,cl,leave_pure]
  ·skip
   refine fin false ?_ (by simp[nodB,ck])
   rw[call_eq (by decide) (by simp)]
   simp[Tryz.func165,Tryz.f165,envOf,hb,hlc,List.getElem?_append_left,app_new0,h172,h159,gc_app _ _ _ hG,ck,leave_pure]
 by_cases hop:0≤op∧op≤7
 ·obtain⟨c2,c3⟩:=hop
  have hop:op=3∨op=4∨op=5∨op=6∨op=7:=by omega
  by_cases ck:k1=0
  ·subst ck
   by_cases cl:plainLin L=true
   ·skip
    by_cases cr:plainRef rA subs=true
    ·skip
     rcases args with _ |⟨a1,_ |⟨a2,_ |⟨a3,r⟩⟩⟩
     ·skip
      refine fin false ?_ (by simp[nodB,c2,c3,o0,o1,o2,cl,cr])
      rw[call_eq (by decide) (by simp)]
      rcases hop with rfl |rfl |rfl |rfl |rfl <;> simp[Tryz.func165,Tryz.f165,envOf,hb,hlc,List.getElem?_append_left,app_new0,h172,h159,gc_app _ _ _ hG,cl,cr,leave_pure]
     ·skip
      refine fin false ?_ (by simp[nodB,c2,c3,o0,o1,o2,cl,cr])
      rw[call_eq (by decide) (by simp)]
      rcases hop with rfl |rfl |rfl |rfl |rfl <;> simp[Tryz.func165,Tryz.f165,envOf,hb,hlc,List.getElem?_append_left,app_new0,h172,h159,gc_app _ _ _ hG,cl,cr,leave_pure]
     ·have i1:=ih a1 (by simp) (G++[exB op 0 L rA subs [a1,a2]]) (by simp[List.getElem?_append_left,hlc,hb,ckB])
      have i2:=ih a2 (by simp) (G++[exB op 0 L rA subs [a1,a2]]) (by simp[List.getElem?_append_left,hlc,hb,ckB])
      have hnd:nodB t n (.mk op 0 L rA subs [a1,a2])=(nodB t n a1&&nodB t n a2):=by simp[nodB,nodBL,c2,c3,o0,o1,o2,cl,cr]
      obtain⟨p1,p2,p3,p4,p5,p6⟩:=a1
      obtain⟨r1,r2,r3,r4,r5,r6⟩:=a2
      rw[hnd]at fin ⊢
      generalize nodB t n (Ex.mk p1 p2 p3 p4 p5 p6)=y1 at*
      generalize nodB t n (Ex.mk r1 r2 r3 r4 r5 r6)=y2 at*
      simp[exB]at i1 i2
      cases y1 with
      |false=>
       refine fin false ?_ rfl
       rw[call_eq (by decide) (by simp)]
       rcases hop with rfl |rfl |rfl |rfl |rfl <;> simp[Tryz.func165,Tryz.f165,envOf,hb,hlc,List.getElem?_append_left,app_new0,h172,h159,gc_app _ _ _ hG,cl,cr,i1,leave_pure]
      |true=>
       refine fin y2 ?_ rfl
       rw[call_eq (by decide) (by simp)]
       rcases hop with rfl |rfl |rfl |rfl |rfl <;> simp[Tryz.func165,Tryz.f165,envOf,hb,hlc,List.getElem?_append_left,app_new0,h172,h159,gc_app _ _ _ hG,cl,cr,i1,i2,leave_pure]
     ·have hz: ¬((r.length:Int)+1+1+1=2):=by omega
      refine fin false ?_ (by simp[nodB,c2,c3,o0,o1,o2,cl,cr,hz])
      rw[call_eq (by decide) (by simp)]
      rcases hop with rfl |rfl |rfl |rfl |rfl <;> simp[Tryz.func165,Tryz.f165,envOf,hb,hlc,List.getElem?_append_left,app_new0,h172,h159,gc_app _ _ _ hG,cl,cr,hz,leave_pure]
    ·skip
     refine fin false ?_ (by simp[nodB,c2,c3,o0,o1,o2,cl,cr])
     rw[call_eq (by decide) (by simp)]
     rcases hop with rfl |rfl |rfl |rfl |rfl <;> simp[Tryz.func165,Tryz.f165,envOf,hb,hlc,List.getElem?_append_left,app_new0,h172,h159,gc_app _ _ _ hG,cl,cr,leave_pure]
   ·skip
    refine fin false ?_ (by simp[nodB,c2,c3,o0,o1,o2,cl])
    rw[call_eq (by decide) (by simp)]
    rcases hop with rfl |rfl |rfl |rfl |rfl <;> simp[Tryz.func165,Tryz.f165,envOf,hb,hlc,List.getElem?_append_left,app_new0,h172,h159,gc_app _ _ _ hG,cl,leave_pure]
  ·skip
   refine fin false ?_ (by simp[nodB,c2,c3,o0,o1,o2,ck])
   rw[call_eq (by decide) (by simp)]
   rcases hop with rfl |rfl |rfl |rfl |rfl <;> simp[Tryz.func165,Tryz.f165,envOf,hb,hlc,List.getElem?_append_left,app_new0,h172,h159,gc_app _ _ _ hG,ck,leave_pure]
 ·have d3: ¬op=3:=by omega
  have d4: ¬op=4:=by omega
  have d5: ¬op=5:=by omega
  have d6: ¬op=6:=by omega
  have d7: ¬op=7:=by omega
  refine fin false ?_ (by
              have:(decide (0≤op)&&decide (op≤7))=false:=(by rw[Bool.eq_false_iff];intro h;simp at h;exact hop h)
              simp[nodB,o0,o1,o2,this])
  rw[call_eq (by decide) (by simp)]
  simp[Tryz.func165,Tryz.f165,envOf,hb,hlc,List.getElem?_append_left,app_new0,h172,h159,gc_app _ _ _ hG,o0,o1,o2,d3,d4,d5,d6,d7,leave_pure]
end T
end
section
open Go Go.Proofs Go.Sym
namespace T
attribute [-simp] getElem?_pos
mutual
def xszS:Stm→Nat
 | .mk _ _ _ _ _ _ _ _ _ _ val body els=>nsz val+xszL body+xszL els
def xszL:List Stm→Nat
 | []=>0
 |s::r=>xszS s+xszL r
end
theorem xszL_mem:∀(l:List Stm) (s:Stm),s ∈ l→xszS s≤xszL l
 |a::r,s,h=>by
  rcases List.mem_cons.1 h with rfl |h
  ·simp[xszL]
  ·have:=xszL_mem r s h;simp[xszL];omega
def OutR (q:Option (Res×List Blk×List Nat)) (G:List Blk) (K:List Nat) (c:Nat) (t:PT) (k:Nat) (fact:Prop):Prop:=
 (∃ K',q=some (.ret (.bool true),G.set c (ckB t k),K++K')∧fact)∨∃(k2:Nat) (K':List Nat),q=some (.ret (.bool false),G.set c (ckB t k2),K++K')∧¬fact
def SpecR (t:PT) (s:Stm):Prop:=∀(G:List Blk) (K:List Nat) (c k:Nat) (l:List ByteArray) (z:Nat) (cp:Cap) (d:Int),k≤256→G[c]? =some (ckB t k)→NmOK K l z cp→d=(l.length:Int)-t.ps.length→l.length≤t.ps.length+10→
 OutR (call X 149 [.ptr c 0 0,.agg s.cs,.lst z (l.map strC) cp,.int .i64 d] G K) G K c t (k+s.inner) (k+s.inner≤256∧GoodS t l s)
section
variable (G:List Blk) (K:List Nat) (c:Nat) (t:PT) (l:List ByteArray) (z:Nat) (cp:Cap) (d:Int) (ss:List Stm)
def S131 (k:Nat) (p:Nat×List Nat):St:=⟨[(0,.ptr c 0 0),(2,.lst z (l.map strC) cp),(3,.int .i64 d),(11,lst 19 (ss.map Stm.cs)),(12,.int .i64 ss.length),(13,.int .i64 p.1)],G.set c (ckB t (k+sszL (ss.take p.1):Nat)),K++p.2,G.length⟩
theorem loop131 (k:Nat) (hk:k≤256) (hb:G[c]? =some (ckB t k)) (hn:NmOK K l z cp) (hd:d=(l.length:Int)-t.ps.length) (hss:ss.length≤1073741823) (hs:∀s ∈ ss,OkStm s∧SpecR t s):
  ∃o,(∀ s,s.gc [0,2,3,11,12,13] G.length K.length=S131 G K c t l z cp d ss k (0,[])→loopE X 131 lb131_2 (St.gc [0,2,3,11,12,13] G.length K.length) s=some o)∧
  ((∃ e K',o= .exit 0 ⟨e,G.set c (ckB t (k+sszL ss:Nat)),K++K',G.length⟩∧k+sszL ss≤256∧∀s ∈ ss,GoodS t l s)∨∃(e:_) (r:_) (K':_) (k2:Nat),o= .ret ⟨(8,.bool false)::e,G.set c (ckB t k2)++r,K++K',G.length⟩∧¬(k+sszL ss≤256∧∀s ∈ ss,GoodS t l s)):=by
 have hlc:c < G.length:=(List.getElem?_eq_some_iff.1 hb).1
 have hG:G≠[]:=by rintro rfl;simp at hb
 obtain⟨Bad,hBad⟩:∃B:Prop,B=(¬(k+sszL ss≤256∧∀s ∈ ss,GoodS t l s)):=⟨_,rfl⟩
 rw[←hBad]
 refine loop_inv (S131 G K c t l z cp d ss k) (fun p=>p.1≤ss.length∧k+sszL (ss.take p.1)≤256∧∀s ∈ ss.take p.1,GoodS t l s) (fun p=>ss.length-p.1) _ (fun p hp=>?_) (0,[]) ⟨Nat.zero_le _,by simpa[sszL] using hk,by simp⟩
 obtain⟨i,K1⟩:=p
 obtain⟨hi',hk1,hgood⟩:=hp
 simp only at hi' hk1 hgood
 by_cases hi:i < ss.length
 ·have hx:=List.getElem?_eq_getElem hi
  have hw:=wrap_nat i (by omega)
  have hts:=sszL_take_succ ss i _ hx
  have hmono:=sszL_take_le ss (i+1)
  have hmem:=List.getElem_mem hi
  have htk:ss.take (i+1)=ss.take i++[ss[i]]:=by rw[List.take_add_one,hx];rfl
  obtain⟨hok,hspec⟩:=hs _ (List.getElem_mem hi)
  rw[htk]at hts hmono
  generalize hxx:ss[i]=x at*
  have hzz:ssz x=1+x.inner:=by obtain⟨kind,name,low,high,step,mark,dim,pieces,tA,tS,val,body,els⟩:=x;simp[ssz,Stm.inner,Nat.add_assoc]
  have hsp:=hspec (G.set c (ckB t (k+sszL (ss.take i)+1:Nat))++[⟨19,[x.cs],.box⟩]) (K++K1) c (k+sszL (ss.take i)+1) l z cp d
  have hset:∀q,(G.set c (ckB t (k+sszL (ss.take i)+1:Nat))++[(⟨19,[x.cs],.box⟩:Blk)]).set c q=G.set c q++[⟨19,[x.cs],.box⟩]:=fun q=>by rw[List.set_append_left _ _ (by simpa using hlc),List.set_set]
  have hget:(G.set c (ckB t (k+sszL (ss.take i)+1:Nat))++[(⟨19,[x.cs],.box⟩:Blk)])[c]? =some (ckB t (k+sszL (ss.take i)+1:Nat)):=by
   rw[List.getElem?_append_left (by simpa using hlc),List.getElem?_set_self hlc]
  have hsc:=hn.scrub
  have hws:=wrap_nat (k+sszL (ss.take i)) (by omega)
  have hlt2:k+sszL (ss.take i)+1≤257:=by omega
  unfold OutR at hsp
  simp only[hset]at hsp
  generalize hkk:k+sszL (ss.take i)=kk at*
  have hkk2:k+sszL (ss.take i++[x])=kk+1+x.inner:=by omega
  by_cases c1:(256:Int) < kk+1
  ·left
   have hbad:Bad:=hBad ▸ fun hq=>by have:=hq.1;omega
   obtain⟨kind,name,low,high,step,mark,dim,pieces,tA,tS,val,body,els⟩:=x
   obtain⟨op,k1,L,rA,subs,args⟩:=val
   simp[lb131_2,Tryz.f131,S131,ckB,hi,hlc,hx,hws,hkk,c1,stops,hbad,List.set_append_left,List.getElem?_append_left,app_new0,app_set0]
   exact⟨_,kk+1,rfl⟩
  ·by_cases c2:10 < d
   ·left
    have hbad:Bad:=hBad ▸ fun hq=>by have:=(hq.2 _ hmem).kind.2;omega
    obtain⟨kind,name,low,high,step,mark,dim,pieces,tA,tS,val,body,els⟩:=x
    obtain⟨op,k1,L,rA,subs,args⟩:=val
    simp[lb131_2,Tryz.f131,S131,ckB,hi,hlc,hx,hws,hkk,c1,c2,stops,hbad,List.set_append_left,List.getElem?_append_left,app_new0,app_set0]
    exact⟨_,kk+1,rfl⟩
   ·have hsp:=hsp (by omega) hget (hn.mono K1) hd (by omega)
    rcases hsp with⟨K2,hsp,hle,hgs⟩ |⟨k2,K2,hsp,hnf⟩
    ·right
     have hgood':∀s ∈ ss.take i++[x],GoodS t l s:=fun s h=>by
      rcases List.mem_append.1 h with h |h
      ·exact hgood s h
      ·rw[List.mem_singleton.1 h];exact hgs
     obtain⟨kind,name,low,high,step,mark,dim,pieces,tA,tS,val,body,els⟩:=x
     obtain⟨op,k1,L,rA,subs,args⟩:=val
     generalize Stm.inner (Stm.mk kind name low high step mark dim pieces tA tS (Ex.mk op k1 L rA subs args) body els)=inn at*
     simp[ckB]at hsp
     simp[lb131_2,Tryz.f131,S131,ckB,hi,hw,hlc,hx,hws,hkk,c1,c2,hsp,hsc,gc_set0 _ _ _ _ _ hG,List.set_append_left,List.getElem?_append_left,app_new0,app_set0]
     have hE:(k:Int)+(sszL (ss.take (i+1)):Int)=kk+1+inn:=by rw[htk];omega
     exact⟨i+1,⟨by omega,by rw[hE]⟩,⟨by omega,by rw[htk];omega,by rw[htk];exact hgood'⟩,by omega⟩
    ·left
     have hbad:Bad:=hBad ▸ fun hq=>hnf ⟨by have:=hq.1;omega,hq.2 _ hmem⟩
     obtain⟨kind,name,low,high,step,mark,dim,pieces,tA,tS,val,body,els⟩:=x
     obtain⟨op,k1,L,rA,subs,args⟩:=val
     simp[ckB]at hsp
     simp[lb131_2,Tryz.f131,S131,ckB,hi,hlc,hx,hws,hkk,c1,c2,hsp,hsc,stops,hbad,List.set_append_left,List.getElem?_append_left,app_new0,app_set0]
     exact⟨_,k2,rfl⟩
 ·left
  obtain rfl:i=ss.length:=by omega
  rw[List.take_length]at hk1 hgood
  simp[lb131_2,Tryz.f131,S131,stops]
  exact⟨hk1,hgood⟩
theorem e131 (k:Nat) (hk:k≤256) (hb:G[c]? =some (ckB t k)) (hn:NmOK K l z cp) (hd:d=(l.length:Int)-t.ps.length) (hss:ss.length≤1073741823) (hs:∀s ∈ ss,OkStm s∧SpecR t s):
  OutR (call X 131 [.ptr c 0 0,lst 19 (ss.map Stm.cs),.lst z (l.map strC) cp,.int .i64 d] G K) G K c t (k+sszL ss) (k+sszL ss≤256∧∀s ∈ ss,GoodS t l s):=by
 have hlc:c < G.length:=(List.getElem?_eq_some_iff.1 hb).1
 have hG:G≠[]:=by rintro rfl;simp at hb
 have hsc:=hn.scrub
 have hself:=set_self hb
 obtain⟨o,h1,h2⟩:=loop131 G K c t l z cp d ss k hk hb hn hd hss hs
 have h0:S131 G K c t l z cp d ss k (0,[])=⟨[(0,.ptr c 0 0),(2,.lst z (l.map strC) cp),(3,.int .i64 d),(11,lst 19 (ss.map Stm.cs)),(12,.int .i64 ss.length),(13,.int .i64 0)],G,K,G.length⟩:=by
  simp only[S131,List.take_zero,sszL,Nat.add_zero,hself,List.append_nil]
  rfl
 rw[h0]at h1
 simp only[ckB_def]at hb
 simp only[lb131_2,Tryz.f131,bodyOf_some,sub_seq0,sub_seq1,sub_block,sub_loop,sub_nil]at h1
 simp at h1
 rcases h2 with⟨e,K',rfl,h3,h4⟩ |⟨e,r,K',k2,rfl,hbad⟩
 ·left
  refine⟨K',?_,h3,h4⟩
  rw[call_eq (by decide) (by simp)]
  simp[Tryz.func131,Tryz.f131,envOf,ex_loop,firstReg,hb,hlc,h1,hsc,gc_own0' _ _ hG,leave_pure]
 ·right
  refine⟨k2,K',?_,hbad⟩
  rw[call_eq (by decide) (by simp)]
  simp[Tryz.func131,Tryz.f131,envOf,ex_loop,firstReg,hb,hlc,h1,hsc,gc_own0' _ _ hG,leave_pure]
end
end T
end
section
open Go Go.Proofs Go.Sym
namespace T
attribute [-simp] getElem?_pos
noncomputable def B149:Code:=bodyOf Tryz.f149.body
noncomputable def rest149:Code:=sub B149 [1,1,1,1,1]
theorem b149:Tryz.f149.body=some (.seq (sub B149 [0]) (.seq (sub B149 [1,0]) (.seq (sub B149 [1,1,0]) (.seq (sub B149 [1,1,1,0]) (.seq (sub B149 [1,1,1,1,0]) rest149))))):=by kernel_rfl
def plainS:Stm→Bool
 | .mk _ _ _ _ _ _ _ _ tA tS val _ _=>plainRef tA tS&&plainEx val
def unsetS:Stm→Bool
 | .mk _ _ _ _ _ _ dim pieces _ _ _ _ _=>unset dim pieces
section
variable (G:List Blk) (K:List Nat) (c:Nat) (l:List ByteArray) (z:Nat) (cp:Cap) (d:Int) (s:Stm)
def G149 (e:List (Nat×AV)):Prop:=get e 0= .ptr c 0 0∧get e 2= .lst z (l.map strC) cp∧get e 3= .int .i64 d∧get e 5= .ptr G.length 0 0
theorem r149_0:∃e,ex X 149 (sub B149 [0]) { env:=envOf 0 [.ptr c 0 0,.agg s.cs,.lst z (l.map strC) cp,.int .i64 d],heap:=G,toks:=K,nh:=G.length }=some (.next ⟨e,G++[⟨19,[s.cs],.box⟩],K,G.length⟩)∧G149 G c l z cp d e:=by
 obtain⟨kind,name,low,high,step,mark,dim,pieces,tA,tS,val,body,els⟩:=s
 obtain⟨op,k1,L,rA,subs,args⟩:=val
 simp[B149,Tryz.f149,envOf,G149]
variable (e:List (Nat×AV)) (hg:G149 G c l z cp d e)
include hg
theorem r149_1:∃e',ex X 149 (sub B149 [1,0]) ⟨e,G++[⟨19,[s.cs],.box⟩],K,G.length⟩=some (.next ⟨e',G++[⟨19,[s.cs],.box⟩],K,G.length⟩)∧G149 G c l z cp d e'∧get e' 9= .int .i64 l.length:=by
 obtain⟨g0,g2,g3,g5⟩:=hg
 simp[B149,Tryz.f149,G149,g0,g2,g3,g5]
theorem r149_2:∃e',ex X 149 (sub B149 [1,1,0]) ⟨e,G++[⟨19,[s.cs],.box⟩],K,G.length⟩=some (.next ⟨e',G++[⟨19,[s.cs],.box⟩],K,G.length⟩)∧G149 G c l z cp d e'∧get e' 9=get e 9∧get e' 10= .bool (blankB s):=by
 obtain⟨g0,g2,g3,g5⟩:=hg
 obtain⟨kind,name,low,high,step,mark,dim,pieces,tA,tS,val,body,els⟩:=s
 obtain⟨op,k1,L,rA,subs,args⟩:=val
 by_cases c1:name.toList.isEmpty=true
 ·by_cases c2:low=[]
  ·by_cases c3:high=[]
   ·by_cases c4:step=0
    ·simp[B149,Tryz.f149,G149,g0,g2,g3,g5,c1,c2,c3,c4,blankB,app_new0]
    ·simp[B149,Tryz.f149,G149,g0,g2,g3,g5,c1,c2,c3,c4,blankB,app_new0]
   ·simp[B149,Tryz.f149,G149,g0,g2,g3,g5,c1,c2,c3,blankB,app_new0]
  ·simp[B149,Tryz.f149,G149,g0,g2,g3,g5,c1,c2,blankB,app_new0]
 ·rw[Bool.not_eq_true]at c1
  simp[B149,Tryz.f149,G149,g0,g2,g3,g5,c1,blankB,app_new0]
theorem r149_3:∃e',ex X 149 (sub B149 [1,1,1,0]) ⟨e,G++[⟨19,[s.cs],.box⟩],K,G.length⟩=some (.next ⟨e',G++[⟨19,[s.cs],.box⟩],K,G.length⟩)∧G149 G c l z cp d e'∧get e' 9=get e 9∧get e' 10=get e 10∧get e' 11= .bool (unsetS s):=by
 obtain⟨g0,g2,g3,g5⟩:=hg
 obtain⟨kind,name,low,high,step,mark,dim,pieces,tA,tS,val,body,els⟩:=s
 obtain⟨op,k1,L,rA,subs,args⟩:=val
 by_cases c1:dim=0
 ·simp[B149,Tryz.f149,G149,g0,g2,g3,g5,c1,unsetS,unset,app_new0]
 ·simp[B149,Tryz.f149,G149,g0,g2,g3,g5,c1,unsetS,unset,app_new0]
theorem r149_4:∃e',ex X 149 (sub B149 [1,1,1,1,0]) ⟨e,G++[⟨19,[s.cs],.box⟩],K,G.length⟩=some (.next ⟨e',G++[⟨19,[s.cs],.box⟩],K,G.length⟩)∧G149 G c l z cp d e'∧get e' 9=get e 9∧get e' 10=get e 10∧get e' 11=get e 11∧get e' 12= .bool (plainS s):=by
 obtain⟨g0,g2,g3,g5⟩:=hg
 obtain⟨kind,name,low,high,step,mark,dim,pieces,tA,tS,val,body,els⟩:=s
 have h159:=ic159 tA tS
 have h160:=ic160 val
 simp only[plainS]
 generalize plainRef tA tS=v1 at*
 generalize plainEx val=v2 at*
 obtain⟨op,k1,L,rA,subs,args⟩:=val
 simp at h160
 cases v1
 ·simp[B149,Tryz.f149,G149,g0,g2,g3,g5,h159,app_new0]
 ·simp[B149,Tryz.f149,G149,g0,g2,g3,g5,h159,h160,app_new0]
end
theorem ex_next {f:FuncId} {a b:Code} {s s':St} (h:ex X f a s=some (.next s')):ex X f (.seq a b) s=ex X f b s':=by rw[ex_seq,h];rfl
theorem call149 (G:List Blk) (K:List Nat) (c:Nat) (l:List ByteArray) (z:Nat) (cp:Cap) (d:Int) (s:Stm):∃e,call X 149 [.ptr c 0 0,.agg s.cs,.lst z (l.map strC) cp,.int .i64 d] G K=ob (ex X 149 rest149 ⟨e,G++[⟨19,[s.cs],.box⟩],K,G.length⟩) (fin X.P (X.raw 149) Tryz.f149.results.toList)∧
  G149 G c l z cp d e∧get e 9= .int .i64 l.length∧get e 10= .bool (blankB s)∧get e 11= .bool (unsetS s)∧get e 12= .bool (plainS s):=by
 obtain⟨e0,h0,g0⟩:=r149_0 G K c l z cp d s
 obtain⟨e1,h1,g1,a1⟩:=r149_1 G K c l z cp d s e0 g0
 obtain⟨e2,h2,g2,a2,b2⟩:=r149_2 G K c l z cp d s e1 g1
 obtain⟨e3,h3,g3,a3,b3,c3⟩:=r149_3 G K c l z cp d s e2 g2
 obtain⟨e4,h4,g4,a4,b4,c4,d4⟩:=r149_4 G K c l z cp d s e3 g3
 refine⟨e4,?_,g4,by rw[a4,a3,a2,a1],by rw[b4,b3,b2],by rw[c4,c3],d4⟩
 rw[call_eq (by decide) (by simp)]
 rw[show X.P.funcs[149]? =some Tryz.f149 from Tryz.func149]
 rw[ob_some,b149,ob_some,if_pos ⟨by simp,rfl⟩]
 rw[ex_next h0,ex_next h1,ex_next h2,ex_next h3,ex_next h4]
end T
end
section
open Go Go.Proofs Go.Sym
namespace T
attribute [-simp] getElem?_pos
noncomputable def t149_5:Code:=sub B149 [1,1,1,1,1,0,0]
noncomputable def t149_6:Code:=sub B149 [1,1,1,1,1,0,1,0,0]
noncomputable def T1:Code:=sub B149 [1,1,1,1,1,0,1,0,1,0]
noncomputable def t149_20:Code:=sub B149 [1,1,1,1,1,0,1,0,1,1,0]
noncomputable def T2:Code:=sub B149 [1,1,1,1,1,0,1,0,1,1,1,0]
noncomputable def t149_22:Code:=sub B149 [1,1,1,1,1,0,1,0,1,1,1,1,0]
noncomputable def T3:Code:=sub B149 [1,1,1,1,1,0,1,0,1,1,1,1,1,0]
noncomputable def T24:Code:=sub B149 [1,1,1,1,1,1]
theorem rest_eq:rest149= .seq (.seq t149_5 (.block 0 (.seq t149_6 (.cond (.tmp 65) T1 (.seq t149_20 (.cond (.tmp 182) T2 (.seq t149_22 (.cond (.tmp 216) T3 .skip)))))))) T24:=by kernel_rfl
noncomputable def if1:Code:=sub B149 [1,1,1,1,1,0,1,0,1,0,0]
noncomputable def for1:Code:=sub B149 [1,1,1,1,1,0,1,0,1,0,1,0]
noncomputable def if2:Code:=sub B149 [1,1,1,1,1,0,1,0,1,0,1,1,0]
noncomputable def if3:Code:=sub B149 [1,1,1,1,1,0,1,0,1,0,1,1,1,0]
noncomputable def ret1:Code:=sub B149 [1,1,1,1,1,0,1,0,1,0,1,1,1,1]
theorem T1_eq:T1= .seq if1 (.seq for1 (.seq if2 (.seq if3 ret1))):=by kernel_rfl
section
variable (G:List Blk) (K:List Nat) (c:Nat) (t:PT) (l:List ByteArray) (z:Nat) (cp:Cap) (d:Int) (s:Stm) (e:List (Nat×AV))
def Fr1 (e:List (Nat×AV)):Prop:=get e 0= .ptr c 0 0∧get e 2= .lst z (l.map strC) cp∧get e 3= .int .i64 d∧get e 5= .ptr G.length 0 0∧get e 9= .int .i64 l.length
def Fr (e:List (Nat×AV)):Prop:=Fr1 G c l z cp d e∧get e 10= .bool (blankB s)∧get e 11= .bool (unsetS s)∧get e 12= .bool (plainS s)
def BH:List Blk:=G++[⟨19,[s.cs],.box⟩]
theorem BH_def:BH G s=G++[⟨19,[s.cs],.box⟩]:=Eq.trans rfl rfl
variable (hf:Fr G c l z cp d s e)
include hf
theorem kind5:∃e',ex X 149 t149_5 ⟨e,BH G s,K,G.length⟩=some (.next ⟨e',BH G s,K,G.length⟩)∧Fr G c l z cp d s e'∧get e' 64= .int .i64 s.kind:=by
 obtain⟨⟨g0,g2,g3,g5,g9⟩,g10,g11,g12⟩:=hf
 obtain⟨kind,name,low,high,step,mark,dim,pieces,tA,tS,val,body,els⟩:=s
 obtain⟨op,k1,L,rA,subs,args⟩:=val
 simp only[t149_5,B149,Tryz.f149,bodyOf_some,↓sub_seq0,↓sub_seq1,↓sub_nil]
 simp[Fr,Fr1,BH,g0,g2,g3,g5,g9,g10,g11,g12,Stm.kind,app_new0]
theorem kind6 (g64:get e 64= .int .i64 s.kind):∃e',ex X 149 t149_6 ⟨e,BH G s,K,G.length⟩=some (.next ⟨e',BH G s,K,G.length⟩)∧Fr G c l z cp d s e'∧get e' 64= .int .i64 s.kind∧get e' 65= .bool (decide (s.kind=1)):=by
 obtain⟨⟨g0,g2,g3,g5,g9⟩,g10,g11,g12⟩:=hf
 simp only[t149_6,B149,Tryz.f149,bodyOf_some,↓sub_seq0,↓sub_seq1,↓sub_block,↓sub_nil]
 simp[Fr,Fr1,BH,g0,g2,g3,g5,g9,g10,g11,g12,g64,app_new0]
theorem kind20 (g64:get e 64= .int .i64 s.kind):∃e',ex X 149 t149_20 ⟨e,BH G s,K,G.length⟩=some (.next ⟨e',BH G s,K,G.length⟩)∧Fr G c l z cp d s e'∧get e' 64= .int .i64 s.kind∧get e' 182= .bool (decide (s.kind=2)):=by
 obtain⟨⟨g0,g2,g3,g5,g9⟩,g10,g11,g12⟩:=hf
 simp only[t149_20,B149,Tryz.f149,bodyOf_some,↓sub_seq0,↓sub_seq1,↓sub_block,↓sub_cond0,↓sub_cond1,↓sub_nil]
 simp[Fr,Fr1,BH,g0,g2,g3,g5,g9,g10,g11,g12,g64,app_new0]
theorem kind22 (g64:get e 64= .int .i64 s.kind):∃e',ex X 149 t149_22 ⟨e,BH G s,K,G.length⟩=some (.next ⟨e',BH G s,K,G.length⟩)∧Fr G c l z cp d s e'∧get e' 216= .bool (decide (s.kind=3)):=by
 obtain⟨⟨g0,g2,g3,g5,g9⟩,g10,g11,g12⟩:=hf
 simp only[t149_22,B149,Tryz.f149,bodyOf_some,↓sub_seq0,↓sub_seq1,↓sub_block,↓sub_cond0,↓sub_cond1,↓sub_nil]
 simp[Fr,Fr1,BH,g0,g2,g3,g5,g9,g10,g11,g12,g64,app_new0]
theorem kinds:∃e',Fr G c l z cp d s e'∧ex X 149 rest149 ⟨e,BH G s,K,G.length⟩=andThen (blk 0 (if s.kind=1 then ex X 149 T1 ⟨e',BH G s,K,G.length⟩else if s.kind=2 then ex X 149 T2 ⟨e',BH G s,K,G.length⟩else if s.kind=3 then ex X 149 T3 ⟨e',BH G s,K,G.length⟩else some (.next ⟨e',BH G s,K,G.length⟩))) (ex X 149 T24):=by
 obtain⟨e1,h1,f1,k1⟩:=kind5 G K c l z cp d s e hf
 obtain⟨e2,h2,f2,k2,q2⟩:=kind6 G K c l z cp d s e1 f1 k1
 rw[rest_eq,ex_seq,ex_next h1,ex_block,ex_next h2,ex_cond']
 simp only[evO,q2]
 by_cases c1:s.kind=1
 ·exact⟨e2,f2,by simp[c1]⟩
 ·obtain⟨e3,h3,f3,k3,q3⟩:=kind20 G K c l z cp d s e2 f2 k2
  rw[ex_next h3,ex_cond']
  simp only[evO,q3]
  by_cases c2:s.kind=2
  ·exact⟨e3,f3,by simp[c2]⟩
  ·obtain⟨e4,h4,f4,q4⟩:=kind22 G K c l z cp d s e3 f3 k3
   rw[ex_next h4,ex_cond']
   simp only[evO,q4]
   exact⟨e4,f4,by by_cases c3:s.kind=3 <;> simp[c1,c2,c3]⟩
end
end T
end
section
open Go Go.Proofs Go.Sym
namespace T
attribute [-simp] getElem?_pos
theorem fin149 (G:List Blk) (K:List Nat) (r:List Blk) (e:List (Nat×AV)) (b:Bool) (h:get e 8= .bool b):fin X.P (X.raw 149) Tryz.f149.results.toList (.ret ⟨e,G++r,K,G.length⟩)=some (.ret (.bool b),G,K):=by
 simp only[Tryz.f149]
 simp[h,leave_pure]
theorem fin149n (G:List Blk) (K:List Nat) (x:Blk) (e:List (Nat×AV)):ob (andThen (blk 0 (some (.next ⟨e,G++[x],K,G.length⟩))) (ex X 149 T24)) (fin X.P (X.raw 149) Tryz.f149.results.toList)=some (.ret (.bool false),G,K):=by
 simp only[T24,B149,Tryz.f149,bodyOf_some,↓sub_seq0,↓sub_seq1,↓sub_nil]
 simp[leave_pure]
section
variable (G:List Blk) (K:List Nat) (c:Nat) (t:PT) (l:List ByteArray) (z:Nat) (cp:Cap) (d:Int) (s:Stm) (e:List (Nat×AV)) (hf:Fr G c l z cp d s e)
include hf
set_option maxHeartbeats 4000000 in
theorem asg149 (k:Int) (hb:G[c]? =some (ckB t k)) (hs:OkStm s) (hz:nsz s.val≤1073741824) (h3:s.kind=3):∃e',ex X 149 T3 ⟨e,BH G s,K,G.length⟩=some (.ret ⟨e',BH G s,K,G.length⟩)∧get e' 8= .bool (asgB t l.length s):=by
 obtain⟨⟨g0,g2,g3,g5,g9⟩,g10,g11,g12⟩:=hf
 have hG:G≠[]:=by rintro rfl;simp at hb
 have hlc:c < G.length:=(List.getElem?_eq_some_iff.1 hb).1
 cases hs with
 | @mk kind name low high step mark dim pieces tA tS val body els hname hlow hhigh hpie htS hval hbl hel hbody hels=>
 have h3:kind=3:=h3
 subst h3
 have hbB:(BH G (.mk 3 name low high step mark dim pieces tA tS val body els))[c]? =some (ckB t k):=by rw[BH_def,List.getElem?_append_left hlc,hb]
 have h163:=e163 _ K c t k hbB tA tS l.length htS
 have h164:=ic164 hval hz
 have hnd:=ndR_iff val
 have h165:=e165 c t k l.length K hval _ hbB
 simp only[asgB,unsetS]at g11 ⊢
 simp only[BH_def]at h163 h165 ⊢
 simp only[ckB_def]at hb
 have hnR:(ndR val:Int)≤64∨¬(ndR val:Int)≤64:=by omega
 generalize nodB t l.length val=v7 at*
 generalize decide (nsz val≤64)=v6 at*
 generalize ndR val=nr at*
 generalize celB t l.length tA tS=v5 at*
 generalize hbb:blankB (.mk 3 name low high step mark dim pieces tA tS val body els)=v1 at*
 generalize unset dim pieces=v2 at*
 obtain⟨op,k1,L,rA,subs,args⟩:=val
 simp only[T3,B149,Tryz.f149,bodyOf_some,↓sub_seq0,↓sub_seq1,↓sub_block,↓sub_cond0,↓sub_cond1,↓sub_nil]
 cases v1
 ·simp[g0,g2,g3,g5,g9,g10,g11,g12]
 cases v2
 ·simp[g0,g2,g3,g5,g9,g10,g11,g12]
 by_cases c2:body=[]
 ·subst c2
  by_cases c3:els=[]
  ·subst c3
   simp at h163 h165 h164
   cases v5
   ·simp[g0,g2,g3,g5,g9,g10,g11,g12,hb,hlc,List.getElem?_append_left,app_new0,h163]
   ·rcases hnR with hnR |hnR
    ·simp only[hnR,decide_true]at hnd
     subst hnd
     cases v7
     ·simp[g0,g2,g3,g5,g9,g10,g11,g12,hb,hlc,List.getElem?_append_left,app_new0,h163,h164,h165,hnR]
     ·simp[g0,g2,g3,g5,g9,g10,g11,g12,hb,hlc,List.getElem?_append_left,app_new0,h163,h164,h165,hnR]
    ·simp only[hnR,decide_false]at hnd
     subst hnd
     simp[g0,g2,g3,g5,g9,g10,g11,g12,hb,hlc,List.getElem?_append_left,app_new0,h163,h164,hnR]
  ·simp[g0,g2,g3,g5,g9,g10,g11,g12,hb,hlc,List.getElem?_append_left,app_new0,c3]
 ·simp[g0,g2,g3,g5,g9,g10,g11,g12,hb,hlc,List.getElem?_append_left,app_new0,c2]
end
end T
end
section
open Go Go.Proofs Go.Sym
namespace T
attribute [-simp] getElem?_pos
def EndR (x:Option Out) (G:List Blk) (K:List Nat) (c:Nat) (t:PT) (s:Stm) (k:Nat) (fact:Prop):Prop:=
 ∃e' K2,(x=some (.ret ⟨e',G.set c (ckB t k)++[⟨19,[s.cs],.box⟩],K++K2,G.length⟩)∧get e' 8= .bool true∧fact)∨
  ∃(k2:Nat) (r:List Blk),x=some (.ret ⟨e',G.set c (ckB t k2)++r,K++K2,G.length⟩)∧get e' 8= .bool false∧¬fact
theorem endR_fail {x:Option Out} {G:List Blk} {K:List Nat} {c:Nat} {t:PT} {s:Stm} {k k0:Nat} {fact:Prop} (hself:G.set c (ckB t k0)=G) (h:∃e',x=some (.ret ⟨e',G++[⟨19,[s.cs],.box⟩],K,G.length⟩)∧get e' 8= .bool false) (hn: ¬fact):EndR x G K c t s k fact:=by
 obtain⟨e',h1,h2⟩:=h
 exact⟨e',[],.inr ⟨k0,[⟨19,[s.cs],.box⟩],by rw[hself,List.append_nil];exact h1,h2,hn⟩⟩
theorem endR_fail2 {x:Option Out} {G:List Blk} {K:List Nat} {c:Nat} {t:PT} {s:Stm} {k:Nat} {fact:Prop} (k2:Nat) (K2:List Nat) (h:∃e',x=some (.ret ⟨e',G.set c (ckB t k2)++[⟨19,[s.cs],.box⟩],K++K2,G.length⟩)∧get e' 8= .bool false) (hn: ¬fact):EndR x G K c t s k fact:=by
 obtain⟨e',h1,h2⟩:=h
 exact⟨e',K2,.inr ⟨k2,_,h1,h2,hn⟩⟩
theorem endR_ok {x:Option Out} {G:List Blk} {K:List Nat} {c:Nat} {t:PT} {s:Stm} {k:Nat} {fact:Prop} (K2:List Nat) (h:∃e',x=some (.ret ⟨e',G.set c (ckB t k)++[⟨19,[s.cs],.box⟩],K++K2,G.length⟩)∧get e' 8= .bool true) (hn:fact):EndR x G K c t s k fact:=by
 obtain⟨e',h1,h2⟩:=h
 exact⟨e',K2,.inl ⟨h1,h2,hn⟩⟩
section
variable (G:List Blk) (K:List Nat) (c:Nat) (t:PT) (l:List ByteArray) (z:Nat) (cp:Cap) (d:Int)
set_option maxHeartbeats 4000000 in
theorem test149 (name:ByteArray) (low high:Tab) (step mark dim:Int) (pieces:List (List Cnd)) (tA:Int) (tS:List Lin) (val:Ex) (body els:List Stm) (hpie:okPie pieces)
  (hbl:body.length≤1073741823) (hel:els.length≤1073741823) (hbody:∀s ∈ body,OkStm s∧SpecR t s) (hels:∀s ∈ els,OkStm s∧SpecR t s) (k:Nat) (hk:k≤256) (hb:G[c]? =some (ckB t k)) (hn:NmOK K l z cp) (hd:d=(l.length:Int)-t.ps.length) (hlen:l.length≤t.ps.length+10)
  (e:List (Nat×AV)) (hf:Fr G c l z cp d (.mk 2 name low high step mark dim pieces tA tS val body els) e):
  EndR (ex X 149 T2 ⟨e,BH G (.mk 2 name low high step mark dim pieces tA tS val body els),K,G.length⟩) G K c t (.mk 2 name low high step mark dim pieces tA tS val body els) (k+(sszL body+sszL els)) (k+(sszL body+sszL els)≤256∧GoodS t l (.mk 2 name low high step mark dim pieces tA tS val body els)):=by
 obtain⟨⟨g0,g2,g3,g5,g9⟩,g10,g11,g12⟩:=hf
 have hG:G≠[]:=by rintro rfl;simp at hb
 have hlc:c < G.length:=(List.getElem?_eq_some_iff.1 hb).1
 have hself:=set_self hb
 have hsc:=hn.scrub
 have hF:GoodS t l (.mk 2 name low high step mark dim pieces tA tS val body els)→(∀ s ∈ body,GoodS t l s)∧(∀ s ∈ els,GoodS t l s)∧blankB (.mk 2 name low high step mark dim pieces tA tS val body els)=true∧(plainRef tA tS&&plainEx val)=true∧setB dim pieces=true∧dim=l.length:=fun h=>by
  cases h with
  |test _ g1 g2 g3 g4 g5 g6 g7=>exact⟨g6,g7,g1,by rw[g2,g3];rfl,g4,g5⟩
 have hT:blankB (.mk 2 name low high step mark dim pieces tA tS val body els)=true→(plainRef tA tS&&plainEx val)=true→setB dim pieces=true→dim=l.length→(∀ s ∈ body,GoodS t l s)→(∀ s ∈ els,GoodS t l s)→GoodS t l (.mk 2 name low high step mark dim pieces tA tS val body els):=fun h1 h2 h3 h4 h5 h6=>by
  rw[Bool.and_eq_true]at h2
  exact GoodS.test hlen h1 h2.1 h2.2 h3 h4 h5 h6
 have h162:=ic162 dim pieces hpie
 simp only[plainS]at g12
 generalize (plainRef tA tS&&plainEx val)=v2 at*
 generalize blankB (.mk 2 name low high step mark dim pieces tA tS val body els)=v1 at*
 obtain⟨op,k1,L,rA,subs,args⟩:=val
 generalize hB:(⟨19,[Stm.cs (.mk 2 name low high step mark dim pieces tA tS (.mk op k1 L rA subs args) body els)],.box⟩:Blk)=B
 have hset:∀q,(G++[B]).set c q=G.set c q++[B]:=fun q=>by rw[List.set_append_left _ _ hlc]
 have hset2:∀x q,(G.set c x++[B]).set c q=G.set c q++[B]:=fun x q=>by rw[List.set_append_left _ _ (by simpa using hlc),List.set_set]
 have ha:=e131 (G++[B]) K c t l z cp d body k hk (by rw[List.getElem?_append_left hlc,hb]) hn hd hbl hbody
 have hb2:∀K1,k+sszL body≤256→_:=fun K1 hk2=>e131 (G.set c (ckB t (k+sszL body:Nat))++[B]) (K++K1) c t l z cp d els (k+sszL body) hk2 (by rw[List.getElem?_append_left (by simpa using hlc),List.getElem?_set_self hlc]) (hn.mono K1) hd hel hels
 unfold OutR at ha hb2
 simp only[hset]at ha
 simp only[hset2]at hb2
 subst hB
 simp only[BH_def]
 simp only[ckB_def]at hb
 simp only[T2,B149,Tryz.f149,bodyOf_some,↓sub_seq0,↓sub_seq1,↓sub_block,↓sub_cond0,↓sub_cond1,↓sub_nil]
 cases v1
 ·refine endR_fail hself ?_ (fun hq=>by have hq:=(hF hq.2).2.2;simp at hq)
  simp[g0,g2,g3,g5,g9,g10,g11,g12]
 cases v2
 ·refine endR_fail hself ?_ (fun hq=>by have hq:=(hF hq.2).2.2;simp at hq)
  simp[g0,g2,g3,g5,g9,g10,g11,g12]
 cases v10:setB dim pieces with
 |false=>
  rw[v10]at h162
  refine endR_fail hself ?_ (fun hq=>by have hq:=(hF hq.2).2.2;simp[v10]at hq)
  simp[g0,g2,g3,g5,g9,g10,g11,g12,hb,hlc,List.getElem?_append_left,app_new0,h162]
 |true=>
  rw[v10]at h162
  by_cases c3:dim=l.length
  ·subst c3
   rcases ha with⟨K1,ha,hle1,hg1⟩ |⟨k2,K1,ha,hn1⟩
   ·rcases hb2 K1 hle1 with⟨K2,hb2,hle2,hg2⟩ |⟨k2,K2,hb2,hn2⟩
    ·rw[show k+(sszL body+sszL els)=k+sszL body+sszL els from by omega]
     refine endR_ok (K1++K2) ?_ ⟨by omega,hT rfl rfl v10 rfl hg1 hg2⟩
     simp[ckB]at ha hb2
     simp[g0,g2,g3,g5,g9,g10,g11,g12,hb,hlc,hsc,List.getElem?_append_left,app_new0,app_set0,h162,ha,hb2,ckB]
    ·refine endR_fail2 k2 (K1++K2) ?_ (fun hq=>hn2 ⟨by have:=hq.1;omega,(hF hq.2).2.1⟩)
     simp[ckB]at ha hb2
     simp[g0,g2,g3,g5,g9,g10,g11,g12,hb,hlc,hsc,List.getElem?_append_left,app_new0,app_set0,h162,ha,hb2,ckB]
   ·refine endR_fail2 k2 K1 ?_ (fun hq=>hn1 ⟨by have:=hq.1;omega,(hF hq.2).1⟩)
    simp[ckB]at ha
    simp[g0,g2,g3,g5,g9,g10,g11,g12,hb,hlc,hsc,List.getElem?_append_left,app_new0,app_set0,h162,ha,ckB]
  ·refine endR_fail hself ?_ (fun hq=>by have hq:=(hF hq.2).2.2;simp[c3]at hq)
   simp[g0,g2,g3,g5,g9,g10,g11,g12,hb,hlc,List.getElem?_append_left,app_new0,h162,c3]
end
end T
end
