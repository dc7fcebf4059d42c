/- The law MovesDo of headlandlaw20 returns true, at arguments of the row's types whose lengths are at most uptoBulk: the program's Do and Back answer as the reference's do. Conditions: those of the given row (Rows.MovesDoUptoCardSaid), and no others. Part 5 of the proof. -/
import Derived.Test.YtfephppemgmokaaGreatDoorAd
import Derived.Laws.IdiomCopy
set_option linter.unusedVariables false
set_option linter.unusedSimpArgs false
set_option linter.unusedSectionVars false
section
namespace Go.Sym
open Go.RowKit
section
variable {L:Lay} {w w':World} {base:Nat}
def RowsV (L:Lay) (w:World) (sz:Nat):List (List AV)→List Value→Prop
 | [],us=>us=[]
 |row::r,us=>∃a q,us=a++q∧row.length=sz∧pureL row=true∧cellsB row=true∧RepL L w row a∧RowsV L w sz r q
theorem RowsV.length {sz:Nat}:∀{rows:List (List AV)} {us:List Value},RowsV L w sz rows us→us.length=rows.length*sz
 | [],us,h=>by simp only[RowsV]at h;simp[h]
 |row::r,us,h=>by
  obtain⟨a,q,rfl,hl,_,_,ha,hq⟩:=h
  rw[List.length_append,ha.length,hl,hq.length,List.length_cons,Nat.add_mul,Nat.one_mul,Nat.add_comm]
theorem RowsV.one {sz:Nat}:∀{rows:List (List AV)} {us:List Value},RowsV L w sz rows us→∀u ∈ us,u.oneCell'=true
 | [],us,h,u,hu=>by simp only[RowsV]at h;simp[h]at hu
 |row::r,us,h,u,hu=>by
  obtain⟨a,q,rfl,_,_,hc,ha,hq⟩:=h
  rcases List.mem_append.1 hu with hu |hu
  ·exact ha.oneCell hc u hu
  ·exact hq.one u hu
theorem RowsV.append {sz:Nat}:∀{rows rows':List (List AV)} {us us':List Value},RowsV L w sz rows us→RowsV L w sz rows' us'→RowsV L w sz (rows++rows') (us++us')
 | [],_,us,_,h,h'=>by simp only[RowsV]at h;subst h;exact h'
 |row::r,_,us,us',h,h'=>by
  obtain⟨a,q,rfl,hl,hp,hc,ha,hq⟩:=h
  exact⟨a,q++us',by rw[List.append_assoc],hl,hp,hc,ha,hq.append h'⟩
theorem RowsV.drop {sz:Nat}:∀{rows:List (List AV)} {us:List Value} (n:Nat),RowsV L w sz rows us→RowsV L w sz (rows.drop n) (us.drop (n*sz))
 |_,_,0,h=>by simpa using h
 | [],us,n+1,h=>by simp only[RowsV]at h;subst h;simp[RowsV]
 |row::r,us,n+1,h=>by
  obtain⟨a,q,rfl,hl,hp,hc,ha,hq⟩:=h
  have hal:a.length=sz:=by rw[ha.length,hl]
  rw[List.drop_succ_cons,show(n+1)*sz=a.length+n*sz by rw[hal,Nat.add_mul,Nat.one_mul,Nat.add_comm],List.drop_append,List.drop_of_length_le (l:=a) (by omega),List.nil_append,Nat.add_sub_cancel_left]
  exact hq.drop n
theorem RowsV.take {sz:Nat}:∀{rows:List (List AV)} {us:List Value} (n:Nat),RowsV L w sz rows us→RowsV L w sz (rows.take n) (us.take (n*sz))
 |_,_,0,h=>by simp[RowsV]
 | [],us,n+1,h=>by simp only[RowsV]at h;subst h;simp[RowsV]
 |row::r,us,n+1,h=>by
  obtain⟨a,q,rfl,hl,hp,hc,ha,hq⟩:=h
  have hal:a.length=sz:=by rw[ha.length,hl]
  refine⟨a,q.take (n*sz),?_,hl,hp,hc,ha,hq.take n⟩
  rw[show (n+1)*sz=a.length+n*sz by rw[hal,Nat.add_mul,Nat.one_mul,Nat.add_comm],List.take_append,List.take_of_length_le (l:=a) (by omega),Nat.add_sub_cancel_left]
theorem RepL.extL {L':Lay} (h:Ext base L w L' w'):∀{vs:List AV} {us:List Value},RepL L w vs us→RepL L' w' vs us:=fun {vs us} hr=>RepL.ext h vs us hr
theorem RowsV.ext {L':Lay} (h:Ext base L w L' w') {sz:Nat}:∀{rows:List (List AV)} {us:List Value},RowsV L w sz rows us→RowsV L' w' sz rows us
 | [],_,h'=>h'
 |row::r,us,h'=>by
  obtain⟨a,q,rfl,hl,hp,hc,ha,hq⟩:=h'
  exact⟨a,q,rfl,hl,hp,hc,ha.extL h,hq.ext h⟩
theorem repC_of {g:Nat}:∀{p:Nat} {vs:List AV} {us:List Value},RepL L w vs us→pureL vs=true→cellsB vs=true→(∀ j,j < vs.length→L.S g (p+j))→(∀ j u,us[j]? =some u→w.cell? ⟨g,p+j,none⟩=some u)→RepC L w .no g p vs
 |_,[],_,_,_,_,_,_=>by simp[RepC]
 |p,v::r,us,h,hp,hc,hS,hu=>by
  obtain⟨u,q,rfl,hv,hq⟩:=by simpa only[RepL] using h
  simp only[pureL,Bool.and_eq_true]at hp
  simp only[cellsB,Bool.and_eq_true]at hc
  simp only[RepC]
  refine⟨.inl (by simpa using hS 0 (by simp)),hp.1,hc.1,⟨u,by simpa using hu 0 u rfl,hv⟩,repC_of hq hp.2 hc.2 (fun j hj=>?_) fun j u' hj=>?_⟩
  ·have:=hS (j+1) (by simp;omega)
   rwa[show p+(j+1)=p+1+j by omega]at this
  ·have:=hu (j+1) u' (by simpa using hj)
   rwa[show p+(j+1)=p+1+j by omega]at this
theorem repR_of' {sz g:Nat}:∀{p:Nat} {rows:List (List AV)} {us:List Value},RowsV L w sz rows us→(∀ j,j < us.length→L.S g (p+j))→(∀ j u,us[j]? =some u→w.cell? ⟨g,p+j,none⟩=some u)→RepR L w .no sz g p rows
 |_,[],_,_,_,_=>by simp[RepR]
 |p,row::r,us,h,hS,hu=>by
  obtain⟨a,q,rfl,hl,hp,hc,ha,hq⟩:=h
  have hal:a.length=sz:=by rw[ha.length,hl]
  simp only[RepR]
  refine⟨hl,repC_of ha hp hc (fun j hj=>hS j (by rw[List.length_append];omega)) (fun j u hj=>hu j u (by rw[List.getElem?_append_left (List.getElem?_eq_some_iff.1 hj).1];exact hj)),repR_of' hq (fun j hj=>?_) fun j u hj=>?_⟩
  ·have:=hS (sz+j) (by rw[List.length_append];omega)
   rwa[←Nat.add_assoc]at this
  ·have:=hu (sz+j) u (by rw[List.getElem?_append_right (by omega),hal,Nat.add_sub_cancel_left];exact hj)
   rwa[←Nat.add_assoc]at this
theorem repL_cells {c:Cap} {g:Nat}:∀{p:Nat} {vs:List AV},RepC L w c g p vs→∃us:List Value,RepL L w vs us∧pureL vs=true∧cellsB vs=true∧(∀ j u,us[j]? =some u→w.cell? ⟨g,p+j,none⟩=some u)
 |_,[],_=>⟨[],by simp[RepL],rfl,rfl,fun j u h=>by simp at h⟩
 |p,v::r,h=>by
  obtain⟨_,hp,hc,⟨u,hu,hv⟩,hq⟩:=by simpa only[RepC] using h
  obtain⟨us,h1,h2,h3,h4⟩:=repL_cells hq
  refine⟨u::us,?_,by simp[pureL,hp,h2],by simp[cellsB,hc,h3],fun j x hj=>?_⟩
  ·simp only[RepL]
   exact⟨u,us,rfl,hv,h1⟩
  ·cases j with
   |zero=>cases hj;simpa using hu
   |succ j=>
    have:=h4 j x (by simpa using hj)
    rwa[show p+1+j=p+(j+1)by omega]at this
theorem rowsV_mem {c:Cap} {sz g:Nat}:∀{p:Nat} {rows:List (List AV)},RepR L w c sz g p rows→∃us:List Value,RowsV L w sz rows us∧(∀ j u,us[j]? =some u→w.cell? ⟨g,p+j,none⟩=some u)
 |_,[],_=>⟨[],rfl,fun j u h=>by simp at h⟩
 |p,row::r,h=>by
  obtain⟨hl,hc,hr⟩:=by simpa only[RepR] using h
  obtain⟨a,h1,h2,h3,h4⟩:=repL_cells hc
  obtain⟨q,k1,k2⟩:=rowsV_mem hr
  have hal:a.length=sz:=by rw[h1.length,hl]
  refine⟨a++q,⟨a,q,rfl,hl,h2,h3,h1,k1⟩,fun j u hj=>?_⟩
  by_cases hlt:j < a.length
  ·rw[List.getElem?_append_left hlt]at hj
   exact h4 j u hj
  ·rw[List.getElem?_append_right (by omega)]at hj
   have:=k2 _ u hj
   rwa[show p+sz+(j-a.length)=p+j by omega]at this
theorem repL_norm {cs:Array Value}:∀{p:Nat} {row:List AV},pureL (stripL row)=true→cellsB row=true→(∀ o v,row[o]? =some v→∃u,cs[p+o]? =some u∧Rep L w v u)→
  ∃us:List Value,RepL L w (normL row) us∧pureL (normL row)=true∧cellsB (normL row)=true∧us.length=row.length∧(∀ j u,us[j]? =some u→cs[p+j]? =some u)
 |_,[],_,_,_=>⟨[],by simp[normL,RepL],rfl,rfl,rfl,fun j u h=>by simp at h⟩
 |p,v::r,hp,hc,h=>by
  simp only[stripL,pureL,Bool.and_eq_true]at hp
  simp only[cellsB,Bool.and_eq_true]at hc
  obtain⟨u,hu,hv⟩:=h 0 v rfl
  obtain⟨us,h1,h2,h3,h4,h5⟩:=repL_norm (cs:=cs) (p:=p+1) hp.2 hc.2 (fun o x hx=>by
   obtain⟨u,hu,hx'⟩:=h (o+1) x (by simpa using hx)
   exact⟨u,by rwa[show p+1+o=p+(o+1)by omega],hx'⟩)
  refine⟨u::us,?_,by simp[normL,pureL,normv_pure v hp.1,h2],by simp[normL,cellsB,cellB_normv,hc.1,h3],by simp[h4],fun j x hj=>?_⟩
  ·simp only[normL,RepL]
   exact⟨u,us,rfl,Rep.normv v u hp.1 hv,h1⟩
  ·cases j with
   |zero=>cases hj;simpa using hu
   |succ j=>
    have:=h5 j x (by simpa using hj)
    rwa[show p+1+j=p+(j+1)by omega]at this
theorem rowsV_norm {cs:Array Value} {sz:Nat}:∀{p:Nat} {rows:List (List AV)},purR rows=true→(∀ i row,rows[i]? =some row→row.length=sz∧∀o v,row[o]? =some v→∃u,cs[p+i*sz+o]? =some u∧Rep L w v u)→
  ∃us:List Value,RowsV L w sz (rows.map normL) us∧us.length=rows.length*sz∧(∀ j u,us[j]? =some u→cs[p+j]? =some u)
 |_,[],_,_=>⟨[],rfl,by simp,fun j u h=>by simp at h⟩
 |p,row::r,hp,h=>by
  simp only[purR,Bool.and_eq_true]at hp
  obtain⟨hl,hr⟩:=h 0 row rfl
  obtain⟨a,h1,h2,h3,h4,h5⟩:=repL_norm (L:=L) (w:=w) (cs:=cs) (p:=p) (row:=row) hp.1.1 hp.1.2 (fun o v hv=>by simpa using hr o v hv)
  obtain⟨q,k1,k2,k3⟩:=rowsV_norm (cs:=cs) (sz:=sz) (p:=p+sz) hp.2 (fun i row' hi=>by
   obtain⟨e1,e2⟩:=h (i+1) row' (by simpa using hi)
   refine⟨e1,fun o v hv=>?_⟩
   obtain⟨u,hu,hx⟩:=e2 o v hv
   exact⟨u,by rwa[show p+sz+i*sz+o=p+(i+1)*sz+o by rw[Nat.add_mul,Nat.one_mul];omega],hx⟩)
  have hnl:(normL row).length=sz:=by rw[normL_length,hl]
  refine⟨a++q,⟨a,q,rfl,hnl,h2,h3,h1,k1⟩,by rw[List.length_append,h4,hl,k2,List.length_cons,Nat.add_mul,Nat.one_mul,Nat.add_comm],fun j u hj=>?_⟩
  by_cases hlt:j < a.length
  ·rw[List.getElem?_append_left hlt]at hj
   exact h5 j u hj
  ·rw[List.getElem?_append_right (by omega)]at hj
   have:=k3 _ u hj
   rwa[show p+sz+(j-a.length)=p+j by omega]at this
end
theorem oldB_dead {H:List Blk} {b sz n:Nat} (hb:b < H.length) (h:OldB n (lH H)):OldB n (lH (H.set b ⟨sz,[],.dead⟩)):=by
 rw[lH_set _ _ hb]
 intro x k hx hk
 by_cases e:x=b
 ·subst e
  rw[setF_same]at hk
  cases hk
  exact⟨fun row hr=>by simp at hr,fun t=>rfl⟩
 ·rw[setF_ne _ _ _ e]at hk
  exact h x k hx hk
theorem take_dead {L:Lay} {H:List Blk} {K:List Nat} {w w':World} {base:Nat} (hi:Inv L (lH H) (lK K) w base) {b r:Nat} {k:Blk} (hk:H[b]? =some k) (hd:deadB k.kind=false) (hr:L.hp b=some (r,k.sz))
  {g N:Nat} (hg:g=r∨w.heap.size≤g) (hgl:g < w'.heap.size) (hb:Below base w w') (ho:∀x,x < w.heap.size→x≠r→w'.heap[x]? =w.heap[x]?)
  (hc:∀o:Nat,(w.cell? ⟨r,o,none⟩).isSome=true→(w'.cell? ⟨r,o,none⟩).isSome=true) (hm:∃cs e,w.heap[r]? =some (.cells cs e (0,0))):
  Ext base L w (L.fix g N) w'∧Inv (L.fix g N) (lH (H.set b ⟨k.sz,[],.dead⟩)) (lK K) w' base:=by
 have hbl:b < H.length:=(List.getElem?_eq_some_iff.1 hk).1
 have hkk:=hi.blk b k r k.sz hk hr
 obtain⟨hS,hB⟩:=hi.apart b k r k.sz hk hd hr
 have hrl:r < w.heap.size:=hkk.lt
 obtain⟨cs,e,hm⟩:=hm
 have hbg:base≤g:=hg.elim (fun e=>e ▸ hkk.base) (fun h=>Nat.le_trans hi.top h)
 have nr:∀{x:Nat} {o:Obj},w.heap[x]? =some o→(∀ cs e z,o≠ .cells cs e z)→x≠r:=fun hx hno e=>by
  subst e
  rw[hm]at hx
  cases hx
  exact hno _ _ _ rfl
 have hx:Ext base L w (L.fix g N) w':=by
  refine⟨fun _ _ h=>.inl h,fun g' o h=>cell_of_heap (ho g' (hi.size g' o h) fun e=>hS o (e ▸ h)),fun _ h=>h,fun g' o h=>cell_of_heap (ho g' (Nat.lt_of_lt_of_le (hi.lent g' h) hi.top) fun e=>hB (e ▸ h)),fun _ _ h=>h,fun _ k h=>⟨k,h,.inl rfl⟩,
   fun g' o h=>?_,hb,⟨fun x hx=>?_,fun x rc hx=>⟨rc,?_,rfl⟩,fun x o hx=>?_⟩⟩
  ·rcases h with h |⟨rfl,_⟩
   ·exact .inl h
   ·exact .inr hbg
  ·rw[ho x (Array.getElem?_eq_some_iff.1 hx).1 (nr hx (fun _ _ _ h=>by cases h))];exact hx
  ·rw[ho x (Array.getElem?_eq_some_iff.1 hx).1 (nr hx (fun _ _ _ h=>by cases h))];exact hx
  ·by_cases e:x=r
   ·subst e;exact hc o hx
   ·have hl:x < w.heap.size:=by
     unfold World.cell? at hx
     cases hh:w.heap[x]? with
     |none=>simp[hh]at hx
     |some y=>exact(Array.getElem?_eq_some_iff.1 hh).1
    rw[cell_of_heap (ho x hl e)];exact hx
 refine⟨hx,?_⟩
 rw[lH_set _ _ hbl]
 have ne:∀{b' r' sz'},b'≠b→L.hp b'=some (r',sz')→r'≠r:=fun hbb h e=>by
  subst e
  exact hbb (hi.inj _ _ _ _ _ h hr)
 have lt:∀{b' r' sz'},L.hp b'=some (r',sz')→r' < w.heap.size:=fun h=>by
  obtain⟨k',hk',rfl⟩:=hi.dom' _ _ _ h
  exact(hi.blk _ _ _ _ hk' h).lt
 refine⟨fun b' k' hk'=>?_,fun b' r' sz' h=>?_,fun b' k' r' sz' hk' h=>?_,hi.inj,fun b' k' r' sz' hk' hd' h=>⟨fun o hs=>?_,?_⟩,hi.K,fun t q hq=>?_,hi.tkinj,fun g' o hs=>?_,hi.lent,Nat.le_trans hi.top hb.size,hi.glob.below hb⟩
 ·by_cases e:b'=b
  ·subst e
   rw[setF_same]at hk'
   cases hk'
   exact⟨r,hr⟩
  ·rw[setF_ne _ _ _ e]at hk'
   exact hi.dom b' k' hk'
 ·by_cases e:b'=b
  ·subst e
   have h':L.hp b'=some (r',sz'):=h
   rw[hr]at h'
   cases h'
   exact⟨_,setF_same _ _ _,rfl⟩
  ·obtain⟨k0,h0,h1⟩:=hi.dom' b' r' sz' h
   exact⟨k0,(setF_ne _ _ _ e).trans h0,h1⟩
 ·by_cases e:b'=b
  ·subst e
   rw[setF_same]at hk'
   cases hk'
   have h':L.hp b'=some (r',sz'):=h
   rw[hr]at h'
   cases h'
   exact⟨hkk.base,fun h=>by simp[rngB]at h,fun f nt env ps as bd st h=>(by cases h),fun _=>⟨rfl,Nat.lt_of_lt_of_le hrl hb.size⟩,fun t h=>(by cases h)⟩
  ·rw[setF_ne _ _ _ e]at hk'
   exact(hi.blk b' k' r' sz' hk' h).ext hx (ho r' (lt h) (ne e h))
 ·have e:b'≠b:=fun e=>by
   subst e
   rw[setF_same]at hk'
   cases hk'
   simp[deadB]at hd'
  rw[setF_ne _ _ _ e]at hk'
  rcases hs with hs |⟨rfl,_⟩
  ·exact(hi.apart b' k' r' sz' hk' hd' h).1 o hs
  ·rcases hg with hg |hg
   ·exact ne e h hg
   ·have:=lt h;omega
 ·have e:b'≠b:=fun e=>by
   subst e
   rw[setF_same]at hk'
   cases hk'
   simp[deadB]at hd'
  rw[setF_ne _ _ _ e]at hk'
  exact(hi.apart b' k' r' sz' hk' hd' h).2
 ·rcases hi.tk t q hq with h1 |⟨g',ha,hg',hn,⟨cs',e',hm',hcs'⟩,hs',hB',hne'⟩
  ·exact .inl h1
  ·have hgr:g'≠r:=fun e=>hne' b r k.sz hr e.symm
   refine .inr ⟨g',ha,hg',hn,⟨cs',e',(ho g' (Array.getElem?_eq_some_iff.1 hm').1 hgr).trans hm',hcs'⟩,fun o hs=>?_,hB',hne'⟩
   rcases hs with hs |⟨rfl,_⟩
   ·exact hs' o hs
   ·rcases hg with hg |hg
    ·exact absurd hg hgr
    ·have:=(Array.getElem?_eq_some_iff.1 hm').1;omega
 ·rcases hs with hs |⟨rfl,_⟩
  ·exact Nat.lt_of_lt_of_le (hi.size g' o hs) hb.size
  ·exact hgl
theorem setCells_heap (b:Nat):∀(vs:List Value) (o:Nat) (w:World) (x:Nat),x≠b→(w.setCells b o vs).heap[x]? =w.heap[x]?
 | [],_,_,_,_=>rfl
 |v::r,o,w,x,h=>by
  rw[World.setCells,setCells_heap b r (o+1) _ x h]
  exact Below.heap_setCell w ⟨b,o,none⟩ v x h
theorem below_setCells {B:Nat} {a:World} (b:Nat) (hb:B≤b):∀(vs:List Value) (o:Nat) {w:World},Below B a w→Below B a (w.setCells b o vs)
 | [],_,_,h=>h
 |v::r,o,w,h=>by
  rw[World.setCells]
  exact below_setCells b hb r (o+1) (h.setCell (p:=⟨b,o,none⟩) hb v)
theorem setCells_some (b:Nat):∀(vs:List Value) (o:Nat) (w:World) (x:Nat),(w.cell? ⟨b,x,none⟩).isSome=true→((w.setCells b o vs).cell? ⟨b,x,none⟩).isSome=true
 | [],_,_,_,h=>h
 |v::r,o,w,x,h=>by
  rw[World.setCells]
  refine setCells_some b r (o+1) _ x ?_
  by_cases e:x=o
  ·subst e
   obtain⟨u,hu⟩:=Option.isSome_iff_exists.1 h
   rw[World.cell?_setCell_same _ _ _ hu];rfl
  ·rw[World.cell?_setCell_other _ _ _ _ (by simp;omega)];exact h
end Go.Sym
end
