/- The law MovesDo of headlandlaw20 returns true, at arguments of the row's types whose lengths are at most uptoBulk: the program's Do and Back answer as the reference's do. Conditions: those of the given row (Rows.MovesDoUptoCardSaid), and no others. Part 3 of the proof. -/
import Derived.Test.YtfephppemgmokaaGreatDoorAa
import Derived.OrdersIn
import Derived.RangeFuncCalls
set_option linter.unusedVariables false
set_option linter.unusedSimpArgs false
set_option linter.unusedSectionVars false
section
namespace Go.Sym
open Go.RowKit
section
variable {P:Program} {L:Lay} {H:Nat→Option Blk} {K:Nat→Option Nat} {w:World} {base:Nat} {env:Nat→AV} {a:Act}
theorem app_none (hi:Inv L H K w base) {ts:Array TypeId} {t t2 et:TypeId} {inf:TypeInfo} (h1:ts[0]? =some t) (h2:ts[1]? =some t2) (hu:P.underlying t=some (.slice et))
  (hinf:P.info? et=some inf) {y:Value} (hy:Src P inf.size t2 y 0 [] w)
  {sz:Nat} {rows:List (List AV)} {c:Cap} {ad:Option Addr} {n cap:Nat} (hx:Rep L w (.lst sz rows c) (.slice ad n cap)) (hcap:cap=n) (hr0:rows=[]) (hc:c≠ .bor) (hsz:sz=inf.size∨rows=[])
  {i:Nat} (ht:L.tk i=none) (ty:TypeId):
  ∃L' w' u,(Builtin.append_ ts ty #[.slice ad n cap,y]).run P w= .ok u w'∧Ext base L w L' w'∧Inv L' H (setF K i rows.length) w' base∧Rep L' w' (.lst inf.size rows (.tok i)) u:=by
 have hn:=(rep_len hx).1
 have hrun:=run_app_in (P:=P) (w:=w) (w':=w) (ty:=ty) (us:=[]) (ad:=ad) (n:=n) (m:=0) (cap:=cap) h1 h2 hu hinf hy (by omega) (fun b _=>rfl) (fun _=>rfl)
 have hext:Ext base L w (L.claim i ⟨n,ad,cap,inf.size⟩) w:=Ext.claim (Ext.refl _ _ _) rfl (fun k0 h=>by rw[ht]at h;cases h)
 refine⟨_,_,_,hrun,hext,?_,?_⟩
 ·rw[hn]
  exact Inv.claim (k:=⟨n,ad,cap,inf.size⟩) hi (.inl ⟨hcap,.inl (by rw[←hn,hr0];rfl)⟩) (fun h=>absurd hcap h) (fun v u hr=>Rep.ext hext v u hr)
 ·obtain⟨a',n',cap',e,hn',hc1,hc2,hrows,_⟩:=by simpa only[Rep] using Rep.ext hext _ _ (Rep.capNo hx hc)
  cases e
  simp only[Rep]
  refine⟨ad,n+0,cap,rfl,hn,by omega,hc2,?_,⟨_,setF_same _ _ _,Nat.le_refl _,fun _=>⟨rfl,rfl,rfl⟩⟩⟩
  rcases hrows with hr |⟨g,p,ha,hr⟩
  ·exact .inl hr
  ·rcases hsz with rfl |hsz
   ·exact .inr ⟨g,p,ha,repR_cap hr _⟩
   ·exact .inl hsz
def Lay.more (L:Lay) (g lo hi:Nat):Lay:={ L with S:=fun g' o=>L.S g' o∨(g'=g∧lo≤o∧o < hi) }
theorem app_in (hi:Inv L H K w base) {ts:Array TypeId} {t t2 et:TypeId} {inf:TypeInfo} (h1:ts[0]? =some t) (h2:ts[1]? =some t2) (hu:P.underlying t=some (.slice et))
  (hinf:P.info? et=some inf) (hpos:0 < inf.size)
  {rows ys:List (List AV)} {ad:Option Addr} {n m cap i:Nat} (hx:Rep L w (.lst inf.size rows (.tok i)) (.slice ad n cap)) {us:List Value} {y:Value} (hy:Src P inf.size t2 y m us w) (hm:ys.length=m) (u4:SrcRows L w inf.size ys us)
  (hroom:n+m≤cap) {k:Tk} (hk:L.tk i=some k) (hkn:k.n=n) (ty:TypeId):
  ∃L' w' u,(Builtin.append_ ts ty #[.slice ad n cap,y]).run P w= .ok u w'∧Ext base L w L' w'∧Inv L' H (setF K i (rows++ys).length) w' base∧Rep L' w' (.lst inf.size (rows++ys) (.tok i)) u:=by
 obtain⟨hn,hcap,hmax,k1,hk1,_,hlive⟩:=rep_len hx
 rw[hk]at hk1
 cases hk1
 obtain⟨rfl,rfl,hksz⟩:=hlive hkn.symm
 have u1:us.length=m*inf.size:=hy.newsLen
 have u3:=hy.one
 have hlen:(rows++ys).length=n+m:=by simp[hn,hm]
 by_cases hm0:m=0
 ·subst hm0
  have hys:ys=[]:=List.eq_nil_of_length_eq_zero hm
  subst hys
  have hus:us=[]:=List.eq_nil_of_length_eq_zero (by rw[u1];simp)
  subst hus
  have hrun:=run_app_in (P:=P) (w:=w) (w':=w) (ty:=ty) (us:=[]) (ad:=k.a) (n:=n) (m:=0) (cap:=k.cap) h1 h2 hu hinf hy hroom (fun b _=>rfl) (fun _=>rfl)
  refine⟨L,w,_,hrun,Ext.refl _ _ _,?_,by simpa using hx⟩
  have hKi:K i=some n:=by rw[hi.K,hk];simp[hkn]
  have:setF K i (rows++[]).length=K:=by
   funext x
   by_cases e:x=i
   ·subst e;rw[setF_same,hKi];simp[hn]
   ·rw[setF_ne _ _ _ e]
  rw[this]
  exact hi
 ·rcases hi.tk i k hk with hfull |⟨g,ha,hbg,hnc,⟨cur,e,hmem,hcs⟩,hS,hB,hne⟩
  ·omega
  ·have hroomc:n*inf.size+us.length≤cur.size:=by
    rw[hcs,u1,←hksz,←Nat.add_mul]
    exact Nat.mul_le_mul_right _ hroom
   have hst:=run_storeCells_at P g (n*inf.size) e us 0 cur w hmem (by simpa using hroomc) u3
   simp only[Nat.add_zero]at hst
   generalize hnew:(cur.toList.take (n*inf.size)++us++cur.toList.drop (n*inf.size+us.length)).toArray=new at hst
   have hnews:new.size=cur.size:=by rw[←hnew];simp;omega
   have hget:∀j,new[j]? =if n*inf.size≤j∧j < n*inf.size+us.length then us[j-n*inf.size]? else cur[j]? :=by
    intro j
    rw[←hnew]
    simp only[List.getElem?_toArray]
    by_cases q1:j < n*inf.size
    ·rw[List.append_assoc,List.getElem?_append_left (by simp;omega),List.getElem?_take,if_pos q1,if_neg (by omega)]
     simp
    ·rw[List.append_assoc,List.getElem?_append_right (by simp;omega)]
     simp only[List.length_take,Array.length_toList]
     rw[Nat.min_eq_left (by omega)]
     by_cases q2:j < n*inf.size+us.length
     ·rw[List.getElem?_append_left (by omega),if_pos ⟨by omega,q2⟩]
     ·rw[List.getElem?_append_right (by omega),List.getElem?_drop,if_neg (by omega),Array.getElem?_toList]
      congr 1
      omega
   have hgl:g < w.heap.size:=(Array.getElem?_eq_some_iff.1 hmem).1
   have hrun:=run_app_in (P:=P) (w:=w) (w':=w.setRow g new) (ty:=ty) (us:=us) (ad:=k.a) (n:=n) (m:=m) (cap:=k.cap) h1 h2 hu hinf hy hroom
    (fun b hb=>by rw[ha]at hb;cases hb;rw[add_mk,Nat.zero_add];exact hst) (fun h=>by rw[ha]at h;cases h)
   have hum:us.length=m*inf.size:=u1
   have hcell:∀o,L.S g o→(w.setRow g new).cell? ⟨g,o,none⟩=w.cell? ⟨g,o,none⟩:=by
    intro o ho
    have:=hS o ho
    rw[hkn,←hksz]at this
    rw[cell_setRow_same w g o cur new e (0,0) hmem,hget,if_neg (by omega),cell_of_row w g o cur e (0,0) hmem]
   have hx1:Ext base L w (L.more g (n*inf.size) ((n+m)*inf.size)) (w.setRow g new):=by
    refine⟨fun _ _ h=>.inl h,fun g' o h=>?_,fun _ h=>h,fun g' o h=>?_,fun _ _ h=>h,fun _ k h=>⟨k,h,.inl rfl⟩,fun g' o h=>?_,below_setRow hbg,Oth.cells hmem (fun g' hg'=>setRow_other w g g' new hg') fun o ho=>?_⟩
    ·by_cases eg:g'=g
     ·subst eg;exact hcell o h
     ·exact cell_of_heap (setRow_other w g g' new eg)
    ·refine cell_of_heap (setRow_other w g g' new ?_)
     rintro rfl
     exact hB h
    ·rcases h with h |⟨rfl,_⟩
     ·exact .inl h
     ·exact .inr hbg
    ·rw[cell_of_row w g o cur e (0,0) hmem]at ho
     rw[cell_setRow_same w g o cur new e (0,0) hmem,hget]
     split
     ·rw[List.getElem?_eq_getElem (by omega)];rfl
     ·exact ho
   have hext:Ext base L w ((L.more g (n*inf.size) ((n+m)*inf.size)).claim i ⟨n+m,k.a,k.cap,inf.size⟩) (w.setRow g new):=
    Ext.claim hx1 rfl (fun k0 h=>.inr (by rw[hk]at h;cases h;show k.n < n+m;omega))
   have htkne:∀t' k' g',t'≠i→L.tk t'=some k'→k'.cap≠k'.n→k'.a=some ⟨g',0,none⟩→g'≠g:=by
    rintro t' k' g' ht' hk' hc' ha' rfl
    exact ht' (hi.tkinj t' i k' k g' hk' hk hc' (by omega) ha' ha)
   refine⟨_,_,_,hrun,hext,?_,?_⟩
   ·rw[hlen]
    refine⟨hi.dom,hi.dom',fun b kb r s q1 q2=>(hi.blk b kb r s q1 q2).ext hext (setRow_other w g r new (hne b r s q2)),hi.inj,fun b k' r s q0 q1 q=>⟨fun o ho=>?_,(hi.apart b k' r s q0 q1 q).2⟩,fun t'=>?_,fun t' k' h=>?_,fun ta tb ka kb g' q1 q2 n1 n2 a1 a2=>?_,fun g' o h=>?_,hi.lent,by rw[setRow_size];exact hi.top,hi.glob.below (below_setRow hbg)⟩
    ·rcases ho with ho |⟨rfl,_⟩
     ·exact(hi.apart b k' r s q0 q1 q).1 o ho
     ·exact hne b r s q rfl
    ·by_cases et:t'=i
     ·subst et
      rw[setF_same]
      show some (n+m)=(setF L.tk t' _ t').map (·.n)
      rw[setF_same]
      rfl
     ·rw[setF_ne _ _ _ et,hi.K t']
      show(L.tk t').map (·.n)=(setF L.tk i _ t').map (·.n)
      rw[setF_ne _ _ _ et]
    ·by_cases et:t'=i
     ·subst et
      have hh:setF L.tk t' ⟨n+m,k.a,k.cap,inf.size⟩ t'=some k':=h
      rw[setF_same]at hh
      cases hh
      refine .inr ⟨g,ha,hbg,hroom,⟨new,e,setRow_heap w g cur new e (0,0) hmem,by rw[hnews,hcs,hksz]⟩,fun o ho=>?_,hB,hne⟩
      rcases ho with ho |⟨_,ho⟩
      ·have:=hS o ho
       rw[hkn,←hksz]at this
       show o < (n+m)*inf.size
       rw[Nat.add_mul]
       omega
      ·exact ho.2
     ·have hh:setF L.tk i ⟨n+m,k.a,k.cap,inf.size⟩ t'=some k':=h
      rw[setF_ne _ _ _ et]at hh
      rcases hi.tk t' k' hh with hf |⟨g',ha',hbg',hnc',⟨cs',e',hm',hcs'⟩,hS',hB',hne'⟩
      ·exact .inl hf
      ·by_cases hc':k'.cap=k'.n
       ·exact .inl ⟨hc',.inr ⟨g',ha',hbg'⟩⟩
       ·have hgg:=htkne t' k' g' et hh hc' ha'
        refine .inr ⟨g',ha',hbg',hnc',⟨cs',e',(setRow_other w g g' new hgg).trans hm',hcs'⟩,fun o ho=>?_,hB',hne'⟩
        rcases ho with ho |⟨e1,_⟩
        ·exact hS' o ho
        ·exact absurd e1 hgg
    ·by_cases ea:ta=i <;> by_cases eb:tb=i
     ·rw[ea,eb]
     ·have q2':L.tk tb=some kb:=by have hh:setF L.tk i ⟨n+m,k.a,k.cap,inf.size⟩ tb=some kb:=q2;rwa[setF_ne _ _ _ eb]at hh
      have q1':ka=⟨n+m,k.a,k.cap,inf.size⟩:=by have hh:setF L.tk i ⟨n+m,k.a,k.cap,inf.size⟩ ta=some ka:=q1;rw[ea,setF_same]at hh;cases hh;rfl
      subst q1'
      have:g'=g:=by have:k.a=some ⟨g',0,none⟩:=a1;rw[ha]at this;cases this;rfl
      exact absurd this (htkne tb kb g' eb q2' n2 a2)
     ·have q1':L.tk ta=some ka:=by have hh:setF L.tk i ⟨n+m,k.a,k.cap,inf.size⟩ ta=some ka:=q1;rwa[setF_ne _ _ _ ea]at hh
      have q2':kb=⟨n+m,k.a,k.cap,inf.size⟩:=by have hh:setF L.tk i ⟨n+m,k.a,k.cap,inf.size⟩ tb=some kb:=q2;rw[eb,setF_same]at hh;cases hh;rfl
      subst q2'
      have:g'=g:=by have:k.a=some ⟨g',0,none⟩:=a2;rw[ha]at this;cases this;rfl
      exact absurd this (htkne ta ka g' ea q1' n1 a1)
     ·have q1':L.tk ta=some ka:=by have hh:setF L.tk i ⟨n+m,k.a,k.cap,inf.size⟩ ta=some ka:=q1;rwa[setF_ne _ _ _ ea]at hh
      have q2':L.tk tb=some kb:=by have hh:setF L.tk i ⟨n+m,k.a,k.cap,inf.size⟩ tb=some kb:=q2;rwa[setF_ne _ _ _ eb]at hh
      exact hi.tkinj ta tb ka kb g' q1' q2' n1 n2 a1 a2
    ·rw[setRow_size]
     rcases h with h |⟨rfl,_⟩
     ·exact hi.size g' o h
     ·exact hgl
   ·obtain⟨vs,v1,_,_,v5,v4⟩:=lst_cells (P:=P) hx inf.size (.inl rfl)
    have hmem':(w.setRow g new).heap[g]? =some (.cells new e (0,0)):=setRow_heap w g cur new e (0,0) hmem
    simp only[Rep]
    refine⟨_,_,_,rfl,by simp[hn,hm],hroom,hmax,.inr ⟨g,0,ha,repR_cap (RepR.of_get fun j row hrow=>?_) _⟩,⟨_,setF_same _ _ _,Nat.le_refl _,fun _=>⟨rfl,rfl,rfl⟩⟩⟩
    by_cases hj:j < n
    ·rw[List.getElem?_append_left (by omega)]at hrow
     obtain⟨_,_,_,eqq,_,_,_,hrows,_⟩:=by simpa only[Rep] using hx
     cases eqq
     rcases hrows with hr |⟨g',p',ha',hr⟩
     ·rw[hr]at hrow;simp at hrow
     ·rw[ha]at ha'
      cases ha'
      obtain⟨r1,r2⟩:=hr.get hrow
      exact⟨r1,RepC.cap (c:=.tok i) (by simp) (RepC.ext hext _ _ _ _ r2)⟩
    ·rw[List.getElem?_append_right (by omega)]at hrow
     obtain⟨r1,r2⟩:=u4 _ row hrow
     refine⟨r1,RepC.of_get fun o v hv=>?_⟩
     obtain⟨p1,p2,u,hu',hr⟩:=r2 o v hv
     have ho:o < inf.size:=by rw[←r1];exact(List.getElem?_eq_some_iff.1 hv).1
     have hjm:j-n < m:=by rw[←hm,←hn];exact(List.getElem?_eq_some_iff.1 hrow).1
     rw[hn]at hu'
     have hsplit:j*inf.size+o=n*inf.size+((j-n)*inf.size+o):=by
      rw[←Nat.add_assoc,←Nat.add_mul]
      congr 2
      omega
     have hlt:(j-n)*inf.size+o < m*inf.size:=by
      have:(j-n+1)*inf.size≤m*inf.size:=Nat.mul_le_mul_right _ hjm
      rw[Nat.add_mul,Nat.one_mul]at this
      omega
     refine⟨.inl (.inr ⟨rfl,?_,?_⟩),p1,p2,u,?_,Rep.ext hext v u hr⟩
     ·omega
     ·rw[Nat.add_mul];omega
     ·rw[Nat.zero_add,cell_of_row _ g _ new e (0,0) hmem',hget,hsplit,if_pos (by omega),Nat.add_sub_cancel_left]
      exact hu'
end
end Go.Sym
end
section
namespace Go.Sym
open Go.RowKit
section
variable {P:Program} {L:Lay} {H:Nat→Option Blk} {K:Nat→Option Nat} {w:World} {base:Nat} {env:Nat→AV} {a:Act}
theorem bytesR_len (s:ByteArray):(bytesR s).length=s.size:=by
 simp only[bytesR,List.length_map,Array.length_toList]
 rfl
theorem srcRows_eq {sz:Nat} {t:Option TypeId} {y:AV} {ys:List (List AV)} (h:srcRows P sz t y=some ys) {u:Value} (hr:Rep L w y u):
  ∃t2 m us,t=some t2∧Src P sz t2 u m us w∧ys.length=m∧SrcRows L w sz ys us:=by
 cases y <;> simp only[srcRows,reduceCtorEq]at h
 case lst sz' rows c=>
  cases t with
  |none=>simp at h
  |some t2=>
   simp only[Option.map_some]at h
   split at h
   ·rename_i d hd
    have hd':P.underlying t2=some (.slice d):=by simpa using hd
    split at h
    ·rename_i hs
     cases h
     obtain⟨ad,m,cap,rfl,hm,_,_,hrows,_⟩:=by simpa only[Rep] using hr
     obtain⟨us,u1,u2,u3,u4,u5⟩:=lst_cells (P:=P) hr sz (hs.imp Eq.symm id)
     refine⟨t2,m,us,rfl,⟨.inl ⟨d,hd'⟩,fun _=>rfl,u2,?_,u1,u3⟩,hm,u5⟩
     cases ad with
     |none=>
      have hz:us=[]:=by
       simp[Builtin.firstCells]at u2
       exact u2.symm ▸ rfl
      subst hz
      simp[Builtin.firstCells]
     |some ad=>
      by_cases hm0:m=0
      ·subst hm0
       have hus:us=[]:=List.eq_nil_of_length_eq_zero (by rw[u1];simp)
       subst hus
       simp[Builtin.firstCells,loadCells,loadCellsFrom]
      ·obtain⟨g,p,ha,_⟩:=hrows.resolve_left (fun e=>hm0 (by rw[←hm,e];rfl))
       cases ha
       exact run_firstCells_some w.drew sz m _ m cap us u1 (fun j v hj=>by rw[add_mk];exact u4 g p rfl j v hj)
    ·simp at h
   ·simp at h
 case str s=>
  cases t with
  |none=>simp at h
  |some t2=>
   simp only[Option.map_some]at h
   split at h
   ·rename_i hd
    have hd':P.underlying t2=some .string:=by simpa using hd
    split at h
    ·rename_i hs
     cases h
     subst hs
     obtain rfl:u= .string s:=by simpa only[Rep] using hr
     refine⟨t2,s.size,byteCells s,rfl,Src.ofString w hd' s,bytesR_len s,fun i row hrow=>?_⟩
     simp only[bytesR,List.getElem?_map,Option.map_eq_some_iff]at hrow
     obtain⟨b,hb,rfl⟩:=hrow
     refine⟨rfl,fun o v hv=>?_⟩
     cases o with
     |zero=>
      cases hv
      refine⟨rfl,rfl,.int .u8 b.toNat,?_,rfl⟩
      simp[byteCells,hb]
     |succ o=>simp at hv
    ·simp at h
   ·simp at h
theorem op_append (hi:Inv L H K w base) (he:EnvOK L w env a) {md:Nat} {ts:Array TypeId} {t:TypeId} {x y:Operand} {e:Eff} (ht:ts[0]? =some t) (h:appv P md K t (ts[1]?) (evO env x) (evO env y)=some e) {o:Oper}
  (ho:o.op= .call ⟨.builtin .append,#[x,y],ts⟩):EffOK L H K w base e ((execOp a.eval o).run P w):=by
 have hrunE:∀u w',(Builtin.append_ ts o.type #[a.eval x,a.eval y]).run P w= .ok u w'→(execOp a.eval o).run P w= .ok (.value u) w':=by
  intro u w' hr
  unfold execOp
  simp[ho,resolve,invoke,builtin,hr]
 have hx:=he.op x
 have hy:=he.op y
 generalize evO env x=xv at h hx
 generalize evO env y=yv at h hy
 obtain⟨es,hes,h1⟩:=ob_eq h
 obtain⟨ys,hys,h2⟩:=ob_eq h1
 clear h h1
 obtain⟨et,inf,z,hu,hinf,e1,e2,hz,hzs,hpos⟩:=elemSz_zero hes
 rw[e1]at hys
 obtain⟨t2,m,us,ht2,hsrc,hm,hsr⟩:=srcRows_eq hys hy
 generalize a.eval y=yu at hrunE hsrc
 cases xv <;> simp only[reduceCtorEq]at h2
 case lst sz rows c=>
  split at h2
  ·rename_i hcond
   obtain⟨hsz,hby,hlim⟩:=hcond
   have hx0:=hx
   obtain⟨ad,n,cap,hxv,hn,hcap,hmax,_,hcok⟩:=by simpa only[Rep] using hx0
   rw[hxv]at hx
   rw[hxv]at hrunE
   rw[hn,hm]at hby hlim
   rw[e1]at hsz
   rw[e2]at hby
   have hnew:(c= .nil∨c= .exact)→(rows.isEmpty|| !ys.isEmpty)=true→EffOK L H K w base (.ntok es.1 (rows++ys)) ((execOp a.eval o).run P w):=by
    intro hc hre i hKi
    have htk:L.tk i=none:=by
     have:=hi.K i
     rw[hKi]at this
     cases hq:L.tk i with
     |none=>rfl
     |some k=>simp[hq]at this
    have hcn:cap=n:=by
     rcases hc with rfl |rfl
     ·obtain⟨_,rfl,rfl⟩:=hcok;rfl
     ·exact hcok
    by_cases hm0:m=0
    ·subst hm0
     have hys0:ys=[]:=List.eq_nil_of_length_eq_zero hm
     subst hys0
     have hr0:rows=[]:=by simpa using hre
     have hus:us=[]:=List.eq_nil_of_length_eq_zero (by rw[hsrc.newsLen];simp)
     subst hus
     obtain⟨L',w',u,r1,r2,r3,r4⟩:=app_none hi ht ht2 hu hinf hsrc hx hcn hr0 (by rcases hc with rfl |rfl <;> simp) (hsz.imp id id) htk o.type
     rw[List.append_nil,e1]
     exact⟨L',w',u,hrunE u w' r1,r2,r3,r4⟩
    ·obtain⟨L',w',u,r1,r2,r3,r4⟩:=app_re hi ht ht2 hu hinf hz hzs hpos hx hsrc hm hsr (hsz.imp Eq.symm id) (by omega) hby hlim (i:=i) (fun k0 h=>by rw[htk]at h;cases h) o.type
     rw[e1]
     exact⟨L',w',u,hrunE u w' r1,r2,r3,r4⟩
   have hmode:(c= .nil∨c= .exact)→(if md=3 then(if rows.isEmpty&& !ys.isEmpty then some (Eff.new ⟨es.1,ys,.toky⟩ (some (ys.length,none)))else none)else if rows.isEmpty|| !ys.isEmpty then some (.ntok es.1 (rows++ys))else none)=some e→EffOK L H K w base e ((execOp a.eval o).run P w):=fun hc h2=>by
    split at h2
    ·split at h2
     ·rename_i hcd
      cases h2
      have hr0:rows=[]:=by cases rows <;> simp_all
      have hm1:0 < m:=by
       rw[←hm]
       cases ys with
       |nil=>simp at hcd
       |cons _ _=>simp
      subst hr0
      obtain rfl:n=0:=by simpa using hn.symm
      have hcn:cap=0:=by
       rcases hc with rfl |rfl
       ·exact hcok.2.2
       ·exact hcok
      intro b hb
      obtain⟨L',w',u,r1,r2,r3,r4⟩:=app_new hi ht ht2 hu hinf hz hzs hx hcn hsrc hm hsr hm1 (by simpa using hby) (by simpa using hlim) o.type b hb
      rw[e1,hm]
      exact⟨L',w',u,hrunE u w' r1,r2,r3,r4⟩
     ·cases h2
    ·split at h2
     ·rename_i hre
      cases h2
      exact hnew hc hre
     ·cases h2
   cases c with
   |no=>simp at h2
   |bor=>simp at h2
   |nn=>simp at h2
   |an=>simp at h2
   |nil=>exact hmode (.inl rfl) h2
   |exact=>exact hmode (.inr rfl) h2
   |tok i=>
    simp only at h2
    split at h2
    ·rename_i hK
     obtain⟨hsz2,hK⟩:=hK
     cases h2
     rw[e1]at hsz2
     subst hsz2
     have hKt:=hi.K i
     rw[hK]at hKt
     cases hq:L.tk i with
     |none=>simp[hq]at hKt
     |some k=>
      have hkn:k.n=n:=by simp[hq]at hKt;omega
      rw[e1]
      by_cases hroom:n+m≤cap
      ·obtain⟨L',w',u,r1,r2,r3,r4⟩:=app_in hi ht ht2 hu hinf hpos hx hsrc hm hsr hroom hq hkn o.type
       exact⟨L',w',u,hrunE u w' r1,r2,r3,r4⟩
      ·obtain⟨L',w',u,r1,r2,r3,r4⟩:=app_re hi ht ht2 hu hinf hz hzs hpos hx hsrc hm hsr (.inl rfl) (by omega) hby hlim (i:=i) (fun k0 h=>by rw[hq]at h;cases h;omega) o.type
       exact⟨L',w',u,hrunE u w' r1,r2,r3,r4⟩
    ·simp at h2
  ·simp at h2
theorem op_minmax (hi:Inv L H K w base) (he:EnvOK L w env a) {b:Builtin} {args:Array Operand} {ts:Array TypeId} {v:AV} (h:(b= .min∧minI (evL env args.toList)=some v)∨(b= .max∧maxI (evL env args.toList)=some v)) {o:Oper}
  (ho:o.op= .call ⟨.builtin b,args,ts⟩):EffOK L H K w base (.val v) ((execOp a.eval o).run P w):=by
 have hr:=he.ops args.toList
 generalize evL env args.toList=vs at h hr
 have key:∀k x j y,vs=[.int k x,.int j y]→(args.map a.eval).toList=[.int k x,.int j y]:=by
  rintro k x j y rfl
  simp only[RepL,Rep]at hr
  obtain⟨u,q,e,rfl,u2,q2,rfl,rfl,rfl⟩:=hr
  simpa using e
 rcases h with⟨rfl,h⟩ |⟨rfl,h⟩
 ·unfold minI at h
  split at h
  ·rename_i k x j y
   split at h
   ·rename_i hk
    subst hk
    cases h
    have hargs:=key _ _ _ _ rfl
    refine eff_val hi (u:=.int k (if y < x then y else x)) ?_ rfl
    unfold execOp
    simp only[ho,resolve,Sem.run_bind,Sem.run_pure,Result.andThen_ok,invoke,builtin,Builtin.min_,hargs]
    simp[Builtin.min2]
   ·simp at h
  ·simp at h
 ·unfold maxI at h
  split at h
  ·rename_i k x j y
   split at h
   ·rename_i hk
    subst hk
    cases h
    have hargs:=key _ _ _ _ rfl
    refine eff_val hi (u:=.int k (if y > x then y else x)) ?_ rfl
    unfold execOp
    simp only[ho,resolve,Sem.run_bind,Sem.run_pure,Result.andThen_ok,invoke,builtin,Builtin.max_,hargs]
    simp[Builtin.max2]
   ·simp at h
  ·simp at h
theorem op_sound (hP:ProgOK P) (hi:Inv L H K w base) (he:EnvOK L w env a) {nh m:Nat} {o:Oper} {e:Eff} (h:effOf P nh m env H K o.op=some e)
  (hcall:∀g as,e= .call g as→∃fn,P.funcs[g]? =some fn∧fn.body.isSome=true):EffOK L H K w base e ((execOp a.eval o).run P w):=by
 cases ho:o.op <;> rw[ho]at h <;> simp only[effOf,reduceCtorEq]at h
 case move x=>
  cases h
  exact eff_val hi (u:=a.eval x) (by unfold execOp;simp[ho]) (he.op x)
 case assign x=>
  cases h
  exact eff_val hi (u:=a.eval x) (by unfold execOp;simp[ho]) (he.op x)
 case pick c x y=>
  split at h
  ·rename_i b hb
   cases h
   have hc:=he.op c
   rw[hb]at hc
   have hcv:a.eval c= .bool b:=by simpa only[Rep] using hc
   cases b with
   |true=>exact eff_val hi (u:=a.eval x) (by unfold execOp;simp[ho,hcv,asBool]) (he.op x)
   |false=>exact eff_val hi (u:=a.eval y) (by unfold execOp;simp[ho,hcv,asBool]) (he.op y)
  ·simp at h
 case alloc t=>
  obtain⟨z,hz,h'⟩:=ob_eq h
  split at h'
  ·rename_i hc
   cases h'
   exact op_alloc hi hz hc ho
  ·simp at h'
 case box t x=>
  split at h
  ·rename_i hc
   cases h
   exact op_box hi he hc ho
  ·simp at h
 case build t ps=>
  obtain⟨z,hz,h1⟩:=ob_eq h
  obtain⟨pl,hpl,h2⟩:=ob_eq h1
  obtain⟨cs,hcs,h3⟩:=ob_eq h2
  cases h3
  exact op_build hi he hz hpl hcs ho
 case buildSlice t n ps=>
  obtain⟨es,hes,h1⟩:=ob_eq h
  split at h1
  ·rename_i hc
   obtain⟨rs,hrs,h2⟩:=ob_eq h1
   cases h2
   exact op_buildSlice hi he hes hc.1 hc.2 hrs ho
  ·simp at h1
 case load t x=>
  obtain⟨v,hv,h1⟩:=ob_eq h
  cases h1
  exact op_load hi he hv ho
 case store t x y=>
  obtain⟨p,hp,h1⟩:=ob_eq h
  cases h1
  exact op_store hi he hp ho
 case nilCheck x=>
  have hx:=he.op x
  split at h
  ·rename_i b i off hb
   cases h
   rw[hb]at hx
   obtain⟨r,sz,hr,hu⟩:=by simpa only[Rep] using hx
   exact eff_val hi (u:=.pointer (some ⟨r,i*sz+off,none⟩)) (by unfold execOp;simp[ho,hu]) (by simp only[Rep];exact⟨r,sz,hr,rfl⟩)
  ·rename_i cs off hb
   cases h
   rw[hb]at hx
   obtain⟨g,p,hu,hc⟩:=by simpa only[Rep] using hx
   exact eff_val hi (u:=.pointer (some ⟨g,p+off,none⟩)) (by unfold execOp;simp[ho,hu]) (by simp only[Rep];exact⟨g,p,rfl,hc⟩)
  ·rename_i f cs hb
   cases h
   rw[hb]at hx
   obtain⟨ws,hu,hr⟩:=by simpa only[Rep] using hx
   exact eff_val hi (u:=.func (.func f) #[] ws) (by unfold execOp;simp[ho,hu]) (by simp only[Rep];exact⟨ws,rfl,hr⟩)
  ·simp at h
 case binOp op t x y t'=>
  obtain⟨v,hv,h1⟩:=ob_eq h
  cases h1
  exact op_binn hi he hv ho
 case unOp op t x=>
  obtain⟨v,hv,h1⟩:=ob_eq h
  cases h1
  exact op_un hi he hv ho
 case convert s d x=>
  obtain⟨v,hv,h1⟩:=ob_eq h
  cases h1
  exact op_conv hi he hv ho
 case makeInterface t x=>
  split at h
  ·simp at h
  ·rename_i d hd hu
   cases h
   exact op_mkif hi he hu (fun ms e=>hd ms e) ho
  ·simp at h
 case makeFunc fn first caps=>
  cases fn with
  |func f=>
   simp only at h
   split at h
   ·rename_i hf
    cases h
    exact op_mkfn hi he hf ho
   ·simp at h
  |_=>simp at h
 case makeSlice t x y=>exact op_make hi he h ho
 case slice t x lo h' mx=>
  obtain⟨v,hv,h1⟩:=ob_eq h
  cases h1
  exact op_slice hi he hv ho
 case fieldAddr t x f=>
  obtain⟨v,hv,h1⟩:=ob_eq h
  cases h1
  exact op_fieldAddr hi he hv ho
 case field t x f=>
  obtain⟨v,hv,h1⟩:=ob_eq h
  cases h1
  exact op_field hi he hv ho
 case indexAddr t x i=>
  obtain⟨v,hv,h1⟩:=ob_eq h
  cases h1
  exact op_indexAddr hi he hv ho
 case index t x i=>
  obtain⟨v,hv,h1⟩:=ob_eq h
  cases h1
  exact op_index hi he hv ho
 case typeAssert x xt t ok=>
  split at h
  ·rename_i hok
   subst hok
   obtain⟨v,hv,h1⟩:=ob_eq h
   cases h1
   exact op_assert hi he hv ho
  ·cases h
 case extract x i=>
  split at h
  ·rename_i vs hvs
   obtain⟨v,hv,h1⟩:=ob_eq h
   cases h1
   exact op_extract hi he hvs hv ho
  ·simp at h
 case call c=>
  obtain⟨callee,args,ts⟩:=c
  unfold callv at h
  split at h
  ·rename_i f args' hcal
   cases hcal
   split at h
   ·rename_i g caps hg
    cases h
    obtain⟨fn,hf,hb⟩:=hcall _ _ rfl
    exact op_call hP he hg hf hb ho
   ·rename_i b hb
    cases h
    exact op_round he hb ho
   ·simp at h
  ·rename_i x m args' hcal
   cases hcal
   split at h
   ·rename_i t v hv
    obtain⟨g,hg,h1⟩:=ob_eq h
    cases h1
    obtain⟨fn,hf,hb⟩:=hcall _ _ rfl
    exact op_invoke hP he hv hg hf hb ho
   ·simp at h
  ·rename_i x hcal hargs
   obtain⟨t,ht,h1⟩:=ob_eq h
   obtain⟨v,hv,h2⟩:=ob_eq h1
   cases h2
   cases hcal
   have:args= #[x]:=by cases args;simp_all
   subst this
   exact op_len hi he hv ho ht
  ·rename_i x y hcal hargs
   obtain⟨t,ht,h1⟩:=ob_eq h
   cases hcal
   have:args= #[x,y]:=by cases args;simp_all
   subst this
   exact op_append hi he ht h1 ho
  ·rename_i hcal
   obtain⟨v,hv,h1⟩:=ob_eq h
   cases h1
   cases hcal
   exact op_minmax hi he (.inl ⟨rfl,hv⟩) ho
  ·rename_i hcal
   obtain⟨v,hv,h1⟩:=ob_eq h
   cases h1
   cases hcal
   exact op_minmax hi he (.inr ⟨rfl,hv⟩) ho
  ·simp at h
 case panic x=>
  split at h
  ·rename_i t v hv
   split at h
   ·cases h
    exact op_panic he hv ho
   ·simp at h
  ·simp at h
end
end Go.Sym
end
section
namespace Go.Sym
open Go.RowKit
def rf (o:Option Nat):Fence:={ Fence.wide with round:=o }
theorem calls_rf {P:Program} {o:Option Nat} {n:Nat} {f:FuncId} {args:Array Value} {w:World} {R:Ending→World→Prop} (h:Calls P f args w R):CallsIn (rf o) n P f args w R:=(callsIn_wide (n:=n)).2 h
theorem round_rf {P:Program} {o o':Option Nat} {n:Nat} {l:Nat} {f:FuncId} {tmps:Array Value} {as bd:Code} {w:World} {R:Ending→World→Prop} (h:RoundIn (rf o) n P l f tmps as bd w R):RoundIn (rf o') n P l f tmps as bd w R:=h
theorem room_rf {o:Option Nat} {n:Nat}:(rf o).depth.isSome=true→1≤n:=fun h=>by simp[rf,Fence.wide]at h
theorem wpIn_of {P:Program} {o:Oper} {a:Act} {w:World} {Kt:Act→World→Prop} {Q:Exit→Act→World→Prop} {ro:Option Nat} {n:Nat} (hd:∀c,o.op≠ .defer c) (h:o.uponIn (rf ro) n P a Kt Q ((execOp a.eval o).run P w)):
  o.wpIn (rf ro) n P a w Kt Q:=⟨fun _ _=>trivial,by rw[Oper.semAt_eq _ _ _ hd];exact h⟩
def Dfr (w0 w:World) (dl:Option (List Deferred)) (ds:List Deferred):Prop:=match dl with
 |none=>ds=[]
 |some l=>∃Ds:List Nat,ds=Ds.map (fun D=>{ target:=.collected D,args:= #[] })++l∧Ds.Nodup∧∀D ∈ Ds,w0.heap.size≤D∧w.heap[D]? =some (.deferred (some []))
theorem Dfr.oth {w0 w w':World} {dl:Option (List Deferred)} {ds:List Deferred} (h:Dfr w0 w dl ds) (ho:Oth w w'):Dfr w0 w' dl ds:=by
 cases dl with
 |none=>exact h
 |some l=>
  obtain⟨Ds,h1,h2,h3⟩:=h
  exact⟨Ds,h1,h2,fun D hD=>⟨(h3 D hD).1,ho.dfr D (h3 D hD).2⟩⟩
structure At (L0:Lay) (w0:World) (base nt:Nat) (dl:Option (List Deferred)) (env:Nat→AV) (H:Nat→Option Blk) (K:Nat→Option Nat) (L:Lay) (a:Act) (w:World):Prop where
 ext:Ext base L0 w0 L w
 inv:Inv L H K w base
 env:EnvOK L w env a
 size:a.tmps.size=nt
 defers:Dfr w0 w dl a.defers
def Here (L0:Lay) (w0:World) (base nt:Nat) (dl:Option (List Deferred)) (s:St) (a:Act) (w:World):Prop:=∃L,At L0 w0 base nt dl (get s.env) s.H s.K L a w
def Pan (L0:Lay) (w0:World) (base:Nat) (s:St) (v:AV) (chain:List PanicEntry) (a:Act) (w:World):Prop:=
 ∃L u,chain=[{ v:=u,recovered:=false }]∧Ext base L0 w0 L w∧Inv L s.H s.K w base∧Rep L w v u∧EnvOK L w (get s.env) a
def Post (L0:Lay) (w0:World) (base nt:Nat) (dl:Option (List Deferred)):Out→Exit→Act→World→Prop
 | .next s,.normal,a,w=>Here L0 w0 base nt dl s a w
 | .ret s,.ret,a,w=>Here L0 w0 base nt dl s a w
 | .exit i s,.exit j,a,w=>i=j∧Here L0 w0 base nt dl s a w
 | .panic v s,.panic ch,a,w=>Dfr w0 w dl a.defers∧Pan L0 w0 base s v ch a w
 |_,_,_,_=>False
def lH (H:List Blk):Nat→Option Blk:=fun b=>H[b]?
def lK (K:List Nat):Nat→Option Nat:=fun t=>K[t]?
theorem St.H_eq (s:St):s.H=lH s.heap:=rfl
theorem St.K_eq (s:St):s.K=lK s.toks:=rfl
def Ends (base:Nat) (L:Lay) (w:World) (r:Res×List Blk×List Nat) (e:Ending) (w':World):Prop:=
 match e,r.1 with
 | .returned u,.ret v=>∃L',Ext base L w L' w'∧Inv L' (lH r.2.1) (lK r.2.2) w' base∧Rep L' w' v u
 | .panicked ch,.panic v=>∃L' u,ch=[{ v:=u,recovered:=false }]∧Ext base L w L' w'∧Inv L' (lH r.2.1) (lK r.2.2) w' base∧Rep L' w' v u
 |_,_=>False
def Body (P:Program) (g:FuncId):Prop:=∃fn,P.funcs[g]? =some fn∧fn.body.isSome=true
structure CallsOK (P:Program) (cl:CallFn):Prop where
 call:∀g args H K r,g < rid→cl g args H K=some r→Body P g∧
  ∀L w base (us:Array Value),Inv L (lH H) (lK K) w base→RepL L w args us.toList→Calls P g us w (Ends base L w r)
 round:∀b args H K r,cl (rid+b) args H K=some r→∀L w base (us:Array Value) l sz,L.hp b=some (l,sz)→Inv L (lH H) (lK K) w base→RepL L w args us.toList→
  ∃rc,w.heap[l]? =some (.loop rc)∧us.size=rc.params.size∧∀n,RoundIn (rf none) n P l rc.fn ((rc.params.zip us).foldl (fun tmps (t,a)=>tmps.setIfInBounds t a) rc.tmps) rc.assign rc.body w (Ends base L w r)
def IEnds (base:Nat) (L:Lay) (H:Nat→Option Blk) (K:Nat→Option Nat) (w:World) (r:IRes) (e:Ending) (w':World):Prop:=
 match e,r with
 | .returned u,.ret v=>∃L',Ext base L w L' w'∧Inv L' H K w' base∧Rep L' w' v u
 | .returned u,.own sz rows=>∀t,K t=none→∃L',Ext base L w L' w'∧Inv L' H (setF K t rows.length) w' base∧Rep L' w' (.lst sz rows (.tok t)) u
 | .panicked ch,.panic v=>∃L' u,ch=[{ v:=u,recovered:=false }]∧Ext base L w L' w'∧Inv L' H K w' base∧Rep L' w' v u
 |_,_=>False
structure ScallsOK (X:Ctx) (cl:CallFn):Prop where
 call:∀g args H K r,g < rid→scall X cl g args H K=some r→Body X.P g∧
  ∀L w base (us:Array Value),Inv L (lH H) (lK K) w base→RepL L w args us.toList→Calls X.P g us w (Ends base L w r)
 round:∀b:Nat,X.sprim (rid+b)=none
def IcallsOK (X:Ctx) (cl:CallFn):Prop:=∀g args r,g < rid→∀(H:Nat→Option Blk),closedL (freezeL H args)=true→icall X cl g (freezeL H args)=some r→Body X.P g∧
 ∀L K w base (us:Array Value),Inv L H K w base→RepL L w args us.toList→Calls X.P g us w (IEnds base L H K w r)
section
variable {L0:Lay} {w0:World} {base nt:Nat} {dl:Option (List Deferred)} {env:Nat→AV} {H:Nat→Option Blk} {K:Nat→Option Nat} {L:Lay} {a:Act} {w:World}
def setE (env:Nat→AV) (d:Option Nat) (v:AV):Nat→AV:=match d with |some d=>fun t=>if t=d then v else env t |none=>env
theorem get_put (s:St) (d:Option Nat) (v:AV):get (s.put d v).env=setE (get s.env) d v:=by
 cases d with
 |none=>rfl
 |some d=>
  funext t
  simp only[St.put,get,setE,eq_comm]
theorem EnvOK.put (h:EnvOK L w env a) {d:Option Nat} (hd:∀x,d=some x→x < a.tmps.size) {v:AV} {u:Value} (hv:Rep L w v u):EnvOK L w (setE env d v) (a.put d u):=by
 cases d with
 |none=>exact h
 |some d=>
  intro t
  simp only[setE,Act.put]
  by_cases ht:t=d
  ·subst ht
   simpa[hd t rfl] using hv
  ·rw[if_neg ht]
   have:=h t
   simpa[Array.getElem?_setIfInBounds_ne (Ne.symm ht)] using this
theorem EnvOK.ext {L':Lay} {w':World} (h:EnvOK L w env a) (hx:Ext base L w L' w'):EnvOK L' w' env a:=fun t=>Rep.ext hx _ _ (h t)
theorem size_put (a:Act) (d:Option Nat) (v:Value):(a.put d v).tmps.size=a.tmps.size:=by cases d <;> simp[Act.put]
theorem defers_put (a:Act) (d:Option Nat) (v:Value):(a.put d v).defers=a.defers:=by cases d <;> rfl
theorem At.step (h:At L0 w0 base nt dl env H K L a w) {d:Option Nat} (hd:∀x,d=some x→x < nt) {L':Lay} {w':World} {v:AV} {u:Value} {H' K'} (hx:Ext base L w L' w') (hi:Inv L' H' K' w' base) (hv:Rep L' w' v u):
  At L0 w0 base nt dl (setE env d v) H' K' L' (a.put d u) w':=
 ⟨h.ext.trans hx,hi,(h.env.ext hx).put (by rw[h.size];exact hd) hv,by rw[size_put];exact h.size,by rw[defers_put];exact h.defers.oth hx.oth⟩
theorem At.skip (h:At L0 w0 base nt dl env H K L a w) {d:Option Nat} (hd:∀x,d=some x→x < nt):At L0 w0 base nt dl (setE env d (.tup [])) H K L (a.put d undef) w:=
 h.step hd (Ext.refl _ _ _) h.inv (by simp[Rep,RepL,undef])
theorem lH_append (H:List Blk) (k:Blk):lH (H++[k])=setF (lH H) H.length k:=by
 funext b
 by_cases hb:b=H.length
 ·subst hb;simp[lH,setF]
 ·rw[setF_ne _ _ _ hb]
  unfold lH
  by_cases hl:b < H.length
  ·exact List.getElem?_append_left hl
  ·exact(List.getElem?_eq_none (by simp;omega)).trans (List.getElem?_eq_none (by omega)).symm
theorem lK_append (K:List Nat) (n:Nat):lK (K++[n])=setF (lK K) K.length n:=by
 funext b
 by_cases hb:b=K.length
 ·subst hb;simp[lK,setF]
 ·rw[setF_ne _ _ _ hb]
  unfold lK
  by_cases hl:b < K.length
  ·exact List.getElem?_append_left hl
  ·exact(List.getElem?_eq_none (by simp;omega)).trans (List.getElem?_eq_none (by omega)).symm
theorem lH_set (H:List Blk) {b:Nat} (k:Blk) (hb:b < H.length):lH (H.set b k)=setF (lH H) b k:=by
 funext x
 unfold lH setF
 rw[List.getElem?_set]
 by_cases hx:x=b
 ·subst hx;simp[hb]
 ·rw[if_neg hx,if_neg (Ne.symm hx)]
theorem lK_set (K:List Nat) {b:Nat} (k:Nat) (hb:b < K.length):lK (K.set b k)=setF (lK K) b k:=by
 funext x
 unfold lK setF
 rw[List.getElem?_set]
 by_cases hx:x=b
 ·subst hx;simp[hb]
 ·rw[if_neg hx,if_neg (Ne.symm hx)]
structure FS where
 env:Nat→AV
 H:Nat→Option Blk
 K:Nat→Option Nat
def St.fs (s:St):FS:=⟨get s.env,s.H,s.K⟩
def FS.put (A:FS) (d:Option Nat) (v:AV):FS:={ A with env:=setE A.env d v }
def FS.ap (A:FS) (d:Option Nat) (b t:Nat):Eff→FS
 | .val v=>A.put d v
 | .new k none=>{ A.put d (.ptr b 0 0)with H:=setF A.H b k }
 | .new k (some n)=>{ A.put d (.win b 0 n.1 n.2)with H:=setF A.H b k }
 | .upd c k=>{ A.put d .undef with H:=setF A.H c k }
 | .ntok sz rows=>{ A.put d (.lst sz rows (.tok t))with K:=setF A.K t rows.length }
 | .stok c sz rows=>{ A.put d (.lst sz rows (.tok c))with K:=setF A.K c rows.length }
 |_=>A
def Eff.plain:Eff→Bool
 | .pan _ | .call .. | .round .. =>false
 |_=>true
theorem upon_eff {ro:Option Nat} {n:Nat} {P:Program} {o:Oper} {Q:Exit→Act→World→Prop} {Kt:Act→World→Prop} {A:FS} (h:At L0 w0 base nt dl A.env A.H A.K L a w) (hd:∀x,o.dst=some x→x < nt)
  {e:Eff} (he:EffOK L A.H A.K w base e ((execOp a.eval o).run P w)) (hp:e.plain=true) {b t:Nat} (hb:(∃ k wn,e= .new k wn)→A.H b=none) (ht:(∃ sz rows,e= .ntok sz rows)→A.K t=none)
  (hk:∀L' a' w',At L0 w0 base nt dl (A.ap o.dst b t e).env (A.ap o.dst b t e).H (A.ap o.dst b t e).K L' a' w'→Kt a' w') (hnd:∀c,o.op≠ .defer c):o.wpIn (rf ro) n P a w Kt Q:=by
 refine wpIn_of hnd ?_
 cases e with
 |val v=>
  obtain⟨L',w',u,hr,hx,hi,hv⟩:=he
  rw[hr]
  exact hk L' _ w' (h.step hd hx hi hv)
 |new k wn=>
  obtain⟨L',w',u,hr,hx,hi,hv⟩:=he b (hb ⟨_,_,rfl⟩)
  rw[hr]
  cases wn <;> exact hk L' _ w' (h.step hd hx hi hv)
 |upd c k=>
  obtain⟨w',hr,hx,hi⟩:=he
  rw[hr]
  exact hk L _ w' (h.step hd hx hi (by simp[Rep]))
 |ntok sz rows=>
  obtain⟨L',w',u,hr,hx,hi,hv⟩:=he t (ht ⟨_,_,rfl⟩)
  rw[hr]
  exact hk L' _ w' (h.step hd hx hi hv)
 |stok c sz rows=>
  obtain⟨L',w',u,hr,hx,hi,hv⟩:=he
  rw[hr]
  exact hk L' _ w' (h.step hd hx hi hv)
 |pan v=>simp[Eff.plain]at hp
 |call g as=>simp[Eff.plain]at hp
 |round b as=>simp[Eff.plain]at hp
theorem effOf_nd {P:Program} {nh m:Nat} {o:Op} {e:Eff} (h:effOf P nh m env H K o=some e):∀c,o≠ .defer c:=by
 rintro c rfl
 simp[effOf]at h
theorem effOf_cases {P:Program} {nh m:Nat} {o:Op} {e:Eff} (h:effOf P nh m env H K o=some e):
  (∃ v,e= .val v)∨(∃ k wn,e= .new k wn)∨(∃ t x y p,o= .store t x y∧e= .upd p.1 p.2∧stv P nh H t (evO env y) (evO env x)=some p)∨
  (∃ c,o= .call c∧callv P m K env c=some e)∨(∃ v,e= .pan v):=by
 cases o <;> simp only[effOf,reduceCtorEq]at h
 case move x=>cases h;exact .inl ⟨_,rfl⟩
 case assign x=>cases h;exact .inl ⟨_,rfl⟩
 case pick c x y=>
  split at h
  ·cases h;exact .inl ⟨_,rfl⟩
  ·simp at h
 case alloc t=>
  obtain⟨z,hz,h⟩:=ob_eq h
  split at h
  ·cases h;exact .inr (.inl ⟨_,_,rfl⟩)
  ·simp at h
 case box t x=>
  split at h
  ·cases h;exact .inr (.inl ⟨_,_,rfl⟩)
  ·simp at h
 case build t ps=>
  obtain⟨z,hz,h⟩:=ob_eq h
  obtain⟨z,hz,h⟩:=ob_eq h
  obtain⟨z,hz,h⟩:=ob_eq h
  cases h;exact .inl ⟨_,rfl⟩
 case buildSlice t n ps=>
  obtain⟨z,hz,h⟩:=ob_eq h
  split at h
  ·obtain⟨z,hz,h⟩:=ob_eq h
   cases h;exact .inl ⟨_,rfl⟩
  ·simp at h
 case load t x=>
  obtain⟨z,hz,h⟩:=ob_eq h
  cases h;exact .inl ⟨_,rfl⟩
 case store t x y=>
  obtain⟨p,hp,h⟩:=ob_eq h
  cases h
  exact .inr (.inr (.inl ⟨t,x,y,p,rfl,rfl,hp⟩))
 case nilCheck x=>
  split at h <;> first
   | (cases h;exact .inl ⟨_,rfl⟩)
   |simp at h
 case makeInterface t x=>
  split at h <;> first
   | (cases h;exact .inl ⟨_,rfl⟩)
   |simp at h
 case makeFunc fn first caps=>
  cases fn with
  |func f=>
   simp only at h
   split at h
   ·cases h;exact .inl ⟨_,rfl⟩
   ·simp at h
  |_=>simp at h
 case makeSlice t x y=>
  unfold makv at h
  split at h
  ·obtain⟨z,hz,h⟩:=ob_eq h
   obtain⟨z,hz,h⟩:=ob_eq h
   split at h
   ·split at h <;> split at h <;> first
     | (cases h;exact .inl ⟨_,rfl⟩)
     | (cases h;exact .inr (.inl ⟨_,_,rfl⟩))
     |simp at h
   ·simp at h
  ·simp at h
 case typeAssert x xt t ok=>
  split at h
  ·obtain⟨z,hz,h⟩:=ob_eq h
   cases h;exact .inl ⟨_,rfl⟩
  ·simp at h
 case extract x i=>
  split at h
  ·obtain⟨z,hz,h⟩:=ob_eq h
   cases h;exact .inl ⟨_,rfl⟩
  ·simp at h
 case call c=>exact .inr (.inr (.inr (.inl ⟨c,rfl,h⟩)))
 case panic x=>
  split at h
  ·split at h
   ·cases h;exact .inr (.inr (.inr (.inr ⟨_,rfl⟩)))
   ·simp at h
  ·simp at h
 all_goals
  obtain⟨z,hz,h⟩:=ob_eq h
  cases h;exact .inl ⟨_,rfl⟩
theorem stv_some {P:Program} {nh:Nat} {t:TypeId} {v x:AV} {p:Nat×Blk} (h:stv P nh H t v x=some p):
  ∃b i o y k r cs,x= .ptr b i o∧tyOf P t=some y∧H b=some k∧k.rows[i]? =some r∧fitK k.kind v.cells=some cs∧
   (cs.length=y.2∧o+cs.length≤r.length∧cellsB cs=true∧(nh≤b∨belowL (b+1) cs=true))∧p=(b,{ k with rows:=k.rows.set i (splice r o cs) }):=by
 unfold stv at h
 split at h
 ·obtain⟨y,hy,h⟩:=ob_eq h
  obtain⟨k,hk,h⟩:=ob_eq h
  obtain⟨r,hr,h⟩:=ob_eq h
  obtain⟨cs,hcs,h⟩:=ob_eq h
  split at h
  ·rename_i hc
   exact⟨_,_,_,y,k,r,cs,rfl,hy,hk,hr,hcs,hc,(Option.some.inj h).symm⟩
  ·simp at h
 ·simp at h
theorem appv_cases {P:Program} {md:Nat} {t:TypeId} {t2:Option TypeId} {x y:AV} {e:Eff} (h:appv P md K t t2 x y=some e):
  ((∃ sz rows,e= .ntok sz rows)∨∃k wn,e= .new k wn)∨∃i sz rows,e= .stok i sz rows∧(∃ sz' r,x= .lst sz' r (.tok i))∧K i≠none:=by
 unfold appv at h
 obtain⟨z,hz,h⟩:=ob_eq h
 obtain⟨ys,hys,h⟩:=ob_eq h
 split at h
 ·split at h
  ·split at h
   ·split at h
    ·split at h
     ·cases h;exact .inl (.inr ⟨_,_,rfl⟩)
     ·cases h
    ·split at h
     ·cases h;exact .inl (.inl ⟨_,_,rfl⟩)
     ·cases h
   ·split at h
    ·split at h
     ·cases h;exact .inl (.inr ⟨_,_,rfl⟩)
     ·cases h
    ·split at h
     ·cases h;exact .inl (.inl ⟨_,_,rfl⟩)
     ·cases h
   ·split at h
    ·rename_i hc
     cases h
     exact .inr ⟨_,_,_,rfl,⟨_,_,rfl⟩,by rw[hc.2];simp⟩
    ·simp at h
   ·simp at h
  ·simp at h
 ·simp at h
theorem callv_cases {P:Program} {md:Nat} {c:Call} {e:Eff} (h:callv P md K env c=some e):
  ((∃ g as,e= .call g as)∨∃b as,e= .round b as)∨(∃ v,e= .val v)∨((∃ sz rows,e= .ntok sz rows)∨∃k wn,e= .new k wn)∨∃i sz rows,e= .stok i sz rows∧K i≠none:=by
 unfold callv at h
 split at h
 ·split at h
  ·cases h;exact .inl (.inl ⟨_,_,rfl⟩)
  ·cases h;exact .inl (.inr ⟨_,_,rfl⟩)
  ·simp at h
 ·split at h
  ·obtain⟨z,hz,h⟩:=ob_eq h
   cases h;exact .inl (.inl ⟨_,_,rfl⟩)
  ·simp at h
 ·obtain⟨z,hz,h⟩:=ob_eq h
  obtain⟨z,hz,h⟩:=ob_eq h
  cases h;exact .inr (.inl ⟨_,rfl⟩)
 ·obtain⟨z,hz,h⟩:=ob_eq h
  rcases appv_cases h with h |⟨i,sz,rows,h,_,h'⟩
  ·exact .inr (.inr (.inl h))
  ·exact .inr (.inr (.inr ⟨i,sz,rows,h,h'⟩))
 ·obtain⟨z,hz,h⟩:=ob_eq h
  cases h;exact .inr (.inl ⟨_,rfl⟩)
 ·obtain⟨z,hz,h⟩:=ob_eq h
  cases h;exact .inr (.inl ⟨_,rfl⟩)
 ·simp at h
theorem effOf_upd {P:Program} {nh m:Nat} {o:Op} {b:Nat} {k:Blk} (h:effOf P nh m env H K o=some (.upd b k)):H b≠none:=by
 rcases effOf_cases h with⟨v,h⟩ |⟨k,wn,h⟩ |⟨t,x,y,p,_,h,hp⟩ |⟨c,_,h⟩ |⟨v,h⟩
 ·cases h
 ·cases h
 ·cases h
  obtain⟨b,i,o,y,k,r,cs,_,_,hk,_,_,_,rfl⟩:=stv_some hp
  simp only
  rw[hk];simp
 ·rcases callv_cases h with(⟨g,as,h⟩ |⟨g,as,h⟩) |⟨v,h⟩ | (⟨sz,rows,h⟩ |⟨k,wn,h⟩) |⟨i,sz,rows,h,_⟩ <;> cases h
 ·cases h
theorem effOf_stok {P:Program} {nh m:Nat} {o:Op} {t sz:Nat} {rows:List (List AV)} (h:effOf P nh m env H K o=some (.stok t sz rows)):K t≠none:=by
 rcases effOf_cases h with⟨v,h⟩ |⟨k,wn,h⟩ |⟨t,x,y,p,_,h,hp⟩ |⟨c,_,h⟩ |⟨v,h⟩
 ·cases h
 ·cases h
 ·cases h
 ·rcases callv_cases h with(⟨g,as,h⟩ |⟨g,as,h⟩) |⟨v,h⟩ | (⟨sz,rows,h⟩ |⟨k,wn,h⟩) |⟨i,sz,rows,h,hK⟩ <;> cases h
  exact hK
 ·cases h
theorem lH_none (H:List Blk):lH H H.length=none:=by simp[lH]
theorem lK_none (K:List Nat):lK K K.length=none:=by simp[lK]
theorem lt_of_lH {H:List Blk} {b:Nat} (h:lH H b≠none):b < H.length:=by
 by_cases hb:b < H.length
 ·exact hb
 ·exact absurd (List.getElem?_eq_none (by omega)) h
theorem lt_of_lK {K:List Nat} {b:Nat} (h:lK K b≠none):b < K.length:=by
 by_cases hb:b < K.length
 ·exact hb
 ·exact absurd (List.getElem?_eq_none (by omega)) h
theorem St.fs_put (s:St) (d:Option Nat) (v:AV):(s.put d v).fs=s.fs.put d v:=by
 cases d with
 |none=>rfl
 |some d=>exact congrArg (fun e=>FS.mk e s.H s.K) (get_put s (some d) v)
theorem St.put_nh (s:St) (d:Option Nat) (v:AV):(s.put d v).nh=s.nh:=by cases d <;> rfl
theorem St.ap_fs {s s':St} {d:Option Nat} {e:Eff} (h:s.ap d e=some s') (hu:∀b k,e= .upd b k→s.H b≠none) (ht:∀t sz rows,e= .stok t sz rows→s.K t≠none):
  s'.fs=s.fs.ap d s.heap.length s.toks.length e∧e.plain=true:=by
 cases e with
 |val v=>cases h;exact⟨St.fs_put _ _ _,rfl⟩
 |new k wn=>
  cases wn <;> cases h <;> refine⟨?_,rfl⟩ <;> rw[St.fs_put] <;> simp only[St.fs,FS.put,FS.ap,St.H_eq,St.K_eq,lH_append]
 |upd b k=>
  cases h
  refine⟨?_,rfl⟩
  rw[St.fs_put]
  simp only[St.fs,FS.put,FS.ap,St.H_eq,St.K_eq,lH_set _ _ (lt_of_lH (hu b k rfl))]
 |ntok sz rows=>
  cases h
  refine⟨?_,rfl⟩
  rw[St.fs_put]
  simp only[St.fs,FS.put,FS.ap,St.H_eq,St.K_eq,lK_append]
 |stok t sz rows=>
  cases h
  refine⟨?_,rfl⟩
  rw[St.fs_put]
  simp only[St.fs,FS.put,FS.ap,St.H_eq,St.K_eq,lK_set _ _ (lt_of_lK (ht t sz rows rfl))]
 |pan v=>simp[St.ap]at h
 |call g as=>simp[St.ap]at h
 |round b as=>simp[St.ap]at h
theorem sharedOp_cases {X:Ctx} {cl:CallFn} {dr:Bool} {d:Option Nat} {g:FuncId} {args:List AV} {s:St} {k:St→Option Out} {out:Out} (h:sharedOp X cl dr d g args s k=some out):
  dr=false∧∃r,scall X cl g args s.heap s.toks=some r∧
     match r.1 with
     | .ret v=>k ({ s with heap:=r.2.1,toks:=r.2.2 }.put d v)=some out
     | .panic v=>out= .panic v { s with heap:=r.2.1,toks:=r.2.2 }:=by
 unfold sharedOp at h
 split at h
 ·simp at h
 ·rename_i hd
  obtain⟨r,hr,h⟩:=ob_eq h
  refine⟨by simpa using hd,r,hr,?_⟩
  rcases r with⟨r1,r2⟩
  cases r1 with
  |ret v=>exact h
  |panic v=>exact(Option.some.inj h).symm
theorem opGo_cases {X:Ctx} {cl:CallFn} {f:FuncId} {dr:Bool} {o:Oper} {s:St} {k:St→Option Out} {out:Out} (h:opGo X cl f dr o s k=some out):
  ∃e,effOf X.P s.nh (X.mode f (o.dst.getD 0)) (get s.env) s.H s.K o.op=some e∧
   ((e.plain=true∧∃s',s.ap o.dst e=some s'∧k s'=some out)∨
    (∃ v,e= .pan v∧dr=false∧out= .panic v s)∨
    (∃ g args,e= .call g args∧g < rid∧closedL (freezeL s.H args)=true∧∃r,icall X cl g (freezeL s.H args)=some r∧
     match r with
     | .ret v=>k (s.put o.dst v)=some out
     | .own sz rows=>k ({ s with toks:=s.toks++[rows.length] }.put o.dst (.lst sz rows (.tok s.toks.length)))=some out
     | .panic v=>(dr&& !X.cut f (o.dst.getD 0))=false∧out= .panic v s)∨
    (∃ g args,(e= .call g args∧g < rid∨∃b,e= .round b args∧g=rid+b)∧(dr&& !X.cut f (o.dst.getD 0))=false∧∃r,scall X cl g args s.heap s.toks=some r∧
     match r.1 with
     | .ret v=>k ({ s with heap:=r.2.1,toks:=r.2.2 }.put o.dst v)=some out
     | .panic v=>out= .panic v { s with heap:=r.2.1,toks:=r.2.2 })):=by
 unfold opGo at h
 obtain⟨e,he,h⟩:=ob_eq h
 refine⟨e,he,?_⟩
 have plain:e.plain=true→ob (s.ap o.dst e) k=some out→(e.plain=true∧∃s',s.ap o.dst e=some s'∧k s'=some out):=fun hp h=>by
  obtain⟨s',hs,h⟩:=ob_eq h
  exact⟨hp,s',hs,h⟩
 cases e with
 |pan v=>
  simp only at h
  split at h
  ·simp at h
  ·rename_i hd
   exact .inr (.inl ⟨v,rfl,by simpa using hd,(Option.some.inj h).symm⟩)
 |call g args=>
  simp only[callOp]at h
  split at h
  ·rename_i hg
   split at h
   ·rename_i hc
    obtain⟨r,hr,h⟩:=ob_eq h
    refine .inr (.inr (.inl ⟨g,args,rfl,hg,hc.2,r,hr,?_⟩))
    cases r with
    |ret v=>exact h
    |own sz rows=>exact h
    |panic v=>
     simp only at h ⊢
     split at h
     ·simp at h
     ·rename_i hd
      exact⟨by simpa using hd,(Option.some.inj h).symm⟩
   ·obtain⟨hd,r,hr,h⟩:=sharedOp_cases h
    exact .inr (.inr (.inr ⟨g,args,.inl ⟨rfl,hg⟩,hd,r,hr,h⟩))
  ·simp at h
 |round b args=>
  obtain⟨hd,r,hr,h⟩:=sharedOp_cases h
  exact .inr (.inr (.inr ⟨rid+b,args,.inr ⟨b,rfl,rfl⟩,hd,r,hr,h⟩))
 |val v=>exact .inl (plain rfl h)
 |new k wn=>exact .inl (plain rfl h)
 |upd b k=>exact .inl (plain rfl h)
 |ntok sz rows=>exact .inl (plain rfl h)
 |stok t sz rows=>exact .inl (plain rfl h)
end
end Go.Sym
end
section
namespace Go.Sym
open Go.RowKit
section
variable {L0:Lay} {w0:World} {base nt:Nat} {dl:Option (List Deferred)} {L:Lay} {a:Act} {w:World} {X:Ctx} {cl:CallFn} {f:FuncId} {dr:Bool} {o:Oper} {s:St} {k:St→Option Out} {out:Out}
theorem op_step {ro:Option Nat} {n:Nat} (hP:ProgOK X.P) (hcl:CallsOK X.P cl) (hsc:ScallsOK X cl) (hic:IcallsOK X cl) (h:opGo X cl f dr o s k=some out) (hat:At L0 w0 base nt dl s.fs.env s.fs.H s.fs.K L a w)
  (hd:∀x,o.dst=some x→x < nt) {Kt:Act→World→Prop} {Q:Exit→Act→World→Prop}
  (hk:∀(s':St) L' a' w',k s'=some out→At L0 w0 base nt dl s'.fs.env s'.fs.H s'.fs.K L' a' w'→Kt a' w')
  (hpan:∀v (s':St) ch w',out= .panic v s'→Oth w w'→Pan L0 w0 base s' v ch a w'→Q (.panic ch) a w'):o.wpIn (rf ro) n X.P a w Kt Q:=by
 obtain⟨e,he,hc⟩:=opGo_cases h
 have hnd:=effOf_nd he
 have shared:∀(r:Res×List Blk×List Nat) (e:Ending) w',Ends base L w r e w'→(match r.1 with
     | .ret v=>k ({ s with heap:=r.2.1,toks:=r.2.2 }.put o.dst v)=some out
     | .panic v=>out= .panic v { s with heap:=r.2.1,toks:=r.2.2 })→match e with
   | .returned v=>Kt (a.put o.dst v) w'
   | .panicked chain=>Q (.panic chain) a w'
   | .outgrown=>LetsOut Q:=fun r e w' hend hrest=>by
  rcases r with⟨r1,r2,r3⟩
  cases e with
  |returned u=>
   cases r1 with
   |ret v=>
    obtain⟨L',hx,hi,hv⟩:=hend
    refine hk _ L' _ w' hrest ?_
    rw[St.fs_put]
    exact hat.step hd hx hi hv
   |panic v=>exact hend.elim
  |panicked ch=>
   cases r1 with
   |ret v=>exact hend.elim
   |panic v=>
    obtain⟨L',u,rfl,hx,hi,hv⟩:=hend
    simp only at hrest
    subst hrest
    exact hpan v _ _ w' rfl hx.oth ⟨L',u,rfl,hat.ext.trans hx,hi,hv,hat.env.ext hx⟩
  |outgrown=>cases r1 <;> exact hend.elim
 rcases hc with⟨hp,s',hs,hk'⟩ |⟨v,rfl,_,rfl⟩ |⟨g,args,rfl,hg,hcl',r,hr,hrest⟩ |⟨g,args,hge,_,r,hr,hrest⟩
 ·have hok:=op_sound hP hat.inv hat.env he (fun g as hg=>by rw[hg]at hp;simp[Eff.plain]at hp)
  have hf:=(St.ap_fs hs (fun b k hu=>by rw[hu]at he;exact effOf_upd he) (fun t sz rows hu=>by rw[hu]at he;exact effOf_stok he)).1
  refine upon_eff hat hd hok hp (b:=s.heap.length) (t:=s.toks.length) (fun _=>lH_none _) (fun _=>lK_none _) (fun L' a' w' hat'=>?_) hnd
  rw[←hf]at hat'
  exact hk s' L' a' w' hk' hat'
 ·have hok:=op_sound hP hat.inv hat.env he (fun g as hg=>by cases hg)
  obtain⟨u,hr,hu⟩:=hok
  refine wpIn_of hnd ?_
  rw[hr]
  exact hpan v s _ w rfl (Oth.refl _) ⟨L,u,rfl,hat.ext,hat.inv,hu,hat.env⟩
 ·obtain⟨hb,hcalls⟩:=hic g args r hg s.H hcl' hr
  have hok:=op_sound hP hat.inv hat.env he (fun g' as hg=>by cases hg;exact hb)
  obtain⟨us,hrun,hrep⟩:=hok
  refine wpIn_of hnd ?_
  rw[hrun,Oper.uponIn_enter]
  refine⟨room_rf,calls_rf (Calls.mono (hcalls L s.K w base us hat.inv hrep) fun e w' hend=>?_)⟩
  cases e with
  |returned u=>
   cases r with
   |ret v=>
    obtain⟨L',hx,hi,hv⟩:=hend
    refine hk _ L' _ w' hrest ?_
    rw[St.fs_put]
    exact hat.step hd hx hi hv
   |own sz rows=>
    obtain⟨L',hx,hi,hv⟩:=hend s.toks.length (lK_none _)
    refine hk _ L' _ w' hrest ?_
    rw[St.fs_put]
    have:=hat.step hd hx hi hv
    simpa only[St.fs,FS.put,St.H_eq,St.K_eq,lK_append] using this
   |panic v=>exact hend.elim
  |panicked ch=>
   cases r with
   |ret v=>exact hend.elim
   |own sz rows=>exact hend.elim
   |panic v=>
    obtain⟨L',u,rfl,hx,hi,hv⟩:=hend
    obtain⟨_,rfl⟩:=hrest
    exact hpan v s _ w' rfl hx.oth ⟨L',u,rfl,hat.ext.trans hx,hi,hv,hat.env.ext hx⟩
  |outgrown=>cases r <;> exact hend.elim
 ·rcases hge with⟨rfl,hg⟩ |⟨b,rfl,rfl⟩
  ·obtain⟨hb,hcalls⟩:=hsc.call g args s.heap s.toks r hg hr
   have hok:=op_sound hP hat.inv hat.env he (fun g' as hg=>by cases hg;exact hb)
   obtain⟨us,hrun,hrep⟩:=hok
   refine wpIn_of hnd ?_
   rw[hrun,Oper.uponIn_enter]
   exact⟨room_rf,calls_rf (Calls.mono (hcalls L w base us hat.inv hrep) fun e w' hend=>by have:=shared r e w' hend hrest;cases e <;> exact this)⟩
  ·have hok:=op_sound hP hat.inv hat.env he (fun g' as hg=>by cases hg)
   obtain⟨us,l,sz,hl,hrep,hrun⟩:=hok
   obtain⟨rc,hm,hsz,hround⟩:=hcl.round b args s.heap s.toks r (by unfold scall at hr;rw[hsc.round b]at hr;exact hr) L w base us l sz hl hat.inv hrep
   refine wpIn_of hnd ?_
   rw[hrun rc hm hsz,Oper.uponIn_round]
   exact⟨room_rf,round_rf ((hround _).mono fun e w' hend=>by have:=shared r e w' hend hrest;cases e <;> exact this)⟩
theorem guard_want {env:Nat→AV} {ops:Array Oper} {g:Option (Nat×Bool)} (hg:guardOf ops.toList o=some g) (he:EnvOK L w env a):
  match g with
  |none=>Region.wanted o (yielded ops a.tmps)=true
  |some (d,want)=>∀y,gsays (env d) want=some y→Region.wanted o (yielded ops a.tmps)=y:=by
 unfold guardOf at hg
 cases hgo:o.guard with
 |none=>
  rw[hgo]at hg
  cases hg
  simp[Region.wanted,hgo]
 |some jw=>
  obtain⟨j,want⟩:=jw
  rw[hgo]at hg
  simp only at hg
  obtain⟨q,hq,hg⟩:=ob_eq hg
  obtain⟨d,hd,hg⟩:=ob_eq hg
  cases hg
  intro y hy
  have h1:=he d
  have hq':ops[j]? =some q:=by simpa using hq
  unfold gsays at hy
  split at hy
  ·rename_i b hb
   rw[hb]at h1
   have h2:a.tmps.getD d undef= .bool b:=by simpa only[Rep] using h1
   have h3:yielded ops a.tmps j=some b:=by
    unfold yielded
    simp only[hq',Option.bind_some,hd]
    cases ht:a.tmps[d]? with
    |none=>simp[Array.getD_eq_getD_getElem?,ht,undef]at h2
    |some u=>
     simp[Array.getD_eq_getD_getElem?,ht]at h2
     subst h2
     rfl
   cases hy
   simp only[Region.wanted,hgo,h3]
   cases b <;> cases want <;> rfl
  ·rename_i hb
   rw[hb]at h1
   obtain⟨vs,h2,h3⟩:=by simpa only[Rep] using h1
   have h4:yielded ops a.tmps j=none:=by
    unfold yielded
    simp only[hq',Option.bind_some,hd]
    cases ht:a.tmps[d]? with
    |none=>rfl
    |some u=>
     simp[Array.getD_eq_getD_getElem?,ht]at h2
     subst h2
     rfl
   cases hy
   simp only[Region.wanted,hgo,h4]
   cases want <;> rfl
  ·cases hy
theorem evs_sound {ro:Option Nat} {n:Nat} (hP:ProgOK X.P) (hcl:CallsOK X.P cl) (hsc:ScallsOK X cl) (hic:IcallsOK X cl) {ops:Array Oper} (hd:∀(i:Nat) o x,ops[i]? =some o→o.dst=some x→x < nt):
  ∀(l:List Nat) (r:List Oper) (s:St) (L:Lay) (a:Act) (w:World),r=l.filterMap (fun i=>ops[i]?)→evs X cl f dr ops.toList r s=some out→At L0 w0 base nt dl s.fs.env s.fs.H s.fs.K L a w→
   wpOpsIn (rf ro) n X.P ops (Post L0 w0 base nt dl out) l a w
 | [],r,s,L,a,w,hr,h,hat=>by
  subst hr
  cases h
  exact⟨L,hat⟩
 |i::l,r,s,L,a,w,hr,h,hat=>by
  rw[wpOpsIn_cons]
  unfold wpOpIn
  cases ho:ops[i]? with
  |none=>
   simp only
   exact evs_sound hP hcl hsc hic hd l r s L a w (by simpa[ho] using hr) h hat
  |some o=>
   simp only
   have hr':r=o::l.filterMap (fun i=>ops[i]?):=by simpa[ho] using hr
   subst hr'
   simp only[evs]at h
   obtain⟨g,hg,h⟩:=ob_eq h
   have hw:=guard_want (ops:=ops) hg hat.env
   have hstep:opGo X cl f dr o s (evs X cl f dr ops.toList (l.filterMap fun i=>ops[i]?))=some out→o.wpIn (rf ro) n X.P a w (wpOpsIn (rf ro) n X.P ops (Post L0 w0 base nt dl out) l) (Post L0 w0 base nt dl out):=fun h=>by
    refine op_step hP hcl hsc hic h hat (fun x hx=>hd i o x ho hx) (fun s' L' a' w' hk hat'=>evs_sound hP hcl hsc hic hd l _ s' L' a' w' rfl hk hat') fun v s' ch w' hout hoth hp=>?_
    subst hout
    exact⟨hat.defers.oth hoth,hp⟩
   cases g with
   |none=>
    simp only at h hw
    rw[if_pos hw]
    exact hstep h
   |some dw=>
    obtain⟨d,want⟩:=dw
    simp only at h hw
    obtain⟨y,hy,h⟩:=ob_eq h
    have hwb:=hw y hy
    split at h
    ·rename_i hbw
     rw[if_pos (by rw[hwb];exact hbw)]
     exact hstep h
    ·rename_i hbw
     rw[if_neg (by rw[hwb];exact hbw)]
     refine⟨fun _ _=>trivial,evs_sound hP hcl hsc hic hd l _ _ L _ w rfl h ?_⟩
     rw[St.fs_put]
     exact hat.skip (fun x hx=>hd i o x ho hx)
end
end Go.Sym
end
section
namespace Go.Sym
open Go.RowKit
def upd1 {α:Type} (f:Nat→α):Option (Nat×α)→Nat→α
 |none=>f
 |some (k,v)=>fun x=>if x=k then v else f x
theorem upd1_same {α:Type} (f:Nat→α) (k:Nat) (v:α):upd1 f (some (k,v)) k=v:=by simp[upd1]
theorem upd1_ne {α:Type} (f:Nat→α) {o:Option (Nat×α)} {t:Nat} (h:∀v,o≠some (t,v)):upd1 f o t=f t:=by
 cases o with
 |none=>rfl
 |some p=>
  obtain⟨k,v⟩:=p
  have:t≠k:=by rintro rfl;exact h v rfl
  simp[upd1,this]
theorem upd1_comm {α:Type} (f:Nat→α) {o p:Option (Nat×α)} (h:∀k v u,o=some (k,v)→p≠some (k,u)):upd1 (upd1 f o) p=upd1 (upd1 f p) o:=by
 cases o with
 |none=>rfl
 |some x=>
  cases p with
  |none=>rfl
  |some y=>
   obtain⟨k,v⟩:=x
   obtain⟨l,u⟩:=y
   have hkl:k≠l:=by rintro rfl;exact h k v u rfl rfl
   funext t
   simp only[upd1]
   by_cases h1:t=k
   ·subst h1;simp[hkl]
   ·simp[h1]
structure Ent where
 i:Nat
 o:Oper
 e:Eff
 b:Nat
 t:Nat
def Eff.outV (b t:Nat):Eff→AV
 | .val v=>v
 | .new _ none=>.ptr b 0 0
 | .new _ (some n)=>.win b 0 n.1 n.2
 | .ntok sz rows=>.lst sz rows (.tok t)
 | .stok c sz rows=>.lst sz rows (.tok c)
 |_=>.undef
def Ent.cE (x:Ent):Option (Nat×AV):=x.o.dst.map fun d=>(d,x.e.outV x.b x.t)
def Ent.cH (x:Ent):Option (Nat×Option Blk):=match x.e with
 | .new k _=>some (x.b,some k)
 | .upd c k=>some (c,some k)
 |_=>none
def Ent.cK (x:Ent):Option (Nat×Option Nat):=match x.e with
 | .ntok _ rows=>some (x.t,some rows.length)
 | .stok c _ rows=>some (c,some rows.length)
 |_=>none
def FS.do (A:FS) (x:Ent):FS:=⟨upd1 A.env x.cE,upd1 A.H x.cH,upd1 A.K x.cK⟩
theorem setE_upd1 (env:Nat→AV) (d:Option Nat) (v:AV):setE env d v=upd1 env (d.map fun d=>(d,v)):=by
 cases d <;> rfl
theorem FS.do_eq (A:FS) (x:Ent) (h:x.e.plain=true):A.do x=A.ap x.o.dst x.b x.t x.e:=by
 obtain⟨i,o,e,b,t⟩:=x
 cases e with
 |new k wn=>cases wn <;> simp only[FS.do,FS.ap,FS.put,Ent.cE,Ent.cH,Ent.cK,Eff.outV,setE_upd1] <;> rfl
 |pan v=>simp[Eff.plain]at h
 |call g as=>simp[Eff.plain]at h
 |round b as=>simp[Eff.plain]at h
 |_=>simp only[FS.do,FS.ap,FS.put,Ent.cE,Ent.cH,Ent.cK,Eff.outV,setE_upd1];rfl
def runG {α:Type} (c:Ent→Option (Nat×α)) (D:Nat→Bool):List Ent→(Nat→α)→Nat→α
 | [],f=>f
 |x::r,f=>runG c D r (if D x.i then upd1 f (c x)else f)
def runF (D:Nat→Bool):List Ent→FS→FS
 | [],A=>A
 |x::r,A=>runF D r (if D x.i then A.do x else A)
theorem runF_eq (D:Nat→Bool):∀(T:List Ent) (A:FS),runF D T A=⟨runG Ent.cE D T A.env,runG Ent.cH D T A.H,runG Ent.cK D T A.K⟩
 | [],A=>rfl
 |x::r,A=>by
  simp only[runF,runG]
  rw[runF_eq D r]
  split <;> rfl
section
variable {α:Type} {c:Ent→Option (Nat×α)} {D D':Nat→Bool}
theorem runG_agree {t:Nat}:∀(T:List Ent) (f f':Nat→α),(∀ x ∈ T,D x.i≠D' x.i→∀v,c x≠some (t,v))→f t=f' t→runG c D T f t=runG c D' T f' t
 | [],f,f',_,h=>h
 |x::r,f,f',hx,h=>by
  simp only[runG]
  refine runG_agree r _ _ (fun y hy=>hx y (List.mem_cons_of_mem _ hy)) ?_
  by_cases hd:D x.i=D' x.i
  ·rw[←hd]
   split
   ·cases hc:c x with
    |none=>exact h
    |some p=>simp only[upd1,h]
   ·exact h
  ·have hne:=hx x (List.mem_cons_self ..) hd
   have h1:∀(g:Nat→α) (b:Bool),(if b=true then upd1 g (c x)else g) t=g t:=fun g b=>by
    split
    ·exact upd1_ne g hne
    ·rfl
   rw[h1,h1]
   exact h
theorem runG_last:∀(T:List Ent) (f:Nat→α) (o:Option (Nat×α)),(∀ y ∈ T,D y.i=true→∀k v u,o=some (k,v)→c y≠some (k,u))→
  runG c D T (upd1 f o)=upd1 (runG c D T f) o
 | [],f,o,_=>rfl
 |x::r,f,o,h=>by
  simp only[runG]
  split
  ·rename_i hd
   rw[upd1_comm f (h x (List.mem_cons_self ..) hd)]
   exact runG_last r _ o fun y hy=>h y (List.mem_cons_of_mem _ hy)
  ·exact runG_last r _ o fun y hy=>h y (List.mem_cons_of_mem _ hy)
theorem runG_insert {x:Ent} (hx:D x.i=false) (hx':D' x.i=true) (hD:∀j,j≠x.i→D' j=D j):∀(T:List Ent) (f:Nat→α),(T.map (·.i)).Nodup→x ∈ T→
  (∀ y ∈ T,D y.i=true→x.i < y.i→∀k v u,c x=some (k,v)→c y≠some (k,u))→(T.map (·.i)).Pairwise (· < ·)→runG c D' T f=upd1 (runG c D T f) (c x)
 | [],f,_,h,_,_=>by cases h
 |y::r,f,hn,hm,hc,hp=>by
  simp only[List.map_cons,List.nodup_cons]at hn
  simp only[List.map_cons,List.pairwise_cons]at hp
  simp only[runG]
  rcases List.mem_cons.1 hm with rfl |hm
  ·rw[hx,hx']
   simp only[if_true,Bool.false_eq_true,if_false]
   have same:∀(l:List Ent) (g:Nat→α),(∀ y ∈ l,y.i≠x.i)→runG c D' l g=runG c D l g:=by
    intro l
    induction l with
    |nil=>intro g _;rfl
    |cons z l ih=>
     intro g hl
     simp only[runG]
     rw[hD z.i (hl z (List.mem_cons_self ..))]
     exact ih _ fun y hy=>hl y (List.mem_cons_of_mem _ hy)
   rw[same r _ (fun y hy e=>hn.1 (by rw[←e];exact List.mem_map_of_mem hy))]
   exact runG_last r f (c x) fun y hy hd=>hc y (List.mem_cons_of_mem _ hy) hd (hp.1 y.i (List.mem_map_of_mem hy))
  ·have hne:y.i≠x.i:=fun e=>hn.1 (by rw[e];exact List.mem_map_of_mem hm)
   rw[hD y.i hne]
   exact runG_insert hx hx' hD r _ hn.2 hm (fun z hz=>hc z (List.mem_cons_of_mem _ hz)) hp.2
end
theorem runG_some {β:Type} {c:Ent→Option (Nat×Option β)} {D:Nat→Bool} {t:Nat}:∀(T:List Ent) (f:Nat→Option β),runG c D T f t≠none→f t≠none∨∃x ∈ T,D x.i=true∧∃v,c x=some (t,v)
 | [],f,h=>.inl h
 |x::r,f,h=>by
  simp only[runG]at h
  rcases runG_some r _ h with h |⟨y,hy,hd,hv⟩
  ·split at h
   ·rename_i hd
    by_cases hk:∃v,c x=some (t,v)
    ·exact .inr ⟨x,List.mem_cons_self ..,hd,hk⟩
    ·rw[upd1_ne f (fun v hv=>hk ⟨v,hv⟩)]at h
     exact .inl h
   ·exact .inl h
  ·exact .inr ⟨y,List.mem_cons_of_mem _ hy,hd,hv⟩
theorem upd1_ne_none {β:Type} (f:Nat→Option β) {o:Option (Nat×Option β)} (ho:∀k v,o=some (k,v)→v≠none) {t:Nat} (h:f t≠none∨∃v,o=some (t,v)):upd1 f o t≠none:=by
 by_cases hk:∃v,o=some (t,v)
 ·obtain⟨v,rfl⟩:=hk
  rw[upd1_same]
  exact ho t v rfl
 ·rw[upd1_ne f fun v hv=>hk ⟨v,hv⟩]
  rcases h with h |h
  ·exact h
  ·exact absurd h hk
theorem runG_stays {β:Type} {c:Ent→Option (Nat×Option β)} (hc:∀x k v,c x=some (k,v)→v≠none) {D:Nat→Bool} {t:Nat}:∀(T:List Ent) (f:Nat→Option β),
  (f t≠none∨∃x ∈ T,D x.i=true∧∃v,c x=some (t,v))→runG c D T f t≠none
 | [],f,h=>by
  rcases h with h |⟨x,hx,_⟩
  ·exact h
  ·cases hx
 |x::r,f,h=>by
  simp only[runG]
  refine runG_stays hc r _ ?_
  rcases h with h |⟨y,hy,hd,hv⟩
  ·refine .inl ?_
   split
   ·exact upd1_ne_none f (hc x) (.inl h)
   ·exact h
  ·rcases List.mem_cons.1 hy with rfl |hy
   ·refine .inl ?_
    rw[if_pos hd]
    exact upd1_ne_none f (hc y) (.inr hv)
   ·exact .inr ⟨y,hy,hd,hv⟩
theorem cH_some (x:Ent) (k:Nat) (v:Option Blk) (h:x.cH=some (k,v)):v≠none:=by
 unfold Ent.cH at h
 split at h <;> cases h <;> simp
theorem runG_both {D D':Nat→Bool} {b:Nat}:∀(T:List Ent) (f f':Nat→Option Blk),(T.map (·.i)).Pairwise (· < ·)→
  (∀ x ∈ T,D x.i≠D' x.i→∀v,x.cH=some (b,v)→x.b=b∧∃k wn,x.e= .new k wn)→
  (∀ x ∈ T,∀y ∈ T,x.i < y.i→(∃ k wn,y.e= .new k wn)→y.b=b→∀v,x.cH≠some (b,v))→
  ((∃ x ∈ T,x.b=b∧∃k wn,x.e= .new k wn)→f b=none∧f' b=none)→
  (f b=f' b∨f b=none∨f' b=none)→(runG Ent.cH D T f b=runG Ent.cH D' T f' b∨runG Ent.cH D T f b=none∨runG Ent.cH D' T f' b=none)
 | [],f,f',_,_,_,_,h=>h
 |x::r,f,f',hp,hd,hb,h0,h=>by
  simp only[List.map_cons,List.pairwise_cons]at hp
  simp only[runG]
  have hlt:∀y ∈ r,x.i < y.i:=fun y hy=>hp.1 y.i (List.mem_map_of_mem hy)
  refine runG_both r _ _ hp.2 (fun y hy=>hd y (List.mem_cons_of_mem _ hy)) (fun y hy z hz=>hb y (List.mem_cons_of_mem _ hy) z (List.mem_cons_of_mem _ hz)) ?_ ?_
  ·rintro⟨y,hy,hyb,hyn⟩
   obtain⟨h1,h2⟩:=h0 ⟨y,List.mem_cons_of_mem _ hy,hyb,hyn⟩
   have hne:=hb x (List.mem_cons_self ..) y (List.mem_cons_of_mem _ hy) (hlt y hy) hyn hyb
   constructor <;> split <;> first
    | (rw [upd1_ne _ hne];assumption)
    |assumption
  ·by_cases hk:∃v,x.cH=some (b,v)
   ·by_cases hdd:D x.i=D' x.i
    ·obtain⟨v,hv⟩:=hk
     rw[←hdd]
     split
     ·left
      rw[hv,upd1_same,upd1_same]
     ·exact h
    ·obtain⟨v,hv⟩:=hk
     obtain⟨hxb,hxn⟩:=hd x (List.mem_cons_self ..) hdd v hv
     obtain⟨h1,h2⟩:=h0 ⟨x,List.mem_cons_self ..,hxb,hxn⟩
     cases hD:D x.i <;> cases hD':D' x.i <;> simp_all
   ·have hne:∀v,x.cH≠some (b,v):=fun v hv=>hk ⟨v,hv⟩
    have h1:∀(g:Nat→Option Blk) (q:Bool),(if q=true then upd1 g x.cH else g) b=g b:=fun g q=>by
     split
     ·exact upd1_ne g hne
     ·rfl
    rw[h1,h1]
    exact h
end Go.Sym
end
section
namespace Go.Sym
open Go.RowKit
section
variable {X:Ctx} {cl:CallFn} {f:FuncId} {nh:Nat} {ops:List Oper}
def Acts (X:Ctx) (cl:CallFn) (f:FuncId) (nh:Nat) (A:FS) (x:Ent):Prop:=
 ∃e,effOf X.P nh (X.mode f (x.o.dst.getD 0)) A.env A.H A.K x.o.op=some e∧
  ((e.plain=true∧x.e=e)∨∃g args r,(e= .call g args∧g < rid)∧closedL (freezeL A.H args)=true∧icall X cl g (freezeL A.H args)=some r∧
   match r with | .ret v=>x.e= .val v | .own sz rows=>x.e= .ntok sz rows | .panic _=>False)
def Did (X:Ctx) (cl:CallFn) (f:FuncId) (nh:Nat) (ops:List Oper) (A:FS) (x:Ent):Prop:=
 ∃g,guardOf ops x.o=some g∧match g with
  |none=>Acts X cl f nh A x
  |some (d,want)=>∃y,gsays (A.env d) want=some y∧(if y=true then Acts X cl f nh A x else x.e= .val (.tup []))
theorem Acts.plain {A:FS} {x:Ent} (h:Acts X cl f nh A x):x.e.plain=true:=by
 obtain⟨e,_,⟨hp,rfl⟩ |⟨g,args,r,_,_,_,hr⟩⟩:=h
 ·exact hp
 ·cases r with
  |ret v=>simp only at hr;rw[hr];rfl
  |own sz rows=>simp only at hr;rw[hr];rfl
  |panic v=>exact hr.elim
theorem Did.plain {A:FS} {x:Ent} (h:Did X cl f nh ops A x):x.e.plain=true:=by
 obtain⟨g,_,h⟩:=h
 cases g with
 |none=>exact Acts.plain h
 |some p=>
  obtain⟨b,_,h⟩:=h
  split at h
  ·exact Acts.plain h
  ·rw[h];rfl
variable {L0:Lay} {w0:World} {base nt:Nat} {dl:Option (List Deferred)} {L:Lay} {a:Act} {w:World}
def Atf (L0:Lay) (w0:World) (base nt:Nat) (dl:Option (List Deferred)) (A:FS) (L:Lay) (a:Act) (w:World):Prop:=At L0 w0 base nt dl A.env A.H A.K L a w
theorem did_step {ro:Option Nat} {n:Nat} (hP:ProgOK X.P) (hic:IcallsOK X cl) {ops:Array Oper} {A:FS} {x:Ent} (h:Did X cl f nh ops.toList A x) (hat:Atf L0 w0 base nt dl A L a w) {i:Nat} (ho:ops[i]? =some x.o)
  (hd:∀d,x.o.dst=some d→d < nt) (hb:(∃ k wn,x.e= .new k wn)→A.H x.b=none) (ht:(∃ sz rows,x.e= .ntok sz rows)→A.K x.t=none)
  {Kt:Act→World→Prop} {Q:Exit→Act→World→Prop} (hk:∀L' a' w',Atf L0 w0 base nt dl (A.do x) L' a' w'→Kt a' w'):wpOpIn (rf ro) n X.P ops Q i Kt a w:=by
 have hpl:=h.plain
 have hdo:=A.do_eq x hpl
 obtain⟨g,hg,h⟩:=h
 unfold wpOpIn
 rw[ho]
 simp only
 have hw:=guard_want (ops:=ops) hg hat.env
 have acts:Acts X cl f nh A x→x.o.wpIn (rf ro) n X.P a w Kt Q:=by
  rintro⟨e,he,⟨hp,rfl⟩ |⟨g,args,r,⟨rfl,hg⟩,hcl,hr,hx⟩⟩
  ·have hok:=op_sound hP hat.inv hat.env he (fun g as hg=>by rw[hg]at hp;simp[Eff.plain]at hp)
   refine upon_eff hat hd hok hp hb ht (fun L' a' w' hat'=>?_) (effOf_nd he)
   rw[←hdo]at hat'
   exact hk L' a' w' hat'
  ·obtain⟨hbody,hcalls⟩:=hic g args r hg A.H hcl hr
   have hok:=op_sound hP hat.inv hat.env he (fun g' as hg=>by cases hg;exact hbody)
   obtain⟨us,hrun,hrep⟩:=hok
   refine wpIn_of (effOf_nd he) ?_
   rw[hrun,Oper.uponIn_enter]
   refine⟨room_rf,calls_rf (Calls.mono (hcalls L A.K w base us hat.inv hrep) fun e w' hend=>?_)⟩
   cases r with
   |panic v=>exact hx.elim
   |ret v=>
    cases e with
    |returned u=>
     obtain⟨L',hx',hi,hv⟩:=hend
     refine hk L' _ w' ?_
     rw[hdo]
     simp only at hx
     rw[hx]
     exact hat.step hd hx' hi hv
    |panicked ch=>exact hend.elim
    |outgrown=>exact hend.elim
   |own sz rows=>
    cases e with
    |returned u=>
     obtain⟨L',hx',hi,hv⟩:=hend x.t (ht ⟨_,_,hx⟩)
     refine hk L' _ w' ?_
     rw[hdo]
     simp only at hx
     rw[hx]
     exact hat.step hd hx' hi hv
    |panicked ch=>exact hend.elim
    |outgrown=>exact hend.elim
 cases g with
 |none=>
  simp only at h hw
  rw[if_pos hw]
  exact acts h
 |some dw=>
  obtain⟨d,want⟩:=dw
  obtain⟨b,hb',h⟩:=h
  simp only at hw
  have hwb:=hw b hb'
  split at h
  ·rename_i hbw
   rw[if_pos (by rw[hwb];exact hbw)]
   exact acts h
  ·rename_i hbw
   rw[if_neg (by rw[hwb];exact hbw)]
   refine⟨fun _ _=>trivial,hk L _ w ?_⟩
   rw[hdo,h]
   exact hat.skip hd
theorem evL_congr {env env':Nat→AV}:∀{l:List Operand},(∀ x ∈ l,evO env' x=evO env x)→evL env' l=evL env l
 | [],_=>rfl
 |x::r,h=>by
  simp only[evL]
  rw[h x (List.mem_cons_self ..),evL_congr fun y hy=>h y (List.mem_cons_of_mem _ hy)]
theorem evP_congr {env env':Nat→AV}:∀{l:List (Nat×Operand)},(∀ x ∈ l.map (·.2),evO env' x=evO env x)→evP env' l=evP env l
 | [],_=>rfl
 | (i,x)::r,h=>by
  simp only[evP]
  rw[h x (by simp),evP_congr fun y hy=>h y (by simp at hy ⊢;exact .inr hy)]
theorem optO_congr {env env':Nat→AV} {x:Option Operand} (h:∀y,x=some y→evO env' y=evO env y):optO env' x=optO env x:=by
 cases x with
 |none=>rfl
 |some y=>simp only[optO,h y rfl]
theorem callv_congr {P:Program} {md:Nat} {K:Nat→Option Nat} {env env':Nat→AV} {c:Call} (h:∀x ∈ c.operands,evO env' x=evO env x):callv P md K env' c=callv P md K env c:=by
 obtain⟨callee,args,ts⟩:=c
 have ha:evL env' args.toList=evL env args.toList:=evL_congr fun x hx=>h x (by simp[Call.operands];exact .inr (by simpa using hx))
 have ha':∀x ∈ args.toList,evO env' x=evO env x:=fun x hx=>h x (by simp[Call.operands];exact .inr (by simpa using hx))
 unfold callv
 cases callee with
 |value v=>
  have hv:evO env' v=evO env v:=h v (by simp[Call.operands])
  simp only[hv,ha]
 |invoke r m=>
  have hv:evO env' r=evO env r:=h r (by simp[Call.operands])
  simp only[hv,ha]
 |builtin b=>
  clear h
  generalize args.toList=l at*
  cases b <;> first
   |rfl
   | (simp only;rw[ha];done)
   | (rcases l with _ |⟨x,_ |⟨y,_ |⟨z,l⟩⟩⟩ <;> simp_all;done)
theorem effOf_congr {P:Program} {m:Nat} {H:Nat→Option Blk} {K:Nat→Option Nat} {env env':Nat→AV} {o:Op} (h:∀x ∈ o.operands,evO env' x=evO env x):
  effOf P nh m env' H K o=effOf P nh m env H K o:=by
 cases o <;> simp only[Op.operands]at h <;> simp only[effOf]
 case build t ps=>rw[evP_congr fun x hx=>h x (by simpa using hx)]
 case buildSlice t n ps=>rw[evP_congr fun x hx=>h x (by simpa using hx)]
 case makeFunc fn first caps=>
  cases fn with
  |func g=>
   simp only
   rw[evL_congr (l:=caps.toList) fun x hx=>h x (by simp;exact .inr (by simpa using hx))]
  |_=>rfl
 case call c=>exact callv_congr h
 case slice t x lo hi mx=>rw[h x (by simp),optO_congr (x:=lo) (fun y e=>h y (by simp[e])),optO_congr (x:=hi) (fun y e=>h y (by simp[e])),optO_congr (x:=mx) (fun y e=>h y (by simp[e]))]
 all_goals (first |rfl | (simp_all;done))
end
end Go.Sym
end
section
namespace Go.Sym
open Go.RowKit
mutual
def okv (p:Nat→Prop):AV→Prop
 | .ptr b _ _=>p b
 | .win b _ _ _=>p b
 | .yld b=>p b
 | .agg cs=>okL p cs
 | .tup cs=>okL p cs
 | .fn _ cs=>okL p cs
 | .iface _ v=>okv p v
 | .iptr .. =>True
 |_=>True
def okL (p:Nat→Prop):List AV→Prop
 | []=>True
 |v::r=>okv p v∧okL p r
end
mutual
theorem Rep.okv {L:Lay} {w:World} {p:Nat→Prop} (hd:∀b x,L.hp b=some x→p b):∀(v:AV) (u:Value),Rep L w v u→okv p v
 | .lst sz r c,u,h=>trivial
 | .agg cs,u,h=>by
  obtain⟨vs,rfl,hl⟩:=by simpa only[Rep] using h
  simpa[Sym.okv] using RepL.okL hd cs _ hl
 | .tup cs,u,h=>by
  obtain⟨vs,rfl,hl⟩:=by simpa only[Rep] using h
  simpa[Sym.okv] using RepL.okL hd cs _ hl
 | .fn f cs,u,h=>by
  obtain⟨ws,rfl,hl⟩:=by simpa only[Rep] using h
  simpa[Sym.okv] using RepL.okL hd cs _ hl
 | .iface t v,u,h=>by
  obtain⟨x,rfl,hx⟩:=by simpa only[Rep] using h
  simpa[Sym.okv] using Rep.okv hd v x hx
 | .undef,_,h=>trivial
 | .int ..,_,h=>trivial
 | .bool _,_,h=>trivial
 | .str _,_,h=>trivial
 | .nilp,_,h=>trivial
 | .nilfn,_,h=>trivial
 | .niface,_,h=>trivial
 | .ptr b i o,_,h=>by
  obtain⟨r,sz,hb,_⟩:=by simpa only[Rep] using h
  simpa[Sym.okv] using hd _ _ hb
 | .iptr ..,_,h=>trivial
 | .yld b,_,h=>by
  obtain⟨r,sz,hb,_⟩:=by simpa only[Rep] using h
  simpa[Sym.okv] using hd _ _ hb
 | .win b off len cap,_,h=>by
  obtain⟨r,sz,a,cp,hb,_⟩:=by simpa only[Rep] using h
  simpa[Sym.okv] using hd _ _ hb
theorem RepL.okL {L:Lay} {w:World} {p:Nat→Prop} (hd:∀b x,L.hp b=some x→p b):∀(vs:List AV) (us:List Value),RepL L w vs us→okL p vs
 | [],_,_=>trivial
 |v::r,us,h=>by
  obtain⟨u,q,rfl,hv,hq⟩:=by simpa only[RepL] using h
  exact⟨Rep.okv hd v u hv,RepL.okL hd r q hq⟩
end
mutual
theorem okv_of {p:Nat→Prop}:∀(v:AV),(∀ b,¬okv (fun x=>x≠b) v→p b)→okv p v
 | .ptr b i o,h=>h b (by simp[okv])
 | .win b o l c,h=>h b (by simp[okv])
 | .yld b,h=>h b (by simp[okv])
 | .agg cs,h=>by simpa only[okv] using okL_of cs (by simpa only[okv] using h)
 | .tup cs,h=>by simpa only[okv] using okL_of cs (by simpa only[okv] using h)
 | .fn f cs,h=>by simpa only[okv] using okL_of cs (by simpa only[okv] using h)
 | .iface t v,h=>by simpa only[okv] using okv_of v (by simpa only[okv] using h)
 | .lst ..,_=>trivial
 | .iptr ..,_=>trivial
 | .undef,_=>trivial
 | .int ..,_=>trivial
 | .bool _,_=>trivial
 | .str _,_=>trivial
 | .nilp,_=>trivial
 | .nilfn,_=>trivial
 | .niface,_=>trivial
theorem okL_of {p:Nat→Prop}:∀(vs:List AV),(∀ b,¬okL (fun x=>x≠b) vs→p b)→okL p vs
 | [],_=>trivial
 |v::r,h=>⟨okv_of v fun b hb=>h b fun hn=>hb hn.1,okL_of r fun b hb=>h b fun hn=>hb hn.2⟩
end
def rdC:Op→Bool
 | .load .. | .store .. =>true
 | .call c=>match c.callee with | .value _=>true | .invoke .. =>true |_=>false
 |_=>false
def rdK:Op→Bool
 | .call c=>match c.callee with | .builtin .append=>true |_=>false
 |_=>false
section
variable {P:Program} {nh m:Nat} {env:Nat→AV} {H H':Nat→Option Blk} {K K':Nat→Option Nat}
def SameC (H H':Nat→Option Blk) (b:Nat):Prop:=∀k k',H b=some k→H' b=some k'→k'=k
def SameS (H H':Nat→Option Blk):Prop:=∀b k k',H b=some k→H' b=some k'→k'.sz=k.sz
theorem SameC.eq {b:Nat} (h:SameC H H' b) (hb:H' b≠none) {k:Blk} (hk:H b=some k):H' b=some k:=by
 cases hk':H' b with
 |none=>exact absurd hk' hb
 |some k'=>rw[h k k' hk hk']
mutual
theorem freeze_frame:∀(v:AV),closedB (freeze H v)=true→okv (SameC H H') v→okv (fun b=>H' b≠none) v→freeze H' v=freeze H v
 | .lst sz r c,_,_,_=>by cases c <;> rfl
 | .win b off len cap,h,hC,ho=>by
  simp only[freeze]at h ⊢
  cases hk:H b with
  |none=>simp[rowsOf,hk,closedB]at h
  |some k=>simp only[rowsOf,hk,SameC.eq (by simpa[okv] using hC) (by simpa[okv] using ho) hk]
 | .agg cs,h,hC,ho=>by
  simp only[freeze,closedB]at h ⊢
  rw[freezeL_frame cs h (by simpa[okv] using hC) (by simpa[okv] using ho)]
 | .fn f cs,h,hC,ho=>by
  simp only[freeze,closedB]at h ⊢
  rw[freezeL_frame cs h (by simpa[okv] using hC) (by simpa[okv] using ho)]
 | .iface t v,h,hC,ho=>by
  simp only[freeze,closedB]at h ⊢
  rw[freeze_frame v h (by simpa[okv] using hC) (by simpa[okv] using ho)]
 | .tup cs,_,_,_=>rfl
 | .undef,_,_,_=>rfl
 | .int ..,_,_,_=>rfl
 | .bool _,_,_,_=>rfl
 | .str _,_,_,_=>rfl
 | .nilp,_,_,_=>rfl
 | .nilfn,_,_,_=>rfl
 | .niface,_,_,_=>rfl
 | .ptr b i o,h,hC,ho=>by
  simp only[freeze]at h ⊢
  cases hk:H b with
  |none=>simp[fzp,ptrOf,hk,closedB]at h
  |some k=>rw[SameC.eq (H:=H) (H':=H') (b:=b) (by simpa[okv] using hC) (by simpa[okv] using ho) hk]
 | .iptr ..,_,_,_=>rfl
 | .yld _,_,_,_=>rfl
theorem freezeL_frame:∀(vs:List AV),closedL (freezeL H vs)=true→okL (SameC H H') vs→okL (fun b=>H' b≠none) vs→freezeL H' vs=freezeL H vs
 | [],_,_,_=>rfl
 |v::r,h,hC,ho=>by
  simp only[freezeL,closedL,Bool.and_eq_true]at h ⊢
  rw[freeze_frame v h.1 hC.1 ho.1,freezeL_frame r h.2 hC.2 ho.2]
end
theorem ldv_frame {t:TypeId} {x v:AV} (hC:okv (SameC H H') x) (hx:okv (fun b=>H' b≠none) x) (h:ldv P H t x=some v):ldv P H' t x=some v:=by
 cases x with
 |ptr b i o=>
  simp only[ldv]at h ⊢
  obtain⟨y,hy,h⟩:=ob_eq h
  obtain⟨k,hk,h⟩:=ob_eq h
  simp only[hy,ob,SameC.eq (by simpa[okv] using hC) (by simpa[okv] using hx) hk]
  exact h
 |_=>exact h
theorem stv_frame {t:TypeId} {x v:AV} {p:Nat×Blk} (hC:okv (SameC H H') x) (hx:okv (fun b=>H' b≠none) x) (h:stv P nh H t v x=some p):stv P nh H' t v x=some p:=by
 cases x with
 |ptr b i o=>
  simp only[stv]at h ⊢
  obtain⟨y,hy,h⟩:=ob_eq h
  obtain⟨k,hk,h⟩:=ob_eq h
  simp only[hy,ob,SameC.eq (by simpa[okv] using hC) (by simpa[okv] using hx) hk]
  exact h
 |_=>exact h
theorem iav_frame (hS:SameS H H') {t:TypeId} {x i v:AV} (hx:okv (fun b=>H' b≠none) x) (h:iav P H t x i=some v):iav P H' t x i=some v:=by
 cases x with
 |win b off len cap=>
  cases i with
  |int j n=>
   simp only[iav]at h ⊢
   obtain⟨e,he,h⟩:=ob_eq h
   obtain⟨k,hk,h⟩:=ob_eq h
   cases hk':H' b with
   |none=>exact absurd hk' (by simpa[okv] using hx)
   |some k'=>
    simp only[he,ob,hS b k k' hk hk']
    exact h
  |_=>simp[iav]at h
 |_=>cases i <;> exact h
theorem slv_frame (hS:SameS H H') {t:TypeId} {x v:AV} {lo hi mx:Option AV} (hx:okv (fun b=>H' b≠none) x) (h:slv P H t x lo hi mx=some v):slv P H' t x lo hi mx=some v:=by
 cases x with
 |win b off len cap=>
  simp only[slv]at h ⊢
  split at h
  ·obtain⟨j,hj,h⟩:=ob_eq h
   obtain⟨k,hk,h⟩:=ob_eq h
   cases hk':H' b with
   |none=>exact absurd hk' (by simpa[okv] using hx)
   |some k'=>
    simp only[hj,ob,hS b k k' hk hk']
    exact h
  ·simp at h
 |_=>exact h
theorem callv_frame {md:Nat} {c:Call} (hK:rdK (.call c)=true→K'=K) {e:Eff} (h:callv P md K env c=some e):callv P md K' env c=some e:=by
 obtain⟨callee,args,ts⟩:=c
 cases callee with
 |builtin b=>
  cases b with
  |append=>rw[hK rfl];exact h
  |len=>
   unfold callv at h ⊢
   dsimp only at h ⊢
   generalize args.toList=l at h ⊢
   rcases l with _ |⟨x,_ |⟨y,l⟩⟩ <;> exact h
  |_=>exact h
 |_=>exact h
theorem effOf_frame {o:Op} {e:Eff} (hC:rdC o=true→∀x ∈ o.operands,okv (SameC H H') (evO env x)) (hS:SameS H H') (hK:rdK o=true→K'=K) (hE:∀x ∈ o.operands,okv (fun b=>H' b≠none) (evO env x))
  (h:effOf P nh m env H K o=some e):effOf P nh m env H' K' o=some e:=by
 cases o <;> simp only[Op.operands]at hE hC <;> simp only[effOf]at h ⊢ <;> try exact h
 case load t x=>
  obtain⟨v,hv,h⟩:=ob_eq h
  rw[ldv_frame (hC rfl x (by simp)) (hE x (by simp)) hv]
  exact h
 case store t x y=>
  obtain⟨v,hv,h⟩:=ob_eq h
  rw[stv_frame (hC rfl x (by simp)) (hE x (by simp)) hv]
  exact h
 case indexAddr t x i=>
  obtain⟨v,hv,h⟩:=ob_eq h
  rw[iav_frame hS (hE x (by simp)) hv]
  exact h
 case slice t x lo hi mx=>
  obtain⟨v,hv,h⟩:=ob_eq h
  rw[slv_frame hS (hE x (by simp)) hv]
  exact h
 case call c=>exact callv_frame hK h
 case makeFunc fn first caps=>
  cases fn with
  |func g=>exact h
  |_=>simp at h
theorem okL_evL {p:Nat→Prop}:∀{l:List Operand},(∀ x ∈ l,okv p (evO env x))→okL p (evL env l)
 | [],_=>trivial
 |x::r,h=>⟨h x (List.mem_cons_self ..),okL_evL fun y hy=>h y (List.mem_cons_of_mem _ hy)⟩
theorem okL_append {p:Nat→Prop}:∀{l r:List AV},okL p l→okL p r→okL p (l++r)
 | [],_,_,h=>h
 |_::_,_,h,h'=>⟨h.1,okL_append h.2 h'⟩
theorem callv_args {md:Nat} {p:Nat→Prop} {c:Call} {g:FuncId} {args:List AV} (hE:∀x ∈ c.operands,okv p (evO env x)) (h:callv P md K env c=some (.call g args)):okL p args∧rdC (.call c)=true:=by
 obtain⟨callee,as,ts⟩:=c
 cases callee with
 |value v=>
  unfold callv at h
  simp only at h
  split at h
  ·rename_i g' caps hv
   cases h
   refine⟨okL_append (okL_evL fun x hx=>hE x (by simp[Call.operands];exact .inr (by simpa using hx))) ?_,rfl⟩
   have:=hE v (by simp[Call.operands])
   rw[hv]at this
   simpa[okv] using this
  ·simp at h
  ·simp at h
 |invoke r mm=>
  unfold callv at h
  simp only at h
  split at h
  ·rename_i t v hv
   obtain⟨g',_,h⟩:=ob_eq h
   cases h
   refine⟨⟨?_,okL_evL fun x hx=>hE x (by simp[Call.operands];exact .inr (by simpa using hx))⟩,rfl⟩
   have:=hE r (by simp[Call.operands])
   rw[hv]at this
   simpa[okv] using this
  ·simp at h
 |builtin b=>
  exfalso
  unfold callv at h
  dsimp only at h
  generalize as.toList=l at h
  split at h
  ·rename_i heq;cases heq
  ·rename_i heq;cases heq
  ·obtain⟨z,hz,h⟩:=ob_eq h
   obtain⟨z,hz,h⟩:=ob_eq h
   cases h
  ·obtain⟨z,hz,h⟩:=ob_eq h
   rcases appv_cases h with(⟨sz,rows,h⟩ |⟨k,wn,h⟩) |⟨i,sz,rows,h,_⟩ <;> cases h
  ·obtain⟨z,hz,h⟩:=ob_eq h
   cases h
  ·obtain⟨z,hz,h⟩:=ob_eq h
   cases h
  ·simp at h
theorem call_args {p:Nat→Prop} {o:Op} {g:FuncId} {args:List AV} (hE:∀x ∈ o.operands,okv p (evO env x)) (h:effOf P nh m env H K o=some (.call g args)):okL p args∧rdC o=true:=by
 rcases effOf_cases h with⟨v,h⟩ |⟨k,wn,h⟩ |⟨t,x,y,q,_,h,hp⟩ |⟨c,rfl,hc⟩ |⟨v,h⟩
 ·cases h
 ·cases h
 ·cases h
 ·exact callv_args hE hc
 ·cases h
end
section
variable {X:Ctx} {cl:CallFn} {f:FuncId} {nh:Nat} {ops:Array Oper}
structure Alike (ops:Array Oper) (o:Oper) (A A':FS):Prop where
 env:∀t ∈ o.looksAt ops,A'.env t=A.env t
 C:rdC o.op=true→∀t ∈ o.looksAt ops,okv (SameC A.H A'.H) (A.env t)
 S:SameS A.H A'.H
 K:rdK o.op=true→A'.K=A.K
 E:∀t ∈ o.looksAt ops,okv (fun b=>A'.H b≠none) (A.env t)
theorem evO_eq {env env':Nat→AV} {x:Operand} (h:∀t,x= .tmp t→env' t=env t):evO env' x=evO env x:=by
 cases x with
 |tmp t=>exact h t rfl
 |const v=>
  cases v with
  |slice a n c=>cases a <;> cases n <;> cases c <;> rfl
  |pointer q=>cases q <;> rfl
  |_=>rfl
 |_=>rfl
theorem okv_evO {p:Nat→Prop} {env:Nat→AV} {x:Operand} (h:∀t,x= .tmp t→okv p (env t)):okv p (evO env x):=by
 cases x with
 |tmp t=>exact h t rfl
 |const v=>
  cases v with
  |slice a n c=>cases a <;> cases n <;> cases c <;> trivial
  |pointer q=>cases q <;> trivial
  |_=>trivial
 |_=>trivial
theorem mem_looksAt {o:Oper} {t:Nat} (h: .tmp t ∈ o.op.operands):t ∈ o.looksAt ops:=by
 unfold Oper.looksAt
 exact List.mem_append_left _ (List.mem_filterMap.2 ⟨.tmp t,by simpa using h,rfl⟩)
theorem Acts.frame {A A':FS} {x:Ent} (h:Acts X cl f nh A x) (ha:Alike ops x.o A A'):Acts X cl f nh A' x:=by
 obtain⟨e,he,hx⟩:=h
 have hop:∀y ∈ x.o.op.operands,okv (fun b=>A'.H b≠none) (evO A.env y):=fun y hy=>okv_evO fun t ht=>ha.E t (mem_looksAt (by rw[←ht];exact hy))
 have hopC:rdC x.o.op=true→∀y ∈ x.o.op.operands,okv (SameC A.H A'.H) (evO A.env y):=fun hr y hy=>okv_evO fun t ht=>ha.C hr t (mem_looksAt (by rw[←ht];exact hy))
 have he':=effOf_frame hopC ha.S ha.K hop he
 rw[←effOf_congr (env':=A'.env) fun y hy=>evO_eq fun t ht=>ha.env t (mem_looksAt (by rw[←ht];exact hy))]at he'
 refine⟨e,he',?_⟩
 rcases hx with hx |⟨g,args,r,⟨rfl,hg⟩,hc,hr,hx⟩
 ·exact .inl hx
 ·obtain⟨hargs,hrd⟩:=call_args hop he
  have hfr:=freezeL_frame args hc (call_args (hopC hrd) he).1 hargs
  exact .inr ⟨g,args,r,⟨rfl,hg⟩,by rw[hfr];exact hc,by rw[hfr];exact hr,hx⟩
theorem Did.frame {A A':FS} {x:Ent} (h:Did X cl f nh ops.toList A x) (ha:Alike ops x.o A A'):Did X cl f nh ops.toList A' x:=by
 obtain⟨g,hg,h⟩:=h
 refine⟨g,hg,?_⟩
 cases g with
 |none=>exact Acts.frame h ha
 |some dw=>
  obtain⟨d,want⟩:=dw
  obtain⟨b,hb,h⟩:=h
  have hd:d ∈ x.o.looksAt ops:=by
   unfold guardOf at hg
   cases hgo:x.o.guard with
   |none=>rw[hgo]at hg;cases hg
   |some jw=>
    obtain⟨j,w⟩:=jw
    rw[hgo]at hg
    simp only at hg
    obtain⟨q,hq,hg⟩:=ob_eq hg
    obtain⟨d',hd,hg⟩:=ob_eq hg
    cases hg
    unfold Oper.looksAt
    refine List.mem_append_right _ ?_
    have hq':ops[j]? =some q:=by simpa using hq
    simp[hgo,hq',hd]
  refine⟨b,by simp only[ha.env d hd];exact hb,?_⟩
  split at h
  ·rename_i hbw
   rw[if_pos hbw]
   exact Acts.frame h ha
  ·rename_i hbw
   rw[if_neg hbw]
   exact h
end
end Go.Sym
end
section
namespace Go.Sym
open Go.RowKit
def isStore:Op→Bool
 | .store .. =>true
 |_=>false
def wrK:Op→Bool
 | .call c=>match c.callee with | .value _=>true | .invoke .. =>true | .builtin .append=>true |_=>false
 |_=>false
def compat (o p:Op):Bool:= !(isStore o&&rdC p)&& !(isStore p&&rdC o)&& !(wrK o&&wrK p)
inductive Anc (ops:Array Oper):Nat→Nat→Prop
 |edge {j:Nat} {o:Oper} {e:Edge}:ops[j]? =some o→e ∈ o.after→Region.binds .any e=true→Anc ops e.on j
 |trans {i j:Nat} {o:Oper} {e:Edge}:ops[j]? =some o→e ∈ o.after→Region.binds .any e=true→Anc ops i e.on→Anc ops i j
structure DrawOK (ops:Array Oper) (sp:Nat→Nat→Prop):Prop where
 back:∀(j:Nat) o (e:Edge),ops[j]? =some o→e ∈ o.after→Region.binds .any e=true→e.on < j
 pair:∀(i j:Nat) oi oj,i≠j→ops[i]? =some oi→ops[j]? =some oj→Anc ops i j∨Anc ops j i∨(Oper.apart ops oi oj=true∧(compat oi.op oj.op=true∨sp i j∨sp j i))
def upto (T:List Ent) (A0:FS) (i:Nat):FS:=runF (fun j=>decide (j < i)) T A0
def Ent.isNew (x:Ent):Prop:=∃k wn,x.e= .new k wn
structure Trace (X:Ctx) (cl:CallFn) (f:FuncId) (nh:Nat) (ops:Array Oper) (sp:Nat→Nat→Prop) (lo:Nat) (T:List Ent) (A0:FS) (b0:Nat) (Z:Nat→Nat):Prop where
 idx:T.map (·.i)=List.range' lo T.length
 op:∀x ∈ T,ops[x.i]? =some x.o
 did:∀x ∈ T,Did X cl f nh ops.toList (upto T A0 x.i) x
 dom:∀x ∈ T,∀b,(upto T A0 x.i).H b≠none↔b < x.b
 doK:∀x ∈ T,∀t,(upto T A0 x.i).K t≠none↔t < x.t
 dom0:∀b,A0.H b≠none↔b < b0
 le0:∀x ∈ T,b0≤x.b
 mono:∀x ∈ T,∀y ∈ T,x.i < y.i→x.b≤y.b∧(x.isNew→x.b < y.b)
 sz0:∀b k,A0.H b=some k→k.sz=Z b
 sz:∀x ∈ T,∀b k,x.cH=some (b,some k)→k.sz=Z b
 sep:∀x ∈ T,∀y ∈ T,sp x.i y.i→wrK x.o.op=false∧isStore x.o.op=false∧wrK y.o.op=false∧
  ∀b k,y.e= .upd b k→∀t ∈ x.o.looksAt ops,okv (fun c=>c≠b) ((upto T A0 x.i).env t)
section
variable {X:Ctx} {cl:CallFn} {f:FuncId} {nh:Nat} {ops:Array Oper} {sp:Nat→Nat→Prop} {lo:Nat} {T:List Ent} {A0:FS} {b0:Nat} {Z:Nat→Nat}
theorem Acts.upd {A:FS} {x:Ent} (h:Acts X cl f nh A x) {b:Nat} {k:Blk} (hx:x.e= .upd b k):isStore x.o.op=true∧A.H b≠none:=by
 obtain⟨e,he,⟨_,rfl⟩ |⟨g,args,r,_,_,_,hr⟩⟩:=h
 ·rw[hx]at he
  refine⟨?_,effOf_upd he⟩
  rcases effOf_cases he with⟨v,h⟩ |⟨k,wn,h⟩ |⟨t,x,y,p,ho,h,hp⟩ |⟨c,_,h⟩ |⟨v,h⟩
  ·cases h
  ·cases h
  ·rw[ho];rfl
  ·rcases callv_cases h with(⟨g,as,h⟩ |⟨g,as,h⟩) |⟨v,h⟩ | (⟨sz,rows,h⟩ |⟨k,wn,h⟩) |⟨i,sz,rows,h,_⟩ <;> cases h
  ·cases h
 ·cases r with
  |ret v=>simp only[hx]at hr;cases hr
  |own sz rows=>simp only[hx]at hr;cases hr
  |panic v=>exact hr.elim
theorem callv_tok {P:Program} {md:Nat} {K:Nat→Option Nat} {env:Nat→AV} {c:Call} {e:Eff} (h:callv P md K env c=some e) (hx:(∃ g as,e= .call g as)∨(∃ sz rows,e= .ntok sz rows)∨∃t sz rows,e= .stok t sz rows):wrK (.call c)=true:=by
 obtain⟨callee,as,ts⟩:=c
 cases callee with
 |value v=>rfl
 |invoke r m=>rfl
 |builtin b=>
  unfold callv at h
  dsimp only at h
  generalize as.toList=l at h
  split at h
  ·rename_i heq;cases heq
  ·rename_i heq;cases heq
  ·obtain⟨z,hz,h⟩:=ob_eq h
   obtain⟨z,hz,h⟩:=ob_eq h
   cases h
   rcases hx with⟨_,_,h⟩ |⟨_,_,h⟩ |⟨_,_,_,h⟩ <;> cases h
  ·rename_i heq
   cases heq
   rfl
  ·obtain⟨z,hz,h⟩:=ob_eq h
   cases h
   rcases hx with⟨_,_,h⟩ |⟨_,_,h⟩ |⟨_,_,_,h⟩ <;> cases h
  ·obtain⟨z,hz,h⟩:=ob_eq h
   cases h
   rcases hx with⟨_,_,h⟩ |⟨_,_,h⟩ |⟨_,_,_,h⟩ <;> cases h
  ·simp at h
theorem effOf_tok {P:Program} {m:Nat} {K:Nat→Option Nat} {H:Nat→Option Blk} {env:Nat→AV} {o:Op} {e:Eff} (h:effOf P nh m env H K o=some e)
  (hx:(∃ g as,e= .call g as)∨(∃ sz rows,e= .ntok sz rows)∨∃t sz rows,e= .stok t sz rows):wrK o=true:=by
 rcases effOf_cases h with⟨v,h⟩ |⟨k,wn,h⟩ |⟨t,x,y,p,ho,h,hp⟩ |⟨c,rfl,h⟩ |⟨v,h⟩
 ·subst h;rcases hx with⟨_,_,h⟩ |⟨_,_,h⟩ |⟨_,_,_,h⟩ <;> cases h
 ·subst h;rcases hx with⟨_,_,h⟩ |⟨_,_,h⟩ |⟨_,_,_,h⟩ <;> cases h
 ·subst h;rcases hx with⟨_,_,h⟩ |⟨_,_,h⟩ |⟨_,_,_,h⟩ <;> cases h
 ·exact callv_tok h hx
 ·subst h;rcases hx with⟨_,_,h⟩ |⟨_,_,h⟩ |⟨_,_,_,h⟩ <;> cases h
theorem Acts.tok {A:FS} {x:Ent} (h:Acts X cl f nh A x) (hx:x.cK≠none):wrK x.o.op=true:=by
 have hx':(∃ sz rows,x.e= .ntok sz rows)∨∃t sz rows,x.e= .stok t sz rows:=by
  unfold Ent.cK at hx
  split at hx
  ·exact .inl ⟨_,_,by assumption⟩
  ·exact .inr ⟨_,_,_,by assumption⟩
  ·exact absurd rfl hx
 obtain⟨e,he,⟨_,rfl⟩ |⟨g,args,r,⟨rfl,_⟩,_,_,hr⟩⟩:=h
 ·exact effOf_tok he (.inr hx')
 ·exact effOf_tok he (.inl ⟨g,args,rfl⟩)
theorem Did.upd {A:FS} {x:Ent} (h:Did X cl f nh ops.toList A x) {b:Nat} {k:Blk} (hx:x.e= .upd b k):isStore x.o.op=true∧A.H b≠none:=by
 obtain⟨g,_,h⟩:=h
 cases g with
 |none=>exact Acts.upd h hx
 |some dw=>
  obtain⟨b',_,h⟩:=h
  split at h
  ·exact Acts.upd h hx
  ·rw[hx]at h;cases h
theorem Did.tok {A:FS} {x:Ent} (h:Did X cl f nh ops.toList A x) (hx:x.cK≠none):wrK x.o.op=true:=by
 obtain⟨g,_,h⟩:=h
 cases g with
 |none=>exact Acts.tok h hx
 |some dw=>
  obtain⟨b',_,h⟩:=h
  split at h
  ·exact Acts.tok h hx
  ·simp[Ent.cK,h]at hx
theorem Anc.lt (hs:DrawOK ops sp) {i j:Nat} (h:Anc ops i j):i < j:=by
 induction h with
 |edge ho he hb=>exact hs.back _ _ _ ho he hb
 |trans ho he hb _ ih=>exact Nat.lt_trans ih (hs.back _ _ _ ho he hb)
theorem Anc.inv {i j:Nat} (h:Anc ops i j):∃o e,ops[j]? =some o∧e ∈ o.after∧Region.binds .any e=true∧(i=e.on∨Anc ops i e.on):=by
 cases h with
 |edge ho he hb=>exact⟨_,_,ho,he,hb,.inl rfl⟩
 |trans ho he hb h=>exact⟨_,_,ho,he,hb,.inr h⟩
def Down (ops:Array Oper) (D:Nat→Bool):Prop:=∀(j:Nat) o (e:Edge),ops[j]? =some o→D j=true→e ∈ o.after→Region.binds .any e=true→D e.on=true
theorem Anc.down {D:Nat→Bool} (hD:Down ops D) {i j:Nat} (h:Anc ops i j) (hj:D j=true):D i=true:=by
 induction h with
 |edge ho he hb=>exact hD _ _ _ ho hj he hb
 |trans ho he hb _ ih=>exact ih (hD _ _ _ ho hj he hb)
theorem runG_val {α:Type} {c:Ent→Option (Nat×α)} {D:Nat→Bool} {t:Nat} {v:α}:∀(T:List Ent) (f:Nat→α),runG c D T f t=v→f t=v∨∃x ∈ T,c x=some (t,v)
 | [],f,h=>.inl h
 |x::r,f,h=>by
  simp only[runG]at h
  rcases runG_val r _ h with h |⟨y,hy,hv⟩
  ·split at h
   ·by_cases hk:∃u,c x=some (t,u)
    ·obtain⟨u,hu⟩:=hk
     rw[hu,upd1_same]at h
     exact .inr ⟨x,List.mem_cons_self ..,by rw[hu,h]⟩
    ·rw[upd1_ne f (fun v hv=>hk ⟨v,hv⟩)]at h
     exact .inl h
   ·exact .inl h
  ·exact .inr ⟨y,List.mem_cons_of_mem _ hy,hv⟩
theorem cH_cases {x:Ent} {b:Nat} {v:Option Blk} (h:x.cH=some (b,v)):(x.isNew∧x.b=b)∨∃k,x.e= .upd b k:=by
 unfold Ent.cH at h
 split at h
 ·rename_i k wn he
  cases h
  exact .inl ⟨⟨k,wn,he⟩,rfl⟩
 ·rename_i c k he
  cases h
  exact .inr ⟨k,he⟩
 ·cases h
theorem apart_dst {o p:Oper} (h:Oper.apart ops o p=true):(∀ d,p.dst=some d→d ∉ o.looksAt ops)∧(∀ d,o.dst=some d→p.dst≠some d):=
 ⟨(Oper.apart_spec h).2.2,(Oper.apart_spec h).2.1⟩
def DomOK (T:List Ent) (A0:FS) (b0:Nat) (D:Nat→Bool):Prop:=∀b,(runF D T A0).H b≠none→b < b0∨∃y ∈ T,D y.i=true∧y.isNew∧y.b=b
section
variable (hs:DrawOK ops sp) (hT:Trace X cl f nh ops sp lo T A0 b0 Z) {D:Nat→Bool} (hD:Down ops D) {x:Ent} (hx:x ∈ T) (hi:D x.i=false)
 (hr:∀(e:Edge),e ∈ x.o.after→Region.binds .any e=true→D e.on=true)
include hs hT hD hx hi hr
theorem diff_free {y:Ent} (hy:y ∈ T) (hne:D y.i≠decide (y.i < x.i)):y.i≠x.i∧Oper.apart ops x.o y.o=true∧(compat x.o.op y.o.op=true∨sp x.i y.i∨sp y.i x.i):=by
 have hyi:y.i≠x.i:=fun e=>hne (by rw[e,hi];simp)
 refine⟨hyi,?_⟩
 rcases hs.pair x.i y.i x.o y.o (Ne.symm hyi) (hT.op x hx) (hT.op y hy)with h |h |h
 ·exfalso
  have hlt:=h.lt hs
  have:D y.i=true:=by
   cases hd:D y.i with
   |true=>rfl
   |false=>exact absurd (by rw[hd];simp;omega) hne
  exact absurd (h.down hD this) (by rw[hi];simp)
 ·exfalso
  have hlt:=h.lt hs
  have hd:D y.i=true:=by
   obtain⟨o,e,ho,he,hb,h'⟩:=h.inv
   rw[hT.op x hx]at ho
   cases ho
   rcases h' with h' |h'
   ·rw[h'];exact hr e he hb
   ·exact h'.down hD (hr e he hb)
  exact hne (by rw[hd];simp[hlt])
 ·exact h
theorem later_free {y:Ent} (hy:y ∈ T) (hd:D y.i=true) (hlt:x.i < y.i):Oper.apart ops x.o y.o=true∧(compat x.o.op y.o.op=true∨sp x.i y.i∨sp y.i x.i):=
 (diff_free hs hT hD hx hi hr hy (by rw[hd];simp;omega)).2
theorem draw_K (hw:wrK x.o.op=true):(runF D T A0).K=(upto T A0 x.i).K:=by
 rw[upto,runF_eq,runF_eq]
 funext t
 refine runG_agree T _ _ (fun y hy hne v hv=>?_) rfl
 obtain⟨_,_,hc⟩:=diff_free hs hT hD hx hi hr hy hne
 have:=(hT.did y hy).tok (by rw[hv];simp)
 rcases hc with hc |hc |hc
 ·simp[compat,hw,this]at hc
 ·rw[(hT.sep x hx y hy hc).1]at hw;cases hw
 ·rw[(hT.sep y hy x hx hc).1]at this;cases this
theorem draw_alike {base nt:Nat} {dl:Option (List Deferred)} {L0:Lay} {w0:World} {L:Lay} {a:Act} {w:World} (hat:Atf L0 w0 base nt dl (runF D T A0) L a w):Alike ops x.o (upto T A0 x.i) (runF D T A0):=by
 have henv:∀t ∈ x.o.looksAt ops,(runF D T A0).env t=(upto T A0 x.i).env t:=by
  intro t ht
  rw[upto,runF_eq,runF_eq]
  refine runG_agree T _ _ (fun y hy hne v hv=>?_) rfl
  obtain⟨_,hap,_⟩:=diff_free hs hT hD hx hi hr hy hne
  cases hdst:y.o.dst with
  |none=>simp[Ent.cE,hdst]at hv
  |some d=>
   simp only[Ent.cE,hdst,Option.map_some,Option.some.injEq,Prod.mk.injEq]at hv
   exact(apart_dst hap).1 d hdst (by rw[hv.1];exact ht)
 refine⟨henv,fun hrd t ht=>okv_of _ fun b hb k k' hk hk'=>?_,fun b k k' hk hk'=>?_,fun hK=>?_,fun t ht=>?_⟩
 ·have:=runG_both (D:=D) (D':=fun j=>decide (j < x.i)) (b:=b) T A0.H A0.H (by rw[hT.idx];exact List.pairwise_lt_range') (fun y hy hne v hv=>?_) (fun y hy z hz hlt hn hb v hv=>?_) ?_ (.inl rfl)
  ·rw[upto,runF_eq]at hk
   rw[runF_eq]at hk'
   simp only at hk hk'
   rw[hk,hk']at this
   rcases this with h |h |h
   ·exact Option.some.inj h
   ·cases h
   ·cases h
  ·rcases cH_cases hv with⟨hn,hb⟩ |⟨k,he⟩
   ·exact⟨hb,hn⟩
   ·obtain⟨_,_,hc⟩:=diff_free hs hT hD hx hi hr hy hne
    have:=((hT.did y hy).upd he).1
    rcases hc with hc |hc |hc
    ·simp[compat,hrd,this]at hc
    ·exact(hb ((hT.sep x hx y hy hc).2.2.2 b k he t ht)).elim
    ·rw[(hT.sep y hy x hx hc).2.1]at this;cases this
  ·rcases cH_cases hv with⟨hn',hb'⟩ |⟨k,he⟩
   ·have:=(hT.mono y hy z hz hlt).2 hn'
    omega
   ·have h1:=(hT.dom y hy b).1 ((hT.did y hy).upd he).2
    have:=(hT.mono y hy z hz hlt).1
    omega
  ·rintro⟨y,hy,hb,_⟩
   have h0:A0.H b=none:=by
    cases h:A0.H b with
    |none=>rfl
    |some k=>
     have h1:=(hT.dom0 b).1 (by rw[h];simp)
     have:=hT.le0 y hy
     omega
   exact⟨h0,h0⟩
 ·have val:∀(D:Nat→Bool) k,(runF D T A0).H b=some k→k.sz=Z b:=fun D k h=>by
   rw[runF_eq]at h
   rcases runG_val T _ h with h |⟨y,hy,hv⟩
   ·exact hT.sz0 b k h
   ·exact hT.sz y hy b k hv
  rw[val _ k' hk',val _ k hk]
 ·refine draw_K hs hT hD hx hi hr ?_
  cases hop:x.o.op <;> rw[hop]at hK <;> simp only[rdK,wrK]at hK ⊢ <;> try (cases hK;done)
  split at hK
  ·rename_i he;rw[he]
  ·cases hK
 ·rw[←henv t ht]
  refine Rep.okv (fun b p hb=>?_) _ _ (hat.env t)
  obtain⟨k,hk,_⟩:=hat.inv.dom' b p.1 p.2 hb
  rw[hk]
  simp
theorem draw_new (hdom:DomOK T A0 b0 D) (hn:x.isNew):(runF D T A0).H x.b=none:=by
 cases h:(runF D T A0).H x.b with
 |none=>rfl
 |some k=>
  exfalso
  rcases hdom x.b (by rw[h];simp)with h |⟨y,hy,hd,hyn,hb⟩
  ·have:=hT.le0 x hx;omega
  ·have hne:y.i≠x.i:=by intro e;rw[e,hi]at hd;cases hd
   rcases Nat.lt_or_gt_of_ne hne with hlt |hlt
   ·have:=(hT.mono y hy x hx hlt).2 hyn;omega
   ·have:=(hT.mono x hx y hy hlt).2 hn;omega
theorem draw_do (hdom:DomOK T A0 b0 D) {D':Nat→Bool} (hi':D' x.i=true) (hD':∀j,j≠x.i→D' j=D j):(runF D T A0).do x=runF D' T A0:=by
 have hp:(T.map (·.i)).Pairwise (· < ·):=by rw[hT.idx];exact List.pairwise_lt_range'
 have hnd:(T.map (·.i)).Nodup:=by rw[hT.idx];exact List.nodup_range'
 rw[runF_eq D,runF_eq D']
 simp only[FS.do]
 congr 1
 ·refine(runG_insert hi hi' hD' T _ hnd hx (fun y hy hd hlt k v u hk hu=>?_) hp).symm
  obtain⟨hap,_⟩:=later_free hs hT hD hx hi hr hy hd hlt
  cases hdst:y.o.dst with
  |none=>simp[Ent.cE,hdst]at hu
  |some d=>
   cases hdst':x.o.dst with
   |none=>simp[Ent.cE,hdst']at hk
   |some d'=>
    simp only[Ent.cE,hdst,hdst',Option.map_some,Option.some.injEq,Prod.mk.injEq]at hu hk
    exact(apart_dst hap).2 d' hdst' (by rw[hdst,hu.1,hk.1])
 ·refine(runG_insert hi hi' hD' T _ hnd hx (fun y hy hd hlt k v u hk hu=>?_) hp).symm
  obtain⟨_,hc⟩:=later_free hs hT hD hx hi hr hy hd hlt
  rcases cH_cases hk with⟨hn,hb⟩ |⟨k1,he⟩ <;> rcases cH_cases hu with⟨hn',hb'⟩ |⟨k2,he'⟩
  ·have:=(hT.mono x hx y hy hlt).2 hn;omega
  ·have h1:(runF D T A0).H k≠none:=by
    rw[runF_eq]
    exact runG_stays cH_some T _ (.inr ⟨y,hy,hd,u,hu⟩)
   have:=draw_new hs hT hD hx hi hr hdom hn
   rw[hb]at this
   exact h1 this
  ·have h1:=(hT.dom x hx k).1 ((hT.did x hx).upd he).2
   have:=(hT.mono x hx y hy hlt).1
   omega
  ·have h1:=((hT.did x hx).upd he).1
   have h2:=((hT.did y hy).upd he').1
   have h3:rdC y.o.op=true:=by cases hop:y.o.op <;> rw[hop]at h2 <;> simp[isStore]at h2;rfl
   rcases hc with hc |hc |hc
   ·simp[compat,h1,h3]at hc
   ·rw[(hT.sep x hx y hy hc).2.1]at h1;cases h1
   ·rw[(hT.sep y hy x hx hc).2.1]at h2;cases h2
 ·refine(runG_insert hi hi' hD' T _ hnd hx (fun y hy hd hlt k v u hk hu=>?_) hp).symm
  obtain⟨_,hc⟩:=later_free hs hT hD hx hi hr hy hd hlt
  have h1:=(hT.did x hx).tok (by rw[hk];simp)
  have h2:=(hT.did y hy).tok (by rw[hu];simp)
  rcases hc with hc |hc |hc
  ·simp[compat,h1,h2]at hc
  ·rw[(hT.sep x hx y hy hc).1]at h1;cases h1
  ·rw[(hT.sep y hy x hx hc).1]at h2;cases h2
end
end
end Go.Sym
end
section
namespace Go.Sym
open Go.RowKit
theorem runF_congr {D D':Nat→Bool}:∀(T:List Ent) (A:FS),(∀ x ∈ T,D x.i=D' x.i)→runF D T A=runF D' T A
 | [],_,_=>rfl
 |x::r,A,h=>by
  simp only[runF]
  rw[h x (List.mem_cons_self ..)]
  exact runF_congr r _ fun y hy=>h y (List.mem_cons_of_mem _ hy)
theorem filter_lt {α:Type} {p q:α→Bool}:∀(l:List α),(∀ x ∈ l,q x=true→p x=true)→(∃ x ∈ l,p x=true∧q x=false)→(l.filter q).length < (l.filter p).length
 | [],_,h=>by obtain⟨x,hx,_⟩:=h;cases hx
 |y::r,hpq,h=>by
  have hle:(r.filter q).length≤(r.filter p).length:=by
   clear h
   have hpq':∀x ∈ r,q x=true→p x=true:=fun x hx=>hpq x (List.mem_cons_of_mem _ hx)
   clear hpq
   induction r with
   |nil=>simp
   |cons z r ih=>
    have:=ih fun x hx=>hpq' x (List.mem_cons_of_mem _ hx)
    have hz:=hpq' z (List.mem_cons_self ..)
    simp only[List.filter_cons]
    split
    ·rename_i hq
     rw[if_pos (hz hq)]
     simp;omega
    ·split <;> simp <;> omega
  obtain⟨x,hx,hp,hq⟩:=h
  rcases List.mem_cons.1 hx with rfl |hx
  ·simp[List.filter_cons,hp,hq];omega
  ·have:=filter_lt r (fun x hx=>hpq x (List.mem_cons_of_mem _ hx)) ⟨x,hx,hp,hq⟩
   have hy:=hpq y (List.mem_cons_self ..)
   simp only[List.filter_cons]
   split
   ·rename_i hq
    rw[if_pos (hy hq)]
    simp;omega
   ·split <;> simp <;> omega
section
variable {X:Ctx} {cl:CallFn} {f:FuncId} {nh:Nat} {ops:Array Oper} {sp:Nat→Nat→Prop} {lo:Nat} {T:List Ent} {A0:FS} {b0:Nat} {Z:Nat→Nat}
def Dl (listed:Array Bool):Nat→Bool:=fun j=>listed.getD j false
def cnt (ops:Array Oper) (listed:Array Bool):Nat:=((List.range ops.size).filter fun j=> !listed.getD j true).length
theorem getD_eq {listed:Array Bool} {j:Nat} (h:j < listed.size):listed.getD j true=listed.getD j false:=by
 simp[Array.getD_eq_getD_getElem?,h]
theorem all_listed (hs:DrawOK ops sp) {listed:Array Bool} (hsz:listed.size=ops.size) (hr:Region.ready .any ops listed=[]):∀j,j < ops.size→listed.getD j true=true:=by
 intro j
 induction j using Nat.strongRecOn with
 |_ j ih=>
  intro hj
  cases h:listed.getD j true with
  |true=>rfl
  |false=>
   exfalso
   have:j ∈ Region.ready .any ops listed:=by
    rw[mem_ready]
    refine⟨h,ops[j],Array.getElem?_eq_getElem hj,fun e he hb=>?_⟩
    have hlt:=hs.back j _ e (Array.getElem?_eq_getElem hj) he hb
    rw[←getD_eq (by omega)]
    exact ih e.on hlt (by omega)
   rw[hr]at this
   cases this
theorem mem_of_idx (hT:Trace X cl f nh ops sp lo T A0 b0 Z) {i:Nat} (h1:lo≤i) (h2:i < lo+T.length):∃x ∈ T,x.i=i:=by
 have:i ∈ T.map (·.i):=by rw[hT.idx];exact List.mem_range'_1.2 ⟨h1,h2⟩
 simpa using this
theorem idx_of_mem (hT:Trace X cl f nh ops sp lo T A0 b0 Z) {x:Ent} (hx:x ∈ T):lo≤x.i∧x.i < lo+T.length:=by
 have:x.i ∈ T.map (·.i):=List.mem_map_of_mem hx
 rw[hT.idx]at this
 exact List.mem_range'_1.1 this
theorem draw_seg {ro:Option Nat} {n:Nat} {L0:Lay} {w0:World} {base nt:Nat} {dl:Option (List Deferred)} {Q:Exit→Act→World→Prop} (hP:ProgOK X.P) (hic:IcallsOK X cl) (hs:DrawOK ops sp) (hT:Trace X cl f nh ops sp lo T A0 b0 Z)
  (hle:lo+T.length≤ops.size) (hA:∀i j,i < lo+T.length→lo+T.length≤j→j < ops.size→Anc ops i j)
  (hd:∀(i:Nat) o x,ops[i]? =some o→o.dst=some x→x < nt)
  (hQ:∀fuel listed L a w,listed.size=ops.size→cnt ops listed≤fuel→(∀ j,Dl listed j=decide (j < lo+T.length))→Atf L0 w0 base nt dl (runF (fun _=>true) T A0) L a w→wpAnyIn (rf ro) n X.P .any ops Q fuel listed a w):
  ∀(fuel:Nat) (listed:Array Bool) (L:Lay) (a:Act) (w:World),listed.size=ops.size→cnt ops listed≤fuel→Down ops (Dl listed)→(∀ j,j < lo→Dl listed j=true)→(∀ j,lo+T.length≤j→Dl listed j=false)→
   DomOK T A0 b0 (Dl listed)→Atf L0 w0 base nt dl (runF (Dl listed) T A0) L a w→wpAnyIn (rf ro) n X.P .any ops Q fuel listed a w:=by
 have mem:∀x ∈ T,x.i < ops.size:=fun x hx=>by
  have:=idx_of_mem hT hx
  omega
 have fin:∀(fuel:Nat) (listed:Array Bool) L a w,listed.size=ops.size→cnt ops listed≤fuel→(∀ j,j < lo→Dl listed j=true)→(∀ j,lo+T.length≤j→Dl listed j=false)→
   (∀ j,lo≤j→j < lo+T.length→Dl listed j=true)→Atf L0 w0 base nt dl (runF (Dl listed) T A0) L a w→wpAnyIn (rf ro) n X.P .any ops Q fuel listed a w:=by
  intro fuel listed L a w hsz hc hlo hhi hall hat
  refine hQ fuel listed L a w hsz hc (fun j=>?_) ?_
  ·by_cases h1:j < lo
   ·rw[hlo j h1];simp;omega
   ·by_cases h2:j < lo+T.length
    ·rw[hall j (by omega) h2];simp[h2]
    ·rw[hhi j (by omega)];simp[h2]
  ·rw[runF_congr (D':=Dl listed) T A0 fun x hx=>?_]
   ·exact hat
   ·obtain⟨h1,h2⟩:=idx_of_mem hT hx
    exact(hall x.i h1 h2).symm
 intro fuel
 induction fuel with
 |zero=>
  intro listed L a w hsz hc hD hlo hhi hdom hat
  refine fin 0 listed L a w hsz hc hlo hhi (fun j h1 h2=>?_) hat
  have h0:(List.range ops.size).filter (fun j=> !listed.getD j true)=[]:=List.length_eq_zero_iff.1 (by unfold cnt at hc;omega)
  have:=List.filter_eq_nil_iff.1 h0 j (List.mem_range.2 (by omega))
  unfold Dl
  rw[←getD_eq (by omega)]
  simpa using this
 |succ fuel ih=>
  intro listed L a w hsz hc hD hlo hhi hdom hat
  by_cases hall:∀j,lo≤j→j < lo+T.length→Dl listed j=true
  ·exact fin _ listed L a w hsz hc hlo hhi hall hat
  obtain⟨j0,hj0⟩:∃j,lo≤j∧j < lo+T.length∧Dl listed j=false:=by
   apply Classical.byContradiction
   intro hno
   refine hall fun j h1 h2=>?_
   cases hj:Dl listed j with
   |true=>rfl
   |false=>exact absurd ⟨j,h1,h2,hj⟩ hno
  obtain⟨hj1,hj2,hj3⟩:=hj0
  refine⟨fun hr=>?_,fun i hi=>?_⟩
  ·have:=all_listed hs hsz hr j0 (by omega)
   rw[getD_eq (by omega)]at this
   have h':listed.getD j0 false=false:=hj3
   rw[h']at this
   cases this
  rw[mem_ready]at hi
  obtain⟨hun,o,ho,hpre⟩:=hi
  have hin:i < ops.size:=(Array.getElem?_eq_some_iff.1 ho).1
  have hunD:Dl listed i=false:=by
   unfold Dl
   rw[←getD_eq (by omega)]
   exact hun
  have hi1:lo≤i:=by
   apply Classical.byContradiction
   intro h
   rw[hlo i (by omega)]at hunD
   cases hunD
  have hi2:i < lo+T.length:=by
   apply Classical.byContradiction
   intro h
   obtain⟨o',e,ho',he,hb,h'⟩:=(hA j0 i hj2 (by omega) hin).inv
   rw[ho]at ho'
   cases ho'
   have hl:Dl listed e.on=true:=hpre e he hb
   rcases h' with h' |h'
   ·rw[h']at hj3;rw[hj3]at hl;cases hl
   ·have:=h'.down hD hl
    rw[hj3]at this
    cases this
  obtain⟨x,hx,rfl⟩:=mem_of_idx hT hi1 hi2
  have hxo:=hT.op x hx
  rw[ho]at hxo
  cases hxo
  have hDi:Dl listed x.i=false:=by
   unfold Dl
   rw[←getD_eq (by omega)]
   exact hun
  have hr:∀(e:Edge),e ∈ x.o.after→Region.binds .any e=true→Dl listed e.on=true:=fun e he hb=>hpre e he hb
  have hal:=draw_alike hs hT hD hx hDi hr hat
  have hdid:=(hT.did x hx).frame hal
  have hi':Dl (listed.setIfInBounds x.i true) x.i=true:=by
   unfold Dl
   have:x.i < listed.size:=by omega
   simp[this]
  have hD':∀j,j≠x.i→Dl (listed.setIfInBounds x.i true) j=Dl listed j:=fun j hj=>getD_set_ne false (Ne.symm hj)
  have hup:∀j,Dl listed j=true→Dl (listed.setIfInBounds x.i true) j=true:=fun j hj=>getD_set_true hj
  refine did_step hP hic hdid hat ho (fun d hdd=>hd _ _ _ ho hdd) (fun hn=>draw_new hs hT hD hx hDi hr hdom hn) (fun hn=>?_) fun L' a' w' hat'=>?_
  ·obtain⟨sz,rows,he⟩:=hn
   rw[draw_K hs hT hD hx hDi hr ((hT.did x hx).tok (by simp[Ent.cK,he]))]
   cases h:(upto T A0 x.i).K x.t with
   |none=>rfl
   |some k=>
    have:=(hT.doK x hx x.t).1 (by rw[h];simp)
    omega
  ·rw[draw_do hs hT hD hx hDi hr hdom hi' hD']at hat'
   refine ih _ L' a' w' (by simpa using hsz) ?_ ?_ (fun j hj=>hup j (hlo j hj)) (fun j hj=>by rw[hD' j (by omega)];exact hhi j hj) ?_ hat'
   ·have:cnt ops (listed.setIfInBounds x.i true) < cnt ops listed:=by
     refine filter_lt _ (fun j hj=>?_) ⟨x.i,List.mem_range.2 hin,by simpa using hun,?_⟩
     ·by_cases hji:x.i=j
      ·subst hji
       intro _
       simpa using hun
      ·rw[getD_set_ne true hji]
       exact id
     ·rw[getD_eq (by simp;omega)]
      have:(listed.setIfInBounds x.i true).getD x.i false=true:=hi'
      rw[this];rfl
    omega
   ·intro j o' e hj hDj he hb
    by_cases hji:j=x.i
    ·subst hji
     rw[ho]at hj
     cases hj
     exact hup _ (hr e he hb)
    ·rw[hD' j hji]at hDj
     exact hup _ (hD j o' e hj hDj he hb)
   ·intro b hb
    have old:(runF (Dl listed) T A0).H b≠none→b < b0∨∃y ∈ T,Dl (listed.setIfInBounds x.i true) y.i=true∧y.isNew∧y.b=b:=fun h=>by
     rcases hdom b h with h |⟨y,hy,hd,h⟩
     ·exact .inl h
     ·exact .inr ⟨y,hy,hup _ hd,h⟩
    rw[runF_eq]at hb
    rcases runG_some T _ hb with h |⟨y,hy,hd',v,hv⟩
    ·exact .inl ((hT.dom0 b).1 h)
    ·rcases cH_cases hv with⟨hn,hb'⟩ |⟨k,he⟩
     ·exact .inr ⟨y,hy,hd',hn,hb'⟩
     ·by_cases hyx:y.i=x.i
      ·have hyx':y=x:=by
        have hnd:(T.map (·.i)).Nodup:=by rw[hT.idx];exact List.nodup_range'
        have:∀(l:List Ent),(l.map (·.i)).Nodup→y ∈ l→x ∈ l→y=x:=by
         intro l
         induction l with
         |nil=>intro _ h _;cases h
         |cons z l ih=>
          intro hn hy hx
          simp only[List.map_cons,List.nodup_cons]at hn
          rcases List.mem_cons.1 hy with hy1 |hy1 <;> rcases List.mem_cons.1 hx with hx1 |hx1
          ·rw[hy1,hx1]
          ·exact absurd (by rw[←hy1,hyx];exact List.mem_map_of_mem hx1) hn.1
          ·exact absurd (by rw[←hx1,←hyx];exact List.mem_map_of_mem hy1) hn.1
          ·exact ih hn.2 hy1 hx1
        exact this T hnd hy hx
       subst hyx'
       exact old (hdid.upd he).2
      ·rw[hD' y.i hyx]at hd'
       refine old ?_
       rw[runF_eq]
       exact runG_stays cH_some T _ (.inr ⟨y,hy,hd',v,hv⟩)
end
end Go.Sym
end
section
namespace Go.Sym
open Go.RowKit
theorem runF_false:∀(T:List Ent) (A:FS),runF (fun _=>false) T A=A
 | [],_=>rfl
 |x::r,A=>by
  simp only[runF,Bool.false_eq_true,if_false]
  exact runF_false r A
section
variable {X:Ctx} {cl:CallFn} {f:FuncId} {ops:Array Oper}
inductive Chain (X:Ctx) (cl:CallFn) (f:FuncId) (ops:Array Oper):Nat→List Ent→St→St→Prop
 |nil {i:Nat} {s:St}:Chain X cl f ops i [] s s
 |cons {x:Ent} {r:List Ent} {s s1 s':St}:ops[x.i]? =some x.o→Did X cl f s.nh ops.toList s.fs x→x.b=s.heap.length→x.t=s.toks.length→s1.fs=s.fs.do x→s1.nh=s.nh→
   Chain X cl f ops (x.i+1) r s1 s'→Chain X cl f ops x.i (x::r) s s'
def Cuts (X:Ctx) (f:FuncId) (ops:List Oper) (o:Oper) (s:St):Prop:=
 X.cut f (o.dst.getD 0)=true∧∃g,guardOf ops o=some g∧∀d want,g=some (d,want)→gsays (get s.env d) want=some true
theorem evs_chain:∀(r:List Oper) (i:Nat) (s:St) (out:Out),evs X cl f true ops.toList r s=some out→(∀ j o,r[j]? =some o→ops[i+j]? =some o)→
  ∃T s',Chain X cl f ops i T s s'∧((T.length=r.length∧out= .next s')∨
   ∃o r',r.drop T.length=o::r'∧Cuts X f ops.toList o s'∧opGo X cl f true o s' (evs X cl f true ops.toList r')=some out)
 | [],i,s,out,h,_=>by
  cases h
  exact⟨[],s,.nil,.inl ⟨rfl,rfl⟩⟩
 |o::r,i,s,out,h,ho=>by
  have ho0:ops[i]? =some o:=ho 0 o rfl
  have hr:∀j p,r[j]? =some p→ops[i+1+j]? =some p:=fun j p hj=>by
   have:=ho (j+1) p (by simpa using hj)
   rwa[show i+(j+1)=i+1+j by omega]at this
  simp only[evs]at h
  obtain⟨g,hg,h⟩:=ob_eq h
  have go:opGo X cl f true o s (evs X cl f true ops.toList r)=some out→X.cut f (o.dst.getD 0)=true∨
    ∃e s1,Acts X cl f s.nh s.fs ⟨i,o,e,s.heap.length,s.toks.length⟩∧s1.fs=s.fs.do ⟨i,o,e,s.heap.length,s.toks.length⟩∧s1.nh=s.nh∧evs X cl f true ops.toList r s1=some out:=fun h=>by
   obtain⟨e,he,hc⟩:=opGo_cases h
   rcases hc with⟨hp,s',hs,hk⟩ |⟨v,_,hd,_⟩ |⟨g,args,rfl,hgr,hcl,q,hq,hrest⟩ |⟨g,args,_,hd,_⟩
   ·have hf:=(St.ap_fs hs (fun b k hu=>by rw[hu]at he;exact effOf_upd he) (fun t sz rows hu=>by rw[hu]at he;exact effOf_stok he)).1
    refine .inr ⟨e,s',⟨e,he,.inl ⟨hp,rfl⟩⟩,by rw[FS.do_eq _ _ hp];exact hf,?_,hk⟩
    cases e with
    |new k wn=>cases wn <;> cases hs <;> exact St.put_nh _ _ _
    |pan v=>cases hs
    |call g as=>cases hs
    |round g as=>cases hs
    |_=>cases hs;exact St.put_nh _ _ _
   ·cases hd
   ·cases q with
    |ret v=>
     refine .inr ⟨.val v,_,⟨_,he,.inr ⟨g,args,.ret v,⟨rfl,hgr⟩,hcl,hq,rfl⟩⟩,?_,?_,hrest⟩
     ·rw[FS.do_eq _ _ rfl,St.fs_put]
      rfl
     ·exact St.put_nh _ _ _
    |own sz rows=>
     refine .inr ⟨.ntok sz rows,_,⟨_,he,.inr ⟨g,args,.own sz rows,⟨rfl,hgr⟩,hcl,hq,rfl⟩⟩,?_,?_,hrest⟩
     ·rw[FS.do_eq _ _ rfl,St.fs_put]
      simp only[St.fs,FS.put,FS.ap,St.H_eq,St.K_eq,lK_append]
     ·exact St.put_nh _ _ _
    |panic v=>exact .inl (by simpa using hrest.1)
   ·exact .inl (by simpa using hd)
  have done:∀e s1,Did X cl f s.nh ops.toList s.fs ⟨i,o,e,s.heap.length,s.toks.length⟩→s1.fs=s.fs.do ⟨i,o,e,s.heap.length,s.toks.length⟩→s1.nh=s.nh→evs X cl f true ops.toList r s1=some out→
    ∃T s',Chain X cl f ops i T s s'∧((T.length=(o::r).length∧out= .next s')∨
     ∃o' r',(o::r).drop T.length=o'::r'∧Cuts X f ops.toList o' s'∧opGo X cl f true o' s' (evs X cl f true ops.toList r')=some out):=fun e s1 hdid hf hn hk=>by
   obtain⟨T,s',hc,hend⟩:=evs_chain r (i+1) s1 out hk hr
   refine⟨_::T,s',.cons (x:=⟨i,o,e,s.heap.length,s.toks.length⟩) ho0 hdid rfl rfl hf hn hc,?_⟩
   rcases hend with⟨hl,hout⟩ |⟨o',r',h1,h2,h3⟩
   ·exact .inl ⟨by simp[hl],hout⟩
   ·exact .inr ⟨o',r',by simpa using h1,h2,h3⟩
  cases g with
  |none=>
   simp only at h
   rcases go h with hcut |⟨e,s1,ha,hf,hn,hk⟩
   ·exact⟨[],s,.nil,.inr ⟨o,r,rfl,⟨hcut,none,hg,fun d want hd=>by cases hd⟩,h⟩⟩
   ·exact done e s1 ⟨none,hg,ha⟩ hf hn hk
  |some dw=>
   obtain⟨d,want⟩:=dw
   simp only at h
   obtain⟨y,hy,h⟩:=ob_eq h
   split at h
   ·rename_i hbw
    rcases go h with hcut |⟨e,s1,ha,hf,hn,hk⟩
    ·exact⟨[],s,.nil,.inr ⟨o,r,rfl,⟨hcut,some (d,want),hg,fun d' want' hd=>by cases hd;rw[←hbw];exact hy⟩,h⟩⟩
    ·exact done e s1 ⟨some (d,want),hg,y,hy,by rw[if_pos hbw];exact ha⟩ hf hn hk
   ·rename_i hbw
    refine done (.val (.tup [])) _ ⟨some (d,want),hg,y,hy,by rw[if_neg hbw]⟩ ?_ (St.put_nh _ _ _) h
    rw[FS.do_eq _ _ rfl,St.fs_put]
    rfl
def SzLe (s s':St):Prop:=∀b k,s.H b=some k→∃k',s'.H b=some k'∧k'.sz=k.sz
theorem Did.updSz {nh:Nat} {A:FS} {x:Ent} (h:Did X cl f nh ops.toList A x) {b:Nat} {k:Blk} (hx:x.e= .upd b k):∃k0,A.H b=some k0∧k.sz=k0.sz:=by
 have acts:Acts X cl f nh A x→∃k0,A.H b=some k0∧k.sz=k0.sz:=by
  rintro⟨e,he,⟨_,rfl⟩ |⟨g,args,r,_,_,_,hr⟩⟩
  ·rw[hx]at he
   rcases effOf_cases he with⟨v,h⟩ |⟨k,wn,h⟩ |⟨t,x,y,p,ho,h,hp⟩ |⟨c,_,h⟩ |⟨v,h⟩
   ·cases h
   ·cases h
   ·cases h
    obtain⟨b,i,o,y,k,r,cs,_,_,hk,_,_,_,rfl⟩:=stv_some hp
    exact⟨k,hk,rfl⟩
   ·rcases callv_cases h with(⟨g,as,h⟩ |⟨g,as,h⟩) |⟨v,h⟩ | (⟨sz,rows,h⟩ |⟨k,wn,h⟩) |⟨i,sz,rows,h,_⟩ <;> cases h
   ·cases h
  ·cases r with
   |ret v=>simp only[hx]at hr;cases hr
   |own sz rows=>simp only[hx]at hr;cases hr
   |panic v=>exact hr.elim
 obtain⟨g,_,h⟩:=h
 cases g with
 |none=>exact acts h
 |some dw=>
  obtain⟨b',_,h⟩:=h
  split at h
  ·exact acts h
  ·rw[hx]at h;cases h
theorem step_len {nh:Nat} {s s1:St} {x:Ent} (hd:Did X cl f nh ops.toList s.fs x) (hb:x.b=s.heap.length) (hf:s1.fs=s.fs.do x):SzLe s s1∧s.heap.length≤s1.heap.length∧(x.isNew→s.heap.length < s1.heap.length)∧
  (∀ b k,x.cH=some (b,some k)→∃k',s1.H b=some k'∧k'.sz=k.sz):=by
 have hH:s1.H=upd1 s.H x.cH:=congrArg FS.H hf
 have hs:SzLe s s1:=by
  intro b k hk
  rw[hH]
  by_cases hc:∃v,x.cH=some (b,v)
  ·obtain⟨v,hv⟩:=hc
   rw[hv,upd1_same]
   rcases cH_cases hv with⟨hn,hb'⟩ |⟨k',he⟩
   ·exfalso
    have:s.H s.heap.length=none:=lH_none _
    rw[←hb,hb',hk]at this
    cases this
   ·have hv':v=some k':=by simp[Ent.cH,he]at hv;exact hv.symm
    obtain⟨k0,hk0,hz⟩:=hd.updSz he
    have:s.fs.H b=some k:=hk
    rw[this]at hk0
    cases hk0
    exact⟨k',hv',hz⟩
  ·exact⟨k,by rw[upd1_ne _ fun v hv=>hc ⟨v,hv⟩];exact hk,rfl⟩
 refine⟨hs,?_,?_,?_⟩
 ·cases hl:s.heap.length with
  |zero=>omega
  |succ n=>
   have hk:∃k,s.H n=some k:=⟨s.heap[n],List.getElem?_eq_getElem (by omega)⟩
   obtain⟨k,hk⟩:=hk
   obtain⟨k',hk',_⟩:=hs n k hk
   have:=lt_of_lH (H:=s1.heap) (b:=n) (by rw[←St.H_eq,hk'];simp)
   omega
 ·rintro⟨k,wn,he⟩
  refine lt_of_lH (H:=s1.heap) ?_
  rw[←St.H_eq,hH]
  simp[Ent.cH,he,←hb,upd1]
 ·intro b k hc
  rw[hH,hc,upd1_same]
  exact⟨k,rfl,rfl⟩
theorem Chain.facts {i:Nat} {T:List Ent} {s s':St} (h:Chain X cl f ops i T s s'):
  T.map (·.i)=List.range' i T.length∧s'.fs=runF (fun _=>true) T s.fs∧SzLe s s'∧s.heap.length≤s'.heap.length∧
  (∀ x ∈ T,ops[x.i]? =some x.o∧(∃ sx:St,upto T s.fs x.i=sx.fs∧Did X cl f s.nh ops.toList sx.fs x∧x.b=sx.heap.length∧x.t=sx.toks.length)∧s.heap.length≤x.b∧
   (∀ b k,x.cH=some (b,some k)→∃k',s'.H b=some k'∧k'.sz=k.sz))∧
  (∀ x ∈ T,∀y ∈ T,x.i < y.i→x.b≤y.b∧(x.isNew→x.b < y.b))∧s'.nh=s.nh:=by
 induction h with
 |nil=>
  refine⟨rfl,rfl,fun b k h=>⟨k,h,rfl⟩,Nat.le_refl _,?_,?_,rfl⟩
  ·intro x hx;cases hx
  ·intro x hx;cases hx
 |cons ho hd hb ht hf hn hc ih=>
  rename_i x r s s1 s'
  obtain⟨h1,h2,h3,h4,h5,h6,h7⟩:=ih
  obtain⟨l1,l2,l3,l4⟩:=step_len hd hb hf
  have later:∀y ∈ r,x.i < y.i:=fun y hy=>by
   have:y.i ∈ r.map (·.i):=List.mem_map_of_mem hy
   rw[h1]at this
   have:=List.mem_range'_1.1 this
   omega
  have hup:∀y ∈ r,upto (x::r) s.fs y.i=upto r s1.fs y.i:=fun y hy=>by
   simp only[upto,runF,decide_eq_true (later y hy),if_true,hf]
  refine⟨?_,?_,?_,by omega,?_,?_,by rw[h7,hn]⟩
  ·simp only[List.map_cons,List.length_cons,List.range'_succ,h1]
  ·simp only[runF,if_true,←hf]
   exact h2
  ·intro b k hk
   obtain⟨k1,hk1,e1⟩:=l1 b k hk
   obtain⟨k2,hk2,e2⟩:=h3 b k1 hk1
   exact⟨k2,hk2,e2.trans e1⟩
  ·intro y hy
   rcases List.mem_cons.1 hy with rfl |hy
   ·refine⟨ho,⟨s,?_,hd,hb,ht⟩,by omega,fun b k hk=>?_⟩
    ·have:runF (fun j=>decide (j < y.i)) r s.fs=runF (fun _=>false) r s.fs:=runF_congr _ _ fun z hz=>by
      have:=later z hz
      simp;omega
     simp only[upto,runF,Nat.lt_irrefl,decide_false,Bool.false_eq_true,if_false]
     rw[this]
     exact runF_false r s.fs
    ·obtain⟨k1,hk1,e1⟩:=l4 b k hk
     obtain⟨k2,hk2,e2⟩:=h3 b k1 hk1
     exact⟨k2,hk2,e2.trans e1⟩
   ·obtain⟨g1,⟨sx,g2,g3,g4,g5⟩,g6,g7⟩:=h5 y hy
    exact⟨g1,⟨sx,by rw[hup y hy];exact g2,by rw[←hn];exact g3,g4,g5⟩,by omega,g7⟩
  ·intro y hy z hz hlt
   rcases List.mem_cons.1 hy with hy1 |hy1 <;> rcases List.mem_cons.1 hz with hz1 |hz1
   ·rw[hy1,hz1]at hlt;omega
   ·have g6:=(h5 z hz1).2.2.1
    rw[hy1]
    exact⟨by omega,fun hn=>by have:=l3 hn;omega⟩
   ·have:=later y hy1;rw[hz1]at hlt;omega
   ·exact h6 y hy1 z hz1 hlt
def SpOK (ops:Array Oper) (l:List (Nat×Nat)) (i j:Nat):Prop:=∃oi oj t t' ti tj v,ops[i]? =some oi∧oi.op= .load t (.tmp ti)∧oi.guard=none∧ops[j]? =some oj∧oj.op= .store t' (.tmp tj) v∧(ti,tj) ∈ l∧
 (∀ k o,ops[k]? =some o→i≤k→o.dst≠some ti)∧(∀ k o,ops[k]? =some o→j≤k→o.dst≠some tj)
theorem Did.ptr {nh:Nat} {A:FS} {x:Ent} (h:Did X cl f nh ops.toList A x) {b:Nat} {k:Blk} (hx:x.e= .upd b k) {t:TypeId} {tj:Nat} {v:Operand} (hop:x.o.op= .store t (.tmp tj) v):∃i o,A.env tj= .ptr b i o:=by
 have acts:Acts X cl f nh A x→∃i o,A.env tj= .ptr b i o:=by
  rintro⟨e,he,⟨_,rfl⟩ |⟨g,args,r,⟨rfl,_⟩,_,_,hr⟩⟩
  ·rw[hx,hop]at he
   obtain⟨p,hp,he⟩:=ob_eq he
   cases he
   obtain⟨b,i,o,y,k,r,cs,hptr,_,_,_,_,_,rfl⟩:=stv_some hp
   exact⟨i,o,hptr⟩
  ·rw[hop]at he
   obtain⟨p,hp,he⟩:=ob_eq he
   cases he
 obtain⟨g,_,h⟩:=h
 cases g with
 |none=>exact acts h
 |some dw=>
  obtain⟨b',_,h⟩:=h
  split at h
  ·exact acts h
  ·rw[hx]at h;cases h
theorem Chain.trace {l:List (Nat×Nat)} {lo:Nat} {T:List Ent} {s s':St} (h:Chain X cl f ops lo T s s') (hsep:∀p ∈ l,sepB (get s'.env p.1) (get s'.env p.2)=true):
  Trace X cl f s.nh ops (SpOK ops l) lo T s.fs s.heap.length (fun b=>match s'.H b with |some k=>k.sz |none=>0)∧s'.fs=runF (fun _=>true) T s.fs:=by
 obtain⟨h1,h2,h3,h4,h5,h6,_⟩:=h.facts
 have hdom:∀(q:St) b,q.fs.H b≠none↔b < q.heap.length:=fun q b=>by
  constructor
  ·exact fun h=>lt_of_lH h
  ·intro h
   have:q.fs.H b=some q.heap[b]:=List.getElem?_eq_getElem h
   rw[this];simp
 have hdoK:∀(q:St) b,q.fs.K b≠none↔b < q.toks.length:=fun q b=>by
  constructor
  ·exact fun h=>lt_of_lK h
  ·intro h
   have:q.fs.K b=some q.toks[b]:=List.getElem?_eq_getElem h
   rw[this];simp
 refine⟨⟨h1,fun x hx=>(h5 x hx).1,fun x hx=>?_,fun x hx b=>?_,fun x hx b=>?_,fun b=>hdom s b,fun x hx=>(h5 x hx).2.2.1,h6,fun b k hk=>?_,fun x hx b k hk=>?_,fun x hx y hy hsp=>?_⟩,h2⟩
 ·obtain⟨_,⟨sx,g2,g3,_⟩,_⟩:=h5 x hx
  rw[g2];exact g3
 ·obtain⟨_,⟨sx,g2,_,g4,_⟩,_⟩:=h5 x hx
  rw[g2,g4];exact hdom sx b
 ·obtain⟨_,⟨sx,g2,_,_,g5⟩,_⟩:=h5 x hx
  rw[g2,g5];exact hdoK sx b
 ·obtain⟨k',hk',e⟩:=h3 b k hk
  simp only[hk',e]
 ·obtain⟨_,_,_,g7⟩:=h5 x hx
  obtain⟨k',hk',e⟩:=g7 b k hk
  simp only[hk',e]
 ·obtain⟨oi,oj,t,t',ti,tj,v,hoi,hopi,hgi,hoj,hopj,hmem,hwi,hwj⟩:=hsp
  obtain⟨hxo,_⟩:=h5 x hx
  obtain⟨hyo,⟨sy,gy2,gy3,_⟩,_⟩:=h5 y hy
  rw[hoi]at hxo
  rw[hoj]at hyo
  cases hxo
  cases hyo
  refine⟨by rw[hopi];rfl,by rw[hopi];rfl,by rw[hopj];rfl,fun b k he u hu=>?_⟩
  have hu':u=ti:=by
   simp only[Oper.looksAt,hopi,hgi,Op.operands]at hu
   simpa using hu
  subst hu'
  have stay:∀(i tt:Nat),(∀ k o,ops[k]? =some o→i≤k→o.dst≠some tt)→(upto T s.fs i).env tt=get s'.env tt:=fun i tt hw=>by
   have:get s'.env tt=s'.fs.env tt:=rfl
   rw[this,h2,upto,runF_eq,runF_eq]
   refine runG_agree T _ _ (fun z hz hne v hv=>?_) rfl
   have hzi:i≤z.i:=by
    by_cases hlt:z.i < i
    ·exact absurd (by simp[hlt]) hne
    ·omega
   cases hd:z.o.dst with
   |none=>simp[Ent.cE,hd]at hv
   |some d=>
    simp only[Ent.cE,hd,Option.map_some,Option.some.injEq,Prod.mk.injEq]at hv
    exact hw z.i z.o (h5 z hz).1 hzi (by rw[hd,hv.1])
  obtain⟨i',o',hptr⟩:=Did.ptr gy3 he hopj
  rw[←gy2,stay y.i tj hwj]at hptr
  have hs:=hsep _ hmem
  simp only[hptr]at hs
  rw[stay x.i u hwi]
  cases hv:get s'.env u <;> rw[hv]at hs <;> simp only[sepB,reduceCtorEq,Bool.false_eq_true]at hs
  ·simpa[okv] using hs
  ·trivial
theorem Anc.comp {i j k:Nat} (h:Anc ops i j) (h':Anc ops j k):Anc ops i k:=by
 induction h' with
 |edge ho he hb=>exact .trans ho he hb h
 |trans ho he hb _ ih=>exact .trans ho he hb (ih h)
def CutOK (ops:Array Oper) (c:Nat):Prop:=(∀ i,i < c→Anc ops i c)∧∀j,c < j→j < ops.size→Anc ops c j
structure RegOK (l:List (Nat×Nat)) (ct:Nat→Bool) (nt:Nat) (ops:Array Oper) (dr:Bool):Prop where
 dst:∀(i:Nat) o x,ops[i]? =some o→o.dst=some x→x < nt
 draw:dr=true→DrawOK ops (SpOK ops l)
 cut:dr=true→∀(c:Nat) o,ops[c]? =some o→ct (o.dst.getD 0)=true→l=[]∧CutOK ops c
theorem Inv.draw {L:Lay} {H K} {w:World} {base:Nat} (h:Inv L H K w base):Inv L H K { w with drawn:=w.drawn+1 } base:=h.grow (below_drew w)
theorem Dl_set {listed:Array Bool} {c:Nat} (hc:c < listed.size) (h:∀j,Dl listed j=decide (j < c)) (j:Nat):Dl (listed.setIfInBounds c true) j=decide (j < c+1):=by
 by_cases hj:j=c
 ·subst hj
  simp[Dl,hc]
 ·have:Dl (listed.setIfInBounds c true) j=Dl listed j:=getD_set_ne false (Ne.symm hj)
  rw[this,h j]
  simp;omega
theorem cnt_set {listed:Array Bool} {c:Nat} (hsz:listed.size=ops.size) (hc:c < ops.size) (h:Dl listed c=false):cnt ops (listed.setIfInBounds c true) < cnt ops listed:=by
 refine filter_lt _ (fun j hj=>?_) ⟨c,List.mem_range.2 hc,?_,?_⟩
 ·by_cases hji:c=j
  ·subst hji
   intro _
   rw[getD_eq (by omega)]
   have h':listed.getD c false=false:=h
   rw[h'];rfl
  ·rw[getD_set_ne true hji]
   exact id
 ·rw[getD_eq (by omega)]
  have h':listed.getD c false=false:=h
  rw[h'];rfl
 ·rw[getD_eq (by simp;omega)]
  simp[show c < listed.size by omega]
theorem draw_all {ro:Option Nat} {n:Nat} {L0:Lay} {w0:World} {base nt:Nat} {dl:Option (List Deferred)} (hP:ProgOK X.P) (hcl:CallsOK X.P cl) (hsc:ScallsOK X cl) (hic:IcallsOK X cl) {l:List (Nat×Nat)} (ho:RegOK l (X.cut f) nt ops true) {out:Out}:
  ∀(m lo:Nat) (s:St) (L:Lay) (a:Act) (w:World) (fuel:Nat) (listed:Array Bool),ops.size-lo≤m→lo≤ops.size→evs X cl f true ops.toList (ops.toList.drop lo) s=some out→
   (∀ s',out= .next s'→∀p ∈ l,sepB (get s'.env p.1) (get s'.env p.2)=true)→listed.size=ops.size→cnt ops listed≤fuel→(∀ j,Dl listed j=decide (j < lo))→At L0 w0 base nt dl s.fs.env s.fs.H s.fs.K L a w→
   wpAnyIn (rf ro) n X.P .any ops (Post L0 w0 base nt dl out) fuel listed a w:=by
 intro m
 induction m using Nat.strongRecOn with
 |_ m IH=>
 intro lo s L a w fuel listed hm hlo hev hsep hsz hcnt hDl hat
 have hdrop:∀j o,(ops.toList.drop lo)[j]? =some o→ops[lo+j]? =some o:=fun j o h=>by
  rw[List.getElem?_drop]at h
  simpa using h
 obtain⟨T,s',hc,hend⟩:=evs_chain (ops:=ops) (ops.toList.drop lo) lo s out hev hdrop
 have hlen:lo+T.length≤ops.size:=by
  rcases hend with⟨hl,_⟩ |⟨o,r',h1,_⟩
  ·rw[hl];simp;omega
  ·have:T.length < (ops.toList.drop lo).length:=by
    apply Classical.byContradiction
    intro h
    rw[List.drop_of_length_le (by omega)]at h1
    cases h1
   simp at this;omega
 have hDown:∀(li:Array Bool) (q:Nat),(∀ j,Dl li j=decide (j < q))→Down ops (Dl li):=fun li q hq j o e hj hd he hb=>by
  have:=(ho.draw rfl).back j o e hj he hb
  rw[hq]at hd ⊢
  simp at hd ⊢;omega
 have hrun0:∀(T:List Ent),(∀ x ∈ T,lo≤x.i)→runF (Dl listed) T s.fs=s.fs:=fun T hT=>by
  rw[runF_congr (D':=fun _=>false) T s.fs fun x hx=>by rw[hDl];have:=hT x hx;simp;omega]
  exact runF_false T s.fs
 have main:∀(hseps:∀p ∈ l,sepB (get s'.env p.1) (get s'.env p.2)=true) (hA:∀i j,i < lo+T.length→lo+T.length≤j→j < ops.size→Anc ops i j)
   (hQ:∀fuel listed L a w,listed.size=ops.size→cnt ops listed≤fuel→(∀ j,Dl listed j=decide (j < lo+T.length))→At L0 w0 base nt dl s'.fs.env s'.fs.H s'.fs.K L a w→wpAnyIn (rf ro) n X.P .any ops (Post L0 w0 base nt dl out) fuel listed a w),
   wpAnyIn (rf ro) n X.P .any ops (Post L0 w0 base nt dl out) fuel listed a w:=fun hseps hA hQ=>by
  obtain⟨hT,hfin⟩:=hc.trace (l:=l) hseps
  refine draw_seg hP hic (ho.draw rfl) hT hlen hA ho.dst (fun fuel listed L a w h1 h2 h3 h4=>hQ fuel listed L a w h1 h2 h3 (by rw[←hfin]at h4;exact h4)) fuel listed L a w hsz hcnt (hDown _ _ hDl) (fun j hj=>by rw[hDl];simpa using hj)
   (fun j hj=>by rw[hDl];simp;omega) (fun b hb=>?_) ?_
  ·rw[hrun0 T fun x hx=>(idx_of_mem hT hx).1]at hb
   exact .inl ((hT.dom0 b).1 hb)
  ·rw[hrun0 T fun x hx=>(idx_of_mem hT hx).1]
   exact hat
 rcases hend with⟨hl,rfl⟩ |⟨o,r',h1,⟨hcut,g,hg,hgd⟩,h3⟩
 ·have hfull:lo+T.length=ops.size:=by rw[hl];simp;omega
  refine main (hsep s' rfl) (fun i j _ h1 h2=>by omega) fun fuel listed L a w hsz hcnt hDl hat=>?_
  have hready:∀i,i ∉ Region.ready .any ops listed:=fun i hi=>by
   rw[mem_ready]at hi
   obtain⟨hun,o,ho',_⟩:=hi
   have hin:i < ops.size:=(Array.getElem?_eq_some_iff.1 ho').1
   rw[getD_eq (by omega)]at hun
   have:=hDl i
   unfold Dl at this
   rw[hun]at this
   simp at this;omega
  have hnil:Region.ready .any ops listed=[]:=List.eq_nil_iff_forall_not_mem.2 hready
  cases fuel with
  |zero=>exact⟨hnil,⟨L,hat⟩⟩
  |succ fuel=>exact⟨fun _=>⟨L,hat⟩,fun i hi=>absurd hi (hready i)⟩
 ·have hcs:ops[lo+T.length]? =some o:=by
   have:(ops.toList.drop lo)[T.length]? =some o:=by
    have h:=congrArg (fun q=>q[0]?) h1
    simpa[List.getElem?_drop] using h
   exact hdrop _ _ this
  have hclt:lo+T.length < ops.size:=(Array.getElem?_eq_some_iff.1 hcs).1
  obtain⟨hl0,hca,hcb⟩:=ho.cut rfl _ o hcs hcut
  refine main (fun p hp=>by rw[hl0]at hp;cases hp) (fun i j hi hj1 hj2=>?_) fun fuel listed L a w hsz hcnt hDl hat=>?_
  ·by_cases hj:j=lo+T.length
   ·rw[hj];exact hca i hi
   ·exact(hca i hi).comp (hcb j (by omega) hj2)
  ·have hunc:Dl listed (lo+T.length)=false:=by rw[hDl];simp
   have hpos:0 < cnt ops listed:=by have:=cnt_set hsz hclt hunc;omega
   cases fuel with
   |zero=>omega
   |succ fuel=>
    refine⟨fun hr=>?_,fun i hi=>?_⟩
    ·exfalso
     have:=all_listed (ho.draw rfl) hsz hr _ hclt
     rw[getD_eq (by omega)]at this
     have h':listed.getD (lo+T.length) false=false:=hunc
     rw[h']at this
     cases this
    ·rw[mem_ready]at hi
     obtain⟨hun,o',ho',hpre⟩:=hi
     have hin:i < ops.size:=(Array.getElem?_eq_some_iff.1 ho').1
     have hunD:Dl listed i=false:=by
      unfold Dl
      rw[←getD_eq (by omega)]
      exact hun
     have hige:lo+T.length≤i:=by rw[hDl]at hunD;simpa using hunD
     have hi:i=lo+T.length:=by
      apply Classical.byContradiction
      intro hne
      obtain⟨o2,e,ho2,he,hb,h'⟩:=(hcb i (by omega) hin).inv
      rw[ho']at ho2
      cases ho2
      have hon:Dl listed e.on=true:=hpre e he hb
      rw[hDl]at hon
      simp at hon
      rcases h' with h' |h'
      ·omega
      ·have:=h'.lt (ho.draw rfl);omega
     subst hi
     have hr':r'=ops.toList.drop (lo+T.length+1):=by
      have h:=congrArg (fun q=>q.drop 1) h1
      simpa[List.drop_drop,Nat.add_assoc] using h.symm
     unfold wpOpIn
     rw[hcs]
     simp only
     have hw:=guard_want (ops:=ops) hg hat.env
     have hwanted:Region.wanted o (yielded ops a.tmps)=true:=by
      cases g with
      |none=>exact hw
      |some dw=>
       obtain⟨d,want⟩:=dw
       exact hw true (hgd d want rfl)
     rw[if_pos hwanted]
     refine op_step hP hcl hsc hic h3 hat (fun x hx=>ho.dst _ o x hcs hx) (fun s2 L' a' w' hk hat'=>?_) fun v s2 ch w' hout hoth hp=>?_
     ·rw[hr']at hk
      have hcs2:=cnt_set hsz hclt hunc
      exact IH (ops.size-(lo+T.length+1)) (by omega) (lo+T.length+1) s2 L' a' w' fuel _ (Nat.le_refl _) (by omega) hk hsep (by simpa using hsz) (by omega) (Dl_set (by omega) hDl) hat'
     ·subst hout
      exact⟨hat.defers.oth hoth,hp⟩
theorem region_sound {ro:Option Nat} {n:Nat} {L0:Lay} {w0:World} {base nt:Nat} {dl:Option (List Deferred)} {a:Act} {w:World} {s:St} {out:Out} {id:Nat} {dr:Bool} (hP:ProgOK X.P) (hcl:CallsOK X.P cl) (hsc:ScallsOK X cl) (hic:IcallsOK X cl) {l:List (Nat×Nat)} (ho:RegOK l (X.cut f) nt ops dr)
  (h:regGo dr l (evs X cl f dr ops.toList ops.toList s)=some out) (hat:Here L0 w0 base nt dl s a w):(Code.region id ops dr).wpIn (rf ro) n X.P (Post L0 w0 base nt dl out) a w:=by
 obtain⟨L,hat⟩:=hat
 cases dr with
 |false=>
  refine wpIn_region (evs_sound hP hcl hsc hic ho.dst (List.range ops.size) ops.toList s L a w ?_ h hat)
  refine List.ext_getElem? fun i=>?_
  rw[Array.getElem?_toList]
  have key:∀(n:Nat),n≤ops.size→(List.range n).filterMap (fun i=>ops[i]?)=ops.toList.take n:=by
   intro n
   induction n with
   |zero=>simp
   |succ n ih=>
    intro hn
    rw[List.range_succ,List.filterMap_append,ih (by omega),List.take_add_one]
    simp[Array.getElem?_eq_getElem (show n < ops.size by omega)]
  rw[key ops.size (Nat.le_refl _),List.take_of_length_le (by simp),Array.getElem?_toList]
 |true=>
  have hx:Ext base L w L { w with drawn:=w.drawn+1 }:=Ext.grow hat.inv (below_drew w)
  have hat':At L0 w0 base nt dl s.fs.env s.fs.H s.fs.K L a { w with drawn:=w.drawn+1 }:=⟨hat.ext.trans hx,hat.inv.draw,hat.env.ext hx,hat.size,hat.defers.oth hx.oth⟩
  cases hev:evs X cl f true ops.toList ops.toList s with
  |none=>rw[hev]at h;cases h
  |some o1=>
  have hout:o1=out∧∀s',out= .next s'→∀p ∈ l,sepB (get s'.env p.1) (get s'.env p.2)=true:=by
   rw[hev]at h
   simp only[regGo,andThen]at h
   cases o1 with
   |next s1=>
    simp only[sepc]at h
    split at h
    ·rename_i hsep
     cases h
     exact⟨rfl,fun s' hs=>by cases hs;exact List.all_eq_true.1 hsep⟩
    ·cases h
   |_=>cases h;exact⟨rfl,fun s' hs=>by cases hs⟩
  obtain⟨rfl,hsep⟩:=hout
  refine wpIn_region_any hP.any (draw_all hP hcl hsc hic ho ops.size 0 s L a _ ops.size _ (by omega) (by omega) (by simpa using hev) hsep (by simp) (Nat.le_trans (List.length_filter_le _ _) (by simp)) (fun j=>?_) hat')
  simp only[Dl,Array.getD_eq_getD_getElem?,Array.getElem?_replicate]
  split <;> simp
end
end Go.Sym
end
section
namespace Go.Sym
open Go.RowKit
def kenv:Kind→List (Nat×AV)
 | .rng _ _ env _ _ _ _=>env
 |_=>[]
def OldK (n:Nat) (k:Blk):Prop:=(∀ row ∈ k.rows,belowL n row=true)∧∀t,below n (get (kenv k.kind) t)=true
def OldB (n:Nat) (H:Nat→Option Blk):Prop:=∀b k,b < n→H b=some k→OldK n k
structure Pres (s s':St):Prop where
 nh:s'.nh=s.nh
 heap:s.heap.length≤s'.heap.length
 toks:s.toks.length≤s'.toks.length
 old:∀n,n≤s.nh→n≤s.heap.length→OldB n s.H→OldB n s'.H
theorem Pres.refl (s:St):Pres s s:=⟨rfl,Nat.le_refl _,Nat.le_refl _,fun _ _ _ h=>h⟩
theorem Pres.trans {s s1 s2:St} (h:Pres s s1) (h':Pres s1 s2):Pres s s2:=
 ⟨h'.nh.trans h.nh,Nat.le_trans h.heap h'.heap,Nat.le_trans h.toks h'.toks,fun n hn hl ho=>h'.old n (by rw[h.nh];exact hn) (Nat.le_trans hl h.heap) (h.old n hn hl ho)⟩
def PresC (cl:CallFn):Prop:=∀g args H K r,cl g args H K=some r→H.length≤r.2.1.length∧K.length≤r.2.2.length∧∀n,n≤H.length→OldB n (lH H)→OldB n (lH r.2.1)
def Out.st:Out→St
 | .next s=>s
 | .ret s=>s
 | .exit _ s=>s
 | .panic _ s=>s
theorem OldB.congr {n:Nat} {H H':Nat→Option Blk} (h:OldB n H) (he:∀b,b < n→H' b=H b):OldB n H':=fun b k hb hk=>h b k hb (by rw[←he b hb];exact hk)
theorem pres_put (s:St) (d:Option Nat) (v:AV):Pres s (s.put d v):=by
 cases d with
 |none=>exact Pres.refl s
 |some d=>exact⟨rfl,Nat.le_refl _,Nat.le_refl _,fun _ _ _ h=>h⟩
theorem mem_splice {r cs:List AV} {o:Nat} {v:AV} (h:v ∈ splice r o cs):v ∈ r∨v ∈ cs:=by
 unfold splice at h
 rcases List.mem_append.1 h with h |h
 ·exact .inl (List.mem_of_mem_take h)
 ·rcases List.mem_append.1 h with h |h
  ·exact .inr h
  ·exact .inl (List.mem_of_mem_drop h)
mutual
theorem below_mono {n m:Nat} (h:n≤m):∀(v:AV),below n v=true→below m v=true
 | .ptr b i o,hv=>by simp[below]at hv ⊢;omega
 | .win b off len cap,hv=>by simp[below]at hv ⊢;omega
 | .agg cs,hv=>by simpa[below] using belowL_mono h cs (by simpa[below] using hv)
 | .tup cs,hv=>by simpa[below] using belowL_mono h cs (by simpa[below] using hv)
 | .fn f cs,hv=>by simpa[below] using belowL_mono h cs (by simpa[below] using hv)
 | .iface t v,hv=>by simpa[below] using below_mono h v (by simpa[below] using hv)
 | .lst ..,_=>rfl
 | .iptr ..,_=>rfl
 | .yld b,hv=>by simp[below]at hv ⊢;omega
 | .undef,_=>rfl
 | .int ..,_=>rfl
 | .bool _,_=>rfl
 | .str _,_=>rfl
 | .nilp,_=>rfl
 | .nilfn,_=>rfl
 | .niface,_=>rfl
theorem belowL_mono {n m:Nat} (h:n≤m):∀(vs:List AV),belowL n vs=true→belowL m vs=true
 | [],_=>rfl
 |v::r,hv=>by
  simp only[belowL,Bool.and_eq_true]at hv ⊢
  exact⟨below_mono h v hv.1,belowL_mono h r hv.2⟩
end
section
variable {X:Ctx} {cl:CallFn} {f:FuncId} {dr:Bool} {nt:Nat}
theorem pres_ap {s s':St} {m:Nat} {o:Oper} {e:Eff} (he:effOf X.P s.nh m (get s.env) s.H s.K o.op=some e) (h:s.ap o.dst e=some s'):Pres s s':=by
 cases e with
 |val v=>cases h;exact pres_put _ _ _
 |new k wn=>
  have key:Pres s { s with heap:=s.heap++[k] }:=⟨rfl,by simp,Nat.le_refl _,fun n _ hl ho=>ho.congr fun b hb=>by
   simp only[St.H]
   exact List.getElem?_append_left (by omega)⟩
  cases wn <;> cases h <;> exact key.trans (pres_put _ _ _)
 |upd b k=>
  cases h
  refine Pres.trans (s1:={ s with heap:=s.heap.set b k }) ⟨rfl,by simp,Nat.le_refl _,fun n hn hl ho b' k' hb' hk'=>?_⟩ (pres_put _ _ _)
  rcases effOf_cases he with⟨v,h⟩ |⟨k,wn,h⟩ |⟨t,x,y,p,_,h,hp⟩ |⟨c,_,h⟩ |⟨v,h⟩
  ·cases h
  ·cases h
  ·cases h
   obtain⟨b,i,o,y,k,r,cs,_,_,hk,hr,_,hc,rfl⟩:=stv_some hp
   simp only[St.H]at hk'
   rw[List.getElem?_set]at hk'
   by_cases hbb:b=b'
   ·subst hbb
    have hbl:b < s.heap.length:=lt_of_lH (H:=s.heap) (by rw[←St.H_eq,hk];simp)
    simp only[if_true]at hk'
    rw[if_pos hbl]at hk'
    cases hk'
    refine⟨fun row hrow=>?_,(ho b k hb' hk).2⟩
    rcases List.mem_or_eq_of_mem_set hrow with hrow |rfl
    ·exact(ho b k hb' hk).1 row hrow
    ·rw[belowL_iff]
     intro v hv
     rcases mem_splice hv with hv |hv
     ·exact belowL_iff.1 ((ho b k hb' hk).1 r (List.mem_of_getElem? hr)) v hv
     ·rcases hc.2.2.2 with h |h
      ·omega
      ·exact below_mono (by omega) v (belowL_iff.1 h v hv)
   ·rw[if_neg hbb]at hk'
    exact ho b' k' hb' hk'
  ·rcases callv_cases h with(⟨g,as,h⟩ |⟨g,as,h⟩) |⟨v,h⟩ | (⟨sz,rows,h⟩ |⟨k,wn,h⟩) |⟨i,sz,rows,h,_⟩ <;> cases h
  ·cases h
 |ntok sz rows=>
  cases h
  exact Pres.trans (s1:={ s with toks:=s.toks++[rows.length] }) ⟨rfl,Nat.le_refl _,by simp,fun _ _ _ h=>h⟩ (pres_put _ _ _)
 |stok t sz rows=>
  cases h
  exact Pres.trans (s1:={ s with toks:=s.toks.set t rows.length }) ⟨rfl,Nat.le_refl _,by simp,fun _ _ _ h=>h⟩ (pres_put _ _ _)
 |pan v=>cases h
 |call g as=>cases h
 |round b as=>cases h
theorem pres_evs (hcl:PresC (scall X cl)) {ops:List Oper}:∀(l:List Oper) (s:St) (out:Out),evs X cl f dr ops l s=some out→Pres s out.st
 | [],s,out,h=>by cases h;exact Pres.refl s
 |o::r,s,out,h=>by
  simp only[evs]at h
  obtain⟨g,_,h⟩:=ob_eq h
  have go:opGo X cl f dr o s (evs X cl f dr ops r)=some out→Pres s out.st:=fun h=>by
   obtain⟨e,he,hc⟩:=opGo_cases h
   rcases hc with⟨_,s',hs,hk⟩ |⟨v,_,_,rfl⟩ |⟨g,args,_,_,_,q,_,hrest⟩ |⟨g,args,_,_,q,hq,hrest⟩
   ·exact(pres_ap he hs).trans (pres_evs hcl r s' out hk)
   ·exact Pres.refl s
   ·cases q with
    |ret v=>exact(pres_put _ _ _).trans (pres_evs hcl r _ out hrest)
    |own sz rows=>
     refine Pres.trans (s1:={ s with toks:=s.toks++[rows.length] }) ⟨rfl,Nat.le_refl _,?_,fun _ _ _ h=>h⟩ ((pres_put _ _ _).trans (pres_evs hcl r _ out hrest))
     simp
    |panic v=>rw[hrest.2];exact Pres.refl s
   ·obtain⟨h1,h2,h3⟩:=hcl g args s.heap s.toks q hq
    have key:Pres s { s with heap:=q.2.1,toks:=q.2.2 }:=⟨rfl,h1,h2,fun n _ hl ho=>h3 n hl ho⟩
    rcases q with⟨q1,q2⟩
    cases q1 with
    |ret v=>exact key.trans ((pres_put _ _ _).trans (pres_evs hcl r _ out hrest))
    |panic v=>simp only at hrest;rw[hrest];exact key
  cases g with
  |none=>exact go h
  |some dw=>
   obtain⟨d,want⟩:=dw
   simp only at h
   obtain⟨y,hy,h⟩:=ob_eq h
   split at h
   ·exact go h
   ·exact(pres_put _ _ _).trans (pres_evs hcl r _ out h)
theorem tzB_eq {s:St} {b i c sz:Nat} {k:Blk} (h:tzB s b i c sz=some k):∃k0 row sz0,s.heap[b]? =some k0∧k0.kind= .box∧k0.rows[i]? =some row∧row[c]? =some (.lst sz0 [] .nil)∧k={ k0 with rows:=k0.rows.set i (row.set c (.lst sz [] (.tok s.toks.length))) }:=by
 unfold tzB at h
 split at h
 ·rename_i k0 hk0
  split at h
  ·rename_i row hkd hrow
   split at h
   ·rename_i sz0 hv
    cases h
    exact⟨k0,row,sz0,hk0,hkd,hrow,hv,rfl⟩
   ·cases h
  ·cases h
 ·cases h
theorem pres_tz:∀(l:List (Nat×Nat)) (s:St),Pres s (s.tz l)
 | [],s=>Pres.refl s
 | (t,sz)::r,s=>by
  simp only[St.tz]
  split
  ·refine Pres.trans (s1:={ s with toks:=s.toks++[0] }) ⟨rfl,Nat.le_refl _,?_,fun _ _ _ h=>h⟩ ((pres_put _ _ _).trans (pres_tz r _))
   simp
  ·rename_i b i o _
   split
   ·rename_i k hk
    refine Pres.trans (s1:={ s with toks:=s.toks++[0],heap:=s.heap.set b k }) ⟨rfl,by simp,by simp,fun n hn hl ho=>?_⟩ (pres_tz r _)
    obtain⟨k0,row,sz0,h1,h2,h3,h4,rfl⟩:=tzB_eq hk
    intro b' k' hb' hk'
    have hk1:(s.heap.set b { k0 with rows:=k0.rows.set i (row.set (o+sz / 4096) (.lst (sz % 4096) [] (.tok s.toks.length))) })[b']? =some k':=hk'
    by_cases e:b=b'
    ·subst e
     rw[List.getElem?_set_self (List.getElem?_eq_some_iff.1 h1).1]at hk1
     cases hk1
     have h0:=ho b k0 hb' h1
     refine⟨fun row' hr'=>?_,?_⟩
     ·rcases List.mem_or_eq_of_mem_set hr' with hr' |rfl
      ·exact h0.1 row' hr'
      ·refine belowL_iff.2 fun v hv=>?_
       rcases List.mem_or_eq_of_mem_set hv with hv |rfl
       ·exact belowL_iff.1 (h0.1 row (List.mem_of_getElem? h3)) v hv
       ·rfl
     ·have hk:=h0.2
      rw[h2]at hk
      show ∀t,below n (get (kenv k0.kind) t)=true
      rw[h2]
      exact hk
    ·rw[List.getElem?_set_ne e]at hk1
     exact ho b' k' hb' hk1
   ·exact pres_tz r s
  ·exact pres_tz r s
theorem H_gc (keep:List Nat) (n m:Nat) (s:St) (hn:s.nh≤n) {b:Nat}:(s.gc keep n m).H b=
  (if b < n then(if b < s.nh then s.H b else(s.H b).map (fun k=>scrubK n (if s.nh=0 then m else s.toks.length) (sealK n s.H k)))else none):=by
 unfold St.gc
 split
 ·rename_i h0
  simp only[St.H,h0,List.getElem?_map,List.getElem?_take,Nat.not_lt_zero,if_false,if_true]
  split <;> rfl
 ·rename_i h0
  simp only[St.H,if_neg h0]
  by_cases hb:b < s.nh
  ·rw[if_pos (by omega),if_pos hb]
   by_cases hl:b < s.heap.length
   ·rw[List.getElem?_append_left (by simp;omega),List.getElem?_take,if_pos hb]
   ·rw[List.getElem?_append_right (by simp;omega)]
    simp only[List.getElem?_map,List.getElem?_drop,List.length_take,List.getElem?_take]
    rw[List.getElem?_eq_none (show s.heap.length≤b by omega)]
    split
    ·rw[List.getElem?_eq_none (by omega)];rfl
    ·rfl
  ·rw[if_neg hb]
   by_cases hl:s.nh≤s.heap.length
   ·rw[List.getElem?_append_right (by simp;omega)]
    simp only[List.getElem?_map,List.getElem?_drop,List.length_take,List.getElem?_take]
    rw[Nat.min_eq_left hl,show s.nh+(b-s.nh)=b by omega]
    split <;> rfl
   ·have h1:s.heap[b]? =none:=List.getElem?_eq_none (by omega)
    rw[h1]
    rw[List.getElem?_eq_none (by simp;omega)]
    split <;> rfl
theorem gc_nh (keep:List Nat) (n m:Nat) (s:St):(s.gc keep n m).nh=s.nh:=by
 unfold St.gc
 split
 ·simp_all
 ·rfl
theorem pres_gc {keep:List Nat} {n m:Nat} {s:St} (hn:s.nh≤n) (hl:s.heap.length≤n) (hm:s.toks.length≤m) {s':St} (hh:n≤s'.heap.length) (ht:m≤s'.toks.length) (hp:s'.nh=s.nh)
  (ho:∀k,k≤s.nh→k≤s.heap.length→OldB k s.H→OldB k s'.H):Pres s (s'.gc keep n m):=by
 refine⟨(gc_nh _ _ _ _).trans hp,?_,?_,fun k hk hkl hold=>?_⟩
 ·unfold St.gc
  split <;> simp <;> omega
 ·unfold St.gc
  split <;> simp <;> omega
 ·refine(ho k hk hkl hold).congr fun b hb=>?_
  rw[H_gc _ _ _ _ (by omega),if_pos (by omega),if_pos (by omega)]
theorem pres_exec (hcl:PresC cl) (hps:PresC (scall X cl)) {n:Nat}:∀(c:Code) (s:St) (out:Out),s.nh≤s.heap.length→exec X cl n f c s=some out→Pres s out.st
 | .skip,s,out,_,h=>by cases h;exact Pres.refl s
 | .label _,s,out,_,h=>by cases h;exact Pres.refl s
 | .region id ops dr,s,out,_,h=>by
  simp only[exec]at h
  cases dr with
  |false=>exact pres_evs hps _ s out h
  |true=>
   cases hev:evs X cl f true ops.toList ops.toList s with
   |none=>rw[hev]at h;cases h
   |some o=>
    have h1:=pres_evs hps _ s o hev
    rw[hev]at h
    cases o with
    |next s1=>
     simp only[regGo,andThen,sepc]at h
     split at h
     ·cases h;exact h1
     ·cases h
    |ret s'=>cases h;exact h1
    |exit i s'=>cases h;exact h1
    |panic v s'=>cases h;exact h1
 | .seq x y,s,out,hn,h=>by
  simp only[exec]at h
  cases hx:exec X cl n f x s with
  |none=>rw[hx]at h;cases h
  |some o=>
   have h1:=pres_exec hcl hps x s o hn hx
   rw[hx]at h
   cases o with
   |next s1=>exact h1.trans (pres_exec hcl hps y s1 out (by have:=h1.nh;have:=h1.heap;simp only[Out.st]at *;omega) h)
   |ret s'=>cases h;exact h1
   |exit i s'=>cases h;exact h1
   |panic v s'=>cases h;exact h1
 | .cond c x y,s,out,hn,h=>by
  simp only[exec]at h
  split at h
  ·split at h
   ·exact pres_exec hcl hps x s out hn h
   ·exact pres_exec hcl hps y s out hn h
  ·cases h
 | .block id c,s,out,hn,h=>by
  simp only[exec]at h
  cases hx:exec X cl n f c s with
  |none=>rw[hx]at h;cases h
  |some o=>
   have h1:=pres_exec hcl hps c s o hn hx
   rw[hx]at h
   cases o with
   |exit i s'=>
    simp only[blk]at h
    split at h <;> cases h <;> exact h1
   |next s'=>cases h;exact h1
   |ret s'=>cases h;exact h1
   |panic v s'=>cases h;exact h1
 | .loop c,s,out,hn,h=>by
  simp only[exec]at h
  have ht:=pres_tz (X.tz f (firstReg c)) s
  refine ht.trans ?_
  have hnl:(s.tz (X.tz f (firstReg c))).nh≤(s.tz (X.tz f (firstReg c))).heap.length:=by have:=ht.nh;have:=ht.heap;omega
  generalize s.tz (X.tz f (firstReg c))=s1 at*
  have go:∀(k:Nat) (s:St) (out:Out),Pres s1 s→iter (fun s=>exec X cl n f c s) (St.gc (X.keep f (firstReg c)) s1.heap.length s1.toks.length) k s=some out→Pres s1 out.st:=by
   intro k
   induction k with
   |zero=>intro s out _ h;simp[iter]at h
   |succ k ih=>
    intro s out hp h
    have hg:Pres s1 (s.gc (X.keep f (firstReg c)) s1.heap.length s1.toks.length):=pres_gc hnl (Nat.le_refl _) (Nat.le_refl _) hp.heap hp.toks hp.nh hp.old
    simp only[iter]at h
    cases hbo:exec X cl n f c (s.gc (X.keep f (firstReg c)) s1.heap.length s1.toks.length)with
    |none=>rw[hbo]at h;cases h
    |some o=>
     rw[hbo]at h
     have h1:=hg.trans (pres_exec hcl hps c _ o (by have:=hg.nh;have:=hg.heap;omega) hbo)
     cases o with
     |next s'=>exact ih s' out h1 h
     |ret s'=>cases h;exact h1
     |exit i s'=>cases h;exact h1
     |panic v s'=>cases h;exact h1
  exact go n s1 out (Pres.refl _) h
 | .exit id,s,out,_,h=>by cases h;exact Pres.refl s
 | .ret,s,out,_,h=>by cases h;exact Pres.refl s
 | .rangeFunc g ps as bd,s,out,hn,h=>by
  simp only[exec]at h
  split at h
  ·rename_i hf caps _
   split at h
   ·obtain⟨r,hr,h⟩:=ob_eq h
    obtain⟨h1,h2,h3⟩:=hcl _ _ _ _ _ hr
    have key:Pres s { s with heap:=r.2.1.take s.heap.length,toks:=r.2.2 }:=by
     refine⟨rfl,by simp at h1 ⊢;omega,h2,fun n hn' hl ho=>?_⟩
     have h4:=h3 n (by simp;omega) (ho.congr fun b hb=>List.getElem?_append_left (by omega))
     refine h4.congr fun b hb=>?_
     simp only[St.H,lH,List.getElem?_take,if_pos (show b < s.heap.length by omega)]
    unfold rangeEnd at h
    split at h
    ·cases h
    ·obtain⟨k,_,h⟩:=ob_eq h
     split at h
     ·split at h <;> first
       | (cases h;exact key)
       |cases h
     ·cases h
   ·cases h
  ·cases h
 | .scope _,s,out,_,h=>by simp[exec]at h
 | .goto _,s,out,_,h=>by simp[exec]at h
 | .refuse _,s,out,_,h=>by simp[exec]at h
end
end Go.Sym
end
section
namespace Go.Sym
open Go.RowKit
def Lay.res (L:Lay) (n m:Nat):Lay:={ S:=L.S,B:=L.B,hp:=fun b=>if b < n then L.hp b else none,tk:=fun t=>if t < m then L.tk t else none }
theorem keeps_res {L:Lay} {w:World} {n m:Nat}:Keeps L w (L.res n m) w:=⟨fun _ _ h=>h,fun _ _ _=>rfl⟩
theorem RepC.res {L:Lay} {w:World} {n m:Nat} {c:Cap} {g:Nat}:∀{p:Nat} {cs:List AV},RepC L w c g p cs→RepC (L.res n m) w c g p cs
 |_,[],_=>by simp[RepC]
 |p,v::r,h=>by
  simp only[RepC]at h ⊢
  obtain⟨hq,hp,hc,⟨u,hu,hv⟩,hr⟩:=h
  exact⟨hq,hp,hc,⟨u,hu,Rep.pure keeps_res v u hp hv⟩,RepC.res hr⟩
theorem RepR.res {L:Lay} {w:World} {n m:Nat} {c:Cap} {sz g:Nat}:∀{p:Nat} {rows:List (List AV)},RepR L w c sz g p rows→RepR (L.res n m) w c sz g p rows
 |_,[],_=>by simp[RepR]
 |p,row::r,h=>by
  simp only[RepR]at h ⊢
  exact⟨h.1,RepC.res h.2.1,RepR.res h.2.2⟩
mutual
theorem Rep.scrub {L:Lay} {w:World} {n m:Nat}:∀(v:AV) (u:Value),Rep L w v u→Rep (L.res n m) w (scrub n m v) u
 | .lst sz rows c,u,h=>by
  obtain⟨a,l,cap,rfl,hn,hc,hm,hrows,hcap⟩:=by simpa only[Rep] using h
  have main:∀c',(c= .bor→c'= .bor)→CapOK (L.res n m) sz a l cap c'→Rep (L.res n m) w (.lst sz rows c') (.slice a l cap):=fun c' hc' hok=>by
   simp only[Rep]
   refine⟨a,l,cap,rfl,hn,hc,hm,?_,hok⟩
   rcases hrows with hrows |⟨g,p,ha,hr⟩
   ·exact .inl hrows
   ·exact .inr ⟨g,p,ha,RepR.cap hc' (RepR.res hr)⟩
  cases c with
  |tok t=>
   simp only[Sym.scrub]
   split
   ·rename_i ht
    refine main _ id ?_
    obtain⟨k,hk,h1⟩:=hcap
    exact⟨k,by simp[Lay.res,ht,hk],h1⟩
   ·exact Rep.szOf (main .no (by simp) trivial)
  |no=>exact main _ id hcap
  |nn=>exact main _ id hcap
  |an=>exact main _ id hcap
  |nil=>exact main _ id hcap
  |exact=>exact main _ id hcap
  |bor=>exact main _ id hcap
 | .agg cs,u,h=>by
  obtain⟨vs,rfl,hl⟩:=by simpa only[Rep] using h
  simp only[Sym.scrub,Rep]
  exact⟨vs,rfl,RepL.scrub cs _ hl⟩
 | .tup cs,u,h=>by
  obtain⟨vs,rfl,hl⟩:=by simpa only[Rep] using h
  simp only[Sym.scrub,Rep]
  exact⟨vs,rfl,RepL.scrub cs _ hl⟩
 | .fn f cs,u,h=>by
  obtain⟨ws,rfl,hl⟩:=by simpa only[Rep] using h
  simp only[Sym.scrub,Rep]
  exact⟨ws,rfl,RepL.scrub cs _ hl⟩
 | .iface t v,u,h=>by
  obtain⟨x,rfl,hx⟩:=by simpa only[Rep] using h
  simp only[Sym.scrub,Rep]
  exact⟨x,rfl,Rep.scrub v x hx⟩
 | .undef,_,h=>by simp[Sym.scrub,Rep]
 | .int ..,_,h=>by simpa only[Sym.scrub,Rep] using h
 | .bool _,_,h=>by simpa only[Sym.scrub,Rep] using h
 | .str _,_,h=>by simpa only[Sym.scrub,Rep] using h
 | .nilp,_,h=>by simpa only[Sym.scrub,Rep] using h
 | .nilfn,_,h=>by simpa only[Sym.scrub,Rep] using h
 | .niface,_,h=>by simpa only[Sym.scrub,Rep] using h
 | .ptr b i o,u,h=>by
  simp only[Sym.scrub]
  split
  ·rename_i hb
   obtain⟨r,sz,hr,rfl⟩:=by simpa only[Rep] using h
   simp only[Rep]
   exact⟨r,sz,by simp[Lay.res,hb,hr],rfl⟩
  ·simp[Rep]
 | .iptr cs o,u,h=>by
  obtain⟨g,p,rfl,hc⟩:=by simpa only[Rep] using h
  simp only[Sym.scrub,Rep]
  exact⟨g,p,rfl,RepC.res hc⟩
 | .win b off len cap,u,h=>by
  simp only[Sym.scrub]
  split
  ·rename_i hb
   obtain⟨r,sz,a,cp,hr,rfl,h1⟩:=by simpa only[Rep] using h
   simp only[Rep]
   exact⟨r,sz,a,cp,by simp[Lay.res,hb,hr],rfl,h1⟩
  ·simp[Rep]
 | .yld b,u,h=>by
  simp only[Sym.scrub]
  split
  ·rename_i hb
   obtain⟨r,sz,hr,rfl⟩:=by simpa only[Rep] using h
   simp only[Rep]
   exact⟨r,sz,by simp[Lay.res,hb,hr],rfl⟩
  ·simp[Rep]
theorem RepL.scrub {L:Lay} {w:World} {n m:Nat}:∀(vs:List AV) (us:List Value),RepL L w vs us→RepL (L.res n m) w (scrubL n m vs) us
 | [],_,h=>h
 |v::r,us,h=>by
  obtain⟨u,q,rfl,hv,hq⟩:=by simpa only[RepL] using h
  simp only[Sym.scrubL,RepL]
  exact⟨u,q,rfl,Rep.scrub v u hv,RepL.scrub r q hq⟩
end
mutual
theorem scrub_length {n m:Nat}:∀(vs:List AV),(scrubL n m vs).length=vs.length
 | []=>rfl
 |v::r=>by simp[scrubL,scrub_length r]
end
theorem scrubL_get {n m:Nat}:∀(vs:List AV) (i:Nat),(scrubL n m vs)[i]? =(vs[i]?).map (scrub n m)
 | [],i=>by simp[scrubL]
 |v::r,0=>by simp[scrubL]
 |v::r,i+1=>by simp[scrubL,scrubL_get r i]
theorem cellU_scrub {n m:Nat} (v:AV) (h:cellU v=true):cellU (scrub n m v)=true:=by
 cases v with
 |lst sz r c=>
  cases c with
  |tok t=>simp only[scrub];split <;> rfl
  |_=>rfl
 |ptr b i o=>simp only[scrub];split <;> rfl
 |win b o l c=>simp only[scrub];split <;> rfl
 |yld b=>simp only[scrub];split <;> rfl
 |agg cs=>simp[cellU]at h
 |tup cs=>simp[cellU]at h
 |_=>rfl
mutual
theorem strip_scrub {n m:Nat}:∀(v:AV),pureB (strip v)=true→pureB (strip (scrub n m v))=true
 | .lst sz r c,h=>by
  cases c with
  |tok t=>simp only[scrub];split <;> rfl
  |_=>exact h
 | .agg cs,h=>by simp only[scrub,strip,pureB];exact stripL_scrub cs (by simpa[strip,pureB] using h)
 | .tup cs,h=>by simp only[scrub,strip,pureB];exact stripL_scrub cs (by simpa[strip,pureB] using h)
 | .fn f cs,h=>by simp only[scrub,strip,pureB];exact stripL_scrub cs (by simpa[strip,pureB] using h)
 | .iface t v,h=>by simp only[scrub,strip,pureB];exact strip_scrub v (by simpa[strip,pureB] using h)
 | .ptr ..,h=>by simp[strip,pureB]at h
 | .win ..,h=>by simp[strip,pureB]at h
 | .iptr ..,h=>by simp[strip,pureB]at h
 | .yld _,h=>by simp[strip,pureB]at h
 | .undef,h=>by simp[strip,pureB]at h
 | .int ..,_=>rfl
 | .bool _,_=>rfl
 | .str _,_=>rfl
 | .nilp,_=>rfl
 | .nilfn,_=>rfl
 | .niface,_=>rfl
theorem stripL_scrub {n m:Nat}:∀(vs:List AV),pureL (stripL vs)=true→pureL (stripL (scrubL n m vs))=true
 | [],_=>rfl
 |v::r,h=>by
  simp only[stripL,pureL,Bool.and_eq_true]at h
  simp only[scrubL,stripL,pureL,Bool.and_eq_true]
  exact⟨strip_scrub v h.1,stripL_scrub r h.2⟩
end
theorem scrubK_sz (n m:Nat) (k:Blk):(scrubK n m k).sz=k.sz:=by
 unfold scrubK
 split <;> rfl
theorem scrubE_get {n m:Nat}:∀(env:List (Nat×AV)) (t:Nat),get (scrubE n m env) t=scrub n m (get env t)
 | [],t=>by simp[scrubE,get,scrub]
 | (i,v)::r,t=>by
  simp only[scrubE,get]
  split
  ·rfl
  ·exact scrubE_get r t
theorem BlkOK.scrub {L:Lay} {w:World} {base n m:Nat} {k:Blk} {r:Nat} (h:BlkOK L w base k r):BlkOK (L.res n m) w base (scrubK n m k) r:=by
 cases hk:k.kind with
 |data=>
  have:scrubK n m k=k:=by unfold scrubK;rw[hk]
  rw[this]
  obtain⟨cs,e,hm,hs,hc⟩:=h.mem (by rw[hk];rfl)
  refine BlkOK.mk' (by rw[hk];rfl) h.base ⟨cs,e,hm,hs,fun i row hrow=>⟨(hc i row hrow).1,fun o v hv=>?_⟩⟩ h.typ
  obtain⟨h1,h2,u,hu,hr⟩:=(hc i row hrow).2 o v hv
  rw[hk]at h1
  exact⟨by rw[hk];exact h1,h2,u,hu,Rep.pure keeps_res v u h1 hr⟩
 |rng f nt env ps as bd st=>
  have:scrubK n m k={ k with kind:=.rng f nt (scrubE n m env) ps as bd st }:=by unfold scrubK;rw[hk]
  rw[this]
  obtain⟨hrows,rc,hm,hrc⟩:=h.rng _ _ _ _ _ _ _ hk
  refine⟨h.base,fun hh=>by simp[rngB]at hh,fun f' nt' env' ps' as' bd' st' hh=>?_,fun hh=>(by simp[deadB]at hh),fun t h=>(by cases h)⟩
  cases hh
  exact⟨hrows,rc,hm,{ hrc with env:=fun t=>by rw[scrubE_get];exact Rep.scrub _ _ (hrc.env t) }⟩
 |dead=>
  have:scrubK n m k={ k with rows:=k.rows.map (scrubL n m) }:=by unfold scrubK;rw[hk]
  rw[this]
  obtain⟨h1,h2⟩:=h.dead (by rw[hk];rfl)
  exact⟨h.base,fun hh=>by simp[hk,rngB]at hh,fun f nt env ps as bd st hh=>(by simp[hk]at hh),fun _=>⟨by simp[h1],h2⟩,h.typ⟩
 |_=>
  have:scrubK n m k={ k with rows:=k.rows.map (scrubL n m) }:=by unfold scrubK;rw[hk]
  rw[this]
  obtain⟨cs,e,hm,hs,hc⟩:=h.mem (by rw[hk];rfl)
  refine BlkOK.mk' (by simp only[hk];rfl) h.base ⟨cs,e,hm,by simpa using hs,fun i row hrow=>?_⟩ h.typ
  simp only[List.getElem?_map,Option.map_eq_some_iff]at hrow
  obtain⟨row',hrow',rfl⟩:=hrow
  refine⟨by rw[scrub_length];exact(hc i row' hrow').1,fun o v hv=>?_⟩
  rw[scrubL_get]at hv
  simp only[Option.map_eq_some_iff]at hv
  obtain⟨v',hv',rfl⟩:=hv
  obtain⟨h1,h2,u,hu,hr⟩:=(hc i row' hrow').2 o v' hv'
  refine⟨?_,cellU_scrub _ h2,u,hu,Rep.scrub v' u hr⟩
  rw[hk]at h1 ⊢
  first | (simp only[fitB]at h1 ⊢;exact strip_scrub v' h1) |rfl
mutual
theorem Rep.res {L:Lay} {w:World} {n m:Nat} (ht:∀t k,L.tk t=some k→t < m):∀(v:AV) (u:Value),below n v=true→Rep L w v u→Rep (L.res n m) w v u
 | .lst sz rows c,u,_,h=>by
  have:=Rep.scrub (n:=n) (m:=m) _ _ h
  cases c with
  |tok t=>
   obtain⟨a,l,cap,rfl,hn,hc,hm,hrows,k,hk,_⟩:=by simpa only[Rep] using h
   simpa only[Sym.scrub,if_pos (ht t k hk)] using this
  |_=>exact this
 | .agg cs,u,hb,h=>by
  obtain⟨vs,rfl,hl⟩:=by simpa only[Rep] using h
  simp only[Rep]
  exact⟨vs,rfl,RepL.res ht cs _ (by simpa[below] using hb) hl⟩
 | .tup cs,u,hb,h=>by
  obtain⟨vs,rfl,hl⟩:=by simpa only[Rep] using h
  simp only[Rep]
  exact⟨vs,rfl,RepL.res ht cs _ (by simpa[below] using hb) hl⟩
 | .fn f cs,u,hb,h=>by
  obtain⟨ws,rfl,hl⟩:=by simpa only[Rep] using h
  simp only[Rep]
  exact⟨ws,rfl,RepL.res ht cs _ (by simpa[below] using hb) hl⟩
 | .iface t v,u,hb,h=>by
  obtain⟨x,rfl,hx⟩:=by simpa only[Rep] using h
  simp only[Rep]
  exact⟨x,rfl,Rep.res ht v x (by simpa[below] using hb) hx⟩
 | .undef,_,_,h=>by simp[Rep]
 | .int ..,_,_,h=>by simpa only[Rep] using h
 | .bool _,_,_,h=>by simpa only[Rep] using h
 | .str _,_,_,h=>by simpa only[Rep] using h
 | .nilp,_,_,h=>by simpa only[Rep] using h
 | .nilfn,_,_,h=>by simpa only[Rep] using h
 | .niface,_,_,h=>by simpa only[Rep] using h
 | .ptr b i o,u,hb,h=>by
  have:=Rep.scrub (n:=n) (m:=m) _ _ h
  simpa only[Sym.scrub,if_pos (show b < n by simpa[below] using hb)] using this
 | .iptr cs o,u,_,h=>by
  have:=Rep.scrub (n:=n) (m:=m) _ _ h
  simpa only[Sym.scrub] using this
 | .win b off len cap,u,hb,h=>by
  have:=Rep.scrub (n:=n) (m:=m) _ _ h
  simpa only[Sym.scrub,if_pos (show b < n by simpa[below] using hb)] using this
 | .yld b,u,hb,h=>by
  have:=Rep.scrub (n:=n) (m:=m) _ _ h
  simpa only[Sym.scrub,if_pos (show b < n by simpa[below] using hb)] using this
theorem RepL.res {L:Lay} {w:World} {n m:Nat} (ht:∀t k,L.tk t=some k→t < m):∀(vs:List AV) (us:List Value),belowL n vs=true→RepL L w vs us→RepL (L.res n m) w vs us
 | [],_,_,h=>h
 |v::r,us,hb,h=>by
  obtain⟨u,q,rfl,hv,hq⟩:=by simpa only[RepL] using h
  simp only[belowL,Bool.and_eq_true]at hb
  simp only[RepL]
  exact⟨u,q,rfl,Rep.res ht v u hb.1 hv,RepL.res ht r q hb.2 hq⟩
end
theorem BlkOK.res {L:Lay} {w:World} {base n m:Nat} {k:Blk} {r:Nat} (ht:∀t k,L.tk t=some k→t < m) (hk:OldK n k) (h:BlkOK L w base k r):BlkOK (L.res n m) w base k r:=by
 refine⟨h.base,fun hh=>?_,fun f nt env ps as bd st hh=>?_,h.dead,h.typ⟩
 ·obtain⟨cs,e,hm,hs,hc⟩:=h.mem hh
  refine⟨cs,e,hm,hs,fun i row hrow=>⟨(hc i row hrow).1,fun o v hv=>?_⟩⟩
  obtain⟨h1,h2,u,hu,hr⟩:=(hc i row hrow).2 o v hv
  exact⟨h1,h2,u,hu,Rep.res ht v u (belowL_iff.1 (hk.1 row (List.mem_of_getElem? hrow)) v (List.mem_of_getElem? hv)) hr⟩
 ·obtain⟨hrows,rc,hm,hrc⟩:=h.rng _ _ _ _ _ _ _ hh
  exact⟨hrows,rc,hm,{ hrc with env:=fun t=>Rep.res ht _ _ (by have:=hk.2 t;rw[hh]at this;exact this) (hrc.env t) }⟩
theorem Inv.res {L:Lay} {H H':Nat→Option Blk} {K K':Nat→Option Nat} {w:World} {base n m:Nat} (hi:Inv L H K w base)
  (hH:∀b,H' b=none↔(b < n→H b=none)) (hK:∀t,K' t=if t < m then K t else none)
  (hk:∀b k',b < n→H' b=some k'→∃k,H b=some k∧k'.sz=k.sz∧(deadB k'.kind=false→deadB k.kind=false)∧∀r,BlkOK L w base k r→BlkOK (L.res n m) w base k' r):Inv (L.res n m) H' K' w base:=by
 have hp':∀b x,(L.res n m).hp b=some x→b < n∧L.hp b=some x:=fun b x h=>by
  simp only[Lay.res]at h
  split at h
  ·exact⟨by assumption,h⟩
  ·cases h
 have tk':∀t k,(L.res n m).tk t=some k→t < m∧L.tk t=some k:=fun t k h=>by
  simp only[Lay.res]at h
  split at h
  ·exact⟨by assumption,h⟩
  ·cases h
 have dm:∀b k',H' b=some k'→b < n:=fun b k' h=>by
  by_cases hb:b < n
  ·exact hb
  ·have:=(hH b).2 fun hb'=>absurd hb' hb
   rw[h]at this
   cases this
 refine⟨fun b k' h=>?_,fun b r sz h=>?_,fun b k' r sz hk' h=>?_,fun b b' r sz sz' h h'=>hi.inj b b' r sz sz' (hp' b _ h).2 (hp' b' _ h').2,fun b k' r sz hk' hd h=>by
  obtain⟨k,h1,_,h2,_⟩:=hk b k' (hp' b _ h).1 hk'
  exact hi.apart b k r sz h1 (h2 hd) (hp' b _ h).2,fun t=>?_,fun t k h=>?_,fun t t' k k' g h h'=>hi.tkinj t t' k k' g (tk' t k h).2 (tk' t' k' h').2,hi.size,hi.lent,hi.top,hi.glob⟩
 ·have hb:=dm b k' h
  obtain⟨k,hkk,hz,_,_⟩:=hk b k' hb h
  obtain⟨r,hr⟩:=hi.dom b k hkk
  exact⟨r,by simp[Lay.res,hb,hr,hz]⟩
 ·obtain⟨hb,h⟩:=hp' b _ h
  obtain⟨k,hkk,hz⟩:=hi.dom' b r sz h
  cases hh:H' b with
  |none=>
   have:=(hH b).1 hh hb
   rw[hkk]at this
   cases this
  |some k'=>
   obtain⟨k2,hk2,hz2,_,_⟩:=hk b k' hb hh
   rw[hkk]at hk2
   cases hk2
   exact⟨k',rfl,hz2.trans hz⟩
 ·obtain⟨hb,h⟩:=hp' b _ h
  obtain⟨k,hkk,_,_,hblk⟩:=hk b k' hb hk'
  exact hblk r (hi.blk b k r sz hkk h)
 ·rw[hK t,hi.K t]
  simp only[Lay.res]
  split <;> rfl
 ·obtain⟨_,h⟩:=tk' t k h
  rcases hi.tk t k h with h1 |⟨g,ha,hg,hn,hm,hs,hB,hne⟩
  ·exact .inl h1
  ·exact .inr ⟨g,ha,hg,hn,hm,hs,hB,fun b r sz hb=>hne b r sz (hp' b _ hb).2⟩
end Go.Sym
end
section
namespace Go.Sym
open Go.RowKit
theorem szOf_map (n:Nat) (f:List AV→List AV) (l:List (List AV)):szOf n (l.map f)=szOf n l:=by cases l <;> rfl
section
variable {P:Program} {L:Lay} {H:Nat→Option Blk} {K:Nat→Option Nat} {w:World} {base nh:Nat}
theorem purR_get:∀{rows:List (List AV)},purR rows=true→∀{i:Nat} {row:List AV},rows[i]? =some row→∀{o:Nat} {v:AV},row[o]? =some v→pureB (strip v)=true
 | [],_,i,row,h,o,v,_=>by simp at h
 |r::q,hp,i,row,h,o,v,hv=>by
  simp only[purR,Bool.and_eq_true]at hp
  cases i with
  |zero=>
   cases h
   exact pureL_iff.1 hp.1.1 _ (List.mem_of_getElem? (i:=o) (by rw[stripL_get,hv];rfl))
  |succ i=>exact purR_get hp.2 (i:=i) (by simpa using h) hv
theorem rep_window {L':Lay} {w':World} {k:Blk} {r:Nat} (hb:BlkOK L w base k r) (hk:Keeps L w L' w') (hcell:∀o,o < k.rows.length*k.sz→w'.cell? ⟨r,o,none⟩=w.cell? ⟨r,o,none⟩) {c:Cap}
  (hq:∀o,o < k.rows.length*k.sz→Q L' c r o) {off len:Nat} (hl:off+len≤k.rows.length) {rows:List (List AV)} (hr:(k.kind= .data∨k.kind= .toky∨k.kind= .box∧purR ((k.rows.drop off).take len)=true)∧rows=((k.rows.drop off).take len).map normL):
  RepR L' w' c k.sz r (off*k.sz) rows:=by
 have hlt:∀i o,i < k.rows.length→o < k.sz→i*k.sz+o < k.rows.length*k.sz:=fun i o hi ho=>by
  have:(i+1)*k.sz≤k.rows.length*k.sz:=Nat.mul_le_mul_right _ hi
  rw[Nat.add_mul,Nat.one_mul]at this
  omega
 have key:∀i row,((k.rows.drop off).take len)[i]? =some row→row.length=k.sz∧∀(o:Nat) v,row[o]? =some v→fitB k.kind v=true∧cellU v=true∧Q L' c r (off*k.sz+i*k.sz+o)∧∃u,w'.cell? ⟨r,off*k.sz+i*k.sz+o,none⟩=some u∧Rep L w v u:=by
  intro i row hrow
  rw[List.getElem?_take]at hrow
  split at hrow
  ·rename_i hil
   rw[List.getElem?_drop]at hrow
   have hlen:=((hb.mem (hb.plain hrow)).choose_spec.choose_spec.2.2 (off+i) row hrow).1
   refine⟨hlen,fun o v hv=>?_⟩
   obtain⟨h1,h2,u,hu,hrep⟩:=hb.cell hrow hv
   have ho:o < k.sz:=by rw[←hlen];exact(List.getElem?_eq_some_iff.1 hv).1
   have e:off*k.sz+i*k.sz+o=(off+i)*k.sz+o:=by rw[Nat.add_mul]
   rw[e]
   exact⟨h1,h2,hq _ (hlt _ _ (by omega) ho),u,by rw[hcell _ (hlt _ _ (by omega) ho)];exact hu,hrep⟩
  ·cases hrow
 refine RepR.of_get fun i row hrow=>?_
 obtain⟨hd,rfl⟩:=hr
 rw[List.getElem?_map,Option.map_eq_some_iff]at hrow
 obtain⟨row',hrow',rfl⟩:=hrow
 obtain⟨h1,h2⟩:=key i row' hrow'
 refine⟨by rw[normL_length];exact h1,RepC.of_get fun o v hv=>?_⟩
 rw[normL_get,Option.map_eq_some_iff]at hv
 obtain⟨v',hv',rfl⟩:=hv
 obtain⟨g1,g2,g3,u,g4,g5⟩:=h2 o v' hv'
 have hp:pureB (strip v')=true:=by
  rcases hd with hd |hd |⟨_,hd⟩
  ·rw[hd]at g1
   have g1':pureB v'=true:=g1
   rw[strip_pure g1'];exact g1'
  ·rw[hd]at g1;exact g1
  ·exact purR_get hd hrow' hv'
 have hp':=normv_pure v' hp
 exact⟨g3,hp',by rw[cellB_normv];exact cellB_of_strip g2 hp,u,g4,Rep.pure hk _ u hp' (Rep.normv v' u hp g5)⟩
def Lay.shut (L:Lay) (nh:Nat) (H:Nat→Option Blk):Lay:=
 { L with S:=fun g o=>L.S g o∨∃b k sz,nh≤b∧H b=some k∧L.hp b=some (g,sz)∧o < k.rows.length*k.sz }
theorem seal_new (hi:Inv L H K w base) {g o:Nat} (h:(L.shut nh H).S g o):L.S g o∨(base≤g∧g < w.heap.size∧∃b sz,nh≤b∧L.hp b=some (g,sz)):=by
 rcases h with h |⟨b,k,sz,hb,hk,hr,_⟩
 ·exact .inl h
 ·have hbk:=hi.blk b k g sz hk hr
  exact .inr ⟨hbk.base,hbk.lt,b,sz,hb,hr⟩
theorem ext_seal (hi:Inv L H K w base):Ext base L w (L.shut nh H) w where
 S _ _ h:=.inl h
 cell _ _ _:=rfl
 B _ h:=h
 lent _ _ _:=rfl
 hp _ _ h:=h
 tk _ k h:=⟨k,h,.inl rfl⟩
 new g o h:=(seal_new hi h).imp id (·.1)
 old:=Below.refl _ _
 oth:=Oth.refl _
mutual
theorem Rep.seal0 (hi:Inv L H K w base):∀(v:AV) (u:Value),Rep L w v u→Rep (L.shut nh H) w (seal0 nh H v) u
 | .win b off len cap,u,h=>by
  have h0:=Rep.ext (ext_seal (nh:=nh) hi) _ _ h
  simp only[Sym.seal0]
  split
  ·exact h0
  ·rename_i hb
   obtain⟨r,sz,ad,cp,hr,rfl,h1,h2,_,h3,_⟩:=by simpa only[Rep] using h
   obtain⟨k,hk,rfl⟩:=hi.dom' b r sz hr
   rw[hk]
   simp only
   split
   ·exact h0
   ·rename_i hl
    have main:(k.kind= .data∨k.kind= .toky∨k.kind= .box∧purR ((k.rows.drop off).take len)=true)→Rep (L.shut nh H) w (.lst (szOf k.sz ((k.rows.drop off).take len)) (((k.rows.drop off).take len).map normL) .no) (.slice (some ad) len cp):=fun hrs=>by
     have hlen:(((k.rows.drop off).take len).map normL).length=len:=by simp;omega
     rw[←szOf_map]
     refine Rep.szOf ?_
     simp only[Rep]
     refine⟨some ad,len,cp,rfl,hlen,h1,h2,?_,trivial⟩
     rcases h3 with h3 |rfl
     ·left
      exact List.length_eq_zero_iff.1 (by omega)
     ·exact .inr ⟨r,off*k.sz,rfl,rep_window (hi.blk b k r k.sz hk hr) (ext_seal hi).keeps (fun _ _=>rfl) (fun o ho=>.inl (.inr ⟨b,k,k.sz,by omega,hk,hr,ho⟩)) (by omega) ⟨hrs,rfl⟩⟩
    split
    ·rename_i hd;exact main (.inl hd)
    ·rename_i hd;exact main (.inr (.inl hd))
    ·rename_i hd
     split
     ·rename_i hpur;exact main (.inr (.inr ⟨hd,hpur⟩))
     ·exact h0
    ·exact h0
 | .agg cs,u,h=>by
  obtain⟨vs,rfl,hl⟩:=by simpa only[Rep] using h
  simp only[Sym.seal0,Rep]
  exact⟨vs,rfl,RepL.seal0L hi cs _ hl⟩
 | .tup cs,u,h=>by
  obtain⟨vs,rfl,hl⟩:=by simpa only[Rep] using h
  simp only[Sym.seal0,Rep]
  exact⟨vs,rfl,RepL.seal0L hi cs _ hl⟩
 | .fn f cs,u,h=>by
  obtain⟨ws,rfl,hl⟩:=by simpa only[Rep] using h
  simp only[Sym.seal0,Rep]
  exact⟨ws,rfl,RepL.seal0L hi cs _ hl⟩
 | .iface t v,u,h=>by
  obtain⟨x,rfl,hx⟩:=by simpa only[Rep] using h
  simp only[Sym.seal0,Rep]
  exact⟨x,rfl,Rep.seal0 hi v x hx⟩
 | .lst sz rows c,u,h=>Rep.ext (ext_seal hi) _ _ h
 | .iptr cs o,u,h=>Rep.ext (ext_seal hi) _ _ h
 | .yld b,u,h=>Rep.ext (ext_seal hi) _ _ h
 | .ptr b i o,u,h=>Rep.ext (ext_seal hi) _ _ h
 | .undef,_,h=>h
 | .int ..,_,h=>h
 | .bool _,_,h=>h
 | .str _,_,h=>h
 | .nilp,_,h=>h
 | .nilfn,_,h=>h
 | .niface,_,h=>h
theorem RepL.seal0L (hi:Inv L H K w base):∀(vs:List AV) (us:List Value),RepL L w vs us→RepL (L.shut nh H) w (seal0L nh H vs) us
 | [],_,h=>h
 |v::r,us,h=>by
  obtain⟨u,q,rfl,hv,hq⟩:=by simpa only[RepL] using h
  simp only[Sym.seal0L,RepL]
  exact⟨u,q,rfl,Rep.seal0 hi v u hv,RepL.seal0L hi r q hq⟩
end
theorem seal0L_length {n:Nat} {H:Nat→Option Blk}:∀(vs:List AV),(seal0L n H vs).length=vs.length
 | []=>rfl
 |v::r=>by simp[seal0L,seal0L_length r]
theorem seal0L_get {n:Nat} {H:Nat→Option Blk}:∀(vs:List AV) (i:Nat),(seal0L n H vs)[i]? =(vs[i]?).map (seal0 n H)
 | [],i=>by simp[seal0L]
 |v::r,0=>by simp[seal0L]
 |v::r,i+1=>by simp[seal0L,seal0L_get r i]
theorem cellU_seal0 {n:Nat} {H:Nat→Option Blk} (v:AV) (h:cellU v=true):cellU (seal0 n H v)=true:=by
 cases v with
 |win b o l c=>
  simp only[seal0]
  split
  ·rfl
  ·split
   ·split
    ·rfl
    ·split <;> first |rfl | (split <;> rfl)
   ·rfl
 |agg cs=>simp[cellU]at h
 |tup cs=>simp[cellU]at h
 |_=>rfl
theorem rep_window_box (hi:Inv L H K w base) {k:Blk} {r:Nat} (hb:BlkOK L w base k r) (hq:∀o,o < k.rows.length*k.sz→Q (L.shut nh H) .no r o) {off len:Nat} (hl:off+len≤k.rows.length)
  (hp:purR (((k.rows.drop off).take len).map (seal0L nh H))=true):RepR (L.shut nh H) w .no k.sz r (off*k.sz) ((((k.rows.drop off).take len).map (seal0L nh H)).map normL):=by
 have hlt:∀i o,i < k.rows.length→o < k.sz→i*k.sz+o < k.rows.length*k.sz:=fun i o hi ho=>by
  have:(i+1)*k.sz≤k.rows.length*k.sz:=Nat.mul_le_mul_right _ hi
  rw[Nat.add_mul,Nat.one_mul]at this
  omega
 refine RepR.of_get fun i row hrow=>?_
 rw[List.getElem?_map,Option.map_eq_some_iff]at hrow
 obtain⟨row1,hrow1,rfl⟩:=hrow
 have hrow1':=hrow1
 rw[List.getElem?_map,Option.map_eq_some_iff]at hrow1
 obtain⟨row0,hrow0,rfl⟩:=hrow1
 rw[List.getElem?_take]at hrow0
 split at hrow0
 ·rename_i hil
  rw[List.getElem?_drop]at hrow0
  have hlen:=((hb.mem (hb.plain hrow0)).choose_spec.choose_spec.2.2 (off+i) row0 hrow0).1
  refine⟨by rw[normL_length,seal0L_length];exact hlen,RepC.of_get fun o v hv=>?_⟩
  rw[normL_get,Option.map_eq_some_iff]at hv
  obtain⟨v1,hv1,rfl⟩:=hv
  have hp1:pureB (strip v1)=true:=purR_get hp hrow1' hv1
  rw[seal0L_get,Option.map_eq_some_iff]at hv1
  obtain⟨v0,hv0,rfl⟩:=hv1
  obtain⟨h1,h2,u,hu,hrep⟩:=hb.cell hrow0 hv0
  have ho:o < k.sz:=by rw[←hlen];exact(List.getElem?_eq_some_iff.1 hv0).1
  have e:off*k.sz+i*k.sz+o=(off+i)*k.sz+o:=by rw[Nat.add_mul]
  rw[e]
  exact⟨hq _ (hlt _ _ (by omega) ho),normv_pure _ hp1,by rw[cellB_normv];exact cellB_of_strip (cellU_seal0 _ h2) hp1,u,hu,Rep.normv _ u hp1 (Rep.seal0 hi v0 u hrep)⟩
 ·cases hrow0
mutual
theorem Rep.sealv (hi:Inv L H K w base):∀(v:AV) (u:Value),Rep L w v u→Rep (L.shut nh H) w (sealv nh H v) u
 | .win b off len cap,u,h=>by
  have h0:=Rep.ext (ext_seal (nh:=nh) hi) _ _ h
  simp only[Sym.sealv]
  split
  ·exact h0
  ·rename_i hb
   obtain⟨r,sz,ad,cp,hr,rfl,h1,h2,_,h3,_⟩:=by simpa only[Rep] using h
   obtain⟨k,hk,rfl⟩:=hi.dom' b r sz hr
   rw[hk]
   simp only
   split
   ·exact h0
   ·rename_i hl
    have main:(k.kind= .data∨k.kind= .toky∨k.kind= .box∧purR ((k.rows.drop off).take len)=true)→Rep (L.shut nh H) w (.lst (szOf k.sz ((k.rows.drop off).take len)) (((k.rows.drop off).take len).map normL) .no) (.slice (some ad) len cp):=fun hrs=>by
     have hlen:(((k.rows.drop off).take len).map normL).length=len:=by simp;omega
     rw[←szOf_map]
     refine Rep.szOf ?_
     simp only[Rep]
     refine⟨some ad,len,cp,rfl,hlen,h1,h2,?_,trivial⟩
     rcases h3 with h3 |rfl
     ·left
      exact List.length_eq_zero_iff.1 (by omega)
     ·exact .inr ⟨r,off*k.sz,rfl,rep_window (hi.blk b k r k.sz hk hr) (ext_seal hi).keeps (fun _ _=>rfl) (fun o ho=>.inl (.inr ⟨b,k,k.sz,by omega,hk,hr,ho⟩)) (by omega) ⟨hrs,rfl⟩⟩
    split
    ·rename_i hd;exact main (.inl hd)
    ·rename_i hd;exact main (.inr (.inl hd))
    ·rename_i hd
     split
     ·rename_i hpur;exact main (.inr (.inr ⟨hd,hpur⟩))
     ·split
      ·rename_i hpur2
       have hlen:((((k.rows.drop off).take len).map (seal0L nh H)).map normL).length=len:=by simp;omega
       rw[←szOf_map _ (seal0L nh H),←szOf_map _ normL]
       refine Rep.szOf ?_
       simp only[Rep]
       refine⟨some ad,len,cp,rfl,hlen,h1,h2,?_,trivial⟩
       rcases h3 with h3 |rfl
       ·left
        exact List.length_eq_zero_iff.1 (by omega)
       ·exact .inr ⟨r,off*k.sz,rfl,rep_window_box hi (hi.blk b k r k.sz hk hr) (fun o ho=>.inl (.inr ⟨b,k,k.sz,by omega,hk,hr,ho⟩)) (by omega) hpur2⟩
      ·exact h0
    ·exact h0
 | .agg cs,u,h=>by
  obtain⟨vs,rfl,hl⟩:=by simpa only[Rep] using h
  simp only[Sym.sealv,Rep]
  exact⟨vs,rfl,RepL.sealL hi cs _ hl⟩
 | .tup cs,u,h=>by
  obtain⟨vs,rfl,hl⟩:=by simpa only[Rep] using h
  simp only[Sym.sealv,Rep]
  exact⟨vs,rfl,RepL.sealL hi cs _ hl⟩
 | .fn f cs,u,h=>by
  obtain⟨ws,rfl,hl⟩:=by simpa only[Rep] using h
  simp only[Sym.sealv,Rep]
  exact⟨ws,rfl,RepL.sealL hi cs _ hl⟩
 | .iface t v,u,h=>by
  obtain⟨x,rfl,hx⟩:=by simpa only[Rep] using h
  simp only[Sym.sealv,Rep]
  exact⟨x,rfl,Rep.sealv hi v x hx⟩
 | .lst sz rows c,u,h=>Rep.ext (ext_seal hi) _ _ h
 | .iptr cs o,u,h=>Rep.ext (ext_seal hi) _ _ h
 | .yld b,u,h=>Rep.ext (ext_seal hi) _ _ h
 | .ptr b i o,u,h=>Rep.ext (ext_seal hi) _ _ h
 | .undef,_,h=>h
 | .int ..,_,h=>h
 | .bool _,_,h=>h
 | .str _,_,h=>h
 | .nilp,_,h=>h
 | .nilfn,_,h=>h
 | .niface,_,h=>h
theorem RepL.sealL (hi:Inv L H K w base):∀(vs:List AV) (us:List Value),RepL L w vs us→RepL (L.shut nh H) w (sealL nh H vs) us
 | [],_,h=>h
 |v::r,us,h=>by
  obtain⟨u,q,rfl,hv,hq⟩:=by simpa only[RepL] using h
  simp only[Sym.sealL,RepL]
  exact⟨u,q,rfl,Rep.sealv hi v u hv,RepL.sealL hi r q hq⟩
end
theorem Inv.addS (hi:Inv L H K w base) {S':Nat→Nat→Prop} (hS:∀g o,L.S g o→S' g o)
  (hnew:∀g o,S' g o→L.S g o∨(base≤g∧g < w.heap.size∧(∀ b sz,L.hp b≠some (g,sz))∧∀t k,L.tk t=some k→k.cap=k.n∨k.a≠some ⟨g,0,none⟩)):Inv { L with S:=S' } H K w base:=by
 have hx:Ext base L w { L with S:=S' } w:=⟨hS,fun _ _ _=>rfl,fun _ h=>h,fun _ _ _=>rfl,fun _ _ h=>h,fun _ k h=>⟨k,h,.inl rfl⟩,fun g o h=>(hnew g o h).imp id (·.1),Below.refl _ _,Oth.refl _⟩
 refine⟨hi.dom,hi.dom',fun b k r sz hk hr=>(hi.blk b k r sz hk hr).ext hx rfl,hi.inj,fun b k r sz hk hd hr=>⟨fun o ho=>?_,(hi.apart b k r sz hk hd hr).2⟩,hi.K,fun t k hk=>?_,hi.tkinj,fun g o h=>?_,hi.lent,hi.top,hi.glob⟩
 ·rcases hnew r o ho with h |h
  ·exact(hi.apart b k r sz hk hd hr).1 o h
  ·exact h.2.2.1 b sz hr
 ·rcases hi.tk t k hk with h |⟨g,ha,hg,hn,hm,hs,hB,hne⟩
  ·exact .inl h
  ·by_cases hc:k.cap=k.n
   ·exact .inl ⟨hc,.inr ⟨g,ha,hg⟩⟩
   ·refine .inr ⟨g,ha,hg,hn,hm,fun o ho=>?_,hB,hne⟩
    rcases hnew g o ho with h |h
    ·exact hs o h
    ·exact((h.2.2.2 t k hk).resolve_left hc ha).elim
 ·rcases hnew g o h with h |h
  ·exact hi.size g o h
  ·exact h.2.1
end
end Go.Sym
end
section
namespace Go.Sym
open Go.RowKit
section
variable {L:Lay} {H:Nat→Option Blk} {K:Nat→Option Nat} {w:World} {base:Nat}
theorem putObj_other {w:World} {l g:Nat} {o:Obj} (h:g≠l):(w.putObj l o).heap[g]? =w.heap[g]? :=World.putObj_heap_other h
theorem putObj_same {w:World} {l:Nat} {o r:Obj} (h:w.heap[l]? =some r):(w.putObj l o).heap[l]? =some o:=World.putObj_heap_same (Array.getElem?_eq_some_iff.1 h).1
theorem putObj_size (w:World) (l:Nat) (o:Obj):(w.putObj l o).heap.size=w.heap.size:=by simp[World.putObj]
theorem oth_put {w:World} {l:Nat} {r r':Loop} (h:w.heap[l]? =some (.loop r)) (hd:r'.defers=r.defers):Oth w (w.putObj l (.loop r')):=by
 refine⟨fun g hg=>?_,fun g q hq=>?_,fun g o hc=>?_⟩
 ·have:g≠l:=by rintro rfl;rw[h]at hg;cases hg
  rw[putObj_other this];exact hg
 ·by_cases e:g=l
  ·subst e
   rw[h]at hq
   cases hq
   exact⟨r',putObj_same h,hd⟩
  ·exact⟨q,by rw[putObj_other e];exact hq,rfl⟩
 ·by_cases e:g=l
  ·subst e
   simp[World.cell?,h]at hc
  ·rw[cell_of_heap (putObj_other e)];exact hc
theorem cell_put {w:World} {l:Nat} {r r':Loop} (h:w.heap[l]? =some (.loop r)) (g o:Nat):(w.putObj l (.loop r')).cell? ⟨g,o,none⟩=w.cell? ⟨g,o,none⟩:=by
 by_cases e:g=l
 ·subst e
  simp[World.cell?,h,putObj_same h]
 ·exact cell_of_heap (putObj_other e)
theorem below_put {w:World} {l:Nat} {o:Obj} {base:Nat} (h:base≤l):Below base w (w.putObj l o):=
 ⟨rfl,rfl,rfl,by rw[putObj_size];exact Nat.le_refl _,fun k hk=>putObj_other (by omega)⟩
theorem ext_put {l:Nat} {r r':Loop} (hb:base≤l) (h:w.heap[l]? =some (.loop r)) (hd:r'.defers=r.defers):Ext base L w L (w.putObj l (.loop r')):=
 ⟨fun _ _ h=>h,fun g o _=>cell_put h g o,fun _ h=>h,fun g o _=>cell_put h g o,fun _ _ h=>h,fun _ k h=>⟨k,h,.inl rfl⟩,fun _ _ h=>.inl h,below_put hb,oth_put h hd⟩
theorem Inv.put (hi:Inv L H K w base) {l:Nat} {r r':Loop} (hb:base≤l) (h:w.heap[l]? =some (.loop r)) (hd:r'.defers=r.defers) (hne:∀b sz,L.hp b≠some (l,sz)):Inv L H K (w.putObj l (.loop r')) base:=by
 have hx:=ext_put (L:=L) hb h hd
 refine⟨hi.dom,hi.dom',fun b k q sz hk hq=>(hi.blk b k q sz hk hq).ext hx (putObj_other ?_),hi.inj,hi.apart,hi.K,fun t k ht=>?_,hi.tkinj,fun g o hs=>by rw[putObj_size];exact hi.size g o hs,hi.lent,by rw[putObj_size];exact hi.top,hi.glob.below (below_put hb)⟩
 ·rintro rfl
  exact hne b sz hq
 ·rcases hi.tk t k ht with h1 |⟨g,ha,hg,hn,⟨cs,e,hm,hcs⟩,hs,hB,hne'⟩
  ·exact .inl h1
  ·refine .inr ⟨g,ha,hg,hn,⟨cs,e,?_,hcs⟩,hs,hB,hne'⟩
   rw[putObj_other]
   ·exact hm
   ·rintro rfl
    rw[h]at hm
    cases hm
theorem Inv.st (hi:Inv L H K w base) {b l sz:Nat} {k:Blk} {f nt env ps as bd st} (hk:H b=some k) (hl:L.hp b=some (l,sz)) (hkk:k.kind= .rng f nt env ps as bd st) {st':LoopSt}:
  ∃rc,w.heap[l]? =some (.loop rc)∧RecOK L w rc nt env ps as bd st∧base≤l∧∀rc':Loop,rc'.params=rc.params→rc'.assign=rc.assign→rc'.body=rc.body→rc'.tmps=rc.tmps→rc'.defers=rc.defers→StOK st' rc'→
   Ext base L w L (w.putObj l (.loop rc'))∧Inv L (setF H b { k with kind:=.rng f nt env ps as bd st' }) K (w.putObj l (.loop rc')) base:=by
 have hblk:=hi.blk b k l sz hk hl
 obtain⟨hrows,rc,hm,hrc⟩:=hblk.rng _ _ _ _ _ _ _ hkk
 refine⟨rc,hm,hrc,hblk.base,fun rc' e1 e2 e3 e4 e5 hst=>?_⟩
 have hx:=ext_put (L:=L) hblk.base hm e5
 refine⟨hx,⟨fun b' k' h=>?_,fun b' r sz' h=>?_,fun b' k' r sz' hk' hr=>?_,hi.inj,fun b' k' r sz' hk' hd hr=>?_,hi.K,fun t q ht=>?_,hi.tkinj,fun g o hs=>by rw[putObj_size];exact hi.size g o hs,hi.lent,by rw[putObj_size];exact hi.top,hi.glob.below (below_put hblk.base)⟩⟩
 ·by_cases hbb:b'=b
  ·subst hbb
   rw[setF_same]at h
   cases h
   exact hi.dom b' k hk
  ·rw[setF_ne _ _ _ hbb]at h
   exact hi.dom b' k' h
 ·obtain⟨k0,h0,e0⟩:=hi.dom' b' r sz' h
  by_cases hbb:b'=b
  ·subst hbb
   rw[hk]at h0
   cases h0
   exact⟨_,setF_same _ _ _,e0⟩
  ·exact⟨k0,(setF_ne _ _ _ hbb).trans h0,e0⟩
 ·by_cases hbb:b'=b
  ·subst hbb
   rw[setF_same]at hk'
   cases hk'
   rw[hl]at hr
   cases hr
   refine⟨hblk.base,fun hh=>by simp[rngB]at hh,fun f' nt' env' ps' as' bd' st2 hh=>?_,fun hh=>(by simp[deadB]at hh),fun t h=>(by cases h)⟩
   cases hh
   exact⟨hrows,rc',putObj_same hm,⟨by rw[e1];exact hrc.ps,by rw[e2];exact hrc.as,by rw[e3];exact hrc.bd,hst,by rw[e4];exact hrc.nt,fun t=>by rw[e4];exact Rep.ext hx _ _ (hrc.env t)⟩⟩
  ·rw[setF_ne _ _ _ hbb]at hk'
   refine(hi.blk b' k' r sz' hk' hr).ext hx (putObj_other ?_)
   rintro rfl
   exact hbb (hi.inj b' b r sz' sz hr hl)
 ·by_cases hbb:b'=b
  ·subst hbb
   exact hi.apart b' k r sz' hk (by rw[hkk];rfl) hr
  ·rw[setF_ne _ _ _ hbb]at hk'
   exact hi.apart b' k' r sz' hk' hd hr
 ·rcases hi.tk t q ht with h1 |⟨g,ha,hg,hn,⟨cs,e,hm',hcs⟩,hs,hB,hne'⟩
  ·exact .inl h1
  ·refine .inr ⟨g,ha,hg,hn,⟨cs,e,?_,hcs⟩,hs,hB,hne'⟩
   rw[putObj_other]
   ·exact hm'
   ·rintro rfl
    rw[hm]at hm'
    cases hm'
section
variable {w':World} (hc:∀g o:Nat,w'.cell? ⟨g,o,none⟩=w.cell? ⟨g,o,none⟩)
include hc
mutual
theorem Rep.same:∀(v:AV) (u:Value),Rep L w v u→Rep L w' v u
 | .undef,_,_=>by simp[Rep]
 | .int ..,_,hr=>by simpa[Rep] using hr
 | .bool _,_,hr=>by simpa[Rep] using hr
 | .str _,_,hr=>by simpa[Rep] using hr
 | .nilp,_,hr=>by simpa[Rep] using hr
 | .nilfn,_,hr=>by simpa[Rep] using hr
 | .niface,_,hr=>by simpa[Rep] using hr
 | .ptr b i o,u,hr=>by simpa only[Rep] using hr
 | .yld b,u,hr=>by simpa only[Rep] using hr
 | .win b off len cap,u,hr=>by simpa only[Rep,RoomOK,hc] using hr
 | .iptr cs o,u,hr=>by
  obtain⟨g,p,rfl,h⟩:=by simpa only[Rep] using hr
  simp only[Rep]
  exact⟨g,p,rfl,RepC.same _ _ _ cs h⟩
 | .agg cs,u,hr=>by
  obtain⟨vs,rfl,hl⟩:=by simpa only[Rep] using hr
  simp only[Rep]
  exact⟨vs,rfl,RepL.same cs _ hl⟩
 | .tup cs,u,hr=>by
  obtain⟨vs,rfl,hl⟩:=by simpa only[Rep] using hr
  simp only[Rep]
  exact⟨vs,rfl,RepL.same cs _ hl⟩
 | .fn f cs,u,hr=>by
  obtain⟨ws,rfl,hl⟩:=by simpa only[Rep] using hr
  simp only[Rep]
  exact⟨ws,rfl,RepL.same cs _ hl⟩
 | .iface t v,u,hr=>by
  obtain⟨x,rfl,hx⟩:=by simpa only[Rep] using hr
  simp only[Rep]
  exact⟨x,rfl,Rep.same v x hx⟩
 | .lst sz rows c,u,hr=>by
  obtain⟨a,n,cap,rfl,hn,h1,h2,hrows,hcap⟩:=by simpa only[Rep] using hr
  simp only[Rep]
  refine⟨a,n,cap,rfl,hn,h1,h2,?_,hcap⟩
  rcases hrows with hrows |⟨g,p,ha,hrows⟩
  ·exact .inl hrows
  ·exact .inr ⟨g,p,ha,RepR.same _ _ _ _ rows hrows⟩
theorem RepL.same:∀(vs:List AV) (us:List Value),RepL L w vs us→RepL L w' vs us
 | [],_,hr=>by simpa[RepL] using hr
 |v::r,us,hr=>by
  obtain⟨u,q,rfl,hv,hq⟩:=by simpa only[RepL] using hr
  simp only[RepL]
  exact⟨u,q,rfl,Rep.same v u hv,RepL.same r q hq⟩
theorem RepC.same (c:Cap) (g:Nat):∀(p:Nat) (vs:List AV),RepC L w c g p vs→RepC L w' c g p vs
 |_,[],_=>by simp[RepC]
 |p,v::r,hr=>by
  obtain⟨hq,hp,h1,⟨u,hu,hv⟩,hrest⟩:=by simpa only[RepC] using hr
  simp only[RepC]
  exact⟨hq,hp,h1,⟨u,(hc g p).trans hu,Rep.same v u hv⟩,RepC.same c g (p+1) r hrest⟩
theorem RepR.same (c:Cap) (sz g:Nat):∀(p:Nat) (rows:List (List AV)),RepR L w c sz g p rows→RepR L w' c sz g p rows
 |_,[],_=>by simp[RepR]
 |p,row::r,hr=>by
  obtain⟨hl,h1,hrest⟩:=by simpa only[RepR] using hr
  simp only[RepR]
  exact⟨hl,RepC.same c g p row h1,RepR.same c sz g (p+sz) r hrest⟩
end
end
theorem cell_shut {w:World} {D:Nat} (h:w.heap[D]? =some (.deferred (some []))) (g o:Nat):(w.putObj D (.deferred none)).cell? ⟨g,o,none⟩=w.cell? ⟨g,o,none⟩:=by
 by_cases e:g=D
 ·subst e
  simp[World.cell?,h,putObj_same h]
 ·exact cell_of_heap (putObj_other e)
theorem Ext.shut {L0:Lay} {w0:World} (hx:Ext base L0 w0 L w) {D:Nat} (hb:base≤w0.heap.size) (hD:w0.heap.size≤D) (h:w.heap[D]? =some (.deferred (some []))):Ext base L0 w0 L (w.putObj D (.deferred none)):=
 ⟨hx.S,fun g o hs=>(cell_shut h g o).trans (hx.cell g o hs),hx.B,fun g o hs=>(cell_shut h g o).trans (hx.lent g o hs),hx.hp,hx.tk,hx.new,hx.old.trans (below_put (by omega)),by
  refine⟨fun g hg=>?_,fun g r hr=>?_,fun g o hc=>by rw[cell_shut h];exact hx.oth.cel g o hc⟩
  ·have hlt:=(Array.getElem?_eq_some_iff.1 hg).1
   rw[putObj_other (by omega)]
   exact hx.oth.dfr g hg
  ·have hlt:=(Array.getElem?_eq_some_iff.1 hr).1
   rw[putObj_other (by omega)]
   exact hx.oth.lop g r hr⟩
theorem Inv.shut (hi:Inv L H K w base) {D:Nat} (h:w.heap[D]? =some (.deferred (some []))):Inv L H K (w.putObj D (.deferred none)) base:=by
 have ne:∀(g:Nat) o,w.heap[g]? =some o→(∀ ds,o≠ .deferred ds)→g≠D:=fun g o hg ho e=>by
  subst e
  rw[h]at hg
  cases hg
  exact ho _ rfl
 refine⟨hi.dom,hi.dom',fun b k q sz hk hq=>?_,hi.inj,hi.apart,hi.K,fun t k ht=>?_,hi.tkinj,fun g o hs=>by rw[putObj_size];exact hi.size g o hs,hi.lent,by rw[putObj_size];exact hi.top,⟨hi.glob.1,by obtain⟨m,hm⟩:=hi.glob.2;exact⟨m,(cell_shut h _ _).trans hm⟩⟩⟩
 ·have hblk:=hi.blk b k q sz hk hq
  refine⟨hblk.base,fun hh=>?_,fun f nt env ps as bd st hh=>?_,fun hh=>⟨(hblk.dead hh).1,by rw[putObj_size];exact(hblk.dead hh).2⟩,fun t ht=>(by
   obtain⟨cs,hm⟩:=hblk.typ t ht
   exact⟨cs,by rw[putObj_other (ne q _ hm (by simp))];exact hm⟩)⟩
  ·obtain⟨cs,e,hm,hs,hcs⟩:=hblk.mem hh
   refine⟨cs,e,by rw[putObj_other (ne q _ hm (by simp))];exact hm,hs,fun i row hrow=>⟨(hcs i row hrow).1,fun o v hv=>?_⟩⟩
   obtain⟨p1,p2,u,hu,hr⟩:=(hcs i row hrow).2 o v hv
   exact⟨p1,p2,u,hu,Rep.same (cell_shut h) v u hr⟩
  ·obtain⟨hrows,rc,hm,hrc⟩:=hblk.rng _ _ _ _ _ _ _ hh
   exact⟨hrows,rc,by rw[putObj_other (ne q _ hm (by simp))];exact hm,{ hrc with env:=fun t=>Rep.same (cell_shut h) _ _ (hrc.env t) }⟩
 ·rcases hi.tk t k ht with h1 |⟨g,ha,hg,hn,⟨cs,e,hm,hcs⟩,hs,hB,hne'⟩
  ·exact .inl h1
  ·exact .inr ⟨g,ha,hg,hn,⟨cs,e,by rw[putObj_other (ne g _ hm (by simp))];exact hm,hcs⟩,hs,hB,hne'⟩
theorem putSt_eq {Hl Hl':List Blk} {b:Nat} {st':LoopSt} (h:putSt Hl b st'=some Hl'):∃k f nt env ps as bd st,Hl[b]? =some k∧k.kind= .rng f nt env ps as bd st∧Hl'=Hl.set b { k with kind:=.rng f nt env ps as bd st' }:=by
 obtain⟨k,hk,h⟩:=ob_eq h
 split at h
 ·rename_i f nt env ps as bd st hkk
  cases h
  exact⟨k,f,nt,env,ps,as,bd,st,hk,hkk,rfl⟩
 ·cases h
theorem putSt_length {Hl Hl':List Blk} {b:Nat} {st':LoopSt} (h:putSt Hl b st'=some Hl'):Hl'.length=Hl.length:=by
 obtain⟨k,f,nt,env,ps,as,bd,st,_,_,rfl⟩:=putSt_eq h
 simp
theorem old_putSt {Hl Hl':List Blk} {b:Nat} {st':LoopSt} (hp:putSt Hl b st'=some Hl') {n:Nat} (h:OldB n (lH Hl)):OldB n (lH Hl'):=by
 obtain⟨k,f,nt,env,ps,as,bd,st,hk,hkk,rfl⟩:=putSt_eq hp
 intro b' k' hb' hk'
 simp only[lH]at hk'
 rw[List.getElem?_set]at hk'
 split at hk'
 ·rename_i e
  subst e
  split at hk'
  ·cases hk'
   obtain⟨h1,h2⟩:=h b k hb' hk
   exact⟨h1,by rw[hkk]at h2;exact h2⟩
  ·cases hk'
 ·exact h b' k' hb' hk'
theorem readyB_eq {o:Option Blk} (h:readyB o=true):∃k f nt env ps as bd,o=some k∧k.kind= .rng f nt env ps as bd .ready:=by
 cases o with
 |none=>simp[readyB]at h
 |some k=>
  simp only[readyB]at h
  split at h
  ·rename_i f nt env ps as bd st hkk
   split at h
   ·exact⟨k,f,nt,env,ps,as,bd,rfl,hkk⟩
   ·cases h
  ·cases h
theorem Inv.putSt {Hl Hl':List Blk} {b:Nat} {st':LoopSt} (hi:Inv L (lH Hl) K w base) (hp:putSt Hl b st'=some Hl') {l sz:Nat} (hl:L.hp b=some (l,sz)):
  ∃rc,w.heap[l]? =some (.loop rc)∧(readyB Hl[b]? =true→rc.state= .ready)∧base≤l∧∀rc':Loop,rc'.params=rc.params→rc'.assign=rc.assign→rc'.body=rc.body→rc'.tmps=rc.tmps→rc'.defers=rc.defers→StOK st' rc'→
   Ext base L w L (w.putObj l (.loop rc'))∧Inv L (lH Hl') K (w.putObj l (.loop rc')) base:=by
 obtain⟨k,f,nt,env,ps,as,bd,st,hk,hkk,rfl⟩:=putSt_eq hp
 obtain⟨rc,hm,hrc,hb,h⟩:=hi.st (b:=b) (k:=k) (st':=st') hk hl hkk
 refine⟨rc,hm,fun hr=>?_,hb,fun rc' e1 e2 e3 e4 e5 e6=>?_⟩
 ·obtain⟨k',_,_,_,_,_,_,hk',hkk'⟩:=readyB_eq hr
  rw[hk]at hk'
  cases hk'
  rw[hkk]at hkk'
  cases hkk'
  exact hrc.st.1
 ·rw[lH_set Hl _ (List.getElem?_eq_some_iff.1 hk).1]
  exact h rc' e1 e2 e3 e4 e5 e6
theorem old_of_inv {Hl:List Blk} (hi:Inv L (lH Hl) K w base):OldB Hl.length (lH Hl):=by
 have hd:∀b x,L.hp b=some x→b < Hl.length:=fun b x hx=>by
  obtain⟨k,hk,_⟩:=hi.dom' b x.1 x.2 hx
  exact lt_of_lH (by rw[hk];simp)
 intro b k hb hk
 obtain⟨r,hr⟩:=hi.dom b k hk
 have hblk:=hi.blk b k r k.sz hk hr
 refine⟨fun row hrow=>?_,fun t=>?_⟩
 ·rw[belowL_iff]
  intro v hv
  obtain⟨i,hi'⟩:=List.mem_iff_getElem?.1 hrow
  obtain⟨j,hj⟩:=List.mem_iff_getElem?.1 hv
  obtain⟨_,_,u,_,hrep⟩:=hblk.cell hi' hj
  exact Rep.below hd v u hrep
 ·cases hkd:k.kind with
  |rng f nt env ps as bd st=>
   obtain⟨_,rc,_,hrc⟩:=hblk.rng _ _ _ _ _ _ _ hkd
   exact Rep.below hd _ _ (hrc.env t)
  |_=>rfl
end
end Go.Sym
end
