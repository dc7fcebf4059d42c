/- The law MovesDo of headlandlaw20 returns true, at arguments of the row's types whose lengths are at most uptoBulk: the program's Do and Back answer as the reference's do. Conditions: those of the given row (Rows.MovesDoUptoCardSaid), and no others. Part 6 of the proof. -/
import Derived.Test.YtfephppemgmokaaGreatDoorAe
import Derived.Test.YtfephppemgmokaaGreatDoorAb
import Derived.Shelf.Spec.SlicesInsertGrow
import Derived.Test.YtfephppemgmokaaGreatDoorProg
import Derived.Deep.RegionLaw
import Derived.Deep.LoopGhost
import Derived.Deep.RegionHeld3
import Derived.Deep.DrawnRows
import Derived.Laws.ResultCell
set_option linter.unusedVariables false
set_option linter.unusedSimpArgs false
set_option linter.unusedSectionVars false
section
namespace Go.Sym
open Go.RowKit
theorem run_copy_n {P:Program} (w:World) (dT sT ty elem:TypeId) (b o dLen dCap:Nat) (a:Addr) (sLen sCap k m:Nat) (cs:List Value)
  (hu:P.underlying dT=some (.slice elem)) (hs:(P.info? elem).map (·.size)=some k) (hm:Nat.min sLen dLen=m) (hn:cs.length=m*k)
  (hsrc:∀j v,cs[j]? =some v→w.cell? (a.add j)=some v) (hc:∀j,j < cs.length→(w.cell? ⟨b,o+j,none⟩).isSome=true) (hf:∀j,j < cs.length→w.frozen? ⟨b,o+j,none⟩=false) (h1:∀v ∈ cs,v.oneCell'=true):
  (Builtin.copy_ #[dT,sT] ty #[.slice (some ⟨b,o,none⟩) dLen dCap,.slice (some a) sLen sCap]).run P w= .ok (goInt m) (w.setCells b o cs):=by
 have hl:=run_loadCells_list (P:=P) w a cs hsrc
 have hst:=run_storeCells_cells (P:=P) b o cs 0 w (by simpa using hc) (by simpa using hf) h1
 cases hq:P.info? elem with
 |none=>simp[hq]at hs
 |some i=>
  have hi:i.size=k:=by simpa[hq] using hs
  simp[Builtin.copy_,run_underlying hu,Builtin.lenOf,Builtin.firstCells,sizeOf,typeInfo,hq,hi,hm,←hn,hl,hst]
theorem run_overlaps_two {P:Program} (w:World) (tS tR e:TypeId) (ht:P.underlying tS=some (.slice e)) (size:Nat) (hz:∀w,(Go.sizeOf e).run P w= .ok size w)
  (a b:Addr) (la ca lb cb:Nat) (hne:a.block≠b.block) (tA tB:TypeId) (kA kB:Nat) (hsa:w.shape? a.block=some (tA,kA)) (hsb:w.shape? b.block=some (tB,kB)) (hkA:kA≠0)
  (hfb:w.frozen? b=false) (hfe:w.frozen? { block:=b.block,off:=kB }=false):
  (Extern.SlicesOverlaps.overlaps #[tS,tS] #[tR] #[.slice (some a) la ca,.slice (some b) lb cb]).run P w= .ok (.bool false) w:=by
 have hnb:(a.block != b.block)=true:=by simpa using hne
 have hnb':(a.block==b.block)=false:=by simpa using hne
 change Sem.run P (Bind.bind (underlying tS) _) w=_
 by_cases h0:la=0∨lb=0∨size=0
 ·simp[run_underlying ht,hz,h0]
 ·cases kA with
  |zero=>exact absurd rfl hkA
  |succ kA=>
   simp[run_underlying ht,hz,h0,hnb,hnb',frozen,noView,viewAt,mayBeOne,stringish,shape,Sem.run,hsa,hsb,hfb,hfe]
end Go.Sym
end
section
namespace Go.Sym
open Go.RowKit Go.Proofs Go.Lib
theorem hsz54:(Tryz.prog.info? 54).map (·.size)=some 3:=by kernel_rfl
set_option maxHeartbeats 4000000 in
set_option maxRecDepth 100000 in
theorem ins_shift (b off n c i vb voff m vc:Nat) (cs vs:List Value) (w:World) (hi:i < n) (hm:0 < m) (hroom:n+m≤c) (hc63:c≤9223372036854775807) (hvb:vb≠b)
  (hcl:cs.length=n*3) (hvl:vs.length=m*3)
  (hcs:∀j v,cs[j]? =some v→w.cell? ⟨b,off+j,none⟩=some v) (hsp:∀j,j < (n+m)*3→(w.cell? ⟨b,off+j,none⟩).isSome=true) (hfz:∀j,w.frozen? ⟨b,j,none⟩=false)
  (hvs:∀j v,vs[j]? =some v→w.cell? ⟨vb,voff+j,none⟩=some v) (h1c:∀v ∈ cs,v.oneCell'=true) (h1v:∀v ∈ vs,v.oneCell'=true)
  (tA tB:TypeId) (kA kB:Nat) (hsa:w.shape? vb=some (tA,kA)) (hkA:kA≠0) (hsb:w.shape? b=some (tB,kB)):
  Calls Tryz.prog 84 #[.slice (some ⟨b,off,none⟩) n c,.int .i64 i,.slice (some ⟨vb,voff,none⟩) m vc] w fun e w'=>
   e= .returned (.slice (some ⟨b,off,none⟩) (n+m) c)∧w'=(w.drew.setCells b (off+(i+m)*3) (cs.drop (i*3))).setCells b (off+i*3) vs:=by
 have mixed:Tryz.prog.follows .mixedOrders=true:=by kernel_rfl
 have hz1: ¬((m:Int)=0):=by omega
 have hz2: ¬((i:Int)=(n:Int)):=by omega
 have hov:∀lb cb,(callFunc 124 #[.slice (some ⟨vb,voff,none⟩) m vc,.slice (some ⟨b,off+(i+m)*3,none⟩) lb cb]).run Tryz.prog w= .ok (.value (.bool false)) w:=fun lb cb=>by
  rw[run_callFunc_extern Tryz.func124 (by kernel_rfl) (by kernel_rfl) (by kernel_rfl) (e:=Extern.SlicesOverlaps.overlaps #[50,50] #[4]) (by kernel_rfl),
   run_overlaps_two w 50 4 54 Tryz.underlying50 3 Tryz.sizeOf54 ⟨vb,voff,none⟩ ⟨b,off+(i+m)*3,none⟩ m vc lb cb hvb tA tB kA kB hsa hsb hkA (hfz _) (hfz _)]
  rfl
 have hdl:(cs.drop (i*3)).length=(n-i)*3:=by rw[List.length_drop,hcl];omega
 have hw1:IntKind.i64.wrap ((i:Int)+(m:Int))=(i:Int)+(m:Int):=by rw[IntKind.wrap_i64];omega
 have hb1:(0:Int)≤(i:Int)+(m:Int):=by omega
 have hin:i≤n:=by omega
 have htn:((i:Int)+(m:Int)).toNat=i+m:=by omega
 have hb2: ¬(c=i+m):=by omega
 have hb3:(i:Int)≤(n:Int)+(m:Int):=by omega
 have hb4: ¬(c=i):=by omega
 have hcp1:∀ty dc sc,(Builtin.copy_ #[50,50] ty #[.slice (some ⟨b,off+(i+m)*3,none⟩) (n+m-(i+m)) dc,.slice (some ⟨b,off+i*3,none⟩) (n+m-i) sc]).run Tryz.prog w.drew= .ok (goInt ((n-i:Nat):Int)) (w.drew.setCells b (off+(i+m)*3) (cs.drop (i*3))):=fun ty dc sc=>
  run_copy_n w.drew _ _ ty 54 b (off+(i+m)*3) (n+m-(i+m)) dc ⟨b,off+i*3,none⟩ (n+m-i) sc 3 (n-i) (cs.drop (i*3)) Tryz.underlying50 hsz54 (by simp only[Nat.min_def];split <;> omega) hdl
   (fun j v hj=>by rw[Addr.add_lit,Nat.add_assoc];exact hcs (i*3+j) v (by rwa[List.getElem?_drop]at hj))
   (fun j hj=>by rw[Nat.add_assoc];exact hsp _ (by omega)) (fun j hj=>hfz _) (fun v hv=>h1c v (List.mem_of_mem_drop hv))
 obtain⟨W1,hW1⟩:∃W1,W1=w.drew.setCells b (off+(i+m)*3) (cs.drop (i*3)):=⟨_,rfl⟩
 have hsp1:∀k,k < (n+m)*3→(W1.cell? ⟨b,off+k,none⟩).isSome=true:=fun k hk=>by
  rw[hW1]
  exact isSome_setCells b _ _ _ (fun j hj=>by rw[Nat.add_assoc];exact hsp _ (by omega)) _ (hsp k hk)
 have hcp2:∀(W:World),(∀ x,W.cell? x=W1.cell? x)→(∀ x,W.frozen? x=W1.frozen? x)→∀ty dc,(Builtin.copy_ #[50,50] ty #[.slice (some ⟨b,off+i*3,none⟩) (n+m-i) dc,.slice (some ⟨vb,voff,none⟩) m vc]).run Tryz.prog W= .ok (goInt m) (W.setCells b (off+i*3) vs):=fun W hWc hWf ty dc=>
  run_copy_n W _ _ ty 54 b (off+i*3) (n+m-i) dc ⟨vb,voff,none⟩ m vc 3 m vs Tryz.underlying50 hsz54 (by simp only[Nat.min_def];split <;> omega) hvl
   (fun j v hj=>by
    rw[Addr.add_lit,hWc,hW1,World.cell?_setCells_out b _ _ _ _ (fun h _=>absurd h hvb)]
    exact hvs j v hj)
   (fun j hj=>by rw[hWc,Nat.add_assoc];exact hsp1 _ (by omega)) (fun j hj=>by rw[hWf,hW1,World.frozen?_setCells];exact hfz _) h1v
 rw[←hW1]at hcp1
 go_enter Tryz.func84,Tryz.ntmps84
 go_wp2_with (simp only[hov])
 go_region_law_o (refine step_copy_runI rfl _ _ 50 50 rfl _ _ (by simp[Act.eval,Act.put]) (by simp[Act.eval,Act.put]) (hcp1 _ _ _) ?_)
 go_wp2_with (at_builtin;refine wpList_copy_runI _ rfl _ _ 50 50 rfl _ _ rfl rfl (hcp2 _ (fun _=>rfl) (fun _=>rfl) _ _) ?_)
 go_ret
 first |exact⟨rfl,rfl⟩ |exact⟨rfl,by rw[hW1]⟩
end Go.Sym
end
section
namespace Go.Sym
open Go.RowKit Go.Proofs Go.Lib
theorem i54:∃(i:TypeInfo) (z:Value),Tryz.prog.info? 54=some i∧i.zero=some z∧i.size=3∧i.bytes≤64∧z.cells.size=3:=by
 have h:((Tryz.prog.info? 54).map fun i=>(i.zero.map fun z=>z.cells.size,i.size,decide (i.bytes≤64)))=some (some 3,3,true):=by kernel_rfl
 obtain⟨i,hi,h⟩:=Option.map_eq_some_iff.1 h
 simp only[Prod.mk.injEq,decide_eq_true_eq]at h
 obtain⟨z,hz,h1⟩:=Option.map_eq_some_iff.1 h.1
 exact⟨i,z,hi,hz,h.2.1,h.2.2,h1⟩
set_option maxHeartbeats 4000000 in
set_option maxRecDepth 100000 in
theorem ins_end_room (b off n c vb voff m vc:Nat) (vs:List Value) (w:World) (hm:0 < m) (hroom:n+m≤c) (hc63:c≤9223372036854775807)
  (hvl:vs.length=m*3) (hsp:∀j,j < (n+m)*3→(w.cell? ⟨b,off+j,none⟩).isSome=true) (hfz:∀j,w.frozen? ⟨b,j,none⟩=false)
  (hvs:∀j v,vs[j]? =some v→w.cell? ⟨vb,voff+j,none⟩=some v) (h1v:∀v ∈ vs,v.oneCell'=true):
  Calls Tryz.prog 84 #[.slice (some ⟨b,off,none⟩) n c,.int .i64 n,.slice (some ⟨vb,voff,none⟩) m vc] w fun e w'=>
   e= .returned (.slice (some ⟨b,off,none⟩) (n+m) c)∧w'=w.setCells b (off+n*3) vs:=by
 have mixed:Tryz.prog.follows .mixedOrders=true:=by kernel_rfl
 have hz1: ¬((m:Int)=0):=by omega
 obtain⟨i,z,hi,hz,hs,hb,_⟩:=i54
 have hsrc:Src Tryz.prog i.size 50 (.slice (some ⟨vb,voff,none⟩) m vc) m vs w:=Src.ofSlice w Tryz.underlying50 ⟨vb,voff,none⟩ m vc vs (by rw[hs];exact hvl) (fun j u hj=>by rw[Addr.add_lit];exact hvs j u hj) h1v
 have hsp':∀j,j < vs.length→(w.cell? ⟨b,off+n*i.size+j,none⟩).isSome=true:=fun j hj=>by
  rw[hs,Nat.add_assoc];exact hsp _ (by omega)
 have e3:off+n*i.size=off+n*3:=by rw[hs]
 go_enter Tryz.func84,Tryz.ntmps84
 go_wp2_with (at_builtin;refine wpList_append_room_src _ rfl _ _ 50 50 rfl 54 _ Tryz.underlying50 hi b off n c rfl _ rfl m vs hsrc hroom hsp' (fun j _=>hfz _) ?_)
 go_ret
 exact⟨rfl,rfl⟩
set_option maxHeartbeats 4000000 in
set_option maxRecDepth 100000 in
theorem ins_end_grow (b off n c vb voff m vc:Nat) (cs vs:List Value) (w:World) (hm:0 < m) (hnc:n≤c) (hroom:c < n+m) (hbig:n+m≤1073741824) (z:Value) (hz:∃i,Tryz.prog.info? 54=some i∧i.zero=some z∧i.size=3∧i.bytes≤64)
  (hcl:cs.length=n*3) (hvl:vs.length=m*3)
  (hcs:∀j v,cs[j]? =some v→w.cell? ⟨b,off+j,none⟩=some v)
  (hvs:∀j v,vs[j]? =some v→w.cell? ⟨vb,voff+j,none⟩=some v) (h1v:∀v ∈ vs,v.oneCell'=true):
  Calls Tryz.prog 84 #[.slice (some ⟨b,off,none⟩) n c,.int .i64 n,.slice (some ⟨vb,voff,none⟩) m vc] w fun e w'=>
   e= .returned (.slice (some ⟨w.heap.size,0,none⟩) (n+m) (grownCap w (n+m) c 54))∧
   w'=w.drew.alloc (.cells ((cs++vs).toArray++Builtin.zeroCells z.cells (grownCap w (n+m) c 54-(n+m))) 54):=by
 have mixed:Tryz.prog.follows .mixedOrders=true:=by kernel_rfl
 obtain⟨i,hi,hz,hs,hb⟩:=hz
 have hz1: ¬((m:Int)=0):=by omega
 have hsrc:Src Tryz.prog i.size 50 (.slice (some ⟨vb,voff,none⟩) m vc) m vs w:=Src.ofSlice w Tryz.underlying50 ⟨vb,voff,none⟩ m vc vs (by rw[hs];exact hvl) (fun j u hj=>by rw[Addr.add_lit];exact hvs j u hj) h1v
 have hold:(Builtin.firstCells i.size n (.slice (some ⟨b,off,none⟩) n c)).run Tryz.prog w.drew= .ok cs.toArray w.drew:=by
  rw[hs]
  exact run_firstCells_some w.drew 3 n ⟨b,off,none⟩ n c cs hcl (fun j v hj=>by rw[Addr.add_lit];exact hcs j v hj)
 have hfit:Builtin.nextslicecap (n+m) c*i.bytes≤281474976710656:=growslice_fits hroom (Nat.le_trans (Nat.mul_le_mul hbig hb) (by decide))
 have hrun:∀ty,(Builtin.append_ #[50,50] ty #[.slice (some ⟨b,off,none⟩) n c,.slice (some ⟨vb,voff,none⟩) m vc]).run Tryz.prog w=_:=fun ty=>
  run_append_grow_src w 50 50 ty 54 i _ Tryz.underlying50 hi hz (some ⟨b,off,none⟩) n c cs hold _ m vs hsrc hroom (by omega) hfit
 go_enter Tryz.func84,Tryz.ntmps84
 go_wp2_with (at_builtin;refine Lib.wpList_append_run _ rfl _ _ _ _ rfl _ _ rfl rfl _ _ (hrun _) ?_)
 all_goals (go_ret;exact⟨rfl,rfl⟩)
end Go.Sym
end
section
namespace Go.Sym
open Go.RowKit Go.Proofs Go.Lib
set_option maxHeartbeats 4000000 in
set_option maxRecDepth 100000 in
theorem ins_grow (b off n c i vb voff m vc:Nat) (cs vs:List Value) (w:World) (hi:i < n) (hm:0 < m) (hnc:n≤c) (hroom:c < n+m) (hbig:n+m≤1073741824) (z:Value) (hz:∃i,Tryz.prog.info? 54=some i∧i.zero=some z∧i.size=3∧i.bytes≤64) (hz3:z.cells.size=3)
  (hcl:cs.length=n*3) (hvl:vs.length=m*3)
  (hcs:∀j v,cs[j]? =some v→w.cell? ⟨b,off+j,none⟩=some v)
  (hvs:∀j v,vs[j]? =some v→w.cell? ⟨vb,voff+j,none⟩=some v) (h1c:∀v ∈ cs,v.oneCell'=true) (h1v:∀v ∈ vs,v.oneCell'=true):
  Calls Tryz.prog 84 #[.slice (some ⟨b,off,none⟩) n c,.int .i64 i,.slice (some ⟨vb,voff,none⟩) m vc] w fun e w'=>
   e= .returned (.slice (some ⟨w.heap.size,0,none⟩) (n+m) (grownCap w (n+m) c 54))∧
   w'=(((w.alloc (.cells ((cs.take (i*3)).toArray++Builtin.zeroCells z.cells (n+m-i)++Builtin.zeroCells z.cells (grownCap w (n+m) c 54-(n+m))) 54)).drew.setCells w.heap.size (i*3) vs).drew).setCells w.heap.size ((i+m)*3) (cs.drop (i*3)):=by
 have mixed:Tryz.prog.follows .mixedOrders=true:=by kernel_rfl
 obtain⟨i0,hi0,hz0,hzs,hzb⟩:=hz
 have hz1: ¬((m:Int)=0):=by omega
 have hz2: ¬((i:Int)=(n:Int)):=by omega
 have hz3':(c:Int) < (n:Int)+(m:Int):=by omega
 have hbw:b < w.heap.size:=block_lt_of_cell (hcs 0 _ (List.getElem?_eq_getElem (by omega)))
 have hvw:vb < w.heap.size:=block_lt_of_cell (hvs 0 _ (List.getElem?_eq_getElem (by omega)))
 have hkk:(n:Int)+(m:Int)-(i:Int)=((n+m-i:Nat):Int):=by omega
 have hik:i+(n+m-i)=n+m:=by omega
 have hold:(Builtin.firstCells i0.size i (.slice (some ⟨b,off,none⟩) i c)).run Tryz.prog w.drew= .ok (cs.take (i*3)).toArray w.drew:=by
  rw[hzs]
  exact run_firstCells_some w.drew 3 i ⟨b,off,none⟩ i c (cs.take (i*3)) (by rw[List.length_take];omega) (fun j v hj=>by
   rw[Addr.add_lit]
   rw[List.getElem?_take]at hj
   split at hj
   ·exact hcs j v hj
   ·cases hj)
 have hfit:Builtin.nextslicecap (n+m) c*i0.bytes≤281474976710656:=growslice_fits hroom (Nat.le_trans (Nat.mul_le_mul hbig hzb) (by decide))
 have hk48:(n+m-i)*i0.bytes≤281474976710656:=Nat.le_trans (Nat.mul_le_mul (show n+m-i≤1073741824 by omega) hzb) (by decide)
 have hrz:∀ty,(Builtin.append_ #[50,3] ty #[.slice (some ⟨b,off,none⟩) i c,.int .i64 ((n:Int)+(m:Int)-(i:Int))]).run Tryz.prog w=
   .ok (.slice (some ⟨w.heap.size,0,none⟩) (n+m) (grownCap w (n+m) c 54)) (w.drew.alloc (.cells ((cs.take (i*3)).toArray++Builtin.zeroCells z.cells (n+m-i)++Builtin.zeroCells z.cells (grownCap w (n+m) c 54-(n+m))) 54)):=fun ty=>by
  have h:=Lib.run_append_grow_zeros w 50 3 ty 54 i0 _ .i64 .i64 Tryz.underlying50 Tryz.underlying3 hi0 hz0 (some ⟨b,off,none⟩) i c (cs.take (i*3)) hold (n+m-i) (by omega) (by omega) (by omega) (by omega) hk48 (by rw[hik];exact hfit)
  rw[hik]at h
  rw[hkk]
  exact h
 obtain⟨G,hG⟩:∃G,G=grownCap w (n+m) c 54:=⟨_,rfl⟩
 obtain⟨ROW,hROW⟩:∃ROW:Array Value,ROW=(cs.take (i*3)).toArray++Builtin.zeroCells z.cells (n+m-i)++Builtin.zeroCells z.cells (G-(n+m)):=⟨_,rfl⟩
 rw[←hG]at hrz ⊢
 rw[←hROW]at hrz ⊢
 have hRl:(n+m)*3≤ROW.size:=by
  rw[hROW]
  simp only[Array.size_append,List.size_toArray,List.length_take,size_zeroCells,hz3,hcl]
  omega
 obtain⟨W1,hW1⟩:∃W1,W1=w.drew.alloc (.cells ROW 54):=⟨_,rfl⟩
 rw[←hW1]at hrz
 have hN:∀j,j < (n+m)*3→(W1.cell? ⟨w.heap.size,j,none⟩).isSome=true:=fun j hj=>by
  rw[hW1,World.cell?_alloc_at (w:=w.drew) ROW _ w.heap.size j rfl,Array.getElem?_eq_getElem (by omega)];rfl
 have hNf:∀j,W1.frozen? ⟨w.heap.size,j,none⟩=false:=fun j=>by rw[hW1];exact World.frozen?_alloc_at (w:=w.drew) ROW _ w.heap.size j rfl
 have hOb:∀j v,w.cell? ⟨b,j,none⟩=some v→W1.cell? ⟨b,j,none⟩=some v:=fun j v h=>by rw[hW1,World.cell?_alloc_past (w:=w.drew) _ b j hbw];exact h
 have hOv:∀j v,w.cell? ⟨vb,j,none⟩=some v→W1.cell? ⟨vb,j,none⟩=some v:=fun j v h=>by rw[hW1,World.cell?_alloc_past (w:=w.drew) _ vb j hvw];exact h
 have hcpA:∀(W:World),(∀ x,W.cell? x=W1.cell? x)→(∀ x,W.frozen? x=W1.frozen? x)→∀ty dc,(Builtin.copy_ #[50,50] ty #[.slice (some ⟨w.heap.size,i*3,none⟩) (n+m-i) dc,.slice (some ⟨vb,voff,none⟩) m vc]).run Tryz.prog W= .ok (goInt m) (W.setCells w.heap.size (i*3) vs):=fun W hWc hWf ty dc=>
  run_copy_n W _ _ ty 54 w.heap.size (i*3) (n+m-i) dc ⟨vb,voff,none⟩ m vc 3 m vs Tryz.underlying50 hsz54 (by simp only[Nat.min_def];split <;> omega) hvl
   (fun j v hj=>by rw[Addr.add_lit,hWc];exact hOv _ v (hvs j v hj))
   (fun j hj=>by rw[hWc];exact hN _ (by omega)) (fun j hj=>by rw[hWf];exact hNf _) h1v
 have hGn:n+m≤G:=by rw[hG];exact grownCap_ge w _ _ _
 have hG63:G≤9223372036854775807:=by
  have:=grownCap_le_maxLen w (n+m) c 54 (by unfold maxLen;omega)
  rw[←hG]at this
  unfold maxLen at this
  omega
 have hGi: ¬(G=i):=by omega
 have hGim: ¬(G=i+m):=by omega
 have hci: ¬(c=i):=by omega
 have hbN:b≠w.heap.size:=by omega
 have hdl:(cs.drop (i*3)).length=(n-i)*3:=by rw[List.length_drop,hcl];omega
 have hcpB:∀(W:World),(∀ x,W.cell? x=(W1.setCells w.heap.size (i*3) vs).cell? x)→(∀ x,W.frozen? x=(W1.setCells w.heap.size (i*3) vs).frozen? x)→∀ty dc sc,(Builtin.copy_ #[50,50] ty #[.slice (some ⟨w.heap.size,(i+m)*3,none⟩) (n+m-(i+m)) dc,.slice (some ⟨b,off+i*3,none⟩) (n-i) sc]).run Tryz.prog W= .ok (goInt ((n-i:Nat):Int)) (W.setCells w.heap.size ((i+m)*3) (cs.drop (i*3))):=fun W hWc hWf ty dc sc=>
  run_copy_n W _ _ ty 54 w.heap.size ((i+m)*3) (n+m-(i+m)) dc ⟨b,off+i*3,none⟩ (n-i) sc 3 (n-i) (cs.drop (i*3)) Tryz.underlying50 hsz54 (by simp only[Nat.min_def];split <;> omega) hdl
   (fun j v hj=>by
    rw[Addr.add_lit,hWc,World.cell?_setCells_out _ _ _ _ _ (fun h _=>absurd h hbN),Nat.add_assoc]
    exact hOb _ v (hcs (i*3+j) v (by rwa[List.getElem?_drop]at hj)))
   (fun j hj=>by rw[hWc];exact isSome_setCells _ _ _ _ (fun t ht=>hN _ (by omega)) _ (hN _ (by omega)))
   (fun j hj=>by rw[hWf,World.frozen?_setCells];exact hNf _) (fun v hv=>h1c v (List.mem_of_mem_drop hv))
 subst hW1
 have hE1:∀x,((w.alloc (.cells ROW 54)).drew).cell? x=(w.drew.alloc (.cells ROW 54)).cell? x:=fun x=>rfl
 have hE2:∀x,((w.alloc (.cells ROW 54)).drew).frozen? x=(w.drew.alloc (.cells ROW 54)).frozen? x:=fun x=>rfl
 have hF1:∀x,(((w.alloc (.cells ROW 54)).drew.setCells w.heap.size (i*3) vs).drew).cell? x=((w.drew.alloc (.cells ROW 54)).setCells w.heap.size (i*3) vs).cell? x:=fun x=>rfl
 have hF2:∀x,(((w.alloc (.cells ROW 54)).drew.setCells w.heap.size (i*3) vs).drew).frozen? x=((w.drew.alloc (.cells ROW 54)).setCells w.heap.size (i*3) vs).frozen? x:=fun x=>rfl
 have hw1:IntKind.i64.wrap ((i:Int)+(m:Int))=(i:Int)+(m:Int):=by rw[IntKind.wrap_i64];omega
 have hb1:(0:Int)≤(i:Int)+(m:Int):=by omega
 have hin:i≤n:=by omega
 have htn:((i:Int)+(m:Int)).toNat=i+m:=by omega
 have hb3:(i:Int)≤(n:Int):=by omega
 clear hkk hik hold hROW hG hRl hfit hk48
 go_enter Tryz.func84,Tryz.ntmps84
 go_wp2_with (first
  | (at_builtin;refine Lib.wpList_append_run _ rfl _ _ _ _ rfl _ _ rfl rfl _ _ (hrz _) ?_)
  | (at_builtin;refine wpList_copy_runI _ rfl _ _ 50 50 rfl _ _ rfl rfl (hcpA _ hE1 hE2 _ _) ?_)
  | (at_builtin;refine wpList_copy_runI _ rfl _ _ 50 50 rfl _ _ rfl rfl (hcpB _ (fun _=>rfl) (fun _=>rfl) _ _ _) ?_))
 go_region_law_o (refine step_copy_runI rfl _ _ 50 50 rfl (.slice (some ⟨w.heap.size,(i+m)*3,none⟩) (n+m-(i+m)) (G-(i+m))) (.slice (some ⟨b,off+i*3,none⟩) (n-i) (c-i)) (by simp[Act.eval,Act.put]) (by simp[Act.eval,Act.put]) (hcpB _ hF1 hF2 3 (G-(i+m)) (c-i)) ?_)
 go_wp2
 go_ret
 exact⟨rfl,rfl⟩
end Go.Sym
end
section
namespace Go.Sym
open Go.RowKit Go.Proofs Go.Lib
theorem run_clear_n {P:Program} (w:World) (t e ty:TypeId) (z:Value) (ht:P.underlying t=some (.slice e)) (hv:∀w,(zeroValue e).run P w= .ok z w) (h1:∀v ∈ z.cells.toList,v.oneCell'=true) (b o c:Nat)
  (hc:∀j,j < z.cells.size→(w.cell? ⟨b,o+j,none⟩).isSome=true) (hf:∀j,j < z.cells.size→w.frozen? ⟨b,o+j,none⟩=false):
  (Builtin.clear_ #[t] ty #[.slice (some ⟨b,o,none⟩) 1 c]).run P w= .ok (.tuple #[]) (w.setCells b o z.cells.toList):=by
 have hzc:(Builtin.zeroCells z.cells 1).toList=z.cells.toList:=by
  apply List.ext_getElem
  ·simp[Builtin.zeroCells]
  ·intro i h1 h2
   have hi:i < z.cells.size:=by simpa using h2
   simp[Builtin.zeroCells,Nat.mod_eq_of_lt hi,hi]
 have hst:=run_storeCells_cells (P:=P) b o z.cells.toList 0 w (by simpa using hc) (by simpa using hf) h1
 simp only[Nat.add_zero]at hst
 simp[Builtin.clear_,run_underlying ht,hv,hzc,hst]
def zRow:Value:=.agg #[.slice none 0 0,.int .i64 0,.int .i64 0]
set_option maxHeartbeats 4000000 in
set_option maxRecDepth 1000000 in
theorem del_one (b off n c i:Nat) (cs:List Value) (w:World) (hi:i < n) (hnc:n≤c) (hc63:c≤9223372036854775807)
  (hcl:cs.length=n*3) (hcs:∀j v,cs[j]? =some v→w.cell? ⟨b,off+j,none⟩=some v) (hfz:∀j,w.frozen? ⟨b,j,none⟩=false) (h1c:∀v ∈ cs,v.oneCell'=true):
  Calls Tryz.prog 89 #[.slice (some ⟨b,off,none⟩) n c,.int .i64 i,.int .i64 ((i+1:Nat):Int)] w fun e w'=>
   e= .returned (.slice (some ⟨b,off,none⟩) (n-1) c)∧w'=(w.drew.setCells b (off+i*3) (cs.drop ((i+1)*3))).setCells b (off+(n-1)*3) zRow.cells.toList:=by
 have mixed:Tryz.prog.follows .mixedOrders=true:=by kernel_rfl
 obtain⟨i0,z0,hi0,hz0,hs0,hb0,_⟩:=i54
 have hl:∀j,j < n*3→(w.cell? ⟨b,off+j,none⟩).isSome=true:=fun j hj=>by
  rw[hcs j _ (List.getElem?_eq_getElem (by omega))];rfl
 obtain⟨news,hnews⟩:∃news,news=cs.drop ((i+1)*3):=⟨_,rfl⟩
 have hlen:news.length=(n-(i+1))*3:=by rw[hnews,List.length_drop,hcl];omega
 obtain⟨A,hA,hsrc⟩:∃A:Addr,(if c=i+1 then some (⟨b,off,none⟩:Addr)else some ⟨b,off+(i+1)*3,none⟩)=some A∧Hid (∀ t u,news[t]? =some u→w.drew.cell? (A.add t)=some u):=by
  by_cases h:c=i+1
  ·refine⟨⟨b,off,none⟩,by simp[h],fun t u hu=>?_⟩
   have h0:news.length=0:=by rw[hlen];omega
   rw[List.length_eq_zero_iff.1 h0]at hu
   simp at hu
  ·refine⟨⟨b,off+(i+1)*3,none⟩,by simp[h],fun t u hu=>?_⟩
   rw[Addr.add_lit,Nat.add_assoc]
   rw[hnews,List.getElem?_drop]at hu
   exact hcs _ u hu
 have s1:Hid (news.length=(n-(i+1))*3):=hlen
 have s2:Hid (∀ u ∈ news,u.oneCell'=true):=fun u hu=>h1c u (List.mem_of_mem_drop (by rw[hnews]at hu;exact hu))
 have s3:Hid (∀ t,t < news.length→(w.drew.cell? ⟨b,off+i*3+t,none⟩).isSome=true∧w.drew.frozen? ⟨b,off+i*3+t,none⟩=false):=fun t ht=>by
  rw[hlen]at ht
  rw[Nat.add_assoc]
  exact⟨hl _ (by omega),hfz _⟩
 obtain⟨W1,hW1⟩:∃W1,W1=w.drew.setCells b (off+i*3) news:=⟨_,rfl⟩
 have hl1:∀j,j < n*3→(W1.cell? ⟨b,off+j,none⟩).isSome=true:=fun j hj=>by
  rw[hW1]
  exact isSome_setCells b _ _ _ (fun j hj=>by rw[Nat.add_assoc];exact hl _ (by omega)) _ (hl j hj)
 have hcl:∀ty dc,(Builtin.clear_ #[50] ty #[.slice (some ⟨b,off+(i+(n-(i+1)))*3,none⟩) (n-(i+(n-(i+1)))) dc]).run Tryz.prog W1= .ok (.tuple #[]) (W1.setCells b (off+(n-1)*3) zRow.cells.toList):=fun ty dc=>by
  rw[show i+(n-(i+1))=n-1 by omega,show n-(n-1)=1 by omega]
  exact run_clear_n W1 50 54 ty zRow Tryz.underlying50 Tryz.zeroValue54 (by decide) b (off+(n-1)*3) dc (fun j hj=>by
   have hj':j < 3:=hj
   rw[Nat.add_assoc];exact hl1 _ (by omega)) (fun j _=>by rw[hW1,World.frozen?_setCells];exact hfz _)
 obtain⟨Z,hZ⟩:∃Z,Z=zRow.cells.toList:=⟨_,rfl⟩
 rw[←hZ]at hcl ⊢
 have hW:Hid (W1=w.drew.setCells b (off+i*3) news):=hW1
 have hic:i≤c:=by omega
 have hjc:i+1≤c:=by omega
 have hin:i≤n:=by omega
 have hjn:i+1≤n:=by omega
 have hne: ¬((i:Int)=(i:Int)+1):=by omega
 have hj1:(i:Int)+1≤(n:Int):=by omega
 have hj0:(0:Int)≤(i:Int)+1:=by omega
 have hw1:n-1=i+(n-(i+1)):=by omega
 subst hnews
 clear hW1 hlen hl hl1 hZ
 go_enter Tryz.func89,Tryz.ntmps89
 go_wp2_with fail
 go_region_law_o (refine step_append_room rfl (.tmp 22) (.tmp 25) 50 rfl 54 i0 3 Tryz.underlying50 hi0 hs0 b off i c (by simp[Act.eval,Act.put]) A (n-(i+1)) (c-(i+1)) (cs.drop ((i+1)*3)) (by simp[Act.eval,Act.put]) s1.out hsrc.out s2.out (by omega) s3.out ?_;rw[←hW.out])
 go_wp2
 go_ret
 refine⟨?_,?_⟩
 ·rw[hw1];rfl
 ·rw[hW.out,hw1]
end Go.Sym
end
section
namespace Go.Sym
open Go.RowKit Go.Proofs Go.Lib
theorem setCells_get (b:Nat) (vs:List Value) (o:Nat) (w:World) (h:∀j,j < vs.length→(w.cell? ⟨b,o+j,none⟩).isSome=true) (x:Nat):
  (w.setCells b o vs).cell? ⟨b,x,none⟩=if o≤x∧x < o+vs.length then vs[x-o]? else w.cell? ⟨b,x,none⟩:=by
 split
 ·rename_i hx
  have:=World.cell?_setCells_in b vs o w h (x-o) (by omega)
  rw[show o+(x-o)=x by omega]at this
  rw[this,List.getElem?_eq_getElem]
 ·rename_i hx
  exact World.cell?_setCells_out b vs o w ⟨b,x,none⟩ (fun _ _=>by simp only at *;omega)
theorem win_mem {L:Lay} {H:List Blk} {K:List Nat} {w:World} {base:Nat} (hi:Inv L (lH H) (lK K) w base) {b off n:Nat} {cap:Option Nat} {k:Blk} {u:Value} (hk:H[b]? =some k) (hkd:rngB k.kind=false) (hsz:k.sz=3) (hn:0 < n)
  (hl:off+n≤k.rows.length) (hp:purR ((k.rows.drop off).take n)=true) (h:Rep L w (.win b off n cap) u):
  ∃(r cp:Nat) (cs:Array Value) (e:TypeId) (us:List Value),L.hp b=some (r,3)∧u= .slice (some ⟨r,off*3,none⟩) n cp∧n≤cp∧cp≤9223372036854775807∧w.heap[r]? =some (.cells cs e (0,0))∧RoomOK w r ((off+cp)*3)∧
   RowsV L w 3 (((k.rows.drop off).take n).map normL) us∧us.length=n*3∧(∀ j v,us[j]? =some v→w.cell? ⟨r,off*3+j,none⟩=some v):=by
 obtain⟨r,sz,a,cp,hr,rfl,h1,h2,_,h3,hro⟩:=by simpa only[Rep] using h
 obtain⟨k',hk',rfl⟩:=hi.dom' b r sz hr
 have e:k'=k:=by
  have:H[b]? =some k':=hk'
  rw[hk]at this
  cases this
  rfl
 subst e
 have hbk:=hi.blk b k' r k'.sz hk' hr
 obtain⟨cs,e,hm,hs,hc⟩:=hbk.mem hkd
 rw[hsz]at hr h3 hro hc
 obtain rfl:a=⟨r,off*3,none⟩:=h3.resolve_left (by omega)
 obtain⟨us,u1,u2,u3⟩:=rowsV_norm (L:=L) (w:=w) (cs:=cs) (sz:=3) (p:=off*3) hp (fun i row hrow=>by
  rw[List.getElem?_take]at hrow
  split at hrow
  ·rw[List.getElem?_drop]at hrow
   obtain⟨c1,c2⟩:=hc _ row hrow
   refine⟨c1,fun o v hv=>?_⟩
   obtain⟨_,_,u,hu,hx⟩:=c2 o v hv
   exact⟨u,by rwa[show off*3+i*3+o=(off+i)*3+o by omega],hx⟩
  ·cases hrow)
 refine⟨r,cp,cs,e,us,hr,rfl,h1,h2,hm,hro,u1,by rw[u2];simp;omega,fun j v hj=>?_⟩
 rw[cell_of_row w r _ cs e (0,0) hm]
 exact u3 j v hj
theorem frozen_no {w:World} {r:Nat} {cs:Array Value} {e:TypeId} (hm:w.heap[r]? =some (.cells cs e (0,0))) (j:Nat):w.frozen? ⟨r,j,none⟩=false:=by
 simp[World.frozen?,hm]
theorem shape_of_cell {w:World} {g p:Nat} {v:Value} (h:w.cell? ⟨g,p,none⟩=some v):∃e n,w.shape? g=some (e,n)∧n≠0:=by
 unfold World.cell? at h
 unfold World.shape?
 cases hm:w.heap[g]? with
 |none=>simp[hm]at h
 |some o=>
  rw[hm]at h
  cases o with
  |cells c e f=>
   refine⟨e,c.size,rfl,fun h0=>?_⟩
   simp at h
   obtain⟨hl,_⟩:=Array.getElem?_eq_some_iff.1 h
   omega
  |_=>cases h
def lstN (n:Nat) (rows:List (List AV)):AV:=.lst (szOf n rows) rows .no
def insF:List AV→List Blk→List Nat→Option (Res×List Blk×List Nat)
 | [.win b off n _,.int .i64 i,.lst 3 vs _],H,K=>match H[b]? with
  |some k=>if rngB k.kind=false∧k.sz=3∧0 < n∧off+n≤k.rows.length∧purR ((k.rows.drop off).take n)=true∧0≤i∧i≤n∧0 < vs.length∧n+vs.length≤1073741824 then
    some (.ret (lstN 3 ((((k.rows.drop off).take n).map normL).take i.toNat++vs++(((k.rows.drop off).take n).map normL).drop i.toNat)),H.set b ⟨3,[],.dead⟩,K)else none
  |none=>none
 |_,_,_=>none
theorem ins_sound {args:List AV} {H:List Blk} {K:List Nat} {q:Res×List Blk×List Nat} (h:insF args H K=some q):
  (H.length≤q.2.1.length∧K.length≤q.2.2.length∧∀n,n≤H.length→OldB n (lH H)→OldB n (lH q.2.1))∧
  ∀L w base (us:Array Value),Inv L (lH H) (lK K) w base→RepL L w args us.toList→Calls Tryz.prog 84 us w (Ends base L w q):=by
 unfold insF at h
 split at h
 ·rename_i b off n cap i vs c
  split at h
  ·rename_i k hk
   split at h
   ·rename_i hcond
    obtain⟨hkd,hsz,hn,hl,hp,hi0,hin,hv0,hbig⟩:=hcond
    cases h
    have hbl:b < H.length:=(List.getElem?_eq_some_iff.1 hk).1
    refine⟨⟨by simp,Nat.le_refl _,fun n _ ho=>oldB_dead hbl ho⟩,fun L w base us hi hr=>?_⟩
    obtain⟨u0,q0,e0,r0,hr⟩:=by simpa only[RepL] using hr
    obtain⟨u1,q1,e1,r1,hr⟩:=by simpa only[RepL] using hr
    obtain⟨u2,q2,e2,r2,hr⟩:=by simpa only[RepL] using hr
    obtain rfl:q2=[]:=by simpa only[RepL] using hr
    subst e2 e1
    obtain rfl:us= #[u0,u1,u2]:=by
     have:=congrArg List.toArray e0
     simpa using this
    obtain⟨r,cp,cs,e,cv,hrb,rfl,hncp,hcp63,hm,hro,hrow,hcl,hcs⟩:=win_mem hi hk hkd hsz hn hl hp r0
    obtain rfl:u1= .int .i64 i:=by simpa only[Rep] using r1
    obtain⟨i,rfl⟩:∃j:Nat,i=j:=⟨i.toNat,by omega⟩
    simp only[Int.toNat_natCast]
    obtain⟨ad,m,vc,rfl,hvm,hmv,hvc63,hvr,_⟩:=by simpa only[Rep] using r2
    obtain⟨g,p,rfl,hvr'⟩:=hvr.resolve_left (fun e=>by rw[e]at hv0;simp at hv0)
    obtain⟨vv,hvrow,hvcell⟩:=rowsV_mem hvr'
    have hvl:vv.length=m*3:=by rw[hvrow.length,hvm]
    have hm0:0 < m:=by omega
    have hrb':L.hp b=some (r,k.sz):=by rw[hsz];exact hrb
    have hdd:deadB k.kind=false:=live_of hkd
    obtain⟨hS,hB⟩:=hi.apart b k r k.sz hk hdd hrb'
    have hgr:g≠r:=by
     intro e
     subst e
     cases vs with
     |nil=>simp at hv0
     |cons row rest=>
      obtain⟨hrl,hrc,_⟩:=by simpa only[RepR] using hvr'
      cases row with
      |nil=>simp at hrl
      |cons x y=>
       obtain⟨hq,_⟩:=by simpa only[RepC] using hrc
       rcases hq with hq |⟨_,hq⟩
       ·exact hS _ hq
       ·exact hB hq
    have hfz:=frozen_no (w:=w) hm
    have hone:=hrow.one
    have honev:=hvrow.one
    have hb0:base≤r:=(hi.blk b k r k.sz hk hrb').base
    have hlr:r < w.heap.size:=(Array.getElem?_eq_some_iff.1 hm).1
    obtain⟨z,hz⟩:∃z,(∃ i,Tryz.prog.info? 54=some i∧i.zero=some z∧i.size=3∧i.bytes≤64)∧z.cells.size=3:=by
     obtain⟨i,z,h1,h2,h3,h4,h5⟩:=i54
     exact⟨z,⟨i,h1,h2,h3,h4⟩,h5⟩
    have hrows:RowsV L w 3 ((((k.rows.drop off).take n).map normL).take i++vs++(((k.rows.drop off).take n).map normL).drop i) (cv.take (i*3)++vv++cv.drop (i*3)):=((hrow.take i).append hvrow).append (hrow.drop i)
    have hlen:((((k.rows.drop off).take n).map normL).take i++vs++(((k.rows.drop off).take n).map normL).drop i).length=n+m:=by simp;omega
    have hvlen:(cv.take (i*3)++vv++cv.drop (i*3)).length=(n+m)*3:=by rw[hrows.length,hlen]
    generalize (((k.rows.drop off).take n).map normL).take i++vs++(((k.rows.drop off).take n).map normL).drop i=rows' at*
    have hget:∀j v,(cv.take (i*3)++vv++cv.drop (i*3))[j]? =some v→(j < i*3∧cv[j]? =some v)∨(i*3≤j∧j < (i+m)*3∧vv[j-i*3]? =some v)∨((i+m)*3≤j∧j < (n+m)*3∧(cv.drop (i*3))[j-(i+m)*3]? =some v):=fun j v hj=>by
     have hjl:j < (n+m)*3:=by rw[←hvlen];exact(List.getElem?_eq_some_iff.1 hj).1
     have htl:(cv.take (i*3)).length=i*3:=by rw[List.length_take];omega
     by_cases h1:j < i*3
     ·rw[List.append_assoc,List.getElem?_append_left (by omega),List.getElem?_take,if_pos h1]at hj
      exact .inl ⟨h1,hj⟩
     ·rw[List.append_assoc,List.getElem?_append_right (by omega),htl]at hj
      by_cases h2:j < (i+m)*3
      ·rw[List.getElem?_append_left (by omega)]at hj
       exact .inr (.inl ⟨by omega,h2,hj⟩)
      ·rw[List.getElem?_append_right (by omega),hvl]at hj
       exact .inr (.inr ⟨by omega,hjl,by rwa[show j-i*3-m*3=j-(i+m)*3 by omega]at hj⟩)
    have fin:∀(gg p0 N cc:Nat) (w':World),(gg=r∨w.heap.size≤gg)→gg < w'.heap.size→Below base w w'→(∀ x,x < w.heap.size→x≠r→w'.heap[x]? =w.heap[x]?)→(∀ o:Nat,(w.cell? ⟨r,o,none⟩).isSome=true→(w'.cell? ⟨r,o,none⟩).isSome=true)→
      p0+(n+m)*3≤N→n+m≤cc→cc≤9223372036854775807→(∀ j v,(cv.take (i*3)++vv++cv.drop (i*3))[j]? =some v→w'.cell? ⟨gg,p0+j,none⟩=some v)→
      Ends base L w (.ret (lstN 3 rows'),H.set b ⟨3,[],.dead⟩,K) (.returned (.slice (some ⟨gg,p0,none⟩) (n+m) cc)) w':=fun gg p0 N cc w' h1 h2 h3 h4 h5 h6 h7 h8 h9=>by
     obtain⟨hx,hi'⟩:=take_dead (N:=N) hi hk hdd hrb' h1 h2 h3 h4 h5 ⟨cs,e,hm⟩
     rw[hsz]at hi'
     refine⟨_,hx,hi',Rep.szOf ?_⟩
     simp only[Rep]
     refine⟨some ⟨gg,p0,none⟩,n+m,cc,rfl,hlen,h7,h8,.inr ⟨gg,p0,rfl,?_⟩,trivial⟩
     exact repR_of' (hrows.ext hx) (fun j hj=>.inr ⟨rfl,by rw[hvlen]at hj;omega⟩) h9
    by_cases hroom:n+m≤cp
    ·have hsp:∀j,j < (n+m)*3→(w.cell? ⟨r,off*3+j,none⟩).isSome=true:=fun j hj=>hro _ (by rw[Nat.add_mul];omega)
     by_cases hlt:i < n
     ·obtain⟨eA,kA,hsA,hkA⟩:=shape_of_cell (hvcell 0 _ (List.getElem?_eq_getElem (by omega)))
      refine Calls.mono (ins_shift r (off*3) n cp i g p m vc cv vv w hlt hm0 hroom hcp63 hgr hcl hvl hcs hsp hfz hvcell hone honev eA e kA cs.size hsA hkA (by simp[World.shape?,hm])) ?_
      rintro ee w' ⟨rfl,rfl⟩
      refine fin r (off*3) ((off+(n+m))*3) cp _ (.inl rfl) ?_ ?_ ?_ ?_ (by omega) hroom hcp63 ?_
      ·have:=(below_setCells (B:=0) r (Nat.zero_le _) vv (off*3+i*3) (below_setCells (B:=0) r (Nat.zero_le _) (cv.drop (i*3)) (off*3+(i+m)*3) ((Below.refl 0 w).drew))).size
       omega
      ·exact below_setCells r hb0 _ _ (below_setCells r hb0 _ _ ((Below.refl base w).drew))
      ·intro x _ hx
       rw[setCells_heap _ _ _ _ _ hx,setCells_heap _ _ _ _ _ hx]
       rfl
      ·intro o ho
       exact setCells_some _ _ _ _ _ (setCells_some _ _ _ _ _ ho)
      ·intro j v hj
       have hd1:(cv.drop (i*3)).length=(n-i)*3:=by rw[List.length_drop,hcl];omega
       rw[setCells_get _ _ _ _ (fun t ht=>setCells_some _ _ _ _ _ (by show(w.cell? _).isSome=true;rw[Nat.add_assoc];exact hsp _ (by omega))),
        setCells_get _ _ _ _ (fun t ht=>by show(w.cell? _).isSome=true;rw[Nat.add_assoc];exact hsp _ (by omega))]
       rcases hget j v hj with⟨a1,a2⟩ |⟨a1,a2,a3⟩ |⟨a1,a2,a3⟩
       ·rw[if_neg (by omega),if_neg (by omega)]
        exact hcs j v a2
       ·rw[if_pos (by omega),show off*3+j-(off*3+i*3)=j-i*3 by omega]
        exact a3
       ·rw[if_neg (by omega),if_pos (by omega),show off*3+j-(off*3+(i+m)*3)=j-(i+m)*3 by omega]
        exact a3
     ·obtain rfl:i=n:=by omega
      refine Calls.mono (ins_end_room r (off*3) i cp g p m vc vv w hm0 hroom hcp63 hvl hsp hfz hvcell honev) ?_
      rintro ee w' ⟨rfl,rfl⟩
      refine fin r (off*3) ((off+(i+m))*3) cp _ (.inl rfl) ?_ ?_ ?_ ?_ (by omega) hroom hcp63 ?_
      ·have:=(below_setCells (B:=0) r (Nat.zero_le _) vv (off*3+i*3) (Below.refl 0 w)).size
       omega
      ·exact below_setCells r hb0 _ _ (Below.refl base w)
      ·intro x _ hx
       rw[setCells_heap _ _ _ _ _ hx]
      ·intro o ho
       exact setCells_some _ _ _ _ _ ho
      ·intro j v hj
       rw[setCells_get _ _ _ _ (fun t ht=>by rw[Nat.add_assoc];exact hsp _ (by omega))]
       rcases hget j v hj with⟨a1,a2⟩ |⟨a1,a2,a3⟩ |⟨a1,a2,a3⟩
       ·rw[if_neg (by omega)]
        exact hcs j v a2
       ·rw[if_pos (by omega),show off*3+j-(off*3+i*3)=j-i*3 by omega]
        exact a3
       ·omega
    ·have hgc:n+m≤grownCap w (n+m) cp 54∧grownCap w (n+m) cp 54≤9223372036854775807:=by
      refine⟨grownCap_ge w _ _ _,?_⟩
      have:=grownCap_le_maxLen w (n+m) cp 54 (by unfold maxLen;omega)
      unfold maxLen at this
      omega
     obtain⟨hG1,hG2⟩:=hgc
     by_cases hlt:i < n
     ·refine Calls.mono (ins_grow r (off*3) n cp i g p m vc cv vv w hlt hm0 hncp (by omega) (by omega) z hz.1 hz.2 hcl hvl hcs hvcell hone honev) ?_
      rintro ee w' ⟨rfl,rfl⟩
      generalize hG:grownCap w (n+m) cp 54=G at*
      generalize hR:(cv.take (i*3)).toArray++Builtin.zeroCells z.cells (n+m-i)++Builtin.zeroCells z.cells (G-(n+m))=ROW
      have hRl:(n+m)*3≤ROW.size:=by
       rw[←hR]
       simp only[Array.size_append,List.size_toArray,List.length_take,size_zeroCells,hz.2,hcl]
       omega
      have hRg:∀j v,j < i*3→cv[j]? =some v→ROW[j]? =some v:=fun j v hj hv=>by
       have htl:(cv.take (i*3)).length=i*3:=by rw[List.length_take];omega
       rw[←hR,Array.append_assoc,Array.getElem?_append_left (by simpa[htl] using hj)]
       simpa[List.getElem?_take,hj] using hv
      have hbw:Below w.heap.size w (((w.alloc (.cells ROW 54)).drew.setCells w.heap.size (i*3) vv).drew.setCells w.heap.size ((i+m)*3) (cv.drop (i*3))):=
       below_setCells _ (Nat.le_refl _) _ _ (below_setCells _ (Nat.le_refl _) _ _ ((Below.refl _ w).alloc (Nat.le_refl _) _).drew).drew
      have hd1:(cv.drop (i*3)).length=(n-i)*3:=by rw[List.length_drop,hcl];omega
      have hN:∀j,j < (n+m)*3→((w.alloc (.cells ROW 54)).drew.cell? ⟨w.heap.size,j,none⟩).isSome=true:=fun j hj=>by
       show((w.alloc (.cells ROW 54)).cell? ⟨w.heap.size,j,none⟩).isSome=true
       rw[cell_of_row _ _ _ ROW 54 (0,0) (heap_alloc_new w _),Array.getElem?_eq_getElem (by omega)];rfl
      refine fin w.heap.size 0 ((n+m)*3) G _ (.inr (Nat.le_refl _)) ?_ (hbw.mono hi.top) (fun x hx _=>hbw.block x hx) (fun o ho=>?_) (by omega) hG1 hG2 ?_
      ·have:w.heap.size < (w.alloc (.cells ROW 54)).heap.size:=by simp
       refine Nat.lt_of_lt_of_le this ?_
       exact((below_setCells (B:=0) w.heap.size (Nat.zero_le _) (cv.drop (i*3)) ((i+m)*3) (below_setCells (B:=0) w.heap.size (Nat.zero_le _) vv (i*3) (Below.refl 0 (w.alloc (.cells ROW 54))).drew).drew)).size
      ·rw[cell_of_heap (hbw.block r hlr)];exact ho
      ·intro j v hj
       rw[Nat.zero_add,setCells_get w.heap.size (cv.drop (i*3)) ((i+m)*3) (((w.alloc (.cells ROW 54)).drew.setCells w.heap.size (i*3) vv).drew) (fun t ht=>by
        show((((w.alloc (.cells ROW 54)).drew).setCells w.heap.size (i*3) vv).cell? _).isSome=true
        exact setCells_some _ _ _ _ _ (hN _ (by omega)))]
       rcases hget j v hj with⟨a1,a2⟩ |⟨a1,a2,a3⟩ |⟨a1,a2,a3⟩
       ·rw[if_neg (by omega)]
        show(((w.alloc (.cells ROW 54)).drew).setCells w.heap.size (i*3) vv).cell? ⟨w.heap.size,j,none⟩=_
        rw[setCells_get _ _ _ _ (fun t ht=>hN _ (by omega)),if_neg (by omega)]
        show(w.alloc (.cells ROW 54)).cell? ⟨w.heap.size,j,none⟩=_
        rw[cell_of_row _ _ _ ROW 54 (0,0) (heap_alloc_new w _)]
        exact hRg j v a1 a2
       ·rw[if_neg (by omega)]
        show(((w.alloc (.cells ROW 54)).drew).setCells w.heap.size (i*3) vv).cell? ⟨w.heap.size,j,none⟩=_
        rw[setCells_get _ _ _ _ (fun t ht=>hN _ (by omega)),if_pos (by omega)]
        exact a3
       ·rw[if_pos (by omega)]
        exact a3
     ·obtain rfl:i=n:=by omega
      refine Calls.mono (ins_end_grow r (off*3) i cp g p m vc cv vv w hm0 hncp (by omega) (by omega) z hz.1 hcl hvl hcs hvcell honev) ?_
      rintro ee w' ⟨rfl,rfl⟩
      generalize hG:grownCap w (i+m) cp 54=G at*
      have hbw:Below w.heap.size w (w.drew.alloc (.cells ((cv++vv).toArray++Builtin.zeroCells z.cells (G-(i+m))) 54)):=((Below.refl _ w).drew).alloc (Nat.le_refl _) _
      refine fin w.heap.size 0 ((i+m)*3) G _ (.inr (Nat.le_refl _)) ?_ (hbw.mono hi.top) (fun x hx _=>hbw.block x hx) (fun o ho=>?_) (by omega) hG1 hG2 ?_
      ·simp
      ·rw[cell_of_heap (hbw.block r hlr)];exact ho
      ·intro j v hj
       have hjl:j < (i+m)*3:=by rw[←hvlen];exact(List.getElem?_eq_some_iff.1 hj).1
       rw[Nat.zero_add,cell_of_row _ w.heap.size _ _ 54 (0,0) (heap_alloc_new w.drew _),Array.getElem?_append_left (by simp[hcl,hvl];omega)]
       have e1:cv.take (i*3)=cv:=List.take_of_length_le (by omega)
       have e2:cv.drop (i*3)=[]:=List.drop_of_length_le (by omega)
       rw[e1,e2,List.append_nil]at hj
       simpa using hj
   ·cases h
  ·cases h
 ·cases h
end Go.Sym
end
section
namespace Go.Sym
open Go.RowKit Go.Proofs Go.Lib
def delF:List AV→List Blk→List Nat→Option (Res×List Blk×List Nat)
 | [.win b off n _,.int .i64 i,.int .i64 j],H,K=>match H[b]? with
  |some k=>if rngB k.kind=false∧k.sz=3∧0 < n∧off+n≤k.rows.length∧purR ((k.rows.drop off).take n)=true∧0≤i∧i < n∧j=i+1 then
    some (.ret (lstN 3 ((((k.rows.drop off).take n).map normL).take i.toNat++(((k.rows.drop off).take n).map normL).drop (i.toNat+1))),H.set b ⟨3,[],.dead⟩,K)else none
  |none=>none
 |_,_,_=>none
theorem del_sound {args:List AV} {H:List Blk} {K:List Nat} {q:Res×List Blk×List Nat} (h:delF args H K=some q):
  (H.length≤q.2.1.length∧K.length≤q.2.2.length∧∀n,n≤H.length→OldB n (lH H)→OldB n (lH q.2.1))∧
  ∀L w base (us:Array Value),Inv L (lH H) (lK K) w base→RepL L w args us.toList→Calls Tryz.prog 89 us w (Ends base L w q):=by
 unfold delF at h
 split at h
 ·rename_i b off n cap i j
  split at h
  ·rename_i k hk
   split at h
   ·rename_i hcond
    obtain⟨hkd,hsz,hn,hl,hp,hi0,hin,rfl⟩:=hcond
    cases h
    have hbl:b < H.length:=(List.getElem?_eq_some_iff.1 hk).1
    refine⟨⟨by simp,Nat.le_refl _,fun n _ ho=>oldB_dead hbl ho⟩,fun L w base us hi hr=>?_⟩
    obtain⟨u0,q0,e0,r0,hr⟩:=by simpa only[RepL] using hr
    obtain⟨u1,q1,e1,r1,hr⟩:=by simpa only[RepL] using hr
    obtain⟨u2,q2,e2,r2,hr⟩:=by simpa only[RepL] using hr
    obtain rfl:q2=[]:=by simpa only[RepL] using hr
    subst e2 e1
    obtain rfl:us= #[u0,u1,u2]:=by
     have:=congrArg List.toArray e0
     simpa using this
    obtain⟨r,cp,cs,e,cv,hrb,rfl,hncp,hcp63,hm,hro,hrow,hcl,hcs⟩:=win_mem hi hk hkd hsz hn hl hp r0
    obtain rfl:u1= .int .i64 i:=by simpa only[Rep] using r1
    obtain rfl:u2= .int .i64 (i+1):=by simpa only[Rep] using r2
    obtain⟨i,rfl⟩:∃j:Nat,i=j:=⟨i.toNat,by omega⟩
    simp only[Int.toNat_natCast]
    have hrb':L.hp b=some (r,k.sz):=by rw[hsz];exact hrb
    have hdd:deadB k.kind=false:=live_of hkd
    have hfz:=frozen_no (w:=w) hm
    have hone:=hrow.one
    have hb0:base≤r:=(hi.blk b k r k.sz hk hrb').base
    have hlr:r < w.heap.size:=(Array.getElem?_eq_some_iff.1 hm).1
    have hrows:RowsV L w 3 ((((k.rows.drop off).take n).map normL).take i++(((k.rows.drop off).take n).map normL).drop (i+1)) (cv.take (i*3)++cv.drop ((i+1)*3)):=(hrow.take i).append (hrow.drop (i+1))
    have hlen:((((k.rows.drop off).take n).map normL).take i++(((k.rows.drop off).take n).map normL).drop (i+1)).length=n-1:=by simp;omega
    have hvlen:(cv.take (i*3)++cv.drop ((i+1)*3)).length=(n-1)*3:=by rw[hrows.length,hlen]
    generalize (((k.rows.drop off).take n).map normL).take i++(((k.rows.drop off).take n).map normL).drop (i+1)=rows' at*
    have hsp:∀j,j < n*3→(w.cell? ⟨r,off*3+j,none⟩).isSome=true:=fun j hj=>by rw[hcs j _ (List.getElem?_eq_getElem (by omega))];rfl
    refine Calls.mono (del_one r (off*3) n cp i cv w (by omega) hncp hcp63 hcl hcs hfz hone) ?_
    rintro ee w' ⟨rfl,rfl⟩
    have hd1:(cv.drop ((i+1)*3)).length=(n-(i+1))*3:=by rw[List.length_drop,hcl];omega
    have hz3:zRow.cells.toList.length=3:=rfl
    obtain⟨hx,hi'⟩:=take_dead (g:=r) (N:=(off+n)*3) (w':=(w.drew.setCells r (off*3+i*3) (cv.drop ((i+1)*3))).setCells r (off*3+(n-1)*3) zRow.cells.toList) hi hk hdd hrb' (.inl rfl) (by
      have:=(below_setCells (B:=0) r (Nat.zero_le _) zRow.cells.toList (off*3+(n-1)*3) (below_setCells (B:=0) r (Nat.zero_le _) (cv.drop ((i+1)*3)) (off*3+i*3) ((Below.refl 0 w).drew))).size
      omega) (below_setCells r hb0 _ _ (below_setCells r hb0 _ _ ((Below.refl base w).drew))) (fun x _ hx=>by
      rw[setCells_heap _ _ _ _ _ hx,setCells_heap _ _ _ _ _ hx]
      rfl) (fun o ho=>setCells_some _ _ _ _ _ (setCells_some _ _ _ _ _ ho)) ⟨cs,e,hm⟩
    rw[hsz]at hi'
    refine⟨_,hx,hi',Rep.szOf ?_⟩
    simp only[Rep]
    refine⟨some ⟨r,off*3,none⟩,n-1,cp,rfl,hlen,by omega,hcp63,.inr ⟨r,off*3,rfl,?_⟩,trivial⟩
    refine repR_of' (hrows.ext hx) (fun j hj=>.inr ⟨rfl,by rw[hvlen]at hj;omega⟩) fun j v hj=>?_
    have hjl:j < (n-1)*3:=by rw[←hvlen];exact(List.getElem?_eq_some_iff.1 hj).1
    have htl:(cv.take (i*3)).length=i*3:=by rw[List.length_take];omega
    rw[setCells_get _ _ _ _ (fun t ht=>setCells_some _ _ _ _ _ (by rw[hz3]at ht;show(w.cell? _).isSome=true;rw[Nat.add_assoc];exact hsp _ (by omega))),
     setCells_get _ _ _ _ (fun t ht=>by show(w.cell? _).isSome=true;rw[Nat.add_assoc];exact hsp _ (by omega)),if_neg (by omega)]
    by_cases h1:j < i*3
    ·rw[List.getElem?_append_left (by omega),List.getElem?_take,if_pos h1]at hj
     rw[if_neg (by omega)]
     exact hcs j v hj
    ·rw[List.getElem?_append_right (by omega),htl]at hj
     rw[if_pos (by omega),show off*3+j-(off*3+i*3)=j-i*3 by omega]
     exact hj
   ·cases h
  ·cases h
 ·cases h
end Go.Sym
end
section
open Go Go.Proofs Go.Sym Go.RowKit
namespace T
theorem ends_below {L:Lay} {w w':World} (hi:Inv L (lH []) (lK []) w w.heap.size) (hb:Below w.heap.size w w') {v:AV} {u:Value} (hr:∀L w,Rep L w v u):Ends w.heap.size L w (.ret v,[],[]) (.returned u) w':=
 ⟨L,Ext.grow hi hb,hi.grow hb,hr _ _⟩
def containsF:List AV→Option IRes
 | [.str s,.str q]=>if s.size < 4294967281 then some (.ret (.bool (Lib.contains s.data.toList q.data.toList)))else none
 |_=>none
theorem p168 (args:List AV) (r:IRes) (h:containsF args=some r) (hbody:Body Tryz.prog 168):Body Tryz.prog 168∧∃(own:Bool) (q:Res×List Blk×List Nat),
   (match q.1 with | .ret v=>iret own q.2.2 v | .panic v=>if pureB v=true then some (.panic v)else none)=some r∧
   ∀L w (us:Array Value),Inv L (lH []) (lK []) w w.heap.size→RepL L w args us.toList→Calls Tryz.prog 168 us w (Ends w.heap.size L w q):=by
 unfold containsF at h
 split at h
 ·rename_i s q
  split at h
  ·rename_i hs
   cases h
   refine⟨hbody,false,(.ret (.bool (Lib.contains s.data.toList q.data.toList)),[],[]),rfl,fun L w us hi hr=>?_⟩
   obtain⟨u0,q0,e0,r0,hr⟩:=by simpa only[RepL] using hr
   obtain⟨u1,q1,e1,r1,hr⟩:=by simpa only[RepL] using hr
   obtain rfl:q1=[]:=by simpa only[RepL] using hr
   subst e1
   obtain rfl:us= #[u0,u1]:=by simpa using congrArg List.toArray e0
   obtain rfl:u0= .string s:=by simpa only[Rep] using r0
   obtain rfl:u1= .string q:=by simpa only[Rep] using r1
   obtain⟨_,m,hm⟩:=hi.glob
   refine Calls.mono (Tryz.strings_Contains s q m w hs hm) ?_
   rintro e w' ⟨rfl,rfl⟩
   exact ends_below hi (Below.refl _ _) fun _ _=>rfl
  ·cases h
 ·cases h
def itoaF:List AV→Option IRes
 | [.int .i64 i]=>if 0≤i∧i < 100 then some (.ret (.str ⟨(Lib.decDigits i.toNat).toArray⟩))else none
 |_=>none
theorem p35 (args:List AV) (r:IRes) (h:itoaF args=some r) (hbody:Body Tryz.prog 35):Body Tryz.prog 35∧∃(own:Bool) (q:Res×List Blk×List Nat),
   (match q.1 with | .ret v=>iret own q.2.2 v | .panic v=>if pureB v=true then some (.panic v)else none)=some r∧
   ∀L w (us:Array Value),Inv L (lH []) (lK []) w w.heap.size→RepL L w args us.toList→Calls Tryz.prog 35 us w (Ends w.heap.size L w q):=by
 unfold itoaF at h
 split at h
 ·rename_i i
  split at h
  ·rename_i hs
   cases h
   refine⟨hbody,false,(.ret (.str ⟨(Lib.decDigits i.toNat).toArray⟩),[],[]),rfl,fun L w us hi hr=>?_⟩
   obtain⟨u0,q0,e0,r0,hr⟩:=by simpa only[RepL] using hr
   obtain rfl:q0=[]:=by simpa only[RepL] using hr
   obtain rfl:us= #[u0]:=by simpa using congrArg List.toArray e0
   obtain rfl:u0= .int .i64 i:=by simpa only[Rep] using r0
   obtain⟨n,rfl⟩:∃n:Nat,i=n:=⟨i.toNat,by omega⟩
   refine Calls.mono (Tryz.strconv_Itoa_small n (by omega) w) ?_
   rintro e w' ⟨rfl,rfl⟩
   exact ends_below hi (Below.refl _ _) fun _ _=>rfl
  ·cases h
 ·cases h
def strsOf:List (List AV)→Option (List ByteArray)
 | []=>some []
 | [.str s]::r=>ob (strsOf r) fun l=>some (s::l)
 |_=>none
def joinF:List AV→Option IRes
 | [.lst 1 rows .no,.str sep]=>ob (strsOf rows) fun xs=>if 0 < xs.length∧xs.length≤1073741824∧(Lib.join (xs.map (·.data.toList)) sep.data.toList).length≤1073741824 then some (.ret (.str ⟨(Lib.join (xs.map (·.data.toList)) sep.data.toList).toArray⟩))else none
 |_=>none
theorem strsOf_len:∀{rows:List (List AV)} {xs:List ByteArray},strsOf rows=some xs→xs.length=rows.length
 | [],xs,h=>by simp[strsOf]at h;simp[←h]
 |row::r,xs,h=>by
  unfold strsOf at h
  split at h
  ·rename_i e;cases e
  ·rename_i s r' e
   cases e
   obtain⟨l,hl,h⟩:=ob_eq h
   cases h
   simp[strsOf_len hl]
  ·cases h
theorem strsOf_get:∀{rows:List (List AV)} {xs:List ByteArray},strsOf rows=some xs→∀(j:Nat) x,xs[j]? =some x→rows[j]? =some [.str x]
 | [],xs,h,j,x,hx=>by simp[strsOf]at h;subst h;simp at hx
 |row::r,xs,h,j,x,hx=>by
  unfold strsOf at h
  split at h
  ·rename_i e;cases e
  ·rename_i s r' e
   cases e
   obtain⟨l,hl,h⟩:=ob_eq h
   cases h
   cases j with
   |zero=>cases hx;rfl
   |succ j=>simpa using strsOf_get hl j x (by simpa using hx)
  ·cases h
theorem p74 (args:List AV) (r:IRes) (h:joinF args=some r) (hbody:Body Tryz.prog 74):Body Tryz.prog 74∧∃(own:Bool) (q:Res×List Blk×List Nat),
   (match q.1 with | .ret v=>iret own q.2.2 v | .panic v=>if pureB v=true then some (.panic v)else none)=some r∧
   ∀L w (us:Array Value),Inv L (lH []) (lK []) w w.heap.size→RepL L w args us.toList→Calls Tryz.prog 74 us w (Ends w.heap.size L w q):=by
 unfold joinF at h
 split at h
 ·rename_i rows sep
  obtain⟨xs,hxs,h⟩:=ob_eq h
  split at h
  ·rename_i hs
   cases h
   refine⟨hbody,false,(.ret (.str ⟨(Lib.join (xs.map (·.data.toList)) sep.data.toList).toArray⟩),[],[]),rfl,fun L w us hi hr=>?_⟩
   obtain⟨u0,q0,e0,r0,hr⟩:=by simpa only[RepL] using hr
   obtain⟨u1,q1,e1,r1,hr⟩:=by simpa only[RepL] using hr
   obtain rfl:q1=[]:=by simpa only[RepL] using hr
   subst e1
   obtain rfl:us= #[u0,u1]:=by simpa using congrArg List.toArray e0
   obtain rfl:u1= .string sep:=by simpa only[Rep] using r1
   obtain⟨ad,n,cap,rfl,hn,hcap,hmax,hrows,_⟩:=by simpa only[Rep] using r0
   have hl:=strsOf_len hxs
   obtain⟨g,p,rfl,hrow⟩:=hrows.resolve_left (fun e=>by rw[e]at hl;simp at hl;simp[hl]at hs)
   have hcells:∀(j:Nat) x,xs[j]? =some x→w.cell? ⟨g,p+j,none⟩=some (.string x):=fun j x hx=>by
    obtain⟨_,hc⟩:=hrow.get (strsOf_get hxs j x hx)
    rw[Nat.mul_one]at hc
    obtain⟨_,_,_,⟨u,hu,hv⟩,_⟩:=by simpa only[RepC] using hc
    rw[hu]
    have:u= .string x:=by simpa only[Rep] using hv
    rw[this]
   have hg:g < w.heap.size:=by
    have h0:=hcells 0 _ (List.getElem?_eq_getElem hs.1)
    unfold World.cell? at h0
    cases hh2:w.heap[g]? with
    |none=>simp[hh2]at h0
    |some y=>exact(Array.getElem?_eq_some_iff.1 hh2).1
   obtain rfl:n=xs.length:=by omega
   refine Calls.mono (Tryz.strings_Join g p cap xs sep w hcells hg (by omega) hcap (by omega)) ?_
   rintro e w' ⟨rfl,hb⟩
   exact ends_below hi hb fun _ _=>rfl
  ·cases h
 ·cases h
end T
end
section
open Go Go.Proofs Go.Sym
namespace T
theorem q_apT_22_22:apT Tryz.prog 22 22=some 1:=by kernel_rfl
theorem q_apT_24_24:apT Tryz.prog 24 24=some 19:=by kernel_rfl
theorem q_apT_27_27:apT Tryz.prog 27 27=some 1:=by kernel_rfl
theorem q_apT_30_30:apT Tryz.prog 30 30=some 1:=by kernel_rfl
theorem q_apT_50_50:apT Tryz.prog 50 50=some 3:=by kernel_rfl
theorem q_apT_60_60:apT Tryz.prog 60 60=some 22:=by kernel_rfl
theorem q_apT_73_73:apT Tryz.prog 73 73=some 2:=by kernel_rfl
theorem q_apT_80_80:apT Tryz.prog 80 80=some 7:=by kernel_rfl
theorem q_apT_86_86:apT Tryz.prog 86 86=some 1:=by kernel_rfl
theorem q_apT_96_96:apT Tryz.prog 96 96=some 2:=by kernel_rfl
theorem q_apT_118_118:apT Tryz.prog 118 118=some 23:=by kernel_rfl
theorem q_apT_122_122:apT Tryz.prog 122 122=some 1:=by kernel_rfl
theorem q_apT_156_156:apT Tryz.prog 156 156=some 22:=by kernel_rfl
theorem q_elemSz_22:elemSz Tryz.prog 22=some (1,16):=by kernel_rfl
theorem q_elemSz_23:elemSz Tryz.prog 23=some (2,40):=by kernel_rfl
theorem q_elemSz_24:elemSz Tryz.prog 24=some (19,304):=by kernel_rfl
theorem q_elemSz_27:elemSz Tryz.prog 27=some (1,24):=by kernel_rfl
theorem q_elemSz_30:elemSz Tryz.prog 30=some (1,8):=by kernel_rfl
theorem q_elemSz_49:elemSz Tryz.prog 49=some (1,24):=by kernel_rfl
theorem q_elemSz_50:elemSz Tryz.prog 50=some (3,40):=by kernel_rfl
theorem q_elemSz_60:elemSz Tryz.prog 60=some (22,376):=by kernel_rfl
theorem q_elemSz_73:elemSz Tryz.prog 73=some (2,32):=by kernel_rfl
theorem q_elemSz_80:elemSz Tryz.prog 80=some (7,104):=by kernel_rfl
theorem q_elemSz_86:elemSz Tryz.prog 86=some (1,24):=by kernel_rfl
theorem q_elemSz_96:elemSz Tryz.prog 96=some (2,32):=by kernel_rfl
theorem q_elemSz_118:elemSz Tryz.prog 118=some (23,400):=by kernel_rfl
theorem q_elemSz_122:elemSz Tryz.prog 122=some (1,24):=by kernel_rfl
theorem q_elemSz_131:elemSz Tryz.prog 131=some (1,24):=by kernel_rfl
theorem q_elemSz_132:elemSz Tryz.prog 132=some (4,48):=by kernel_rfl
theorem q_elemSz_156:elemSz Tryz.prog 156=some (22,376):=by kernel_rfl
theorem q_fieldAt_26_0:fieldAt Tryz.prog 26 0=some (0,1):=by kernel_rfl
theorem q_fieldAt_26_1:fieldAt Tryz.prog 26 1=some (1,1):=by kernel_rfl
theorem q_fieldAt_26_2:fieldAt Tryz.prog 26 2=some (2,1):=by kernel_rfl
theorem q_fieldAt_29_0:fieldAt Tryz.prog 29 0=some (0,1):=by kernel_rfl
theorem q_fieldAt_32_0:fieldAt Tryz.prog 32 0=some (0,1):=by kernel_rfl
theorem q_fieldAt_32_1:fieldAt Tryz.prog 32 1=some (1,1):=by kernel_rfl
theorem q_fieldAt_32_2:fieldAt Tryz.prog 32 2=some (2,1):=by kernel_rfl
theorem q_fieldAt_32_3:fieldAt Tryz.prog 32 3=some (3,1):=by kernel_rfl
theorem q_fieldAt_32_4:fieldAt Tryz.prog 32 4=some (4,1):=by kernel_rfl
theorem q_fieldAt_38_0:fieldAt Tryz.prog 38 0=some (0,1):=by kernel_rfl
theorem q_fieldAt_38_1:fieldAt Tryz.prog 38 1=some (1,1):=by kernel_rfl
theorem q_fieldAt_38_2:fieldAt Tryz.prog 38 2=some (2,1):=by kernel_rfl
theorem q_fieldAt_38_3:fieldAt Tryz.prog 38 3=some (3,1):=by kernel_rfl
theorem q_fieldAt_38_4:fieldAt Tryz.prog 38 4=some (4,1):=by kernel_rfl
theorem q_fieldAt_52_0:fieldAt Tryz.prog 52 0=some (0,1):=by kernel_rfl
theorem q_fieldAt_52_1:fieldAt Tryz.prog 52 1=some (1,1):=by kernel_rfl
theorem q_fieldAt_54_0:fieldAt Tryz.prog 54 0=some (0,2):=by kernel_rfl
theorem q_fieldAt_54_1:fieldAt Tryz.prog 54 1=some (2,1):=by kernel_rfl
theorem q_fieldAt_62_0:fieldAt Tryz.prog 62 0=some (0,1):=by kernel_rfl
theorem q_fieldAt_62_1:fieldAt Tryz.prog 62 1=some (1,1):=by kernel_rfl
theorem q_fieldAt_62_2:fieldAt Tryz.prog 62 2=some (2,1):=by kernel_rfl
theorem q_fieldAt_75_0:fieldAt Tryz.prog 75 0=some (0,1):=by kernel_rfl
theorem q_fieldAt_75_1:fieldAt Tryz.prog 75 1=some (1,1):=by kernel_rfl
theorem q_fieldAt_79_0:fieldAt Tryz.prog 79 0=some (0,1):=by kernel_rfl
theorem q_fieldAt_79_1:fieldAt Tryz.prog 79 1=some (1,1):=by kernel_rfl
theorem q_fieldAt_82_0:fieldAt Tryz.prog 82 0=some (0,1):=by kernel_rfl
theorem q_fieldAt_82_1:fieldAt Tryz.prog 82 1=some (1,1):=by kernel_rfl
theorem q_fieldAt_82_2:fieldAt Tryz.prog 82 2=some (2,2):=by kernel_rfl
theorem q_fieldAt_82_3:fieldAt Tryz.prog 82 3=some (4,2):=by kernel_rfl
theorem q_fieldAt_82_4:fieldAt Tryz.prog 82 4=some (6,1):=by kernel_rfl
theorem q_fieldAt_84_0:fieldAt Tryz.prog 84 0=some (0,1):=by kernel_rfl
theorem q_fieldAt_88_0:fieldAt Tryz.prog 88 0=some (0,1):=by kernel_rfl
theorem q_fieldAt_88_1:fieldAt Tryz.prog 88 1=some (1,1):=by kernel_rfl
theorem q_fieldAt_90_0:fieldAt Tryz.prog 90 0=some (0,1):=by kernel_rfl
theorem q_fieldAt_90_1:fieldAt Tryz.prog 90 1=some (1,1):=by kernel_rfl
theorem q_fieldAt_90_2:fieldAt Tryz.prog 90 2=some (2,1):=by kernel_rfl
theorem q_fieldAt_90_3:fieldAt Tryz.prog 90 3=some (3,1):=by kernel_rfl
theorem q_fieldAt_90_4:fieldAt Tryz.prog 90 4=some (4,1):=by kernel_rfl
theorem q_fieldAt_90_5:fieldAt Tryz.prog 90 5=some (5,1):=by kernel_rfl
theorem q_fieldAt_90_6:fieldAt Tryz.prog 90 6=some (6,2):=by kernel_rfl
theorem q_fieldAt_90_7:fieldAt Tryz.prog 90 7=some (8,2):=by kernel_rfl
theorem q_fieldAt_90_8:fieldAt Tryz.prog 90 8=some (10,7):=by kernel_rfl
theorem q_fieldAt_90_9:fieldAt Tryz.prog 90 9=some (17,1):=by kernel_rfl
theorem q_fieldAt_90_10:fieldAt Tryz.prog 90 10=some (18,1):=by kernel_rfl
theorem q_fieldAt_98_1:fieldAt Tryz.prog 98 1=some (1,1):=by kernel_rfl
theorem q_fieldAt_121_0:fieldAt Tryz.prog 121 0=some (0,1):=by kernel_rfl
theorem q_fieldAt_121_1:fieldAt Tryz.prog 121 1=some (1,1):=by kernel_rfl
theorem q_fieldAt_124_0:fieldAt Tryz.prog 124 0=some (0,22):=by kernel_rfl
theorem q_fieldAt_124_1:fieldAt Tryz.prog 124 1=some (22,1):=by kernel_rfl
theorem q_fieldAt_137_0:fieldAt Tryz.prog 137 0=some (0,1):=by kernel_rfl
theorem q_fieldAt_137_1:fieldAt Tryz.prog 137 1=some (1,1):=by kernel_rfl
theorem q_fieldAt_137_2:fieldAt Tryz.prog 137 2=some (2,19):=by kernel_rfl
theorem q_fieldAt_165_0:fieldAt Tryz.prog 165 0=some (0,3):=by kernel_rfl
theorem q_fieldAt_165_1:fieldAt Tryz.prog 165 1=some (3,1):=by kernel_rfl
theorem q_fieldAt_198_0:fieldAt Tryz.prog 198 0=some (0,3):=by kernel_rfl
theorem q_fieldAt_198_1:fieldAt Tryz.prog 198 1=some (3,1):=by kernel_rfl
theorem q_fieldAt_209_0:fieldAt Tryz.prog 209 0=some (0,1):=by kernel_rfl
theorem q_fieldAt_209_1:fieldAt Tryz.prog 209 1=some (1,1):=by kernel_rfl
theorem q_fieldAt_209_2:fieldAt Tryz.prog 209 2=some (2,2):=by kernel_rfl
theorem q_fieldAt_222_0:fieldAt Tryz.prog 222 0=some (0,19):=by kernel_rfl
theorem q_fieldAt_223_0:fieldAt Tryz.prog 223 0=some (0,19):=by kernel_rfl
theorem q_fieldAt_224_0:fieldAt Tryz.prog 224 0=some (0,19):=by kernel_rfl
theorem q_ifaceT_20:ifaceT Tryz.prog 20=true:=by kernel_rfl
theorem q_ixT_67:ixT Tryz.prog 67=some (false,1,1,8):=by kernel_rfl
theorem q_mkT_27:mkT Tryz.prog 27=some ([AV.lst 0 [] Cap.nil],1):=by kernel_rfl
theorem q_mkT_30:mkT Tryz.prog 30=some ([AV.int IntKind.i64 0],1):=by kernel_rfl
theorem q_mkT_132:mkT Tryz.prog 132=some ([AV.int IntKind.i64 0,AV.int IntKind.i64 0,AV.lst 0 [] Cap.nil,AV.int IntKind.i64 0],4):=by kernel_rfl
theorem q_notIf_163:notIf Tryz.prog 163=true:=by kernel_rfl
theorem q_notIf_222:notIf Tryz.prog 222=true:=by kernel_rfl
theorem q_notIf_223:notIf Tryz.prog 223=true:=by kernel_rfl
theorem q_notIf_224:notIf Tryz.prog 224=true:=by kernel_rfl
theorem q_placeF_29:placeF Tryz.prog 29=some (plc [(0,1)]):=by kernel_rfl
theorem q_placeF_32:placeF Tryz.prog 32=some (plc [(0,1),(1,1),(2,1),(3,1),(4,1)]):=by kernel_rfl
theorem q_placeF_38:placeF Tryz.prog 38=some (plc [(0,1),(1,1),(2,1),(3,1),(4,1)]):=by kernel_rfl
theorem q_placeF_52:placeF Tryz.prog 52=some (plc [(0,1),(1,1)]):=by kernel_rfl
theorem q_placeF_54:placeF Tryz.prog 54=some (plc [(0,2),(2,1)]):=by kernel_rfl
theorem q_placeF_62:placeF Tryz.prog 62=some (plc [(0,1),(1,1),(2,1)]):=by kernel_rfl
theorem q_placeF_67:placeF Tryz.prog 67=some (plca 1):=by kernel_rfl
theorem q_placeF_79:placeF Tryz.prog 79=some (plc [(0,1),(1,1)]):=by kernel_rfl
theorem q_placeF_82:placeF Tryz.prog 82=some (plc [(0,1),(1,1),(2,2),(4,2),(6,1)]):=by kernel_rfl
theorem q_placeF_88:placeF Tryz.prog 88=some (plc [(0,1),(1,1)]):=by kernel_rfl
theorem q_placeF_90:placeF Tryz.prog 90=some (plc [(0,1),(1,1),(2,1),(3,1),(4,1),(5,1),(6,2),(8,2),(10,7),(17,1),(18,1)]):=by kernel_rfl
theorem q_placeF_98:placeF Tryz.prog 98=some (plc [(0,1),(1,1),(2,19),(21,1)]):=by kernel_rfl
theorem q_placeF_121:placeF Tryz.prog 121=some (plc [(0,1),(1,1),(2,19),(21,1)]):=by kernel_rfl
theorem q_placeF_124:placeF Tryz.prog 124=some (plc [(0,22),(22,1)]):=by kernel_rfl
theorem q_placeF_137:placeF Tryz.prog 137=some (plc [(0,1),(1,1),(2,19)]):=by kernel_rfl
theorem q_placeF_165:placeF Tryz.prog 165=some (plc [(0,3),(3,1)]):=by kernel_rfl
theorem q_placeF_198:placeF Tryz.prog 198=some (plc [(0,3),(3,1)]):=by kernel_rfl
theorem q_placeF_209:placeF Tryz.prog 209=some (plc [(0,1),(1,1),(2,2)]):=by kernel_rfl
theorem q_placeF_222:placeF Tryz.prog 222=some (plc [(0,19)]):=by kernel_rfl
theorem q_placeF_223:placeF Tryz.prog 223=some (plc [(0,19)]):=by kernel_rfl
theorem q_placeF_224:placeF Tryz.prog 224=some (plc [(0,19)]):=by kernel_rfl
theorem q_slT_22:slT Tryz.prog 22=some 1:=by kernel_rfl
theorem q_slT_30:slT Tryz.prog 30=some 1:=by kernel_rfl
theorem q_slT_50:slT Tryz.prog 50=some 3:=by kernel_rfl
theorem q_sliceT_22:sliceT Tryz.prog 22=true:=by kernel_rfl
theorem q_sliceT_23:sliceT Tryz.prog 23=true:=by kernel_rfl
theorem q_sliceT_24:sliceT Tryz.prog 24=true:=by kernel_rfl
theorem q_sliceT_27:sliceT Tryz.prog 27=true:=by kernel_rfl
theorem q_sliceT_30:sliceT Tryz.prog 30=true:=by kernel_rfl
theorem q_sliceT_49:sliceT Tryz.prog 49=true:=by kernel_rfl
theorem q_sliceT_50:sliceT Tryz.prog 50=true:=by kernel_rfl
theorem q_sliceT_60:sliceT Tryz.prog 60=true:=by kernel_rfl
theorem q_sliceT_73:sliceT Tryz.prog 73=true:=by kernel_rfl
theorem q_sliceT_80:sliceT Tryz.prog 80=true:=by kernel_rfl
theorem q_sliceT_86:sliceT Tryz.prog 86=true:=by kernel_rfl
theorem q_sliceT_118:sliceT Tryz.prog 118=true:=by kernel_rfl
theorem q_sliceT_131:sliceT Tryz.prog 131=true:=by kernel_rfl
theorem q_sliceT_132:sliceT Tryz.prog 132=true:=by kernel_rfl
theorem q_sliceT_156:sliceT Tryz.prog 156=true:=by kernel_rfl
theorem q_strT_9:strT Tryz.prog 9=true:=by kernel_rfl
theorem q_tyOf_3:tyOf Tryz.prog 3=some (false,1):=by kernel_rfl
theorem q_tyOf_4:tyOf Tryz.prog 4=some (false,1):=by kernel_rfl
theorem q_tyOf_9:tyOf Tryz.prog 9=some (false,1):=by kernel_rfl
theorem q_tyOf_22:tyOf Tryz.prog 22=some (false,1):=by kernel_rfl
theorem q_tyOf_23:tyOf Tryz.prog 23=some (false,1):=by kernel_rfl
theorem q_tyOf_24:tyOf Tryz.prog 24=some (false,1):=by kernel_rfl
theorem q_tyOf_26:tyOf Tryz.prog 26=some (true,3):=by kernel_rfl
theorem q_tyOf_27:tyOf Tryz.prog 27=some (false,1):=by kernel_rfl
theorem q_tyOf_29:tyOf Tryz.prog 29=some (true,1):=by kernel_rfl
theorem q_tyOf_30:tyOf Tryz.prog 30=some (false,1):=by kernel_rfl
theorem q_tyOf_32:tyOf Tryz.prog 32=some (true,5):=by kernel_rfl
theorem q_tyOf_35:tyOf Tryz.prog 35=some (false,1):=by kernel_rfl
theorem q_tyOf_38:tyOf Tryz.prog 38=some (true,5):=by kernel_rfl
theorem q_tyOf_50:tyOf Tryz.prog 50=some (false,1):=by kernel_rfl
theorem q_tyOf_52:tyOf Tryz.prog 52=some (true,2):=by kernel_rfl
theorem q_tyOf_54:tyOf Tryz.prog 54=some (true,3):=by kernel_rfl
theorem q_tyOf_60:tyOf Tryz.prog 60=some (false,1):=by kernel_rfl
theorem q_tyOf_62:tyOf Tryz.prog 62=some (true,3):=by kernel_rfl
theorem q_tyOf_67:tyOf Tryz.prog 67=some (true,8):=by kernel_rfl
theorem q_tyOf_73:tyOf Tryz.prog 73=some (false,1):=by kernel_rfl
theorem q_tyOf_75:tyOf Tryz.prog 75=some (true,2):=by kernel_rfl
theorem q_tyOf_79:tyOf Tryz.prog 79=some (true,2):=by kernel_rfl
theorem q_tyOf_80:tyOf Tryz.prog 80=some (false,1):=by kernel_rfl
theorem q_tyOf_82:tyOf Tryz.prog 82=some (true,7):=by kernel_rfl
theorem q_tyOf_84:tyOf Tryz.prog 84=some (true,1):=by kernel_rfl
theorem q_tyOf_86:tyOf Tryz.prog 86=some (false,1):=by kernel_rfl
theorem q_tyOf_88:tyOf Tryz.prog 88=some (true,2):=by kernel_rfl
theorem q_tyOf_90:tyOf Tryz.prog 90=some (true,19):=by kernel_rfl
theorem q_tyOf_121:tyOf Tryz.prog 121=some (true,22):=by kernel_rfl
theorem q_tyOf_122:tyOf Tryz.prog 122=some (false,1):=by kernel_rfl
theorem q_tyOf_124:tyOf Tryz.prog 124=some (true,23):=by kernel_rfl
theorem q_tyOf_132:tyOf Tryz.prog 132=some (false,1):=by kernel_rfl
theorem q_tyOf_137:tyOf Tryz.prog 137=some (true,21):=by kernel_rfl
theorem q_tyOf_151:tyOf Tryz.prog 151=some (false,1):=by kernel_rfl
theorem q_tyOf_163:tyOf Tryz.prog 163=some (true,0):=by kernel_rfl
theorem q_tyOf_165:tyOf Tryz.prog 165=some (true,4):=by kernel_rfl
theorem q_tyOf_168:tyOf Tryz.prog 168=some (false,1):=by kernel_rfl
theorem q_tyOf_169:tyOf Tryz.prog 169=some (false,1):=by kernel_rfl
theorem q_tyOf_209:tyOf Tryz.prog 209=some (true,4):=by kernel_rfl
theorem q_zeroAt_3:zeroAt Tryz.prog 3=some [AV.int IntKind.i64 0]:=by kernel_rfl
theorem q_zeroAt_4:zeroAt Tryz.prog 4=some [AV.bool false]:=by kernel_rfl
theorem q_zeroAt_29:zeroAt Tryz.prog 29=some [AV.lst 0 [] Cap.nil]:=by kernel_rfl
theorem q_zeroAt_32:zeroAt Tryz.prog 32=some [AV.int IntKind.i64 0,AV.int IntKind.i64 0,AV.int IntKind.i64 0,AV.int IntKind.i64 0,AV.lst 0 [] Cap.nil]:=by kernel_rfl
theorem q_zeroAt_35:zeroAt Tryz.prog 35=some [AV.int IntKind.i64 0]:=by kernel_rfl
theorem q_zeroAt_38:zeroAt Tryz.prog 38=some [AV.int IntKind.i64 0,AV.int IntKind.i64 0,AV.int IntKind.i64 0,AV.int IntKind.i64 0,AV.lst 0 [] Cap.nil]:=by kernel_rfl
theorem q_zeroAt_52:zeroAt Tryz.prog 52=some [AV.lst 0 [] Cap.nil,AV.int IntKind.i64 0]:=by kernel_rfl
theorem q_zeroAt_54:zeroAt Tryz.prog 54=some [AV.lst 0 [] Cap.nil,AV.int IntKind.i64 0,AV.int IntKind.i64 0]:=by kernel_rfl
theorem q_zeroAt_60:zeroAt Tryz.prog 60=some [AV.lst 0 [] Cap.nil]:=by kernel_rfl
theorem q_zeroAt_62:zeroAt Tryz.prog 62=some [AV.lst 0 [] Cap.nil,AV.int IntKind.i64 0,AV.lst 0 [] Cap.nil]:=by kernel_rfl
theorem q_zeroAt_67:zeroAt Tryz.prog 67=some [AV.nilfn,AV.nilfn,AV.nilfn,AV.nilfn,AV.nilfn,AV.nilfn,AV.nilfn,AV.nilfn]:=by kernel_rfl
theorem q_zeroAt_75:zeroAt Tryz.prog 75=some [AV.str ⟨#[]⟩,AV.lst 0 [] Cap.nil]:=by kernel_rfl
theorem q_zeroAt_79:zeroAt Tryz.prog 79=some [AV.int IntKind.i64 0,AV.lst 0 [] Cap.nil]:=by kernel_rfl
theorem q_zeroAt_82:zeroAt Tryz.prog 82=some [AV.int IntKind.i64 0,AV.int IntKind.i64 0,AV.lst 0 [] Cap.nil,AV.int IntKind.i64 0,AV.int IntKind.i64 0,AV.lst 0 [] Cap.nil,AV.lst 0 [] Cap.nil]:=by kernel_rfl
theorem q_zeroAt_84:zeroAt Tryz.prog 84=some [AV.lst 0 [] Cap.nil]:=by kernel_rfl
theorem q_zeroAt_88:zeroAt Tryz.prog 88=some [AV.int IntKind.i64 0,AV.lst 0 [] Cap.nil]:=by kernel_rfl
theorem q_zeroAt_90:zeroAt Tryz.prog 90=some [AV.int IntKind.i64 0,AV.str ⟨#[]⟩,AV.lst 0 [] Cap.nil,AV.lst 0 [] Cap.nil,AV.int IntKind.i64 0,AV.int IntKind.i64 0,AV.int IntKind.i64 0,AV.lst 0 [] Cap.nil,AV.int IntKind.i64 0,AV.lst 0 [] Cap.nil,AV.int IntKind.i64 0,AV.int IntKind.i64 0,AV.lst 0 [] Cap.nil,AV.int IntKind.i64 0,AV.int IntKind.i64 0,AV.lst 0 [] Cap.nil,AV.lst 0 [] Cap.nil,AV.lst 0 [] Cap.nil,AV.lst 0 [] Cap.nil]:=by kernel_rfl
theorem q_zeroAt_98:zeroAt Tryz.prog 98=some [AV.lst 0 [] Cap.nil,AV.lst 0 [] Cap.nil,AV.int IntKind.i64 0,AV.str ⟨#[]⟩,AV.lst 0 [] Cap.nil,AV.lst 0 [] Cap.nil,AV.int IntKind.i64 0,AV.int IntKind.i64 0,AV.int IntKind.i64 0,AV.lst 0 [] Cap.nil,AV.int IntKind.i64 0,AV.lst 0 [] Cap.nil,AV.int IntKind.i64 0,AV.int IntKind.i64 0,AV.lst 0 [] Cap.nil,AV.int IntKind.i64 0,AV.int IntKind.i64 0,AV.lst 0 [] Cap.nil,AV.lst 0 [] Cap.nil,AV.lst 0 [] Cap.nil,AV.lst 0 [] Cap.nil,AV.lst 0 [] Cap.nil]:=by kernel_rfl
theorem q_zeroAt_121:zeroAt Tryz.prog 121=some [AV.lst 0 [] Cap.nil,AV.lst 0 [] Cap.nil,AV.int IntKind.i64 0,AV.str ⟨#[]⟩,AV.lst 0 [] Cap.nil,AV.lst 0 [] Cap.nil,AV.int IntKind.i64 0,AV.int IntKind.i64 0,AV.int IntKind.i64 0,AV.lst 0 [] Cap.nil,AV.int IntKind.i64 0,AV.lst 0 [] Cap.nil,AV.int IntKind.i64 0,AV.int IntKind.i64 0,AV.lst 0 [] Cap.nil,AV.int IntKind.i64 0,AV.int IntKind.i64 0,AV.lst 0 [] Cap.nil,AV.lst 0 [] Cap.nil,AV.lst 0 [] Cap.nil,AV.lst 0 [] Cap.nil,AV.lst 0 [] Cap.nil]:=by kernel_rfl
theorem q_zeroAt_124:zeroAt Tryz.prog 124=some [AV.lst 0 [] Cap.nil,AV.lst 0 [] Cap.nil,AV.int IntKind.i64 0,AV.str ⟨#[]⟩,AV.lst 0 [] Cap.nil,AV.lst 0 [] Cap.nil,AV.int IntKind.i64 0,AV.int IntKind.i64 0,AV.int IntKind.i64 0,AV.lst 0 [] Cap.nil,AV.int IntKind.i64 0,AV.lst 0 [] Cap.nil,AV.int IntKind.i64 0,AV.int IntKind.i64 0,AV.lst 0 [] Cap.nil,AV.int IntKind.i64 0,AV.int IntKind.i64 0,AV.lst 0 [] Cap.nil,AV.lst 0 [] Cap.nil,AV.lst 0 [] Cap.nil,AV.lst 0 [] Cap.nil,AV.lst 0 [] Cap.nil,AV.lst 0 [] Cap.nil]:=by kernel_rfl
theorem q_zeroAt_137:zeroAt Tryz.prog 137=some [AV.lst 0 [] Cap.nil,AV.lst 0 [] Cap.nil,AV.int IntKind.i64 0,AV.str ⟨#[]⟩,AV.lst 0 [] Cap.nil,AV.lst 0 [] Cap.nil,AV.int IntKind.i64 0,AV.int IntKind.i64 0,AV.int IntKind.i64 0,AV.lst 0 [] Cap.nil,AV.int IntKind.i64 0,AV.lst 0 [] Cap.nil,AV.int IntKind.i64 0,AV.int IntKind.i64 0,AV.lst 0 [] Cap.nil,AV.int IntKind.i64 0,AV.int IntKind.i64 0,AV.lst 0 [] Cap.nil,AV.lst 0 [] Cap.nil,AV.lst 0 [] Cap.nil,AV.lst 0 [] Cap.nil]:=by kernel_rfl
theorem q_zeroAt_163:zeroAt Tryz.prog 163=some []:=by kernel_rfl
theorem q_zeroAt_165:zeroAt Tryz.prog 165=some [AV.lst 0 [] Cap.nil,AV.lst 0 [] Cap.nil,AV.lst 0 [] Cap.nil,AV.int IntKind.i64 0]:=by kernel_rfl
theorem q_zeroAt_169:zeroAt Tryz.prog 169=some [AV.nilfn]:=by kernel_rfl
theorem q_zeroAt_198:zeroAt Tryz.prog 198=some [AV.lst 0 [] Cap.nil,AV.lst 0 [] Cap.nil,AV.lst 0 [] Cap.nil,AV.int IntKind.i64 0]:=by kernel_rfl
theorem q_zeroAt_209:zeroAt Tryz.prog 209=some [AV.int IntKind.i64 0,AV.int IntKind.i64 0,AV.lst 0 [] Cap.nil,AV.int IntKind.i64 0]:=by kernel_rfl
theorem q_zeroAt_222:zeroAt Tryz.prog 222=some [AV.int IntKind.i64 0,AV.str ⟨#[]⟩,AV.lst 0 [] Cap.nil,AV.lst 0 [] Cap.nil,AV.int IntKind.i64 0,AV.int IntKind.i64 0,AV.int IntKind.i64 0,AV.lst 0 [] Cap.nil,AV.int IntKind.i64 0,AV.lst 0 [] Cap.nil,AV.int IntKind.i64 0,AV.int IntKind.i64 0,AV.lst 0 [] Cap.nil,AV.int IntKind.i64 0,AV.int IntKind.i64 0,AV.lst 0 [] Cap.nil,AV.lst 0 [] Cap.nil,AV.lst 0 [] Cap.nil,AV.lst 0 [] Cap.nil]:=by kernel_rfl
theorem q_zeroAt_223:zeroAt Tryz.prog 223=some [AV.int IntKind.i64 0,AV.str ⟨#[]⟩,AV.lst 0 [] Cap.nil,AV.lst 0 [] Cap.nil,AV.int IntKind.i64 0,AV.int IntKind.i64 0,AV.int IntKind.i64 0,AV.lst 0 [] Cap.nil,AV.int IntKind.i64 0,AV.lst 0 [] Cap.nil,AV.int IntKind.i64 0,AV.int IntKind.i64 0,AV.lst 0 [] Cap.nil,AV.int IntKind.i64 0,AV.int IntKind.i64 0,AV.lst 0 [] Cap.nil,AV.lst 0 [] Cap.nil,AV.lst 0 [] Cap.nil,AV.lst 0 [] Cap.nil]:=by kernel_rfl
theorem q_zeroAt_224:zeroAt Tryz.prog 224=some [AV.int IntKind.i64 0,AV.str ⟨#[]⟩,AV.lst 0 [] Cap.nil,AV.lst 0 [] Cap.nil,AV.int IntKind.i64 0,AV.int IntKind.i64 0,AV.int IntKind.i64 0,AV.lst 0 [] Cap.nil,AV.int IntKind.i64 0,AV.lst 0 [] Cap.nil,AV.int IntKind.i64 0,AV.int IntKind.i64 0,AV.lst 0 [] Cap.nil,AV.int IntKind.i64 0,AV.int IntKind.i64 0,AV.lst 0 [] Cap.nil,AV.lst 0 [] Cap.nil,AV.lst 0 [] Cap.nil,AV.lst 0 [] Cap.nil]:=by kernel_rfl
attribute [simp] q_apT_22_22 q_apT_24_24 q_apT_27_27 q_apT_30_30 q_apT_50_50 q_apT_60_60 q_apT_73_73 q_apT_80_80
attribute [simp] q_apT_86_86 q_apT_96_96 q_apT_118_118 q_apT_122_122 q_apT_156_156
attribute [simp] q_elemSz_22 q_elemSz_23 q_elemSz_24 q_elemSz_27
attribute [simp] q_elemSz_30 q_elemSz_49 q_elemSz_50 q_elemSz_60 q_elemSz_73 q_elemSz_80 q_elemSz_86 q_elemSz_96
attribute [simp] q_elemSz_118 q_elemSz_122 q_elemSz_131 q_elemSz_132 q_elemSz_156 q_fieldAt_26_0 q_fieldAt_26_1
attribute [simp] q_fieldAt_26_2 q_fieldAt_29_0 q_fieldAt_32_0 q_fieldAt_32_1 q_fieldAt_32_2 q_fieldAt_32_3 q_fieldAt_32_4 q_fieldAt_38_0
attribute [simp] q_fieldAt_38_1 q_fieldAt_38_2 q_fieldAt_38_3 q_fieldAt_38_4 q_fieldAt_52_0 q_fieldAt_52_1 q_fieldAt_54_0 q_fieldAt_54_1
attribute [simp] q_fieldAt_62_0 q_fieldAt_62_1 q_fieldAt_62_2 q_fieldAt_75_0 q_fieldAt_75_1 q_fieldAt_79_0 q_fieldAt_79_1 q_fieldAt_82_0
attribute [simp] q_fieldAt_82_1 q_fieldAt_82_2 q_fieldAt_82_3 q_fieldAt_82_4 q_fieldAt_84_0 q_fieldAt_88_0 q_fieldAt_88_1 q_fieldAt_90_0
attribute [simp] q_fieldAt_90_1 q_fieldAt_90_2 q_fieldAt_90_3 q_fieldAt_90_4 q_fieldAt_90_5 q_fieldAt_90_6 q_fieldAt_90_7 q_fieldAt_90_8
attribute [simp] q_fieldAt_90_9 q_fieldAt_90_10 q_fieldAt_98_1 q_fieldAt_121_0 q_fieldAt_121_1
attribute [simp] q_fieldAt_124_0 q_fieldAt_124_1 q_fieldAt_137_0 q_fieldAt_137_1 q_fieldAt_137_2 q_fieldAt_165_0 q_fieldAt_165_1 q_fieldAt_198_0
attribute [simp] q_fieldAt_198_1 q_fieldAt_209_0 q_fieldAt_209_1 q_fieldAt_209_2 q_fieldAt_222_0 q_fieldAt_223_0 q_fieldAt_224_0 q_ifaceT_20
attribute [simp] q_ixT_67 q_mkT_27 q_mkT_30 q_mkT_132 q_notIf_163 q_notIf_222 q_notIf_223
attribute [simp] q_notIf_224 q_placeF_29 q_placeF_32 q_placeF_38 q_placeF_52 q_placeF_54 q_placeF_62
attribute [simp] q_placeF_67 q_placeF_79 q_placeF_82 q_placeF_88 q_placeF_90 q_placeF_98
attribute [simp] q_placeF_121 q_placeF_124 q_placeF_137 q_placeF_165 q_placeF_198 q_placeF_209 q_placeF_222 q_placeF_223
attribute [simp] q_placeF_224 q_slT_22 q_slT_30 q_slT_50 q_sliceT_22 q_sliceT_23 q_sliceT_24
attribute [simp] q_sliceT_27 q_sliceT_30 q_sliceT_49 q_sliceT_50 q_sliceT_60 q_sliceT_73 q_sliceT_80 q_sliceT_86
attribute [simp] q_sliceT_118 q_sliceT_131 q_sliceT_132 q_sliceT_156 q_strT_9 q_tyOf_3
attribute [simp] q_tyOf_4 q_tyOf_9 q_tyOf_22 q_tyOf_23 q_tyOf_24 q_tyOf_26 q_tyOf_27
attribute [simp] q_tyOf_29 q_tyOf_30 q_tyOf_32 q_tyOf_35 q_tyOf_38 q_tyOf_50 q_tyOf_52 q_tyOf_54
attribute [simp] q_tyOf_60 q_tyOf_62 q_tyOf_67 q_tyOf_73 q_tyOf_75 q_tyOf_79 q_tyOf_80 q_tyOf_82
attribute [simp] q_tyOf_84 q_tyOf_86 q_tyOf_88 q_tyOf_90 q_tyOf_121
attribute [simp] q_tyOf_122 q_tyOf_124 q_tyOf_132 q_tyOf_137 q_tyOf_151 q_tyOf_163 q_tyOf_165 q_tyOf_168
attribute [simp] q_tyOf_169 q_tyOf_209 q_zeroAt_3 q_zeroAt_4 q_zeroAt_29 q_zeroAt_32
attribute [simp] q_zeroAt_35 q_zeroAt_38 q_zeroAt_52 q_zeroAt_54 q_zeroAt_60 q_zeroAt_62 q_zeroAt_67 q_zeroAt_75
attribute [simp] q_zeroAt_79 q_zeroAt_82 q_zeroAt_84 q_zeroAt_88 q_zeroAt_90 q_zeroAt_98 q_zeroAt_121
attribute [simp] q_zeroAt_124 q_zeroAt_137 q_zeroAt_163 q_zeroAt_165 q_zeroAt_169 q_zeroAt_198 q_zeroAt_209
attribute [simp] q_zeroAt_222 q_zeroAt_223 q_zeroAt_224
end T
end
section
namespace Go.Sym
open Go.RowKit
def Lay.adds (L:Lay) (h sz0:Nat) (rs:List (Nat×Nat)) (S2:Nat→Nat→Prop):Lay:=
 { L with S:=fun g o=>L.S g o∨S2 g o,hp:=fun b=>if b < h then L.hp b else rs[b-h]? }
theorem adds_old {L:Lay} {h sz0:Nat} {rs S2} {b:Nat} (hb:b < h):(L.adds h sz0 rs S2).hp b=L.hp b:=if_pos hb
theorem adds_new {L:Lay} {h sz0:Nat} {rs S2} (i:Nat):(L.adds h sz0 rs S2).hp (h+i)=rs[i]? :=by
 show(if _ then _ else _)=_
 rw[if_neg (by omega),Nat.add_sub_cancel_left]
section
variable {L:Lay} {H:List Blk} {K:List Nat} {w w':World} {base:Nat}
theorem hp_lt (hi:Inv L (lH H) (lK K) w base) {b r sz:Nat} (h:L.hp b=some (r,sz)):b < H.length:=by
 obtain⟨k,hk,_⟩:=hi.dom' b r sz h
 exact(List.getElem?_eq_some_iff.1 hk).1
theorem adds_ext (hi:Inv L (lH H) (lK K) w base) (hb:Below w.heap.size w w') {rs:List (Nat×Nat)} {S2:Nat→Nat→Prop} (hS:∀g o,S2 g o→w.heap.size≤g):Ext base L w (L.adds H.length 0 rs S2) w' where
 S _ _ h:=.inl h
 cell g o h:=by
  have:=hi.size g o h
  exact hb.cell (p:=⟨g,o,none⟩) this
 B _ h:=h
 lent g o h:=by
  have:=hi.lent g h
  have:=hi.top
  exact hb.cell (p:=⟨g,o,none⟩) (by show g < _;omega)
 hp b x h:=by
  obtain⟨r,sz⟩:=x
  rw[adds_old (hp_lt hi h)]
  exact h
 tk _ k h:=⟨k,h,.inl rfl⟩
 new g o h:=h.imp id fun h=>Nat.le_trans hi.top (hS g o h)
 old:=hb.mono hi.top
 oth:=Oth.below hb
theorem adds_inv (hi:Inv L (lH H) (lK K) w base) (hb:Below w.heap.size w w') {rs:List (Nat×Nat)} {S2:Nat→Nat→Prop} {ks:List Blk} (hlen:rs.length=ks.length)
  (hS:∀g o,S2 g o→w.heap.size≤g∧g < w'.heap.size∧∀sz,(g,sz) ∉ rs) (hnew:∀r sz,(r,sz) ∈ rs→w.heap.size≤r) (hnd:∀(i j:Nat) r sz sz',rs[i]? =some (r,sz)→rs[j]? =some (r,sz')→i=j)
  (hblk:∀(i:Nat) r sz k,rs[i]? =some (r,sz)→ks[i]? =some k→k.sz=sz∧BlkOK (L.adds H.length 0 rs S2) w' base k r):
  Inv (L.adds H.length 0 rs S2) (lH (H++ks)) (lK K) w' base:=by
 have hx:=adds_ext (rs:=rs) (S2:=S2) hi hb fun g o h=>(hS g o h).1
 have hold:∀b,b < H.length→lH (H++ks) b=lH H b:=fun b h=>by simp[lH,List.getElem?_append_left h]
 have hnewb:∀i,lH (H++ks) (H.length+i)=ks[i]? :=fun i=>by simp[lH,List.getElem?_append_right (Nat.le_add_right _ i)]
 have hrl:∀b r sz,L.hp b=some (r,sz)→r < w.heap.size:=fun b r sz h=>by
  obtain⟨k,hk,_⟩:=hi.dom' b r sz h
  exact(hi.blk b k r sz hk h).lt
 have cases:∀b,b < H.length∨∃i,b=H.length+i:=fun b=>by
  by_cases h:b < H.length
  ·exact .inl h
  ·exact .inr ⟨b-H.length,by omega⟩
 refine⟨fun b k hk=>?_,fun b r sz hr=>?_,fun b k r sz hk hr=>?_,fun b b' r sz sz' h1 h2=>?_,fun b k r sz hk hd hr=>?_,hi.K,fun t k hk=>?_,hi.tkinj,fun g o h=>?_,hi.lent,Nat.le_trans hi.top hb.size,hi.glob.below (hb.mono hi.top)⟩
 ·rcases cases b with h |⟨i,rfl⟩
  ·rw[hold b h]at hk
   rw[adds_old h]
   exact hi.dom b k hk
  ·rw[hnewb]at hk
   rw[adds_new]
   have hil:i < rs.length:=by rw[hlen];exact(List.getElem?_eq_some_iff.1 hk).1
   obtain⟨⟨r,sz⟩,hri⟩:∃x,rs[i]? =some x:=⟨_,List.getElem?_eq_getElem hil⟩
   exact⟨r,by rw[hri,(hblk i r sz k hri hk).1]⟩
 ·rcases cases b with h |⟨i,rfl⟩
  ·rw[adds_old h]at hr
   rw[hold b h]
   exact hi.dom' b r sz hr
  ·rw[adds_new]at hr
   rw[hnewb]
   have hil:i < ks.length:=by rw[←hlen];exact(List.getElem?_eq_some_iff.1 hr).1
   have hki:ks[i]? =some ks[i]:=List.getElem?_eq_getElem hil
   exact⟨_,hki,(hblk i r sz _ hr hki).1⟩
 ·rcases cases b with h |⟨i,rfl⟩
  ·rw[hold b h]at hk
   rw[adds_old h]at hr
   exact(hi.blk b k r sz hk hr).ext hx (hb.block r (hrl b r sz hr))
  ·rw[hnewb]at hk
   rw[adds_new]at hr
   exact(hblk i r sz k hr hk).2
 ·rcases cases b with h |⟨i,rfl⟩ <;> rcases cases b' with h' |⟨j,rfl⟩
  ·rw[adds_old h]at h1
   rw[adds_old h']at h2
   exact hi.inj b b' r sz sz' h1 h2
  ·rw[adds_old h]at h1
   rw[adds_new]at h2
   have a1:=hrl b r sz h1
   have a2:=hnew r sz' (List.mem_of_getElem? h2)
   omega
  ·rw[adds_new]at h1
   rw[adds_old h']at h2
   have a1:=hrl b' r sz' h2
   have a2:=hnew r sz (List.mem_of_getElem? h1)
   omega
  ·rw[adds_new]at h1 h2
   rw[hnd i j r sz sz' h1 h2]
 ·rcases cases b with h |⟨i,rfl⟩
  ·rw[hold b h]at hk
   rw[adds_old h]at hr
   obtain⟨a1,a2⟩:=hi.apart b k r sz hk hd hr
   refine⟨fun o ho=>?_,a2⟩
   rcases ho with ho |ho
   ·exact a1 o ho
   ·have:=(hS r o ho).1
    have:=hrl b r sz hr
    omega
  ·rw[adds_new]at hr
   have hm:=List.mem_of_getElem? hr
   have h1:=hnew r sz hm
   refine⟨fun o ho=>?_,fun hB=>?_⟩
   ·rcases ho with ho |ho
    ·have:=hi.size r o ho
     omega
    ·exact(hS r o ho).2.2 sz hm
   ·have:=hi.lent r hB
    have:=hi.top
    omega
 ·rcases hi.tk t k hk with h |⟨g,ha,hg,hn,⟨cs,e,hm,hc⟩,hs,hB,hne⟩
  ·exact .inl h
  ·have hgl:=(Array.getElem?_eq_some_iff.1 hm).1
   refine .inr ⟨g,ha,hg,hn,⟨cs,e,(hb.block g hgl).trans hm,hc⟩,fun o ho=>?_,hB,fun b r sz hr=>?_⟩
   ·rcases ho with ho |ho
    ·exact hs o ho
    ·have:=(hS g o ho).1
     omega
   ·rcases cases b with h |⟨i,rfl⟩
    ·rw[adds_old h]at hr
     exact hne b r sz hr
    ·rw[adds_new]at hr
     have:=hnew r sz (List.mem_of_getElem? hr)
     omega
 ·rcases h with h |h
  ·exact Nat.lt_of_lt_of_le (hi.size g o h) hb.size
  ·exact(hS g o h).2.1
end
end Go.Sym
end
section
open Go Go.Proofs Go.Sym
namespace T
def keepT:FuncId→Nat→List Nat:=fun f r=>match f,r with
 |5,3=>[2,5,12,13,14]
 |5,9=>[2,5,12,13,14,26,27,28]
 |5,13=>[2,5,12,13,14,26,27,28,40,41,42]
 |10,19=>[5,6,10,66,67,68]
 |11,19=>[5,6,10,66,67,68]
 |12,4=>[2,3,17,18]
 |12,9=>[2,3,5,17,18,38,39,40]
 |15,3=>[1,2,5,12,13,14]
 |17,6=>[1,2,4,6,7,28,29]
 |17,12=>[2,4,6,7,48,49]
 |17,14=>[2,4,6,7,9,48,49]
 |17,20=>[2,6,12,85,86]
 |17,24=>[2,6,12,13,85,86,93,94]
 |18,6=>[7,19,20,21]
 |18,10=>[7,19,20,21,31,32,33]
 |22,8=>[3,6,29,30,31]
 |22,14=>[3,6,40,41,42]
 |22,20=>[6,56,57,58]
 |22,23=>[6,11,56,57,58,63,64,65]
 |23,6=>[5,6,9,34,35,36]
 |23,23=>[5,6,9,10,12,13,34,35,36,149,150,151]
 |23,39=>[6,9,235,236,237]
 |23,42=>[6,9,235,236,237,241,242,243]
 |24,4=>[2,3,22,23]
 |25,2=>[0,1,7,8]
 |26,3=>[1,5,14,15,16]
 |26,7=>[1,5,7,14,15,16,36,37,38]
 |26,10=>[1,5,7,14,15,16,36,37,38,43,44,45]
 |26,16=>[1,5,7,14,15,16,58,59,60]
 |30,5=>[1,2,3,7,8,9,27,28,29]
 |32,2=>[0,1,7,8,9]
 |36,3=>[1,3,16,17,18]
 |44,4=>[2,3,6]
 |47,3=>[1,5,11,12,13]
 |48,2=>[1,7,8,9]
 |51,3=>[1,3,15,16,17]
 |51,7=>[1,3,5,6,7,15,16,17]
 |52,2=>[1,6,7,8]
 |53,26=>[2,3,5,6]
 |53,38=>[5,157,158,159]
 |54,3=>[1,2,6,7,18,19,20]
 |54,6=>[1,2,6,7,8,18,19,20,28,29,30]
 |56,3=>[0,2,5,7,8,9,27,28]
 |58,3=>[1,3,5,6,7,23,24]
 |59,3=>[1,5,14,15,16]
 |62,5=>[1,2,3,22,23,24]
 |63,5=>[3,14,15,16]
 |65,3=>[1,2,5,6]
 |74,12=>[0,1,5,39,40,41]
 |74,22=>[1,8,63,64,65]
 |80,5=>[1,3,5,6,8,29,30]
 |83,3=>[1,2,6,14,15,16]
 |91,5=>[1,3,26,27,28]
 |91,11=>[1,3,26,27,28,42,43,44]
 |91,18=>[1,3,56,57,58]
 |92,3=>[1,2,7,11,12,13]
 |96,2=>[1,8,9,10]
 |97,2=>[1,2,10,11,12]
 |97,5=>[1,2,10,11,12,21,22,23]
 |99,3=>[0,2,30,31,32]
 |99,9=>[0,2,49,50,51]
 |99,14=>[0,2,49,50,51,72,73,74]
 |100,2=>[0,2,24,25,26]
 |103,2=>[1,2,3,4,13,14,15]
 |104,3=>[2,3,10,11,12]
 |104,7=>[2,3,6,10,11,12,16,17,18]
 |105,3=>[3,9,10,11]
 |106,3=>[2,3,10,11,12]
 |107,3=>[2,3,18,19,20]
 |108,3=>[3,6,7,8]
 |109,3=>[1,4,6,7]
 |110,2=>[0,1,7,8]
 |112,4=>[0,1,12,13]
 |113,2=>[0,1,7,8]
 |114,4=>[3,16,17,18]
 |114,10=>[3,27,28,29]
 |116,2=>[1,6,7,8]
 |123,2=>[3,6,16,17,18]
 |129,4=>[0,3]
 |129,9=>[0,37,38,39]
 |130,2=>[1,7,8,9]
 |131,2=>[0,2,3,11,12,13]
 |132,5=>[3,13,14,15]
 |138,1=>[0,8,9,10]
 |138,4=>[0,3,8,9,10,15,16,17]
 |141,1=>[0,1,4]
 |142,11=>[0,1,3,4,10,11,12,13,14,15,16]
 |142,18=>[0,1,3,4,10,11,12,13,17]
 |144,2=>[0,1,7,8]
 |149,10=>[0,2,3,5,9,95,96,97]
 |150,4=>[0,18,19]
 |158,1=>[0,2,3]
 |161,4=>[1,20,21,22]
 |161,9=>[1,20,21,22,34,35,36]
 |162,4=>[1,22,23,24]
 |162,9=>[1,22,23,24,31,32,33]
 |163,4=>[2,41,42,43]
 |164,3=>[3,7,8,9]
 |169,2=>[0,1,7,8]
 |175,15=>[0,1,5,6,7,8,9,10]
 |179,5=>[0,1,5,6,7,8,9]
 |179,11=>[0,1,5,6,7,8,10]
 |181,3=>[0,4,5]
 |181,8=>[4,6,7,8]
 |202,3=>[1,20,21,22]
 |202,7=>[1,20,21,22,35,36,37]
 |206,2=>[0,1,7,8]
 |210,4=>[1,20,21,22]
 |211,2=>[1,7,8,9]
 |214,3=>[2,41,42,43]
 |_,_=>[]
def tzT:FuncId→Nat→List (Nat×Nat):=fun f r=>match f,r with
 |10,19=>[(10,16385)]
 |11,19=>[(10,16385)]
 |23,23=>[(13,3)]
 |30,5=>[(9,3)]
 |36,3=>[(3,1)]
 |51,3=>[(3,23)]
 |51,7=>[(6,90113)]
 |62,5=>[(3,28673)]
 |63,5=>[(3,2)]
 |65,3=>[(5,1)]
 |83,3=>[(6,3)]
 |91,5=>[(3,1)]
 |92,3=>[(7,22)]
 |99,3=>[(2,1)]
 |99,9=>[(2,1)]
 |104,3=>[(3,1)]
 |104,7=>[(6,3)]
 |106,3=>[(3,4098)]
 |107,3=>[(3,24583)]
 |108,3=>[(3,19)]
 |132,5=>[(3,2)]
 |_,_=>[]
def modeT:FuncId→Nat→Nat:=fun f r=>match f,r with
 |17,26=>2
 |17,83=>2
 |30,7=>5
 |47,10=>3
 |54,15=>2
 |56,14=>1
 |58,12=>1
 |66,24=>1
 |80,13=>1
 |90,7=>3
 |105,8=>1
 |_,_=>0
def sepT:FuncId→Nat→List (Nat×Nat):=fun f r=>match f,r with
 |23,11=>[(54,66)]
 |76,1=>[(10,22)]
 |_,_=>[]
def cutT:FuncId→Nat→Bool:=fun f r=>match f,r with
 |60,13=>true
 |99,86=>true
 |199,113=>true
 |149,181=>true
 |214,39=>true
 |103,31=>true
 |103,51=>true
 |103,62=>true
 |_,_=>false
def inL (f:FuncId) (l:List Nat):Bool:=l.contains f
theorem mode5 (f s:Nat) (h:(f==30)=false):(modeT f s==5)=false:=by
 simp at h
 unfold modeT
 split <;> simp_all
theorem k_5_3:keepT 5 3=[2,5,12,13,14]:=Eq.trans rfl rfl
theorem k_5_9:keepT 5 9=[2,5,12,13,14,26,27,28]:=Eq.trans rfl rfl
theorem k_5_13:keepT 5 13=[2,5,12,13,14,26,27,28,40,41,42]:=Eq.trans rfl rfl
theorem k_10_19:keepT 10 19=[5,6,10,66,67,68]:=Eq.trans rfl rfl
theorem k_11_19:keepT 11 19=[5,6,10,66,67,68]:=Eq.trans rfl rfl
theorem k_12_4:keepT 12 4=[2,3,17,18]:=Eq.trans rfl rfl
theorem k_12_9:keepT 12 9=[2,3,5,17,18,38,39,40]:=Eq.trans rfl rfl
theorem k_15_3:keepT 15 3=[1,2,5,12,13,14]:=Eq.trans rfl rfl
theorem k_22_8:keepT 22 8=[3,6,29,30,31]:=Eq.trans rfl rfl
theorem k_22_14:keepT 22 14=[3,6,40,41,42]:=Eq.trans rfl rfl
theorem k_22_20:keepT 22 20=[6,56,57,58]:=Eq.trans rfl rfl
theorem k_22_23:keepT 22 23=[6,11,56,57,58,63,64,65]:=Eq.trans rfl rfl
theorem k_23_6:keepT 23 6=[5,6,9,34,35,36]:=Eq.trans rfl rfl
theorem k_23_23:keepT 23 23=[5,6,9,10,12,13,34,35,36,149,150,151]:=Eq.trans rfl rfl
theorem k_23_39:keepT 23 39=[6,9,235,236,237]:=Eq.trans rfl rfl
theorem k_23_42:keepT 23 42=[6,9,235,236,237,241,242,243]:=Eq.trans rfl rfl
theorem k_24_4:keepT 24 4=[2,3,22,23]:=Eq.trans rfl rfl
theorem k_25_2:keepT 25 2=[0,1,7,8]:=Eq.trans rfl rfl
theorem k_26_3:keepT 26 3=[1,5,14,15,16]:=Eq.trans rfl rfl
theorem k_26_7:keepT 26 7=[1,5,7,14,15,16,36,37,38]:=Eq.trans rfl rfl
theorem k_26_10:keepT 26 10=[1,5,7,14,15,16,36,37,38,43,44,45]:=Eq.trans rfl rfl
theorem k_26_16:keepT 26 16=[1,5,7,14,15,16,58,59,60]:=Eq.trans rfl rfl
theorem k_44_4:keepT 44 4=[2,3,6]:=Eq.trans rfl rfl
theorem k_47_3:keepT 47 3=[1,5,11,12,13]:=Eq.trans rfl rfl
theorem k_48_2:keepT 48 2=[1,7,8,9]:=Eq.trans rfl rfl
theorem k_51_3:keepT 51 3=[1,3,15,16,17]:=Eq.trans rfl rfl
theorem k_51_7:keepT 51 7=[1,3,5,6,7,15,16,17]:=Eq.trans rfl rfl
theorem k_52_2:keepT 52 2=[1,6,7,8]:=Eq.trans rfl rfl
theorem k_53_26:keepT 53 26=[2,3,5,6]:=Eq.trans rfl rfl
theorem k_53_38:keepT 53 38=[5,157,158,159]:=Eq.trans rfl rfl
theorem k_56_3:keepT 56 3=[0,2,5,7,8,9,27,28]:=Eq.trans rfl rfl
theorem k_58_3:keepT 58 3=[1,3,5,6,7,23,24]:=Eq.trans rfl rfl
theorem k_59_3:keepT 59 3=[1,5,14,15,16]:=Eq.trans rfl rfl
theorem k_62_5:keepT 62 5=[1,2,3,22,23,24]:=Eq.trans rfl rfl
theorem k_63_5:keepT 63 5=[3,14,15,16]:=Eq.trans rfl rfl
theorem k_80_5:keepT 80 5=[1,3,5,6,8,29,30]:=Eq.trans rfl rfl
theorem k_83_3:keepT 83 3=[1,2,6,14,15,16]:=Eq.trans rfl rfl
theorem k_91_5:keepT 91 5=[1,3,26,27,28]:=Eq.trans rfl rfl
theorem k_91_11:keepT 91 11=[1,3,26,27,28,42,43,44]:=Eq.trans rfl rfl
theorem k_91_18:keepT 91 18=[1,3,56,57,58]:=Eq.trans rfl rfl
theorem k_92_3:keepT 92 3=[1,2,7,11,12,13]:=Eq.trans rfl rfl
theorem k_96_2:keepT 96 2=[1,8,9,10]:=Eq.trans rfl rfl
theorem k_97_2:keepT 97 2=[1,2,10,11,12]:=Eq.trans rfl rfl
theorem k_97_5:keepT 97 5=[1,2,10,11,12,21,22,23]:=Eq.trans rfl rfl
theorem k_99_3:keepT 99 3=[0,2,30,31,32]:=Eq.trans rfl rfl
theorem k_99_9:keepT 99 9=[0,2,49,50,51]:=Eq.trans rfl rfl
theorem k_99_14:keepT 99 14=[0,2,49,50,51,72,73,74]:=Eq.trans rfl rfl
theorem k_100_2:keepT 100 2=[0,2,24,25,26]:=Eq.trans rfl rfl
theorem k_103_2:keepT 103 2=[1,2,3,4,13,14,15]:=Eq.trans rfl rfl
theorem k_104_3:keepT 104 3=[2,3,10,11,12]:=Eq.trans rfl rfl
theorem k_104_7:keepT 104 7=[2,3,6,10,11,12,16,17,18]:=Eq.trans rfl rfl
theorem k_105_3:keepT 105 3=[3,9,10,11]:=Eq.trans rfl rfl
theorem k_106_3:keepT 106 3=[2,3,10,11,12]:=Eq.trans rfl rfl
theorem k_107_3:keepT 107 3=[2,3,18,19,20]:=Eq.trans rfl rfl
theorem k_108_3:keepT 108 3=[3,6,7,8]:=Eq.trans rfl rfl
theorem k_113_2:keepT 113 2=[0,1,7,8]:=Eq.trans rfl rfl
theorem k_114_4:keepT 114 4=[3,16,17,18]:=Eq.trans rfl rfl
theorem k_114_10:keepT 114 10=[3,27,28,29]:=Eq.trans rfl rfl
theorem k_116_2:keepT 116 2=[1,6,7,8]:=Eq.trans rfl rfl
theorem k_123_2:keepT 123 2=[3,6,16,17,18]:=Eq.trans rfl rfl
theorem k_129_4:keepT 129 4=[0,3]:=Eq.trans rfl rfl
theorem k_129_9:keepT 129 9=[0,37,38,39]:=Eq.trans rfl rfl
theorem k_130_2:keepT 130 2=[1,7,8,9]:=Eq.trans rfl rfl
theorem k_131_2:keepT 131 2=[0,2,3,11,12,13]:=Eq.trans rfl rfl
theorem k_132_5:keepT 132 5=[3,13,14,15]:=Eq.trans rfl rfl
theorem k_138_1:keepT 138 1=[0,8,9,10]:=Eq.trans rfl rfl
theorem k_138_4:keepT 138 4=[0,3,8,9,10,15,16,17]:=Eq.trans rfl rfl
theorem k_144_2:keepT 144 2=[0,1,7,8]:=Eq.trans rfl rfl
theorem k_149_10:keepT 149 10=[0,2,3,5,9,95,96,97]:=Eq.trans rfl rfl
theorem k_150_4:keepT 150 4=[0,18,19]:=Eq.trans rfl rfl
theorem k_161_4:keepT 161 4=[1,20,21,22]:=Eq.trans rfl rfl
theorem k_161_9:keepT 161 9=[1,20,21,22,34,35,36]:=Eq.trans rfl rfl
theorem k_162_4:keepT 162 4=[1,22,23,24]:=Eq.trans rfl rfl
theorem k_162_9:keepT 162 9=[1,22,23,24,31,32,33]:=Eq.trans rfl rfl
theorem k_163_4:keepT 163 4=[2,41,42,43]:=Eq.trans rfl rfl
theorem k_164_3:keepT 164 3=[3,7,8,9]:=Eq.trans rfl rfl
theorem k_169_2:keepT 169 2=[0,1,7,8]:=Eq.trans rfl rfl
theorem k_202_3:keepT 202 3=[1,20,21,22]:=Eq.trans rfl rfl
theorem k_202_7:keepT 202 7=[1,20,21,22,35,36,37]:=Eq.trans rfl rfl
theorem k_206_2:keepT 206 2=[0,1,7,8]:=Eq.trans rfl rfl
theorem k_210_4:keepT 210 4=[1,20,21,22]:=Eq.trans rfl rfl
theorem k_211_2:keepT 211 2=[1,7,8,9]:=Eq.trans rfl rfl
theorem k_214_3:keepT 214 3=[2,41,42,43]:=Eq.trans rfl rfl
theorem t_5_3:tzT 5 3=[]:=Eq.trans rfl rfl
theorem t_5_9:tzT 5 9=[]:=Eq.trans rfl rfl
theorem t_5_13:tzT 5 13=[]:=Eq.trans rfl rfl
theorem t_10_19:tzT 10 19=[(10,16385)]:=Eq.trans rfl rfl
theorem t_11_19:tzT 11 19=[(10,16385)]:=Eq.trans rfl rfl
theorem t_12_4:tzT 12 4=[]:=Eq.trans rfl rfl
theorem t_12_9:tzT 12 9=[]:=Eq.trans rfl rfl
theorem t_15_3:tzT 15 3=[]:=Eq.trans rfl rfl
theorem t_22_8:tzT 22 8=[]:=Eq.trans rfl rfl
theorem t_22_14:tzT 22 14=[]:=Eq.trans rfl rfl
theorem t_22_20:tzT 22 20=[]:=Eq.trans rfl rfl
theorem t_22_23:tzT 22 23=[]:=Eq.trans rfl rfl
theorem t_23_6:tzT 23 6=[]:=Eq.trans rfl rfl
theorem t_23_23:tzT 23 23=[(13,3)]:=Eq.trans rfl rfl
theorem t_23_39:tzT 23 39=[]:=Eq.trans rfl rfl
theorem t_23_42:tzT 23 42=[]:=Eq.trans rfl rfl
theorem t_24_4:tzT 24 4=[]:=Eq.trans rfl rfl
theorem t_25_2:tzT 25 2=[]:=Eq.trans rfl rfl
theorem t_26_3:tzT 26 3=[]:=Eq.trans rfl rfl
theorem t_26_7:tzT 26 7=[]:=Eq.trans rfl rfl
theorem t_26_10:tzT 26 10=[]:=Eq.trans rfl rfl
theorem t_26_16:tzT 26 16=[]:=Eq.trans rfl rfl
theorem t_44_4:tzT 44 4=[]:=Eq.trans rfl rfl
theorem t_47_3:tzT 47 3=[]:=Eq.trans rfl rfl
theorem t_48_2:tzT 48 2=[]:=Eq.trans rfl rfl
theorem t_51_3:tzT 51 3=[(3,23)]:=Eq.trans rfl rfl
theorem t_51_7:tzT 51 7=[(6,90113)]:=Eq.trans rfl rfl
theorem t_52_2:tzT 52 2=[]:=Eq.trans rfl rfl
theorem t_53_26:tzT 53 26=[]:=Eq.trans rfl rfl
theorem t_53_38:tzT 53 38=[]:=Eq.trans rfl rfl
theorem t_56_3:tzT 56 3=[]:=Eq.trans rfl rfl
theorem t_58_3:tzT 58 3=[]:=Eq.trans rfl rfl
theorem t_59_3:tzT 59 3=[]:=Eq.trans rfl rfl
theorem t_62_5:tzT 62 5=[(3,28673)]:=Eq.trans rfl rfl
theorem t_63_5:tzT 63 5=[(3,2)]:=Eq.trans rfl rfl
theorem t_80_5:tzT 80 5=[]:=Eq.trans rfl rfl
theorem t_83_3:tzT 83 3=[(6,3)]:=Eq.trans rfl rfl
theorem t_91_5:tzT 91 5=[(3,1)]:=Eq.trans rfl rfl
theorem t_91_11:tzT 91 11=[]:=Eq.trans rfl rfl
theorem t_91_18:tzT 91 18=[]:=Eq.trans rfl rfl
theorem t_92_3:tzT 92 3=[(7,22)]:=Eq.trans rfl rfl
theorem t_96_2:tzT 96 2=[]:=Eq.trans rfl rfl
theorem t_97_2:tzT 97 2=[]:=Eq.trans rfl rfl
theorem t_97_5:tzT 97 5=[]:=Eq.trans rfl rfl
theorem t_99_3:tzT 99 3=[(2,1)]:=Eq.trans rfl rfl
theorem t_99_9:tzT 99 9=[(2,1)]:=Eq.trans rfl rfl
theorem t_99_14:tzT 99 14=[]:=Eq.trans rfl rfl
theorem t_100_2:tzT 100 2=[]:=Eq.trans rfl rfl
theorem t_103_2:tzT 103 2=[]:=Eq.trans rfl rfl
theorem t_104_3:tzT 104 3=[(3,1)]:=Eq.trans rfl rfl
theorem t_104_7:tzT 104 7=[(6,3)]:=Eq.trans rfl rfl
theorem t_105_3:tzT 105 3=[]:=Eq.trans rfl rfl
theorem t_106_3:tzT 106 3=[(3,4098)]:=Eq.trans rfl rfl
theorem t_107_3:tzT 107 3=[(3,24583)]:=Eq.trans rfl rfl
theorem t_108_3:tzT 108 3=[(3,19)]:=Eq.trans rfl rfl
theorem t_113_2:tzT 113 2=[]:=Eq.trans rfl rfl
theorem t_114_4:tzT 114 4=[]:=Eq.trans rfl rfl
theorem t_114_10:tzT 114 10=[]:=Eq.trans rfl rfl
theorem t_116_2:tzT 116 2=[]:=Eq.trans rfl rfl
theorem t_123_2:tzT 123 2=[]:=Eq.trans rfl rfl
theorem t_129_4:tzT 129 4=[]:=Eq.trans rfl rfl
theorem t_129_9:tzT 129 9=[]:=Eq.trans rfl rfl
theorem t_130_2:tzT 130 2=[]:=Eq.trans rfl rfl
theorem t_131_2:tzT 131 2=[]:=Eq.trans rfl rfl
theorem t_132_5:tzT 132 5=[(3,2)]:=Eq.trans rfl rfl
theorem t_138_1:tzT 138 1=[]:=Eq.trans rfl rfl
theorem t_138_4:tzT 138 4=[]:=Eq.trans rfl rfl
theorem t_144_2:tzT 144 2=[]:=Eq.trans rfl rfl
theorem t_149_10:tzT 149 10=[]:=Eq.trans rfl rfl
theorem t_150_4:tzT 150 4=[]:=Eq.trans rfl rfl
theorem t_161_4:tzT 161 4=[]:=Eq.trans rfl rfl
theorem t_161_9:tzT 161 9=[]:=Eq.trans rfl rfl
theorem t_162_4:tzT 162 4=[]:=Eq.trans rfl rfl
theorem t_162_9:tzT 162 9=[]:=Eq.trans rfl rfl
theorem t_163_4:tzT 163 4=[]:=Eq.trans rfl rfl
theorem t_164_3:tzT 164 3=[]:=Eq.trans rfl rfl
theorem t_169_2:tzT 169 2=[]:=Eq.trans rfl rfl
theorem t_202_3:tzT 202 3=[]:=Eq.trans rfl rfl
theorem t_202_7:tzT 202 7=[]:=Eq.trans rfl rfl
theorem t_206_2:tzT 206 2=[]:=Eq.trans rfl rfl
theorem t_210_4:tzT 210 4=[]:=Eq.trans rfl rfl
theorem t_211_2:tzT 211 2=[]:=Eq.trans rfl rfl
theorem t_214_3:tzT 214 3=[]:=Eq.trans rfl rfl
attribute [simp] k_5_3 k_5_9 k_5_13 k_10_19 k_11_19 k_12_4 k_12_9 k_15_3
attribute [simp] k_22_8 k_22_14 k_22_20 k_22_23 k_23_6 k_23_23 k_23_39 k_23_42 k_24_4
attribute [simp] k_25_2 k_26_3 k_26_7 k_26_10 k_26_16 k_44_4 k_47_3 k_48_2 k_51_3
attribute [simp] k_51_7 k_52_2 k_53_26 k_53_38 k_56_3 k_58_3 k_59_3 k_62_5 k_63_5
attribute [simp] k_80_5 k_83_3 k_91_5 k_91_11 k_91_18 k_92_3 k_96_2 k_97_2 k_97_5 k_99_3
attribute [simp] k_99_9 k_99_14 k_100_2 k_103_2 k_104_3 k_104_7 k_105_3 k_106_3 k_107_3 k_108_3
attribute [simp] k_113_2 k_114_4 k_114_10 k_116_2 k_123_2 k_129_4 k_129_9 k_130_2 k_131_2 k_132_5 k_138_1
attribute [simp] k_138_4 k_144_2 k_149_10 k_150_4 k_161_4 k_161_9 k_162_4 k_162_9
attribute [simp] k_163_4 k_164_3 k_169_2 k_202_3 k_202_7 k_206_2 k_210_4
attribute [simp] k_211_2 k_214_3 t_5_3 t_5_9 t_5_13 t_10_19 t_11_19 t_12_4 t_12_9 t_15_3
attribute [simp] t_22_8 t_22_14 t_22_20 t_22_23 t_23_6 t_23_23 t_23_39
attribute [simp] t_23_42 t_24_4 t_25_2 t_26_3 t_26_7 t_26_10 t_26_16 t_44_4 t_47_3
attribute [simp] t_48_2 t_51_3 t_51_7 t_52_2 t_53_26 t_53_38 t_56_3 t_58_3 t_59_3 t_62_5
attribute [simp] t_63_5 t_80_5 t_83_3 t_91_5 t_91_11 t_91_18 t_92_3 t_96_2 t_97_2
attribute [simp] t_97_5 t_99_3 t_99_9 t_99_14 t_100_2 t_103_2 t_104_3 t_104_7 t_105_3 t_106_3 t_107_3 t_108_3
attribute [simp] t_113_2 t_114_4 t_114_10 t_116_2 t_123_2 t_129_4 t_129_9 t_130_2 t_131_2
attribute [simp] t_132_5 t_138_1 t_138_4 t_144_2 t_149_10 t_150_4 t_161_4 t_161_9
attribute [simp] t_162_4 t_162_9 t_163_4 t_164_3 t_169_2 t_202_3 t_202_7
attribute [simp] t_206_2 t_210_4 t_211_2 t_214_3
theorem m_10_82:modeT 10 82=0:=Eq.trans rfl rfl
theorem m_11_82:modeT 11 82=0:=Eq.trans rfl rfl
theorem m_23_143:modeT 23 143=0:=Eq.trans rfl rfl
theorem m_23_160:modeT 23 160=0:=Eq.trans rfl rfl
theorem m_23_169:modeT 23 169=0:=Eq.trans rfl rfl
theorem m_23_179:modeT 23 179=0:=Eq.trans rfl rfl
theorem m_23_188:modeT 23 188=0:=Eq.trans rfl rfl
theorem m_23_194:modeT 23 194=0:=Eq.trans rfl rfl
theorem m_23_203:modeT 23 203=0:=Eq.trans rfl rfl
theorem m_23_212:modeT 23 212=0:=Eq.trans rfl rfl
theorem m_23_221:modeT 23 221=0:=Eq.trans rfl rfl
theorem m_23_231:modeT 23 231=0:=Eq.trans rfl rfl
theorem m_29_33:modeT 29 33=0:=Eq.trans rfl rfl
theorem m_47_10:modeT 47 10=3:=Eq.trans rfl rfl
theorem m_49_7:modeT 49 7=0:=Eq.trans rfl rfl
theorem m_51_53:modeT 51 53=0:=Eq.trans rfl rfl
theorem m_51_58:modeT 51 58=0:=Eq.trans rfl rfl
theorem m_56_14:modeT 56 14=1:=Eq.trans rfl rfl
theorem m_58_12:modeT 58 12=1:=Eq.trans rfl rfl
theorem m_62_34:modeT 62 34=0:=Eq.trans rfl rfl
theorem m_63_23:modeT 63 23=0:=Eq.trans rfl rfl
theorem m_80_13:modeT 80 13=1:=Eq.trans rfl rfl
theorem m_81_26:modeT 81 26=0:=Eq.trans rfl rfl
theorem m_83_27:modeT 83 27=0:=Eq.trans rfl rfl
theorem m_84_25:modeT 84 25=0:=Eq.trans rfl rfl
theorem m_86_15:modeT 86 15=0:=Eq.trans rfl rfl
theorem m_90_7:modeT 90 7=3:=Eq.trans rfl rfl
theorem m_91_24:modeT 91 24=0:=Eq.trans rfl rfl
theorem m_91_36:modeT 91 36=0:=Eq.trans rfl rfl
theorem m_92_20:modeT 92 20=0:=Eq.trans rfl rfl
theorem m_92_23:modeT 92 23=0:=Eq.trans rfl rfl
theorem m_92_43:modeT 92 43=0:=Eq.trans rfl rfl
theorem m_92_45:modeT 92 45=0:=Eq.trans rfl rfl
theorem m_92_48:modeT 92 48=0:=Eq.trans rfl rfl
theorem m_92_52:modeT 92 52=0:=Eq.trans rfl rfl
theorem m_92_54:modeT 92 54=0:=Eq.trans rfl rfl
theorem m_92_62:modeT 92 62=0:=Eq.trans rfl rfl
theorem m_92_64:modeT 92 64=0:=Eq.trans rfl rfl
theorem m_92_67:modeT 92 67=0:=Eq.trans rfl rfl
theorem m_92_73:modeT 92 73=0:=Eq.trans rfl rfl
theorem m_92_75:modeT 92 75=0:=Eq.trans rfl rfl
theorem m_92_78:modeT 92 78=0:=Eq.trans rfl rfl
theorem m_92_35:modeT 92 35=0:=Eq.trans rfl rfl
theorem m_93_55:modeT 93 55=0:=Eq.trans rfl rfl
theorem m_93_59:modeT 93 59=0:=Eq.trans rfl rfl
theorem m_99_43:modeT 99 43=0:=Eq.trans rfl rfl
theorem m_99_70:modeT 99 70=0:=Eq.trans rfl rfl
theorem m_101_7:modeT 101 7=0:=Eq.trans rfl rfl
theorem m_103_24:modeT 103 24=0:=Eq.trans rfl rfl
theorem m_103_42:modeT 103 42=0:=Eq.trans rfl rfl
theorem m_103_49:modeT 103 49=0:=Eq.trans rfl rfl
theorem m_103_60:modeT 103 60=0:=Eq.trans rfl rfl
theorem m_104_30:modeT 104 30=0:=Eq.trans rfl rfl
theorem m_104_36:modeT 104 36=0:=Eq.trans rfl rfl
theorem m_105_8:modeT 105 8=1:=Eq.trans rfl rfl
theorem m_106_21:modeT 106 21=0:=Eq.trans rfl rfl
theorem m_107_29:modeT 107 29=0:=Eq.trans rfl rfl
theorem m_108_16:modeT 108 16=0:=Eq.trans rfl rfl
theorem m_123_16:modeT 123 16=0:=Eq.trans rfl rfl
theorem m_132_22:modeT 132 22=0:=Eq.trans rfl rfl
theorem m_149_174:modeT 149 174=0:=Eq.trans rfl rfl
theorem m_149_178:modeT 149 178=0:=Eq.trans rfl rfl
theorem m_199_112:modeT 199 112=0:=Eq.trans rfl rfl
attribute [simp] m_10_82 m_11_82 m_23_143 m_23_160 m_23_169 m_23_179 m_23_188 m_23_194
attribute [simp] m_23_203 m_23_212 m_23_221 m_23_231 m_29_33
attribute [simp] m_47_10 m_49_7 m_51_53 m_51_58 m_56_14 m_58_12 m_62_34 m_63_23
attribute [simp] m_80_13 m_81_26 m_83_27 m_84_25 m_86_15 m_90_7 m_91_24 m_91_36 m_92_20
attribute [simp] m_92_23 m_92_43 m_92_45 m_92_48 m_92_52 m_92_54 m_92_62 m_92_64 m_92_67 m_92_73 m_92_75 m_92_78
attribute [simp] m_92_35 m_93_55 m_93_59 m_99_43 m_99_70 m_101_7 m_103_24 m_103_42 m_103_49 m_103_60 m_104_30 m_104_36
attribute [simp] m_105_8 m_106_21 m_107_29 m_108_16 m_123_16 m_132_22 m_149_174 m_149_178 m_199_112
theorem s_3_3:sepT 3 3=[]:=Eq.trans rfl rfl
theorem s_3_5:sepT 3 5=[]:=Eq.trans rfl rfl
theorem s_3_7:sepT 3 7=[]:=Eq.trans rfl rfl
theorem s_7_6:sepT 7 6=[]:=Eq.trans rfl rfl
theorem s_10_21:sepT 10 21=[]:=Eq.trans rfl rfl
theorem s_11_21:sepT 11 21=[]:=Eq.trans rfl rfl
theorem s_12_6:sepT 12 6=[]:=Eq.trans rfl rfl
theorem s_12_11:sepT 12 11=[]:=Eq.trans rfl rfl
theorem s_19_5:sepT 19 5=[]:=Eq.trans rfl rfl
theorem s_22_27:sepT 22 27=[]:=Eq.trans rfl rfl
theorem s_23_11:sepT 23 11=[(54,66)]:=Eq.trans rfl rfl
theorem s_23_13:sepT 23 13=[]:=Eq.trans rfl rfl
theorem s_23_16:sepT 23 16=[]:=Eq.trans rfl rfl
theorem s_23_18:sepT 23 18=[]:=Eq.trans rfl rfl
theorem s_23_25:sepT 23 25=[]:=Eq.trans rfl rfl
theorem s_23_27:sepT 23 27=[]:=Eq.trans rfl rfl
theorem s_23_31:sepT 23 31=[]:=Eq.trans rfl rfl
theorem s_23_32:sepT 23 32=[]:=Eq.trans rfl rfl
theorem s_23_36:sepT 23 36=[]:=Eq.trans rfl rfl
theorem s_24_6:sepT 24 6=[]:=Eq.trans rfl rfl
theorem s_25_4:sepT 25 4=[]:=Eq.trans rfl rfl
theorem s_25_6:sepT 25 6=[]:=Eq.trans rfl rfl
theorem s_26_5:sepT 26 5=[]:=Eq.trans rfl rfl
theorem s_29_8:sepT 29 8=[]:=Eq.trans rfl rfl
theorem s_48_4:sepT 48 4=[]:=Eq.trans rfl rfl
theorem s_51_9:sepT 51 9=[]:=Eq.trans rfl rfl
theorem s_51_11:sepT 51 11=[]:=Eq.trans rfl rfl
theorem s_56_1:sepT 56 1=[]:=Eq.trans rfl rfl
theorem s_56_5:sepT 56 5=[]:=Eq.trans rfl rfl
theorem s_58_1:sepT 58 1=[]:=Eq.trans rfl rfl
theorem s_58_5:sepT 58 5=[]:=Eq.trans rfl rfl
theorem s_60_4:sepT 60 4=[]:=Eq.trans rfl rfl
theorem s_62_2:sepT 62 2=[]:=Eq.trans rfl rfl
theorem s_62_7:sepT 62 7=[]:=Eq.trans rfl rfl
theorem s_62_9:sepT 62 9=[]:=Eq.trans rfl rfl
theorem s_62_10:sepT 62 10=[]:=Eq.trans rfl rfl
theorem s_71_12:sepT 71 12=[]:=Eq.trans rfl rfl
theorem s_76_1:sepT 76 1=[(10,22)]:=Eq.trans rfl rfl
theorem s_79_1:sepT 79 1=[]:=Eq.trans rfl rfl
theorem s_80_7:sepT 80 7=[]:=Eq.trans rfl rfl
theorem s_80_10:sepT 80 10=[]:=Eq.trans rfl rfl
theorem s_81_3:sepT 81 3=[]:=Eq.trans rfl rfl
theorem s_81_4:sepT 81 4=[]:=Eq.trans rfl rfl
theorem s_82_1:sepT 82 1=[]:=Eq.trans rfl rfl
theorem s_86_1:sepT 86 1=[]:=Eq.trans rfl rfl
theorem s_92_9:sepT 92 9=[]:=Eq.trans rfl rfl
theorem s_92_11:sepT 92 11=[]:=Eq.trans rfl rfl
theorem s_92_12:sepT 92 12=[]:=Eq.trans rfl rfl
theorem s_92_7:sepT 92 7=[]:=Eq.trans rfl rfl
theorem s_93_7:sepT 93 7=[]:=Eq.trans rfl rfl
theorem s_93_9:sepT 93 9=[]:=Eq.trans rfl rfl
theorem s_93_11:sepT 93 11=[]:=Eq.trans rfl rfl
theorem s_99_16:sepT 99 16=[]:=Eq.trans rfl rfl
theorem s_103_5:sepT 103 5=[]:=Eq.trans rfl rfl
theorem s_103_9:sepT 103 9=[]:=Eq.trans rfl rfl
theorem s_103_10:sepT 103 10=[]:=Eq.trans rfl rfl
theorem s_104_9:sepT 104 9=[]:=Eq.trans rfl rfl
theorem s_105_5:sepT 105 5=[]:=Eq.trans rfl rfl
theorem s_106_5:sepT 106 5=[]:=Eq.trans rfl rfl
theorem s_107_1:sepT 107 1=[]:=Eq.trans rfl rfl
theorem s_107_5:sepT 107 5=[]:=Eq.trans rfl rfl
theorem s_122_3:sepT 122 3=[]:=Eq.trans rfl rfl
theorem s_123_1:sepT 123 1=[]:=Eq.trans rfl rfl
theorem s_123_7:sepT 123 7=[]:=Eq.trans rfl rfl
theorem s_137_1:sepT 137 1=[]:=Eq.trans rfl rfl
theorem s_149_19:sepT 149 19=[]:=Eq.trans rfl rfl
theorem s_163_1:sepT 163 1=[]:=Eq.trans rfl rfl
theorem s_199_8:sepT 199 8=[]:=Eq.trans rfl rfl
theorem s_214_1:sepT 214 1=[]:=Eq.trans rfl rfl
theorem c_3_31:cutT 3 31=false:=Eq.trans rfl rfl
theorem c_3_32:cutT 3 32=false:=Eq.trans rfl rfl
theorem c_3_46:cutT 3 46=false:=Eq.trans rfl rfl
theorem c_3_47:cutT 3 47=false:=Eq.trans rfl rfl
theorem c_3_63:cutT 3 63=false:=Eq.trans rfl rfl
theorem c_3_72:cutT 3 72=false:=Eq.trans rfl rfl
theorem c_3_74:cutT 3 74=false:=Eq.trans rfl rfl
theorem c_3_77:cutT 3 77=false:=Eq.trans rfl rfl
theorem c_7_31:cutT 7 31=false:=Eq.trans rfl rfl
theorem c_7_37:cutT 7 37=false:=Eq.trans rfl rfl
theorem c_12_69:cutT 12 69=false:=Eq.trans rfl rfl
theorem c_19_23:cutT 19 23=false:=Eq.trans rfl rfl
theorem c_23_85:cutT 23 85=false:=Eq.trans rfl rfl
theorem c_23_109:cutT 23 109=false:=Eq.trans rfl rfl
theorem c_23_133:cutT 23 133=false:=Eq.trans rfl rfl
theorem c_26_29:cutT 26 29=false:=Eq.trans rfl rfl
theorem c_29_26:cutT 29 26=false:=Eq.trans rfl rfl
theorem c_29_30:cutT 29 30=false:=Eq.trans rfl rfl
theorem c_48_19:cutT 48 19=false:=Eq.trans rfl rfl
theorem c_51_39:cutT 51 39=false:=Eq.trans rfl rfl
theorem c_58_18:cutT 58 18=false:=Eq.trans rfl rfl
theorem c_58_41:cutT 58 41=false:=Eq.trans rfl rfl
theorem c_60_12:cutT 60 12=false:=Eq.trans rfl rfl
theorem c_60_13:cutT 60 13=true:=Eq.trans rfl rfl
theorem c_62_9:cutT 62 9=false:=Eq.trans rfl rfl
theorem c_62_12:cutT 62 12=false:=Eq.trans rfl rfl
theorem c_62_32:cutT 62 32=false:=Eq.trans rfl rfl
theorem c_62_40:cutT 62 40=false:=Eq.trans rfl rfl
theorem c_62_43:cutT 62 43=false:=Eq.trans rfl rfl
theorem c_62_48:cutT 62 48=false:=Eq.trans rfl rfl
theorem c_62_51:cutT 62 51=false:=Eq.trans rfl rfl
theorem c_79_19:cutT 79 19=false:=Eq.trans rfl rfl
theorem c_80_61:cutT 80 61=false:=Eq.trans rfl rfl
theorem c_81_43:cutT 81 43=false:=Eq.trans rfl rfl
theorem c_82_21:cutT 82 21=false:=Eq.trans rfl rfl
theorem c_92_32:cutT 92 32=false:=Eq.trans rfl rfl
theorem c_92_53:cutT 92 53=false:=Eq.trans rfl rfl
theorem c_92_66:cutT 92 66=false:=Eq.trans rfl rfl
theorem c_92_77:cutT 92 77=false:=Eq.trans rfl rfl
theorem c_93_60:cutT 93 60=false:=Eq.trans rfl rfl
theorem c_93_79:cutT 93 79=false:=Eq.trans rfl rfl
theorem c_93_98:cutT 93 98=false:=Eq.trans rfl rfl
theorem c_99_85:cutT 99 85=false:=Eq.trans rfl rfl
theorem c_99_86:cutT 99 86=true:=Eq.trans rfl rfl
theorem c_103_28:cutT 103 28=false:=Eq.trans rfl rfl
theorem c_103_31:cutT 103 31=true:=Eq.trans rfl rfl
theorem c_103_38:cutT 103 38=false:=Eq.trans rfl rfl
theorem c_103_47:cutT 103 47=false:=Eq.trans rfl rfl
theorem c_103_51:cutT 103 51=true:=Eq.trans rfl rfl
theorem c_103_58:cutT 103 58=false:=Eq.trans rfl rfl
theorem c_103_62:cutT 103 62=true:=Eq.trans rfl rfl
theorem c_104_25:cutT 104 25=false:=Eq.trans rfl rfl
theorem c_105_25:cutT 105 25=false:=Eq.trans rfl rfl
theorem c_106_19:cutT 106 19=false:=Eq.trans rfl rfl
theorem c_107_12:cutT 107 12=false:=Eq.trans rfl rfl
theorem c_107_15:cutT 107 15=false:=Eq.trans rfl rfl
theorem c_107_27:cutT 107 27=false:=Eq.trans rfl rfl
theorem c_123_12:cutT 123 12=false:=Eq.trans rfl rfl
theorem c_123_28:cutT 123 28=false:=Eq.trans rfl rfl
theorem c_137_5:cutT 137 5=false:=Eq.trans rfl rfl
theorem c_149_181:cutT 149 181=true:=Eq.trans rfl rfl
theorem c_199_108:cutT 199 108=false:=Eq.trans rfl rfl
theorem c_199_113:cutT 199 113=true:=Eq.trans rfl rfl
theorem c_214_39:cutT 214 39=true:=Eq.trans rfl rfl
attribute [simp] s_3_3 s_3_5 s_3_7 s_7_6 s_10_21 s_11_21 s_12_6 s_12_11
attribute [simp] s_19_5 s_22_27 s_23_11 s_23_13 s_23_16 s_23_18 s_23_25 s_23_27 s_23_31 s_23_32
attribute [simp] s_23_36 s_24_6 s_25_4 s_25_6 s_26_5 s_29_8 s_48_4
attribute [simp] s_51_9 s_51_11 s_56_1 s_56_5 s_58_1 s_58_5 s_60_4 s_62_2 s_62_7 s_62_9 s_62_10
attribute [simp] s_71_12 s_76_1 s_79_1 s_80_7 s_80_10 s_81_3 s_81_4 s_82_1 s_86_1
attribute [simp] s_92_9 s_92_11 s_92_12 s_92_7 s_93_7 s_93_9 s_93_11 s_99_16 s_103_5 s_103_9 s_103_10
attribute [simp] s_104_9 s_105_5 s_106_5 s_107_1 s_107_5 s_122_3 s_123_1 s_123_7 s_137_1
attribute [simp] s_149_19 s_163_1 s_199_8
attribute [simp] s_214_1 c_3_31 c_3_32 c_3_46 c_3_47 c_3_63 c_3_72 c_3_74 c_3_77
attribute [simp] c_7_31 c_7_37 c_12_69 c_19_23 c_23_85 c_23_109
attribute [simp] c_23_133 c_26_29 c_29_26 c_29_30 c_48_19 c_51_39 c_58_18 c_58_41
attribute [simp] c_60_12 c_60_13 c_62_9 c_62_12 c_62_32 c_62_40 c_62_43 c_62_48 c_62_51 c_79_19 c_80_61
attribute [simp] c_81_43 c_82_21 c_92_32 c_92_53 c_92_66 c_92_77 c_93_60 c_93_79 c_93_98 c_99_85 c_99_86 c_103_28
attribute [simp] c_103_31 c_103_38 c_103_47 c_103_51 c_103_58 c_103_62 c_104_25 c_105_25 c_106_19 c_107_12 c_107_15 c_107_27
attribute [simp] c_123_12 c_123_28 c_137_5 c_149_181 c_199_108 c_199_113 c_214_39
end T
end
section
open Go Go.Proofs Go.Sym
namespace T
def cloneF (n:Nat):List AV→Option IRes
 | [.lst sz rows .no]=>if sz=szOf n rows∧rows.length≤1073741824 then some (.own n rows)else none
 |_=>none
def shareT:FuncId→List AV→Bool
 |90,[.lst _ (_::_) _]=>true
 |f,_=>inL f [48,61,76,79,81,82,83,84,86,88,89,115,122,200,206]
noncomputable def okR (f:FuncId) (ps:List Tmp) (a bd:Code):Bool:=inL f [29,71]&&okRange (sepT f) (cutT f) (ntOf Tryz.prog f) ps a bd
noncomputable def X0:Ctx:={ P:=Tryz.prog,mode:=fun f s=>if f=90 then 0 else modeT f s,keep:=keepT,tz:=tzT,own:=fun f=>inL f [30],prim:=fun _=>none,sprim:=fun _=>none,share:=fun _ _=>false,raw:=fun _=>false,sep:=sepT,cut:=cutT,rng:=fun f=>inL f [29,71],dfr:=fun f=>inL f [60],rok:=okR,has:=fun _=>true }
def primT1 (g:FuncId):Option (List AV→Option IRes):=match g with |49=>some (cloneF 1) |90=>some (cloneF 3) |101=>some (cloneF 1) |168=>some containsF |35=>some itoaF |74=>some joinF |_=>none
def insE:List AV→List Blk→List Nat→Option (Res×List Blk×List Nat)
 | [.lst 3 [] (.tok t),.int .i64 i,.lst 3 vs .exact],H,K=>if i=0∧K[t]? =some 0∧0 < vs.length∧vs.length≤1073741824 then some (.ret (.lst 3 vs (.tok t)),H,K.set t vs.length)else none
 |args,H,K=>insF args H K
def sprimT (g:FuncId):Option (List AV→List Blk→List Nat→Option (Res×List Blk×List Nat)):=match g with |84=>some insE |89=>some delF |_=>none
noncomputable def X1:Ctx:={ X0 with
 mode:=modeT,share:=shareT,raw:=fun f=>inL f [61,90,115],
 prim:=primT1,sprim:=sprimT }
def ret0:Option (Res×List Blk×List Nat)→Bool
 |some (.ret (.int .i64 n),_,_)=>n==0
 |_=>false
def retS:Option (Res×List Blk×List Nat)→Option ByteArray
 |some (.ret (.str s),_,_)=>some s
 |_=>none
noncomputable def textF:List AV→Option IRes
 | [.agg [a,b,c],.agg [.lst 1 [[.lst 3 [[.lst z1 q1 .no,.int .i64 k1,.int .i64 d1],[.lst z2 q2 .no,.int .i64 k2,.int .i64 d2]] .no]] .no]]=>
  if ret0 (callN X1 800 33 [.agg [a,b,c],.agg [.lst 1 [[.lst 3 [[.lst z1 q1 .no,.int .i64 k1,.int .i64 d1],[.lst z2 q2 .no,.int .i64 k2,.int .i64 d2]] .no]] .no]] [] [])=true then
   ob (retS (callN X1 800 36 [.agg [.lst z1 q1 .no,.int .i64 k1,.int .i64 d1]] [] [])) fun s1=>
   ob (retS (callN X1 800 36 [.agg [.lst z2 q2 .no,.int .i64 k2,.int .i64 d2]] [] [])) fun s2=>
   if s1.size≤1000∧s2.size≤1000 then some (.ret (.tup [.str ⟨(83::48::58::(s1.data.toList++(s2.data.toList++[10]))).toArray⟩,.int .i64 0]))else none
  else none
 |_=>none
noncomputable def primT (g:FuncId):Option (List AV→Option IRes):=if g=18 then some textF else primT1 g
noncomputable def X:Ctx:={ X1 with prim:=primT }
theorem namesAll:Tryz.prog.funcs.all (fun fn=> !(fn.name== "runtime.NumGoroutine"))=true:=by kernel_rfl
theorem progOK:ProgOK Tryz.prog:=⟨fun g fn h=>by
 have:=Array.all_eq_true.1 namesAll g (Array.getElem?_eq_some_iff.1 h).1
 rw[(Array.getElem?_eq_some_iff.1 h).2]at this
 simpa using this,by kernel_rfl⟩
def okF (fn:Func) (g:Nat):Bool:=match fn.body with |some c=>okCode (sepT g) (cutT g) fn.ntmps c |none=>true
theorem codeAll:(Tryz.prog.funcs.toList.zipIdx.all fun p=>okF p.1 p.2)=true:=by kernel_rfl
theorem codeOK:∀(g:Nat) fn c,Tryz.prog.funcs[g]? =some fn→fn.body=some c→CodeOK (sepT g) (cutT g) fn.ntmps c:=fun g fn c h hb=>by
 have h1:(fn,g) ∈ Tryz.prog.funcs.toList.zipIdx:=by
  rw[List.mem_zipIdx_iff_getElem?]
  simpa using h
 have:=List.all_eq_true.1 codeAll _ h1
 simp only[okF,hb]at this
 exact okCode_spec c this
theorem rokOK:∀f ps a bd,okR f ps a bd=true→CodeOK (sepT f) (cutT f) (ntOf Tryz.prog f) a∧CodeOK (sepT f) (cutT f) (ntOf Tryz.prog f) bd∧∀p ∈ ps,p < ntOf Tryz.prog f:=fun f ps a bd h=>by
 simp only[okR,Bool.and_eq_true]at h
 exact okRange_spec h.2
theorem x0OK:SymOK X0:=⟨progOK,fun g fn c _ h hb=>codeOK g fn c h hb,fun g F args r h=>by simp[X0]at h,fun g F args H K r h=>by simp[X0]at h,fun _=>rfl,rokOK⟩
end T
end
section
open Go Go.Proofs Go.Sym
namespace T
theorem zP:X0.P=Tryz.prog:=Eq.trans rfl rfl
theorem zh (f):X0.has f=true:=Eq.trans rfl rfl
theorem zD (f):X0.dfr f=inL f [60]:=Eq.trans rfl rfl
theorem zR (f):X0.raw f=false:=Eq.trans rfl rfl
theorem zM (f s):X0.mode f s=if f=90 then 0 else modeT f s:=Eq.trans rfl rfl
theorem inL_nil (f):inL f []=false:=Eq.trans rfl rfl
theorem inL_cons (f a l):inL f (a::l)=(f==a||inL f l):=by simp only[inL,List.contains_cons]
attribute [simp] zP zh zD zR zM inL_nil inL_cons mode5
attribute [-simp] getElem?_pos
attribute [simp] Int.ofNat_inj
theorem body_of {g:Nat} (h:(match Tryz.prog.funcs[g]? with |some fn=>fn.body.isSome |none=>false)=true):Body Tryz.prog g:=by
 split at h
 ·rename_i fn hf
  exact⟨fn,hf,h⟩
 ·cases h
theorem c49_an':call X0 49 [.lst 0 [] .an] [] []=some (.ret (.lst 0 [] .nil),[],[]):=by
 rw[call_eq (by decide) (by simp)]
 simp[Tryz.func49,Tryz.f49,envOf,leave_pure]
theorem c49_nn:call X0 49 [.lst 0 [] .nn] [] []=some (.ret (.lst 1 [] (.tok 0)),[],[0]):=by
 rw[call_eq (by decide) (by simp)]
 simp[Tryz.func49,Tryz.f49,envOf,leave_pure]
theorem c49_cons (a:List AV) (r:List (List AV)) (h:r.length+1≤1073741824):call X0 49 [.lst 1 (a::r) .no] [] []=some (.ret (.lst 1 (a::r) (.tok 0)),[],[r.length+1]):=by
 rw[call_eq (by decide) (by simp)]
 simp at h
 simp[Tryz.func49,Tryz.f49,envOf,leave_pure,h]
theorem p49 (args:List AV) (r:IRes) (h:cloneF 1 args=some r):Body Tryz.prog 49∧∃(own:Bool) (q:Res×List Blk×List Nat),
   (match q.1 with | .ret v=>iret own q.2.2 v | .panic v=>if pureB v=true then some (.panic v)else none)=some r∧
   ∀L w (us:Array Value),Inv L (lH []) (lK []) w w.heap.size→RepL L w args us.toList→Calls Tryz.prog 49 us w (Ends w.heap.size L w q):=by
 unfold cloneF at h
 split at h
 ·rename_i sz rows
  split at h
  ·rename_i hc
   obtain⟨rfl,hl⟩:=hc
   cases h
   refine prim_own x0OK zP (g:=49) (by decide) (body_of (by kernel_rfl)) (fun e=>?_) fun e=>?_
   ·subst e
    exact⟨⟨0,c49_an'⟩,c49_nn⟩
   ·cases rows with
    |nil=>exact absurd rfl e
    |cons a r=>exact c49_cons a r hl
  ·cases h
 ·cases h
theorem c90_an':call X0 90 [.lst 0 [] .an] [] []=some (.ret (.lst 0 [] .nil),[],[]):=by
 rw[call_eq (by decide) (by simp)]
 simp[Tryz.func90,Tryz.f90,envOf,leave_pure]
theorem c90_nn:call X0 90 [.lst 0 [] .nn] [] []=some (.ret (.lst 3 [] (.tok 0)),[],[0]):=by
 rw[call_eq (by decide) (by simp)]
 simp[Tryz.func90,Tryz.f90,envOf,leave_pure]
theorem c90_cons (a:List AV) (r:List (List AV)) (h:r.length+1≤1073741824):call X0 90 [.lst 3 (a::r) .no] [] []=some (.ret (.lst 3 (a::r) (.tok 0)),[],[r.length+1]):=by
 rw[call_eq (by decide) (by simp)]
 simp at h
 simp[Tryz.func90,Tryz.f90,envOf,leave_pure,h]
theorem p90 (args:List AV) (r:IRes) (h:cloneF 3 args=some r):Body Tryz.prog 90∧∃(own:Bool) (q:Res×List Blk×List Nat),
   (match q.1 with | .ret v=>iret own q.2.2 v | .panic v=>if pureB v=true then some (.panic v)else none)=some r∧
   ∀L w (us:Array Value),Inv L (lH []) (lK []) w w.heap.size→RepL L w args us.toList→Calls Tryz.prog 90 us w (Ends w.heap.size L w q):=by
 unfold cloneF at h
 split at h
 ·rename_i sz rows
  split at h
  ·rename_i hc
   obtain⟨rfl,hl⟩:=hc
   cases h
   refine prim_own x0OK zP (g:=90) (by decide) (body_of (by kernel_rfl)) (fun e=>?_) fun e=>?_
   ·subst e
    exact⟨⟨0,c90_an'⟩,c90_nn⟩
   ·cases rows with
    |nil=>exact absurd rfl e
    |cons a r=>exact c90_cons a r hl
  ·cases h
 ·cases h
theorem c101_an':call X0 101 [.lst 0 [] .an] [] []=some (.ret (.lst 0 [] .nil),[],[]):=by
 rw[call_eq (by decide) (by simp)]
 simp[Tryz.func101,Tryz.f101,envOf,leave_pure]
theorem c101_nn:call X0 101 [.lst 0 [] .nn] [] []=some (.ret (.lst 1 [] (.tok 0)),[],[0]):=by
 rw[call_eq (by decide) (by simp)]
 simp[Tryz.func101,Tryz.f101,envOf,leave_pure]
theorem c101_cons (a:List AV) (r:List (List AV)) (h:r.length+1≤1073741824):call X0 101 [.lst 1 (a::r) .no] [] []=some (.ret (.lst 1 (a::r) (.tok 0)),[],[r.length+1]):=by
 rw[call_eq (by decide) (by simp)]
 simp at h
 simp[Tryz.func101,Tryz.f101,envOf,leave_pure,h]
theorem p101 (args:List AV) (r:IRes) (h:cloneF 1 args=some r):Body Tryz.prog 101∧∃(own:Bool) (q:Res×List Blk×List Nat),
   (match q.1 with | .ret v=>iret own q.2.2 v | .panic v=>if pureB v=true then some (.panic v)else none)=some r∧
   ∀L w (us:Array Value),Inv L (lH []) (lK []) w w.heap.size→RepL L w args us.toList→Calls Tryz.prog 101 us w (Ends w.heap.size L w q):=by
 unfold cloneF at h
 split at h
 ·rename_i sz rows
  split at h
  ·rename_i hc
   obtain⟨rfl,hl⟩:=hc
   cases h
   refine prim_own x0OK zP (g:=101) (by decide) (body_of (by kernel_rfl)) (fun e=>?_) fun e=>?_
   ·subst e
    exact⟨⟨0,c101_an'⟩,c101_nn⟩
   ·cases rows with
    |nil=>exact absurd rfl e
    |cons a r=>exact c101_cons a r hl
  ·cases h
 ·cases h
theorem primOK1:PrimOK X1:=fun g F args r h hF=>by
 have h':primT1 g=some F:=h
 unfold primT1 at h'
 split at h'
 ·cases h';exact p49 args r hF
 ·cases h';exact p90 args r hF
 ·cases h';exact p101 args r hF
 ·cases h';exact p168 args r hF (body_of (by kernel_rfl))
 ·cases h';exact p35 args r hF (body_of (by kernel_rfl))
 ·cases h';exact p74 args r hF (body_of (by kernel_rfl))
 ·cases h'
theorem c84e (H:List Blk) (K:List Nat) (t:Nat) (vs:List (List AV)) (hK:K[t]? =some 0) (h0:0 < vs.length) (hl:vs.length≤1073741824):call X0 84 [.lst 3 [] (.tok t),.int .i64 0,.lst 3 vs .exact] H K=some (.ret (.lst 3 vs (.tok t)),H,K.set t vs.length):=by
 rw[call_eq (by decide) (by simp)]
 have hne: ¬((vs.length:Int)=0):=by omega
 have hne': ¬vs=[]:=by rintro rfl;simp at h0
 simp[Tryz.func84,Tryz.f84,envOf,hne,hne',hK,hl,leave_pure]
theorem sprimOK:SprimOK X1:=fun g F args H K q h hF=>by
 have h':sprimT g=some F:=h
 unfold sprimT at h'
 split at h'
 ·cases h'
  refine⟨body_of (by kernel_rfl),?_⟩
  unfold insE at hF
  split at hF
  ·rename_i t i vs
   split at hF
   ·rename_i hc
    obtain⟨rfl,hK,h0,hl⟩:=hc
    cases hF
    refine⟨⟨Nat.le_refl _,by simp,fun n _ ho=>ho⟩,fun L w base us hi hr=>?_⟩
    exact((call_sound x0OK).call 84 _ H K _ (by decide) (c84e H K t vs hK h0 hl)).2 L w base us hi hr
   ·cases hF
  ·exact ins_sound hF
 ·cases h'
  exact⟨body_of (by kernel_rfl),del_sound hF⟩
 ·cases h'
theorem x1OK:SymOK X1:=⟨progOK,fun g fn c _ h hb=>codeOK g fn c h hb,primOK1,sprimOK,fun b=>by
 have:sprimT (rid+b)=none:=by
  unfold sprimT
  split
  ·rename_i h;have:rid=1000000:=rfl;omega
  ·rename_i h;have:rid=1000000:=rfl;omega
  ·rfl
 exact this,rokOK⟩
end T
end
section
open Go Go.Proofs Go.Sym Go.RowKit
namespace T
theorem inv_up {L:Lay} {w w':World} (hi:Inv L (lH []) (lK []) w w.heap.size) (hb:Below w.heap.size w w'):Inv L (lH []) (lK []) w' w'.heap.size:=by
 have h:=hi.grow hb
 have hK:∀t k,L.tk t≠some k:=fun t k hk=>by
  have:=hi.K t
  rw[hk]at this
  simp[lK]at this
 exact⟨h.dom,h.dom',fun b k r sz hk=>by simp[lH]at hk,h.inj,fun b k r sz hk=>by simp[lH]at hk,h.K,fun t k hk=>(hK t k hk).elim,fun t t' k k' g hk=>(hK t k hk).elim,h.size,fun g hg=>Nat.lt_of_lt_of_le (h.lent g hg) h.top,Nat.le_refl _,h.glob.mono h.top⟩
theorem call_at {L:Lay} {w:World} (hi:Inv L (lH []) (lK []) w w.heap.size) {g:FuncId} (hg:g < rid) {args:List AV} {v:AV} {H:List Blk} {K:List Nat} (hc:callN X1 800 g args [] []=some (.ret v,H,K)) {us:Array Value} (hr:RepL L w args us.toList) {x:Value} (hx:∀L w u,Rep L w v u→u=x):
  ∀w',Below w.heap.size w w'→Calls Tryz.prog g us w' fun e w''=>e= .returned x∧Below w'.heap.size w' w'':=fun w' hb=>by
 have h1:=((call_sound x1OK).call g args [] [] _ hg (call_iff.2 ⟨800,hc⟩)).2 L w' w'.heap.size us (inv_up hi hb) (RepL.extL (Ext.grow hi hb) hr)
 refine Calls.mono h1 fun e w'' he=>?_
 cases e with
 |returned u=>
  obtain⟨L',hx',_,hv⟩:=he
  exact⟨congrArg _ (hx _ _ _ hv),hx'.old⟩
 |panicked ch=>exact he.elim
 |outgrown=>exact he.elim
theorem p18 (args:List AV) (r:IRes) (h:textF args=some r):Body Tryz.prog 18∧∃(own:Bool) (q:Res×List Blk×List Nat),
   (match q.1 with | .ret v=>iret own q.2.2 v | .panic v=>if pureB v=true then some (.panic v)else none)=some r∧
   ∀L w (us:Array Value),Inv L (lH []) (lK []) w w.heap.size→RepL L w args us.toList→Calls Tryz.prog 18 us w (Ends w.heap.size L w q):=by
 unfold textF at h
 split at h
 ·rename_i a b c z1 q1 k1 d1 z2 q2 k2 d2
  split at h
  ·rename_i h33
   obtain⟨s1,hs1,h⟩:=ob_eq h
   obtain⟨s2,hs2,h⟩:=ob_eq h
   split at h
   ·rename_i hsz
    cases h
    refine⟨body_of (by kernel_rfl),false,(.ret (.tup [.str ⟨(83::48::58::(s1.data.toList++(s2.data.toList++[10]))).toArray⟩,.int .i64 0]),[],[]),rfl,fun L w us hi hr=>?_⟩
    have hr0:=hr
    obtain⟨u0,m0,e0,r0,hr⟩:=by simpa only[RepL] using hr
    obtain⟨u1,m1,e1,r1,hr⟩:=by simpa only[RepL] using hr
    obtain rfl:m1=[]:=by simpa only[RepL] using hr
    subst e1
    obtain rfl:us= #[u0,u1]:=by simpa using congrArg List.toArray e0
    obtain⟨vs,rfl,hv⟩:=by simpa only[Rep] using r0
    obtain⟨va,m2,e2,ra,hv⟩:=by simpa only[RepL] using hv
    obtain⟨vb,m3,e3,rb,hv⟩:=by simpa only[RepL] using hv
    obtain⟨vc,m4,e4,rc,hv⟩:=by simpa only[RepL] using hv
    obtain rfl:m4=[]:=by simpa only[RepL] using hv
    subst e4 e3
    obtain rfl:vs= #[va,vb,vc]:=by simpa using congrArg List.toArray e2
    obtain⟨ss,rfl,hs⟩:=by simpa only[Rep] using r1
    obtain⟨sl,m5,e5,rs,hs⟩:=by simpa only[RepL] using hs
    obtain rfl:m5=[]:=by simpa only[RepL] using hs
    obtain rfl:ss= #[sl]:=by simpa using congrArg List.toArray e5
    obtain⟨ad,n,cap,rfl,hn,hcap,hmax,hrows,_⟩:=by simpa only[Rep] using rs
    obtain rfl:n=1:=by simpa using hn.symm
    obtain⟨g,p,rfl,hrow⟩:=hrows.resolve_left (by simp)
    simp only[RepR,RepC]at hrow
    obtain⟨_,⟨_,_,_,⟨u2,hu2,hr2⟩,_⟩,_⟩:=hrow
    obtain⟨ad2,n2,cap2,rfl,hn2,hcap2,hmax2,hrows2,_⟩:=by simpa only[Rep] using hr2
    obtain rfl:n2=2:=by simpa using hn2.symm
    obtain⟨g2,p2,rfl,hrow2⟩:=hrows2.resolve_left (by simp)
    simp only[RepR,RepC]at hrow2
    obtain⟨_,⟨_,_,_,⟨x1,hx1,rx1⟩,_,_,_,⟨x2,hx2,rx2⟩,_,_,_,⟨x3,hx3,rx3⟩,_⟩,_,⟨_,_,_,⟨x4,hx4,rx4⟩,_,_,_,⟨x5,hx5,rx5⟩,_,_,_,⟨x6,hx6,rx6⟩,_⟩,_⟩:=hrow2
    obtain⟨ad3,n3,cp3,rfl,f1,f2,f3,f4,f5⟩:=by simpa only[Rep] using rx1
    obtain⟨ad4,n4,cp4,rfl,f1',f2',f3',f4',f5'⟩:=by simpa only[Rep] using rx4
    obtain rfl:x2= .int .i64 k1:=by simpa only[Rep] using rx2
    obtain rfl:x3= .int .i64 d1:=by simpa only[Rep] using rx3
    obtain rfl:x5= .int .i64 k2:=by simpa only[Rep] using rx5
    obtain rfl:x6= .int .i64 d2:=by simpa only[Rep] using rx6
    have lt:∀{g o:Nat} {u:Value},w.cell? ⟨g,o,none⟩=some u→g < w.heap.size:=fun {g o u} h=>by
     unfold World.cell? at h
     cases hh:w.heap[g]? with
     |none=>simp[hh]at h
     |some y=>exact(Array.getElem?_eq_some_iff.1 hh).1
    have c33:∃H K,callN X1 800 33 [.agg [a,b,c],.agg [.lst 1 [[.lst 3 [[.lst z1 q1 .no,.int .i64 k1,.int .i64 d1],[.lst z2 q2 .no,.int .i64 k2,.int .i64 d2]] .no]] .no]] [] []=some (.ret (.int .i64 0),H,K):=by
     unfold ret0 at h33
     split at h33
     ·rename_i n H K e
      exact⟨H,K,by rw[e,show n=0 by simpa using h33]⟩
     ·cases h33
    have cs:∀{r:Option (Res×List Blk×List Nat)} {s},retS r=some s→∃H K,r=some (.ret (.str s),H,K):=fun {r s} h=>by
     unfold retS at h
     split at h
     ·cases h;exact⟨_,_,rfl⟩
     ·cases h
    obtain⟨H3,K3,c33⟩:=c33
    obtain⟨H4,K4,c36⟩:=cs hs1
    obtain⟨H5,K5,c37⟩:=cs hs2
    refine Calls.mono (Tryz.text_walk va vb vc g p cap g2 p2 cap2 ad3 ad4 n3 cp3 n4 cp4 k1 d1 k2 d2 s1 s2 w (lt hu2) (lt hx1) hcap hcap2 hu2 hx1 hx2 hx3 (by simpa using hx4) (by simpa using hx5) (by simpa using hx6) hsz.1 hsz.2
     (call_at hi (by decide) c33 hr0 fun L w u h=>by simpa only[Rep] using h)
     (call_at hi (by decide) c36 (by
      simp only[RepL,Rep]
      exact⟨_,[],rfl,⟨_,rfl,_,_,rfl,rx1,_,_,rfl,rx2,_,_,rfl,rx3,rfl⟩,rfl⟩) fun L w u h=>by simpa only[Rep] using h)
     (call_at hi (by decide) c37 (by
      simp only[RepL,Rep]
      exact⟨_,[],rfl,⟨_,rfl,_,_,rfl,rx4,_,_,rfl,rx5,_,_,rfl,rx6,rfl⟩,rfl⟩) fun L w u h=>by simpa only[Rep] using h)) ?_
    rintro e w' ⟨rfl,hb⟩
    exact ends_below hi hb fun L w=>by
     simp only[Rep,RepL]
     exact⟨_,rfl,_,_,rfl,rfl,_,_,rfl,rfl,rfl⟩
   ·cases h
  ·cases h
 ·cases h
end T
end
section
open Go Go.Proofs Go.Sym Go.RowKit
namespace T
theorem icall_at {X:Ctx} (hX:SymOK X) {L:Lay} {w:World} (hi:Inv L (lH []) (lK []) w w.heap.size) {g:FuncId} (hg:g < rid) (hp:X.prim g=none) {args:List AV} {k:IntKind} {n:Int} (hc:icall X (call X) g args=some (.ret (.int k n)))
  {us:Array Value} (hr:RepL L w args us.toList):∀w',Below w.heap.size w w'→Calls X.P g us w' fun e w''=>e= .returned (.int k n)∧Below w'.heap.size w' w'':=fun w' hb=>by
 unfold icall at hc
 rw[hp]at hc
 obtain⟨q,hq,hc⟩:=ob_eq hc
 obtain⟨q1,q2,q3⟩:=q
 cases q1 with
 |panic v=>
  simp only at hc
  split at hc <;> cases hc
 |ret v=>
  simp only at hc
  have hv:v= .int k n:=by
   rcases iret_cases hc with⟨sz,rows,c,_,h,_⟩ |⟨h,_⟩
   ·cases h
   ·cases v <;> simp[normv]at h
    exact h.1 ▸ h.2 ▸ rfl
  subst hv
  have h1:=((call_sound hX).call g args [] [] _ hg hq).2 L w' w'.heap.size us (inv_up hi hb) (RepL.extL (Ext.grow hi hb) hr)
  refine Calls.mono h1 fun e w'' he=>?_
  cases e with
  |returned u=>
   obtain⟨L',hx',_,hv⟩:=he
   have hv':u= .int k n:=hv
   exact⟨congrArg _ hv',hx'.old⟩
  |panicked ch=>exact he.elim
  |outgrown=>exact he.elim
theorem tail_sound {X:Ctx} (hX:SymOK X) {g:FuncId} {fn:Func} (hf:X.P.funcs[g]? =some fn) (hrng:X.rng g=false) {rest:Code} {nt:Nat} (hnt:fn.ntmps≤nt) (hcode:CodeOK (X.sep g) (X.cut g) nt rest) {s:St} {o:Out} (ho:ex X g rest s=some o)
  {r:Res×List Blk×List Nat} (hfin:fin X.P false fn.results.toList o=some r) (hpan:∀v s,o≠ .panic v s) {L0:Lay} {w0:World} {base:Nat} (hgood:Good L0 s) {a:Act} {w:World} (hh:Here L0 w0 base nt none s a w):
  rest.wp X.P (bodyPost X.P fn (Ends base L0 w0 r)) a w:=by
 obtain⟨n,hn⟩:=ex_iff.1 ho
 obtain⟨hcl,hpc⟩:=callN_sound hX n
 have hic:=icalls_sound hX hcl
 have hsc:=scalls_sound hX hcl
 have hps:=pres_scall hX hpc
 have hnt':ntOf X.P g≤nt:=by simp only[ntOf,hf];exact hnt
 have hpo:=pres_exec hpc hps rest _ o hgood.nh hn
 refine(wpIn_wide (n:=0)).1 (wpIn_mono (exec_sound (ro:=none) (N:=0) (fun _=>hrng) hnt' (fun l e=>by cases e) hX.prog hcl hsc hic hpc hps rest s o a w hcode hn hgood hh) fun e a' w' hpost=>?_)
 have hgo:=hgood.pres hpo
 have out:∀s,leave X.P false fn.results.toList s=some r→Good L0 s→Here L0 w0 base nt none s a' w'→a'.defers=[]∧∃v,(results fn a'.tmps).run X.P w'= .ok v w'∧Ends base L0 w0 r (.returned v) w':=fun s hl hg ⟨L',hat⟩=>by
  obtain⟨u,hu,he⟩:=leave_sound hg hat.ext hat.inv hat.env hl
  exact⟨hat.defers,u,hu,he⟩
 cases o with
 |next s=>
  cases e <;> first |exact hpost.elim |skip
  exact out s hfin hgo hpost
 |ret s=>
  cases e <;> first |exact hpost.elim |skip
  exact out s hfin hgo hpost
 |exit i s=>cases hfin
 |panic v s=>exact absurd rfl (hpan v s)
end T
end
section
namespace Go.Proofs
open Go.RowKit
attribute [local go_sem ↓] Go.wp_at_zero Go.wp_at_succ
structure CopW (w:World) (B y:Nat) (cs:List Value) (pt:List (List R3)):Prop where
  hB:B≤y
  blk:w.heap[y]? =some (.cells cs.toArray 50 (0,0))
  len:cs.length=pt.length
  own:∀(k:Nat) u l,cs[k]? =some u→pt[k]? =some l→OwR w B u l
  nil:∀(k:Nat) u,cs[k]? =some u→pt[k]? =some []→u= .slice none 0 0
  apart:∀(k k':Nat) u u',k≠k'→cs[k]? =some u→cs[k']? =some u'→u.ownBlock=none∨u.ownBlock≠u'.ownBlock
theorem Cop54.later {w0 w:World} {cs pt} (h:Cop54 w0 w cs pt):CopW w w0.heap.size (w0.heap.size+2) cs pt:=⟨by omega,h.blk,h.len,h.own,h.nil,h.apart⟩
theorem CopW.kept {w w':World} {B y:Nat} {cs pt} {row:Option Nat} (h:CopW w B y cs pt) (hg:w.grownBy w' row) (h3:NotT w row 3) (h50:NotT w row 50) (h54:NotT w row 54):CopW w' B y cs pt:=by
  refine⟨h.hB,?_,h.len,fun k u l hu hl=>?_,h.nil,h.apart⟩
  · rw[hg.block y (Array.getElem?_eq_some_iff.1 h.blk).1 fun e=>?_]
    · exact h.blk
    · obtain⟨cs',e',z,h1,h2⟩:=h50 y e.symm
      rw[h.blk]at h1
      cases h1
      exact h2 rfl
  · have a2:=h.own k u l hu hl
    refine a2.kept hg h3 ?_
    cases hv:u.ownBlock with
    |none=>exact .inl rfl
    |some b=>
      refine .inr fun e=>?_
      obtain⟨xs',h1,_⟩:=a2
      obtain⟨cur,h1⟩:=own_typed h1 hv
      obtain⟨cs',e',z,h4,h5⟩:=h54 b e.symm
      rw[h1]at h4
      cases h4
      exact h5 rfl
structure At23 (w:World) (us:Array (Array Value)) (N:Nat) (tb:List (List R3)) (a:Act) (wf:World):Prop where
  defers:a.defers=[]
  size:a.tmps.size=255
  s3:a.tmps.getD 3 undef= .pointer (some ⟨w.heap.size,0,none⟩)
  s4:a.tmps.getD 4 undef= .pointer (some ⟨w.heap.size+1,0,none⟩)
  s5:a.tmps.getD 5 undef= .pointer (some ⟨w.heap.size+1+1,0,none⟩)
  s6:a.tmps.getD 6 undef= .pointer (some ⟨w.heap.size+1+1+1,0,none⟩)
  below:Below w.heap.size w wf
  b3:wf.heap[w.heap.size]? =some (.cells us[0]! 26 (0,0))
  b4:wf.heap[w.heap.size+1]? =some (.cells us[1]! 29 (0,0))
  b5:wf.heap[w.heap.size+1+1]? =some (.cells us[2]! 32 (0,0))
  b6:wf.heap[w.heap.size+1+1+1]? =some (.cells #[.slice none 0 0] 29 (0,0))
  cop:∃x y B cs,a.tmps.getD 9 undef= .pointer (some ⟨x,0,none⟩)∧wf.heap[x]? =some (.cells #[.slice (some ⟨y,0,none⟩) N N] 29 (0,0))∧w.heap.size+4≤x∧w.heap.size+4≤B∧CopW wf B y cs tb
def cdr:Code→Code
  | .seq _ b=>b
  |c=>c
noncomputable def rest23:Code:=cdr (cdr (cdr (Tryz.f23.body.getD .skip)))
structure Fr (w:World) (us:Array (Array Value)) (wf:World):Prop where
  below:Below w.heap.size w wf
  size:w.heap.size+4≤wf.heap.size
  b3:wf.heap[w.heap.size]? =some (.cells us[0]! 26 (0,0))
  b4:wf.heap[w.heap.size+1]? =some (.cells us[1]! 29 (0,0))
  b5:wf.heap[w.heap.size+1+1]? =some (.cells us[2]! 32 (0,0))
  b6:wf.heap[w.heap.size+1+1+1]? =some (.cells #[.slice none 0 0] 29 (0,0))
theorem Fr.grown {w:World} {us} {w1 w2:World} {row:Option Nat} (h:Fr w us w1) (hg:w1.grownBy w2 row) (hr:∀k,row=some k→w.heap.size+4≤k):Fr w us w2:=by
  have hs:=h.size
  have hb:∀k,k < w.heap.size+4→w2.heap[k]? =w1.heap[k]? :=fun k hk=>hg.block k (by omega) fun e=>by have:=hr k e.symm;omega
  exact⟨h.below.trans ⟨hg.os,hg.tape,hg.output,hg.size,fun k hk=>hb k (by omega)⟩,Nat.le_trans hs hg.size,(hb _ (by omega)).trans h.b3,(hb _ (by omega)).trans h.b4,(hb _ (by omega)).trans h.b5,(hb _ (by omega)).trans h.b6⟩
theorem Fr.later {w:World} {us} {w1 w2:World} (h:Fr w us w1) (hb:Below w1.heap.size w1 w2):Fr w us w2:=h.grown (grown_below hb) (fun k hk=>by cases hk)
theorem Fr.alloc {w:World} {us} {w1:World} (h:Fr w us w1) (o:Obj):Fr w us (w1.alloc o):=h.later ((Below.refl _ _).alloc (Nat.le_refl _) _)
theorem Fr.drew {w:World} {us} {w1:World} (h:Fr w us w1):Fr w us w1.drew:=h.later (Below.refl _ _).drew
theorem Fr.cell {w:World} {us} {w1:World} (h:Fr w us w1) {v:Value} (hv:us[1]! = #[v]):w1.cell? ⟨w.heap.size+1,0,none⟩=some v:=by
  rw[cell_of_row _ _ _ _ _ _ h.b4,hv];rfl
theorem cell_nine {w:World} {b:Nat} {v:Value} {t:TypeId} (h:w.heap[b]? =some (.cells #[v] t (0,0))):w.cell? ⟨b,0,none⟩=some v∧w.frozen? ⟨b,0,none⟩=false:=
  ⟨by rw[cell_of_row _ _ _ _ _ _ h];rfl,by simp[World.frozen?,h]⟩
structure Cp9 (w wf:World) (N:Nat) (tb:List (List R3)) (u:Value):Prop where
  cop:∃x y B cs,u= .pointer (some ⟨x,0,none⟩)∧wf.heap[x]? =some (.cells #[.slice (some ⟨y,0,none⟩) N N] 29 (0,0))∧w.heap.size+4≤x∧w.heap.size+4≤B∧CopW wf B y cs tb
theorem cp_alloc {w w2 w3:World} {us} {N:Nat} {tb:List (List R3)} {cs:List Value} (hF2:Fr w us w2) (hF3:Fr w us w3) (hC:Cop54 w2 w3 cs tb):
    Cp9 w (w3.alloc (.cells #[.slice (some ⟨w2.heap.size+1+1,0,none⟩) N N] 29)) N tb (.pointer (some ⟨w3.heap.size,0,none⟩)):=
  ⟨_,w2.heap.size+1+1,w2.heap.size,cs,rfl,heap_alloc_new _ _,hF3.size,hF2.size,hC.later.kept (World.grownBy_alloc w3 _ none) notT_none notT_none notT_none⟩
theorem cp_set {w w2 w3:World} {us} {N:Nat} {tb:List (List R3)} {cs:List Value} {x:Nat} (hF2:Fr w us w2) (hC:Cop54 w2 w3 cs tb) (hx:w.heap.size+4≤x) (hz:w3.heap[x]? =some (.cells #[.slice none 0 0] 29 (0,0))) {y:Nat} (hy:y=w2.heap.size+1+1):
    Cp9 w (w3.setCell ⟨x,0,none⟩ (.slice (some ⟨y,0,none⟩) N N)) N tb (.pointer (some ⟨x,0,none⟩)):=by
  obtain⟨hs1,hs2⟩:=grown_set hz 0 (.slice (some ⟨y,0,none⟩) N N)
  have nt:∀{e:TypeId},e≠29→NotT w3 (some x) e:=fun he b hb=>by
    cases hb
    exact⟨_,_,_,hz,fun e=>he e.symm⟩
  subst hy
  exact⟨x,w2.heap.size+1+1,w2.heap.size,cs,rfl,hs2,hx,hF2.size,hC.later.kept hs1 (nt (by decide)) (nt (by decide)) (nt (by decide))⟩
theorem fr_set {w w3:World} {us} {x:Nat} {v:Value} (hF3:Fr w us w3) (hx:w.heap.size+4≤x) (hz:w3.heap[x]? =some (.cells #[.slice none 0 0] 29 (0,0))):Fr w us (w3.setCell ⟨x,0,none⟩ v):=
  hF3.grown (grown_set hz 0 v).1 fun k hk=>by cases hk;exact hx
theorem below4 (w:World) (o1 o2 o3 o4:Obj):Below w.heap.size w ((((w.alloc o1).alloc o2).alloc o3).alloc o4):=
  ((((Below.refl _ w).alloc (Nat.le_refl _) _).alloc (by simp) _).alloc (by simp;omega) _).alloc (by simp;omega) _
theorem four (w:World) (o1 o2 o3 o4:Obj):((((w.alloc o1).alloc o2).alloc o3).alloc o4).heap[w.heap.size]? =some o1∧((((w.alloc o1).alloc o2).alloc o3).alloc o4).heap[w.heap.size+1]? =some o2∧
    ((((w.alloc o1).alloc o2).alloc o3).alloc o4).heap[w.heap.size+1+1]? =some o3∧((((w.alloc o1).alloc o2).alloc o3).alloc o4).heap[w.heap.size+1+1+1]? =some o4:=by
  have s1:(w.alloc o1).heap.size=w.heap.size+1:=by simp
  have s2:((w.alloc o1).alloc o2).heap.size=w.heap.size+1+1:=by simp
  have s3:(((w.alloc o1).alloc o2).alloc o3).heap.size=w.heap.size+1+1+1:=by simp
  refine⟨?_,?_,?_,?_⟩
  · rw[heap_alloc_old _ _ (by omega),heap_alloc_old _ _ (by omega),heap_alloc_old _ _ (by omega),heap_alloc_new]
  · rw[heap_alloc_old _ _ (by omega),heap_alloc_old _ _ (by omega),←s1,heap_alloc_new]
  · rw[heap_alloc_old _ _ (by omega),←s2,heap_alloc_new]
  · rw[←s3,heap_alloc_new]
set_option maxHeartbeats 4000000 in
set_option maxRecDepth 100000 in
theorem Tryz.w23 (a1 a2 a3 a4 a5:Option Addr) (n1 c1 n2 c2 n3 c3 N cap n5 c5:Nat) (k1 k2 k3 k4 n:Int) (w:World) (tb:List (List R3)) (R:Ending→World→Prop)
    (h53:∀w',Below w.heap.size w w'→Calls Tryz.prog 53 #[.agg #[.slice a4 N cap],.agg #[.int .i64 k1,.int .i64 k2,.int .i64 k3,.int .i64 k4,.slice a5 n5 c5]] w' fun e w''=>e= .returned (.int .i64 0)∧Below w'.heap.size w' w'')
    (h55:∀w',Below w.heap.size w w'→Calls Tryz.prog 55 #[.agg #[.slice a4 N cap]] w' fun e w''=>e= .returned (.int .i64 n)∧Below w'.heap.size w' w'')
    (h54:∀w',Below w.heap.size w w'→Calls Tryz.prog 54 #[.agg #[.slice a4 N cap],.int .i64 0,.int .i64 n] w' fun e w''=>∃cs,e= .returned (.agg #[.slice (some ⟨w'.heap.size+1+1,0,none⟩) N N])∧Cop54 w' w'' cs tb)
    (hR:∀a wf,At23 w #[#[.slice a1 n1 c1,.slice a2 n2 c2,.slice a3 n3 c3],#[.slice a4 N cap],#[.int .i64 k1,.int .i64 k2,.int .i64 k3,.int .i64 k4,.slice a5 n5 c5]] N tb a wf→
      rest23.wp Tryz.prog (bodyPost Tryz.prog Tryz.f23 R) a wf):
    Calls Tryz.prog 23 #[.agg #[.slice a1 n1 c1,.slice a2 n2 c2,.slice a3 n3 c3],.agg #[.slice a4 N cap],.agg #[.int .i64 k1,.int .i64 k2,.int .i64 k3,.int .i64 k4,.slice a5 n5 c5]] w R:=by
  have mixed:Tryz.prog.follows .mixedOrders=true:=by kernel_rfl
  go_enter Tryz.func23,Tryz.ntmps23
  go_wp2_with (go_at_call 53;refine(h53 _ ?hb).mono ?_)
  case hb=>exact below4 _ _ _ _ _
  rintro e w1 ⟨rfl,hb1⟩
  obtain⟨d1,d2,d3,d4⟩:=four w (Obj.cells #[.slice a1 n1 c1,.slice a2 n2 c2,.slice a3 n3 c3] 26) (Obj.cells #[.slice a4 N cap] 29) (Obj.cells #[.int .i64 k1,.int .i64 k2,.int .i64 k3,.int .i64 k4,.slice a5 n5 c5] 32) (Obj.cells #[.slice none 0 0] 29)
  have hz:((((w.alloc (Obj.cells #[.slice a1 n1 c1,.slice a2 n2 c2,.slice a3 n3 c3] 26)).alloc (Obj.cells #[.slice a4 N cap] 29)).alloc (Obj.cells #[.int .i64 k1,.int .i64 k2,.int .i64 k3,.int .i64 k4,.slice a5 n5 c5] 32)).alloc (Obj.cells #[.slice none 0 0] 29)).heap.size=w.heap.size+4:=by simp
  have HB1:=(below4 w _ _ _ _).trans (hb1.mono (by rw[hz];omega))
  have e1:=(hb1.block w.heap.size (by rw[hz];omega)).trans d1
  have e2:=(hb1.block (w.heap.size+1) (by rw[hz];omega)).trans d2
  have e3:=(hb1.block (w.heap.size+1+1) (by rw[hz];omega)).trans d3
  have e4:=(hb1.block (w.heap.size+1+1+1) (by rw[hz];omega)).trans d4
  have hs1:=hb1.size
  rw[hz]at hs1
  clear d1 d2 d3 d4 hb1 hz
  have q4:w1.cell? ⟨w.heap.size+1,0,none⟩=some (.slice a4 N cap):=by rw[cell_of_row _ _ _ _ _ _ e2];rfl
  have F1:=Any.hidJ (Fr.mk (us:= #[#[.slice a1 n1 c1,.slice a2 n2 c2,.slice a3 n3 c3],#[.slice a4 N cap],#[.int .i64 k1,.int .i64 k2,.int .i64 k3,.int .i64 k4,.slice a5 n5 c5]]) HB1 hs1 e1 e2 e3 e4)
  clear e1 e2 e3 e4 HB1
  have hR':=Any.hidJ hR
  clear hR
  go_wp2_with fail
  rename_i K hK
  have hK':∀(a:Act) (w:World),rest23.wp Tryz.prog (bodyPost Tryz.prog Tryz.f23 R) a w→K a w:=fun a w h=>hK a w h
  clear hK
  go_region_held3 (fun w'=>w'.cell? ⟨w.heap.size+1,0,none⟩=some (.slice a4 N cap))
    (first
      | (go_keep;done)
      |exact F2.out.cell rfl
      |exact(F2.out.alloc _).cell rfl
      |exact F3.out.cell rfl
      |exact(F3.out.alloc _).cell rfl
      | (rw [set_far _ _ _ _ _ (by have h1:=F2.out.size;have h2:=F1.out.size;show w.heap.size+1≠_;omega)];exact F3.out.cell rfl))
    (first
      | (
         go_at_call 55;refine(h55 _ (by first |exact F1.out.drew.below |exact(F1.out.alloc _).drew.below)).mono ?_;rintro e w2 ⟨rfl,hb2⟩
         have F2:=Any.hidJ (show Fr w #[#[.slice a1 n1 c1,.slice a2 n2 c2,.slice a3 n3 c3],#[.slice a4 N cap],#[.int .i64 k1,.int .i64 k2,.int .i64 k3,.int .i64 k4,.slice a5 n5 c5]] w2 by first |exact F1.out.drew.later hb2 |exact(F1.out.alloc _).drew.later hb2)
         try have z8:=Any.hidJ (show w2.heap[w1.heap.size]? =some (.cells #[.slice none 0 0] 29 (0,0))from(hb2.block w1.heap.size (by simp)).trans (heap_alloc_new w1 _))
         clear hb2)
      | (
         go_at_call 54;refine(h54 _ (by first |exact F2.out.below |exact(F2.out.alloc _).below)).mono ?_;rintro e w3 ⟨cs,rfl,hC⟩
         have F3:=Any.hidJ (show Fr w #[#[.slice a1 n1 c1,.slice a2 n2 c2,.slice a3 n3 c3],#[.slice a4 N cap],#[.int .i64 k1,.int .i64 k2,.int .i64 k3,.int .i64 k4,.slice a5 n5 c5]] w3 by first |exact F2.out.later hC.below |exact(F2.out.alloc _).later hC.below)
         try (have z9:=Any.hidJ (show w3.heap[w2.heap.size]? =some (.cells #[.slice none 0 0] 29 (0,0))from(hC.below.block w2.heap.size (by simp)).trans (heap_alloc_new w2 _));obtain⟨y1,y2⟩:=cell_nine z9.out)
         try (have z9:=Any.hidJ (show w3.heap[w1.heap.size]? =some (.cells #[.slice none 0 0] 29 (0,0))from(hC.below.block w1.heap.size (Array.getElem?_eq_some_iff.1 z8.out).1).trans z8.out);obtain⟨y1,y2⟩:=cell_nine z9.out)
         have hC':=Any.hidJ hC
         clear hC))
  all_goals simp only[Exit.then]
  · have G:=F3.out.alloc (.cells #[.slice (some ⟨w2.heap.size+1+1,0,none⟩) N N] 29)
    refine hK' _ _ (hR'.out _ _ ⟨rfl,rfl,rfl,rfl,rfl,rfl,G.below,G.b3,G.b4,G.b5,G.b6,(cp_alloc F2.out F3.out hC'.out).cop⟩)
  · have G:=fr_set (v:=.slice (some ⟨w2.heap.size+1+1+1,0,none⟩) N N) F3.out F2.out.size z9.out
    refine hK' _ _ (hR'.out _ _ ⟨rfl,rfl,rfl,rfl,rfl,rfl,G.below,G.b3,G.b4,G.b5,G.b6,(cp_set (F2.out.alloc _) hC'.out F2.out.size z9.out (by simp)).cop⟩)
  · have G:=fr_set (v:=.slice (some ⟨w2.heap.size+1+1,0,none⟩) N N) F3.out F1.out.size z9.out
    refine hK' _ _ (hR'.out _ _ ⟨rfl,rfl,rfl,rfl,rfl,rfl,G.below,G.b3,G.b4,G.b5,G.b6,(cp_set F2.out hC'.out F1.out.size z9.out rfl).cop⟩)
end Go.Proofs
end
section
namespace Go.Proofs
open Go.RowKit
theorem res23 {tmps:Array Value} {W:World} {g:Nat} {v u:Value} (hp:tmps.getD 6 undef= .pointer (some ⟨g,0,none⟩)) (hu:tmps.getD 7 undef=u) (hg:W.heap[g]? =some (.cells #[v] 29 (0,0))):
    (results Tryz.f23 tmps).run Tryz.prog W= .ok (.tuple #[.agg #[v],u]) W:=by
  rw[results_cell_tmp (p:=6) (u:=7) (ty:=29) rfl,hp,hu]
  have hi:(Tryz.prog.info? 29).map (·.size)=some (#[v]:Array Value).size:=by kernel_rfl
  have h:=run_loadVar_row (P:=Tryz.prog) W g 29 29 #[v] (0,0) _ hg Tryz.underlying29 rfl hi
  simp only[asAddr,Sem.run_pure,Result.andThen,h]
set_option maxHeartbeats 4000000 in
set_option maxRecDepth 100000 in
theorem Tryz.w23e (a1 a2 a3 a4 a5:Option Addr) (n1 c1 n2 c2 n3 c3 N cap n5 c5:Nat) (k1 k2 k3 k4 e:Int) (w:World) (he:e≠0)
    (h53:∀w',Below w.heap.size w w'→Calls Tryz.prog 53 #[.agg #[.slice a4 N cap],.agg #[.int .i64 k1,.int .i64 k2,.int .i64 k3,.int .i64 k4,.slice a5 n5 c5]] w' fun x w''=>x= .returned (.int .i64 e)∧Below w'.heap.size w' w''):
    Calls Tryz.prog 23 #[.agg #[.slice a1 n1 c1,.slice a2 n2 c2,.slice a3 n3 c3],.agg #[.slice a4 N cap],.agg #[.int .i64 k1,.int .i64 k2,.int .i64 k3,.int .i64 k4,.slice a5 n5 c5]] w fun x w'=>
      x= .returned (.tuple #[.agg #[.slice none 0 0],.int .i64 e])∧Below w.heap.size w w':=by
  have mixed:Tryz.prog.follows .mixedOrders=true:=by kernel_rfl
  go_enter Tryz.func23,Tryz.ntmps23
  go_wp2_with (go_at_call 53;refine(h53 _ ?hb).mono ?_)
  case hb=>exact below4 _ _ _ _ _
  rintro e w1 ⟨rfl,hb1⟩
  obtain⟨d1,d2,d3,d4⟩:=four w (Obj.cells #[.slice a1 n1 c1,.slice a2 n2 c2,.slice a3 n3 c3] 26) (Obj.cells #[.slice a4 N cap] 29) (Obj.cells #[.int .i64 k1,.int .i64 k2,.int .i64 k3,.int .i64 k4,.slice a5 n5 c5] 32) (Obj.cells #[.slice none 0 0] 29)
  have hz:((((w.alloc (Obj.cells #[.slice a1 n1 c1,.slice a2 n2 c2,.slice a3 n3 c3] 26)).alloc (Obj.cells #[.slice a4 N cap] 29)).alloc (Obj.cells #[.int .i64 k1,.int .i64 k2,.int .i64 k3,.int .i64 k4,.slice a5 n5 c5] 32)).alloc (Obj.cells #[.slice none 0 0] 29)).heap.size=w.heap.size+4:=by simp
  have HB1:=(below4 w _ _ _ _).trans (hb1.mono (by rw[hz];omega))
  have e4:=(hb1.block (w.heap.size+1+1+1) (by rw[hz];omega)).trans d4
  have hs1:=hb1.size
  rw[hz]at hs1
  clear d1 d2 d3 d4 hb1 hz
  obtain⟨y1,y2⟩:=cell_nine e4
  go_wp2_with fail
  obtain⟨g1,g2⟩:=grown_set e4 0 (.slice none 0 0)
  refine bodyPost_ret (res23 rfl rfl g2) rfl ⟨rfl,HB1.trans ⟨g1.os,g1.tape,g1.output,g1.size,fun k hk=>g1.block k (by omega) (by simp;omega)⟩⟩
end Go.Proofs
end
section
open Go Go.Proofs Go.Sym
namespace T
attribute [-simp] getElem?_pos
attribute [simp] Int.ofNat_inj
theorem primOK:PrimOK X:=fun g F args r h hF=>by
 have h':primT g=some F:=h
 unfold primT at h'
 split at h'
 ·rename_i e
  subst e
  cases h'
  exact p18 args r hF
 ·exact primOK1 g F args r h' hF
theorem xOK:SymOK X:=⟨progOK,fun g fn c _ h hb=>codeOK g fn c h hb,primOK,sprimOK,fun b=>by
 have:sprimT (rid+b)=none:=by
  unfold sprimT
  split
  ·rename_i h;have:rid=1000000:=rfl;omega
  ·rename_i h;have:rid=1000000:=rfl;omega
  ·rfl
 exact this,rokOK⟩
theorem xP:X.P=Tryz.prog:=Eq.trans rfl rfl
theorem xh (f):X.has f=true:=Eq.trans rfl rfl
theorem xD (f):X.dfr f=inL f [60]:=Eq.trans rfl rfl
theorem xR (f):X.raw f=inL f [61,90,115]:=Eq.trans rfl rfl
theorem xM (f s):X.mode f s=modeT f s:=Eq.trans rfl rfl
theorem xK (f s):X.keep f s=keepT f s:=Eq.trans rfl rfl
theorem xT (f s):X.tz f s=tzT f s:=Eq.trans rfl rfl
theorem xS (f s):X.sep f s=sepT f s:=Eq.trans rfl rfl
theorem xC (f s):X.cut f s=cutT f s:=Eq.trans rfl rfl
theorem xO (f):X.own f=inL f [30]:=Eq.trans rfl rfl
theorem xG (f):X.rng f=inL f [29,71]:=Eq.trans rfl rfl
theorem xSp (f):X.sprim f=sprimT f:=Eq.trans rfl rfl
theorem xPr (f):X.prim f=primT f:=Eq.trans rfl rfl
theorem xSh (f a):X.share f a=shareT f a:=Eq.trans rfl rfl
attribute [simp] xP xh xD xR xM xK xT xS xC xO xG xSp xPr xSh
theorem sh90n (s c):shareT 90 [.lst s [] c]=false:=Eq.trans rfl rfl
attribute [simp] sh90n
theorem ic49 (rows:List (List AV)) (h:rows.length≤1073741824):icall X (call X) 49 [.lst (szOf 1 rows) rows .no]=some (.own 1 rows):=by
 rw[icall_prim (F:=cloneF 1) rfl]
 simp[cloneF,h]
theorem ic101 (rows:List (List AV)) (h:rows.length≤1073741824):icall X (call X) 101 [.lst (szOf 1 rows) rows .no]=some (.own 1 rows):=by
 rw[icall_prim (F:=cloneF 1) rfl]
 simp[cloneF,h]
theorem ic90:icall X (call X) 90 [.lst 0 [] .no]=some (.own 3 []):=by
 rw[icall_prim (F:=cloneF 3) rfl]
 simp[cloneF]
attribute [simp] ic49 ic101 ic90
end T
end
section
open Go Go.Proofs Go.Sym
namespace T
structure Lin where
 C:List Int
 K:Int
 deriving DecidableEq
structure Row where
 L:Lin
 D:Int
 deriving DecidableEq
abbrev Tab:=List (List Row)
def lst (n:Nat) (rows:List (List AV)):AV:=.lst (szOf n rows) rows .no
theorem lst_def (n rows):lst n rows= .lst (szOf n rows) rows .no:=Eq.trans rfl rfl
def int (n:Int):AV:=.int .i64 n
theorem int_def (n):int n= .int .i64 n:=Eq.trans rfl rfl
def intC (n:Int):List AV:=[.int .i64 n]
theorem intC_def (n):intC n=[.int .i64 n]:=Eq.trans rfl rfl
def ints (l:List Int):AV:=lst 1 (l.map intC)
def Lin.cs (l:Lin):List AV:=[ints l.C,int l.K]
def Row.cs (r:Row):List AV:=[ints r.L.C,int r.L.K,int r.D]
def rowsV (l:List Row):AV:=lst 3 (l.map Row.cs)
def rowsC (l:List Row):List AV:=[rowsV l]
def tabV (t:Tab):AV:=lst 1 (t.map rowsC)
theorem ints_def (l):ints l= .lst (szOf 1 (l.map intC)) (l.map intC) .no:=Eq.trans rfl rfl
theorem rowsV_def (l):rowsV l= .lst (szOf 3 (l.map Row.cs)) (l.map Row.cs) .no:=Eq.trans rfl rfl
theorem tabV_def (l):tabV l= .lst (szOf 1 (l.map rowsC)) (l.map rowsC) .no:=Eq.trans rfl rfl
theorem rowsC_def (l):rowsC l=[rowsV l]:=Eq.trans rfl rfl
theorem Lin.cs_def (l:Lin):l.cs=[ints l.C,int l.K]:=Eq.trans rfl rfl
theorem Row.cs_def (r:Row):r.cs=[ints r.L.C,int r.L.K,int r.D]:=Eq.trans rfl rfl
attribute [simp] lst_def int_def intC_def ints_def rowsV_def tabV_def rowsC_def Lin.cs_def Row.cs_def
attribute [-simp] getElem?_pos
attribute [simp] Int.ofNat_inj
theorem sh_ne (f a) (h:(f==90)=false):shareT f a=inL f [48,61,76,79,81,82,83,84,86,88,89,115,122,200,206]:=by
 unfold shareT
 split
 ·simp at h
 ·rfl
theorem pr_ne (f) (h:(inL f [49,90,101,168,35,74,18])=false):primT f=none:=by
 simp[inL]at h
 unfold primT primT1
 rw[if_neg (by simp_all)]
 split <;> simp_all
theorem sp_ne (f) (h:(inL f [84,89])=false):sprimT f=none:=by
 simp[inL]at h
 unfold sprimT
 split <;> simp_all
theorem insE_win (b off n c i vs H K d):insE [.win b off n c,.int .i64 i,.lst 3 vs d] H K=insF [.win b off n c,.int .i64 i,.lst 3 vs d] H K:=Eq.trans rfl rfl
theorem sp_rid (b:Nat):sprimT (rid+b)=none:=by
 unfold sprimT
 split
 ·rename_i h;have:rid=1000000:=rfl;omega
 ·rename_i h;have:rid=1000000:=rfl;omega
 ·rfl
attribute [simp] sh_ne pr_ne sp_ne sp_rid
theorem wrap_nat (n:Nat) (h:n < 17179869184):IntKind.i64.wrap ((n:Int)+1)=((n+1:Nat):Int):=by
 have:(((n:Int)+1+9223372036854775808) % 18446744073709551616)=(n:Int)+1+9223372036854775808:=Int.emod_eq_of_lt (by omega) (by omega)
 simp[IntKind.wrap,IntKind.bits,IntKind.signed]
 omega
theorem wrap_id (n:Int) (h1: -9223372036854775808≤n) (h2:n < 9223372036854775808):IntKind.i64.wrap n=n:=by
 have:((n+9223372036854775808) % 18446744073709551616)=n+9223372036854775808:=Int.emod_eq_of_lt (by omega) (by omega)
 simp[IntKind.wrap,IntKind.bits,IntKind.signed]
 omega
abbrev Max:Nat:=1073741824
theorem szOf_ext (n:Nat) (l l':List (List AV)) (h:l.length=l'.length):szOf n l=szOf n l':=by cases l <;> cases l' <;> simp_all[szOf]
theorem nmI (l:List Int):(l.map intC).map normL=l.map intC:=map_normL _ (fun a=>by simp) l
theorem nmR (l:List Row):(l.map Row.cs).map normL=l.map Row.cs:=map_normL _ (fun a=>by simp) l
theorem nmT (t:Tab):(t.map rowsC).map normL=t.map rowsC:=map_normL _ (fun a=>by simp) t
theorem puR (l:List Row):purR (l.map Row.cs)=true:=purR_map _ (fun a=>by simp) l
theorem puT (t:Tab):purR (t.map rowsC)=true:=purR_map _ (fun a=>by simp) t
attribute [simp high] nmI nmR nmT
attribute [simp] puR puT
def sub:Code→List Nat→Code
 |c,[]=>c
 | .seq a b,0::p=>sub a p
 | .seq a b,_::p=>sub b p
 | .cond _ a b,0::p=>sub a p
 | .cond _ a b,_::p=>sub b p
 | .block _ c,_::p=>sub c p
 | .loop c,_::p=>sub c p
 | .rangeFunc _ _ a _,0::p=>sub a p
 | .rangeFunc _ _ _ b,_::p=>sub b p
 |c,_=>c
theorem sub_nil (c):sub c []=c:=by cases c <;> rfl
theorem sub_seq0 (a b p):sub (.seq a b) (0::p)=sub a p:=Eq.trans rfl rfl
theorem sub_seq1 (a b p):sub (.seq a b) (1::p)=sub b p:=Eq.trans rfl rfl
theorem sub_cond0 (c a b p):sub (.cond c a b) (0::p)=sub a p:=Eq.trans rfl rfl
theorem sub_cond1 (c a b p):sub (.cond c a b) (1::p)=sub b p:=Eq.trans rfl rfl
theorem sub_block (i c p):sub (.block i c) (0::p)=sub c p:=Eq.trans rfl rfl
theorem sub_loop (c p):sub (.loop c) (0::p)=sub c p:=Eq.trans rfl rfl
theorem sub_rng0 (g q a b p):sub (.rangeFunc g q a b) (0::p)=sub a p:=Eq.trans rfl rfl
theorem sub_rng1 (g q a b p):sub (.rangeFunc g q a b) (1::p)=sub b p:=Eq.trans rfl rfl
attribute [simp] sub_nil sub_seq0 sub_seq1 sub_cond0 sub_cond1 sub_block sub_loop sub_rng0 sub_rng1
def bodyOf (o:Option Code):Code:=o.getD .skip
theorem bodyOf_some (c):bodyOf (some c)=c:=Eq.trans rfl rfl
attribute [simp] bodyOf_some
end T
end
section
open Go Go.Proofs Go.Sym
namespace T
noncomputable def lb5_3:Code:=sub (bodyOf Tryz.f5.body) [1,1,0,1,0,0]
noncomputable def lb5_9:Code:=sub (bodyOf Tryz.f5.body) [1,1,0,1,0,0,1,1,0,0,1,1,1,1,0,0]
noncomputable def lb5_13:Code:=sub (bodyOf Tryz.f5.body) [1,1,0,1,0,0,1,1,0,0,1,1,1,1,0,0,1,1,0,0,1,1,1,0,0]
noncomputable def lb10_19:Code:=sub (bodyOf Tryz.f10.body) [1,1,0,1,0,1,1,1,1,1,1,1,1,1,0,1,0,1,0,0]
noncomputable def lb11_19:Code:=sub (bodyOf Tryz.f11.body) [1,1,0,1,0,1,1,1,1,1,1,1,1,1,0,1,0,1,0,0]
noncomputable def lb12_4:Code:=sub (bodyOf Tryz.f12.body) [1,1,0,1,0,0]
noncomputable def lb12_9:Code:=sub (bodyOf Tryz.f12.body) [1,1,0,1,0,0,1,1,0,0,1,1,1,0,0]
noncomputable def lb15_3:Code:=sub (bodyOf Tryz.f15.body) [1,1,0,1,0,0]
noncomputable def lb22_8:Code:=sub (bodyOf Tryz.f22.body) [1,1,1,1,0,1,0,0]
noncomputable def lb22_14:Code:=sub (bodyOf Tryz.f22.body) [1,1,1,1,1,0,1,0,0]
noncomputable def lb22_20:Code:=sub (bodyOf Tryz.f22.body) [1,1,1,1,1,1,0,1,0,0]
noncomputable def lb22_23:Code:=sub (bodyOf Tryz.f22.body) [1,1,1,1,1,1,0,1,0,0,1,1,0,0,1,1,0,0]
noncomputable def lb23_6:Code:=sub (bodyOf Tryz.f23.body) [1,1,1,0,1,0,0]
noncomputable def lb23_23:Code:=sub (bodyOf Tryz.f23.body) [1,1,1,0,1,0,0,1,1,0,0,1,1,1,0,1,1,1,1,1,1,1,1,1,0,1,1,0,1,0,0]
noncomputable def lb23_39:Code:=sub (bodyOf Tryz.f23.body) [1,1,1,1,0,1,0,0]
noncomputable def lb23_42:Code:=sub (bodyOf Tryz.f23.body) [1,1,1,1,0,1,0,0,1,1,0,0,1,1,0,0]
noncomputable def lb24_4:Code:=sub (bodyOf Tryz.f24.body) [1,1,0,1,0,0]
noncomputable def lb25_2:Code:=sub (bodyOf Tryz.f25.body) [1,0,1,0,0]
noncomputable def lb26_3:Code:=sub (bodyOf Tryz.f26.body) [1,1,0,1,0,0]
noncomputable def lb26_7:Code:=sub (bodyOf Tryz.f26.body) [1,1,0,1,0,0,1,1,0,0,1,1,0,1,0,0]
noncomputable def lb26_10:Code:=sub (bodyOf Tryz.f26.body) [1,1,0,1,0,0,1,1,0,0,1,1,0,1,0,0,1,1,0,0,1,1,0,0]
noncomputable def lb26_16:Code:=sub (bodyOf Tryz.f26.body) [1,1,0,1,0,0,1,1,0,0,1,1,1,0,1,0,0]
noncomputable def ra29:Code:=sub (bodyOf Tryz.f29.body) [1,1,1,0,1,0,0]
noncomputable def rb29:Code:=sub (bodyOf Tryz.f29.body) [1,1,1,0,1,0,1]
noncomputable def lb44_4:Code:=sub (bodyOf Tryz.f44.body) [1,1,0,1,0,0]
noncomputable def lb47_3:Code:=sub (bodyOf Tryz.f47.body) [1,1,0,1,0,0]
noncomputable def lb48_2:Code:=sub (bodyOf Tryz.f48.body) [1,0,1,0,0]
noncomputable def lb51_3:Code:=sub (bodyOf Tryz.f51.body) [1,1,0,1,0,0]
noncomputable def lb51_7:Code:=sub (bodyOf Tryz.f51.body) [1,1,0,1,0,0,1,1,0,0,1,1,0,1,0,0]
noncomputable def lb52_2:Code:=sub (bodyOf Tryz.f52.body) [1,0,1,0,0]
noncomputable def lb53_26:Code:=sub (bodyOf Tryz.f53.body) [1,1,0,1,0,1,1,1,1,1,1,1,1,1,0,1,0,1,0,0]
noncomputable def lb53_38:Code:=sub (bodyOf Tryz.f53.body) [1,1,0,1,0,1,1,1,1,1,1,1,1,1,1,1,0,1,1,0,1,0,0]
noncomputable def lb56_3:Code:=sub (bodyOf Tryz.f56.body) [1,1,0,1,0,0]
noncomputable def lb58_3:Code:=sub (bodyOf Tryz.f58.body) [1,1,0,1,0,0]
noncomputable def lb59_3:Code:=sub (bodyOf Tryz.f59.body) [1,1,0,1,0,0]
noncomputable def lb62_5:Code:=sub (bodyOf Tryz.f62.body) [1,1,1,1,0,1,0,0]
noncomputable def lb63_5:Code:=sub (bodyOf Tryz.f63.body) [1,1,1,0,1,0,0]
noncomputable def ra71:Code:=sub (bodyOf Tryz.f71.body) [1,1,1,1,0,1,0,0]
noncomputable def rb71:Code:=sub (bodyOf Tryz.f71.body) [1,1,1,1,0,1,0,1]
noncomputable def lb80_5:Code:=sub (bodyOf Tryz.f80.body) [1,1,1,0,1,0,0]
noncomputable def lb83_3:Code:=sub (bodyOf Tryz.f83.body) [1,1,0,1,0,0]
noncomputable def lb91_5:Code:=sub (bodyOf Tryz.f91.body) [1,1,1,0,1,0,0]
noncomputable def lb91_11:Code:=sub (bodyOf Tryz.f91.body) [1,1,1,0,1,0,0,1,1,0,0,1,1,1,1,0,0]
noncomputable def lb91_18:Code:=sub (bodyOf Tryz.f91.body) [1,1,1,1,0,1,0,0]
noncomputable def lb92_3:Code:=sub (bodyOf Tryz.f92.body) [1,1,0,1,0,0]
noncomputable def lb96_2:Code:=sub (bodyOf Tryz.f96.body) [1,0,1,0,0]
noncomputable def lb97_2:Code:=sub (bodyOf Tryz.f97.body) [1,0,1,0,0]
noncomputable def lb97_5:Code:=sub (bodyOf Tryz.f97.body) [1,0,1,0,0,1,1,0,0,1,1,0,0]
noncomputable def lb99_3:Code:=sub (bodyOf Tryz.f99.body) [1,1,0,1,0,0]
noncomputable def lb99_9:Code:=sub (bodyOf Tryz.f99.body) [1,1,1,1,0,0]
noncomputable def lb99_14:Code:=sub (bodyOf Tryz.f99.body) [1,1,1,1,0,0,1,1,0,0,1,1,1,1,0,0]
noncomputable def lb100_2:Code:=sub (bodyOf Tryz.f100.body) [1,1,0,0]
noncomputable def lb103_2:Code:=sub (bodyOf Tryz.f103.body) [1,0,1,0,0]
noncomputable def lb104_3:Code:=sub (bodyOf Tryz.f104.body) [1,1,0,1,0,0]
noncomputable def lb104_7:Code:=sub (bodyOf Tryz.f104.body) [1,1,0,1,0,0,1,1,0,0,1,1,0,1,0,0]
noncomputable def lb105_3:Code:=sub (bodyOf Tryz.f105.body) [1,1,0,1,0,0]
noncomputable def lb106_3:Code:=sub (bodyOf Tryz.f106.body) [1,1,0,1,0,0]
noncomputable def lb107_3:Code:=sub (bodyOf Tryz.f107.body) [1,1,0,1,0,0]
noncomputable def lb108_3:Code:=sub (bodyOf Tryz.f108.body) [1,1,0,1,0,0]
noncomputable def lb113_2:Code:=sub (bodyOf Tryz.f113.body) [1,0,1,0,0]
noncomputable def lb114_4:Code:=sub (bodyOf Tryz.f114.body) [1,1,0,1,0,0]
noncomputable def lb114_10:Code:=sub (bodyOf Tryz.f114.body) [1,1,1,0,1,0,0]
noncomputable def lb116_2:Code:=sub (bodyOf Tryz.f116.body) [1,0,1,0,0]
noncomputable def lb123_2:Code:=sub (bodyOf Tryz.f123.body) [1,0,1,0,0]
noncomputable def lb129_4:Code:=sub (bodyOf Tryz.f129.body) [1,1,0,1,0,0]
noncomputable def lb129_9:Code:=sub (bodyOf Tryz.f129.body) [1,1,1,0,1,0,0]
noncomputable def lb130_2:Code:=sub (bodyOf Tryz.f130.body) [1,0,1,0,0]
noncomputable def lb131_2:Code:=sub (bodyOf Tryz.f131.body) [1,0,1,0,0]
noncomputable def lb132_5:Code:=sub (bodyOf Tryz.f132.body) [1,1,1,0,1,0,0]
noncomputable def lb138_1:Code:=sub (bodyOf Tryz.f138.body) [1,0,0]
noncomputable def lb138_4:Code:=sub (bodyOf Tryz.f138.body) [1,0,0,1,1,0,0,1,1,0,0]
noncomputable def lb144_2:Code:=sub (bodyOf Tryz.f144.body) [1,0,1,0,0]
noncomputable def lb149_10:Code:=sub (bodyOf Tryz.f149.body) [1,1,1,1,1,0,1,0,1,0,1,0,1,0,0]
noncomputable def lb150_4:Code:=sub (bodyOf Tryz.f150.body) [1,1,0,1,0,0]
noncomputable def lb161_4:Code:=sub (bodyOf Tryz.f161.body) [1,1,0,1,0,0]
noncomputable def lb161_9:Code:=sub (bodyOf Tryz.f161.body) [1,1,0,1,0,0,1,1,0,0,1,1,1,0,0]
noncomputable def lb162_4:Code:=sub (bodyOf Tryz.f162.body) [1,1,0,1,0,0]
noncomputable def lb162_9:Code:=sub (bodyOf Tryz.f162.body) [1,1,0,1,0,0,1,1,0,0,1,1,1,0,0]
noncomputable def lb163_4:Code:=sub (bodyOf Tryz.f163.body) [1,1,0,1,0,0]
noncomputable def lb164_3:Code:=sub (bodyOf Tryz.f164.body) [1,1,0,1,0,0]
noncomputable def lb169_2:Code:=sub (bodyOf Tryz.f169.body) [1,0,1,0,0]
noncomputable def lb202_3:Code:=sub (bodyOf Tryz.f202.body) [1,1,1,0,0]
noncomputable def lb202_7:Code:=sub (bodyOf Tryz.f202.body) [1,1,1,0,0,1,1,0,0,1,1,1,0,0]
noncomputable def lb206_2:Code:=sub (bodyOf Tryz.f206.body) [1,0,1,0,0]
noncomputable def lb210_4:Code:=sub (bodyOf Tryz.f210.body) [1,1,0,1,0,0]
noncomputable def lb211_2:Code:=sub (bodyOf Tryz.f211.body) [1,0,1,0,0]
noncomputable def lb214_3:Code:=sub (bodyOf Tryz.f214.body) [1,1,1,0,0]
end T
end
section
namespace Go.Proofs
open Go.RowKit Go.Sym T
def i1c (y:Int):List AV:=[.int .i64 y]
def r3c (x:R3):List AV:=[.lst (szOf 1 (x.1.map i1c)) (x.1.map i1c) .no,.int .i64 x.2.1,.int .i64 x.2.2]
def decI:List (List AV)→Option (List Int)
 | []=>some []
 | [.int .i64 y]::r=>ob (decI r) fun l=>some (y::l)
 |_=>none
def decR:List (List AV)→Option (List R3)
 | []=>some []
 | [.lst _ c .no,.int .i64 a,.int .i64 b]::r=>ob (decI c) fun l=>if l.length≤1000 then ob (decR r) fun q=>some ((l,a,b)::q)else none
 |_=>none
def decT:List (List AV)→Option (List (List R3))
 | []=>some []
 | [.lst _ rs .no]::r=>ob (decR rs) fun l=>ob (decT r) fun q=>some (l::q)
 |_=>none
def b54 (h n:Nat) (tb:List (List R3)):List Blk:=
 if n=0 then [⟨1,tb.map fun _=>[.lst 0 [] .nil],.box⟩]
 else⟨1,(List.range tb.length).map fun k=>[.win (h+1+k) 0 n none],.box⟩::tb.map fun l=>⟨3,l.map r3c,.toky⟩
theorem Cells3.get {w:World} {B:Nat}:∀{xs:List Value} {l:List R3},Cells3 w B xs l→∀{j:Nat} {x:R3},l[j]? =some x→
  ∃u,xs[j*3]? =some u∧OwI w B u x.1∧xs[j*3+1]? =some (.int .i64 x.2.1)∧xs[j*3+2]? =some (.int .i64 x.2.2)
 | [],[],_,j,x,hx=>by simp at hx
 | [],_::_,h,_,_,_=>h.elim
 | [_],[],h,_,_,_=>h.elim
 | [_],_::_,h,_,_,_=>h.elim
 | [_,_],[],h,_,_,_=>h.elim
 | [_,_],_::_,h,_,_,_=>h.elim
 |_::_::_::_,[],h,_,_,_=>h.elim
 |u::a::b::xs,y::r,h,j,x,hx=>by
  obtain⟨h1,rfl,rfl,h4⟩:=h
  cases j with
  |zero=>
   obtain rfl:y=x:=by simpa using hx
   exact⟨u,rfl,h1,rfl,rfl⟩
  |succ j=>
   obtain⟨u',e1,e2,e3,e4⟩:=Cells3.get h4 (j:=j) (x:=x) (by simpa using hx)
   refine⟨u',?_,e2,?_,?_⟩
   ·rw[show (j+1)*3=j*3+1+1+1 by omega];simpa using e1
   ·rw[show (j+1)*3+1=j*3+1+1+1+1 by omega];simpa using e3
   ·rw[show (j+1)*3+2=j*3+2+1+1+1 by omega];simpa using e4
theorem repI {L':Lay} {w':World} {B:Nat} (hS:∀(g o:Nat) cur z,B≤g→w'.heap[g]? =some (.cells cur 3 z)→L'.S g o) {u:Value} {l:List Int} (h:OwI w' B u l):Rep L' w' (.lst (szOf 1 (l.map i1c)) (l.map i1c) .no) u:=by
 refine Rep.szOf ?_
 simp only[Rep]
 rcases h.2 with⟨rfl,h0⟩ |⟨g,cap,cur,rfl,hb,hg,hn,hm,hs,ht⟩
 ·exact⟨none,0,0,rfl,by simpa using h0,Nat.le_refl _,by omega,.inl (by simpa using h0),trivial⟩
 ·refine⟨some ⟨g,0,none⟩,l.length,cap,rfl,by simp,hn,by unfold maxLen at hm;omega,.inr ⟨g,0,rfl,RepR.of_get fun i row hrow=>?_⟩,trivial⟩
  rw[List.getElem?_map,Option.map_eq_some_iff]at hrow
  obtain⟨y,hy,rfl⟩:=hrow
  have hil:=(List.getElem?_eq_some_iff.1 hy).1
  have hc:w'.cell? ⟨g,i,none⟩=some (.int .i64 y):=by
   rw[cell_of_row _ _ _ _ _ _ hg]
   have h1:(cur.toList.take (l.length*1))[i]? =some (.int .i64 y):=by rw[ht,List.getElem?_map,hy];rfl
   rw[List.getElem?_take_of_lt (by omega)]at h1
   simpa using h1
  refine⟨rfl,?_⟩
  simp only[i1c,RepC,Nat.zero_add,Nat.mul_one,and_true]
  exact⟨.inl (hS g _ cur _ hb hg),rfl,rfl,_,hc,rfl⟩
section
variable {wf:World} {B y:Nat} {cs:List Value} {tb:List (List R3)}
theorem CopW.form (h:CopW wf B y cs tb) {n:Nat} (hn:0 < n) (hrow:∀l ∈ tb,l.length=n) (i:Nat) (u:Value) (hu:cs[i]? =some u):∃l g cap cur xs,tb[i]? =some l∧u= .slice (some ⟨g,0,none⟩) n cap∧B≤g∧wf.heap[g]? =some (.cells cur 54 (0,0))∧
  n≤cap∧cap≤maxLen∧cur.size=cap*3∧cur.toList.take (n*3)=xs∧Cells3 wf B xs l∧l.length=n:=by
 have hil:i < tb.length:=by rw[←h.len];exact(List.getElem?_eq_some_iff.1 hu).1
 have hl:tb[i]? =some tb[i]:=List.getElem?_eq_getElem hil
 have hln:=hrow _ (List.mem_of_getElem? hl)
 obtain⟨xs,hown,hc⟩:=h.own i u _ hu hl
 rw[hln]at hown
 rcases hown.2 with⟨_,h0⟩ |⟨g,cap,cur,e,hb,hg,h1,h2,h3,h4⟩
 ·omega
 ·exact⟨_,g,cap,cur,xs,hl,e,hb,hg,h1,h2,h3,h4,hc,hln⟩
theorem CopW.outer (h:CopW wf B y cs tb) {n:Nat} (hn:0 < n) (hrow:∀l ∈ tb,l.length=n) {L':Lay} {base hh:Nat} (hb:base≤B)
  (hhp:∀(i:Nat) (u:Value) (g cap:Nat),cs[i]? =some u→u= .slice (some ⟨g,0,none⟩) n cap→L'.hp (hh+1+i)=some (g,3)):
  BlkOK L' wf base ⟨1,(List.range tb.length).map fun k=>[.win (hh+1+k) 0 n none],.box⟩ y:=by
 refine BlkOK.mk' rfl (Nat.le_trans hb h.hB) ⟨cs.toArray,50,h.blk,by simp[h.len],fun i row hrow'=>?_⟩
 simp only[List.getElem?_map,Option.map_eq_some_iff]at hrow'
 obtain⟨j,hj,rfl⟩:=hrow'
 have hjl:=(List.getElem?_eq_some_iff.1 hj).1
 rw[List.length_range]at hjl
 rw[List.getElem?_range hjl]at hj
 cases hj
 refine⟨rfl,fun o v hv=>?_⟩
 cases o with
 |zero=>
  simp only[List.getElem?_cons_zero,Option.some.injEq]at hv
  subst hv
  obtain⟨u,hu⟩:∃u,cs[i]? =some u:=⟨_,List.getElem?_eq_getElem (by rw[h.len];exact hjl)⟩
  obtain⟨l,g,cap,cur,xs,hl,rfl,hb,hg,h1,h2,h3,h4,hc,hln⟩:=h.form hn hrow i u hu
  refine⟨rfl,rfl,_,by simpa using hu,?_⟩
  simp only[Rep]
  refine⟨g,3,⟨g,0,none⟩,cap,hhp i _ g cap hu rfl,rfl,h1,by unfold maxLen at h2;omega,(by intro c e;cases e),.inr (by simp),fun j hj=>?_⟩
  rw[cell_of_row _ _ _ _ _ _ hg,Array.getElem?_eq_getElem (by omega)]
  rfl
 |succ o=>simp at hv
theorem CopW.outer0 (h:CopW wf B y cs tb) (hrow:∀l ∈ tb,l=[]) {L':Lay} {base:Nat} (hb:base≤B):BlkOK L' wf base ⟨1,tb.map fun _=>[.lst 0 [] .nil],.box⟩ y:=by
 refine BlkOK.mk' rfl (Nat.le_trans hb h.hB) ⟨cs.toArray,50,h.blk,by simp[h.len],fun i row hrow'=>?_⟩
 simp only[List.getElem?_map,Option.map_eq_some_iff]at hrow'
 obtain⟨l,hl,rfl⟩:=hrow'
 refine⟨rfl,fun o v hv=>?_⟩
 cases o with
 |zero=>
  simp only[List.getElem?_cons_zero,Option.some.injEq]at hv
  subst hv
  obtain⟨u,hu⟩:∃u,cs[i]? =some u:=⟨_,List.getElem?_eq_getElem (by rw[h.len];exact(List.getElem?_eq_some_iff.1 hl).1)⟩
  have hl0:=hrow l (List.mem_of_getElem? hl)
  subst hl0
  obtain rfl:=h.nil i u hu hl
  refine⟨rfl,rfl,_,by simpa using hu,?_⟩
  simp only[Rep]
  exact⟨none,0,0,by simp[CapOK]⟩
 |succ o=>simp at hv
theorem CopW.inner (h:CopW wf B y cs tb) {n:Nat} (hn:0 < n) (hrow:∀l ∈ tb,l.length=n) {L':Lay} {base:Nat} (hb:base≤B) (hS:∀(g o:Nat) cur z,B≤g→wf.heap[g]? =some (.cells cur 3 z)→L'.S g o)
  {i:Nat} {l:List R3} (hl:tb[i]? =some l) {u:Value} (hu:cs[i]? =some u) {g:Nat} (hg':u.ownBlock=some g):BlkOK L' wf base ⟨3,l.map r3c,.toky⟩ g:=by
 obtain⟨l',g',cap,cur,xs,hl',rfl,hb',hg,h1,h2,h3,h4,hc,hln⟩:=h.form hn hrow i u hu
 rw[hl]at hl'
 cases hl'
 cases hg'
 refine BlkOK.mk' rfl (Nat.le_trans hb hb') ⟨cur,54,hg,by simp[hln,h3];omega,fun j row hrow=>?_⟩
 simp only[List.getElem?_map,Option.map_eq_some_iff]at hrow
 obtain⟨x,hx',rfl⟩:=hrow
 refine⟨rfl,fun o v hv=>?_⟩
 have hjl:=(List.getElem?_eq_some_iff.1 hx').1
 rw[hln]at hjl
 obtain⟨u',e1,e2,e3,e4⟩:=Cells3.get hc hx'
 have get:∀t v,t < 3→xs[j*3+t]? =some v→cur[j*3+t]? =some v:=fun t v ht hv=>by
  rw[←h4,List.getElem?_take_of_lt (by omega)]at hv
  simpa using hv
 match o,hv with
 |0,hv=>
  simp only[r3c,List.getElem?_cons_zero,Option.some.injEq]at hv
  subst hv
  exact⟨rfl,rfl,u',get 0 _ (by omega) e1,repI hS e2⟩
 |1,hv=>
  simp only[r3c,List.getElem?_cons_succ,List.getElem?_cons_zero,Option.some.injEq]at hv
  subst hv
  exact⟨rfl,rfl,_,get 1 _ (by omega) e3,rfl⟩
 |2,hv=>
  simp only[r3c,List.getElem?_cons_succ,List.getElem?_cons_zero,Option.some.injEq]at hv
  subst hv
  exact⟨rfl,rfl,_,get 2 _ (by omega) e4,rfl⟩
 |o+3,hv=>simp[r3c]at hv
end
section
variable {L:Lay} {H:List Blk} {K:List Nat} {w:World} {base:Nat}
theorem decI_read {c:Cap} {g:Nat} (hc:c= .no) (hi:Inv L (lH H) (lK K) w base):∀{rows:List (List AV)} {l:List Int} {p sz:Nat},decI rows=some l→RepR L w c sz g p rows→l.length=rows.length∧∀(i:Nat) y,l[i]? =some y→g < w.heap.size∧w.cell? ⟨g,p+i,none⟩=some (.int .i64 y)
 | [],l,p,sz,h,_=>by
  cases h
  exact⟨rfl,fun i y hy=>by simp at hy⟩
 |row::r,l,p,sz,h,hr=>by
  unfold decI at h
  split at h
  ·rename_i h';cases h'
  ·rename_i y r' h'
   cases h'
   cases hd:decI r with
   |none=>rw[hd]at h;cases h
   |some q=>
    rw[hd]at h
    cases h
    simp only[RepR]at hr
    obtain⟨h1,h2,h3⟩:=hr
    simp only[List.length_cons,List.length_nil]at h1
    subst h1
    simp only[RepC]at h2
    obtain⟨hq,_,_,⟨u,hu,hru⟩,_⟩:=h2
    simp only[Rep]at hru
    subst hru
    have hg:g < w.heap.size:=by
     rcases hq with hq |hq
     ·exact hi.size g p hq
     ·rw[hc]at hq;cases hq.1
    obtain⟨e1,e2⟩:=decI_read hc hi hd h3
    refine⟨by simp[e1],fun i y' hy=>?_⟩
    cases i with
    |zero=>
     obtain rfl:y=y':=by simpa using hy
     exact⟨hg,hu⟩
    |succ i=>
     have:=e2 i y' (by simpa using hy)
     rw[show p+(i+1)=p+1+i by omega]
     exact this
  ·cases h
theorem decR_read {g:Nat} (hi:Inv L (lH H) (lK K) w base):∀{rows:List (List AV)} {l:List R3} {p sz:Nat},decR rows=some l→RepR L w .no sz g p rows→l.length=rows.length∧∀(i:Nat) x,l[i]? =some x→g < w.heap.size∧RdE w g (p+i*3) x
 | [],l,p,sz,h,_=>by
  cases h
  exact⟨rfl,fun i y hy=>by simp at hy⟩
 |row::r,l,p,sz,h,hr=>by
  unfold decR at h
  split at h
  ·rename_i h';cases h'
  ·rename_i z c a b r' h'
   cases h'
   cases hc:decI c with
   |none=>rw[hc]at h;cases h
   |some lc=>
    rw[hc]at h
    simp only[ob]at h
    split at h
    ·rename_i hlc
     cases hd:decR r with
     |none=>rw[hd]at h;cases h
     |some q=>
      rw[hd]at h
      cases h
      simp only[RepR]at hr
      obtain⟨h1,h2,h3⟩:=hr
      simp only[List.length_cons,List.length_nil]at h1
      subst h1
      simp only[RepC]at h2
      obtain⟨hq,_,_,⟨u,hu,hru⟩,_,_,_,⟨u1,hu1,hru1⟩,_,_,_,⟨u2,hu2,hru2⟩,_⟩:=h2
      simp only[Rep]at hru1 hru2
      subst hru1
      subst hru2
      have hg:g < w.heap.size:=by
       rcases hq with hq |hq
       ·exact hi.size g p hq
       ·cases hq.1
      obtain⟨e1,e2⟩:=decR_read hi hd h3
      refine⟨by simp[e1],fun i y' hy=>?_⟩
      cases i with
      |zero=>
       obtain rfl:(lc,a,b)=y':=by simpa using hy
       rw[show p+0*3=p by omega]
       obtain⟨ao,m,cap,rfl,hm,hmc,hcap,hrows,_⟩:=by simpa only[Rep] using hru
       rcases hrows with hrows |⟨h',p',rfl,hrr⟩
       ·subst hrows
        cases hc
        have hm0:m=0:=by rw[←hm];rfl
        subst hm0
        exact⟨hg,ao,cap,hu,hu1,hu2,by simp,.inl rfl⟩
       ·obtain⟨f1,f2⟩:=decI_read rfl hi hc hrr
        have hml:m=lc.length:=by rw[f1,hm]
        subst hml
        refine⟨hg,_,cap,hu,hu1,hu2,hlc,?_⟩
        by_cases hl0:lc=[]
        ·exact .inl hl0
        ·refine .inr ⟨h',p',rfl,?_,fun i y hy=>(f2 i y hy).2⟩
         cases lc with
         |nil=>exact absurd rfl hl0
         |cons y r=>exact(f2 0 y rfl).1
      |succ i=>
       have:=e2 i y' (by simpa using hy)
       rw[show p+(i+1)*3=p+(0+1+1+1)+i*3 by omega]
       exact this
    ·cases h
  ·cases h
theorem decT_read {g:Nat} (hi:Inv L (lH H) (lK K) w base):∀{rows:List (List AV)} {tb:List (List R3)} {p sz:Nat},decT rows=some tb→RepR L w .no sz g p rows→tb.length=rows.length∧∀(i:Nat) l,tb[i]? =some l→g < w.heap.size∧
  ∃ao c,w.cell? ⟨g,p+i,none⟩=some (.slice ao l.length c)∧l.length≤c∧c≤9223372036854775807∧(l=[]∨∃G Q,ao=some ⟨G,Q,none⟩∧G < w.heap.size∧∀(j:Nat) x,l[j]? =some x→RdE w G (Q+j*3) x)
 | [],l,p,sz,h,_=>by
  cases h
  exact⟨rfl,fun i y hy=>by simp at hy⟩
 |row::r,l,p,sz,h,hr=>by
  unfold decT at h
  split at h
  ·rename_i h';cases h'
  ·rename_i z rs r' h'
   cases h'
   cases hc:decR rs with
   |none=>rw[hc]at h;cases h
   |some lc=>
    rw[hc]at h
    simp only[ob]at h
    cases hd:decT r with
    |none=>rw[hd]at h;cases h
    |some q=>
     rw[hd]at h
     cases h
     simp only[RepR]at hr
     obtain⟨h1,h2,h3⟩:=hr
     simp only[List.length_cons,List.length_nil]at h1
     subst h1
     simp only[RepC]at h2
     obtain⟨hq,_,_,⟨u,hu,hru⟩,_⟩:=h2
     have hg:g < w.heap.size:=by
      rcases hq with hq |hq
      ·exact hi.size g p hq
      ·cases hq.1
     obtain⟨e1,e2⟩:=decT_read hi hd h3
     refine⟨by simp[e1],fun i y' hy=>?_⟩
     cases i with
     |zero=>
      obtain rfl:lc=y':=by simpa using hy
      obtain⟨ao,m,cap,rfl,hm,hmc,hcap,hrows,_⟩:=by simpa only[Rep] using hru
      rcases hrows with hrows |⟨h',p',rfl,hrr⟩
      ·subst hrows
       cases hc
       have hm0:m=0:=by rw[←hm];rfl
       subst hm0
       exact⟨hg,ao,cap,hu,by simp,hcap,.inl rfl⟩
      ·obtain⟨f1,f2⟩:=decR_read hi hc hrr
       have hml:m=lc.length:=by rw[f1,hm]
       subst hml
       refine⟨hg,_,cap,hu,hmc,hcap,?_⟩
       by_cases hl0:lc=[]
       ·exact .inl hl0
       ·refine .inr ⟨h',p',rfl,?_,fun i y hy=>(f2 i y hy).2⟩
        cases lc with
        |nil=>exact absurd rfl hl0
        |cons y r=>exact(f2 0 y rfl).1
     |succ i=>
      have:=e2 i y' (by simpa using hy)
      rw[show p+(i+1)=p+1+i by omega]
      exact this
  ·cases h
end
end Go.Proofs
end
section
open Go Go.Proofs Go.Sym Go.RowKit
namespace T
theorem nodup_fst {rs:List (Nat×Nat)} (h:(rs.map Prod.fst).Nodup) (i j:Nat) (r sz sz':Nat) (h1:rs[i]? =some (r,sz)) (h2:rs[j]? =some (r,sz')):i=j:=by
 have a1:(rs.map Prod.fst)[i]? =some r:=by rw[List.getElem?_map,h1];rfl
 have a2:(rs.map Prod.fst)[j]? =some r:=by rw[List.getElem?_map,h2];rfl
 exact(List.getElem?_inj (List.getElem?_eq_some_iff.1 a1).1 h).1 (a1.trans a2.symm)
def hp23 (pcs:List AV) (sz:Nat) (rows:List (List AV)) (mcs:List AV) (n:Nat) (tb:List (List R3)):List Blk:=
 [⟨3,[pcs],.box⟩,⟨1,[[.lst sz rows .no]],.box⟩,⟨5,[mcs],.box⟩,⟨1,[[.lst 0 [] .nil]],.box⟩,⟨1,[[.win 5 0 tb.length (some tb.length)]],.box⟩]++b54 5 n tb
def st23 (pcs:List AV) (sz:Nat) (rows:List (List AV)) (mcs:List AV) (n:Nat) (tb:List (List R3)):St:=
 ⟨[(3,.ptr 0 0 0),(4,.ptr 1 0 0),(5,.ptr 2 0 0),(6,.ptr 3 0 0),(9,.ptr 4 0 0)],hp23 pcs sz rows mcs n tb,[],0⟩
theorem repL_len {L:Lay} {w:World}:∀{cs:List AV} {us:List Value},RepL L w cs us→us.length=cs.length
 | [],us,h=>by simp only[RepL]at h;subst h;rfl
 |v::r,us,h=>by
  simp only[RepL]at h
  obtain⟨u,q,rfl,_,h⟩:=h
  simp[repL_len h]
theorem box_ok {L:Lay} {w:World} {base r:Nat} {cells:List AV} {us:List Value} {t:TypeId} (hb:base≤r) (hm:w.heap[r]? =some (.cells us.toArray t (0,0))) (hr:RepL L w cells us) (hu:∀v ∈ cells,cellU v=true):BlkOK L w base ⟨cells.length,[cells],.box⟩ r:=by
 have hlen:=repL_len hr
 refine BlkOK.mk' rfl hb ⟨us.toArray,t,hm,by simp[hlen],fun i row hrow=>?_⟩
 cases i with
 |succ i=>simp at hrow
 |zero=>
  simp only[List.getElem?_cons_zero,Option.some.injEq]at hrow
  subst hrow
  refine⟨rfl,fun o v hv=>⟨rfl,hu v (List.mem_of_getElem? hv),?_⟩⟩
  obtain⟨u,hu',hrep⟩:=hr.get hv
  exact⟨u,by simpa using hu',hrep⟩
theorem at_23 {L:Lay} {w wf:World} (hi:Inv L (lH []) (lK []) w w.heap.size) {pcs mcs:List AV} {p0 p1 p2 m0 m1 m2 m3 m4:Value} {sz:Nat} {rows:List (List AV)} {tv:Value} (hp:RepL L w pcs [p0,p1,p2]) (hm:RepL L w mcs [m0,m1,m2,m3,m4]) (ht:Rep L w (.lst sz rows .no) tv)
  (hup:∀v ∈ pcs,cellU v=true) (hum:∀v ∈ mcs,cellU v=true) {n:Nat} {tb:List (List R3)} (hrow:∀l ∈ tb,l.length=n) (hN:tb.length≤1000) {a:Act}
  (h:At23 w #[#[p0,p1,p2],#[tv],#[m0,m1,m2,m3,m4]] tb.length tb a wf):Here L w w.heap.size 255 none (st23 pcs sz rows mcs n tb) a wf:=by
 obtain⟨x,y,B,cs,h9,hx,hx4,hB4,hC⟩:=h.cop
 have hy4:=hC.hB
 obtain⟨gs,hgs⟩:∃gs:List (Nat×Nat),gs=if n=0 then []else cs.map fun u=>(u.ownBlock.getD 0,3):=⟨_,rfl⟩
 obtain⟨rs,hrs⟩:∃rs:List (Nat×Nat),rs=(w.heap.size,3)::(w.heap.size+1,1)::(w.heap.size+1+1,5)::(w.heap.size+1+1+1,1)::(x,1)::(y,1)::gs:=⟨_,rfl⟩
 have gsm:∀r sz,(r,sz) ∈ gs→sz=3∧0 < n∧∃(i:Nat) (u:Value),cs[i]? =some u∧u.ownBlock=some r∧B≤r∧∃cur,wf.heap[r]? =some (.cells cur 54 (0,0)):=fun r sz hm=>by
  rw[hgs]at hm
  split at hm
  ·cases hm
  ·rename_i hn0
   obtain⟨u,hu,e⟩:=List.mem_map.1 hm
   obtain⟨i,hi'⟩:=List.mem_iff_getElem?.1 hu
   obtain⟨l,g,cap,cur,xs,_,rfl,hb,hg,_⟩:=hC.form (by omega) hrow i u hi'
   simp only[Value.ownBlock,Option.getD_some,Prod.mk.injEq]at e
   obtain⟨rfl,rfl⟩:=e
   exact⟨rfl,by omega,i,_,hi',rfl,hb,cur,hg⟩
 have rsm:∀r sz,(r,sz) ∈ rs→r=w.heap.size∨r=w.heap.size+1∨r=w.heap.size+1+1∨r=w.heap.size+1+1+1∨r=x∨r=y∨(r,sz) ∈ gs:=fun r sz hm=>by
  rw[hrs]at hm
  simp only[List.mem_cons,Prod.mk.injEq]at hm
  rcases hm with h |h |h |h |h |h |h
  ·exact .inl h.1
  ·exact .inr (.inl h.1)
  ·exact .inr (.inr (.inl h.1))
  ·exact .inr (.inr (.inr (.inl h.1)))
  ·exact .inr (.inr (.inr (.inr (.inl h.1))))
  ·exact .inr (.inr (.inr (.inr (.inr (.inl h.1)))))
  ·exact .inr (.inr (.inr (.inr (.inr (.inr h)))))
 obtain⟨S2,hS2⟩:∃S2:Nat→Nat→Prop,S2=fun g _=>B≤g∧g < wf.heap.size∧∃cur z,wf.heap[g]? =some (.cells cur 3 z):=⟨_,rfl⟩
 have hS:∀g o,S2 g o→w.heap.size≤g∧g < wf.heap.size∧∀sz,(g,sz) ∉ rs:=fun g o hgo=>by
  rw[hS2]at hgo
  obtain⟨h1,h2,cur,z,h3⟩:=hgo
  refine⟨by omega,h2,fun sz hm=>?_⟩
  rcases rsm g sz hm with e |e |e |e |e |e |e
  ·omega
  ·omega
  ·omega
  ·omega
  ·subst e;rw[hx]at h3;cases h3
  ·subst e;rw[hC.blk]at h3;cases h3
  ·obtain⟨_,_,i,u,_,_,_,cur',h4⟩:=gsm g sz e
   rw[h4]at h3;cases h3
 have hnew:∀r sz,(r,sz) ∈ rs→w.heap.size≤r:=fun r sz hm=>by
  rcases rsm r sz hm with e |e |e |e |e |e |e
  ·omega
  ·omega
  ·omega
  ·omega
  ·omega
  ·omega
  ·obtain⟨_,_,i,u,_,_,hb,_⟩:=gsm r sz e
   omega
 have hxy:x≠y:=fun e=>by subst e;rw[hC.blk]at hx;cases hx
 have hxg:∀sz,(x,sz) ∉ gs:=fun sz hm=>by
  obtain⟨_,_,i,u,_,_,_,cur',h4⟩:=gsm x sz hm
  rw[hx]at h4;cases h4
 have hyg:∀sz,(y,sz) ∉ gs:=fun sz hm=>by
  obtain⟨_,_,i,u,_,_,_,cur',h4⟩:=gsm y sz hm
  rw[hC.blk]at h4;cases h4
 have hgb:∀r,r ∈ gs.map Prod.fst→w.heap.size+4≤r∧r≠x∧r≠y:=fun r hr=>by
  obtain⟨⟨r',sz⟩,hm,rfl⟩:=List.mem_map.1 hr
  obtain⟨_,_,i,u,_,_,hb,_⟩:=gsm r' sz hm
  exact⟨by show w.heap.size+4≤r';omega,fun e=>hxg sz (e ▸ hm),fun e=>hyg sz (e ▸ hm)⟩
 have hgn:(gs.map Prod.fst).Nodup:=by
  rw[hgs]
  split
  ·exact List.nodup_nil
  ·rename_i hn0
   rw[List.map_map]
   rw[List.Nodup,List.pairwise_iff_getElem]
   intro i j h1 h2 hij
   simp only[List.length_map]at h1 h2
   simp only[List.getElem_map,Function.comp]
   have u1:=List.getElem?_eq_getElem h1
   have u2:=List.getElem?_eq_getElem h2
   obtain⟨l,g,cap,cur,xs,_,e1,_⟩:=hC.form (by omega) hrow i _ u1
   obtain⟨l',g',cap',cur',xs',_,e2,_⟩:=hC.form (by omega) hrow j _ u2
   rcases hC.apart i j _ _ (by omega) u1 u2 with h0 |h0
   ·rw[e1]at h0;cases h0
   ·rw[e1,e2]at h0 ⊢
    exact fun e=>h0 (congrArg some e)
 have hnd:(rs.map Prod.fst).Nodup:=by
  rw[hrs]
  simp only[List.map_cons,List.nodup_cons,List.mem_cons,not_or]
  have g0:=fun r hr=>hgb r hr
  refine⟨⟨by omega,by omega,by omega,by omega,by omega,fun hr=>by have:=g0 _ hr;omega⟩,⟨by omega,by omega,by omega,by omega,fun hr=>by have:=g0 _ hr;omega⟩,⟨by omega,by omega,by omega,fun hr=>by have:=g0 _ hr;omega⟩,
   ⟨by omega,by omega,fun hr=>by have:=g0 _ hr;omega⟩,⟨hxy,fun hr=>(g0 _ hr).2.1 rfl⟩,fun hr=>(g0 _ hr).2.2 rfl,hgn⟩
 have hext:=adds_ext (rs:=rs) (S2:=S2) hi h.below fun g o h=>(hS g o h).1
 have hhp:∀i,(L.adds ([]:List Blk).length 0 rs S2).hp i=rs[i]? :=fun i=>by
  have:=adds_new (L:=L) (h:=([]:List Blk).length) (sz0:=0) (rs:=rs) (S2:=S2) i
  rw[List.length_nil,Nat.zero_add]at this
  exact this
 have hSt:∀(g o:Nat) cur z,B≤g→wf.heap[g]? =some (.cells cur 3 z)→(L.adds ([]:List Blk).length 0 rs S2).S g o:=fun g o cur z h1 h2=>.inr (by rw[hS2];exact⟨h1,(Array.getElem?_eq_some_iff.1 h2).1,cur,z,h2⟩)
 have hgi:0 < n→∀(i:Nat) (u:Value) (g cap:Nat),cs[i]? =some u→u= .slice (some ⟨g,0,none⟩) n cap→rs[i+6]? =some (g,3):=fun hn i u g cap hu e=>by
  rw[hrs,hgs,if_neg (by omega)]
  simp[hu,e,Value.ownBlock]
 have hinv:=adds_inv (L:=L) (H:=[]) (K:=[]) (w:=w) (w':=wf) (base:=w.heap.size) (rs:=rs) (S2:=S2) (ks:=hp23 pcs sz rows mcs n tb) hi h.below (by
   rw[hrs,hgs]
   simp only[hp23,b54]
   split <;> simp[hC.len]) hS hnew (nodup_fst hnd) fun i r z k hr hk=>by
  match i with
  |0=>
   rw[hrs]at hr
   simp only[List.getElem?_cons_zero,Option.some.injEq,Prod.mk.injEq,hp23,List.cons_append]at hr hk
   obtain⟨rfl,rfl⟩:=hr
   subst hk
   refine⟨rfl,?_⟩
   have hpl:pcs.length=3:=(repL_len hp).symm
   have:=box_ok (Nat.le_refl _) h.b3 (RepL.extL hext hp) hup
   rwa[hpl]at this
  |1=>
   rw[hrs]at hr
   simp only[List.getElem?_cons_succ,List.getElem?_cons_zero,Option.some.injEq,Prod.mk.injEq,hp23,List.cons_append]at hr hk
   obtain⟨rfl,rfl⟩:=hr
   subst hk
   exact⟨rfl,box_ok (cells:=[.lst sz rows .no]) (us:=[tv]) (by omega) h.b4 (RepL.extL hext (by simp only[RepL];exact⟨tv,[],rfl,ht,rfl⟩)) (by simp[cellU])⟩
  |2=>
   rw[hrs]at hr
   simp only[List.getElem?_cons_succ,List.getElem?_cons_zero,Option.some.injEq,Prod.mk.injEq,hp23,List.cons_append]at hr hk
   obtain⟨rfl,rfl⟩:=hr
   subst hk
   refine⟨rfl,?_⟩
   have hpl:mcs.length=5:=(repL_len hm).symm
   have:=box_ok (r:=w.heap.size+1+1) (base:=w.heap.size) (by omega) h.b5 (RepL.extL hext hm) hum
   rwa[hpl]at this
  |3=>
   rw[hrs]at hr
   simp only[List.getElem?_cons_succ,List.getElem?_cons_zero,Option.some.injEq,Prod.mk.injEq,hp23,List.cons_append]at hr hk
   obtain⟨rfl,rfl⟩:=hr
   subst hk
   exact⟨rfl,box_ok (cells:=[.lst 0 [] .nil]) (us:=[.slice none 0 0]) (by omega) h.b6 (by simp only[RepL,Rep];exact⟨_,[],rfl,⟨none,0,0,by simp[CapOK]⟩,rfl⟩) (by simp[cellU])⟩
  |4=>
   rw[hrs]at hr
   simp only[List.getElem?_cons_succ,List.getElem?_cons_zero,Option.some.injEq,Prod.mk.injEq,hp23,List.cons_append]at hr hk
   obtain⟨rfl,rfl⟩:=hr
   subst hk
   refine⟨rfl,box_ok (cells:=[.win 5 0 tb.length (some tb.length)]) (us:=[.slice (some ⟨y,0,none⟩) tb.length tb.length]) (by omega) hx ?_ (by simp[cellU])⟩
   simp only[RepL,Rep]
   refine⟨_,[],rfl,⟨y,1,⟨y,0,none⟩,tb.length,by rw[hhp,hrs];rfl,rfl,Nat.le_refl _,by omega,fun c e=>(Option.some.inj e),.inr (by simp),fun j hj=>?_⟩,rfl⟩
   rw[cell_of_row _ _ _ _ _ _ hC.blk,Array.getElem?_eq_getElem (by simp[hC.len];omega)]
   rfl
  |5=>
   rw[hrs]at hr
   simp only[List.getElem?_cons_succ,List.getElem?_cons_zero,Option.some.injEq,Prod.mk.injEq]at hr
   obtain⟨rfl,rfl⟩:=hr
   by_cases hn:n=0
   ·subst hn
    simp only[hp23,b54,if_true,List.cons_append,List.nil_append,List.getElem?_cons_succ,List.getElem?_cons_zero,Option.some.injEq]at hk
    subst hk
    exact⟨rfl,hC.outer0 (fun l hl=>List.eq_nil_of_length_eq_zero (hrow l hl)) (by omega)⟩
   ·simp only[hp23,b54,if_neg hn,List.cons_append,List.nil_append,List.getElem?_cons_succ,List.getElem?_cons_zero,Option.some.injEq]at hk
    subst hk
    exact⟨rfl,hC.outer (by omega) hrow (by omega) fun i u g cap hu e=>by rw[hhp,show 5+1+i=i+6 by omega];exact hgi (by omega) i u g cap hu e⟩
  |i+6=>
   by_cases hn:n=0
   ·subst hn
    simp[hp23,b54]at hk
   ·simp only[hp23,b54,if_neg hn,List.cons_append,List.nil_append,List.getElem?_cons_succ,List.getElem?_map,Option.map_eq_some_iff]at hk
    obtain⟨l,hl,rfl⟩:=hk
    obtain⟨u,hu⟩:∃u,cs[i]? =some u:=⟨_,List.getElem?_eq_getElem (by rw[hC.len];exact(List.getElem?_eq_some_iff.1 hl).1)⟩
    obtain⟨l',g,cap,cur,xs,hl',e,_⟩:=hC.form (by omega) hrow i u hu
    rw[hgi (by omega) i u g cap hu e]at hr
    cases hr
    exact⟨rfl,hC.inner (by omega) hrow (by omega) hSt hl hu (by rw[e];rfl)⟩
 refine⟨L.adds ([]:List Blk).length 0 rs S2,hext,?_,fun t=>?_,h.size,h.defers⟩
 ·rw[List.nil_append]at hinv
  exact hinv
 ·have ptr:∀(b r z:Nat),rs[b]? =some (r,z)→Rep (L.adds ([]:List Blk).length 0 rs S2) wf (.ptr b 0 0) (.pointer (some ⟨r,0,none⟩)):=fun b r z hb=>by
   simp only[Rep]
   exact⟨r,z,by rw[hhp];exact hb,by simp⟩
  simp only[st23,Sym.get]
  split
  ·rename_i e;subst e;rw[h.s3];exact ptr 0 _ 3 (by rw[hrs];rfl)
  ·split
   ·rename_i e;subst e;rw[h.s4];exact ptr 1 _ 1 (by rw[hrs];rfl)
   ·split
    ·rename_i e;subst e;rw[h.s5];exact ptr 2 _ 5 (by rw[hrs];rfl)
    ·split
     ·rename_i e;subst e;rw[h.s6];exact ptr 3 _ 1 (by rw[hrs];rfl)
     ·split
      ·rename_i e;subst e;rw[h9];exact ptr 4 _ 1 (by rw[hrs];rfl)
      ·simp[Rep]
end T
end
section
open Go Go.Proofs Go.Sym Go.RowKit
namespace T
theorem puI1 (l:List Int):purR (l.map i1c)=true:=purR_map _ (fun a=>by simp[i1c]) l
def l54 (tb:List (List R3)):Blk:=⟨1,tb.map fun l=>[.lst (szOf 3 (l.map r3c)) (l.map r3c) .no],.box⟩
def st23l (pcs:List AV) (sz:Nat) (rows:List (List AV)) (mcs:List AV) (tb:List (List R3)):St:=
 ⟨[(3,.ptr 0 0 0),(4,.ptr 1 0 0),(5,.ptr 2 0 0),(6,.ptr 3 0 0),(9,.ptr 4 0 0)],[⟨3,[pcs],.box⟩,⟨1,[[.lst sz rows .no]],.box⟩,⟨5,[mcs],.box⟩,⟨1,[[.lst 0 [] .nil]],.box⟩,⟨1,[[.win 5 0 tb.length (some tb.length)]],.box⟩,l54 tb],[],0⟩
section
variable {wf:World} {B y:Nat} {cs:List Value} {tb:List (List R3)}
theorem _root_.Go.Proofs.CopW.repR (h:CopW wf B y cs tb) {L':Lay} (hS:∀(g o:Nat) cur z,B≤g→wf.heap[g]? =some (.cells cur 3 z)→L'.S g o) (hS':∀(g o:Nat) cur z,B≤g→wf.heap[g]? =some (.cells cur 54 z)→L'.S g o)
  {i:Nat} {u:Value} {l:List R3} (hu:cs[i]? =some u) (hl:tb[i]? =some l):Rep L' wf (.lst (szOf 3 (l.map r3c)) (l.map r3c) .no) u:=by
 refine Rep.szOf ?_
 simp only[Rep]
 obtain⟨xs,hown,hc⟩:=h.own i u l hu hl
 rcases hown.2 with⟨rfl,h0⟩ |⟨g,cap,cur,rfl,hb,hg,hn,hm,hs,ht⟩
 ·exact⟨none,0,0,rfl,by simpa using h0,Nat.le_refl _,by omega,.inl (by simpa using h0),trivial⟩
 ·refine⟨some ⟨g,0,none⟩,l.length,cap,rfl,by simp,hn,by unfold maxLen at hm;omega,.inr ⟨g,0,rfl,RepR.of_get fun i row hrow=>?_⟩,trivial⟩
  rw[List.getElem?_map,Option.map_eq_some_iff]at hrow
  obtain⟨x,hx,rfl⟩:=hrow
  have hil:=(List.getElem?_eq_some_iff.1 hx).1
  obtain⟨u',e1,e2,e3,e4⟩:=Cells3.get hc hx
  have hcell:∀t v,t < 3→xs[i*3+t]? =some v→wf.cell? ⟨g,i*3+t,none⟩=some v:=fun t v ht' hv=>by
   rw[cell_of_row _ _ _ _ _ _ hg]
   rw[←ht,List.getElem?_take_of_lt (by omega)]at hv
   simpa using hv
  refine⟨rfl,?_⟩
  have q:∀o,L'.S g o:=fun o=>hS' g o cur _ hb hg
  have c0:=hcell 0 _ (by omega) e1
  have c1:=hcell 1 _ (by omega) e3
  have c2:=hcell 2 _ (by omega) e4
  have hp:pureB (.lst (szOf 1 (x.1.map i1c)) (x.1.map i1c) .no)=true:=by simp[pureB,puI1]
  simp only[r3c,RepC,and_true]
  rw[Nat.zero_add]
  exact⟨.inl (q _),hp,rfl,⟨_,c0,repI hS e2⟩,.inl (q _),rfl,rfl,⟨_,c1,rfl⟩,.inl (q _),rfl,rfl,_,c2,rfl⟩
theorem _root_.Go.Proofs.CopW.outerL (h:CopW wf B y cs tb) {L':Lay} {base:Nat} (hb:base≤B) (hS:∀(g o:Nat) cur z,B≤g→wf.heap[g]? =some (.cells cur 3 z)→L'.S g o) (hS':∀(g o:Nat) cur z,B≤g→wf.heap[g]? =some (.cells cur 54 z)→L'.S g o):
  BlkOK L' wf base (l54 tb) y:=by
 refine BlkOK.mk' rfl (Nat.le_trans hb h.hB) ⟨cs.toArray,50,h.blk,by simp[l54,h.len],fun i row hrow'=>?_⟩ (fun t e=>by cases e)
 simp only[l54,List.getElem?_map,Option.map_eq_some_iff]at hrow'
 obtain⟨l,hl,rfl⟩:=hrow'
 refine⟨rfl,fun o v hv=>?_⟩
 cases o with
 |zero=>
  simp only[List.getElem?_cons_zero,Option.some.injEq]at hv
  subst hv
  obtain⟨u,hu⟩:∃u,cs[i]? =some u:=⟨_,List.getElem?_eq_getElem (by rw[h.len];exact(List.getElem?_eq_some_iff.1 hl).1)⟩
  exact⟨rfl,rfl,_,by simpa[l54] using hu,h.repR hS hS' hu hl⟩
 |succ o=>simp at hv
end
theorem at_23l {L:Lay} {w wf:World} (hi:Inv L (lH []) (lK []) w w.heap.size) {pcs mcs:List AV} {p0 p1 p2 m0 m1 m2 m3 m4:Value} {sz:Nat} {rows:List (List AV)} {tv:Value} (hp:RepL L w pcs [p0,p1,p2]) (hm:RepL L w mcs [m0,m1,m2,m3,m4]) (ht:Rep L w (.lst sz rows .no) tv)
  (hup:∀v ∈ pcs,cellU v=true) (hum:∀v ∈ mcs,cellU v=true) {tb:List (List R3)} (hN:tb.length≤1000) {a:Act}
  (h:At23 w #[#[p0,p1,p2],#[tv],#[m0,m1,m2,m3,m4]] tb.length tb a wf):Here L w w.heap.size 255 none (st23l pcs sz rows mcs tb) a wf:=by
 obtain⟨x,y,B,cs,h9,hx,hx4,hB4,hC⟩:=h.cop
 have hy4:=hC.hB
 obtain⟨rs,hrs⟩:∃rs:List (Nat×Nat),rs=(w.heap.size,3)::(w.heap.size+1,1)::(w.heap.size+1+1,5)::(w.heap.size+1+1+1,1)::(x,1)::(y,1):: []:=⟨_,rfl⟩
 have rsm:∀r sz,(r,sz) ∈ rs→r=w.heap.size∨r=w.heap.size+1∨r=w.heap.size+1+1∨r=w.heap.size+1+1+1∨r=x∨r=y:=fun r sz hm=>by
  rw[hrs]at hm
  simp only[List.mem_cons,Prod.mk.injEq]at hm
  rcases hm with h |h |h |h |h |h |h
  ·exact .inl h.1
  ·exact .inr (.inl h.1)
  ·exact .inr (.inr (.inl h.1))
  ·exact .inr (.inr (.inr (.inl h.1)))
  ·exact .inr (.inr (.inr (.inr (.inl h.1))))
  ·exact .inr (.inr (.inr (.inr (.inr h.1))))
  ·cases h
 obtain⟨S2,hS2⟩:∃S2:Nat→Nat→Prop,S2=fun g _=>B≤g∧g < wf.heap.size∧∃cur t z,(t=3∨t=54)∧wf.heap[g]? =some (.cells cur t z):=⟨_,rfl⟩
 have hS:∀g o,S2 g o→w.heap.size≤g∧g < wf.heap.size∧∀sz,(g,sz) ∉ rs:=fun g o hgo=>by
  rw[hS2]at hgo
  obtain⟨h1,h2,cur,t,z,ht3,h3⟩:=hgo
  refine⟨by omega,h2,fun sz hm=>?_⟩
  rcases rsm g sz hm with e |e |e |e |e |e
  ·omega
  ·omega
  ·omega
  ·omega
  ·subst e;rw[hx]at h3;cases h3;rcases ht3 with h |h <;> cases h
  ·subst e;rw[hC.blk]at h3;cases h3;rcases ht3 with h |h <;> cases h
 have hnew:∀r sz,(r,sz) ∈ rs→w.heap.size≤r:=fun r sz hm=>by
  rcases rsm r sz hm with e |e |e |e |e |e <;> omega
 have hxy:x≠y:=fun e=>by subst e;rw[hC.blk]at hx;cases hx
 have hnd:(rs.map Prod.fst).Nodup:=by
  rw[hrs]
  simp only[List.map_cons,List.map_nil,List.nodup_cons,List.mem_cons,not_or,List.not_mem_nil,not_false_eq_true,and_true,List.nodup_nil]
  exact⟨⟨by omega,by omega,by omega,by omega,by omega⟩,⟨by omega,by omega,by omega,by omega⟩,⟨by omega,by omega,by omega⟩,⟨by omega,by omega⟩,hxy⟩
 have hext:=adds_ext (rs:=rs) (S2:=S2) hi h.below fun g o h=>(hS g o h).1
 have hhp:∀i,(L.adds ([]:List Blk).length 0 rs S2).hp i=rs[i]? :=fun i=>by
  have:=adds_new (L:=L) (h:=([]:List Blk).length) (sz0:=0) (rs:=rs) (S2:=S2) i
  rw[List.length_nil,Nat.zero_add]at this
  exact this
 have hSt:∀(g o:Nat) cur z,B≤g→wf.heap[g]? =some (.cells cur 3 z)→(L.adds ([]:List Blk).length 0 rs S2).S g o:=fun g o cur z h1 h2=>.inr (by rw[hS2];exact⟨h1,(Array.getElem?_eq_some_iff.1 h2).1,cur,3,z,.inl rfl,h2⟩)
 have hSt':∀(g o:Nat) cur z,B≤g→wf.heap[g]? =some (.cells cur 54 z)→(L.adds ([]:List Blk).length 0 rs S2).S g o:=fun g o cur z h1 h2=>.inr (by rw[hS2];exact⟨h1,(Array.getElem?_eq_some_iff.1 h2).1,cur,54,z,.inr rfl,h2⟩)
 have hinv:=adds_inv (L:=L) (H:=[]) (K:=[]) (w:=w) (w':=wf) (base:=w.heap.size) (rs:=rs) (S2:=S2) (ks:=(st23l pcs sz rows mcs tb).heap) hi h.below (by
   rw[hrs]
   rfl) hS hnew (nodup_fst hnd) fun i r z k hr hk=>by
  match i with
  |0=>
   rw[hrs]at hr
   simp only[List.getElem?_cons_zero,Option.some.injEq,Prod.mk.injEq,st23l]at hr hk
   obtain⟨rfl,rfl⟩:=hr
   subst hk
   refine⟨rfl,?_⟩
   have hpl:pcs.length=3:=(repL_len hp).symm
   have:=box_ok (Nat.le_refl _) h.b3 (RepL.extL hext hp) hup
   rwa[hpl]at this
  |1=>
   rw[hrs]at hr
   simp only[List.getElem?_cons_succ,List.getElem?_cons_zero,Option.some.injEq,Prod.mk.injEq,st23l]at hr hk
   obtain⟨rfl,rfl⟩:=hr
   subst hk
   exact⟨rfl,box_ok (cells:=[.lst sz rows .no]) (us:=[tv]) (by omega) h.b4 (RepL.extL hext (by simp only[RepL];exact⟨tv,[],rfl,ht,rfl⟩)) (by simp[cellU])⟩
  |2=>
   rw[hrs]at hr
   simp only[List.getElem?_cons_succ,List.getElem?_cons_zero,Option.some.injEq,Prod.mk.injEq,st23l]at hr hk
   obtain⟨rfl,rfl⟩:=hr
   subst hk
   refine⟨rfl,?_⟩
   have hpl:mcs.length=5:=(repL_len hm).symm
   have:=box_ok (r:=w.heap.size+1+1) (base:=w.heap.size) (by omega) h.b5 (RepL.extL hext hm) hum
   rwa[hpl]at this
  |3=>
   rw[hrs]at hr
   simp only[List.getElem?_cons_succ,List.getElem?_cons_zero,Option.some.injEq,Prod.mk.injEq,st23l]at hr hk
   obtain⟨rfl,rfl⟩:=hr
   subst hk
   exact⟨rfl,box_ok (cells:=[.lst 0 [] .nil]) (us:=[.slice none 0 0]) (by omega) h.b6 (by simp only[RepL,Rep];exact⟨_,[],rfl,⟨none,0,0,by simp[CapOK]⟩,rfl⟩) (by simp[cellU])⟩
  |4=>
   rw[hrs]at hr
   simp only[List.getElem?_cons_succ,List.getElem?_cons_zero,Option.some.injEq,Prod.mk.injEq,st23l]at hr hk
   obtain⟨rfl,rfl⟩:=hr
   subst hk
   refine⟨rfl,box_ok (cells:=[.win 5 0 tb.length (some tb.length)]) (us:=[.slice (some ⟨y,0,none⟩) tb.length tb.length]) (by omega) hx ?_ (by simp[cellU])⟩
   simp only[RepL,Rep]
   refine⟨_,[],rfl,⟨y,1,⟨y,0,none⟩,tb.length,by rw[hhp,hrs];rfl,rfl,Nat.le_refl _,by omega,fun c e=>(Option.some.inj e),.inr (by simp),fun j hj=>?_⟩,rfl⟩
   rw[cell_of_row _ _ _ _ _ _ hC.blk,Array.getElem?_eq_getElem (by simp[hC.len];omega)]
   rfl
  |5=>
   rw[hrs]at hr
   simp only[List.getElem?_cons_succ,List.getElem?_cons_zero,Option.some.injEq,Prod.mk.injEq]at hr
   obtain⟨rfl,rfl⟩:=hr
   simp only[st23l,List.getElem?_cons_succ,List.getElem?_cons_zero,Option.some.injEq]at hk
   subst hk
   exact⟨rfl,hC.outerL (by omega) hSt hSt'⟩
  |i+6=>
   simp[st23l]at hk
 refine⟨L.adds ([]:List Blk).length 0 rs S2,hext,?_,fun t=>?_,h.size,h.defers⟩
 ·rw[List.nil_append]at hinv
  exact hinv
 ·have ptr:∀(b r z:Nat),rs[b]? =some (r,z)→Rep (L.adds ([]:List Blk).length 0 rs S2) wf (.ptr b 0 0) (.pointer (some ⟨r,0,none⟩)):=fun b r z hb=>by
   simp only[Rep]
   exact⟨r,z,by rw[hhp];exact hb,by simp⟩
  simp only[st23l,Sym.get]
  split
  ·rename_i e;subst e;rw[h.s3];exact ptr 0 _ 3 (by rw[hrs];rfl)
  ·split
   ·rename_i e;subst e;rw[h.s4];exact ptr 1 _ 1 (by rw[hrs];rfl)
   ·split
    ·rename_i e;subst e;rw[h.s5];exact ptr 2 _ 5 (by rw[hrs];rfl)
    ·split
     ·rename_i e;subst e;rw[h.s6];exact ptr 3 _ 1 (by rw[hrs];rfl)
     ·split
      ·rename_i e;subst e;rw[h9];exact ptr 4 _ 1 (by rw[hrs];rfl)
      ·simp[Rep]
end T
end
section
open Go Go.Proofs Go.Sym Go.RowKit
namespace T
noncomputable def out23 (pcs:List AV) (sz:Nat) (rows:List (List AV)) (mcs:List AV) (n kd:Int):Option IRes:=
 ob (decT rows) fun tb=>if 0≤n∧n≤1000∧tb.length≤1000∧(∀ l ∈ tb,l.length=n.toNat)then
  ob (ex X 23 rest23 (if 5≤kd then st23l pcs sz rows mcs tb else st23 pcs sz rows mcs n.toNat tb)) fun o=>ob (fin Tryz.prog false Tryz.f23.results.toList o) fun q=>match q.1 with
   | .ret v=>iret false q.2.2 v
   | .panic _=>none
 else none
noncomputable def F23:List AV→Option IRes
 | [.agg [.lst z1 r1 .no,.lst z2 r2 .no,.lst z3 r3 .no],.agg [.lst sz rows .no],.agg [.int .i64 k1,.int .i64 k2,.int .i64 k3,.int .i64 k4,.lst z5 r5 .no]]=>
  match icall X (call X) 53 [.agg [.lst sz rows .no],.agg [.int .i64 k1,.int .i64 k2,.int .i64 k3,.int .i64 k4,.lst z5 r5 .no]]with
  |some (.ret (.int .i64 e))=>if e≠0 then some (.ret (.tup [.agg [.lst 0 [] .no],.int .i64 e]))else match icall X (call X) 55 [.agg [.lst sz rows .no]]with
   |some (.ret (.int .i64 n))=>out23 [.lst z1 r1 .no,.lst z2 r2 .no,.lst z3 r3 .no] sz rows [.int .i64 k1,.int .i64 k2,.int .i64 k3,.int .i64 k4,.lst z5 r5 .no] n k1
   |_=>none
  |_=>none
 |_=>none
theorem good_0 {L:Lay} {w:World} {base:Nat} (hi:Inv L (lH []) (lK []) w base) (s:St) (h0:s.nh=0):Good L s:=by
 refine⟨by omega,fun b k hb=>by omega,fun b x hx=>?_,fun t k ht=>?_⟩
 ·obtain⟨k,hk,_⟩:=hi.dom' b x.1 x.2 hx
  simp[lH]at hk
 ·have:=hi.K t
  rw[ht]at this
  simp[lK]at this
theorem rest_ok:CodeOK (X.sep 23) (X.cut 23) 255 rest23:=by
 have h:=codeOK 23 Tryz.f23 (Tryz.f23.body.getD .skip) Tryz.func23 rfl
 exact h.2.2.2
theorem call54 {L:Lay} {w:World} {base:Nat} (hi:Inv L (lH []) (lK []) w base) {sz:Nat} {rows:List (List AV)} {ao:Option Addr} {N cap:Nat} (hr:Rep L w (.lst sz rows .no) (.slice ao N cap)) {tb:List (List R3)} (hd:decT rows=some tb)
  {n:Nat} (hn:n≤1000) (hN:tb.length≤1000) (hrow:∀l ∈ tb,l.length=n):
  tb.length=N∧∀w',Below w.heap.size w w'→Calls Tryz.prog 54 #[.agg #[.slice ao N cap],.int .i64 0,.int .i64 n] w' fun e w''=>∃cs,e= .returned (.agg #[.slice (some ⟨w'.heap.size+1+1,0,none⟩) N N])∧Cop54 w' w'' cs tb:=by
 obtain⟨ao',N',cap',e,hlen,hNc,hcap,hrows,_⟩:=by simpa only[Rep] using hr
 cases e
 have hNl:tb.length=N:=by
  rcases hrows with hrows |⟨g,p,rfl,hrr⟩
  ·subst hrows;cases hd;exact hlen
  ·rw[(decT_read hi hd hrr).1,hlen]
 refine⟨hNl,fun w' hb=>?_⟩
 by_cases hE:tb=[]
 ·subst hE
  subst hNl
  exact(Tryz.w54n ao cap n w' hcap).mono fun e w'' ⟨h1,cs,h2⟩=>⟨cs,h1,h2⟩
 ·rcases hrows with hrows |⟨g,p,rfl,hrr⟩
  ·subst hrows;cases hd;exact absurd rfl hE
  ·obtain⟨f1,f2⟩:=decT_read hi hd hrr
   subst hNl
   have hg:g < w.heap.size:=by
    cases tb with
    |nil=>exact absurd rfl hE
    |cons l r=>exact(f2 0 l rfl).1
   by_cases hn0:n=0
   ·subst hn0
    have hrow':∀l ∈ tb,l=[]:=fun l hl=>List.eq_nil_of_length_eq_zero (hrow l hl)
    refine(Tryz.w54z g p cap tb.length w' hN hNc hcap (fun _=>Nat.lt_of_lt_of_le hg hb.size) fun k hk=>?_).mono fun e w'' ⟨h1,cs,h2⟩=>⟨cs,h1,?_⟩
    ·have hl:=List.getElem?_eq_getElem hk
     obtain⟨_,ao,c,h1,h2,h3,_⟩:=f2 k _ hl
     rw[hrow' _ (List.mem_of_getElem? hl)]at h1
     exact⟨ao,c,(hb.cell (p:=⟨g,p+k,none⟩) hg).trans h1,h3⟩
    ·have e:List.replicate tb.length []=tb:=(List.eq_replicate_iff.2 ⟨rfl,hrow'⟩).symm
     rw[e]at h2
     exact h2
   ·refine(Tryz.w54 g p cap tb.length n w' tb rfl hN (by omega) hn hNc hcap (Nat.lt_of_lt_of_le hg hb.size) fun k l hl=>?_).mono fun e w'' ⟨h1,cs,h2⟩=>⟨cs,h1,h2⟩
    obtain⟨_,ao,c,h1,h2,h3,h4⟩:=f2 k l hl
    have hln:=hrow l (List.mem_of_getElem? hl)
    rw[hln]at h1 h2
    refine⟨_,(hb.cell (p:=⟨g,p+k,none⟩) hg).trans h1,?_⟩
    rcases h4 with h4 |⟨G,Q,rfl,hG,h4⟩
    ·rw[h4]at hln;simp at hln;omega
    ·refine⟨G,Q,c,rfl,h2,h3,Nat.lt_of_lt_of_le hG hb.size,hln,fun j x hx=>?_⟩
     obtain⟨a,cc,e1,e2,e3,e4,e5⟩:=h4 j x hx
     have cb:∀o v,w.cell? ⟨G,o,none⟩=some v→w'.cell? ⟨G,o,none⟩=some v:=fun o v h=>(hb.cell (p:=⟨G,o,none⟩) hG).trans h
     refine⟨a,cc,cb _ _ e1,cb _ _ e2,cb _ _ e3,e4,e5.imp id fun⟨h,q,e,hh,hc⟩=>⟨h,q,e,Nat.lt_of_lt_of_le hh hb.size,fun i y hy=>(hb.cell (p:=⟨h,q+i,none⟩) hh).trans (hc i y hy)⟩⟩
theorem p23 (args:List AV) (r:IRes) (h:F23 args=some r):Body Tryz.prog 23∧∃(own:Bool) (q:Res×List Blk×List Nat),
   (match q.1 with | .ret v=>iret own q.2.2 v | .panic v=>if pureB v=true then some (.panic v)else none)=some r∧
   ∀L w (us:Array Value),Inv L (lH []) (lK []) w w.heap.size→RepL L w args us.toList→Calls Tryz.prog 23 us w (Ends w.heap.size L w q):=by
 refine⟨body_of (by kernel_rfl),false,?_⟩
 unfold F23 at h
 split at h
 ·rename_i z1 r1 z2 r2 z3 r3 sz rows k1 k2 k3 k4 z5 r5
  split at h
  ·rename_i e h53
   have args_of:∀{L:Lay} {w:World} {us:Array Value},RepL L w [.agg [.lst z1 r1 .no,.lst z2 r2 .no,.lst z3 r3 .no],.agg [.lst sz rows .no],.agg [.int .i64 k1,.int .i64 k2,.int .i64 k3,.int .i64 k4,.lst z5 r5 .no]] us.toList→
     ∃a1 n1 c1 a2 n2 c2 a3 n3 c3 a4 N cap a5 n5 c5,us= #[.agg #[.slice a1 n1 c1,.slice a2 n2 c2,.slice a3 n3 c3],.agg #[.slice a4 N cap],.agg #[.int .i64 k1,.int .i64 k2,.int .i64 k3,.int .i64 k4,.slice a5 n5 c5]]∧
      RepL L w [.lst z1 r1 .no,.lst z2 r2 .no,.lst z3 r3 .no] [.slice a1 n1 c1,.slice a2 n2 c2,.slice a3 n3 c3]∧Rep L w (.lst sz rows .no) (.slice a4 N cap)∧
      RepL L w [.int .i64 k1,.int .i64 k2,.int .i64 k3,.int .i64 k4,.lst z5 r5 .no] [.int .i64 k1,.int .i64 k2,.int .i64 k3,.int .i64 k4,.slice a5 n5 c5]:=by
    intro L w us hr
    simp only[RepL]at hr
    obtain⟨v0,_,hus,h0,v1,_,rfl,h1,v2,_,rfl,h2,rfl⟩:=hr
    obtain rfl:us= #[v0,v1,v2]:=by rw[←Array.toArray_toList (xs:=us),hus]
    simp only[Rep]at h0 h1 h2
    obtain⟨q0,rfl,h0⟩:=h0
    obtain⟨q1,rfl,h1⟩:=h1
    obtain⟨q2,rfl,h2⟩:=h2
    have h0':=h0
    have h2':=h2
    simp only[RepL]at h0 h1 h2
    obtain⟨b0,_,e0,x0,b1,_,rfl,x1,b2,_,rfl,x2,rfl⟩:=h0
    obtain⟨b3,_,e1,x3,rfl⟩:=h1
    obtain⟨d0,_,e2,y0,d1,_,rfl,y1,d2,_,rfl,y2,d3,_,rfl,y3,d4,_,rfl,y4,rfl⟩:=h2
    rw[e0]at h0'
    rw[e2]at h2'
    obtain rfl:q0= #[b0,b1,b2]:=by rw[←Array.toArray_toList (xs:=q0),e0]
    obtain rfl:q1= #[b3]:=by rw[←Array.toArray_toList (xs:=q1),e1]
    obtain rfl:q2= #[d0,d1,d2,d3,d4]:=by rw[←Array.toArray_toList (xs:=q2),e2]
    have sl:∀{z rs v},Rep L w (.lst z rs .no) v→∃a n c,v= .slice a n c:=fun h=>by
     obtain⟨a,n,c,e,_⟩:=by simpa only[Rep] using h
     exact⟨a,n,c,e⟩
    obtain⟨a1,n1,c1,rfl⟩:=sl x0
    obtain⟨a2,n2,c2,rfl⟩:=sl x1
    obtain⟨a3,n3,c3,rfl⟩:=sl x2
    obtain⟨a4,N,cap,rfl⟩:=sl x3
    obtain⟨a5,n5,c5,rfl⟩:=sl y4
    simp only[Rep]at y0 y1 y2 y3
    subst y0 y1 y2 y3
    exact⟨a1,n1,c1,a2,n2,c2,a3,n3,c3,a4,N,cap,a5,n5,c5,rfl,h0',x3,h2'⟩
   have a53:∀{L:Lay} {w:World},Inv L (lH []) (lK []) w w.heap.size→∀{a4 N cap a5 n5 c5},Rep L w (.lst sz rows .no) (.slice a4 N cap)→RepL L w [.int .i64 k1,.int .i64 k2,.int .i64 k3,.int .i64 k4,.lst z5 r5 .no] [.int .i64 k1,.int .i64 k2,.int .i64 k3,.int .i64 k4,.slice a5 n5 c5]→
     ∀w',Below w.heap.size w w'→Calls Tryz.prog 53 #[.agg #[.slice a4 N cap],.agg #[.int .i64 k1,.int .i64 k2,.int .i64 k3,.int .i64 k4,.slice a5 n5 c5]] w' fun x w''=>x= .returned (.int .i64 e)∧Below w'.heap.size w' w'':=fun hi _ _ _ _ _ _ ht hm=>
    icall_at xOK hi (g:=53) (by decide) (by simp) h53 (by
     simp only[RepL]
     exact⟨_,_,rfl,by simp only[Rep,RepL];exact⟨_,rfl,_,_,rfl,by simpa only[Rep] using ht,rfl⟩,_,_,rfl,⟨_,rfl,hm⟩,rfl⟩)
   split at h
   ·rename_i he
    cases h
    refine⟨(.ret (.tup [.agg [.lst 0 [] .nil],.int .i64 e]),[],[]),by simp[iret,normv,normL,strip,stripL,pureB,pureL,szOf],fun L w us hi hr=>?_⟩
    obtain⟨a1,n1,c1,a2,n2,c2,a3,n3,c3,a4,N,cap,a5,n5,c5,rfl,hp,ht,hm⟩:=args_of hr
    refine(Tryz.w23e a1 a2 a3 a4 a5 n1 c1 n2 c2 n3 c3 N cap n5 c5 k1 k2 k3 k4 e w he (a53 hi ht hm)).mono fun x w' ⟨h1,h2⟩=>?_
    subst h1
    exact⟨L,Ext.grow hi h2,hi.grow h2,by simp only[Rep,RepL];exact⟨_,rfl,_,_,rfl,⟨_,rfl,_,_,rfl,⟨none,0,0,by simp[CapOK]⟩,rfl⟩,_,_,rfl,rfl,rfl⟩⟩
   ·rename_i he
    simp only[ne_eq,Classical.not_not]at he
    subst he
    split at h
    ·rename_i n h55
     unfold out23 at h
     obtain⟨tb,hd,h⟩:=ob_eq h
     split at h
     ·rename_i hc
      obtain⟨hn0,hn1,hN,hrow⟩:=hc
      obtain⟨o,ho,h⟩:=ob_eq h
      obtain⟨q,hq,h⟩:=ob_eq h
      refine⟨q,by cases hq1:q.1 with |ret v=>(rw [hq1]at h;exact h) |panic v=>(rw [hq1]at h;cases h),fun L w us hi hr=>?_⟩
      obtain⟨a1,n1,c1,a2,n2,c2,a3,n3,c3,a4,N,cap,a5,n5,c5,rfl,hp,ht,hm⟩:=args_of hr
      obtain⟨n',rfl⟩:∃n':Nat,n=n':=⟨n.toNat,by omega⟩
      simp only[Int.toNat_natCast]at ho hrow
      obtain⟨hNl,h54⟩:=call54 hi ht hd (by omega) hN hrow
      subst hNl
      refine Tryz.w23 a1 a2 a3 a4 a5 n1 c1 n2 c2 n3 c3 tb.length cap n5 c5 k1 k2 k3 k4 n' w tb _ (a53 hi ht hm) (icall_at xOK hi (g:=55) (by decide) (by simp) h55 (by
       simp only[RepL]
       exact⟨_,_,rfl,by simp only[Rep,RepL];exact⟨_,rfl,_,_,rfl,by simpa only[Rep] using ht,rfl⟩,rfl⟩)) h54 fun a wf hA=>?_
      have hh:Here L w w.heap.size 255 none (if 5≤k1 then st23l [.lst z1 r1 .no,.lst z2 r2 .no,.lst z3 r3 .no] sz rows [.int .i64 k1,.int .i64 k2,.int .i64 k3,.int .i64 k4,.lst z5 r5 .no] tb else st23 [.lst z1 r1 .no,.lst z2 r2 .no,.lst z3 r3 .no] sz rows [.int .i64 k1,.int .i64 k2,.int .i64 k3,.int .i64 k4,.lst z5 r5 .no] n' tb) a wf:=by
       split
       ·exact at_23l hi hp hm ht (by simp[cellU]) (by simp[cellU]) hN hA
       ·exact at_23 hi hp hm ht (by simp[cellU]) (by simp[cellU]) hrow hN hA
      refine tail_sound xOK (g:=23) (fn:=Tryz.f23) Tryz.func23 (by simp) (nt:=255) (by decide) rest_ok ho hq ?_ (good_0 hi _ (by split <;> rfl)) hh
      intro v s' e
      subst e
      simp only[fin]at hq
      split at hq
      ·cases hq;cases h
      ·cases hq
     ·cases h
    ·cases h
  ·cases h
 ·cases h
end T
end
section
open Go Go.Proofs Go.Sym
namespace T
attribute [-simp] getElem?_pos
def fits (n:Int):Bool:=decide (-1048576≤n)&&decide (n≤1048576)
theorem e68 (n:Int):call X 68 [int n] [] []=some (.ret (.bool (fits n)),[],[]):=by
 rw[call_eq (by decide) (by simp)]
 by_cases h:(-1048576:Int)≤n
 ·simp[Tryz.func68,Tryz.f68,envOf,leave_pure,fits,h]
 ·simp[Tryz.func68,Tryz.f68,envOf,leave_pure,fits,h]
theorem ic68 (n:Int):icall X (call X) 68 [.int .i64 n]=some (.ret (.bool (fits n))):=icall_ret (by simp) (by simp) (e68 n) rfl rfl rfl
attribute [simp] ic68
def nrows (t:Tab):Nat:=(t.head?.getD []).length
theorem e39 (t:Tab):call X 39 [.agg [tabV t]] [] []=some (.ret (int (nrows t)),[],[]):=by
 rw[call_eq (by decide) (by simp)]
 cases t with
 |nil=>simp[Tryz.func39,Tryz.f39,envOf,leave_pure,nrows]
 |cons a r=>
  have h: ¬((r.length:Int)+1=0):=by omega
  simp[Tryz.func39,Tryz.f39,envOf,leave_pure,nrows,h]
theorem ic39 (t:Tab):icall X (call X) 39 [.agg [tabV t]]=some (.ret (int (nrows t))):=icall_ret (by simp) (by simp) (e39 t) rfl rfl rfl
def linValid (l:Lin):Bool:=l.C.all fits&&decide (l.C.length≤12)&&fits l.K
def S116 (l:Lin) (i:Nat) (_:Unit):St:=⟨[(1,.ptr 0 0 0),(6,ints l.C),(7,int l.C.length),(8,int i)],[⟨2,[l.cs],.box⟩],[],0⟩
def step116 (_:Nat) (_:Unit) (c:Int):Unit ⊕ Unit:=if fits c then .inl ()else .inr ()
theorem fold116 (l:List Int):∀i,foldS step116 i l ()=if l.all fits then .inl ()else .inr ():=by
 induction l with
 |nil=>intro i;rfl
 |cons c r ih=>
  intro i
  simp only[foldS,step116,List.all_cons]
  by_cases h:fits c=true <;> simp[h,ih]
theorem loop116 (l:Lin) (hl:l.C.length≤Max):∃o,(∀ s,s.gc [1,6,7,8] 1 0=S116 l 0 ()→loopE X 116 lb116_2 (St.gc [1,6,7,8] 1 0) s=some o)∧
  (l.C.all fits=true→∃e,o= .exit 0 ⟨e,[⟨2,[l.cs],.box⟩],[],0⟩∧get e 1= .ptr 0 0 0)∧(l.C.all fits=false→∃e,o= .ret ⟨(2,.bool false)::e,[⟨2,[l.cs],.box⟩],[],0⟩):=by
 obtain⟨o,h1,h2,h3⟩:=loop_list (X:=X) (f:=116) (lb:=lb116_2) (gc:=St.gc [1,6,7,8] 1 0) l.C (S116 l) (fun _ _=>True) step116 (fun _ o=>∃e,o= .exit 0 ⟨e,[⟨2,[l.cs],.box⟩],[],0⟩∧get e 1= .ptr 0 0 0) (fun _ o=>∃e,o= .ret ⟨(2,.bool false)::e,[⟨2,[l.cs],.box⟩],[],0⟩)
  (fun b _=>by simp[lb116_2,Tryz.f116,S116,stops]) (fun i c b hc _=>by
   have hi:=(List.getElem?_eq_some_iff.1 hc).1
   have hw:=wrap_nat i (by simp[Max]at hl;omega)
   by_cases hf:fits c=true
   ·simp[step116,lb116_2,Tryz.f116,S116,stops,hc,hi,hw,hf]
   ·simp[step116,lb116_2,Tryz.f116,S116,stops,hc,hi,hw,hf]) 0 () (Nat.zero_le _) trivial
 rw[List.drop_zero,fold116]at h2 h3
 refine⟨o,h1,fun h=>(h2 () (by simp[h])).1,fun h=>h3 () (by simp[h])⟩
theorem e116 (l:Lin) (hl:l.C.length≤Max):call X 116 [.agg l.cs] [] []=some (.ret (.bool (linValid l)),[],[]):=by
 rw[call_eq (by decide) (by simp)]
 obtain⟨o,h1,h2,h3⟩:=loop116 l hl
 simp only[lb116_2,Tryz.f116,S116,bodyOf_some,sub_seq0,sub_seq1,sub_block,sub_loop,sub_nil]at h1
 by_cases h:l.C.all fits=true
 ·obtain⟨e,rfl,he⟩:=h2 h
  by_cases hn:(l.C.length:Int)≤12
  ·have hn':l.C.length≤12:=by omega
   simp[hn',Tryz.func116,Tryz.f116,envOf,ex_loop,firstReg,h1,he,h,hn,linValid,leave_pure]
  ·have hn': ¬l.C.length≤12:=by omega
   simp[hn',Tryz.func116,Tryz.f116,envOf,ex_loop,firstReg,h1,he,h,hn,linValid,leave_pure]
 ·obtain⟨e,rfl⟩:=h3 (by simpa using h)
  simp[Tryz.func116,Tryz.f116,envOf,ex_loop,firstReg,h1,h,linValid,leave_pure]
end T
end
