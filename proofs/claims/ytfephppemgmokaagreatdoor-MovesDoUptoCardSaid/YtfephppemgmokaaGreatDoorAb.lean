/- The law MovesDo of headlandlaw20 returns true, at arguments of the row's types whose lengths are at most uptoBulk: the program's Do and Back answer as the reference's do. Conditions: those of the given row (Rows.MovesDoUptoCardSaid), and no others. Part 2 of the proof. -/
import Derived.Test.YtfephppemgmokaaGreatDoorAa
import Derived.Shelf.Strings.OnBuilder
import Derived.Shelf.Strconv.Itoa3
import Derived.Shelf.Strings.Search3
import Derived.Test.YtfephppemgmokaaGreatDoorProg
import Derived.WalkKit
import Derived.BigCall
import Derived.Laws.AppendOwn
import Derived.Deep.AppendLies
import Derived.Deep.OwnRows
import Derived.Deep.RegionHeld3
import Derived.Deep.DrawnRows
set_option linter.unusedVariables false
set_option linter.unusedSimpArgs false
set_option linter.unusedSectionVars false
section
namespace Go.Proofs
open Go.Shelf
def Tryz.lays156_ren:Go.Shelf.Ren:=⟨fun |156=>74 |165=>119 |166=>34 |169=>38 |240=>72 |241=>143 |276=>117 |277=>157 |n=>n,fun |31=>22 |9=>9 |3=>3 |4=>4 |0=>0 |20=>20 |72=>103 |76=>106 |70=>100 |37=>101 |75=>105 |127=>147 |164=>185 |5=>5 |80=>111 |n=>n,fun |n=>n⟩
theorem Tryz.lays156:Go.Proofs.Lays.n156 Tryz.prog Tryz.lays156_ren:={
 mixed:=by kernel_rfl
 f156:=Tryz.func74.trans (congrArg some (by kernel_rfl))
 f165:=Tryz.func119.trans (congrArg some (by kernel_rfl))
 f166:=Tryz.func34.trans (congrArg some (by kernel_rfl))
 f169:=Tryz.func38.trans (congrArg some (by kernel_rfl))
 f240:=Tryz.func72.trans (congrArg some (by kernel_rfl))
 f241:=Tryz.func143.trans (congrArg some (by kernel_rfl))
 f276:=Tryz.func117.trans (congrArg some (by kernel_rfl))
 f277:=Tryz.func157.trans (congrArg some (by kernel_rfl))
 t0:=Tryz.underlying0
 a0:=Tryz.isAgg0
 z0:=Tryz.sizeOf0
 v0:=Tryz.zeroValue0
 t3:=Tryz.underlying3
 a3:=Tryz.isAgg3
 z3:=Tryz.sizeOf3
 v3:=Tryz.zeroValue3
 t4:=Tryz.underlying4
 a4:=Tryz.isAgg4
 z4:=Tryz.sizeOf4
 v4:=Tryz.zeroValue4
 t9:=Tryz.underlying9
 a9:=Tryz.isAgg9
 z9:=Tryz.sizeOf9
 v9:=Tryz.zeroValue9
 t20:=Tryz.underlying20
 a20:=Tryz.isAgg20
 z20:=Tryz.sizeOf20
 v20:=Tryz.zeroValue20
 t31:=Tryz.underlying22
 a31:=Tryz.isAgg22
 z31:=Tryz.sizeOf22
 v31:=Tryz.zeroValue22
 t37:=Tryz.underlying101
 a37:=Tryz.isAgg101
 z37:=Tryz.sizeOf101
 v37:=Tryz.zeroValue101
 t70:=Tryz.underlying100
 a70:=Tryz.isAgg100
 z70:=Tryz.sizeOf100
 v70:=Tryz.zeroValue100
 t72:=Tryz.underlying103
 a72:=Tryz.isAgg103
 z72:=Tryz.sizeOf103
 v72:=Tryz.zeroValue103
 t75:=Tryz.underlying105
 a75:=Tryz.isAgg105
 z75:=Tryz.sizeOf105
 v75:=Tryz.zeroValue105
 t76:=Tryz.underlying106
 a76:=Tryz.isAgg106
 z76:=Tryz.sizeOf106
 v76:=Tryz.zeroValue106
 t127:=Tryz.underlying147
 a127:=Tryz.isAgg147
 z127:=Tryz.sizeOf147
 v127:=Tryz.zeroValue147
 t164:=Tryz.underlying185
 a164:=Tryz.isAgg185
 z164:=Tryz.sizeOf185
 v164:=Tryz.zeroValue185 }
theorem Tryz.Builder_Extra_156:Builder.Extra Tryz.prog Tryz.lays156_ren:={
 sizeBuilder:=by kernel_rfl
 liesBuilder:=by kernel_rfl
 t5:=Tryz.underlying5
 a5:=Tryz.isAgg5
 z5:=Tryz.sizeOf5
 v5:=Tryz.zeroValue5
 infoByte:=by kernel_rfl
 cellsByte:=by kernel_rfl
 sizeByte:=by kernel_rfl
 neB5:=by decide }
open Go.RowKit in
theorem Tryz.strings_Join (bk o c:Nat) (xs:List ByteArray) (sep:ByteArray) (w:World) (hcells:∀(j:Nat) x,xs[j]? =some x→w.cell? ⟨bk,o+j,none⟩=some (.string x)) (hbk:bk < w.heap.size) (hN:xs.length≤140737488355328) (hcap:xs.length≤c) (hlen:(Lib.join (xs.map (·.data.toList)) sep.data.toList).length≤140737488355328):
  Calls Tryz.prog 74 #[.slice (some ⟨bk,o,none⟩) xs.length c,.string sep] w fun e w'=>e= .returned (.string ⟨(Lib.join (xs.map (·.data.toList)) sep.data.toList).toArray⟩)∧Below w.heap.size w w':=Any.strings_Join Tryz.lays156 Tryz.Builder_Extra_156 bk o c xs sep w hcells hbk hN hcap hlen
def Tryz.lays171_ren:Go.Shelf.Ren:=⟨fun |171=>35 |243=>73 |246=>118 |283=>139 |284=>140 |285=>141 |286=>142 |129=>153 |317=>152 |318=>154 |319=>155 |320=>156 |337=>170 |338=>171 |n=>n,fun |3=>3 |9=>9 |2=>2 |4=>4 |171=>211 |0=>0 |53=>212 |37=>101 |5=>5 |173=>215 |212=>227 |51=>228 |20=>20 |213=>229 |46=>230 |232=>246 |233=>247 |n=>n,fun |17=>0 |18=>2 |19=>3 |n=>n⟩
theorem Tryz.lays171:Go.Proofs.Lays.n171 Tryz.prog Tryz.lays171_ren:={
 mixed:=by kernel_rfl
 f129:=Tryz.func153.trans (congrArg some (by kernel_rfl))
 f171:=Tryz.func35.trans (congrArg some (by kernel_rfl))
 f243:=Tryz.func73.trans (congrArg some (by kernel_rfl))
 f246:=Tryz.func118.trans (congrArg some (by kernel_rfl))
 f283:=Tryz.func139.trans (congrArg some (by kernel_rfl))
 f284:=Tryz.func140.trans (congrArg some (by kernel_rfl))
 f285:=Tryz.func141.trans (congrArg some (by kernel_rfl))
 f286:=Tryz.func142.trans (congrArg some (by kernel_rfl))
 f317:=Tryz.func152.trans (congrArg some (by kernel_rfl))
 f318:=Tryz.func154.trans (congrArg some (by kernel_rfl))
 f319:=Tryz.func155.trans (congrArg some (by kernel_rfl))
 f320:=Tryz.func156.trans (congrArg some (by kernel_rfl))
 f337:=Tryz.func170.trans (congrArg some (by kernel_rfl))
 f338:=Tryz.func171.trans (congrArg some (by kernel_rfl))
 t0:=Tryz.underlying0
 a0:=Tryz.isAgg0
 z0:=Tryz.sizeOf0
 v0:=Tryz.zeroValue0
 t2:=Tryz.underlying2
 a2:=Tryz.isAgg2
 z2:=Tryz.sizeOf2
 v2:=Tryz.zeroValue2
 t3:=Tryz.underlying3
 a3:=Tryz.isAgg3
 z3:=Tryz.sizeOf3
 v3:=Tryz.zeroValue3
 t4:=Tryz.underlying4
 a4:=Tryz.isAgg4
 z4:=Tryz.sizeOf4
 v4:=Tryz.zeroValue4
 t5:=Tryz.underlying5
 a5:=Tryz.isAgg5
 z5:=Tryz.sizeOf5
 v5:=Tryz.zeroValue5
 t9:=Tryz.underlying9
 a9:=Tryz.isAgg9
 z9:=Tryz.sizeOf9
 v9:=Tryz.zeroValue9
 t20:=Tryz.underlying20
 a20:=Tryz.isAgg20
 z20:=Tryz.sizeOf20
 v20:=Tryz.zeroValue20
 t37:=Tryz.underlying101
 a37:=Tryz.isAgg101
 z37:=Tryz.sizeOf101
 v37:=Tryz.zeroValue101
 t46:=Tryz.underlying230
 a46:=Tryz.isAgg230
 z46:=Tryz.sizeOf230
 v46:=Tryz.zeroValue230
 t51:=Tryz.underlying228
 a51:=Tryz.isAgg228
 z51:=Tryz.sizeOf228
 v51:=Tryz.zeroValue228
 t53:=Tryz.underlying212
 a53:=Tryz.isAgg212
 z53:=Tryz.sizeOf212
 v53:=Tryz.zeroValue212
 t171:=Tryz.underlying211
 a171:=Tryz.isAgg211
 z171:=Tryz.sizeOf211
 v171:=Tryz.zeroValue211
 t173:=Tryz.underlying215
 a173:=Tryz.isAgg215
 z173:=Tryz.sizeOf215
 v173:=Tryz.zeroValue215
 t212:=Tryz.underlying227
 a212:=Tryz.isAgg227
 z212:=Tryz.sizeOf227
 v212:=Tryz.zeroValue227
 t213:=Tryz.underlying229
 a213:=Tryz.isAgg229
 z213:=Tryz.sizeOf229
 t232:=Tryz.underlying246
 a232:=Tryz.isAgg246
 z232:=Tryz.sizeOf246
 v232:=Tryz.zeroValue246
 t233:=Tryz.underlying247
 a233:=Tryz.isAgg247
 z233:=Tryz.sizeOf247
 v233:=Tryz.zeroValue247
 g17:=by kernel_rfl
 g18:=by kernel_rfl
 g19:=by kernel_rfl }
open Go.RowKit Go.Sort Go.Lib in
theorem Tryz.strconv_Itoa_small (i:Nat) (hi:i < 100) (w:World):
  Calls Tryz.prog 35 #[.int .i64 i] w fun e w'=>e= .returned (.string ⟨(Lib.decDigits i).toArray⟩)∧w'=w:=Any.strconv_Itoa_small Tryz.lays171 i hi w
def Tryz.lays144_ren:Go.Shelf.Ren:=⟨fun |144=>168 |143=>174 |219=>175 |217=>176 |225=>177 |224=>178 |267=>179 |266=>180 |314=>181 |n=>n,fun |9=>9 |4=>4 |3=>3 |5=>5 |46=>230 |146=>249 |51=>228 |n=>n,fun |1=>1 |n=>n⟩
theorem Tryz.lays144:Go.Proofs.Lays.n144 Tryz.prog Tryz.lays144_ren:={
 mixed:=by kernel_rfl
 f143:=Tryz.func174.trans (congrArg some (by kernel_rfl))
 f144:=Tryz.func168.trans (congrArg some (by kernel_rfl))
 f217:=Tryz.func176.trans (congrArg some (by kernel_rfl))
 f219:=Tryz.func175.trans (congrArg some (by kernel_rfl))
 f224:=Tryz.func178.trans (congrArg some (by kernel_rfl))
 f225:=Tryz.func177.trans (congrArg some (by kernel_rfl))
 f266:=Tryz.func180.trans (congrArg some (by kernel_rfl))
 f267:=Tryz.func179.trans (congrArg some (by kernel_rfl))
 f314:=Tryz.func181.trans (congrArg some (by kernel_rfl))
 t3:=Tryz.underlying3
 a3:=Tryz.isAgg3
 z3:=Tryz.sizeOf3
 v3:=Tryz.zeroValue3
 t4:=Tryz.underlying4
 a4:=Tryz.isAgg4
 z4:=Tryz.sizeOf4
 v4:=Tryz.zeroValue4
 t5:=Tryz.underlying5
 a5:=Tryz.isAgg5
 z5:=Tryz.sizeOf5
 v5:=Tryz.zeroValue5
 t9:=Tryz.underlying9
 a9:=Tryz.isAgg9
 z9:=Tryz.sizeOf9
 v9:=Tryz.zeroValue9
 t46:=Tryz.underlying230
 a46:=Tryz.isAgg230
 z46:=Tryz.sizeOf230
 v46:=Tryz.zeroValue230
 t51:=Tryz.underlying228
 a51:=Tryz.isAgg228
 z51:=Tryz.sizeOf228
 v51:=Tryz.zeroValue228
 t146:=Tryz.underlying249
 a146:=Tryz.isAgg249
 z146:=Tryz.sizeOf249
 v146:=Tryz.zeroValue249
 g1:=by kernel_rfl }
open Go.RowKit Go.Lib in
theorem Tryz.strings_Contains (s sub:ByteArray) (m:Int) (w:World) (hs:s.size < 4294967281) (hm:w.cell? ⟨1,0,none⟩=some (.int .i64 m)):
  Calls Tryz.prog 168 #[.string s,.string sub] w fun e w'=>e= .returned (.bool (Lib.contains s.data.toList sub.data.toList))∧w'=w:=Any.strings_Contains Tryz.lays144 s sub m w hs hm
end Go.Proofs
end
section
namespace Go.Proofs
open Go.RowKit
theorem Tryz.bWrite (B b:Nat) (bs:List Value) (s:ByteArray) (w:World) (h:Lib.IsBuilder 103 5 B b bs w) (hlen:bs.length+s.size≤140737488355328) (hBw:B≤w.heap.size):
    Calls Tryz.prog 34 #[.pointer (some ⟨b,0,none⟩),.string s] w fun e w'=>e= .returned (.tuple #[.int .i64 s.size,.nilIface])∧(Lib.IsBuilder 103 5 B b (bs++Lib.strCells s) w'∧Below B w w'):=
  (Any.Builder_WriteString { Tryz.lays156 with } Tryz.Builder_Extra_156 B b bs s w h hlen hBw).mono fun _ _ h=>⟨h.1,.inr h.2.1,h.2.2⟩
theorem Tryz.bString (B b:Nat) (l:List UInt8) (w:World) (h:Lib.IsBuilder 103 5 B b (Lib.byteCells l) w) (hBw:B≤w.heap.size):
    Calls Tryz.prog 38 #[.pointer (some ⟨b,0,none⟩)] w fun e w'=>e= .returned (.string ⟨l.toArray⟩)∧Below B w w':=
  Any.Builder_String_any { Tryz.lays156 with } Tryz.Builder_Extra_156 B b l w h hBw
set_option maxHeartbeats 1000000 in
set_option maxRecDepth 100000 in
theorem Tryz.bLen (B b:Nat) (bs:List Value) (w:World) (h:Lib.IsBuilder 103 5 B b bs w):
    Calls Tryz.prog 37 #[.pointer (some ⟨b,0,none⟩)] w fun e w'=>e= .returned (.int .i64 bs.length)∧w'=w:=by
  obtain⟨p,hB,v,hbk,hown,hne⟩:∃p,Lib.BuilderAt 103 5 B b p bs w:=by
    rcases h with h |h
    · exact⟨_,h⟩
    · exact⟨_,h⟩
  obtain⟨ao,cap,rfl⟩:∃ao cap,v= .slice ao bs.length cap:=by
    rcases hown.2 with⟨hv,h0⟩ |⟨g,cap,cur,hv,_⟩
    · exact⟨none,0,by rw[hv,h0]⟩
    · exact⟨_,_,hv⟩
  have c1:w.cell? ⟨b,1,none⟩=some (.slice ao bs.length cap):=by rw[Lib.cell_of_heap hbk];rfl
  have mixed:Tryz.prog.follows .mixedOrders=true:=by kernel_rfl
  go_enter Tryz.func37,Tryz.ntmps37
  go_wp2
  go_ret
  exact⟨rfl,rfl⟩
theorem Tryz.bKeep {B b:Nat} {bs:List Value} {w w':World} (h:Lib.IsBuilder 103 5 B b bs w) (hb:Below w.heap.size w w'):Lib.IsBuilder 103 5 B b bs w':=by
  have go:∀{p},Lib.BuilderAt 103 5 B b p bs w→Lib.BuilderAt 103 5 B b p bs w':=fun {p} h=>by
    obtain⟨hB,v,hbk,hown,hne⟩:=h
    refine⟨hB,v,by rw[hb.block b (Array.getElem?_eq_some_iff.1 hbk).1];exact hbk,⟨hown.1,?_⟩,hne⟩
    rcases hown.2 with h |⟨g,cap,cur,h1,h2,h3,h4⟩
    · exact .inl h
    · exact .inr ⟨g,cap,cur,h1,h2,by rw[hb.block g (Array.getElem?_eq_some_iff.1 h3).1];exact h3,h4⟩
  exact h.imp go go
set_option maxHeartbeats 4000000 in
set_option maxRecDepth 100000 in
theorem Tryz.text_walk (a b c:Value) (g p cap g2 p2 cap2:Nat) (ad1 ad2:Option Addr) (n1 cp1 n2 cp2:Nat) (k1 d1 k2 d2:Int) (s1 s2:ByteArray) (w:World)
    (hg:g < w.heap.size) (hg2:g2 < w.heap.size) (hcap:1≤cap) (hcap2:2≤cap2)
    (h0:w.cell? ⟨g,p,none⟩=some (.slice (some ⟨g2,p2,none⟩) 2 cap2))
    (h1:w.cell? ⟨g2,p2,none⟩=some (.slice ad1 n1 cp1)) (h2:w.cell? ⟨g2,p2+1,none⟩=some (.int .i64 k1)) (h3:w.cell? ⟨g2,p2+2,none⟩=some (.int .i64 d1))
    (h4:w.cell? ⟨g2,p2+3,none⟩=some (.slice ad2 n2 cp2)) (h5:w.cell? ⟨g2,p2+4,none⟩=some (.int .i64 k2)) (h6:w.cell? ⟨g2,p2+5,none⟩=some (.int .i64 d2))
    (hs1:s1.size≤1000) (hs2:s2.size≤1000)
    (h33:∀w',Below w.heap.size w w'→Calls Tryz.prog 33 #[.agg #[a,b,c],.agg #[.slice (some ⟨g,p,none⟩) 1 cap]] w' fun e w''=>e= .returned (.int .i64 0)∧Below w'.heap.size w' w'')
    (h36a:∀w',Below w.heap.size w w'→Calls Tryz.prog 36 #[.agg #[.slice ad1 n1 cp1,.int .i64 k1,.int .i64 d1]] w' fun e w''=>e= .returned (.string s1)∧Below w'.heap.size w' w'')
    (h36b:∀w',Below w.heap.size w w'→Calls Tryz.prog 36 #[.agg #[.slice ad2 n2 cp2,.int .i64 k2,.int .i64 d2]] w' fun e w''=>e= .returned (.string s2)∧Below w'.heap.size w' w''):
    Calls Tryz.prog 18 #[.agg #[a,b,c],.agg #[.slice (some ⟨g,p,none⟩) 1 cap]] w fun e w'=>
      e= .returned (.tuple #[.string ⟨(83::48::58::(s1.data.toList++(s2.data.toList++[10]))).toArray⟩,.int .i64 0])∧Below w.heap.size w w':=by
  have mixed:Tryz.prog.follows .mixedOrders=true:=by kernel_rfl
  go_enter Tryz.func18,Tryz.ntmps18
  go_wp2_with (go_at_call 33;refine(h33 _ ?hb).mono ?_)
  case hb=>exact((Below.refl _ w).alloc (Nat.le_refl _) _).alloc (by simp) _
  rintro e w1 ⟨rfl,hb1⟩
  have hz:w.heap.size+2≤w1.heap.size:=by have:=hb1.size;simpa using this
  have H1:=Any.hidJ (((Below.refl _ w).alloc (Nat.le_refl _) _).alloc (by simp) _ |>.trans (hb1.mono (by simp;omega)))
  have cS:(w1.alloc (.cells #[.pointer none,.slice none 0 0] 103)).cell? ⟨w.heap.size+1,0,none⟩=some (.slice (some ⟨g,p,none⟩) 1 cap):=by
    rw[World.cell?_alloc_past _ _ _ (by omega),hb1.cell (p:=⟨w.heap.size+1,0,none⟩) (by simp)]
    exact World.cell?_alloc_at _ _ _ _ (by simp)
  have HB0:=Any.hidJ (Lib.fresh_isBuilder 103 5 w1)
  have HW0:=Any.hidJ (H1.out.alloc (by omega:w.heap.size≤w1.heap.size) (.cells #[.pointer none,.slice none 0 0] 103))
  clear hb1
  go_wp2_with fail
  go_loopw [21] (fun i wr=>Hid (Below w.heap.size w wr)∧((i= .int .i64 0∧Hid (Lib.IsBuilder 103 5 w1.heap.size w1.heap.size [] wr))∨(i= .int .i64 1∧Hid (Lib.IsBuilder 103 5 w1.heap.size w1.heap.size (Lib.byteCells ([83,48,58]++s1.data.toList++s2.data.toList++[10])) wr)))) (fun i _=>1-(intOf i).toNat)
  case atStart=>exact⟨HW0,.inl ⟨rfl,HB0⟩⟩
  case round=>
    obtain⟨HW,⟨rfl,HB⟩ |⟨rfl,HB⟩⟩:=hrel
    · have hBw:w1.heap.size≤wr.heap.size:=by
        have:∀q,Lib.BuilderAt 103 5 w1.heap.size w1.heap.size q [] wr→w1.heap.size≤wr.heap.size:=fun q h=>by
          obtain⟨_,v,hb,_⟩:=h
          exact Nat.le_of_lt (Array.getElem?_eq_some_iff.1 hb).1
        exact HB.out.elim (this _) (this _)
      have r0:wr.cell? ⟨g,p,none⟩=some (.slice (some ⟨g2,p2,none⟩) 2 cap2):=by rw[HW.out.cell (p:=⟨g,p,none⟩) hg];exact h0
      have hItoa:∀w',Calls Tryz.prog 35 #[.int .i64 0] w' fun e w''=>e= .returned (.string ⟨#[48]⟩)∧w''=w':=fun w'=>by
        have h:=Tryz.strconv_Itoa_small 0 (by decide) w'
        have e:Lib.decDigits 0=[48]:=by kernel_rfl
        rwa[e]at h
      go_wp2_with (go_at_call 35;refine(hItoa _).mono ?_)
      rintro e w2 ⟨rfl,rfl⟩
      go_wp2_with (go_at_call 34;refine(Tryz.bWrite w1.heap.size w1.heap.size [] _ _ HB.out (by decide) hBw).mono ?_)
      rintro e w3 ⟨rfl,h3,hb3⟩
      have e3:([]:List Value)++Lib.strCells (⟨#[83]⟩++⟨#[48]⟩++⟨#[58]⟩)=Lib.byteCells [83,48,58]:=by rfl
      rw[e3]at h3
      have HB3:=Any.hidJ h3
      have HW3:=Any.hidJ (HW.out.trans (hb3.mono (by omega)))
      have hB3w:w1.heap.size≤w3.heap.size:=Nat.le_trans hBw hb3.size
      clear h3 hb3 e3
      go_wp2_with fail
      go_loopw [33] (fun j wr2=>Hid (Below w.heap.size w wr2)∧Hid (w1.heap.size≤wr2.heap.size)∧((j= .int .i64 0∧Hid (Lib.IsBuilder 103 5 w1.heap.size w1.heap.size (Lib.byteCells [83,48,58]) wr2))∨
        (j= .int .i64 1∧Hid (Lib.IsBuilder 103 5 w1.heap.size w1.heap.size (Lib.byteCells ([83,48,58]++s1.data.toList)) wr2))∨
        (j= .int .i64 2∧Hid (Lib.IsBuilder 103 5 w1.heap.size w1.heap.size (Lib.byteCells ([83,48,58]++s1.data.toList++s2.data.toList)) wr2)))) (fun j _=>2-(intOf j).toNat)
      case atStart=>exact⟨HW3,hB3w,.inl ⟨rfl,HB3⟩⟩
      case round=>
        obtain⟨HW4,hw4,⟨rfl,HB4⟩ |⟨rfl,HB4⟩ |⟨rfl,HB4⟩⟩:=hrel
        · have q1:wr.cell? ⟨g2,p2,none⟩=some (.slice ad1 n1 cp1):=by rw[HW4.out.cell (p:=⟨g2,p2,none⟩) hg2];exact h1
          have q2:wr.cell? ⟨g2,p2+1,none⟩=some (.int .i64 k1):=by rw[HW4.out.cell (p:=⟨g2,p2+1,none⟩) hg2];exact h2
          have q3:wr.cell? ⟨g2,p2+2,none⟩=some (.int .i64 d1):=by rw[HW4.out.cell (p:=⟨g2,p2+2,none⟩) hg2];exact h3
          go_wp2_with (go_at_call 36;refine(h36a _ ?hb).mono ?_)
          case hb=>exact HW4.out.alloc HW4.out.size _
          rintro e w5 ⟨rfl,hb5⟩
          have HB5:=Any.hidJ (Tryz.bKeep (Tryz.bKeep HB4.out ((Below.refl _ wr).alloc (Nat.le_refl _) _)) hb5)
          have HW5:=Any.hidJ ((HW4.out.alloc HW4.out.size _).trans (hb5.mono (by simp;have:=HW4.out.size;omega)))
          have hw5:w1.heap.size≤w5.heap.size:=by have h1:w1.heap.size≤wr.heap.size:=hw4;have h2:=hb5.size;simp at h2;omega
          clear hb5
          go_wp2_with (go_at_call 34;refine(Tryz.bWrite w1.heap.size w1.heap.size _ s1 _ HB5.out (by simp[Lib.byteCells_length];have a1:s1.data.size=s1.size:=rfl;have a2:s2.data.size=s2.size:=rfl;have a3:(⟨#[10]⟩:ByteArray).size=1:=rfl;omega) hw5).mono ?_)
          rintro e w6 ⟨rfl,h6,hb6⟩
          have e6:Lib.byteCells ([83,48,58])++Lib.strCells s1=Lib.byteCells ([83,48,58]++s1.data.toList):=by rw[Lib.strCells_eq,←Lib.byteCells_append]
          rw[e6]at h6
          have HB6:=Any.hidJ h6
          have HW6:=Any.hidJ (HW5.out.trans (hb6.mono (by omega)))
          have hw6:=Any.hidJ (Nat.le_trans hw5 hb6.size)
          clear h6 hb6 e6
          go_wp2
          exact⟨⟨HW6,hw6,.inr <| .inl ⟨by go_num,HB6⟩⟩,by simp[intOf]⟩
        · have q1:wr.cell? ⟨g2,p2+3,none⟩=some (.slice ad2 n2 cp2):=by rw[HW4.out.cell (p:=⟨g2,p2+3,none⟩) hg2];exact h4
          have q2:wr.cell? ⟨g2,p2+3+1,none⟩=some (.int .i64 k2):=by rw[HW4.out.cell (p:=⟨g2,p2+3+1,none⟩) hg2];exact h5
          have q3:wr.cell? ⟨g2,p2+3+2,none⟩=some (.int .i64 d2):=by rw[HW4.out.cell (p:=⟨g2,p2+3+2,none⟩) hg2];exact h6
          go_wp2_with (go_at_call 36;refine(h36b _ ?hb).mono ?_)
          case hb=>exact HW4.out.alloc HW4.out.size _
          rintro e w5 ⟨rfl,hb5⟩
          have HB5:=Any.hidJ (Tryz.bKeep (Tryz.bKeep HB4.out ((Below.refl _ wr).alloc (Nat.le_refl _) _)) hb5)
          have HW5:=Any.hidJ ((HW4.out.alloc HW4.out.size _).trans (hb5.mono (by simp;have:=HW4.out.size;omega)))
          have hw5:w1.heap.size≤w5.heap.size:=by have h1:w1.heap.size≤wr.heap.size:=hw4;have h2:=hb5.size;simp at h2;omega
          clear hb5
          go_wp2_with (go_at_call 34;refine(Tryz.bWrite w1.heap.size w1.heap.size _ s2 _ HB5.out (by simp[Lib.byteCells_length];have a1:s1.data.size=s1.size:=rfl;have a2:s2.data.size=s2.size:=rfl;have a3:(⟨#[10]⟩:ByteArray).size=1:=rfl;omega) hw5).mono ?_)
          rintro e w6 ⟨rfl,h6,hb6⟩
          have e6:Lib.byteCells ([83,48,58]++s1.data.toList)++Lib.strCells s2=Lib.byteCells ([83,48,58]++s1.data.toList++s2.data.toList):=by rw[Lib.strCells_eq,←Lib.byteCells_append]
          rw[e6]at h6
          have HB6:=Any.hidJ h6
          have HW6:=Any.hidJ (HW5.out.trans (hb6.mono (by omega)))
          have hw6:=Any.hidJ (Nat.le_trans hw5 hb6.size)
          clear h6 hb6 e6
          go_wp2
          exact⟨⟨HW6,hw6,.inr <| .inr ⟨by go_num,HB6⟩⟩,by simp[intOf]⟩
        · go_wp2_with (go_at_call 34;refine(Tryz.bWrite w1.heap.size w1.heap.size (Lib.byteCells ([83,48,58]++s1.data.toList++s2.data.toList)) ⟨#[10]⟩ wr HB4.out (by simp[Lib.byteCells_length];have a1:s1.data.size=s1.size:=rfl;have a2:s2.data.size=s2.size:=rfl;have a3:(⟨#[10]⟩:ByteArray).size=1:=rfl;omega) hw4).mono ?_)
          rintro e w6 ⟨rfl,h6,hb6⟩
          have e6:Lib.byteCells ([83,48,58]++s1.data.toList++s2.data.toList)++Lib.strCells ⟨#[10]⟩=Lib.byteCells ([83,48,58]++s1.data.toList++s2.data.toList++[10]):=by rw[Lib.strCells_eq,←Lib.byteCells_append]
          rw[e6]at h6
          have HB6:=Any.hidJ h6
          have HW6:=Any.hidJ (HW4.out.trans (hb6.mono (by have:=H1.out.size;omega)))
          clear h6 hb6 e6
          go_wp2
          exact⟨⟨HW6,.inr ⟨by go_num,HB6⟩⟩,by simp[intOf]⟩
    · have hBw:w1.heap.size≤wr.heap.size:=by
        have:∀q x,Lib.BuilderAt 103 5 w1.heap.size w1.heap.size q x wr→w1.heap.size≤wr.heap.size:=fun q x h=>by
          obtain⟨_,v,hb,_⟩:=h
          exact Nat.le_of_lt (Array.getElem?_eq_some_iff.1 hb).1
        exact HB.out.elim (this _ _) (this _ _)
      have hl:(Lib.byteCells ([83,48,58]++s1.data.toList++s2.data.toList++[10])).length≤2004:=by simp[Lib.byteCells_length];have a1:s1.data.size=s1.size:=rfl;have a2:s2.data.size=s2.size:=rfl;have a3:(⟨#[10]⟩:ByteArray).size=1:=rfl;omega
      go_wp2_with (go_at_call 37;refine(Tryz.bLen w1.heap.size w1.heap.size (Lib.byteCells ([83,48,58]++s1.data.toList++s2.data.toList++[10])) wr HB.out).mono ?_)
      rintro e w2 ⟨rfl,rfl⟩
      have hl2:((Lib.byteCells ([83,48,58]++s1.data.toList++s2.data.toList++[10])).length:Int)≤16384:=by omega
      generalize (Lib.byteCells ([83,48,58]++s1.data.toList++s2.data.toList++[10])).length=LL at hl hl2 ⊢
      go_wp2_with (go_at_call 38;refine(Tryz.bString w1.heap.size w1.heap.size ([83,48,58]++s1.data.toList++s2.data.toList++[10]) w2 HB.out hBw).mono ?_)
      rintro e w7 ⟨rfl,hb7⟩
      go_wp2
      go_ret2
      exact⟨rfl,HW.out.trans (hb7.mono (by have:=H1.out.size;omega))⟩
end Go.Proofs
end
section
namespace Go.Proofs
open Go.RowKit
abbrev R3:=List Int×Int×Int
def RdE (w:World) (G q:Nat) (x:R3):Prop:=∃a cc,w.cell? ⟨G,q,none⟩=some (.slice a x.1.length cc)∧w.cell? ⟨G,q+1,none⟩=some (.int .i64 x.2.1)∧w.cell? ⟨G,q+2,none⟩=some (.int .i64 x.2.2)∧x.1.length≤1000∧
  (x.1=[]∨∃h p,a=some ⟨h,p,none⟩∧h < w.heap.size∧∀i y,x.1[i]? =some y→w.cell? ⟨h,p+i,none⟩=some (.int .i64 y))
def RdRow (w:World) (n:Nat) (v:Value) (l:List R3):Prop:=∃G Q c,v= .slice (some ⟨G,Q,none⟩) n c∧n≤c∧c≤9223372036854775807∧G < w.heap.size∧l.length=n∧∀j x,l[j]? =some x→RdE w G (Q+j*3) x
def OwI (w:World) (B:Nat) (v:Value) (l:List Int):Prop:=w.ownsRow B 3 1 v l.length (l.map (Value.int .i64))
def Cells3 (w:World) (B:Nat):List Value→List R3→Prop
  | [],[]=>True
  |u::a::b::xs,x::r=>OwI w B u x.1∧a= .int .i64 x.2.1∧b= .int .i64 x.2.2∧Cells3 w B xs r
  |_,_=>False
def OwR (w:World) (B:Nat) (v:Value) (l:List R3):Prop:=∃xs,w.ownsRow B 54 3 v l.length xs∧Cells3 w B xs l
structure J54 (w0 wr:World) (cs:List Value) (pt:List (List R3)):Prop where
  below:Below w0.heap.size w0 wr
  blk:wr.heap[w0.heap.size+2]? =some (.cells cs.toArray 50 (0,0))
  var:wr.heap[w0.heap.size+3]? =some (.cells #[.slice (some ⟨w0.heap.size+2,0,none⟩) cs.length cs.length] 29 (0,0))
  res:wr.heap[w0.heap.size+1]? =some (.cells #[.slice none 0 0] 29 (0,0))
  len:cs.length=pt.length
  own:∀(k:Nat) u l,cs[k]? =some u→pt[k]? =some l→OwR wr w0.heap.size u l
  nil:∀(k:Nat) u,cs[k]? =some u→pt[k]? =some []→u= .slice none 0 0
  apart:∀(k k':Nat) u u',k≠k'→cs[k]? =some u→cs[k']? =some u'→u.ownBlock=none∨u.ownBlock≠u'.ownBlock
theorem Cells3.snoc {w:World} {B:Nat} {u:Value} {x:R3} (hu:OwI w B u x.1):∀{xs:List Value} {l:List R3},Cells3 w B xs l→Cells3 w B (xs++[u,.int .i64 x.2.1,.int .i64 x.2.2]) (l++[x])
  | [],[],_=>⟨hu,rfl,rfl,trivial⟩
  | [],_::_,h=>h.elim
  | [_],[],h=>h.elim
  | [_],_::_,h=>h.elim
  | [_,_],[],h=>h.elim
  | [_,_],_::_,h=>h.elim
  |_::_::_::_,[],h=>h.elim
  |_::_::_::xs,_::r,h=>⟨h.1,h.2.1,h.2.2.1,Cells3.snoc hu h.2.2.2⟩
theorem own_typed {w:World} {base:Nat} {e:TypeId} {size n:Nat} {v:Value} {xs:List Value} (h:w.ownsRow base e size v n xs) {k:Nat} (hk:v.ownBlock=some k):∃cur,w.heap[k]? =some (.cells cur e (0,0)):=by
  rcases h.2 with⟨rfl,_⟩ |⟨g,cap,cur,rfl,_,hg,_⟩
  · simp[Value.ownBlock]at hk
  · simp[Value.ownBlock]at hk
    subst hk
    exact⟨cur,hg⟩
def NotT (w:World) (row:Option Nat) (e:TypeId):Prop:=∀k,row=some k→∃cs e' z,w.heap[k]? =some (.cells cs e' z)∧e'≠e
theorem kept_of {w w':World} {base:Nat} {e:TypeId} {size n:Nat} {v:Value} {xs:List Value} {row:Option Nat} (h:w.ownsRow base e size v n xs) (hg:w.grownBy w' row) (hr:NotT w row e):w'.ownsRow base e size v n xs:=by
  refine h.kept hg ?_
  cases hv:v.ownBlock with
  |none=>exact .inl rfl
  |some k=>
    refine .inr fun e=>?_
    obtain⟨cur,h1⟩:=own_typed h hv
    obtain⟨cs,e',z,h2,h3⟩:=hr k e.symm
    rw[h1]at h2
    cases h2
    exact h3 rfl
theorem Cells3.kept {w w':World} {B:Nat} {row:Option Nat} (hg:w.grownBy w' row) (hr:NotT w row 3):∀{xs:List Value} {l:List R3},Cells3 w B xs l→Cells3 w' B xs l
  | [],[],_=>trivial
  | [],_::_,h=>h.elim
  | [_],[],h=>h.elim
  | [_],_::_,h=>h.elim
  | [_,_],[],h=>h.elim
  | [_,_],_::_,h=>h.elim
  |_::_::_::_,[],h=>h.elim
  |_::_::_::xs,_::r,h=>⟨kept_of h.1 hg hr,h.2.1,h.2.2.1,Cells3.kept hg hr h.2.2.2⟩
theorem OwR.kept {w w':World} {B:Nat} {v:Value} {l:List R3} {row:Option Nat} (h:OwR w B v l) (hg:w.grownBy w' row) (h3:NotT w row 3) (hne:v.ownBlock=none∨v.ownBlock≠row):OwR w' B v l:=by
  obtain⟨xs,h1,h2⟩:=h
  exact⟨xs,h1.kept hg hne,h2.kept hg h3⟩
theorem grown_below {w w':World} (h:Below w.heap.size w w'):w.grownBy w' none:=⟨h.os,h.tape,h.output,h.size,fun k hk _=>h.block k hk⟩
theorem below_grown {w w':World} {row:Option Nat} {B:Nat} (hg:w.grownBy w' row) (hr:∀k,row=some k→B≤k) (hB:B≤w.heap.size):Below B w w':=
  ⟨hg.os,hg.tape,hg.output,hg.size,fun k hk=>hg.block k (by omega) fun e=>by have:=hr k e.symm;omega⟩
theorem notT_none {w:World} {e:TypeId}:NotT w none e:=fun k hk=>by cases hk
theorem grown_set {w:World} {b:Nat} {cs:Array Value} {e:TypeId} (hb:w.heap[b]? =some (.cells cs e (0,0))) (o:Nat) (v:Value):
    w.grownBy (w.setCell ⟨b,o,none⟩ v) (some b)∧(w.setCell ⟨b,o,none⟩ v).heap[b]? =some (.cells (cs.setIfInBounds o v) e (0,0)):=by
  refine⟨⟨rfl,rfl,rfl,by simp[World.setCell],fun k _ hk=>?_⟩,?_⟩
  · have hk': ¬b=k:=fun e=>hk (by rw[e])
    simp[World.setCell,Array.getElem?_modify,hk']
  · simp[World.setCell,Array.getElem?_modify,hb]
theorem J54.step {w0 wr w1 w2:World} {cs:List Value} {pt:List (List R3)} (h:J54 w0 wr cs pt) (hb1:Below wr.heap.size wr w1) {k:Nat} {v:Value} {l:List R3} (hk:cs[k]? =some v) (hl:pt[k]? =some l) {m:Nat} (hlm:l.length=m)
    {xs:List Value} {g cap:Nat} {u:Value} {x:R3} (hx:w1.ownsRow w0.heap.size 54 3 v m xs) (hc:Cells3 w1 w0.heap.size xs l) (hu:OwI w1 w0.heap.size u x.1)
    (hown:w2.ownsRow w0.heap.size 54 3 (.slice (some ⟨g,0,none⟩) (m+1) cap) (m+1) (xs++[u,.int .i64 x.2.1,.int .i64 x.2.2]))
    (hg:w1.grownBy w2 v.ownBlock) (hat:v.ownBlock=some g∨g=w1.heap.size) (hw0:w0.heap.size+4≤wr.heap.size):
    J54 w0 (w2.setCell ⟨w0.heap.size+2,k,none⟩ (.slice (some ⟨g,0,none⟩) (m+1) cap)) (cs.set k (.slice (some ⟨g,0,none⟩) (m+1) cap)) (pt.set k (l++[x])):=by
  subst hlm
  have hne:∀{b:Nat} {c:Array Value} {e:TypeId},e≠54→wr.heap[b]? =some (.cells c e (0,0))→w2.heap[b]? =some (.cells c e (0,0)):=fun {b c e} he hb=>by
    have hb':=(hb1.block b (Array.getElem?_eq_some_iff.1 hb).1).trans hb
    rw[hg.block b (Array.getElem?_eq_some_iff.1 hb').1 fun e'=>?_]
    · exact hb'
    · obtain⟨cur,h1⟩:=own_typed hx e'.symm
      rw[h1]at hb'
      cases hb'
      exact he rfl
  have hblk:=hne (by decide) h.blk
  have hvar:=hne (by decide) h.var
  have hres:=hne (by decide) h.res
  obtain⟨hs1,hs2⟩:=grown_set hblk k (.slice (some ⟨g,0,none⟩) (l.length+1) cap)
  have n54:NotT w1 v.ownBlock 3:=fun b hb=>by
    obtain⟨cur,h1⟩:=own_typed hx hb
    exact⟨_,_,_,h1,by decide⟩
  have n50:∀{e:TypeId},e≠50→NotT w2 (some (w0.heap.size+2)) e:=fun he b hb=>by
    cases hb
    exact⟨_,_,_,hblk,fun e=>he e.symm⟩
  have hklt:k < cs.length:=(List.getElem?_eq_some_iff.1 hk).1
  have old:∀k' u l',k'≠k→cs[k']? =some u→pt[k']? =some l'→OwR (w2.setCell ⟨w0.heap.size+2,k,none⟩ (.slice (some ⟨g,0,none⟩) (l.length+1) cap)) w0.heap.size u l':=fun k' u l' hkk hcu hpl=>by
    have a1:=(h.own k' u l' hcu hpl).kept (grown_below hb1) notT_none (by cases u.ownBlock <;> simp)
    have a2:=a1.kept hg n54 (h.apart k' k u v hkk hcu hk)
    refine a2.kept hs1 (n50 (by decide)) ?_
    cases hv:u.ownBlock with
    |none=>exact .inl rfl
    |some b=>
      refine .inr fun e=>?_
      cases e
      obtain⟨xs',h1,_⟩:=a2
      obtain⟨cur,h1⟩:=own_typed h1 hv
      rw[hblk]at h1
      cases h1
  refine⟨h.below.trans ⟨hg.os.trans hb1.os,hg.tape.trans hb1.tape,hg.output.trans hb1.output,?_,fun b hb=>?_⟩,?_,?_,?_,by simp[h.len],fun k' u' l' hcu hpl=>?_,fun k' u' hcu hpl=>?_,fun k1 k2 u1 u2 hkk h1 h2=>?_⟩
  · exact Nat.le_trans hb1.size (Nat.le_trans hg.size hs1.size)
  · have hbr:b < wr.heap.size:=by omega
    rw[hs1.block b (Nat.lt_of_lt_of_le hbr (Nat.le_trans hb1.size hg.size)) (by simp;omega),hg.block b (Nat.lt_of_lt_of_le hbr hb1.size) fun e=>?_,hb1.block b hbr]
    have:=(hx.lt b e.symm).1
    omega
  · rw[hs2];simp
  · rw[hs1.block _ (Array.getElem?_eq_some_iff.1 hvar).1 (by simp)]
    simpa using hvar
  · rw[hs1.block _ (Array.getElem?_eq_some_iff.1 hres).1 (by simp)]
    exact hres
  · rw[List.getElem?_set]at hcu hpl
    by_cases e:k=k'
    · subst e
      rw[if_pos rfl,if_pos hklt]at hcu
      rw[if_pos rfl,if_pos (by rw[←h.len];exact hklt)]at hpl
      cases hcu
      cases hpl
      have hc2:=(hc.kept hg n54).snoc (u:=u) (x:=x) (kept_of hu hg n54)
      refine⟨xs++[u,.int .i64 x.2.1,.int .i64 x.2.2],?_,hc2.kept hs1 (n50 (by decide))⟩
      rw[List.length_append]
      exact kept_of hown hs1 (n50 (by decide))
    · rw[if_neg e]at hcu hpl
      exact old k' u' l' (fun e'=>e e'.symm) hcu hpl
  · rw[List.getElem?_set]at hcu hpl
    by_cases e:k=k'
    · subst e
      rw[if_pos rfl,if_pos (by rw[←h.len];exact hklt)]at hpl
      simp at hpl
    · rw[if_neg e]at hcu hpl
      exact h.nil k' u' hcu hpl
  · have new:∀(k2:Nat) u2,k≠k2→cs[k2]? =some u2→some g≠u2.ownBlock:=fun k2 u2 hkk h2 e=>by
      rcases hat with hat |hat
      · rcases h.apart k k2 v u2 hkk hk h2 with h0 |h0
        · rw[h0]at hat;cases hat
        · exact h0 (by rw[hat,e])
      · obtain⟨l2,hl2⟩:∃l2,pt[k2]? =some l2:=⟨_,List.getElem?_eq_getElem (by rw[←h.len];exact(List.getElem?_eq_some_iff.1 h2).1)⟩
        obtain⟨xs',h3,_⟩:=h.own k2 u2 l2 h2 hl2
        have h4:=(h3.lt g e.symm).2
        have h5:=hb1.size
        omega
    rw[List.getElem?_set]at h1 h2
    by_cases e1:k=k1
    · subst e1
      rw[if_pos rfl,if_pos hklt]at h1
      rw[if_neg hkk]at h2
      cases h1
      exact .inr (new k2 u2 hkk h2)
    · rw[if_neg e1]at h1
      by_cases e2:k=k2
      · subst e2
        rw[if_pos rfl,if_pos hklt]at h2
        cases h2
        refine .inr fun e=>new k1 u1 (Ne.symm hkk) h1 e.symm
      · rw[if_neg e2]at h2
        exact h.apart k1 k2 u1 u2 hkk h1 h2
theorem set_far (w:World) (b o:Nat) (v:Value) (a:Addr) (h:a.block≠b):(w.setCell ⟨b,o,none⟩ v).cell? a=w.cell? a:=by
  refine World.cell?_of_block ?_
  have hk': ¬b=a.block:=fun e=>h e.symm
  simp[World.setCell,Array.getElem?_modify,hk']
theorem made_one (N:Nat):madeCells #[.slice none 0 0] N=(List.replicate N (.slice none 0 0)).toArray:=by
  apply Array.ext
  · simp[madeCells]
  · intro i h1 h2
    simp[madeCells,Nat.mod_one]
theorem J54.start (w:World) (X0:Obj) (N:Nat):J54 w ((((w.alloc X0).alloc (.cells #[.slice none 0 0] 29)).alloc (.cells (madeCells #[.slice none 0 0] N) 50)).alloc
    (.cells #[.slice (some ⟨w.heap.size+1+1,0,none⟩) N N] 29)) (List.replicate N (.slice none 0 0)) (List.replicate N []):=by
  have s1:(w.alloc X0).heap.size=w.heap.size+1:=by simp
  have s2:((w.alloc X0).alloc (.cells #[.slice none 0 0] 29)).heap.size=w.heap.size+1+1:=by simp
  have s3:(((w.alloc X0).alloc (.cells #[.slice none 0 0] 29)).alloc (.cells (madeCells #[.slice none 0 0] N) 50)).heap.size=w.heap.size+1+1+1:=by simp
  refine⟨((((Below.refl _ w).alloc (Nat.le_refl _) _).alloc (by omega) _).alloc (by omega) _).alloc (by omega) _,?_,?_,?_,by simp,fun k u l hu hl=>?_,fun k u hu _=>?_,fun k k' u u' _ hu _=>?_⟩
  · rw[heap_alloc_old _ _ (by omega)]
    have:=heap_alloc_new ((w.alloc X0).alloc (.cells #[.slice none 0 0] 29)) (.cells (madeCells #[.slice none 0 0] N) 50)
    rw[s2]at this
    rw[←made_one]
    exact this
  · have:=heap_alloc_new (((w.alloc X0).alloc (.cells #[.slice none 0 0] 29)).alloc (.cells (madeCells #[.slice none 0 0] N) 50)) (.cells #[.slice (some ⟨w.heap.size+1+1,0,none⟩) N N] 29)
    rw[s3]at this
    rw[List.length_replicate]
    exact this
  · rw[heap_alloc_old _ _ (by omega),heap_alloc_old _ _ (by omega)]
    have:=heap_alloc_new (w.alloc X0) (.cells #[.slice none 0 0] 29)
    rw[s1]at this
    exact this
  · have h1:=List.eq_of_mem_replicate (List.mem_of_getElem? hu)
    have h2:=List.eq_of_mem_replicate (List.mem_of_getElem? hl)
    subst h1
    subst h2
    exact⟨[],World.ownsRow_nil _ _ _ _,trivial⟩
  · exact List.eq_of_mem_replicate (List.mem_of_getElem? hu)
  · have h1:=List.eq_of_mem_replicate (List.mem_of_getElem? hu)
    subst h1
    exact .inl rfl
structure Cop54 (w0 wr:World) (cs:List Value) (pt:List (List R3)):Prop where
  below:Below w0.heap.size w0 wr
  blk:wr.heap[w0.heap.size+2]? =some (.cells cs.toArray 50 (0,0))
  len:cs.length=pt.length
  own:∀(k:Nat) u l,cs[k]? =some u→pt[k]? =some l→OwR wr w0.heap.size u l
  nil:∀(k:Nat) u,cs[k]? =some u→pt[k]? =some []→u= .slice none 0 0
  apart:∀(k k':Nat) u u',k≠k'→cs[k]? =some u→cs[k']? =some u'→u.ownBlock=none∨u.ownBlock≠u'.ownBlock
theorem J54.final {w0 wr:World} {cs:List Value} {pt:List (List R3)} (h:J54 w0 wr cs pt) (v:Value):Cop54 w0 (wr.setCell ⟨w0.heap.size+1,0,none⟩ v) cs pt:=by
  obtain⟨hs1,hs2⟩:=grown_set h.res 0 v
  have n29:∀{e:TypeId},e≠29→NotT wr (some (w0.heap.size+1)) e:=fun he b hb=>by
    cases hb
    exact⟨_,_,_,h.res,fun e=>he e.symm⟩
  refine⟨h.below.trans ⟨hs1.os,hs1.tape,hs1.output,hs1.size,fun b hb=>?_⟩,?_,h.len,fun k u l hu hl=>?_,h.nil,h.apart⟩
  · have:=h.below.size
    exact hs1.block b (by omega) (by simp;omega)
  · rw[hs1.block _ (Array.getElem?_eq_some_iff.1 h.blk).1 (by simp)]
    exact h.blk
  · have a2:=h.own k u l hu hl
    refine a2.kept hs1 (n29 (by decide)) ?_
    cases hv:u.ownBlock with
    |none=>exact .inl rfl
    |some b=>
      refine .inr fun e=>?_
      cases e
      obtain⟨xs',h1,_⟩:=a2
      obtain⟨cur,h1⟩:=own_typed h1 hv
      rw[h.res]at h1
      cases h1
theorem pt_set {tb:List (List R3)} {k m:Nat} {l:List R3} {x:R3} {R:List (List R3)} (hk:k < tb.length) (hx:l[m]? =some x):
    (tb.take k++(l.take m::R)).set k (l.take m++[x])=tb.take k++(l.take (m+1)::R):=by
  have h1:(tb.take k).length=k:=by simp;omega
  have h2:l.take (m+1)=l.take m++[x]:=by rw[List.take_add_one,hx];rfl
  rw[List.set_append_right _ _ (by omega),h1,h2]
  simp
theorem step_append_none {P:Program} {w:World} {ops:Array Oper} {o:Oper} {a:Act} {K:Act→World→Prop} {Q:Exit→Act→World→Prop} {E:Prop} (hgd:o.guard=none) (s x:Operand) (t:TypeId)
    (ho:o.op= .call { callee:=.builtin .append,args:= #[s,x],argTypes:= #[t,t] }) (e:TypeId) (i:TypeInfo) (ht:P.underlying t=some (.slice e)) (hi:P.info? e=some i)
    (b:Option Addr) (n cap:Nat) (hs:a.eval s= .slice b n cap) (hn:n≤cap) (ad:Option Addr) (c:Nat) (hx:a.eval x= .slice ad 0 c)
    (h:K (a.put o.dst (.slice b n cap)) w):
    if Region.wanted o (yielded ops a.tmps)=true then Oper.wp P o a w K Q else E:=by
  have hw:Region.wanted o (yielded ops a.tmps)=true:=by simp[Region.wanted,hgd]
  rw[if_pos hw]
  have hc:∀w:World,(Builtin.firstCells i.size 0 (.slice ad 0 c)).run P w= .ok #[] w:=fun w=>by
    cases ad <;> simp[Builtin.firstCells,loadCells,loadCellsFrom]
  have hr:(Builtin.append_ #[t,t] o.type #[.slice b n cap,.slice ad 0 c]).run P w= .ok (.slice b n cap) w:=by
    have:=Sym.run_app_in (P:=P) (w:=w) (w':=w) (ts:= #[t,t]) (t:=t) (t2:=t) (et:=e) (inf:=i) rfl rfl ht hi (n:=n) (m:=0) (cap:=cap) (ad:=b) (y:=.slice ad 0 c) (us:=[]) (ty:=o.type)
      ⟨.inl ⟨_,ht⟩,fun _=>rfl,hc w,hc w.drew,by simp,fun u hu=>by cases hu⟩ (by omega) (fun b _=>rfl) (fun _=>rfl)
    simpa using this
  unfold Oper.wp execOp
  simp only[ho,resolve,invoke,builtin,Sem.run_bind,Sem.run_pure,Result.andThen_ok,List.map_toArray,List.map_cons,List.map_nil,hs,hx,hr]
  exact h
end Go.Proofs
end
section
namespace Go.Proofs
open Go.RowKit
attribute [local go_sem ↓] Go.wp_at_zero Go.wp_at_succ
def o41:Oper:=⟨some 41,.load 50 (.tmp 40),50,"ref.go:183",#[⟨6,.data⟩],none⟩
theorem o41_eq:(⟨some 41,.load 50 (.tmp 40),50,"ref.go:183",#[⟨6,.data⟩],none⟩:Oper)=o41:=rfl
attribute [local go_sem] o41
theorem Tryz.info50:(Tryz.prog.info? 50).map (fun i=>(i.zero,i.size,i.bytes))=some (some (.slice none 0 0),1,24):=by kernel_rfl
theorem Tryz.info54:(Tryz.prog.info? 54).map (fun i=>(i.zero,i.size,i.bytes))=some (some (.agg #[.slice none 0 0,.int .i64 0,.int .i64 0]),3,40):=by kernel_rfl
theorem Tryz.info3:(Tryz.prog.info? 3).map (fun i=>(i.zero,i.size,i.bytes))=some (some (.int .i64 0),1,8):=by kernel_rfl
theorem J54.cellV {w0 wr:World} {cs pt} (h:J54 w0 wr cs pt):wr.cell? ⟨w0.heap.size+1+1+1,0,none⟩=some (.slice (some ⟨w0.heap.size+1+1,0,none⟩) cs.length cs.length):=by
  rw[cell_of_row _ _ _ _ _ _ (show wr.heap[w0.heap.size+1+1+1]? =_ from h.var)];rfl
theorem J54.cellB {w0 wr:World} {cs pt} (h:J54 w0 wr cs pt) (k:Nat):wr.cell? ⟨w0.heap.size+1+1,k,none⟩=cs[k]? :=by
  rw[cell_of_row _ _ _ _ _ _ (show wr.heap[w0.heap.size+1+1]? =_ from h.blk)];simp
theorem J54.frz {w0 wr:World} {cs pt} (h:J54 w0 wr cs pt) (k:Nat):wr.frozen? ⟨w0.heap.size+1+1,k,none⟩=false:=by
  have:=h.blk
  simp[World.frozen?,this]
theorem J54.cellR {w0 wr:World} {cs pt} (h:J54 w0 wr cs pt):wr.cell? ⟨w0.heap.size+1,0,none⟩=some (.slice none 0 0):=by
  rw[cell_of_row _ _ _ _ _ _ (show wr.heap[w0.heap.size+1]? =_ from h.res)];rfl
theorem J54.frzR {w0 wr:World} {cs pt} (h:J54 w0 wr cs pt) (k:Nat):wr.frozen? ⟨w0.heap.size+1,k,none⟩=false:=by
  have:=h.res
  simp[World.frozen?,this]
set_option maxHeartbeats 4000000 in
set_option maxRecDepth 100000 in
theorem Tryz.w54 (g p cap N n:Nat) (w:World) (tb:List (List R3)) (hN:tb.length=N) (hN1:N≤1000) (hn:0 < n) (hn1:n≤1000) (hc:N≤cap) (hc1:cap≤9223372036854775807) (hg:g < w.heap.size)
    (hrows:∀k l,tb[k]? =some l→∃v,w.cell? ⟨g,p+k,none⟩=some v∧RdRow w n v l):
    Calls Tryz.prog 54 #[.agg #[.slice (some ⟨g,p,none⟩) N cap],.int .i64 0,.int .i64 n] w fun e w'=>
      e= .returned (.agg #[.slice (some ⟨w.heap.size+1+1,0,none⟩) N N])∧∃cs,Cop54 w w' cs tb:=by
  have mixed:Tryz.prog.follows .mixedOrders=true:=by kernel_rfl
  have hmk:=fun w=>run_make_row' (P:=Tryz.prog) 27 50 (.slice none 0 0) 24 (by rfl) Tryz.info50 (by rfl) .i64 .i64 N (by omega) (by omega) w
  obtain⟨i3,hi3,hz3,hs3,hb3⟩:=info_parts Tryz.info3
  obtain⟨i54,hi54,hz54,hs54,hb54⟩:=info_parts Tryz.info54
  have hrowsH:Hid (∀ k l,tb[k]? =some l→∃v,w.cell? ⟨g,p+k,none⟩=some v∧RdRow w n v l):=hrows
  clear hrows
  have h0':=Any.hidJ (J54.start w (Obj.cells #[Value.slice (some ⟨g,p,none⟩) N cap] 29) N)
  have hp0:(0:Int)≤(n:Int):=Int.natCast_nonneg _
  go_enter Tryz.func54,Tryz.ntmps54
  go_wp2_with fail
  go_loopw [20] (fun i wr=>∃k:Nat,k≤N∧i= .int .i64 k∧∃cs,cs.length=N∧Hid (J54 w wr cs (tb.take k++List.replicate (N-k) []))) (fun i _=>N-(intOf i).toNat)
  case atStart=>exact⟨0,Nat.zero_le _,rfl,List.replicate N (.slice none 0 0),List.length_replicate,h0'⟩
  case round=>
    obtain⟨k,hk,rfl,cs,hcs,HJ⟩:=hrel
    have cV:=HJ.out.cellV
    rw[hcs]at cV
    have cF:=HJ.out.cellR
    have cZ:=HJ.out.frzR 0
    rcases Nat.lt_or_eq_of_le hk with hk |hk
    · obtain⟨l,hl⟩:∃l,tb[k]? =some l:=⟨_,List.getElem?_eq_getElem (by omega)⟩
      obtain⟨v,hv,G,Q,c,rfl,hnc,hc9,hG,hln,hel⟩:=hrowsH.out k l hl
      have cR:wr.cell? ⟨g,p+k,none⟩=some (.slice (some ⟨G,Q,none⟩) n c):=by rw[HJ.out.below.cell (p:=⟨g,p+k,none⟩) hg];exact hv
      have hkI:(k:Int) < (N:Int):=by omega
      have hk0:(0:Int)≤(k:Int):=Int.natCast_nonneg _
      have hnI:(n:Int)≤(c:Int):=by omega
      clear hv
      go_wp2_with fail
      go_loopw [30] (fun j wr2=>∃m:Nat,m≤n∧j= .int .i64 m∧∃cs,cs.length=N∧Hid (J54 w wr2 cs (tb.take k++(l.take m::List.replicate (N-k-1) [])))) (fun j _=>n-(intOf j).toNat)
      case atStart=>exact⟨0,Nat.zero_le _,rfl,cs,hcs,by rw[List.take_zero,←List.replicate_succ,show N-k-1+1=N-k by omega];exact HJ⟩
      case round=>
        clear cV cF cZ HJ cR
        obtain⟨m,hm,rfl,cs,hcs,HJ⟩:=hrel
        have cV:=HJ.out.cellV
        rw[hcs]at cV
        rcases Nat.lt_or_eq_of_le hm with hm |hm
        · obtain⟨x,hx⟩:∃x,l[m]? =some x:=⟨_,List.getElem?_eq_getElem (by omega)⟩
          obtain⟨v,hv⟩:∃v,cs[k]? =some v:=⟨_,List.getElem?_eq_getElem (by omega)⟩
          obtain⟨a,cc,e1,e2,e3,e4,e5⟩:=hel m x hx
          have cB:=HJ.out.cellB k
          rw[hv]at cB
          have cZ:=HJ.out.frz k
          have f1:=(HJ.out.below.cell (p:=⟨G,Q+m*3,none⟩) hG).trans e1
          have f2:=(HJ.out.below.cell (p:=⟨G,Q+m*3+1,none⟩) hG).trans e2
          have f3:=(HJ.out.below.cell (p:=⟨G,Q+m*3+2,none⟩) hG).trans e3
          have hmI:(m:Int) < (n:Int):=by omega
          have hm0:(0:Int)≤(m:Int):=Int.natCast_nonneg _
          clear e1 e2 e3
          go_wp2_with fail
          have hpt:(tb.take k++(l.take m::List.replicate (N-k-1) []))[k]? =some (l.take m):=by
            rw[List.getElem?_append_right (by simp;omega)]
            simp[List.length_take,Nat.min_eq_left (by omega:k≤tb.length)]
          obtain⟨xs,hown,hcells⟩:=HJ.out.own k v _ hv hpt
          have hlm:(l.take m).length=m:=by simp;omega
          rw[hlm]at hown
          have s0:w.heap.size+1+1+1 < wr.heap.size:=World.block_lt_of_cell? wr ⟨_,0,none⟩ cV
          have s2:w.heap.size+1+1 < wr.heap.size:=by omega
          obtain⟨W,hW⟩:∃W,W=wr.alloc (Obj.cells #[Value.slice a x.fst.length cc,Value.int IntKind.i64 x.snd.fst,Value.int IntKind.i64 x.snd.snd] 54):=⟨_,rfl⟩
          have hWs:W.heap.size=wr.heap.size+1:=by rw[hW];simp
          have hWb:Below wr.heap.size wr W:=by rw[hW];exact(Below.refl _ _).alloc (Nat.le_refl _) _
          have gV:=(hWb.cell (p:=⟨w.heap.size+1+1+1,0,none⟩) s0).trans cV
          have gB:=(hWb.cell (p:=⟨w.heap.size+1+1,k,none⟩) (by show w.heap.size+1+1 < _;omega)).trans cB
          have g1:W.cell? ⟨wr.heap.size,0,none⟩=some (.slice a x.1.length cc):=by rw[hW];exact World.cell?_alloc_at _ _ _ _ (by simp)
          have g2:W.cell? ⟨wr.heap.size,1,none⟩=some (.int .i64 x.2.1):=by rw[hW];exact World.cell?_alloc_at _ _ _ _ (by simp)
          have g3:W.cell? ⟨wr.heap.size,2,none⟩=some (.int .i64 x.2.2):=by rw[hW];exact World.cell?_alloc_at _ _ _ _ (by simp)
          rw[←hW]
          have hownW:=hown.kept (grown_below hWb) (by cases v.ownBlock <;> simp)
          have hvlt:=fun b hb=>(hown.lt b hb).2
          have ne:∀(e:TypeId) (b:Nat) (c:Array Value),e≠54→wr.heap[b]? =some (.cells c e (0,0))→some b≠v.ownBlock:=fun e b c he hb e'=>by
            obtain⟨cur,h1⟩:=own_typed hown e'.symm
            rw[h1]at hb
            cases hb
            exact he rfl
          have neV:=ne 29 (w.heap.size+1+1+1) _ (by decide) HJ.out.var
          have neB:=ne 50 (w.heap.size+1+1) _ (by decide) HJ.out.blk
          have neR:some wr.heap.size≠v.ownBlock:=fun e=>by have:=hvlt _ e.symm;omega
          clear ne hvlt cV cB f1 f2 f3 hW
          have hb2:∀X Y,((W.alloc X).alloc Y).drew.heap[wr.heap.size+1+1]? =some Y:=fun X Y=>by
            have:=heap_alloc_new (W.alloc X) Y
            rw[show (W.alloc X).heap.size=wr.heap.size+1+1 by simp[hWs]]at this
            exact this
          have hBk:∀X Y,((W.alloc X).alloc Y).drew.heap[w.heap.size+1+1]? =wr.heap[w.heap.size+1+1]? :=fun X Y=>by
            have h1:=heap_alloc_old (W.alloc X) Y (r:=w.heap.size+1+1) (by simp;omega)
            have h2:=heap_alloc_old W X (r:=w.heap.size+1+1) (by omega)
            exact h1.trans (h2.trans (hWb.block _ (by omega)))
          have qB0:W.drew.cell? ⟨w.heap.size+1+1,k,none⟩=some v:=gB
          have qB1:∀X,(W.alloc X).drew.cell? ⟨w.heap.size+1+1,k,none⟩=some v:=fun X=>by
            rw[←gB];exact World.cell?_of_block (heap_alloc_old W X (r:=w.heap.size+1+1) (by omega))
          have qB2:∀X Y,((W.alloc X).alloc Y).drew.cell? ⟨w.heap.size+1+1,k,none⟩=some v:=fun X Y=>by
            rw[World.cell?_of_block (hBk X Y)];rw[←gB];exact(hWb.cell (p:=⟨w.heap.size+1+1,k,none⟩) (by show w.heap.size+1+1 < _;omega)).symm
          have zB2:∀X Y,((W.alloc X).alloc Y).drew.frozen? ⟨w.heap.size+1+1,k,none⟩=false:=fun X Y=>by
            rw[World.frozen?_of_block (hBk X Y)];exact cZ
          have hu0:x.1=[]→∀Y,OwI ((W.alloc (.cells #[] 3)).alloc Y).drew w.heap.size (.slice (some ⟨wr.heap.size+1,0,none⟩) 0 0) x.1:=fun e Y=>by
            rw[e]
            have:=World.ownsRow_made (base:=w.heap.size) (e:=3) (size:=1) W #[] 0 (by omega) (by decide) (by simp)
            rw[hWs]at this
            exact(this.alloc _).drew
          by_cases e6:x.1=[]
          · have e5:=e6
            have e5l:x.1.length=0:=by rw[e5];rfl
            rw[e5l]at g1
            rw[o41_eq]
            go_region_held3 (fun w'=>w'.cell? ⟨w.heap.size+1+1+1,0,none⟩=some (.slice (some ⟨w.heap.size+1+1,0,none⟩) N N)∧w'.cell? ⟨wr.heap.size,0,none⟩=some (.slice a 0 cc)∧w'.cell? ⟨wr.heap.size,1,none⟩=some (.int .i64 x.2.1)∧w'.cell? ⟨wr.heap.size,2,none⟩=some (.int .i64 x.2.2))
              (first
                | (go_keep;done)
                | (
                   go_split_ands
                   refine⟨?_,?_,?_,?_⟩
                   · (rw [hgrow.cell_far _ (by simp;omega) neV];assumption)
                   · (rw [hgrow.cell_far _ (by simp;omega) neR];assumption)
                   · (rw [hgrow.cell_far _ (by simp;omega) neR];assumption)
                   · (rw [hgrow.cell_far _ (by simp;omega) neR];assumption))
                | (
                   go_split_ands
                   refine⟨?_,?_,?_,?_⟩
                   · (rw [set_far _ _ _ _ _ (Nat.ne_of_gt (Nat.lt_succ_self _))];assumption)
                   · (rw [set_far _ _ _ _ _ (Nat.ne_of_gt s2)];assumption)
                   · (rw [set_far _ _ _ _ _ (Nat.ne_of_gt s2)];assumption)
                   · (rw [set_far _ _ _ _ _ (Nat.ne_of_gt s2)];assumption)))
              (first
                |refine step_append_none (by rfl) (.tmp 42) (.tmp 45) 30 (by rfl) 3 i3 Tryz.underlying30 hi3 _ 0 0 (by rfl) (Nat.le_refl _) _ _ (by rfl) ?_
                | (refine step_append_lies _ (by rfl) (.tmp 41) (.tmp 54) 50 (by rfl) w.heap.size 54 i54 _ 3 40 Tryz.underlying50 hi54 hz54 hs54 hb54 rfl (by omega) v m xs (by rfl) (((hownW.alloc _).alloc _).drew)
                     ⟨wr.heap.size+1+1,0,none⟩ 1 1 [.slice (some ⟨wr.heap.size+1,0,none⟩) 0 0,.int .i64 x.2.1,.int .i64 x.2.2] (by rfl) (by rfl) (World.news_of_block (cs:= #[.slice (some ⟨wr.heap.size+1,0,none⟩) 0 0,.int .i64 x.2.1,.int .i64 x.2.2]) (t:=54) (fr:=(0,0)) (hb2 _ _)) (by simp[Value.oneCell'])
                     (by omega) (by unfold maxLen;omega) (by omega) (by simp;omega) (wr.heap.size+1+1+1) (by simp[hWs]) ?_;intro gg cap w1 hown1 hgrow hat hlt;have hz:w1.frozen? ⟨w.heap.size+1+1,k,none⟩=false:=(hgrow.frozen_far _ (by simp;omega) neB).trans (zB2 _ _);have hcB:w1.cell? ⟨w.heap.size+1+1,k,none⟩=some v:=(hgrow.cell_far _ (by simp;omega) neB).trans (qB2 _ _)))
            all_goals go_wp2
            all_goals
              have R:=HJ.out.step (((hWb.alloc (by omega) _).alloc (by simp;omega) _).drew) hv hpt hlm (((hownW.alloc _).alloc _).drew) (hcells.kept (grown_below ((((Below.refl wr.heap.size W).alloc (by omega) _).alloc (by simp;omega) _).drew |> hWb.trans)) notT_none) (hu0 e5 _) hown1 hgrow (hat.imp id fun e=>by rw[e];simp[hWs]) (by omega)
              rw[pt_set (by omega) hx]at R
              exact⟨⟨m+1,by omega,by go_num,cs.set k (.slice (some ⟨gg,0,none⟩) (m+1) cap),by simp[hcs],Any.hidJ R⟩,by simp[intOf];omega⟩
          · obtain⟨h,q,rfl,hh,hcl⟩:=e5.resolve_left e6
            have hl0:0 < x.1.length:=List.length_pos_iff.2 e6
            have hmade:((W.alloc (.cells #[] 3)).drew).ownsRow w.heap.size 3 1 (.slice (some ⟨wr.heap.size+1,0,none⟩) 0 0) 0 []:=by
              have:=World.ownsRow_made (base:=w.heap.size) (e:=3) (size:=1) W #[] 0 (by omega) (by decide) (by simp)
              rw[hWs]at this
              exact this.drew
            have hnB:∀(j:Nat) u,(x.1.map (Value.int .i64))[j]? =some u→((W.alloc (.cells #[] 3)).drew).cell? ((⟨h,q,none⟩:Addr).add j)=some u:=fun j u hu=>by
              rw[List.getElem?_map,Option.map_eq_some_iff]at hu
              obtain⟨y,hy,rfl⟩:=hu
              have e:(⟨h,q,none⟩:Addr).add j=⟨h,q+j,none⟩:=by unfold Addr.add;split <;> simp_all
              rw[e,←hcl j y hy]
              have hb:=((HJ.out.below.trans (hWb.mono HJ.out.below.size)).alloc (by omega:w.heap.size≤W.heap.size) (.cells #[] 3)).drew
              exact hb.cell (p:=⟨h,q+j,none⟩) hh
            have neI:∀b:Nat,b < wr.heap.size+1→some b≠(Value.slice (some (⟨wr.heap.size+1,0,none⟩:Addr)) 0 0).ownBlock:=fun b hb=>by simp[Value.ownBlock];omega
            have neIB:=neI (w.heap.size+1+1) (by omega)
            have neIV:=neI (w.heap.size+1+1+1) (by omega)
            have neIR:=neI wr.heap.size (by omega)
            have szA:∀X,(W.alloc X).drew.heap.size=wr.heap.size+1+1:=fun X=>by simp[hWs]
            have s3:w.heap.size+1+1 < wr.heap.size+1+1:=by omega
            have neI2:v.ownBlock=none∨v.ownBlock≠(Value.slice (some (⟨wr.heap.size+1,0,none⟩:Addr)) 0 0).ownBlock:=by
              cases hv':v.ownBlock with
              |none=>exact .inl rfl
              |some b=>exact .inr (neI b (by have:=(hown.lt b hv').2;omega))
            rw[o41_eq]
            go_region_held3 (fun w'=>w'.cell? ⟨w.heap.size+1+1+1,0,none⟩=some (.slice (some ⟨w.heap.size+1+1,0,none⟩) N N)∧w'.cell? ⟨wr.heap.size,0,none⟩=some (.slice (some ⟨h,q,none⟩) x.1.length cc)∧w'.cell? ⟨wr.heap.size,1,none⟩=some (.int .i64 x.2.1)∧w'.cell? ⟨wr.heap.size,2,none⟩=some (.int .i64 x.2.2))
              (first
                | (go_keep;done)
                | (
                   go_split_ands
                   refine⟨?_,?_,?_,?_⟩
                   · (rw [hgrow.cell_far _ (by simp;omega) neV];assumption)
                   · (rw [hgrow.cell_far _ (by simp;omega) neR];assumption)
                   · (rw [hgrow.cell_far _ (by simp;omega) neR];assumption)
                   · (rw [hgrow.cell_far _ (by simp;omega) neR];assumption))
                | (
                   go_split_ands
                   refine⟨?_,?_,?_,?_⟩
                   · (rw [hgrowI.cell_far _ (by rw[szA];show w.heap.size+1+1+1 < _;omega) neIV];assumption)
                   · (rw [hgrowI.cell_far _ (by rw[szA];show wr.heap.size < _;omega) neIR];assumption)
                   · (rw [hgrowI.cell_far _ (by rw[szA];show wr.heap.size < _;omega) neIR];assumption)
                   · (rw [hgrowI.cell_far _ (by rw[szA];show wr.heap.size < _;omega) neIR];assumption))
                | (
                   go_split_ands
                   refine⟨?_,?_,?_,?_⟩
                   · (rw [set_far _ _ _ _ _ (Nat.ne_of_gt (Nat.lt_succ_self _))];assumption)
                   · (rw [set_far _ _ _ _ _ (Nat.ne_of_gt s2)];assumption)
                   · (rw [set_far _ _ _ _ _ (Nat.ne_of_gt s2)];assumption)
                   · (rw [set_far _ _ _ _ _ (Nat.ne_of_gt s2)];assumption)))
              (first
                | (refine step_append_lies _ (by rfl) (.tmp 42) (.tmp 45) 30 (by rfl) w.heap.size 3 i3 _ 1 8 Tryz.underlying30 hi3 hz3 hs3 hb3 rfl (by omega) (.slice (some ⟨wr.heap.size+1,0,none⟩) 0 0) 0 [] (by rfl) hmade
                     ⟨h,q,none⟩ x.1.length cc (x.1.map (Value.int .i64)) (by rfl) (by simp) hnB (by simp[Value.oneCell'])
                     hl0 (by unfold maxLen;omega) (by omega) (by simp;omega) (wr.heap.size+1+1) (by simp[hWs]) ?_;intro gi capi w1 hownI hgrowI hatI hltI;simp only[Nat.zero_add,List.nil_append]at hownI
                   have hwr1:wr.heap.size+1+1≤w1.heap.size:=by { have:=hgrowI.size;simp at this;omega }
                   have qC:w1.cell? ⟨w.heap.size+1+1,k,none⟩=some v:=(hgrowI.cell_far _ (by rw[szA];exact s3) neIB).trans (qB1 _)
                   have qC1:∀X,(w1.alloc X).cell? ⟨w.heap.size+1+1,k,none⟩=some v:=fun X=>(World.cell?_of_block (heap_alloc_old w1 X (r:=w.heap.size+1+1) (by omega))).trans qC
                   have hb3:∀Y,(w1.alloc Y).heap[w1.heap.size]? =some Y:=fun Y=>heap_alloc_new w1 Y)
                | (refine step_append_lies _ (by rfl) (.tmp 41) (.tmp 54) 50 (by rfl) w.heap.size 54 i54 _ 3 40 Tryz.underlying50 hi54 hz54 hs54 hb54 rfl (by omega) v m xs (by rfl) ((((hownW.alloc _).drew).kept hgrowI neI2).alloc _)
                     ⟨w1.heap.size,0,none⟩ 1 1 [.slice (some ⟨gi,0,none⟩) x.1.length capi,.int .i64 x.2.1,.int .i64 x.2.2] (by rfl) (by rfl) (World.news_of_block (cs:= #[.slice (some ⟨gi,0,none⟩) x.1.length capi,.int .i64 x.2.1,.int .i64 x.2.2]) (t:=54) (fr:=(0,0)) (hb3 _)) (by simp[Value.oneCell'])
                     (by omega) (by unfold maxLen;omega) (by omega) (by simp;omega) (w1.heap.size+1) (by simp) ?_;intro gg cap w2 hown1 hgrow hat hlt
                   have hz:w2.frozen? ⟨w.heap.size+1+1,k,none⟩=false:=by { rw[hgrow.frozen_far _ (by simp;omega) neB,World.frozen?_of_block (heap_alloc_old w1 _ (r:=w.heap.size+1+1) (by omega)),hgrowI.frozen_far _ (by rw[szA];exact s3) neIB,World.frozen?_of_block (show _=wr.heap[w.heap.size+1+1]? from(heap_alloc_old W _ (r:=w.heap.size+1+1) (by omega)).trans (hWb.block _ (by omega)))];exact cZ }
                   have hcB:w2.cell? ⟨w.heap.size+1+1,k,none⟩=some v:=(hgrow.cell_far _ (by simp;omega) neB).trans (qC1 _)))
            all_goals go_wp2
            all_goals
              have hbA:Below wr.heap.size wr w1:=(hWb.trans ((((Below.refl wr.heap.size W).alloc (by omega) _).drew).trans (below_grown hgrowI (fun k hk=>by simp[Value.ownBlock]at hk;omega) (by rw[szA];omega))))
              have R:=HJ.out.step (hbA.alloc (by omega) _) hv hpt hlm ((((hownW.alloc _).drew).kept hgrowI neI2).alloc _) (hcells.kept (grown_below (hbA.alloc (by omega) _)) notT_none) (World.ownsRow.alloc hownI _) hown1 hgrow (hat.imp id fun e=>by rw[e];simp) (by omega)
              rw[pt_set (by omega) hx]at R
              exact⟨⟨m+1,by omega,by go_num,cs.set k (.slice (some ⟨gg,0,none⟩) (m+1) cap),by simp[hcs],Any.hidJ R⟩,by simp[intOf];omega⟩
        · have hmI: ¬(m:Int) < (n:Int):=by omega
          go_wp2_with fail
          have hmn:m=n:=by omega
          refine⟨⟨k+1,by omega,by go_num,cs,hcs,?_⟩,by simp[intOf];omega⟩
          have e:tb.take k++(l.take m::List.replicate (N-k-1) [])=tb.take (k+1)++List.replicate (N-(k+1)) []:=by
            rw[List.take_add_one,hl,hmn,←hln,List.take_length]
            simp[Nat.sub_sub]
          exact e ▸ HJ
    · have hkI: ¬(k:Int) < (N:Int):=by omega
      go_wp2_with fail
      have R:=HJ.out.final (.slice (some ⟨w.heap.size+1+1,0,none⟩) N N)
      rw[show tb.take k++List.replicate (N-k) []=tb by rw[hk,←hN];simp]at R
      try simp only[Exit.inBlock,Exit.then]
      refine bodyPost_ret (results_cell_row rfl _ _ (w.heap.size+1) 29 _ (0,0) _ rfl (grown_set HJ.out.res 0 _).2 Tryz.underlying29 rfl (by rfl)) rfl ⟨rfl,cs,R⟩
end Go.Proofs
end
section
namespace Go.Proofs
open Go.RowKit
attribute [local go_sem ↓] Go.wp_at_zero Go.wp_at_succ
set_option maxHeartbeats 4000000 in
set_option maxRecDepth 100000 in
theorem Tryz.w54z (g p cap N:Nat) (w:World) (hN1:N≤1000) (hc:N≤cap) (hc1:cap≤9223372036854775807) (hg:0 < N→g < w.heap.size)
    (hrows:∀k,k < N→∃ri c,w.cell? ⟨g,p+k,none⟩=some (.slice ri 0 c)∧c≤9223372036854775807):
    Calls Tryz.prog 54 #[.agg #[.slice (some ⟨g,p,none⟩) N cap],.int .i64 0,.int .i64 0] w fun e w'=>
      e= .returned (.agg #[.slice (some ⟨w.heap.size+1+1,0,none⟩) N N])∧∃cs,Cop54 w w' cs (List.replicate N []):=by
  have mixed:Tryz.prog.follows .mixedOrders=true:=by kernel_rfl
  have hmk:=fun w=>run_make_row' (P:=Tryz.prog) 27 50 (.slice none 0 0) 24 (by rfl) Tryz.info50 (by rfl) .i64 .i64 N (by omega) (by omega) w
  have hrowsH:Hid (∀ k,k < N→∃ri c,w.cell? ⟨g,p+k,none⟩=some (.slice ri 0 c)∧c≤9223372036854775807):=hrows
  clear hrows
  have h0':=Any.hidJ (J54.start w (Obj.cells #[Value.slice (some ⟨g,p,none⟩) N cap] 29) N)
  go_enter Tryz.func54,Tryz.ntmps54
  go_wp2_with fail
  go_loopw [20] (fun i wr=>∃k:Nat,k≤N∧i= .int .i64 k∧∃cs,cs.length=N∧Hid (J54 w wr cs (List.replicate N []))) (fun i _=>N-(intOf i).toNat)
  case atStart=>exact⟨0,Nat.zero_le _,rfl,List.replicate N (.slice none 0 0),List.length_replicate,h0'⟩
  case round=>
    obtain⟨k,hk,rfl,cs,hcs,HJ⟩:=hrel
    have cV:=HJ.out.cellV
    rw[hcs]at cV
    have cF:=HJ.out.cellR
    have cZ:=HJ.out.frzR 0
    rcases Nat.lt_or_eq_of_le hk with hk |hk
    · obtain⟨ri,c,hv,hc9⟩:=hrowsH.out k hk
      have cR:wr.cell? ⟨g,p+k,none⟩=some (.slice ri 0 c):=by rw[HJ.out.below.cell (p:=⟨g,p+k,none⟩) (hg (by omega))];exact hv
      have hkI:(k:Int) < (N:Int):=by omega
      have hk0:(0:Int)≤(k:Int):=Int.natCast_nonneg _
      have hcI:(0:Int)≤(c:Int):=Int.natCast_nonneg _
      clear hv
      cases ri with
      |none=>
        go_wp2_with fail
        go_loopw [30] (fun j wr2=>j= .int .i64 0∧Hid (J54 w wr2 cs (List.replicate N []))) (fun _ _=>0)
        case atStart=>exact⟨rfl,HJ⟩
        case round=>
          clear cV cF cZ HJ cR
          obtain⟨rfl,HJ⟩:=hrel
          go_wp2_with fail
          exact⟨⟨k+1,by omega,by go_num,cs,hcs,HJ⟩,by simp[intOf];omega⟩
      |some ri=>
        go_wp2_with fail
        go_loopw [30] (fun j wr2=>j= .int .i64 0∧Hid (J54 w wr2 cs (List.replicate N []))) (fun _ _=>0)
        case atStart=>exact⟨rfl,HJ⟩
        case round=>
          clear cV cF cZ HJ cR
          obtain⟨rfl,HJ⟩:=hrel
          go_wp2_with fail
          exact⟨⟨k+1,by omega,by go_num,cs,hcs,HJ⟩,by simp[intOf];omega⟩
    · have hkI: ¬(k:Int) < (N:Int):=by omega
      go_wp2_with fail
      have R:=HJ.out.final (.slice (some ⟨w.heap.size+1+1,0,none⟩) N N)
      try simp only[Exit.inBlock,Exit.then]
      refine bodyPost_ret (results_cell_row rfl _ _ (w.heap.size+1) 29 _ (0,0) _ rfl (grown_set HJ.out.res 0 _).2 Tryz.underlying29 rfl (by rfl)) rfl ⟨rfl,cs,R⟩
set_option maxHeartbeats 4000000 in
set_option maxRecDepth 100000 in
theorem Tryz.w54n (ao:Option Addr) (cap:Nat) (n:Int) (w:World) (hc1:cap≤9223372036854775807):
    Calls Tryz.prog 54 #[.agg #[.slice ao 0 cap],.int .i64 0,.int .i64 n] w fun e w'=>
      e= .returned (.agg #[.slice (some ⟨w.heap.size+1+1,0,none⟩) 0 0])∧∃cs,Cop54 w w' cs []:=by
  have mixed:Tryz.prog.follows .mixedOrders=true:=by kernel_rfl
  have hmk:=fun w=>run_make_row' (P:=Tryz.prog) 27 50 (.slice none 0 0) 24 (by rfl) Tryz.info50 (by rfl) .i64 .i64 0 (by omega) (by omega) w
  simp only[Int.natCast_zero]at hmk
  have h0':=Any.hidJ (J54.start w (Obj.cells #[Value.slice ao 0 cap] 29) 0)
  go_enter Tryz.func54,Tryz.ntmps54
  go_wp2_with fail
  go_loopw [20] (fun i wr=>i= .int .i64 0∧Hid (J54 w wr [] [])) (fun _ _=>0)
  case atStart=>exact⟨rfl,h0'⟩
  case round=>
    obtain⟨rfl,HJ⟩:=hrel
    have cV:=HJ.out.cellV
    have cF:=HJ.out.cellR
    have cZ:=HJ.out.frzR 0
    simp only[List.length_nil]at cV
    go_wp2_with fail
    have R:=HJ.out.final (.slice (some ⟨w.heap.size+1+1,0,none⟩) 0 0)
    try simp only[Exit.inBlock,Exit.then]
    refine bodyPost_ret (results_cell_row rfl _ _ (w.heap.size+1) 29 _ (0,0) _ rfl (grown_set HJ.out.res 0 _).2 Tryz.underlying29 rfl (by rfl)) rfl ⟨rfl,[],R⟩
end Go.Proofs
end
