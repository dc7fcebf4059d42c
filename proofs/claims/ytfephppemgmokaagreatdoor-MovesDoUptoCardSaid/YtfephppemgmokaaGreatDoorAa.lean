/- The law MovesDo of headlandlaw20 returns true, at arguments of the row's types whose lengths are at most uptoBulk: the program's Do and Back answer as the reference's do. Conditions: those of the given row (Rows.MovesDoUptoCardSaid), and no others. Part 1 of the proof. -/
import GoSem.Step
import Derived.RowKit3
import Derived.Below
import Derived.Laws.Cells
import Derived.Laws.Rows
import Derived.Laws.World
import Derived.Laws.Tables
import Derived.Laws.CopyRow
import Derived.Laws.Append
import Derived.Laws.MakeOwn
import Derived.Laws.AppendOwn
import Derived.Laws.Entries
import Derived.RangeFuncRecord
import Derived.Great.BuildSlice
import Derived.Deep.AppendSrc
set_option linter.unusedVariables false
set_option linter.unusedSimpArgs false
set_option linter.unusedSectionVars false
section
namespace Go.Sym
inductive Cap where
 |no |nil |nn |an |exact |bor |tok (t:Nat)
 deriving DecidableEq
inductive AV where
 |undef
 |int (k:IntKind) (n:Int) |bool (b:Bool) |str (s:ByteArray)
 |nilp |ptr (b i o:Nat) |iptr (cells:List AV) (o:Nat)
 |agg (cs:List AV) |tup (vs:List AV)
 |lst (sz:Nat) (rows:List (List AV)) (c:Cap) |win (b off len:Nat) (cap:Option Nat)
 |fn (f:FuncId) (caps:List AV) |nilfn
 |iface (t:Nat) (v:AV) |niface
 |yld (b:Nat)
instance :Inhabited AV:=⟨.undef⟩
inductive LoopSt where
 |ready |busy |done (c:Code)
inductive Kind where
 |data
 |toky
 |box
 |cell (t:TypeId)
 |dead
 |rng (f:FuncId) (nt:Nat) (env:List (Nat×AV)) (ps:List Tmp) (as bd:Code) (st:LoopSt)
structure Blk where
 sz:Nat
 rows:List (List AV)
 kind:Kind
def rngB:Kind→Bool
 | .rng .. =>true
 | .dead=>true
 |_=>false
def deadB:Kind→Bool
 | .dead=>true
 |_=>false
def cellB:AV→Bool
 | .undef | .agg _ | .tup _=>false
 |_=>true
mutual
def pureB:AV→Bool
 | .int .. | .bool _ | .str _ | .nilp | .nilfn | .niface=>true
 | .lst _ _ c=>match c with | .no | .nil | .nn | .an | .exact=>true |_=>false
 | .agg cs=>pureL cs
 | .tup cs=>pureL cs
 | .fn _ cs=>pureL cs
 | .iface _ v=>pureB v
 |_=>false
def pureL:List AV→Bool
 | []=>true
 |v::r=>pureB v&&pureL r
end
mutual
def below (n:Nat):AV→Bool
 | .ptr b _ _=>decide (b < n)
 | .win b _ _ _=>decide (b < n)
 | .yld b=>decide (b < n)
 | .agg cs=>belowL n cs
 | .tup cs=>belowL n cs
 | .fn _ cs=>belowL n cs
 | .iface _ v=>below n v
 | .iptr .. =>true
 |_=>true
def belowL (n:Nat):List AV→Bool
 | []=>true
 |v::r=>below n v&&belowL n r
end
mutual
def strip:AV→AV
 | .lst sz r (.tok _)=>.lst sz r .no
 | .agg cs=>.agg (stripL cs)
 | .tup cs=>.tup (stripL cs)
 | .fn f cs=>.fn f (stripL cs)
 | .iface t v=>.iface t (strip v)
 |v=>v
def stripL:List AV→List AV
 | []=>[]
 |v::r=>strip v::stripL r
end
def szOf (n:Nat):List (List AV)→Nat
 | []=>0
 |_::_=>n
mutual
def normv:AV→AV
 | .lst sz r _=>.lst (szOf sz r) r .no
 | .agg cs=>.agg (normL cs)
 | .tup cs=>.tup (normL cs)
 | .fn f cs=>.fn f (normL cs)
 | .iface t v=>.iface t (normv v)
 |v=>v
def normL:List AV→List AV
 | []=>[]
 |v::r=>normv v::normL r
end
def rowsOf (H:Nat→Option Blk) (b off len:Nat):Option (Nat×List (List AV)):=
 match H b with
 |some k=>if off+len≤k.rows.length then(match k.kind with
   | .data=>some (szOf k.sz ((k.rows.drop off).take len),((k.rows.drop off).take len).map normL)
   | .toky=>some (szOf k.sz ((k.rows.drop off).take len),((k.rows.drop off).take len).map normL)
   |_=>none)else none
 |none=>none
def ptrOf (k:Option Blk) (i:Nat):Option (List AV):=match k with
 |some k=>match k.kind with
  | .cell _=>match k.rows[i]? with
   |some row=>if pureL row&&row.all cellB then some row else none
   |none=>none
  |_=>none
 |none=>none
def fzp (k:Option Blk) (b i o:Nat):AV:=match ptrOf k i with |some row=>.iptr row o |none=>.ptr b i o
mutual
def freeze (H:Nat→Option Blk):AV→AV
 | .lst sz r c=>match c with | .bor=>.lst sz r .bor |_=>.lst (szOf sz r) r .no
 | .win b off len _=>match rowsOf H b off len with |some (sz,rs)=>.lst sz rs .bor |none=>.undef
 | .ptr b i o=>fzp (H b) b i o
 | .agg cs=>.agg (freezeL H cs)
 | .fn f cs=>.fn f (freezeL H cs)
 | .iface t v=>.iface t (freeze H v)
 |v=>v
def freezeL (H:Nat→Option Blk):List AV→List AV
 | []=>[]
 |v::r=>freeze H v::freezeL H r
end
mutual
def closedB:AV→Bool
 | .int .. | .bool _ | .str _ | .nilp | .nilfn | .niface=>true
 | .lst _ _ c=>match c with | .tok _=>false |_=>true
 | .agg cs=>closedL cs
 | .fn _ cs=>closedL cs
 | .iface _ v=>closedB v
 | .iptr .. =>true
 |_=>false
def closedL:List AV→Bool
 | []=>true
 |v::r=>closedB v&&closedL r
end
def AV.cells:AV→List AV
 | .agg cs=>cs
 |v=>[v]
def cellsB:List AV→Bool
 | []=>true
 |v::r=>cellB v&&cellsB r
def ob {α β:Type} (x:Option α) (f:α→Option β):Option β:=match x with |some a=>f a |none=>none
def aggD:TypeDesc→Bool
 | .struct _ | .array _ _=>true
 |_=>false
def tyOf (P:Program) (t:TypeId):Option (Bool×Nat):=ob (P.underlying t) fun d=>ob (P.info? t) fun i=>some (aggD d,i.size)
mutual
def zeroOf:Value→Option AV
 | .int k n=>some (.int k n)
 | .bool b=>some (.bool b)
 | .string s=>some (.str s)
 | .slice none 0 0=>some (.lst 0 [] .nil)
 | .pointer none=>some .nilp
 | .nilFunc=>some .nilfn
 | .nilIface=>some .niface
 |_=>none
end
def zerosOf:List Value→Option (List AV)
 | []=>some []
 |v::r=>ob (zeroOf v) fun x=>ob (zerosOf r) fun xs=>some (x::xs)
def zeroAt (P:Program) (t:TypeId):Option (List AV):=ob ((P.info? t).bind (·.zero)) fun z=>zerosOf z.cells.toList
def fieldAt (P:Program) (t f:Nat):Option (Nat×Nat):=
 match P.underlying t with
 |some (.struct fs)=>ob (fs[f]?) fun x=>ob (P.info? x.type) fun i=>if i.size=0 then none else some (x.offset,i.size)
 |_=>none
def elemAt (P:Program) (t:TypeId):Option (TypeId×TypeInfo):=
 match P.underlying t with
 |some (.slice e)=>ob (P.info? e) fun i=>some (e,i)
 |_=>none
def elemSz (P:Program) (t:TypeId):Option (Nat×Nat):=
 ob (elemAt P t) fun x=>ob x.2.zero fun z=>if z.cells.size=x.2.size∧x.2.size≠0 then some (x.2.size,x.2.bytes)else none
def arrAt (P:Program) (t:TypeId):Option (Nat×Nat):=
 match P.underlying t with
 |some (.array n e)=>ob (P.info? e) fun i=>some (n,i.size)
 |_=>none
def placeF (P:Program) (t:TypeId):Option (Nat→Option (Nat×Nat)):=
 match P.underlying t with
 |some (.struct fs)=>(fs.toList.mapM (fun f=>(P.info? f.type).map fun i=>(f.offset,i.size))).map fun ps i=>ps[i]?
 |some (.array _ e)=>(P.info? e).map fun j i=>some (i*j.size,j.size)
 |_=>none
def splice (r:List AV) (o:Nat) (cs:List AV):List AV:=r.take o++(cs++r.drop (o+cs.length))
def fillA (place:Nat→Option (Nat×Nat)):List AV→List (Nat×AV)→Option (List AV)
 |cells,[]=>some cells
 |cells,(i,v)::r=>ob (place i) fun p=>if v.cells.length=p.2∧p.1+p.2≤cells.length∧cellsB v.cells=true then fillA place (splice cells p.1 v.cells) r else none
def mkv (ag:Bool) (n:Nat) (cs:List AV):Option AV:=if cs.length=n then(if ag then some (.agg cs)else match cs with | [c]=>some c |_=>none)else none
def cut (r:List AV) (o n:Nat):List AV:=(r.drop o).take n
def ldv (P:Program) (H:Nat→Option Blk) (t:TypeId):AV→Option AV
 | .ptr b i o=>ob (tyOf P t) fun y=>ob (H b) fun k=>ob (k.rows[i]?) fun r=>mkv y.1 y.2 (cut r o y.2)
 | .iptr r o=>ob (tyOf P t) fun y=>mkv y.1 y.2 (cut r o y.2)
 |_=>none
def fitK:Kind→List AV→Option (List AV)
 | .box,cs=>some cs
 | .cell _,cs=>some cs
 | .toky,cs=>if pureL (stripL cs)=true then some cs else none
 | .data,cs=>if pureL (stripL cs)=true then some (stripL cs)else none
 | .rng ..,_=>none
 | .dead,_=>none
def stv (P:Program) (nh:Nat) (H:Nat→Option Blk) (t:TypeId) (v:AV):AV→Option (Nat×Blk)
 | .ptr b i o=>ob (tyOf P t) fun y=>ob (H b) fun k=>ob (k.rows[i]?) fun r=>ob (fitK k.kind v.cells) fun cs=>
   if cs.length=y.2∧o+cs.length≤r.length∧cellsB cs=true∧(nh≤b∨belowL (b+1) cs=true)then
    some (b,{ k with rows:=k.rows.set i (splice r o cs) })else none
 |_=>none
def fav (P:Program) (t f:Nat):AV→Option AV
 | .ptr b i o=>ob (fieldAt P t f) fun p=>some (.ptr b i (o+p.1))
 | .iptr r o=>ob (fieldAt P t f) fun p=>some (.iptr r (o+p.1))
 |_=>none
def iav (P:Program) (H:Nat→Option Blk) (t:TypeId):AV→AV→Option AV
 | .lst sz rows _,.int _ n=>ob (elemSz P t) fun e=>if e.1=sz∧0≤n then ob (rows[n.toNat]?) fun r=>some (.iptr r 0)else none
 | .win b off len _,.int _ n=>ob (elemSz P t) fun e=>ob (H b) fun k=>if k.sz=e.1∧0≤n∧n < len then some (.ptr b (off+n.toNat) 0)else none
 | .ptr b i o,.int _ n=>ob (arrAt P t) fun a=>if 0≤n∧n < a.1 then some (.ptr b i (o+n.toNat*a.2))else none
 | .iptr r o,.int _ n=>ob (arrAt P t) fun a=>if 0≤n∧n < a.1 then some (.iptr r (o+n.toNat*a.2))else none
 |_,_=>none
def partv (P:Program) (t:TypeId) (cs:List AV) (o:Nat):Option AV:=ob (tyOf P t) fun y=>mkv y.1 y.2 (cut cs o y.2)
def fldv (P:Program) (t f:Nat):AV→Option AV
 | .agg cs=>match P.underlying t with |some (.struct fs)=>ob (fs[f]?) fun x=>partv P x.type cs x.offset |_=>none
 |_=>none
def ixv (P:Program) (t:TypeId):AV→AV→Option AV
 | .agg cs,.int _ n=>match P.underlying t with |some (.array len e)=>ob (P.info? e) fun j=>if 0≤n∧n < len then partv P e cs (n.toNat*j.size)else none |_=>none
 | .str s,.int _ n=>match P.underlying t with |some .string=>if 0≤n then ob (s[n.toNat]?) fun c=>some (.int .u8 c.toNat)else none |_=>none
 |_,_=>none
def nilB:AV→Option Bool
 | .lst _ [] .nil=>some true
 | .lst _ [] .nn=>some false
 | .lst _ [] .an=>some true
 | .lst _ (_::_) _=>some false
 | .win _ _ _ _=>some false
 | .nilp | .nilfn | .niface=>some true
 | .ptr .. | .iptr .. | .fn .. | .iface .. =>some false
 |_=>none
def sliceT (P:Program) (t:TypeId):Bool:=match P.underlying t with |some (.slice _)=>true |_=>false
def binv (P:Program) (op:BinOp) (t:TypeId) (x y:AV):Option AV:=
 match op,x,y with
 | .add,.int k a,.int j b=>if k=j then some (.int k (k.wrap (a+b)))else none
 | .sub,.int k a,.int j b=>if k=j then some (.int k (k.wrap (a-b)))else none
 | .mul,.int k a,.int j b=>if k=j then some (.int k (k.wrap (a*b)))else none
 | .quo,.int k a,.int j b=>if k=j∧b≠0 then some (.int k (k.wrap (a.tdiv b)))else none
 | .rem,.int k a,.int j b=>if k=j∧b≠0 then some (.int k (a.tmod b))else none
 | .eql,.int k a,.int j b=>if k=j then some (.bool (a==b))else none
 | .neq,.int k a,.int j b=>if k=j then some (.bool (a != b))else none
 | .lss,.int k a,.int j b=>if k=j then some (.bool (decide (a < b)))else none
 | .leq,.int k a,.int j b=>if k=j then some (.bool (decide (a≤b)))else none
 | .gtr,.int k a,.int j b=>if k=j then some (.bool (decide (a > b)))else none
 | .geq,.int k a,.int j b=>if k=j then some (.bool (decide (a≥b)))else none
 | .add,.str a,.str b=>if a.size+b.size≤4611686018427387904 then some (.str (a++b))else none
 | .eql,.str a,.str b=>some (.bool (a.toList==b.toList))
 | .neq,.str a,.str b=>some (.bool (!(a.toList==b.toList)))
 | .eql,.bool a,.bool b=>match P.underlying t with |some .bool=>some (.bool (a==b)) |_=>none
 | .neq,.bool a,.bool b=>match P.underlying t with |some .bool=>some (.bool (!(a==b))) |_=>none
 |_,_,_=>none
def nilcmp (P:Program) (t:TypeId) (x:AV):Operand→Option Bool
 | .const .nilIface=>(match P.underlying t with |some (.interface _)=>(match x with | .niface=>some true | .iface _ _=>some false |_=>none) |_=>none)
 | .const (.slice none 0 0)=>(match P.underlying t with |some (.slice _)=>(match x with | .lst .. =>nilB x | .win .. =>nilB x |_=>none) |_=>none)
 |_=>none
def binn (P:Program) (op:BinOp) (t:TypeId) (x y:AV) (yo:Operand):Option AV:=
 match op,nilcmp P t x yo with
 | .eql,some b=>some (.bool b)
 | .neq,some b=>some (.bool (!b))
 |_,_=>binv P op t x y
def unv (op:UnOp) (x:AV):Option AV:=
 match op,x with
 | .not,.bool b=>some (.bool (!b))
 | .neg,.int k n=>some (.int k (k.wrap (0-n)))
 |_,_=>none
def convv (P:Program) (src dst:TypeId) (x:AV):Option AV:=
 match x with
 | .int _ n=>match P.underlying src,P.underlying dst with |some (.int _),some (.int k)=>some (.int k (k.wrap n)) |_,_=>none
 |_=>none
def assertv (P:Program) (t:TypeId):AV→Option AV
 | .iface t' v=>match P.underlying t with |some (.interface _)=>none |some _=>if t'=t then some (.tup [v,.bool true])else none |none=>none
 |_=>none
def lenv (P:Program) (t:TypeId):AV→Option AV
 | .lst _ rows _=>match P.underlying t with |some (.slice _)=>some (.int .i64 rows.length) |_=>none
 | .win _ _ len _=>match P.underlying t with |some (.slice _)=>some (.int .i64 len) |_=>none
 | .str s=>match P.underlying t with |some .string=>some (.int .i64 s.size) |_=>none
 |_=>none
def bnd (n:Nat):Option AV→Option Nat→Option Nat
 |none,d=>d
 |some (.int _ i),_=>if 0≤i∧i≤n then some i.toNat else none
 |some _,_=>none
def slv (P:Program) (H:Nat→Option Blk) (t:TypeId) (x:AV) (lo hi mx:Option AV):Option AV:=
 match x with
 | .lst sz rows c=>match P.underlying t,mx with
  |some (.slice e),none=>ob (P.info? e) fun j=>ob (bnd rows.length hi (some rows.length)) fun h=>ob (bnd h lo (some 0)) fun l=>
    if j.size=sz∨rows=[]then some (.lst sz ((rows.take h).drop l) (match c with | .bor=>.bor | .nil=>.nil | .exact=>if hi.isNone then .exact else .no |_=>.no))else none
  |some (.slice e),some (.int _ m)=>ob (P.info? e) fun j=>if 0≤m∧m≤rows.length then ob (bnd m.toNat hi none) fun h=>ob (bnd h lo (some 0)) fun l=>
    if j.size=sz∨rows=[]then some (.lst sz ((rows.take h).drop l) (match c with | .bor=>.bor | .nil=>.nil |_=>if(h:Int)=m then .exact else .no))else none else none
  |_,_=>none
 | .win b off len cap=>match P.underlying t,mx with
  |some (.slice e),none=>ob (P.info? e) fun j=>ob (H b) fun k=>ob (bnd len hi (some len)) fun h=>ob (bnd h lo (some 0)) fun l=>if j.size=k.sz then some (.win b (off+l) (h-l) (cap.map (· -l)))else none
  |_,_=>none
 | .str s=>match P.underlying t,mx with
  |some .string,none=>ob (bnd s.size hi (some s.size)) fun h=>ob (bnd h lo (some 0)) fun l=>some (.str (s.extract l h))
  |_,_=>none
 |_=>none
def minI:List AV→Option AV
 | [.int k a,.int j b]=>if k=j then some (.int k (if b < a then b else a))else none
 |_=>none
def maxI:List AV→Option AV
 | [.int k a,.int j b]=>if k=j then some (.int k (if b > a then b else a))else none
 |_=>none
def lim:Nat:=17179869184
inductive Eff where
 |val (v:AV)
 |new (k:Blk) (win:Option (Nat×Option Nat))
 |upd (b:Nat) (k:Blk)
 |ntok (sz:Nat) (rows:List (List AV))
 |stok (t:Nat) (sz:Nat) (rows:List (List AV))
 |pan (v:AV)
 |call (f:FuncId) (args:List AV)
 |round (b:Nat) (args:List AV)
def bytesR (s:ByteArray):List (List AV):=s.data.toList.map fun b=>[.int .u8 b.toNat]
def srcRows (P:Program) (sz:Nat) (t:Option TypeId):AV→Option (List (List AV))
 | .lst sz' rows _=>match t.map P.underlying with |some (some (.slice _))=>if sz'=sz∨rows=[]then some rows else none |_=>none
 | .str s=>match t.map P.underlying with |some (some .string)=>if sz=1 then some (bytesR s)else none |_=>none
 |_=>none
def appv (P:Program) (m:Nat) (K:Nat→Option Nat) (t:TypeId) (t2:Option TypeId) (x y:AV):Option Eff:=
 ob (elemSz P t) fun e=>ob (srcRows P e.1 t2 y) fun ys=>
  match x with
  | .lst sz rows c=>
   if(sz=e.1∨rows=[])∧(rows.length+ys.length)*e.2≤140737488355328∧rows.length+ys.length≤lim then
    match c with
    | .nil | .exact=>if m=3 then(if rows.isEmpty&& !ys.isEmpty then some (.new ⟨e.1,ys,.toky⟩ (some (ys.length,none)))else none)else if rows.isEmpty|| !ys.isEmpty then some (.ntok e.1 (rows++ys))else none
    | .tok i=>if sz=e.1∧K i=some rows.length then some (.stok i e.1 (rows++ys))else none
    |_=>none
   else none
  |_=>none
def litGo (sz:Nat):Nat→List (Nat×AV)→Option (List (List AV))
 |_,[]=>some []
 |i,(j,v)::r=>if j=i∧(normL v.cells).length=sz∧cellsB (normL v.cells)=true∧pureL (stripL v.cells)=true then ob (litGo sz (i+1) r) fun rs=>some (normL v.cells::rs)else none
def evO (env:Nat→AV):Operand→AV
 | .tmp t=>env t
 | .const (.int k n)=>.int k n
 | .const (.bool b)=>.bool b
 | .const (.string s)=>.str s
 | .const (.slice none 0 0)=>.lst 0 [] .nil
 | .const (.pointer none)=>.nilp
 | .const .nilFunc=>.nilfn
 | .const .nilIface=>.niface
 | .func f=>.fn f []
 |_=>.undef
def evL (env:Nat→AV):List Operand→List AV
 | []=>[]
 |x::r=>evO env x::evL env r
def evP (env:Nat→AV):List (Nat×Operand)→List (Nat×AV)
 | []=>[]
 | (i,x)::r=>(i,evO env x)::evP env r
def makv (P:Program) (m:Nat) (t:TypeId) (l c:AV):Option Eff:=
 match l,c with
 | .int _ n,.int _ c=>ob (elemAt P t) fun e=>ob (zeroAt P e.1) fun z=>
   if n=c∧0≤n∧cellsB z=true∧z.length=e.2.size∧n.toNat*e.2.bytes≤140737488355328∧n.toNat≤lim then
    (match m with
    |0=>if pureL z=true then some (.val (.lst e.2.size (List.replicate n.toNat (normL z)) .exact))else none
    |1=>if pureL z=true then some (.new ⟨e.2.size,List.replicate n.toNat z,.data⟩ (some (n.toNat,some n.toNat)))else none
    |2=>if pureL z=true then some (.new ⟨e.2.size,List.replicate n.toNat z,.toky⟩ (some (n.toNat,some n.toNat)))else none
    |_=>if pureL z=true then some (.new ⟨e.2.size,List.replicate n.toNat z,.box⟩ (some (n.toNat,some n.toNat)))else none)else none
 |_,_=>none
def methodAt (P:Program) (t:TypeId) (m:String):Option FuncId:=
 ob (P.info? t) fun i=>ob (i.methods.find? (·.name==m)) fun r=>ob r.func fun f=>ob (P.underlying t) fun d=>
  if r.path.toList.isEmpty=true∧(match d with | .pointer _=>true |_=>false)=f.2 then some f.1 else none
def callv (P:Program) (m:Nat) (K:Nat→Option Nat) (env:Nat→AV) (c:Call):Option Eff:=
 match c.callee,c.args.toList with
 | .value f,args=>match evO env f with
  | .fn g caps=>some (.call g (evL env args++caps))
  | .yld b=>some (.round b (evL env args))
  |_=>none
 | .invoke x m,args=>match evO env x with
  | .iface t v=>ob (methodAt P t m) fun g=>some (.call g (v::evL env args))
  |_=>none
 | .builtin .len,[x]=>ob (c.argTypes[0]?) fun t=>ob (lenv P t (evO env x)) fun v=>some (.val v)
 | .builtin .append,[x,y]=>ob (c.argTypes[0]?) fun t=>appv P m K t (c.argTypes[1]?) (evO env x) (evO env y)
 | .builtin .min,args=>ob (minI (evL env args)) fun v=>some (.val v)
 | .builtin .max,args=>ob (maxI (evL env args)) fun v=>some (.val v)
 |_,_=>none
def optO (env:Nat→AV):Option Operand→Option AV
 |none=>none
 |some x=>some (evO env x)
def effOf (P:Program) (nh:Nat) (m:Nat) (env:Nat→AV) (H:Nat→Option Blk) (K:Nat→Option Nat) (o:Op):Option Eff:=
 match o with
 | .move x | .assign x=>some (.val (evO env x))
 | .pick c a b=>match evO env c with | .bool t=>some (.val (if t then evO env a else evO env b)) |_=>none
 | .alloc t=>ob (zeroAt P t) fun z=>if cellsB z=true then some (.new ⟨z.length,[z],if m=5 then .cell t else .box⟩ none)else none
 | .box _ x=>if cellsB (evO env x).cells=true then some (.new ⟨(evO env x).cells.length,[(evO env x).cells],.box⟩ none)else none
 | .build t ps=>ob (zeroAt P t) fun z=>ob (placeF P t) fun pl=>ob (fillA pl z (evP env ps.toList)) fun cs=>some (.val (.agg cs))
 | .buildSlice t n ps=>ob (elemSz P t) fun e=>if n=ps.size∧n*e.1≤1024 then ob (litGo e.1 0 (evP env ps.toList)) fun rs=>some (.val (.lst e.1 rs .exact))else none
 | .load t a=>ob (ldv P H t (evO env a)) fun v=>some (.val v)
 | .store t a x=>ob (stv P nh H t (evO env x) (evO env a)) fun p=>some (.upd p.1 p.2)
 | .nilCheck x=>match evO env x with | .ptr b i o=>some (.val (.ptr b i o)) | .iptr r o=>some (.val (.iptr r o)) | .fn f cs=>some (.val (.fn f cs)) |_=>none
 | .binOp op t x y _=>ob (binn P op t (evO env x) (evO env y) y) fun v=>some (.val v)
 | .unOp op _ x=>ob (unv op (evO env x)) fun v=>some (.val v)
 | .convert s d x=>ob (convv P s d (evO env x)) fun v=>some (.val v)
 | .makeInterface t x=>match P.underlying t with |some (.interface _)=>none |some _=>some (.val (.iface t (evO env x))) |none=>none
 | .makeFunc (.func f) first caps=>if first.toList.isEmpty then some (.val (.fn f (evL env caps.toList)))else none
 | .makeSlice t l c=>makv P m t (evO env l) (evO env c)
 | .slice t x lo hi mx=>ob (slv P H t (evO env x) (optO env lo) (optO env hi) (optO env mx)) fun v=>some (.val v)
 | .fieldAddr t x f=>ob (fav P t f (evO env x)) fun v=>some (.val v)
 | .field t x f=>ob (fldv P t f (evO env x)) fun v=>some (.val v)
 | .indexAddr t x i=>ob (iav P H t (evO env x) (evO env i)) fun v=>some (.val v)
 | .index t x i=>ob (ixv P t (evO env x) (evO env i)) fun v=>some (.val v)
 | .typeAssert x _ t ok=>if ok then ob (assertv P t (evO env x)) fun v=>some (.val v)else none
 | .extract x i=>match evO env x with | .tup vs=>ob (vs[i]?) fun v=>some (.val v) |_=>none
 | .call c=>callv P m K env c
 | .panic x=>match evO env x with | .iface t v=>if pureB v=true then some (.pan (.iface t v))else none |_=>none
 |_=>none
end Go.Sym
end
section
namespace Go.Sym
def get:List (Nat×AV)→Nat→AV
 | [],_=>.undef
 | (i,v)::r,t=>if i=t then v else get r t
structure St where
 env:List (Nat×AV)
 heap:List Blk
 toks:List Nat
 nh:Nat
def St.put (s:St) (d:Option Nat) (v:AV):St:=match d with |some d=>{ s with env:=(d,v)::s.env } |none=>s
def St.H (s:St):Nat→Option Blk:=fun b=>s.heap[b]?
def St.K (s:St):Nat→Option Nat:=fun t=>s.toks[t]?
inductive Res where
 |ret (v:AV)
 |panic (v:AV)
inductive IRes where
 |ret (v:AV)
 |own (sz:Nat) (rows:List (List AV))
 |panic (v:AV)
structure Ctx where
 P:Program
 mode:FuncId→Nat→Nat
 keep:FuncId→Nat→List Nat
 tz:FuncId→Nat→List (Nat×Nat)
 own:FuncId→Bool
 prim:FuncId→Option (List AV→Option IRes)
 sprim:FuncId→Option (List AV→List Blk→List Nat→Option (Res×List Blk×List Nat))
 share:FuncId→List AV→Bool
 raw:FuncId→Bool
 sep:FuncId→Nat→List (Nat×Nat)
 cut:FuncId→Nat→Bool
 rng:FuncId→Bool
 dfr:FuncId→Bool
 rok:FuncId→List Tmp→Code→Code→Bool
 has:FuncId→Bool
abbrev CallFn:=FuncId→List AV→List Blk→List Nat→Option (Res×List Blk×List Nat)
inductive Out where
 |next (s:St) |ret (s:St) |exit (id:Nat) (s:St) |panic (v:AV) (s:St)
def andThen (x:Option Out) (f:St→Option Out):Option Out:=
 match x with
 |some (.next s)=>f s
 |o=>o
def blk (id:Nat) (x:Option Out):Option Out:=
 match x with
 |some (.exit i s)=>if i=id then some (.next s)else some (.exit i s)
 |o=>o
def St.ap (s:St) (d:Option Nat):Eff→Option St
 | .val v=>some (s.put d v)
 | .new k none=>some ({ s with heap:=s.heap++[k] }.put d (.ptr s.heap.length 0 0))
 | .new k (some n)=>some ({ s with heap:=s.heap++[k] }.put d (.win s.heap.length 0 n.1 n.2))
 | .upd b k=>some ({ s with heap:=s.heap.set b k }.put d .undef)
 | .ntok sz rows=>some ({ s with toks:=s.toks++[rows.length] }.put d (.lst sz rows (.tok s.toks.length)))
 | .stok t sz rows=>some ({ s with toks:=s.toks.set t rows.length }.put d (.lst sz rows (.tok t)))
 |_=>none
def iret (own:Bool) (ks:List Nat) (v:AV):Option IRes:=
 match own,v with
 |true,.lst sz rows c=>(match c with
  | .nil=>if rows=[]then some (.own sz rows)else none
  | .tok t=>if ks[t]? =some rows.length then some (.own sz rows)else none
  |_=>none)
 |_,v=>match v with
  | .lst _ _ .bor=>none
  |v=>if pureB (strip v)=true then some (.ret (normv v))else none
def icall (X:Ctx) (cl:CallFn) (g:FuncId) (args:List AV):Option IRes:=
 match X.prim g with
 |some F=>F args
 |none=>ob (cl g args [] []) fun r=>match r.1 with
  | .ret v=>iret (X.own g) r.2.2 v
  | .panic v=>if pureB v=true then some (.panic v)else none
def rid:Nat:=1000000
def scall (X:Ctx) (cl:CallFn) (g:FuncId) (args:List AV) (H:List Blk) (K:List Nat):Option (Res×List Blk×List Nat):=match X.sprim g with
 |some F=>F args H K
 |none=>cl g args H K
def sharedOp (X:Ctx) (cl:CallFn) (dr:Bool) (d:Option Nat) (g:FuncId) (args:List AV) (s:St) (k:St→Option Out):Option Out:=
 if dr then none else
  ob (scall X cl g args s.heap s.toks) fun r=>match r.1 with
   | .ret v=>k ({ s with heap:=r.2.1,toks:=r.2.2 }.put d v)
   | .panic v=>some (.panic v { s with heap:=r.2.1,toks:=r.2.2 })
def callOp (X:Ctx) (cl:CallFn) (dr:Bool) (d:Option Nat) (g:FuncId) (args:List AV) (s:St) (k:St→Option Out):Option Out:=
 if g < rid then
  if X.share g args=false∧closedL (freezeL s.H args)=true then
   ob (icall X cl g (freezeL s.H args)) fun r=>match r with
    | .ret v=>k (s.put d v)
    | .own sz rows=>k ({ s with toks:=s.toks++[rows.length] }.put d (.lst sz rows (.tok s.toks.length)))
    | .panic v=>if dr then none else some (.panic v s)
  else sharedOp X cl dr d g args s k
 else none
def opGo (X:Ctx) (cl:CallFn) (f:FuncId) (dr:Bool) (o:Oper) (s:St) (k:St→Option Out):Option Out:=
 ob (effOf X.P s.nh (X.mode f (o.dst.getD 0)) (get s.env) s.H s.K o.op) fun e=>match e with
  | .call g args=>callOp X cl (dr&& !X.cut f (o.dst.getD 0)) o.dst g args s k
  | .round b args=>sharedOp X cl (dr&& !X.cut f (o.dst.getD 0)) o.dst (rid+b) args s k
  | .pan v=>if dr then none else some (.panic v s)
  |e=>ob (s.ap o.dst e) k
def guardOf (ops:List Oper) (o:Oper):Option (Option (Nat×Bool)):=
 match o.guard with
 |none=>some none
 |some (j,want)=>ob (ops[j]?) fun q=>ob q.dst fun d=>some (some (d,want))
def gsays (v:AV) (want:Bool):Option Bool:=match v with
 | .bool b=>some (b==want)
 | .tup []=>some false
 |_=>none
def evs (X:Ctx) (cl:CallFn) (f:FuncId) (dr:Bool) (ops:List Oper):List Oper→St→Option Out
 | [],s=>some (.next s)
 |o::r,s=>ob (guardOf ops o) fun g=>match g with
  |none=>opGo X cl f dr o s (evs X cl f dr ops r)
  |some (d,want)=>ob (gsays (get s.env d) want) fun y=>if y=true then opGo X cl f dr o s (evs X cl f dr ops r)else evs X cl f dr ops r (s.put o.dst (.tup []))
def sepB:AV→AV→Bool
 | .ptr b _ _,.ptr c _ _=>b != c
 | .iptr ..,_=>true
 |_,_=>false
def sepc (l:List (Nat×Nat)) (s:St):Option Out:=if l.all (fun p=>sepB (get s.env p.1) (get s.env p.2))=true then some (.next s)else none
def regGo (dr:Bool) (l:List (Nat×Nat)) (x:Option Out):Option Out:=match dr with
 |false=>x
 |true=>andThen x (sepc l)
def purR:List (List AV)→Bool
 | []=>true
 |r::q=>pureL (stripL r)&&cellsB r&&purR q
mutual
def seal0 (nh:Nat) (H:Nat→Option Blk):AV→AV
 | .win b off len cap=>if b < nh then .win b off len cap else match H b with
  |some k=>if k.rows.length < off+len then .win b off len cap else(match k.kind with
   | .data=>.lst (szOf k.sz ((k.rows.drop off).take len)) (((k.rows.drop off).take len).map normL) .no
   | .toky=>.lst (szOf k.sz ((k.rows.drop off).take len)) (((k.rows.drop off).take len).map normL) .no
   | .box=>if purR ((k.rows.drop off).take len)=true then .lst (szOf k.sz ((k.rows.drop off).take len)) (((k.rows.drop off).take len).map normL) .no else .win b off len cap
   |_=>.win b off len cap)
  |none=>.win b off len cap
 | .agg cs=>.agg (seal0L nh H cs)
 | .tup cs=>.tup (seal0L nh H cs)
 | .fn f cs=>.fn f (seal0L nh H cs)
 | .iface t v=>.iface t (seal0 nh H v)
 |v=>v
def seal0L (nh:Nat) (H:Nat→Option Blk):List AV→List AV
 | []=>[]
 |v::r=>seal0 nh H v::seal0L nh H r
end
mutual
def sealv (nh:Nat) (H:Nat→Option Blk):AV→AV
 | .win b off len cap=>if b < nh then .win b off len cap else match H b with
  |some k=>if k.rows.length < off+len then .win b off len cap else(match k.kind with
   | .data=>.lst (szOf k.sz ((k.rows.drop off).take len)) (((k.rows.drop off).take len).map normL) .no
   | .toky=>.lst (szOf k.sz ((k.rows.drop off).take len)) (((k.rows.drop off).take len).map normL) .no
   | .box=>if purR ((k.rows.drop off).take len)=true then .lst (szOf k.sz ((k.rows.drop off).take len)) (((k.rows.drop off).take len).map normL) .no else
     if purR (((k.rows.drop off).take len).map (seal0L nh H))=true then .lst (szOf k.sz ((k.rows.drop off).take len)) ((((k.rows.drop off).take len).map (seal0L nh H)).map normL) .no else .win b off len cap
   |_=>.win b off len cap)
  |none=>.win b off len cap
 | .agg cs=>.agg (sealL nh H cs)
 | .tup cs=>.tup (sealL nh H cs)
 | .fn f cs=>.fn f (sealL nh H cs)
 | .iface t v=>.iface t (sealv nh H v)
 |v=>v
def sealL (nh:Nat) (H:Nat→Option Blk):List AV→List AV
 | []=>[]
 |v::r=>sealv nh H v::sealL nh H r
end
mutual
def scrub (n m:Nat):AV→AV
 | .ptr b i o=>if b < n then .ptr b i o else .undef
 | .win b off len cap=>if b < n then .win b off len cap else .undef
 | .yld b=>if b < n then .yld b else .undef
 | .lst sz r (.tok t)=>if t < m then .lst sz r (.tok t)else .lst (szOf sz r) r .no
 | .agg cs=>.agg (scrubL n m cs)
 | .tup cs=>.tup (scrubL n m cs)
 | .fn f cs=>.fn f (scrubL n m cs)
 | .iface t v=>.iface t (scrub n m v)
 |v=>v
def scrubL (n m:Nat):List AV→List AV
 | []=>[]
 |v::r=>scrub n m v::scrubL n m r
end
def scrubE (n m:Nat):List (Nat×AV)→List (Nat×AV)
 | []=>[]
 | (i,v)::r=>(i,scrub n m v)::scrubE n m r
def sealE (n:Nat) (H:Nat→Option Blk):List (Nat×AV)→List (Nat×AV)
 | []=>[]
 | (i,v)::r=>(i,sealv n H v)::sealE n H r
def sealK (n:Nat) (H:Nat→Option Blk) (k:Blk):Blk:=match k.kind with
 | .box=>{ k with rows:=k.rows.map (sealL n H) }
 | .rng f nt env ps as bd st=>{ k with kind:=.rng f nt (sealE n H env) ps as bd st }
 |_=>k
def scrubK (n m:Nat) (k:Blk):Blk:=match k.kind with
 | .data=>k
 | .rng f nt env ps as bd st=>{ k with kind:=.rng f nt (scrubE n m env) ps as bd st }
 |_=>{ k with rows:=k.rows.map (scrubL n m) }
def firstReg:Code→Nat
 | .region i _ _=>i
 | .seq a _=>firstReg a
 | .block _ c=>firstReg c
 | .loop c=>firstReg c
 | .rangeFunc _ _ _ c=>firstReg c
 |_=>0
def keepEnv (n m:Nat) (H:Nat→Option Blk) (env:List (Nat×AV)):List Nat→List (Nat×AV)
 | []=>[]
 |t::r=>(t,scrub n m (sealv n H (get env t)))::keepEnv n m H env r
def St.gc (keep:List Nat) (n m:Nat) (s:St):St:=
 if s.nh=0 then { env:=keepEnv n m s.H s.env keep,heap:=(s.heap.take n).map (fun k=>scrubK n m (sealK n s.H k)),toks:=s.toks.take m,nh:=0 }
 else { env:=keepEnv n s.toks.length s.H s.env keep,heap:=s.heap.take s.nh++((s.heap.take n).drop s.nh).map (fun k=>scrubK n s.toks.length (sealK n s.H k)),toks:=s.toks,nh:=s.nh }
def tzB (s:St) (b i c sz:Nat):Option Blk:=match s.heap[b]? with
 |some k=>match k.kind,k.rows[i]? with
  | .box,some row=>match row[c]? with
   |some (.lst _ [] .nil)=>some { k with rows:=k.rows.set i (row.set c (.lst sz [] (.tok s.toks.length))) }
   |_=>none
  |_,_=>none
 |none=>none
def St.tz (s:St):List (Nat×Nat)→St
 | []=>s
 | (t,sz)::r=>match get s.env t with
  | .lst _ [] .nil=>({ s with toks:=s.toks++[0] }.put (some t) (.lst sz [] (.tok s.toks.length))).tz r
  | .ptr b i o=>match tzB s b i (o+sz / 4096) (sz % 4096)with
   |some k=>({ s with toks:=s.toks++[0],heap:=s.heap.set b k }:St).tz r
   |none=>s.tz r
  |_=>s.tz r
def iter (body:St→Option Out) (norm:St→St):Nat→St→Option Out
 |0,_=>none
 |k+1,s=>match body (norm s)with
  |some (.next s')=>iter body norm k s'
  |o=>o
def ntOf (P:Program) (f:FuncId):Nat:=match P.funcs[f]? with |some fn=>fn.ntmps |none=>0
def putSt (H:List Blk) (b:Nat) (st:LoopSt):Option (List Blk):=ob (H[b]?) fun k=>match k.kind with
 | .rng f nt env ps as bd _=>some (H.set b { k with kind:=.rng f nt env ps as bd st })
 |_=>none
def readyB:Option Blk→Bool
 |some k=>match k.kind with | .rng _ _ _ _ _ _ st=>(match st with | .ready=>true |_=>false) |_=>false
 |none=>false
def rangeEnd (s:St) (r:Res×List Blk×List Nat):Option Out:=
 match r.1 with
 | .panic _=>none
 | .ret _=>ob (r.2.1[s.heap.length]?) fun k=>match k.kind with
  | .rng _ _ _ _ _ _ st=>match st with
   | .ready=>some (.next { s with heap:=r.2.1.take s.heap.length,toks:=r.2.2 })
   | .done .ret=>some (.ret { s with heap:=r.2.1.take s.heap.length,toks:=r.2.2 })
   | .done (.exit i)=>some (.exit i { s with heap:=r.2.1.take s.heap.length,toks:=r.2.2 })
   |_=>none
  |_=>none
def exec (X:Ctx) (cl:CallFn) (n:Nat) (f:FuncId):Code→St→Option Out
 | .skip,s=>some (.next s)
 | .label _,s=>some (.next s)
 | .region id ops dr,s=>regGo dr (X.sep f id) (evs X cl f dr ops.toList ops.toList s)
 | .seq a b,s=>andThen (exec X cl n f a s) (exec X cl n f b)
 | .cond c a b,s=>match evO (get s.env) c with
  | .bool t=>if t then exec X cl n f a s else exec X cl n f b s
  |_=>none
 | .block id c,s=>blk id (exec X cl n f c s)
 | .loop c,s=>
  let s1:=s.tz (X.tz f (firstReg c))
  iter (fun s=>exec X cl n f c s) (St.gc (X.keep f (firstReg c)) s1.heap.length s1.toks.length) n s1
 | .exit id,s=>some (.exit id s)
 | .ret,s=>some (.ret s)
 | .rangeFunc g ps as bd,s=>match evO (get s.env) g with
  | .fn h caps=>if h < rid∧X.rng f=true then
    ob (cl h (.yld s.heap.length::caps) (s.heap++[⟨0,[],.rng f (ntOf X.P f) s.env ps.toList as bd .ready⟩]) s.toks) (rangeEnd s)else none
  |_=>none
 |_,_=>none
def resOf (P:Program) (s:St):List ResultVar→Option (List AV)
 | []=>some []
 | .tmp t::r=>ob (resOf P s r) fun vs=>some (get s.env t::vs)
 | .cell a t::r=>ob (ldv P s.H t (get s.env a)) fun v=>ob (resOf P s r) fun vs=>some (v::vs)
def one:List AV→AV
 | [v]=>v
 |vs=>.tup vs
def envOf:Nat→List AV→List (Nat×AV)
 |_,[]=>[]
 |i,v::r=>(i,v)::envOf (i+1) r
def leave (P:Program) (raw:Bool) (rs:List ResultVar) (s:St):Option (Res×List Blk×List Nat):=
 ob (resOf P s rs) fun vs=>
  if raw=false∧below s.nh (sealv s.nh s.H (one vs))=true then some (.ret (sealv s.nh s.H (one vs)),s.heap.take s.nh,s.toks)
  else some (.ret (one vs),s.heap,s.toks)
def fin (P:Program) (raw:Bool) (rs:List ResultVar):Out→Option (Res×List Blk×List Nat)
 | .next s=>leave P raw rs s
 | .ret s=>leave P raw rs s
 | .panic v s=>if pureB v=true then some (.panic v,s.heap.take s.nh,s.toks)else none
 | .exit _ _=>none
def finR (b:Nat):Out→Option (Res×List Blk×List Nat)
 | .next s=>ob (putSt (s.heap.take s.nh) b .ready) fun H=>some (.ret (.bool true),H,s.toks)
 | .ret s=>ob (putSt (s.heap.take s.nh) b (.done .ret)) fun H=>some (.ret (.bool false),H,s.toks)
 | .exit i s=>ob (putSt (s.heap.take s.nh) b (.done (.exit i))) fun H=>some (.ret (.bool false),H,s.toks)
 | .panic _ _=>none
def roundEnv:List Tmp→List AV→List (Nat×AV)→List (Nat×AV)
 |p::ps,v::vs,e=>roundEnv ps vs ((p,v)::e)
 |_,_,e=>e
def roundOf (X:Ctx) (ex:FuncId→Code→St→Option Out) (b:Nat) (args:List AV) (H:List Blk) (K:List Nat):Option (Res×List Blk×List Nat):=
 ob (H[b]?) fun k=>match k.kind with
  | .rng f nt env ps as bd st=>match st with
   | .ready=>if X.rok f ps as bd=true∧nt=ntOf X.P f∧args.length=ps.length then
     ob (ex f as { env:=roundEnv ps args env,heap:=H,toks:=K,nh:=H.length }) fun o=>match o with
      | .next s=>if readyB s.heap[b]? =true then ob (putSt s.heap b .busy) fun H1=>ob (ex f bd { s with heap:=H1 }) (finR b)else none
      |_=>none
    else none
   |_=>none
  |_=>none
def dfrOf (c:Code):Option (Code×FuncId×List Operand×Nat×Code):=match c with
 | .seq a (.seq (.region _ ops dr) rest)=>match dr,ops.toList with
  |false,[o1,o2]=>match o1.dst,o1.op,o1.guard,o2.dst,o2.op,o2.guard with
   |some d,.makeFunc (.func h) first caps,none,none,.defer ⟨.value (.tmp d'),args,_⟩,none=>if d'=d∧first.toList.isEmpty=true∧args.toList.isEmpty=true then some (a,h,caps.toList,d,rest)else none
   |_,_,_,_,_,_=>none
  |_,_=>none
 |_=>none
def recOf (c:Code):Option (Nat×Code):=match c with
 | .seq (.region _ ops dr) rest=>match dr,ops.toList with
  |false,[o]=>match o.dst,o.op,o.guard with
   |some d,.call ⟨.builtin .recover,args,_⟩,none=>if args.toList.isEmpty=true then some (d,rest)else none
   |_,_,_=>none
  |_,_=>none
 |_=>none
def endD:Out→Option (List Blk×List Nat)
 | .next s=>some (s.heap.take s.nh,s.toks)
 | .ret s=>some (s.heap.take s.nh,s.toks)
 |_=>none
def runD (X:Ctx) (ex:FuncId→Code→St→Option Out) (h:FuncId) (caps:List AV) (pv:AV) (H:List Blk) (K:List Nat):Option (List Blk×List Nat):=
 ob (X.P.funcs[h]?) fun fn=>ob fn.body fun c=>ob (recOf c) fun p=>
  if X.has h=true∧X.rng h=false∧caps.length=fn.params.size+fn.nfree∧fn.results.toList.isEmpty=true∧p.1 < fn.ntmps then
   ob (ex h p.2 (St.put { env:=envOf 0 caps,heap:=H,toks:=K,nh:=H.length } (some p.1) pv)) endD
  else none
def finD (X:Ctx) (ex:FuncId→Code→St→Option Out) (rs:List ResultVar) (h:FuncId) (caps:List AV) (nh:Nat):Out→Option (Res×List Blk×List Nat)
 | .next s=>ob (runD X ex h caps .niface s.heap s.toks) fun p=>leave X.P false rs { s with heap:=p.1,toks:=p.2,nh:=nh }
 | .ret s=>ob (runD X ex h caps .niface s.heap s.toks) fun p=>leave X.P false rs { s with heap:=p.1,toks:=p.2,nh:=nh }
 | .panic v s=>ob (runD X ex h caps v s.heap s.toks) fun p=>leave X.P false rs { s with heap:=p.1,toks:=p.2,nh:=nh }
 | .exit _ _=>none
def callD (X:Ctx) (ex:FuncId→Code→St→Option Out) (g:FuncId) (rs:List ResultVar) (c:Code) (s:St):Option (Res×List Blk×List Nat):=
 ob (dfrOf c) fun p=>ob (ex g p.1 s) fun o=>match o with
  | .next s1=>ob (ex g p.2.2.2.2 { (s1.put (some p.2.2.2.1) (.fn p.2.1 (evL (get s1.env) p.2.2.1)))with nh:=s1.heap.length }) (finD X ex rs p.2.1 (evL (get s1.env) p.2.2.1) s1.nh)
  |_=>none
def callN (X:Ctx):Nat→CallFn
 |0,_,_,_,_=>none
 |n+1,g,args,H,K=>
  if g < rid then
   ob (X.P.funcs[g]?) fun fn=>ob fn.body fun c=>
    if X.has g=true∧args.length=fn.params.size+fn.nfree then
     (match X.dfr g with
     |false=>ob (exec X (callN X n) n g c { env:=envOf 0 args,heap:=H,toks:=K,nh:=H.length }) (fin X.P (X.raw g) fn.results.toList)
     |true=>if X.rng g=false then callD X (exec X (callN X n) n) g fn.results.toList c { env:=envOf 0 args,heap:=H,toks:=K,nh:=H.length }else none)
    else none
  else roundOf X (exec X (callN X n) n) (g-rid) args H K
def LeO {α:Type} (a b:Option α):Prop:=∀r,a=some r→b=some r
theorem LeO.refl {α:Type} (a:Option α):LeO a a:=fun _ h=>h
theorem LeO.ob {α β:Type} {x y:Option α} {f g:α→Option β} (h:LeO x y) (hf:∀a,LeO (f a) (g a)):LeO (ob x f) (ob y g):=by
 intro r hr
 cases x with
 |none=>simp[Sym.ob]at hr
 |some a=>
  rw[h a rfl]
  exact hf a r hr
def LeC (a b:CallFn):Prop:=∀g as H K,LeO (a g as H K) (b g as H K)
theorem icall_mono {X:Ctx} {a b:CallFn} (h:LeC a b) (g:FuncId) (as:List AV):LeO (icall X a g as) (icall X b g as):=by
 unfold icall
 cases X.prim g with
 |some F=>exact LeO.refl _
 |none=>exact LeO.ob (h _ _ _ _) fun _=>LeO.refl _
theorem scall_mono {X:Ctx} {a b:CallFn} (h:LeC a b) (g as H K):LeO (scall X a g as H K) (scall X b g as H K):=by
 unfold scall
 cases X.sprim g with
 |some F=>exact LeO.refl _
 |none=>exact h _ _ _ _
theorem sharedOp_mono {X:Ctx} {a b:CallFn} (h:LeC a b) {dr:Bool} {d:Option Nat} {g:FuncId} {as:List AV} {s:St} {k k':St→Option Out} (hk:∀s,LeO (k s) (k' s)):
  LeO (sharedOp X a dr d g as s k) (sharedOp X b dr d g as s k'):=by
 unfold sharedOp
 split
 ·exact LeO.refl _
 ·refine LeO.ob (scall_mono h _ _ _ _) fun r=>?_
  rcases r with⟨r1,r2⟩
  cases r1 <;> first |exact hk _ |exact LeO.refl _
theorem callOp_mono {X:Ctx} {a b:CallFn} (h:LeC a b) {dr:Bool} {d:Option Nat} {g:FuncId} {as:List AV} {s:St} {k k':St→Option Out} (hk:∀s,LeO (k s) (k' s)):
  LeO (callOp X a dr d g as s k) (callOp X b dr d g as s k'):=by
 unfold callOp
 split
 ·split
  ·refine LeO.ob (icall_mono h _ _) fun r=>?_
   cases r <;> first |exact hk _ |exact LeO.refl _
  ·exact sharedOp_mono h hk
 ·exact LeO.refl _
theorem opGo_mono {X:Ctx} {a b:CallFn} (h:LeC a b) {f:FuncId} {dr:Bool} {o:Oper} {s:St} {k k':St→Option Out} (hk:∀s,LeO (k s) (k' s)):
  LeO (opGo X a f dr o s k) (opGo X b f dr o s k'):=by
 unfold opGo
 refine LeO.ob (LeO.refl _) fun e=>?_
 cases e <;> first |exact callOp_mono h hk |exact sharedOp_mono h hk |exact LeO.refl _ |exact LeO.ob (LeO.refl _) hk
theorem evs_mono {X:Ctx} {a b:CallFn} (h:LeC a b) {f:FuncId} {dr:Bool} {ops:List Oper}:∀(l:List Oper) (s:St),LeO (evs X a f dr ops l s) (evs X b f dr ops l s)
 | [],s=>LeO.refl _
 |o::r,s=>by
  simp only[evs]
  refine LeO.ob (LeO.refl _) fun g=>?_
  split
  ·exact opGo_mono h (evs_mono h r)
  ·refine LeO.ob (LeO.refl _) fun y=>?_
   split
   ·exact opGo_mono h (evs_mono h r)
   ·exact evs_mono h r _
theorem iter_mono {b b':St→Option Out} {norm:St→St} (h:∀s,LeO (b s) (b' s)):∀{n m:Nat},n≤m→∀s,LeO (iter b norm n s) (iter b' norm m s)
 |0,_,_,_=>fun r hr=>by simp[iter]at hr
 |n+1,0,hnm,_=>by omega
 |n+1,m+1,hnm,s=>by
  intro r hr
  simp only[iter]at hr ⊢
  cases hb:b (norm s)with
  |none=>simp[hb]at hr
  |some o=>
   rw[h _ _ hb]
   rw[hb]at hr
   cases o with
   |next s'=>exact iter_mono h (by omega) s' r hr
   |_=>exact hr
theorem andThen_mono {x y:Option Out} {f g:St→Option Out} (h:LeO x y) (hf:∀s,LeO (f s) (g s)):LeO (andThen x f) (andThen y g):=by
 intro r hr
 cases x with
 |none=>simp[andThen]at hr
 |some o=>
  rw[h o rfl]
  cases o with
  |next s=>exact hf s r hr
  |_=>exact hr
theorem blk_mono {x y:Option Out} {id:Nat} (h:LeO x y):LeO (blk id x) (blk id y):=by
 intro r hr
 cases x with
 |none=>simp[blk]at hr
 |some o=>rw[h o rfl];exact hr
theorem exec_mono {X:Ctx} {a b:CallFn} (h:LeC a b) {n m:Nat} (hnm:n≤m) {f:FuncId}:∀(c:Code) (s:St),LeO (exec X a n f c s) (exec X b m f c s)
 | .skip,s=>LeO.refl _
 | .label _,s=>LeO.refl _
 | .region _ ops dr,s=>by
  simp only[exec]
  cases dr with
  |false=>exact evs_mono h _ _
  |true=>exact andThen_mono (evs_mono h _ _) fun _=>LeO.refl _
 | .seq x y,s=>andThen_mono (exec_mono h hnm x s) (exec_mono h hnm y)
 | .cond c x y,s=>by
  simp only[exec]
  split
  ·split
   ·exact exec_mono h hnm x s
   ·exact exec_mono h hnm y s
  ·exact LeO.refl _
 | .block id c,s=>blk_mono (exec_mono h hnm c s)
 | .loop c,s=>by
  simp only[exec]
  exact iter_mono (exec_mono h hnm c) hnm _
 | .exit _,s=>LeO.refl _
 | .ret,s=>LeO.refl _
 | .rangeFunc ..,s=>by
  simp only[exec]
  split
  ·split
   ·exact LeO.ob (h _ _ _ _) fun _=>LeO.refl _
   ·exact LeO.refl _
  ·exact LeO.refl _
 | .scope _,s=>LeO.refl _
 | .goto _,s=>LeO.refl _
 | .refuse _,s=>LeO.refl _
theorem roundOf_mono {X:Ctx} {e e':FuncId→Code→St→Option Out} (h:∀f c s,LeO (e f c s) (e' f c s)) (b:Nat) (args:List AV) (H:List Blk) (K:List Nat):LeO (roundOf X e b args H K) (roundOf X e' b args H K):=by
 unfold roundOf
 refine LeO.ob (LeO.refl _) fun k=>?_
 split
 ·split
  ·split
   ·refine LeO.ob (h _ _ _) fun o=>?_
    cases o with
    |next s=>
     simp only
     split
     ·exact LeO.ob (LeO.refl _) fun _=>LeO.ob (h _ _ _) fun _=>LeO.refl _
     ·exact LeO.refl _
    |_=>exact LeO.refl _
   ·exact LeO.refl _
  ·exact LeO.refl _
 ·exact LeO.refl _
theorem runD_mono {X:Ctx} {e e':FuncId→Code→St→Option Out} (he:∀f c s,LeO (e f c s) (e' f c s)) (h caps pv H K):LeO (runD X e h caps pv H K) (runD X e' h caps pv H K):=by
 unfold runD
 refine LeO.ob (LeO.refl _) fun fn=>LeO.ob (LeO.refl _) fun c=>LeO.ob (LeO.refl _) fun p=>?_
 split
 ·exact LeO.ob (he _ _ _) fun _=>LeO.refl _
 ·exact LeO.refl _
theorem callD_mono {X:Ctx} {e e':FuncId→Code→St→Option Out} (he:∀f c s,LeO (e f c s) (e' f c s)) (g rs c s):LeO (callD X e g rs c s) (callD X e' g rs c s):=by
 unfold callD
 refine LeO.ob (LeO.refl _) fun p=>LeO.ob (he _ _ _) fun o=>?_
 cases o with
 |next s1=>
  refine LeO.ob (he _ _ _) fun o=>?_
  cases o <;> first |exact LeO.ob (runD_mono he _ _ _ _ _) fun _=>LeO.refl _ |exact LeO.refl _
 |_=>exact LeO.refl _
theorem callN_mono {X:Ctx}:∀{n m:Nat},n≤m→LeC (callN X n) (callN X m)
 |0,_,_=>fun _ _ _ _ r hr=>by simp[callN]at hr
 |n+1,0,h=>by omega
 |n+1,m+1,h=>by
  intro g as H K
  simp only[callN]
  split
  ·refine LeO.ob (LeO.refl _) fun fn=>LeO.ob (LeO.refl _) fun c=>?_
   split
   ·split
    ·exact LeO.ob (exec_mono (callN_mono (by omega)) (by omega) _ _) fun _=>LeO.refl _
    ·split
     ·exact callD_mono (fun f c s=>exec_mono (callN_mono (by omega)) (by omega) c s) _ _ _ _
     ·exact LeO.refl _
   ·exact LeO.refl _
  ·exact roundOf_mono (fun f c s=>exec_mono (callN_mono (by omega)) (by omega) c s) _ _ _ _
end Go.Sym
end
section
namespace Go.Sym
open Classical in
noncomputable def limO {α:Type} (g:Nat→Option α):Option α:=if h:∃n r,g n=some r then some h.choose_spec.choose else none
def Up {α:Type} (g:Nat→Option α):Prop:=∀n m,n≤m→LeO (g n) (g m)
theorem limO_iff {α:Type} {g:Nat→Option α} (hm:Up g) (r:α):limO g=some r↔∃n,g n=some r:=by
 unfold limO
 constructor
 ·intro h
  split at h
  ·rename_i hx
   exact⟨hx.choose,by rw[hx.choose_spec.choose_spec];exact h⟩
  ·simp at h
 ·rintro⟨n,hn⟩
  have hx:∃n r,g n=some r:=⟨n,r,hn⟩
  rw[dif_pos hx]
  have h1:=hx.choose_spec.choose_spec
  have h2:=hm _ _ (Nat.le_max_left hx.choose n) _ h1
  have h3:=hm _ _ (Nat.le_max_right hx.choose n) _ hn
  rw[h2]at h3
  exact h3
theorem eq_of_iff {α:Type} {a b:Option α} (h:∀r,a=some r↔b=some r):a=b:=by
 cases a with
 |none=>cases b with
  |none=>rfl
  |some r=>exact(h r).2 rfl
 |some r=>exact((h r).1 rfl).symm
variable (X:Ctx)
noncomputable def call:CallFn:=fun g as H K=>limO fun n=>callN X n g as H K
noncomputable def ex (f:FuncId) (c:Code) (s:St):Option Out:=limO fun n=>exec X (callN X n) n f c s
noncomputable def loopE (f:FuncId) (c:Code) (norm:St→St) (s:St):Option Out:=limO fun n=>iter (fun s=>exec X (callN X n) n f c s) norm n s
variable {X}
theorem up_call (g as H K):Up fun n=>callN X n g as H K:=fun _ _ h=>callN_mono h g as H K
theorem up_ex (f c s):Up fun n=>exec X (callN X n) n f c s:=fun _ _ h=>exec_mono (callN_mono h) h c s
theorem up_loop (f c norm s):Up fun n=>iter (fun s=>exec X (callN X n) n f c s) norm n s:=fun _ _ h=>iter_mono (exec_mono (callN_mono h) h c) h s
theorem call_iff {g as H K r}:call X g as H K=some r↔∃n,callN X n g as H K=some r:=limO_iff (up_call g as H K) r
theorem ex_iff {f c s o}:ex X f c s=some o↔∃n,exec X (callN X n) n f c s=some o:=limO_iff (up_ex f c s) o
theorem loopE_iff {f c norm s o}:loopE X f c norm s=some o↔∃n,iter (fun s=>exec X (callN X n) n f c s) norm n s=some o:=limO_iff (up_loop f c norm s) o
theorem le_call (n:Nat):LeC (callN X n) (call X):=fun _ _ _ _ r hr=>call_iff.2 ⟨n,hr⟩
def Cont {α:Type} (g:CallFn→Option α):Prop:=(∀ a b,LeC a b→LeO (g a) (g b))∧∀r,g (call X)=some r→∃n,g (callN X n)=some r
theorem Cont.const {α:Type} (x:Option α):Cont (X:=X) (fun _=>x):=⟨fun _ _ _=>LeO.refl _,fun _ h=>⟨0,h⟩⟩
theorem Cont.ob {α β:Type} {x:CallFn→Option α} {k:CallFn→α→Option β} (hx:Cont (X:=X) x) (hk:∀a,Cont (X:=X) fun c=>k c a):Cont (X:=X) fun c=>ob (x c) (k c):=by
 refine⟨fun a b h=>LeO.ob (hx.1 a b h) fun z=>(hk z).1 a b h,fun r h=>?_⟩
 cases he:x (call X)with
 |none=>simp[he,Sym.ob]at h
 |some z=>
  simp only[he,Sym.ob]at h
  obtain⟨n,hn⟩:=hx.2 z he
  obtain⟨m,hm⟩:=(hk z).2 r h
  refine⟨max n m,?_⟩
  have h1:=hx.1 _ _ (callN_mono (Nat.le_max_left n m)) z hn
  simp only[Sym.ob,h1]
  exact(hk z).1 _ _ (callN_mono (Nat.le_max_right n m)) r hm
theorem cont_call (g as H K):Cont (X:=X) fun c=>c g as H K:=⟨fun _ _ h=>h g as H K,fun _ h=>call_iff.1 h⟩
theorem cont_icall (g as):Cont (X:=X) fun c=>icall X c g as:=by
 unfold icall
 cases X.prim g with
 |some F=>exact Cont.const _
 |none=>exact Cont.ob (cont_call _ _ _ _) fun _=>Cont.const _
theorem cont_scall (g as H K):Cont (X:=X) fun c=>scall X c g as H K:=by
 unfold scall
 cases X.sprim g with
 |some F=>exact Cont.const _
 |none=>exact cont_call _ _ _ _
theorem cont_sharedOp {dr d g as s} {k:CallFn→St→Option Out} (hk:∀s,Cont (X:=X) fun c=>k c s):Cont (X:=X) fun c=>sharedOp X c dr d g as s (k c):=by
 unfold sharedOp
 split
 ·exact Cont.const _
 ·refine Cont.ob (cont_scall _ _ _ _) fun r=>?_
  rcases r with⟨r1,r2⟩
  cases r1 <;> first |exact hk _ |exact Cont.const _
theorem cont_callOp {dr d g as s} {k:CallFn→St→Option Out} (hk:∀s,Cont (X:=X) fun c=>k c s):Cont (X:=X) fun c=>callOp X c dr d g as s (k c):=by
 unfold callOp
 split
 ·split
  ·refine Cont.ob (cont_icall _ _) fun r=>?_
   cases r <;> first |exact hk _ |exact Cont.const _
  ·exact cont_sharedOp hk
 ·exact Cont.const _
theorem cont_opGo {f dr o s} {k:CallFn→St→Option Out} (hk:∀s,Cont (X:=X) fun c=>k c s):Cont (X:=X) fun c=>opGo X c f dr o s (k c):=by
 unfold opGo
 refine Cont.ob (Cont.const _) fun e=>?_
 cases e <;> first |exact cont_callOp hk |exact cont_sharedOp hk |exact Cont.const _ |exact Cont.ob (Cont.const _) hk
theorem cont_evs {f dr ops}:∀(l:List Oper) (s:St),Cont (X:=X) fun c=>evs X c f dr ops l s
 | [],s=>Cont.const _
 |o::r,s=>by
  simp only[evs]
  refine Cont.ob (Cont.const _) fun g=>?_
  split
  ·exact cont_opGo (cont_evs r)
  ·refine Cont.ob (Cont.const _) fun y=>?_
   split
   ·exact cont_opGo (cont_evs r)
   ·exact cont_evs r _
section
variable {f:FuncId} {s:St}
theorem ex_region (i ops d):ex X f (.region i ops d) s=regGo d (X.sep f i) (evs X (call X) f d ops.toList ops.toList s):=by
 have reg:∀(x y:Option Out) o,LeO x y→regGo d (X.sep f i) x=some o→regGo d (X.sep f i) y=some o:=fun x y o h=>by
  cases d with
  |false=>exact h o
  |true=>exact andThen_mono h (fun _=>LeO.refl _) o
 have inv:∀(x:Option Out) o,regGo d (X.sep f i) x=some o→∃o1,x=some o1:=fun x o h=>by
  cases x with
  |none=>cases d <;> simp[regGo,andThen]at h
  |some o1=>exact⟨o1,rfl⟩
 refine eq_of_iff fun o=>?_
 rw[ex_iff]
 constructor
 ·rintro⟨n,h⟩
  exact reg _ _ _ (evs_mono (le_call n) _ _) h
 ·intro h
  obtain⟨o1,h1⟩:=inv _ _ h
  obtain⟨n,hn⟩:=(cont_evs (X:=X) (f:=f) (dr:=d) (ops:=ops.toList) ops.toList s).2 o1 h1
  rw[h1]at h
  refine⟨n,?_⟩
  simp only[exec]
  rw[show evs X (callN X n) f d ops.toList ops.toList s=some o1 from hn]
  exact h
theorem ex_skip:ex X f .skip s=some (.next s):=ex_iff.2 ⟨0,rfl⟩
theorem ex_exit (i):ex X f (.exit i) s=some (.exit i s):=ex_iff.2 ⟨0,rfl⟩
theorem ex_ret:ex X f .ret s=some (.ret s):=ex_iff.2 ⟨0,rfl⟩
theorem ex_seq (a b):ex X f (.seq a b) s=andThen (ex X f a s) (ex X f b):=by
 refine eq_of_iff fun o=>?_
 rw[ex_iff]
 constructor
 ·rintro⟨n,h⟩
  exact andThen_mono (fun r hr=>ex_iff.2 ⟨n,hr⟩) (fun s r hr=>ex_iff.2 ⟨n,hr⟩) _ h
 ·intro h
  cases he:ex X f a s with
  |none=>simp[he,andThen]at h
  |some o1=>
   obtain⟨n,hn⟩:=ex_iff.1 he
   rw[he]at h
   cases o1 with
   |next s1=>
    obtain⟨m,hm⟩:=ex_iff.1 (show ex X f b s1=some o from h)
    refine⟨max n m,?_⟩
    simp only[exec,up_ex f a s _ _ (Nat.le_max_left n m) _ hn,andThen]
    exact up_ex f b s1 _ _ (Nat.le_max_right n m) _ hm
   |_=>exact⟨n,by simp only[exec,hn];exact h⟩
theorem ex_cond (c a b):ex X f (.cond c a b) s=match evO (get s.env) c with | .bool t=>if t then ex X f a s else ex X f b s |_=>none:=by
 refine eq_of_iff fun o=>?_
 rw[ex_iff]
 simp only[exec]
 cases evO (get s.env) c with
 |bool t=>cases t <;> simp[ex_iff]
 |_=>simp
theorem ex_block (i c):ex X f (.block i c) s=blk i (ex X f c s):=by
 refine eq_of_iff fun o=>?_
 rw[ex_iff]
 constructor
 ·rintro⟨n,h⟩
  exact blk_mono (fun r hr=>ex_iff.2 ⟨n,hr⟩) _ h
 ·intro h
  cases he:ex X f c s with
  |none=>simp[he,blk]at h
  |some o1=>
   obtain⟨n,hn⟩:=ex_iff.1 he
   exact⟨n,by simp only[exec,hn];rw[he]at h;exact h⟩
theorem ex_loop (c):ex X f (.loop c) s=loopE X f c (St.gc (X.keep f (firstReg c)) (s.tz (X.tz f (firstReg c))).heap.length (s.tz (X.tz f (firstReg c))).toks.length) (s.tz (X.tz f (firstReg c))):=by
 refine eq_of_iff fun o=>?_
 rw[ex_iff,loopE_iff]
 simp only[exec]
theorem loopE_step (c norm):loopE X f c norm s=match ex X f c (norm s)with |some (.next s')=>loopE X f c norm s' |o=>o:=by
 refine eq_of_iff fun o=>?_
 rw[loopE_iff]
 constructor
 ·rintro⟨n,h⟩
  cases n with
  |zero=>simp[iter]at h
  |succ n=>
   simp only[iter]at h
   cases he:exec X (callN X (n+1)) (n+1) f c (norm s)with
   |none=>simp[he]at h
   |some o1=>
    rw[ex_iff.2 ⟨n+1,he⟩]
    rw[he]at h
    cases o1 with
    |next s1=>exact loopE_iff.2 ⟨n+1,iter_mono (fun _=>LeO.refl _) (Nat.le_succ n) _ _ h⟩
    |_=>exact h
 ·intro h
  cases he:ex X f c (norm s)with
  |none=>simp[he]at h
  |some o1=>
   obtain⟨n,hn⟩:=ex_iff.1 he
   rw[he]at h
   cases o1 with
   |next s1=>
    obtain⟨m,hm⟩:=loopE_iff.1 (show loopE X f c norm s1=some o from h)
    refine⟨max n m+1,?_⟩
    simp only[iter]
    rw[show exec X (callN X (max n m+1)) (max n m+1) f c (norm s)=_ from up_ex f c (norm s) n (max n m+1) (by omega) _ hn]
    exact iter_mono (fun s=>up_ex f c s _ _ (by omega)) (Nat.le_max_right n m) _ _ hm
   |_=>
    refine⟨n+1,?_⟩
    simp only[iter]
    rw[show exec X (callN X (n+1)) (n+1) f c (norm s)=_ from up_ex f c (norm s) n (n+1) (by omega) _ hn]
    exact h
end
theorem ex_rangeFunc {f:FuncId} {s:St} (g ps as bd):ex X f (.rangeFunc g ps as bd) s=match evO (get s.env) g with
  | .fn h caps=>if h < rid∧X.rng f=true then
    ob (call X h (.yld s.heap.length::caps) (s.heap++[⟨0,[],.rng f (ntOf X.P f) s.env ps.toList as bd .ready⟩]) s.toks) (rangeEnd s)else none
  |_=>none:=by
 refine eq_of_iff fun o=>?_
 rw[ex_iff]
 simp only[exec]
 cases evO (get s.env) g with
 |fn h caps=>
  simp only
  by_cases hh:h < rid∧X.rng f=true
  ·simp only[if_pos hh]
   constructor
   ·rintro⟨n,h⟩
    exact LeO.ob (le_call n _ _ _ _) (fun _=>LeO.refl _) _ h
   ·intro h
    cases hc:call X _ _ _ _ with
    |none=>rw[hc]at h;simp[ob]at h
    |some r=>
     obtain⟨n,hn⟩:=call_iff.1 hc
     exact⟨n,by rw[hn];rw[hc]at h;exact h⟩
  ·simp[hh]
 |_=>simp
theorem call_eq {g as H K} (hg:g < rid) (hd:X.dfr g=false):call X g as H K=ob (X.P.funcs[g]?) fun fn=>ob fn.body fun c=>
  if X.has g=true∧as.length=fn.params.size+fn.nfree then ob (ex X g c { env:=envOf 0 as,heap:=H,toks:=K,nh:=H.length }) (fin X.P (X.raw g) fn.results.toList)else none:=by
 refine eq_of_iff fun o=>?_
 rw[call_iff]
 constructor
 ·rintro⟨n,h⟩
  cases n with
  |zero=>simp[callN]at h
  |succ n=>
   simp only[callN,if_pos hg,hd]at h
   refine LeO.ob (LeO.refl _) (fun fn=>LeO.ob (LeO.refl _) fun c=>?_) _ h
   split
   ·exact LeO.ob (fun r hr=>ex_iff.2 ⟨n,hr⟩) fun _=>LeO.refl _
   ·exact LeO.refl _
 ·intro h
  cases hf:X.P.funcs[g]? with
  |none=>simp[hf,ob]at h
  |some fn=>
   cases hb:fn.body with
   |none=>simp[hf,hb,ob]at h
   |some c=>
    simp only[hf,hb,ob]at h
    by_cases hl:X.has g=true∧as.length=fn.params.size+fn.nfree
    ·rw[if_pos hl]at h
     cases he:ex X g c { env:=envOf 0 as,heap:=H,toks:=K,nh:=H.length }with
     |none=>simp[he]at h
     |some o1=>
      obtain⟨n,hn⟩:=ex_iff.1 he
      refine⟨n+1,?_⟩
      simp only[callN,if_pos hg,hf,hb,ob,if_pos hl,hd,hn]
      rw[he]at h
      exact h
    ·rw[if_neg hl]at h
     simp at h
theorem runD_up {h caps pv H K p} (hp:runD X (ex X) h caps pv H K=some p):∃n,∀m,n≤m→runD X (exec X (callN X m) m) h caps pv H K=some p:=by
 unfold runD at hp
 cases hf:X.P.funcs[h]? with
 |none=>simp[hf,ob]at hp
 |some fn=>
  cases hb:fn.body with
  |none=>simp[hf,hb,ob]at hp
  |some c=>
   cases hr:recOf c with
   |none=>simp[hf,hb,hr,ob]at hp
   |some q=>
    simp only[hf,hb,hr,ob]at hp
    split at hp
    ·rename_i hc
     cases he:ex X h q.2 (St.put { env:=envOf 0 caps,heap:=H,toks:=K,nh:=H.length } (some q.1) pv)with
     |none=>simp[he]at hp
     |some o=>
      obtain⟨n,hn⟩:=ex_iff.1 he
      refine⟨n,fun m hm=>?_⟩
      unfold runD
      simp only[hf,hb,hr,ob,if_pos hc,up_ex _ _ _ _ _ hm _ hn]
      rw[he]at hp
      exact hp
    ·simp at hp
theorem call_dfr {g as H K} (hg:g < rid) (hd:X.dfr g=true):call X g as H K=ob (X.P.funcs[g]?) fun fn=>ob fn.body fun c=>
  if X.has g=true∧as.length=fn.params.size+fn.nfree then(if X.rng g=false then callD X (ex X) g fn.results.toList c { env:=envOf 0 as,heap:=H,toks:=K,nh:=H.length }else none)else none:=by
 refine eq_of_iff fun o=>?_
 rw[call_iff]
 constructor
 ·rintro⟨n,h⟩
  cases n with
  |zero=>simp[callN]at h
  |succ n=>
   simp only[callN,if_pos hg,hd]at h
   refine LeO.ob (LeO.refl _) (fun fn=>LeO.ob (LeO.refl _) fun c=>?_) _ h
   split
   ·split
    ·exact callD_mono (fun f c s r hr=>ex_iff.2 ⟨n,hr⟩) _ _ _ _
    ·exact LeO.refl _
   ·exact LeO.refl _
 ·intro h
  cases hf:X.P.funcs[g]? with
  |none=>simp[hf,ob]at h
  |some fn=>
   cases hb:fn.body with
   |none=>simp[hf,hb,ob]at h
   |some c=>
    simp only[hf,hb,ob]at h
    split at h
    ·rename_i hl
     split at h
     ·rename_i hrng
      unfold callD at h
      cases hp:dfrOf c with
      |none=>simp[hp,ob]at h
      |some p=>
       simp only[hp,ob]at h
       cases he:ex X g p.1 { env:=envOf 0 as,heap:=H,toks:=K,nh:=H.length }with
       |none=>simp[he]at h
       |some o1=>
        rw[he]at h
        obtain⟨n,hn⟩:=ex_iff.1 he
        cases o1 with
        |next s1=>
         simp only at h
         cases he2:ex X g p.2.2.2.2 { (s1.put (some p.2.2.2.1) (.fn p.2.1 (evL (get s1.env) p.2.2.1)))with nh:=s1.heap.length }with
         |none=>simp[he2]at h
         |some o2=>
          rw[he2]at h
          obtain⟨m,hm⟩:=ex_iff.1 he2
          have fin:∀(pv:AV) (s:St),(ob (runD X (ex X) p.2.1 (evL (get s1.env) p.2.2.1) pv s.heap s.toks) fun q=>leave X.P false fn.results.toList { s with heap:=q.1,toks:=q.2,nh:=s1.nh })=some o→
            ∃k,∀j,k≤j→(ob (runD X (exec X (callN X j) j) p.2.1 (evL (get s1.env) p.2.2.1) pv s.heap s.toks) fun q=>leave X.P false fn.results.toList { s with heap:=q.1,toks:=q.2,nh:=s1.nh })=some o:=fun pv s hq=>by
           cases hr:runD X (ex X) p.2.1 (evL (get s1.env) p.2.2.1) pv s.heap s.toks with
           |none=>simp[hr,ob]at hq
           |some q=>
            obtain⟨k,hk⟩:=runD_up hr
            refine⟨k,fun j hj=>?_⟩
            rw[hk j hj]
            rw[hr]at hq
            exact hq
          have key:∃k,∀j,k≤j→finD X (exec X (callN X j) j) fn.results.toList p.2.1 (evL (get s1.env) p.2.2.1) s1.nh o2=some o:=by
           cases o2 with
           |next s=>exact fin _ s h
           |ret s=>exact fin _ s h
           |panic v s=>exact fin _ s h
           |exit i s=>cases h
          obtain⟨k,hk⟩:=key
          refine⟨max (max n m) k+1,?_⟩
          simp only[callN,if_pos hg,hf,hb,ob,if_pos hl,hd,if_pos hrng]
          unfold callD
          simp only[hp,ob,up_ex g p.1 _ n (max (max n m) k) (by omega) _ hn,up_ex g p.2.2.2.2 _ m (max (max n m) k) (by omega) _ hm]
          exact hk _ (by omega)
        |_=>simp at h
     ·simp at h
    ·simp at h
theorem round_eq {b as H K}:call X (rid+b) as H K=roundOf X (ex X) b as H K:=by
 have hn: ¬rid+b < rid:=by omega
 have hb:rid+b-rid=b:=by omega
 refine eq_of_iff fun o=>?_
 rw[call_iff]
 constructor
 ·rintro⟨n,h⟩
  cases n with
  |zero=>simp[callN]at h
  |succ n=>
   simp only[callN,if_neg hn,hb]at h
   exact roundOf_mono (fun f c s r hr=>ex_iff.2 ⟨n,hr⟩) _ _ _ _ _ h
 ·intro h
  unfold roundOf at h
  cases hk:H[b]? with
  |none=>simp[hk,ob]at h
  |some k=>
   simp only[hk,ob]at h
   split at h
   ·rename_i f nt env ps as' bd st hkk
    split at h
    ·split at h
     ·rename_i hc
      cases he:ex X f as' { env:=roundEnv ps as env,heap:=H,toks:=K,nh:=H.length }with
      |none=>simp[he]at h
      |some o1=>
       rw[he]at h
       obtain⟨n,hn1⟩:=ex_iff.1 he
       cases o1 with
       |next s=>
        simp only at h
        split at h
        ·rename_i hrd
         cases hp:putSt s.heap b .busy with
         |none=>simp[hp]at h
         |some H1=>
          simp only[hp]at h
          cases he2:ex X f bd { s with heap:=H1 }with
          |none=>simp[he2]at h
          |some o2=>
           rw[he2]at h
           obtain⟨m,hm⟩:=ex_iff.1 he2
           refine⟨max n m+1,?_⟩
           simp only[callN,if_neg hn,hb]
           unfold roundOf
           simp only[hk,ob,hkk,if_pos hc,up_ex f as' _ _ _ (Nat.le_max_left n m) _ hn1,if_pos hrd,hp,up_ex f bd _ _ _ (Nat.le_max_right n m) _ hm]
           exact h
        ·simp at h
       |_=>simp at h
     ·simp at h
    ·simp at h
   ·simp at h
end Go.Sym
end
section
namespace Go.Sym
open Go.RowKit
structure Tk where
 n:Nat
 a:Option Addr
 cap:Nat
 sz:Nat
structure Lay where
 S:Nat→Nat→Prop
 B:Nat→Prop
 hp:Nat→Option (Nat×Nat)
 tk:Nat→Option Tk
def CapOK (L:Lay) (sz:Nat) (a:Option Addr) (n cap:Nat):Cap→Prop
 | .no | .bor=>True
 | .nil=>a=none∧n=0∧cap=0
 | .nn=>a≠none
 | .an=>a=none
 | .exact=>cap=n
 | .tok t=>∃k,L.tk t=some k∧n≤k.n∧(n=k.n→a=k.a∧cap=k.cap∧sz=k.sz)
def RoomOK (w:World) (r n:Nat):Prop:=∀j,j < n→(w.cell? ⟨r,j,none⟩).isSome=true
def Q (L:Lay) (c:Cap) (g p:Nat):Prop:=L.S g p∨(c= .bor∧L.B g)
mutual
def Rep (L:Lay) (w:World):AV→Value→Prop
 | .undef,_=>True
 | .int k n,u=>u= .int k n
 | .bool b,u=>u= .bool b
 | .str s,u=>u= .string s
 | .nilp,u=>u= .pointer none
 | .nilfn,u=>u= .nilFunc
 | .niface,u=>u= .nilIface
 | .ptr b i o,u=>∃r sz,L.hp b=some (r,sz)∧u= .pointer (some ⟨r,i*sz+o,none⟩)
 | .iptr cs o,u=>∃g p,u= .pointer (some ⟨g,p+o,none⟩)∧RepC L w .bor g p cs
 | .agg cs,u=>∃vs:Array Value,u= .agg vs∧RepL L w cs vs.toList
 | .tup cs,u=>∃vs:Array Value,u= .tuple vs∧RepL L w cs vs.toList
 | .lst sz rows c,u=>∃a n cap,u= .slice a n cap∧rows.length=n∧n≤cap∧cap≤9223372036854775807∧
   (rows=[]∨∃g p,a=some ⟨g,p,none⟩∧RepR L w c sz g p rows)∧CapOK L sz a n cap c
 | .win b off len cap,u=>∃r sz a cp,L.hp b=some (r,sz)∧u= .slice (some a) len cp∧len≤cp∧cp≤9223372036854775807∧(∀ c,cap=some c→cp=c)∧(cp=0∨a=⟨r,off*sz,none⟩)∧RoomOK w r ((off+cp)*sz)
 | .fn f cs,u=>∃ws:Array Value,u= .func (.func f) #[] ws∧RepL L w cs ws.toList
 | .iface t v,u=>∃x,u= .iface t x∧Rep L w v x
 | .yld b,u=>∃r sz,L.hp b=some (r,sz)∧u= .func (.yield r) #[] #[]
def RepL (L:Lay) (w:World):List AV→List Value→Prop
 | [],us=>us=[]
 |v::r,us=>∃u q,us=u::q∧Rep L w v u∧RepL L w r q
def RepC (L:Lay) (w:World) (c:Cap) (g p:Nat):List AV→Prop
 | []=>True
 |v::r=>Q L c g p∧pureB v=true∧cellB v=true∧(∃ u,w.cell? ⟨g,p,none⟩=some u∧Rep L w v u)∧RepC L w c g (p+1) r
def RepR (L:Lay) (w:World) (c:Cap) (sz g p:Nat):List (List AV)→Prop
 | []=>True
 |row::r=>row.length=sz∧RepC L w c g p row∧RepR L w c sz g (p+sz) r
end
structure Oth (w w':World):Prop where
 dfr:∀g:Nat,w.heap[g]? =some (.deferred (some []))→w'.heap[g]? =some (.deferred (some []))
 lop:∀(g:Nat) r,w.heap[g]? =some (.loop r)→∃r',w'.heap[g]? =some (.loop r')∧r'.defers=r.defers
 cel:∀g o:Nat,(w.cell? ⟨g,o,none⟩).isSome=true→(w'.cell? ⟨g,o,none⟩).isSome=true
theorem Oth.refl (w:World):Oth w w:=⟨fun _ h=>h,fun _ r h=>⟨r,h,rfl⟩,fun _ _ h=>h⟩
theorem Oth.trans {w w1 w2:World} (h:Oth w w1) (h':Oth w1 w2):Oth w w2:=
 ⟨fun g hg=>h'.dfr g (h.dfr g hg),fun g r hr=>let⟨r1,h1,e1⟩:=h.lop g r hr;let⟨r2,h2,e2⟩:=h'.lop g r1 h1;⟨r2,h2,e2.trans e1⟩,fun g o hc=>h'.cel g o (h.cel g o hc)⟩
theorem Oth.below {w w':World} (h:Below w.heap.size w w'):Oth w w':=
 ⟨fun g hg=>(h.block g (Array.getElem?_eq_some_iff.1 hg).1).trans hg,fun g r hr=>⟨r,(h.block g (Array.getElem?_eq_some_iff.1 hr).1).trans hr,rfl⟩,fun g o hc=>by
  have hg:g < w.heap.size:=by
   unfold World.cell? at hc
   cases hm:w.heap[g]? with
   |none=>simp[hm]at hc
   |some x=>exact(Array.getElem?_eq_some_iff.1 hm).1
  have e:w'.cell? ⟨g,o,none⟩=w.cell? ⟨g,o,none⟩:=by simp[World.cell?,h.block g hg]
  rw[e];exact hc⟩
theorem Oth.cells {w w':World} {b:Nat} {cs e z} (hb:w.heap[b]? =some (.cells cs e z)) (h:∀g:Nat,g≠b→w'.heap[g]? =w.heap[g]?) (hk:∀o:Nat,(w.cell? ⟨b,o,none⟩).isSome=true→(w'.cell? ⟨b,o,none⟩).isSome=true):Oth w w':=by
 have ne:∀(g:Nat) o,w.heap[g]? =some o→(∀ cs e z,o≠ .cells cs e z)→g≠b:=fun g o hg ho e=>by
  subst e
  rw[hb]at hg
  cases hg
  exact ho _ _ _ rfl
 exact⟨fun g hg=>(h g (ne g _ hg (fun _ _ _ h=>by cases h))).trans hg,fun g r hr=>⟨r,(h g (ne g _ hr (fun _ _ _ h=>by cases h))).trans hr,rfl⟩,fun g o hc=>by
  by_cases e:g=b
  ·subst e;exact hk o hc
  ·have e:w'.cell? ⟨g,o,none⟩=w.cell? ⟨g,o,none⟩:=by simp[World.cell?,h g e]
   rw[e];exact hc⟩
structure Ext (base:Nat) (L:Lay) (w:World) (L':Lay) (w':World):Prop where
 S:∀g o,L.S g o→L'.S g o
 cell:∀g o,L.S g o→w'.cell? ⟨g,o,none⟩=w.cell? ⟨g,o,none⟩
 B:∀g,L.B g→L'.B g
 lent:∀g o,L.B g→w'.cell? ⟨g,o,none⟩=w.cell? ⟨g,o,none⟩
 hp:∀b x,L.hp b=some x→L'.hp b=some x
 tk:∀t k,L.tk t=some k→∃k',L'.tk t=some k'∧(k'=k∨k.n < k'.n)
 new:∀g o,L'.S g o→L.S g o∨base≤g
 old:Below base w w'
 oth:Oth w w'
theorem Ext.refl (base:Nat) (L:Lay) (w:World):Ext base L w L w:=
 ⟨fun _ _ h=>h,fun _ _ _=>rfl,fun _ h=>h,fun _ _ _=>rfl,fun _ _ h=>h,fun _ k h=>⟨k,h,.inl rfl⟩,fun _ _ h=>.inl h,Below.refl _ _,Oth.refl _⟩
theorem Ext.trans {base:Nat} {L L1 L2:Lay} {w w1 w2:World} (h:Ext base L w L1 w1) (h':Ext base L1 w1 L2 w2):Ext base L w L2 w2 where
 S g o hs:=h'.S g o (h.S g o hs)
 cell g o hs:=(h'.cell g o (h.S g o hs)).trans (h.cell g o hs)
 B g hb:=h'.B g (h.B g hb)
 lent g o hb:=(h'.lent g o (h.B g hb)).trans (h.lent g o hb)
 hp b x hx:=h'.hp b x (h.hp b x hx)
 tk t k hk:=by
  obtain⟨k1,h1,e1⟩:=h.tk t k hk
  obtain⟨k2,h2,e2⟩:=h'.tk t k1 h1
  refine⟨k2,h2,?_⟩
  rcases e1 with rfl |e1
  ·exact e2
  ·rcases e2 with rfl |e2
   ·exact .inr e1
   ·exact .inr (by omega)
 new g o hs:=by
  rcases h'.new g o hs with hs |hs
  ·exact h.new g o hs
  ·exact .inr hs
 old:=h.old.trans h'.old
 oth:=h.oth.trans h'.oth
theorem CapOK.ext {base:Nat} {L L':Lay} {w w':World} (h:Ext base L w L' w') {sz a n cap c} (hc:CapOK L sz a n cap c):CapOK L' sz a n cap c:=by
 cases c with
 |tok t=>
  obtain⟨k,hk,hn,he⟩:=hc
  obtain⟨k',hk',e⟩:=h.tk t k hk
  rcases e with rfl |e
  ·exact⟨k',hk',hn,he⟩
  ·exact⟨k',hk',by omega,fun h=>by omega⟩
 |_=>exact hc
theorem Q.ext {base:Nat} {L L':Lay} {w w':World} (h:Ext base L w L' w') {c g p} (hq:Q L c g p):Q L' c g p:=by
 rcases hq with hq |⟨hc,hq⟩
 ·exact .inl (h.S _ _ hq)
 ·exact .inr ⟨hc,h.B _ hq⟩
theorem Q.cell {base:Nat} {L L':Lay} {w w':World} (h:Ext base L w L' w') {c g p} (hq:Q L c g p):w'.cell? ⟨g,p,none⟩=w.cell? ⟨g,p,none⟩:=by
 rcases hq with hq |⟨_,hq⟩
 ·exact h.cell _ _ hq
 ·exact h.lent _ _ hq
mutual
theorem Rep.ext {base:Nat} {L L':Lay} {w w':World} (h:Ext base L w L' w'):∀(v:AV) (u:Value),Rep L w v u→Rep L' w' v u
 | .undef,_,_=>by simp[Rep]
 | .int ..,_,hr=>by simpa[Rep] using hr
 | .bool _,_,hr=>by simpa[Rep] using hr
 | .str _,_,hr=>by simpa[Rep] using hr
 | .nilp,_,hr=>by simpa[Rep] using hr
 | .nilfn,_,hr=>by simpa[Rep] using hr
 | .niface,_,hr=>by simpa[Rep] using hr
 | .ptr b i o,u,hr=>by
  obtain⟨r,sz,hb,rfl⟩:=by simpa only[Rep] using hr
  simp only[Rep]
  exact⟨r,sz,h.hp _ _ hb,rfl⟩
 | .iptr cs o,u,hr=>by
  obtain⟨g,p,rfl,hc⟩:=by simpa only[Rep] using hr
  simp only[Rep]
  exact⟨g,p,rfl,RepC.ext h _ _ _ cs hc⟩
 | .agg cs,u,hr=>by
  obtain⟨vs,rfl,hl⟩:=by simpa only[Rep] using hr
  simp only[Rep]
  exact⟨vs,rfl,RepL.ext h cs _ hl⟩
 | .tup cs,u,hr=>by
  obtain⟨vs,rfl,hl⟩:=by simpa only[Rep] using hr
  simp only[Rep]
  exact⟨vs,rfl,RepL.ext h cs _ hl⟩
 | .lst sz rows c,u,hr=>by
  obtain⟨a,n,cap,rfl,hn,hc,hm,hrows,hcap⟩:=by simpa only[Rep] using hr
  simp only[Rep]
  refine⟨a,n,cap,rfl,hn,hc,hm,?_,CapOK.ext h hcap⟩
  rcases hrows with hrows |⟨g,p,ha,hrows⟩
  ·exact .inl hrows
  ·exact .inr ⟨g,p,ha,RepR.ext h _ _ _ _ rows hrows⟩
 | .win b off len cap,u,hr=>by
  obtain⟨r,sz,a,cp,hb,rfl,hl,hm,hcp,ha,hro⟩:=by simpa only[Rep] using hr
  simp only[Rep]
  exact⟨r,sz,a,cp,h.hp _ _ hb,rfl,hl,hm,hcp,ha,fun j hj=>h.oth.cel r j (hro j hj)⟩
 | .fn f cs,u,hr=>by
  obtain⟨ws,rfl,hl⟩:=by simpa only[Rep] using hr
  simp only[Rep]
  exact⟨ws,rfl,RepL.ext h cs _ hl⟩
 | .iface t v,u,hr=>by
  obtain⟨x,rfl,hx⟩:=by simpa only[Rep] using hr
  simp only[Rep]
  exact⟨x,rfl,Rep.ext h v x hx⟩
 | .yld b,u,hr=>by
  obtain⟨r,sz,hb,rfl⟩:=by simpa only[Rep] using hr
  simp only[Rep]
  exact⟨r,sz,h.hp _ _ hb,rfl⟩
theorem RepL.ext {base:Nat} {L L':Lay} {w w':World} (h:Ext base L w L' w'):∀(vs:List AV) (us:List Value),RepL L w vs us→RepL L' w' vs us
 | [],_,hr=>by simpa[RepL] using hr
 |v::r,us,hr=>by
  obtain⟨u,q,rfl,hv,hq⟩:=by simpa only[RepL] using hr
  simp only[RepL]
  exact⟨u,q,rfl,Rep.ext h v u hv,RepL.ext h r q hq⟩
theorem RepC.ext {base:Nat} {L L':Lay} {w w':World} (h:Ext base L w L' w') (c:Cap) (g:Nat):∀(p:Nat) (vs:List AV),RepC L w c g p vs→RepC L' w' c g p vs
 |_,[],_=>by simp[RepC]
 |p,v::r,hr=>by
  obtain⟨hq,hp,hc,⟨u,hu,hv⟩,hrest⟩:=by simpa only[RepC] using hr
  simp only[RepC]
  exact⟨hq.ext h,hp,hc,⟨u,(hq.cell h).trans hu,Rep.ext h v u hv⟩,RepC.ext h c g (p+1) r hrest⟩
theorem RepR.ext {base:Nat} {L L':Lay} {w w':World} (h:Ext base L w L' w') (c:Cap) (sz g:Nat):∀(p:Nat) (rows:List (List AV)),RepR L w c sz g p rows→RepR L' w' c sz g p rows
 |_,[],_=>by simp[RepR]
 |p,row::r,hr=>by
  obtain⟨hl,hc,hrest⟩:=by simpa only[RepR] using hr
  simp only[RepR]
  exact⟨hl,RepC.ext h c g p row hc,RepR.ext h c sz g (p+sz) r hrest⟩
end
theorem RepL.length {L:Lay} {w:World}:∀{vs:List AV} {us:List Value},RepL L w vs us→us.length=vs.length
 | [],us,h=>by simp only[RepL]at h;simp[h]
 |v::r,us,h=>by
  obtain⟨u,q,rfl,_,hq⟩:=by simpa only[RepL] using h
  simp[RepL.length hq]
theorem RepL.get {L:Lay} {w:World}:∀{vs:List AV} {us:List Value},RepL L w vs us→∀{i:Nat} {v:AV},vs[i]? =some v→∃u,us[i]? =some u∧Rep L w v u
 | [],us,h,i,v,hv=>by simp at hv
 |x::r,us,h,i,v,hv=>by
  obtain⟨u,q,rfl,hx,hq⟩:=by simpa only[RepL] using h
  cases i with
  |zero=>
   obtain rfl:x=v:=by simpa using hv
   exact⟨u,by simp,hx⟩
  |succ i=>simpa using RepL.get hq (i:=i) (v:=v) (by simpa using hv)
theorem RepL.of_get {L:Lay} {w:World}:∀{vs:List AV} {us:List Value},us.length=vs.length→(∀(i:Nat) (v:AV) (u:Value),vs[i]? =some v→us[i]? =some u→Rep L w v u)→RepL L w vs us
 | [],us,h,_=>by simpa[RepL] using h
 |v::r,us,h,hg=>by
  cases us with
  |nil=>simp at h
  |cons u q=>
   simp only[RepL]
   refine⟨u,q,rfl,hg 0 v u (by simp) (by simp),RepL.of_get (by simpa using h) fun i v' u' h1 h2=>hg (i+1) v' u' (by simpa using h1) (by simpa using h2)⟩
theorem RepL.append {L:Lay} {w:World}:∀{vs xs:List AV} {us ys:List Value},RepL L w vs us→RepL L w xs ys→RepL L w (vs++xs) (us++ys)
 | [],xs,us,ys,h,h'=>by
  simp only[RepL]at h
  simpa[h] using h'
 |v::r,xs,us,ys,h,h'=>by
  obtain⟨u,q,rfl,hx,hq⟩:=by simpa only[RepL] using h
  simp only[List.cons_append,RepL]
  exact⟨u,q++ys,rfl,hx,RepL.append hq h'⟩
theorem RepC.get {L:Lay} {w:World} {c:Cap} {g:Nat}:∀{p:Nat} {vs:List AV},RepC L w c g p vs→∀{i:Nat} {v:AV},vs[i]? =some v→
  Q L c g (p+i)∧pureB v=true∧cellB v=true∧∃u,w.cell? ⟨g,p+i,none⟩=some u∧Rep L w v u
 |p,[],h,i,v,hv=>by simp at hv
 |p,x::r,h,i,v,hv=>by
  obtain⟨hq,hp,hc,hu,hr⟩:=by simpa only[RepC] using h
  cases i with
  |zero=>
   obtain rfl:x=v:=by simpa using hv
   exact⟨hq,hp,hc,hu⟩
  |succ i=>
   have:=RepC.get hr (i:=i) (v:=v) (by simpa using hv)
   rw[show p+(i+1)=p+1+i by omega]
   exact this
theorem RepC.of_get {L:Lay} {w:World} {c:Cap} {g:Nat}:∀{p:Nat} {vs:List AV},(∀(i:Nat) (v:AV),vs[i]? =some v→Q L c g (p+i)∧pureB v=true∧cellB v=true∧∃u,w.cell? ⟨g,p+i,none⟩=some u∧Rep L w v u)→RepC L w c g p vs
 |p,[],_=>by simp[RepC]
 |p,x::r,h=>by
  simp only[RepC]
  obtain⟨h1,h2,h3,h4⟩:=h 0 x (by simp)
  refine⟨h1,h2,h3,h4,RepC.of_get fun i v hv=>?_⟩
  have:=h (i+1) v (by simpa using hv)
  rw[show p+1+i=p+(i+1)by omega]
  exact this
theorem RepR.get {L:Lay} {w:World} {c:Cap} {sz g:Nat}:∀{p:Nat} {rows:List (List AV)},RepR L w c sz g p rows→∀{i:Nat} {row:List AV},rows[i]? =some row→row.length=sz∧RepC L w c g (p+i*sz) row
 |p,[],h,i,v,hv=>by simp at hv
 |p,x::r,h,i,v,hv=>by
  obtain⟨hl,hc,hr⟩:=by simpa only[RepR] using h
  cases i with
  |zero=>
   obtain rfl:x=v:=by simpa using hv
   exact⟨hl,by simpa using hc⟩
  |succ i=>
   have:=RepR.get hr (i:=i) (row:=v) (by simpa using hv)
   rw[show p+(i+1)*sz=p+sz+i*sz by rw[Nat.add_mul,Nat.one_mul];omega]
   exact this
theorem RepR.of_get {L:Lay} {w:World} {c:Cap} {sz g:Nat}:∀{p:Nat} {rows:List (List AV)},(∀(i:Nat) (row:List AV),rows[i]? =some row→row.length=sz∧RepC L w c g (p+i*sz) row)→RepR L w c sz g p rows
 |p,[],_=>by simp[RepR]
 |p,x::r,h=>by
  simp only[RepR]
  obtain⟨h1,h2⟩:=h 0 x (by simp)
  refine⟨h1,by simpa using h2,RepR.of_get fun i v hv=>?_⟩
  have:=h (i+1) v (by simpa using hv)
  rw[show p+sz+i*sz=p+(i+1)*sz by rw[Nat.add_mul,Nat.one_mul];omega]
  exact this
theorem Rep.oneCell {L:Lay} {w:World} {v:AV} {u:Value} (h:Rep L w v u) (hc:cellB v=true):u.oneCell'=true:=by
 cases v <;> simp only[cellB,Bool.false_eq_true]at hc <;> simp only[Rep]at h
 all_goals first
  | (subst h;rfl)
  | (obtain ⟨_,_,_,_,_,rfl,_⟩:=h;rfl)
  | (obtain ⟨_,_,_,rfl⟩:=h;rfl)
  | (obtain ⟨_,_,rfl,_⟩:=h;rfl)
  | (obtain ⟨_,_,_,rfl,_⟩:=h;rfl)
  | (obtain ⟨_,_,_,_,rfl,_⟩:=h;rfl)
  | (obtain ⟨_,rfl,_⟩:=h;rfl)
theorem Rep.cells {L:Lay} {w:World} {v:AV} {u:Value} (h:Rep L w v u) (hc:cellsB v.cells=true):RepL L w v.cells u.cells.toList:=by
 cases v with
 |agg cs=>
  obtain⟨vs,rfl,hl⟩:=by simpa only[Rep] using h
  exact hl
 |undef=>simp[AV.cells,cellsB,cellB]at hc
 |tup _=>simp[AV.cells,cellsB,cellB]at hc
 |_=>
  have h1:u.oneCell'=true:=Rep.oneCell h rfl
  have h2:u.cells= #[u]:=by cases u <;> first |rfl |simp[Value.oneCell']at h1
  simp only[AV.cells,h2]
  simp only[RepL]
  exact⟨u,[],rfl,h,rfl⟩
theorem RepL.oneCell {L:Lay} {w:World}:∀{vs:List AV} {us:List Value},RepL L w vs us→cellsB vs=true→∀u ∈ us,u.oneCell'=true
 | [],us,h,_,u,hu=>by
  simp only[RepL]at h
  simp[h]at hu
 |v::r,us,h,hc,u,hu=>by
  obtain⟨x,q,rfl,hx,hq⟩:=by simpa only[RepL] using h
  simp only[cellsB,Bool.and_eq_true]at hc
  rcases List.mem_cons.1 hu with rfl |hu
  ·exact Rep.oneCell hx hc.1
  ·exact RepL.oneCell hq hc.2 u hu
end Go.Sym
end
section
namespace Go.Sym
open Go.RowKit
def fitB:Kind→AV→Bool
 | .data,v=>pureB v
 | .toky,v=>pureB (strip v)
 |_,_=>true
def cellU:AV→Bool
 | .agg _ | .tup _=>false
 |_=>true
theorem cellU_of {v:AV} (h:cellB v=true):cellU v=true:=by cases v <;> first |rfl |simp[cellB]at h
theorem cellB_of_strip {v:AV} (h:cellU v=true) (hp:pureB (strip v)=true):cellB v=true:=by cases v <;> first |rfl | (simp [strip,pureB]at hp;done) | (simp [cellU]at h;done)
def StOK (st:LoopSt) (r:Loop):Prop:=match st with
 | .ready=>r.state= .ready∧r.pending=none
 | .busy=>r.state= .busy
 | .done c=>r.state= .done∧r.pending=some c
structure RecOK (L:Lay) (w:World) (rc:Loop) (nt:Nat) (env:List (Nat×AV)) (ps:List Tmp) (as bd:Code) (st:LoopSt):Prop where
 ps:rc.params.toList=ps
 as:rc.assign=as
 bd:rc.body=bd
 st:StOK st rc
 nt:nt≤rc.tmps.size
 env:∀t,Rep L w (get env t) (rc.tmps.getD t undef)
structure BlkOK (L:Lay) (w:World) (base:Nat) (k:Blk) (r:Nat):Prop where
 base:base≤r
 mem:rngB k.kind=false→∃cs e,w.heap[r]? =some (.cells cs e (0,0))∧k.rows.length*k.sz≤cs.size∧
  ∀i row,k.rows[i]? =some row→row.length=k.sz∧∀o v,row[o]? =some v→fitB k.kind v=true∧cellU v=true∧∃u,cs[i*k.sz+o]? =some u∧Rep L w v u
 rng:∀f nt env ps as bd st,k.kind= .rng f nt env ps as bd st→k.rows=[]∧∃rc,w.heap[r]? =some (.loop rc)∧RecOK L w rc nt env ps as bd st
 dead:deadB k.kind=true→k.rows=[]∧r < w.heap.size
 typ:∀t,k.kind= .cell t→∃cs,w.heap[r]? =some (.cells cs t (0,0))
theorem rngB_of {k:Blk} (h:rngB k.kind=true):(∃ f nt env ps as bd st,k.kind= .rng f nt env ps as bd st)∨deadB k.kind=true:=by
 cases hk:k.kind <;> rw[hk]at h <;> simp[rngB]at h
 ·exact .inr rfl
 ·exact .inl ⟨_,_,_,_,_,_,_,rfl⟩
theorem BlkOK.lt {L:Lay} {w:World} {base:Nat} {k:Blk} {r:Nat} (h:BlkOK L w base k r):r < w.heap.size:=by
 by_cases hk:rngB k.kind=true
 ·rcases rngB_of hk with⟨f,nt,env,ps,as,bd,st,hk⟩ |hk
  ·obtain⟨_,rc,hm,_⟩:=h.rng _ _ _ _ _ _ _ hk
   exact(Array.getElem?_eq_some_iff.1 hm).1
  ·exact(h.dead hk).2
 ·obtain⟨cs,e,hm,_⟩:=h.mem (by simpa using hk)
  exact(Array.getElem?_eq_some_iff.1 hm).1
theorem BlkOK.plain {L:Lay} {w:World} {base:Nat} {k:Blk} {r:Nat} (h:BlkOK L w base k r) {i:Nat} {row:List AV} (hr:k.rows[i]? =some row):rngB k.kind=false:=by
 cases hk:rngB k.kind with
 |false=>rfl
 |true=>
  have:k.rows=[]:=by
   rcases rngB_of hk with⟨f,nt,env,ps,as,bd,st,hk⟩ |hk
   ·exact(h.rng _ _ _ _ _ _ _ hk).1
   ·exact(h.dead hk).1
  rw[this]at hr
  simp at hr
theorem live_of {k:Blk} (h:rngB k.kind=false):deadB k.kind=false:=by cases hk:k.kind <;> rw[hk]at h <;> first |rfl |simp[rngB]at h
theorem BlkOK.mk' {L:Lay} {w:World} {base:Nat} {k:Blk} {r:Nat} (hk:rngB k.kind=false) (h1:base≤r) (h2:∃cs e,w.heap[r]? =some (.cells cs e (0,0))∧k.rows.length*k.sz≤cs.size∧
  ∀i row,k.rows[i]? =some row→row.length=k.sz∧∀o v,row[o]? =some v→fitB k.kind v=true∧cellU v=true∧∃u,cs[i*k.sz+o]? =some u∧Rep L w v u) (ht:∀t,k.kind= .cell t→∃cs,w.heap[r]? =some (.cells cs t (0,0)):=by intro t h;cases h):BlkOK L w base k r:=
 ⟨h1,fun _=>h2,fun f nt env ps as bd st h=>(by rw[h]at hk;simp[rngB]at hk),fun h=>(by rw[live_of hk]at h;cases h),ht⟩
theorem BlkOK.rep {L L':Lay} {w:World} {base:Nat} {k:Blk} {r:Nat} (h:BlkOK L w base k r) (hx:∀v u,Rep L w v u→Rep L' w v u):BlkOK L' w base k r:=by
 refine⟨h.base,fun hk=>?_,fun f nt env ps as bd st hk=>?_,h.dead,h.typ⟩
 ·obtain⟨cs,e,hm,hs,hc⟩:=h.mem hk
  refine⟨cs,e,hm,hs,fun i row hrow=>⟨(hc i row hrow).1,fun o v hv=>?_⟩⟩
  obtain⟨p1,p2,u,hu,hr⟩:=(hc i row hrow).2 o v hv
  exact⟨p1,p2,u,hu,hx v u hr⟩
 ·obtain⟨hrows,rc,hm,hrc⟩:=h.rng _ _ _ _ _ _ _ hk
  exact⟨hrows,rc,hm,{ hrc with env:=fun t=>hx _ _ (hrc.env t) }⟩
def OwnA (base:Nat) (k:Tk):Prop:=k.n=0∨∃g,k.a=some ⟨g,0,none⟩∧base≤g
theorem OwnA.mono {b b':Nat} {k:Tk} (h:OwnA b k) (hb:b'≤b):OwnA b' k:=h.imp id fun⟨g,h1,h2⟩=>⟨g,h1,Nat.le_trans hb h2⟩
def TkOK (L:Lay) (w:World) (base:Nat) (k:Tk):Prop:=
 (k.cap=k.n∧OwnA base k)∨∃g,k.a=some ⟨g,0,none⟩∧base≤g∧k.n≤k.cap∧(∃ cs e,w.heap[g]? =some (.cells cs e (0,0))∧cs.size=k.cap*k.sz)∧
  (∀ o,L.S g o→o < k.n*k.sz)∧¬L.B g∧∀b r sz,L.hp b=some (r,sz)→r≠g
def gvar:Nat:=1
def GlobOK (w:World) (base:Nat):Prop:=gvar < base∧∃m,w.cell? ⟨gvar,0,none⟩=some (.int .i64 m)
theorem GlobOK.below {w w':World} {base:Nat} (h:GlobOK w base) (hb:Below base w w'):GlobOK w' base:=by
 obtain⟨h1,m,h2⟩:=h
 exact⟨h1,m,by rw[←h2];simp[World.cell?,hb.block _ h1]⟩
theorem GlobOK.mono {w:World} {base base':Nat} (h:GlobOK w base) (hb:base≤base'):GlobOK w base':=⟨Nat.lt_of_lt_of_le h.1 hb,h.2⟩
structure Inv (L:Lay) (H:Nat→Option Blk) (K:Nat→Option Nat) (w:World) (base:Nat):Prop where
 dom:∀b k,H b=some k→∃r,L.hp b=some (r,k.sz)
 dom':∀b r sz,L.hp b=some (r,sz)→∃k,H b=some k∧k.sz=sz
 blk:∀b k r sz,H b=some k→L.hp b=some (r,sz)→BlkOK L w base k r
 inj:∀b b' r sz sz',L.hp b=some (r,sz)→L.hp b'=some (r,sz')→b=b'
 apart:∀b k r sz,H b=some k→deadB k.kind=false→L.hp b=some (r,sz)→(∀ o,¬L.S r o)∧¬L.B r
 K:∀t,K t=(L.tk t).map (·.n)
 tk:∀t k,L.tk t=some k→TkOK L w base k
 tkinj:∀t t' k k' g,L.tk t=some k→L.tk t'=some k'→k.cap≠k.n→k'.cap≠k'.n→k.a=some ⟨g,0,none⟩→k'.a=some ⟨g,0,none⟩→t=t'
 size:∀g o,L.S g o→g < w.heap.size
 lent:∀g,L.B g→g < base
 top:base≤w.heap.size
 glob:GlobOK w base
structure Keeps (L:Lay) (w:World) (L':Lay) (w':World):Prop where
 S:∀g o,L.S g o→L'.S g o
 cell:∀g o,L.S g o→w'.cell? ⟨g,o,none⟩=w.cell? ⟨g,o,none⟩
theorem Ext.keeps {base L w L' w'} (h:Ext base L w L' w'):Keeps L w L' w':=⟨h.S,h.cell⟩
mutual
theorem Rep.pure {L L':Lay} {w w':World} (h:Keeps L w L' w'):∀(v:AV) (u:Value),pureB v=true→Rep L w v u→Rep L' w' v u
 | .undef,_,hp,_=>by simp[pureB]at hp
 | .int ..,_,_,hr=>by simpa[Rep] using hr
 | .bool _,_,_,hr=>by simpa[Rep] using hr
 | .str _,_,_,hr=>by simpa[Rep] using hr
 | .nilp,_,_,hr=>by simpa[Rep] using hr
 | .nilfn,_,_,hr=>by simpa[Rep] using hr
 | .niface,_,_,hr=>by simpa[Rep] using hr
 | .ptr b i o,u,hp,_=>by simp[pureB]at hp
 | .iptr cs o,u,hp,_=>by simp[pureB]at hp
 | .agg cs,u,hp,hr=>by
  obtain⟨vs,rfl,hl⟩:=by simpa only[Rep] using hr
  simp only[Rep]
  exact⟨vs,rfl,RepL.pure h cs _ (by simpa[pureB] using hp) hl⟩
 | .tup cs,u,hp,hr=>by
  obtain⟨vs,rfl,hl⟩:=by simpa only[Rep] using hr
  simp only[Rep]
  exact⟨vs,rfl,RepL.pure h cs _ (by simpa[pureB] using hp) hl⟩
 | .lst sz rows c,u,hp,hr=>by
  obtain⟨a,n,cap,rfl,hn,hc,hm,hrows,hcap⟩:=by simpa only[Rep] using hr
  simp only[Rep]
  refine⟨a,n,cap,rfl,hn,hc,hm,?_,?_⟩
  ·rcases hrows with hrows |⟨g,p,ha,hrows⟩
   ·exact .inl hrows
   ·exact .inr ⟨g,p,ha,RepR.pure h (by rintro rfl;simp[pureB]at hp) _ _ _ rows hrows⟩
  ·cases c <;> first |exact hcap |simp[pureB]at hp
 | .win b off len cap,u,hp,_=>by simp[pureB]at hp
 | .fn f cs,u,hp,hr=>by
  obtain⟨ws,rfl,hl⟩:=by simpa only[Rep] using hr
  simp only[Rep]
  exact⟨ws,rfl,RepL.pure h cs _ (by simpa[pureB] using hp) hl⟩
 | .iface t v,u,hp,hr=>by
  obtain⟨x,rfl,hx⟩:=by simpa only[Rep] using hr
  simp only[Rep]
  exact⟨x,rfl,Rep.pure h v x (by simpa[pureB] using hp) hx⟩
 | .yld b,u,hp,_=>by simp[pureB]at hp
theorem RepL.pure {L L':Lay} {w w':World} (h:Keeps L w L' w'):∀(vs:List AV) (us:List Value),pureL vs=true→RepL L w vs us→RepL L' w' vs us
 | [],_,_,hr=>by simpa[RepL] using hr
 |v::r,us,hp,hr=>by
  obtain⟨u,q,rfl,hv,hq⟩:=by simpa only[RepL] using hr
  simp only[pureL,Bool.and_eq_true]at hp
  simp only[RepL]
  exact⟨u,q,rfl,Rep.pure h v u hp.1 hv,RepL.pure h r q hp.2 hq⟩
theorem RepC.pure {L L':Lay} {w w':World} (h:Keeps L w L' w') {c:Cap} (hc:c≠ .bor) (g:Nat):∀(p:Nat) (vs:List AV),RepC L w c g p vs→RepC L' w' c g p vs
 |_,[],_=>by simp[RepC]
 |p,v::r,hr=>by
  obtain⟨hq,hp,hcl,⟨u,hu,hv⟩,hrest⟩:=by simpa only[RepC] using hr
  have hs:L.S g p:=by
   rcases hq with hq |⟨e,_⟩
   ·exact hq
   ·exact absurd e hc
  simp only[RepC]
  exact⟨.inl (h.S _ _ hs),hp,hcl,⟨u,(h.cell _ _ hs).trans hu,Rep.pure h v u hp hv⟩,RepC.pure h hc g (p+1) r hrest⟩
theorem RepR.pure {L L':Lay} {w w':World} (h:Keeps L w L' w') {c:Cap} (hc:c≠ .bor) (sz g:Nat):∀(p:Nat) (rows:List (List AV)),RepR L w c sz g p rows→RepR L' w' c sz g p rows
 |_,[],_=>by simp[RepR]
 |p,row::r,hr=>by
  obtain⟨hl,hcs,hrest⟩:=by simpa only[RepR] using hr
  simp only[RepR]
  exact⟨hl,RepC.pure h hc g p row hcs,RepR.pure h hc sz g (p+sz) r hrest⟩
end
theorem RepC.cap {L:Lay} {w:World} {c c':Cap} (hc:c= .bor→c'= .bor) {g:Nat}:∀{p:Nat} {vs:List AV},RepC L w c g p vs→RepC L w c' g p vs
 |_,[],_=>by simp[RepC]
 |p,v::r,hr=>by
  obtain⟨hq,hp,hcl,hu,hrest⟩:=by simpa only[RepC] using hr
  simp only[RepC]
  exact⟨hq.imp id (fun h=>⟨hc h.1,h.2⟩),hp,hcl,hu,RepC.cap hc hrest⟩
theorem RepR.cap {L:Lay} {w:World} {c c':Cap} (hc:c= .bor→c'= .bor) {sz g:Nat}:∀{p:Nat} {rows:List (List AV)},RepR L w c sz g p rows→RepR L w c' sz g p rows
 |_,[],_=>by simp[RepR]
 |p,row::r,hr=>by
  obtain⟨hl,hcs,hrest⟩:=by simpa only[RepR] using hr
  simp only[RepR]
  exact⟨hl,RepC.cap hc hcs,RepR.cap hc hrest⟩
theorem Rep.capNo {L:Lay} {w:World} {sz:Nat} {rows:List (List AV)} {c:Cap} {u:Value} (h:Rep L w (.lst sz rows c) u) (hc:c≠ .bor):Rep L w (.lst sz rows .no) u:=by
 obtain⟨a,n,cap,rfl,hn,hcp,hm,hrows,_⟩:=by simpa only[Rep] using h
 simp only[Rep]
 refine⟨a,n,cap,rfl,hn,hcp,hm,?_,trivial⟩
 rcases hrows with hrows |⟨g,p,ha,hrows⟩
 ·exact .inl hrows
 ·exact .inr ⟨g,p,ha,RepR.cap (fun e=>absurd e hc) hrows⟩
mutual
theorem Rep.strip {L:Lay} {w:World}:∀(v:AV) (u:Value),Rep L w v u→Rep L w (strip v) u
 | .lst sz r c,u,h=>by
  cases c <;> first |exact h |exact Rep.capNo h (by simp)
 | .agg cs,u,h=>by
  obtain⟨vs,rfl,hl⟩:=by simpa only[Rep] using h
  simp only[Sym.strip,Rep]
  exact⟨vs,rfl,RepL.strip cs _ hl⟩
 | .tup cs,u,h=>by
  obtain⟨vs,rfl,hl⟩:=by simpa only[Rep] using h
  simp only[Sym.strip,Rep]
  exact⟨vs,rfl,RepL.strip cs _ hl⟩
 | .fn f cs,u,h=>by
  obtain⟨ws,rfl,hl⟩:=by simpa only[Rep] using h
  simp only[Sym.strip,Rep]
  exact⟨ws,rfl,RepL.strip cs _ hl⟩
 | .iface t v,u,h=>by
  obtain⟨x,rfl,hx⟩:=by simpa only[Rep] using h
  simp only[Sym.strip,Rep]
  exact⟨x,rfl,Rep.strip v x hx⟩
 | .undef,_,h=>h
 | .int ..,_,h=>h
 | .bool _,_,h=>h
 | .str _,_,h=>h
 | .nilp,_,h=>h
 | .nilfn,_,h=>h
 | .niface,_,h=>h
 | .ptr ..,_,h=>h
 | .iptr ..,_,h=>h
 | .win ..,_,h=>h
 | .yld _,_,h=>h
theorem RepL.strip {L:Lay} {w:World}:∀(vs:List AV) (us:List Value),RepL L w vs us→RepL L w (stripL vs) us
 | [],_,h=>h
 |v::r,us,h=>by
  obtain⟨u,q,rfl,hv,hq⟩:=by simpa only[RepL] using h
  simp only[Sym.stripL,RepL]
  exact⟨u,q,rfl,Rep.strip v u hv,RepL.strip r q hq⟩
end
theorem stripL_length:∀(vs:List AV),(stripL vs).length=vs.length
 | []=>rfl
 |v::r=>by simp[stripL,stripL_length r]
theorem stripL_get:∀(vs:List AV) (i:Nat),(stripL vs)[i]? =(vs[i]?).map strip
 | [],i=>by simp[stripL]
 |v::r,0=>by simp[stripL]
 |v::r,i+1=>by simp[stripL,stripL_get r i]
theorem cellB_strip (v:AV):cellB (strip v)=cellB v:=by
 cases v with
 |lst sz r c=>cases c <;> rfl
 |_=>rfl
theorem pureL_iff:∀{vs:List AV},pureL vs=true↔∀v ∈ vs,pureB v=true
 | []=>by simp[pureL]
 |v::r=>by simp[pureL,pureL_iff (vs:=r)]
theorem cellsB_iff:∀{vs:List AV},cellsB vs=true↔∀v ∈ vs,cellB v=true
 | []=>by simp[cellsB]
 |v::r=>by simp[cellsB,cellsB_iff (vs:=r)]
theorem belowL_iff {n:Nat}:∀{vs:List AV},belowL n vs=true↔∀v ∈ vs,below n v=true
 | []=>by simp[belowL]
 |v::r=>by simp[belowL,belowL_iff (vs:=r)]
mutual
theorem strip_pure:∀{v:AV},pureB v=true→strip v=v
 | .lst sz r c,h=>by cases c <;> first |rfl |simp[pureB]at h
 | .agg cs,h=>by simp[strip,stripL_pure (vs:=cs) (by simpa[pureB] using h)]
 | .tup cs,h=>by simp[strip,stripL_pure (vs:=cs) (by simpa[pureB] using h)]
 | .fn f cs,h=>by simp[strip,stripL_pure (vs:=cs) (by simpa[pureB] using h)]
 | .iface t v,h=>by simp[strip,strip_pure (v:=v) (by simpa[pureB] using h)]
 | .undef,_=>rfl
 | .int ..,_=>rfl
 | .bool _,_=>rfl
 | .str _,_=>rfl
 | .nilp,_=>rfl
 | .nilfn,_=>rfl
 | .niface,_=>rfl
 | .ptr ..,_=>rfl
 | .iptr ..,_=>rfl
 | .win ..,_=>rfl
 | .yld _,_=>rfl
theorem stripL_pure:∀{vs:List AV},pureL vs=true→stripL vs=vs
 | [],_=>rfl
 |v::r,h=>by
  simp only[pureL,Bool.and_eq_true]at h
  simp[stripL,strip_pure h.1,stripL_pure h.2]
end
theorem Rep.szOf {L:Lay} {w:World} {sz:Nat} {r:List (List AV)} {u:Value} (h:Rep L w (.lst sz r .no) u):Rep L w (.lst (Sym.szOf sz r) r .no) u:=by
 cases r with
 |nil=>
  obtain⟨a,n,cap,rfl,h1,h2,h3,_,_⟩:=by simpa only[Rep] using h
  simp only[Rep]
  exact⟨a,n,cap,rfl,h1,h2,h3,.inl trivial,trivial⟩
 |cons a q=>exact h
theorem Rep.szOfC {L:Lay} {w:World} {sz:Nat} {r:List (List AV)} {u:Value} (h:Rep L w (.lst sz r .bor) u):Rep L w (.lst (Sym.szOf sz r) r .bor) u:=by
 cases r with
 |nil=>
  obtain⟨a,n,cap,rfl,h1,h2,h3,_,_⟩:=by simpa only[Rep] using h
  simp only[Rep]
  exact⟨a,n,cap,rfl,h1,h2,h3,.inl trivial,trivial⟩
 |cons a q=>exact h
mutual
theorem normv_pure:∀(v:AV),pureB (strip v)=true→pureB (normv v)=true
 | .lst sz r c,h=>rfl
 | .agg cs,h=>by simpa[normv,pureB] using normL_pure cs (by simpa[strip,pureB] using h)
 | .tup cs,h=>by simpa[normv,pureB] using normL_pure cs (by simpa[strip,pureB] using h)
 | .fn f cs,h=>by simpa[normv,pureB] using normL_pure cs (by simpa[strip,pureB] using h)
 | .iface t v,h=>by simpa[normv,pureB] using normv_pure v (by simpa[strip,pureB] using h)
 | .ptr ..,h=>by simp[strip,pureB]at h
 | .win ..,h=>by simp[strip,pureB]at h
 | .iptr ..,h=>by simp[strip,pureB]at h
 | .yld _,h=>by simp[strip,pureB]at h
 | .undef,h=>by simp[strip,pureB]at h
 | .int ..,_=>rfl
 | .bool _,_=>rfl
 | .str _,_=>rfl
 | .nilp,_=>rfl
 | .nilfn,_=>rfl
 | .niface,_=>rfl
theorem normL_pure:∀(vs:List AV),pureL (stripL vs)=true→pureL (normL vs)=true
 | [],_=>rfl
 |v::r,h=>by
  simp only[stripL,pureL,Bool.and_eq_true]at h
  simp only[normL,pureL,Bool.and_eq_true]
  exact⟨normv_pure v h.1,normL_pure r h.2⟩
end
mutual
theorem Rep.normv {L:Lay} {w:World}:∀(v:AV) (u:Value),pureB (strip v)=true→Rep L w v u→Rep L w (normv v) u
 | .lst sz r c,u,hp,h=>Rep.szOf (Rep.capNo h (by rintro rfl;simp[strip,pureB]at hp))
 | .agg cs,u,hp,h=>by
  obtain⟨vs,rfl,hl⟩:=by simpa only[Rep] using h
  simp only[Sym.normv,Rep]
  exact⟨vs,rfl,RepL.normL cs _ (by simpa[strip,pureB] using hp) hl⟩
 | .tup cs,u,hp,h=>by
  obtain⟨vs,rfl,hl⟩:=by simpa only[Rep] using h
  simp only[Sym.normv,Rep]
  exact⟨vs,rfl,RepL.normL cs _ (by simpa[strip,pureB] using hp) hl⟩
 | .fn f cs,u,hp,h=>by
  obtain⟨ws,rfl,hl⟩:=by simpa only[Rep] using h
  simp only[Sym.normv,Rep]
  exact⟨ws,rfl,RepL.normL cs _ (by simpa[strip,pureB] using hp) hl⟩
 | .iface t v,u,hp,h=>by
  obtain⟨x,rfl,hx⟩:=by simpa only[Rep] using h
  simp only[Sym.normv,Rep]
  exact⟨x,rfl,Rep.normv v x (by simpa[strip,pureB] using hp) hx⟩
 | .undef,_,hp,h=>by simp[strip,pureB]at hp
 | .int ..,_,_,h=>h
 | .bool _,_,_,h=>h
 | .str _,_,_,h=>h
 | .nilp,_,_,h=>h
 | .nilfn,_,_,h=>h
 | .niface,_,_,h=>h
 | .ptr ..,_,hp,h=>by simp[strip,pureB]at hp
 | .iptr ..,_,hp,h=>by simp[strip,pureB]at hp
 | .win ..,_,hp,h=>by simp[strip,pureB]at hp
 | .yld _,_,hp,h=>by simp[strip,pureB]at hp
theorem RepL.normL {L:Lay} {w:World}:∀(vs:List AV) (us:List Value),pureL (stripL vs)=true→RepL L w vs us→RepL L w (normL vs) us
 | [],_,_,h=>h
 |v::r,us,hp,h=>by
  obtain⟨u,q,rfl,hv,hq⟩:=by simpa only[RepL] using h
  simp only[stripL,pureL,Bool.and_eq_true]at hp
  simp only[Sym.normL,RepL]
  exact⟨u,q,rfl,Rep.normv v u hp.1 hv,RepL.normL r q hp.2 hq⟩
end
theorem normL_length:∀(vs:List AV),(normL vs).length=vs.length
 | []=>rfl
 |v::r=>by simp[normL,normL_length r]
theorem normL_get:∀(vs:List AV) (i:Nat),(normL vs)[i]? =(vs[i]?).map normv
 | [],i=>by simp[normL]
 |v::r,0=>by simp[normL]
 |v::r,i+1=>by simp[normL,normL_get r i]
theorem cellB_normv (v:AV):cellB (normv v)=cellB v:=by cases v <;> rfl
theorem cellsB_normL:∀(vs:List AV),cellsB (normL vs)=cellsB vs
 | []=>rfl
 |v::r=>by simp[normL,cellsB,cellB_normv,cellsB_normL r]
mutual
theorem Rep.below {L:Lay} {w:World} {n:Nat} (hd:∀b x,L.hp b=some x→b < n):∀(v:AV) (u:Value),Rep L w v u→below n v=true
 | .lst sz r c,u,h=>rfl
 | .agg cs,u,h=>by
  obtain⟨vs,rfl,hl⟩:=by simpa only[Rep] using h
  simpa[Sym.below] using RepL.below hd cs _ hl
 | .tup cs,u,h=>by
  obtain⟨vs,rfl,hl⟩:=by simpa only[Rep] using h
  simpa[Sym.below] using RepL.below hd cs _ hl
 | .fn f cs,u,h=>by
  obtain⟨ws,rfl,hl⟩:=by simpa only[Rep] using h
  simpa[Sym.below] using RepL.below hd cs _ hl
 | .iface t v,u,h=>by
  obtain⟨x,rfl,hx⟩:=by simpa only[Rep] using h
  simpa[Sym.below] using Rep.below hd v x hx
 | .undef,_,h=>rfl
 | .int ..,_,h=>rfl
 | .bool _,_,h=>rfl
 | .str _,_,h=>rfl
 | .nilp,_,h=>rfl
 | .nilfn,_,h=>rfl
 | .niface,_,h=>rfl
 | .ptr b i o,_,h=>by
  obtain⟨r,sz,hb,_⟩:=by simpa only[Rep] using h
  simpa[Sym.below] using hd _ _ hb
 | .iptr ..,_,h=>rfl
 | .yld b,_,h=>by
  obtain⟨r,sz,hb,_⟩:=by simpa only[Rep] using h
  simpa[Sym.below] using hd _ _ hb
 | .win b off len cap,_,h=>by
  obtain⟨r,sz,a,cp,hb,_⟩:=by simpa only[Rep] using h
  simpa[Sym.below] using hd _ _ hb
theorem RepL.below {L:Lay} {w:World} {n:Nat} (hd:∀b x,L.hp b=some x→b < n):∀(vs:List AV) (us:List Value),RepL L w vs us→belowL n vs=true
 | [],_,_=>rfl
 |v::r,us,h=>by
  obtain⟨u,q,rfl,hv,hq⟩:=by simpa only[RepL] using h
  simp[belowL,Rep.below hd v u hv,RepL.below hd r q hq]
end
end Go.Sym
end
section
namespace Go.Sym
open Go.RowKit
theorem add_mk (g p n:Nat):(⟨g,p,none⟩:Addr).add n=⟨g,p+n,none⟩:=by unfold Addr.add;split <;> simp_all
theorem cell_of_heap {w w':World} {g o:Nat} (h:w'.heap[g]? =w.heap[g]?):w'.cell? ⟨g,o,none⟩=w.cell? ⟨g,o,none⟩:=by simp[World.cell?,h]
theorem Ext.grow {base:Nat} {L:Lay} {K H} {w w':World} (hi:Inv L H K w base) (hb:Below w.heap.size w w'):Ext base L w L w' where
 S _ _ h:=h
 cell g o h:=cell_of_heap (hb.block g (hi.size g o h))
 B _ h:=h
 lent g _ h:=cell_of_heap (hb.block g (Nat.lt_of_lt_of_le (hi.lent g h) hi.top))
 hp _ _ h:=h
 tk _ k h:=⟨k,h,.inl rfl⟩
 new _ _ h:=.inl h
 old:=hb.mono hi.top
 oth:=Oth.below hb
theorem BlkOK.ext {base:Nat} {L L':Lay} {w w':World} (hx:Ext base L w L' w') {k r} (h:BlkOK L w base k r) (hr:w'.heap[r]? =w.heap[r]?):BlkOK L' w' base k r:=by
 refine⟨h.base,fun hk=>?_,fun f nt env ps as bd st hk=>?_,fun hk=>⟨(h.dead hk).1,by have:=(Array.getElem?_eq_none_iff (xs:=w'.heap) (i:=r));apply Classical.byContradiction;intro hn;have h1:=this.2 (by omega);rw[hr]at h1;have:=Array.getElem?_eq_none_iff.1 h1;have:=(h.dead hk).2;omega⟩,fun t ht=>by obtain⟨cs,hm⟩:=h.typ t ht;exact⟨cs,hr.trans hm⟩⟩
 ·obtain⟨cs,e,hm,hs,hc⟩:=h.mem hk
  refine⟨cs,e,hr.trans hm,hs,fun i row hrow=>⟨(hc i row hrow).1,fun o v hv=>?_⟩⟩
  obtain⟨h1,h2,u,hu,hrep⟩:=(hc i row hrow).2 o v hv
  exact⟨h1,h2,u,hu,Rep.ext hx v u hrep⟩
 ·obtain⟨hrows,rc,hm,hrc⟩:=h.rng _ _ _ _ _ _ _ hk
  exact⟨hrows,rc,hr.trans hm,{ hrc with env:=fun t=>Rep.ext hx _ _ (hrc.env t) }⟩
theorem Inv.step {base:Nat} {L L':Lay} {H K} {w w':World} (hi:Inv L H K w base) (hx:Ext base L w L' w') (hhp:L'.hp=L.hp) (htk:L'.tk=L.tk) (hB:L'.B=L.B)
  (hS:∀g o,L'.S g o→L.S g o∨w.heap.size≤g) (hSz:∀g o,L'.S g o→g < w'.heap.size) (hb:∀r,r < w.heap.size→w'.heap[r]? =w.heap[r]?):Inv L' H K w' base:=by
 have hlt:∀b r sz,L.hp b=some (r,sz)→r < w.heap.size:=by
  intro b r sz h
  obtain⟨k,hk,rfl⟩:=hi.dom' b r sz h
  exact(hi.blk b k r k.sz hk h).lt
 refine⟨?_,?_,?_,?_,?_,?_,?_,?_,hSz,?_,Nat.le_trans hi.top hx.old.size,hi.glob.below hx.old⟩
 ·rw[hhp];exact hi.dom
 ·rw[hhp];exact hi.dom'
 ·rw[hhp]
  intro b k r sz hk hr
  exact(hi.blk b k r sz hk hr).ext hx (hb r (hlt b r sz hr))
 ·rw[hhp];exact hi.inj
 ·rw[hhp,hB]
  intro b k r sz hk hd hr
  refine⟨fun o ho=>?_,(hi.apart b k r sz hk hd hr).2⟩
  rcases hS r o ho with h |h
  ·exact(hi.apart b k r sz hk hd hr).1 o h
  ·have:=hlt b r sz hr;omega
 ·rw[htk];exact hi.K
 ·rw[htk]
  intro t k hk
  rcases hi.tk t k hk with h |⟨g,ha,hg,hn,⟨cs,e,hm,hcs⟩,hs,hbr,hne⟩
  ·exact .inl h
  ·have hgl:g < w.heap.size:=(Array.getElem?_eq_some_iff.1 hm).1
   refine .inr ⟨g,ha,hg,hn,⟨cs,e,(hb g hgl).trans hm,hcs⟩,fun o ho=>?_,by rw[hB];exact hbr,by rw[hhp];exact hne⟩
   rcases hS g o ho with h |h
   ·exact hs o h
   ·omega
 ·rw[htk];exact hi.tkinj
 ·rw[hB];exact hi.lent
theorem Inv.grow {base:Nat} {L:Lay} {H K} {w w':World} (hi:Inv L H K w base) (hb:Below w.heap.size w w'):Inv L H K w' base:=
 hi.step (Ext.grow hi hb) rfl rfl rfl (fun _ _ h=>.inl h) (fun g o h=>Nat.lt_of_lt_of_le (hi.size g o h) hb.size) hb.block
theorem below_alloc (w:World) (o:Obj):Below w.heap.size w (w.alloc o):=(Below.refl _ _).alloc (Nat.le_refl _) o
theorem below_drew (w:World):Below w.heap.size w w.drew:=(Below.refl _ _).drew
def Lay.fix (L:Lay) (g n:Nat):Lay:={ L with S:=fun g' o=>L.S g' o∨(g'=g∧o < n) }
theorem Ext.fix {base:Nat} {L:Lay} {H K} {w w':World} (hi:Inv L H K w base) (hb:Below w.heap.size w w') {g n:Nat} (hg:w.heap.size≤g):Ext base L w (L.fix g n) w' where
 S _ _ h:=.inl h
 cell g o h:=cell_of_heap (hb.block g (hi.size g o h))
 B _ h:=h
 lent g _ h:=cell_of_heap (hb.block g (Nat.lt_of_lt_of_le (hi.lent g h) hi.top))
 hp _ _ h:=h
 tk _ k h:=⟨k,h,.inl rfl⟩
 new g' o h:=by
  rcases h with h |⟨rfl,_⟩
  ·exact .inl h
  ·exact .inr (Nat.le_trans hi.top hg)
 old:=hb.mono hi.top
 oth:=Oth.below hb
theorem Inv.fix {base:Nat} {L:Lay} {H K} {w w':World} (hi:Inv L H K w base) (hb:Below w.heap.size w w') {g n:Nat} (hg:w.heap.size≤g) (hg':g < w'.heap.size):Inv (L.fix g n) H K w' base:=by
 refine hi.step (Ext.fix hi hb hg) rfl rfl rfl (fun g' o h=>?_) (fun g' o h=>?_) hb.block
 ·rcases h with h |⟨rfl,_⟩
  ·exact .inl h
  ·exact .inr hg
 ·rcases h with h |⟨rfl,_⟩
  ·exact Nat.lt_of_lt_of_le (hi.size g' o h) hb.size
  ·exact hg'
theorem repR_of {L:Lay} {w:World} {g n sz:Nat} {rows:List (List AV)} {cs:Array Value} {e:TypeId} (hm:w.heap[g]? =some (.cells cs e (0,0)))
  (hS:∀o,o < n→L.S g o) (hn:rows.length*sz≤n)
  (hr:∀(i:Nat) (row:List AV),rows[i]? =some row→row.length=sz∧∀(o:Nat) (v:AV),row[o]? =some v→pureB v=true∧cellB v=true∧∃u,cs[i*sz+o]? =some u∧Rep L w v u):
  RepR L w .no sz g 0 rows:=by
 refine RepR.of_get fun i row hrow=>?_
 obtain⟨hl,hc⟩:=hr i row hrow
 refine⟨hl,RepC.of_get fun o v hv=>?_⟩
 obtain⟨hp,hcl,u,hu,hrep⟩:=hc o v hv
 have hi:i < rows.length:=(List.getElem?_eq_some_iff.1 hrow).1
 have ho:o < row.length:=(List.getElem?_eq_some_iff.1 hv).1
 have hlt:i*sz+o < n:=by
  have:(i+1)*sz≤rows.length*sz:=Nat.mul_le_mul_right _ hi
  rw[Nat.add_mul,Nat.one_mul]at this
  omega
 rw[Nat.zero_add]
 exact⟨.inl (hS _ hlt),hp,hcl,u,by rw[cell_of_row w g _ cs e (0,0) hm];exact hu,hrep⟩
theorem repR_cap {L:Lay} {w:World} {sz g p:Nat} {rows:List (List AV)} (h:RepR L w .no sz g p rows) (c:Cap):RepR L w c sz g p rows:=RepR.cap (by simp) h
def setF {α:Type} (H:Nat→Option α) (b:Nat) (k:α):Nat→Option α:=fun x=>if x=b then some k else H x
theorem setF_same {α:Type} (H:Nat→Option α) (b:Nat) (k:α):setF H b k b=some k:=by simp[setF]
theorem setF_ne {α:Type} (H:Nat→Option α) (b:Nat) (k:α) {x:Nat} (h:x≠b):setF H b k x=H x:=by simp[setF,h]
def Lay.own (L:Lay) (b r sz:Nat):Lay:={ L with hp:=setF L.hp b (r,sz) }
theorem Ext.own {base:Nat} {L:Lay} {H K} {w w':World} (hi:Inv L H K w base) (hb:Below w.heap.size w w') {b r sz:Nat} (hf:H b=none):Ext base L w (L.own b r sz) w' where
 S _ _ h:=h
 cell g o h:=cell_of_heap (hb.block g (hi.size g o h))
 B _ h:=h
 lent g _ h:=cell_of_heap (hb.block g (Nat.lt_of_lt_of_le (hi.lent g h) hi.top))
 hp b' x h:=by
  have:b'≠b:=by
   rintro rfl
   obtain⟨k,hk,_⟩:=hi.dom' b' x.1 x.2 h
   rw[hf]at hk
   cases hk
  show setF L.hp b (r,sz) b'=some x
  rw[setF_ne _ _ _ this]
  exact h
 tk _ k h:=⟨k,h,.inl rfl⟩
 new _ _ h:=.inl h
 old:=hb.mono hi.top
 oth:=Oth.below hb
theorem Inv.own {base:Nat} {L:Lay} {H K} {w w':World} (hi:Inv L H K w base) (hb:Below w.heap.size w w') {b:Nat} {k:Blk} {r:Nat} (hf:H b=none) (hr:w.heap.size≤r)
  (hk:BlkOK (L.own b r k.sz) w' base k r):Inv (L.own b r k.sz) (setF H b k) K w' base:=by
 have hx:=Ext.own (b:=b) (r:=r) (sz:=k.sz) hi hb hf
 have hlt:∀b r sz,L.hp b=some (r,sz)→r < w.heap.size:=by
  intro b r sz h
  obtain⟨k,hk,rfl⟩:=hi.dom' b r sz h
  exact(hi.blk b k r k.sz hk h).lt
 have hp':∀b' r' sz',(L.own b r k.sz).hp b'=some (r',sz')→(b'=b∧r'=r∧sz'=k.sz)∨(b'≠b∧L.hp b'=some (r',sz')):=by
  intro b' r' sz' h
  by_cases hbb:b'=b
  ·subst hbb
   have:setF L.hp b' (r,k.sz) b'=some (r',sz'):=h
   rw[setF_same]at this
   cases this
   exact .inl ⟨rfl,rfl,rfl⟩
  ·refine .inr ⟨hbb,?_⟩
   have:setF L.hp b (r,k.sz) b'=some (r',sz'):=h
   rwa[setF_ne _ _ _ hbb]at this
 refine⟨?_,?_,?_,?_,?_,hi.K,?_,hi.tkinj,fun g o h=>Nat.lt_of_lt_of_le (hi.size g o h) hb.size,hi.lent,Nat.le_trans hi.top hb.size,hi.glob.below (hb.mono hi.top)⟩
 ·intro b' k' hk'
  by_cases hbb:b'=b
  ·subst hbb
   rw[setF_same]at hk'
   cases hk'
   exact⟨r,setF_same _ _ _⟩
  ·rw[setF_ne _ _ _ hbb]at hk'
   obtain⟨r',hr'⟩:=hi.dom b' k' hk'
   exact⟨r',(setF_ne L.hp b (r,k.sz) hbb).trans hr'⟩
 ·intro b' r' sz' h
  rcases hp' b' r' sz' h with⟨rfl,rfl,rfl⟩ |⟨hbb,h⟩
  ·exact⟨k,setF_same _ _ _,rfl⟩
  ·obtain⟨k',hk',e⟩:=hi.dom' b' r' sz' h
   exact⟨k',(setF_ne H b k hbb).trans hk',e⟩
 ·intro b' k' r' sz' hk' h
  rcases hp' b' r' sz' h with⟨rfl,rfl,rfl⟩ |⟨hbb,h⟩
  ·rw[setF_same]at hk'
   cases hk'
   exact hk
  ·rw[setF_ne _ _ _ hbb]at hk'
   exact(hi.blk b' k' r' sz' hk' h).ext hx (hb.block r' (hlt b' r' sz' h))
 ·intro b1 b2 r' s1 s2 h1 h2
  rcases hp' b1 r' s1 h1 with⟨e1,e2,e3⟩ |⟨hb1,h1'⟩ <;> rcases hp' b2 r' s2 h2 with⟨e4,e5,e6⟩ |⟨hb2,h2'⟩
  ·rw[e1,e4]
  ·have:=hlt b2 _ s2 h2';omega
  ·have:=hlt b1 _ s1 h1';omega
  ·exact hi.inj b1 b2 r' s1 s2 h1' h2'
 ·intro b' k' r' sz' hk' hd' h
  rcases hp' b' r' sz' h with⟨rfl,rfl,rfl⟩ |⟨hbb,h⟩
  ·refine⟨fun o ho=>?_,fun hB=>?_⟩
   ·have:=hi.size r' o ho;omega
   ·have:=hi.lent r' hB
    have:=hi.top
    omega
  ·rw[setF_ne _ _ _ hbb]at hk'
   exact hi.apart b' k' r' sz' hk' hd' h
 ·intro t tk htk
  rcases hi.tk t tk htk with h |⟨g,ha,hg,hn,⟨cs,e,hm,hcs⟩,hs,hbr,hne⟩
  ·exact .inl h
  ·have hgl:g < w.heap.size:=(Array.getElem?_eq_some_iff.1 hm).1
   refine .inr ⟨g,ha,hg,hn,⟨cs,e,(hb.block g hgl).trans hm,hcs⟩,hs,hbr,fun b' r' sz' h=>?_⟩
   rcases hp' b' r' sz' h with⟨rfl,rfl,rfl⟩ |⟨_,h⟩
   ·omega
   ·exact hne b' r' sz' h
end Go.Sym
end
section
namespace Go.Sym
open Go.RowKit
def EffOK (L:Lay) (H:Nat→Option Blk) (K:Nat→Option Nat) (w:World) (base:Nat) (e:Eff) (r:Result Next):Prop:=
 match e with
 | .val v=>∃L' w' u,r= .ok (.value u) w'∧Ext base L w L' w'∧Inv L' H K w' base∧Rep L' w' v u
 | .new k wn=>∀b,H b=none→∃L' w' u,r= .ok (.value u) w'∧Ext base L w L' w'∧Inv L' (setF H b k) K w' base∧
   Rep L' w' (match wn with |none=>.ptr b 0 0 |some n=>.win b 0 n.1 n.2) u
 | .upd b k=>∃w',r= .ok .skip w'∧Ext base L w L w'∧Inv L (setF H b k) K w' base
 | .ntok sz rows=>∀t,K t=none→∃L' w' u,r= .ok (.value u) w'∧Ext base L w L' w'∧Inv L' H (setF K t rows.length) w' base∧Rep L' w' (.lst sz rows (.tok t)) u
 | .stok t sz rows=>∃L' w' u,r= .ok (.value u) w'∧Ext base L w L' w'∧Inv L' H (setF K t rows.length) w' base∧Rep L' w' (.lst sz rows (.tok t)) u
 | .pan v=>∃u,r= .halt (.panic u) w∧Rep L w v u
 | .call g args=>∃us:Array Value,r= .ok (.enter g us) w∧RepL L w args us.toList
 | .round b args=>∃(us:Array Value) (l sz:Nat),L.hp b=some (l,sz)∧RepL L w args us.toList∧∀rc,w.heap[l]? =some (.loop rc)→us.size=rc.params.size→
   r= .ok (.round l rc.fn ((rc.params.zip us).foldl (fun tmps (t,a)=>tmps.setIfInBounds t a) rc.tmps) rc.assign rc.body) w
structure ProgOK (P:Program):Prop where
 names:∀(g:Nat) (fn:Func),P.funcs[g]? =some fn→(fn.name== "runtime.NumGoroutine")=false
 any:P.follows .mixedOrders=true
section
variable {P:Program} {L:Lay} {H:Nat→Option Blk} {K:Nat→Option Nat} {w:World} {base:Nat} {env:Nat→AV} {a:Act}
def EnvOK (L:Lay) (w:World) (env:Nat→AV) (a:Act):Prop:=∀t,Rep L w (env t) (a.tmps.getD t undef)
theorem EnvOK.op (h:EnvOK L w env a) (x:Operand):Rep L w (evO env x) (a.eval x):=by
 cases x with
 |tmp t=>exact h t
 |func f=>exact⟨#[],rfl,by simp[RepL]⟩
 |global g=>simp[evO,Rep]
 |const v=>
  cases v with
  |int k n=>rfl
  |bool b=>rfl
  |string s=>rfl
  |pointer p=>cases p <;> simp[evO,Rep,Act.eval]
  |nilFunc=>rfl
  |nilIface=>rfl
  |slice p n c=>
   cases p with
   |some _=>simp[evO,Rep]
   |none=>
    cases n <;> cases c <;> simp only[evO,Rep,Act.eval,CapOK]
    exact⟨none,0,0,rfl,rfl,Nat.le_refl _,by omega,by simp,rfl,rfl,rfl⟩
  |_=>simp[evO,Rep]
theorem val_same (hi:Inv L H K w base) {v:AV} {u:Value} (h:Rep L w v u):EffOK L H K w base (.val v) (.ok (.value u) w):=
 ⟨L,w,u,rfl,Ext.refl _ _ _,hi,h⟩
theorem ob_eq {α β:Type} {x:Option α} {f:α→Option β} {r:β} (h:ob x f=some r):∃a,x=some a∧f a=some r:=by
 cases x with
 |none=>simp[ob]at h
 |some a=>exact⟨a,rfl,h⟩
theorem tyOf_eq {t:TypeId} {y:Bool×Nat} (h:tyOf P t=some y):∃d i,P.underlying t=some d∧P.info? t=some i∧y.2=i.size∧y.1=aggD d:=by
 obtain⟨d,hd,h⟩:=ob_eq h
 obtain⟨i,hi,h⟩:=ob_eq h
 cases h
 exact⟨d,i,hd,hi,rfl,rfl⟩
theorem run_isAgg {t:TypeId} {d:TypeDesc} (h:P.underlying t=some d):(isAgg t).run P w= .ok (aggD d) w:=by
 unfold isAgg
 rw[Sem.run_bind,run_underlying h w]
 cases d <;> rfl
theorem mkv_eq {ag:Bool} {n:Nat} {cs:List AV} {v:AV} (h:mkv ag n cs=some v):cs.length=n∧((ag=true∧v= .agg cs)∨(ag=false∧cs=[v])):=by
 unfold mkv at h
 split at h
 ·rename_i hn
  refine⟨hn,?_⟩
  cases ag with
  |true=>left;simpa[eq_comm] using h
  |false=>
   right
   refine⟨rfl,?_⟩
   cases cs with
   |nil=>simp at h
   |cons c r=>cases r <;> simp_all
 ·simp at h
theorem cut_get {r:List AV} {o n i:Nat} {v:AV} (h:(cut r o n)[i]? =some v):r[o+i]? =some v:=by
 unfold cut at h
 rw[List.getElem?_take]at h
 split at h
 ·rwa[List.getElem?_drop]at h
 ·simp at h
theorem run_load_cells {t:TypeId} {y:Bool×Nat} (hy:tyOf P t=some y) {g p:Nat} {cs:List AV} {v:AV} (hv:mkv y.1 y.2 cs=some v)
  (hc:∀(i:Nat) (c:AV),cs[i]? =some c→∃u,w.cell? ⟨g,p+i,none⟩=some u∧Rep L w c u):
  ∃u,(loadVar t ⟨g,p,none⟩).run P w= .ok u w∧Rep L w v u:=by
 obtain⟨d,i,hd,hi,e2,e1⟩:=tyOf_eq hy
 obtain⟨hn,hv'⟩:=mkv_eq hv
 obtain⟨us,hus,hl,hrep⟩:∃us:List Value,(∀ j u,us[j]? =some u→w.cell? ⟨g,p+j,none⟩=some u)∧us.length=cs.length∧RepL L w cs us:=by
  clear hv' hn hv
  revert p
  induction cs with
  |nil=>intro p _;exact⟨[],by simp,rfl,by simp[RepL]⟩
  |cons c r ih=>
   intro p hc
   obtain⟨u,hu,hr⟩:=hc 0 c (by simp)
   obtain⟨us,h1,h2,h3⟩:=ih (p:=p+1) (fun i c' h'=>by
    have:=hc (i+1) c' (by simpa using h')
    rwa[show p+(i+1)=p+1+i by omega]at this)
   refine⟨u::us,fun j u' hj=>?_,by simp[h2],by simp only[RepL];exact⟨u,us,rfl,hr,h3⟩⟩
   cases j with
   |zero=>
    obtain rfl:u=u':=by simpa using hj
    exact hu
   |succ j=>
    rw[show p+(j+1)=p+1+j by omega]
    exact h1 j u' (by simpa using hj)
 have hag:=run_isAgg (P:=P) (w:=w) hd
 rw[←e1]at hag
 rcases hv' with⟨ha,rfl⟩ |⟨ha,rfl⟩
 ·refine⟨.agg us.toArray,?_,us.toArray,rfl,by simpa using hrep⟩
  have hload:(loadCells ⟨g,p,none⟩ us.length).run P w= .ok us.toArray w:=run_loadCells_list w _ us (fun j v hj=>by rw[add_mk];exact hus j v hj)
  rw[hl,hn,e2]at hload
  rw[ha]at hag
  simp[loadVar,Sem.run_bind,hag,sizeOf,typeInfo,hi,hload]
 ·obtain⟨u,q,rfl,hu,_⟩:=by simpa only[RepL] using hrep
  refine⟨u,?_,hu⟩
  have hcell:w.cell? ⟨g,p,none⟩=some u:=by simpa using hus 0 u (by simp)
  rw[ha]at hag
  simp[loadVar,Sem.run_bind,hag,hcell]
theorem BlkOK.cell {k:Blk} {r:Nat} (h:BlkOK L w base k r) {i:Nat} {row:List AV} (hrow:k.rows[i]? =some row) {o:Nat} {v:AV} (hv:row[o]? =some v):
  fitB k.kind v=true∧cellU v=true∧∃u,w.cell? ⟨r,i*k.sz+o,none⟩=some u∧Rep L w v u:=by
 obtain⟨cs,e,hm,hs,hc⟩:=h.mem (h.plain hrow)
 obtain⟨h1,h2,u,hu,hrep⟩:=(hc i row hrow).2 o v hv
 exact⟨h1,h2,u,by rw[cell_of_row w r _ cs e (0,0) hm];exact hu,hrep⟩
theorem run_ldv (hi:Inv L H K w base) {t:TypeId} {x v:AV} {u:Value} (h:ldv P H t x=some v) (hx:Rep L w x u):
  ∃ad u',u= .pointer (some ad)∧(loadVar t ad).run P w= .ok u' w∧Rep L w v u':=by
 cases x <;> simp only[ldv,reduceCtorEq]at h
 case ptr b i o=>
  obtain⟨y,hy,h⟩:=ob_eq h
  obtain⟨k,hk,h⟩:=ob_eq h
  obtain⟨row,hrow,h⟩:=ob_eq h
  obtain⟨r,sz,hr,rfl⟩:=by simpa only[Rep] using hx
  obtain⟨k',hk',rfl⟩:=hi.dom' b r sz hr
  rw[hk]at hk'
  cases hk'
  obtain⟨u',h1,h2⟩:=run_load_cells (L:=L) (w:=w) (g:=r) (p:=i*k.sz+o) hy h (fun j c hc=>by
   obtain⟨_,_,q,hq,hrep⟩:=(hi.blk b k r k.sz hk hr).cell hrow (cut_get hc)
   exact⟨q,by rw[Nat.add_assoc];exact hq,hrep⟩)
  exact⟨_,u',rfl,h1,h2⟩
 case iptr row o=>
  obtain⟨y,hy,h⟩:=ob_eq h
  obtain⟨g,p,rfl,hc⟩:=by simpa only[Rep] using hx
  obtain⟨u',h1,h2⟩:=run_load_cells (L:=L) (w:=w) (g:=g) (p:=p+o) hy h (fun j c hcj=>by
   obtain⟨_,_,_,q,hq,hrep⟩:=hc.get (cut_get hcj)
   exact⟨q,by rw[Nat.add_assoc];exact hq,hrep⟩)
  exact⟨_,u',rfl,h1,h2⟩
theorem op_load (hi:Inv L H K w base) (he:EnvOK L w env a) {t:TypeId} {x:Operand} {v:AV} (h:ldv P H t (evO env x)=some v) {o:Oper} (ho:o.op= .load t x):
  EffOK L H K w base (.val v) ((execOp a.eval o).run P w):=by
 obtain⟨ad,u',hu,hrun,hrep⟩:=run_ldv hi h (he.op x)
 have:(execOp a.eval o).run P w= .ok (.value u') w:=by
  unfold execOp
  simp only[ho,Sem.run_bind,Instr.loadAt,hu,Instr.sureAddr,Sem.run_pure,Result.andThen_ok,hrun]
 rw[this]
 exact val_same hi hrep
end
end Go.Sym
end
section
namespace Go.Sym
open Go.RowKit
section
variable {P:Program} {L:Lay} {H:Nat→Option Blk} {K:Nat→Option Nat} {w:World} {base:Nat} {env:Nat→AV} {a:Act}
theorem mul_sep {i j sz o:Nat} (h:i < j) (ho:o < sz):i*sz+o < j*sz:=by
 have:(i+1)*sz≤j*sz:=Nat.mul_le_mul_right _ h
 rw[Nat.add_mul,Nat.one_mul]at this
 omega
theorem splice_get {r cs:List AV} {o:Nat} (h:o+cs.length≤r.length) (j:Nat):(splice r o cs)[j]? =if o≤j∧j < o+cs.length then cs[j-o]? else r[j]? :=by
 unfold splice
 by_cases h1:j < o
 ·rw[List.getElem?_append_left (by simp;omega),List.getElem?_take,if_pos h1,if_neg (by omega)]
 ·rw[List.getElem?_append_right (by simp;omega)]
  simp only[List.length_take]
  rw[Nat.min_eq_left (by omega)]
  by_cases h2:j < o+cs.length
  ·rw[List.getElem?_append_left (by omega),if_pos ⟨by omega,h2⟩]
  ·rw[List.getElem?_append_right (by omega),List.getElem?_drop,if_neg (by omega)]
   congr 1
   omega
theorem splice_length {r cs:List AV} {o:Nat} (h:o+cs.length≤r.length):(splice r o cs).length=r.length:=by
 simp[splice];omega
theorem below_setRow {w:World} {r:Nat} {cs:Array Value} {base:Nat} (h:base≤r):Below base w (w.setRow r cs):=
 ⟨rfl,rfl,rfl,by simp,fun k hk=>setRow_other w r k cs (by omega)⟩
theorem Inv.lt (hi:Inv L H K w base) {b r sz:Nat} (h:L.hp b=some (r,sz)):r < w.heap.size:=by
 obtain⟨k,hk,rfl⟩:=hi.dom' b r sz h
 exact(hi.blk b k r k.sz hk h).lt
theorem Inv.upd (hi:Inv L H K w base) {b:Nat} {k:Blk} {r:Nat} (hk:H b=some k) (hr:L.hp b=some (r,k.sz)) {i:Nat} {row:List AV} (hrow:k.rows[i]? =some row)
  {o:Nat} {cs:List AV} (ho:o+cs.length≤row.length) (hfit:∀v ∈ cs,fitB k.kind v=true) (hcell:cellsB cs=true) {us:List Value} (hus:RepL L w cs us):
  ∃cur e,w.heap[r]? =some (.cells cur e (0,0))∧(i*k.sz+o)+us.length≤cur.size∧
   Ext base L w L (w.setRow r (cur.toList.take (i*k.sz+o)++us++cur.toList.drop (i*k.sz+o+us.length)).toArray)∧
   Inv L (setF H b { k with rows:=k.rows.set i (splice row o cs) }) K (w.setRow r (cur.toList.take (i*k.sz+o)++us++cur.toList.drop (i*k.sz+o+us.length)).toArray) base:=by
 have hkk:=hi.blk b k r k.sz hk hr
 have hpl:=hkk.plain hrow
 have hbase:=hkk.base
 obtain⟨cur,e,hm,hs,hc⟩:=hkk.mem hpl
 have hil:i < k.rows.length:=(List.getElem?_eq_some_iff.1 hrow).1
 have hrl:row.length=k.sz:=(hc i row hrow).1
 have hul:us.length=cs.length:=hus.length
 have hroom:(i*k.sz+o)+us.length≤cur.size:=by
  have:(i+1)*k.sz≤k.rows.length*k.sz:=Nat.mul_le_mul_right _ hil
  rw[Nat.add_mul,Nat.one_mul]at this
  omega
 refine⟨cur,e,hm,hroom,?_⟩
 have hget:∀j,(cur.toList.take (i*k.sz+o)++us++cur.toList.drop (i*k.sz+o+us.length)).toArray[j]? =if i*k.sz+o≤j∧j < i*k.sz+o+us.length then us[j-(i*k.sz+o)]? else cur[j]? :=by
  intro j
  simp only[List.getElem?_toArray]
  by_cases h1:j < i*k.sz+o
  ·rw[List.append_assoc,List.getElem?_append_left (by simp;omega),List.getElem?_take,if_pos h1,if_neg (by omega)]
   simp
  ·rw[List.append_assoc,List.getElem?_append_right (by simp;omega)]
   simp only[List.length_take,Array.length_toList]
   rw[Nat.min_eq_left (by omega)]
   by_cases h2:j < i*k.sz+o+us.length
   ·rw[List.getElem?_append_left (by omega),if_pos ⟨by omega,h2⟩]
   ·rw[List.getElem?_append_right (by omega),List.getElem?_drop,if_neg (by omega),Array.getElem?_toList]
    congr 1
    omega
 generalize hnew:(cur.toList.take (i*k.sz+o)++us++cur.toList.drop (i*k.sz+o+us.length)).toArray=new at*
 have hnewsz:new.size=cur.size:=by
  rw[←hnew]
  simp
  omega
 have hx:Ext base L w L (w.setRow r new):=by
  refine⟨fun _ _ h=>h,fun g p h=>?_,fun _ h=>h,fun g p h=>?_,fun _ _ h=>h,fun _ k h=>⟨k,h,.inl rfl⟩,fun _ _ h=>.inl h,below_setRow hbase,Oth.cells hm (fun g hg=>setRow_other w r g new hg) fun o ho=>?_⟩
  ·refine cell_of_heap (setRow_other w r g new ?_)
   rintro rfl
   exact(hi.apart b k g k.sz hk (live_of hpl) hr).1 p h
  ·refine cell_of_heap (setRow_other w r g new ?_)
   rintro rfl
   exact(hi.apart b k g k.sz hk (live_of hpl) hr).2 h
  ·rw[cell_of_row w r o cur e (0,0) hm]at ho
   rw[cell_setRow_same w r o cur new e (0,0) hm]
   obtain⟨u,hu⟩:=Option.isSome_iff_exists.1 ho
   have:=(Array.getElem?_eq_some_iff.1 hu).1
   rw[Array.getElem?_eq_getElem (by omega)]
   rfl
 refine⟨hx,?_⟩
 have hdom:∀b' k',setF H b { k with rows:=k.rows.set i (splice row o cs) } b'=some k'→∃k0,H b'=some k0∧k0.sz=k'.sz:=by
  intro b' k' h
  by_cases hb:b'=b
  ·subst hb
   rw[setF_same]at h
   cases h
   exact⟨k,hk,rfl⟩
  ·rw[setF_ne _ _ _ hb]at h
   exact⟨k',h,rfl⟩
 refine⟨?_,?_,?_,hi.inj,fun b' k' r' sz' hk' hd' hr'=>?_,hi.K,?_,hi.tkinj,fun g p h=>by rw[setRow_size];exact hi.size g p h,hi.lent,by rw[setRow_size];exact hi.top,hi.glob.below (below_setRow hbase)⟩
 ·intro b' k' h
  obtain⟨k0,h0,e0⟩:=hdom b' k' h
  obtain⟨r',hr'⟩:=hi.dom b' k0 h0
  exact⟨r',by rw[←e0];exact hr'⟩
 ·intro b' r' sz' h
  obtain⟨k0,h0,rfl⟩:=hi.dom' b' r' sz' h
  by_cases hb:b'=b
  ·subst hb
   rw[hk]at h0
   cases h0
   exact⟨_,setF_same _ _ _,rfl⟩
  ·exact⟨k0,(setF_ne _ _ _ hb).trans h0,rfl⟩
 ·intro b' k' r' sz' hk' h
  by_cases hb:b'=b
  ·subst hb
   rw[setF_same]at hk'
   cases hk'
   rw[hr]at h
   cases h
   refine BlkOK.mk' hpl hbase ⟨new,e,setRow_heap w r cur new e (0,0) hm,by simp only[List.length_set];rw[hnewsz];exact hs,fun i' row' hrow'=>?_⟩ (fun t ht=>by
    obtain⟨cs1,hm1⟩:=hkk.typ t ht
    rw[hm]at hm1
    cases hm1
    exact⟨new,setRow_heap w r cur new _ (0,0) hm⟩)
   simp only at hrow'
   rw[List.getElem?_set]at hrow'
   by_cases hii:i=i'
   ·subst hii
    rw[if_pos rfl,if_pos hil]at hrow'
    cases hrow'
    refine⟨(splice_length ho).trans hrl,fun o' v hv=>?_⟩
    have ho':o' < k.sz:=by
     have:=(List.getElem?_eq_some_iff.1 hv).1
     rw[splice_length ho]at this
     omega
    rw[splice_get ho]at hv
    show fitB k.kind v=true∧cellU v=true∧∃u,new[i*k.sz+o']? =some u∧Rep L _ v u
    rw[hget]
    by_cases hin:o≤o'∧o' < o+cs.length
    ·rw[if_pos hin]at hv
     rw[if_pos (by omega)]
     obtain⟨u,hu,hrep⟩:=hus.get hv
     refine⟨hfit v (List.mem_of_getElem? hv),cellU_of (cellsB_iff.1 hcell v (List.mem_of_getElem? hv)),u,?_,Rep.ext hx v u hrep⟩
     rw[show i*k.sz+o'-(i*k.sz+o)=o'-o by omega]
     exact hu
    ·rw[if_neg hin]at hv
     rw[if_neg (by omega)]
     obtain⟨h1,h2,u,hu,hrep⟩:=(hc i row hrow).2 o' v hv
     exact⟨h1,h2,u,hu,Rep.ext hx v u hrep⟩
   ·rw[if_neg hii]at hrow'
    refine⟨(hc i' row' hrow').1,fun o' v hv=>?_⟩
    obtain⟨h1,h2,u,hu,hrep⟩:=(hc i' row' hrow').2 o' v hv
    show fitB k.kind v=true∧cellU v=true∧∃u,new[i'*k.sz+o']? =some u∧Rep L _ v u
    refine⟨h1,h2,u,?_,Rep.ext hx v u hrep⟩
    have ho':o' < k.sz:=by
     have:=(List.getElem?_eq_some_iff.1 hv).1
     rw[(hc i' row' hrow').1]at this
     exact this
    rw[hget,if_neg ?_]
    ·exact hu
    ·intro hh
     rcases Nat.lt_or_gt_of_ne hii with hlt |hlt
     ·have:=mul_sep (i:=i) (j:=i') (sz:=k.sz) (o:=o+us.length-1) hlt
      by_cases hz:us.length=0
      ·omega
      ·have:=this (by omega)
       omega
     ·have:=mul_sep (i:=i') (j:=i) (sz:=k.sz) (o:=o') hlt ho'
      omega
  ·rw[setF_ne _ _ _ hb]at hk'
   refine(hi.blk b' k' r' sz' hk' h).ext hx (setRow_other w r r' new ?_)
   rintro rfl
   exact hb (hi.inj b' b r' sz' k.sz h hr)
 ·by_cases hb:b'=b
  ·subst hb
   rw[hr]at hr'
   cases hr'
   exact hi.apart b' k r k.sz hk (live_of hpl) hr
  ·rw[setF_ne _ _ _ hb]at hk'
   exact hi.apart b' k' r' sz' hk' hd' hr'
 ·intro t tk ht
  rcases hi.tk t tk ht with h |⟨g,ha,hg,hn,⟨cs',e',hm',hcs'⟩,hS,hB,hne⟩
  ·exact .inl h
  ·exact .inr ⟨g,ha,hg,hn,⟨cs',e',(setRow_other w r g new (fun e=>hne b r k.sz hr e.symm)).trans hm',hcs'⟩,hS,hB,hne⟩
theorem fitK_ok {kd:Kind} {xs cs:List AV} (h:fitK kd xs=some cs):(∀ v ∈ cs,fitB kd v=true)∧cs.length=xs.length∧(cs=xs∨cs=stripL xs):=by
 cases kd with
 |box=>
  simp only[fitK,Option.some.injEq]at h
  subst h
  exact⟨fun _ _=>rfl,rfl,.inl rfl⟩
 |cell t=>
  simp only[fitK,Option.some.injEq]at h
  subst h
  exact⟨fun _ _=>rfl,rfl,.inl rfl⟩
 |toky=>
  simp only[fitK]at h
  split at h
  ·rename_i hp
   cases h
   refine⟨fun v hv=>?_,rfl,.inl rfl⟩
   obtain⟨j,hj⟩:=List.getElem?_of_mem hv
   have:=(pureL_iff.1 hp) (strip v) (List.mem_of_getElem? (i:=j) (by rw[stripL_get,hj];rfl))
   exact this
  ·simp at h
 |data=>
  simp only[fitK]at h
  split at h
  ·rename_i hp
   cases h
   exact⟨fun v hv=>(pureL_iff.1 hp) v hv,stripL_length _,.inr rfl⟩
  ·simp at h
 |rng=>simp[fitK]at h
 |dead=>simp[fitK]at h
theorem cellsB_stripL {vs:List AV}:cellsB (stripL vs)=cellsB vs:=by
 induction vs with
 |nil=>rfl
 |cons v r ih=>simp[stripL,cellsB,cellB_strip,ih]
theorem op_store (hi:Inv L H K w base) (he:EnvOK L w env a) {nh:Nat} {t:TypeId} {x y:Operand} {p:Nat×Blk} (h:stv P nh H t (evO env y) (evO env x)=some p) {o:Oper} (ho:o.op= .store t x y):
  EffOK L H K w base (.upd p.1 p.2) ((execOp a.eval o).run P w):=by
 have hx:=he.op x
 have hy:=he.op y
 generalize evO env x=xv at h hx
 generalize evO env y=yv at h hy
 cases xv <;> simp only[stv,reduceCtorEq]at h
 case ptr b i off=>
  obtain⟨ty,hty,h⟩:=ob_eq h
  obtain⟨k,hk,h⟩:=ob_eq h
  obtain⟨row,hrow,h⟩:=ob_eq h
  obtain⟨cs,hcs,h⟩:=ob_eq h
  split at h
  ·rename_i hcond
   obtain⟨hl,hroom,hcell,_⟩:=hcond
   cases h
   obtain⟨d,inf,hd,hinf,e2,_⟩:=tyOf_eq hty
   obtain⟨hfit,hlen,hor⟩:=fitK_ok hcs
   obtain⟨r,sz,hr,hu⟩:=by simpa only[Rep] using hx
   obtain⟨k',hk',rfl⟩:=hi.dom' b r sz hr
   rw[hk]at hk'
   cases hk'
   have hus:RepL L w cs (a.eval y).cells.toList:=by
    rcases hor with rfl |rfl
    ·exact Rep.cells hy hcell
    ·exact RepL.strip _ _ (Rep.cells hy (by rw[←cellsB_stripL];exact hcell))
   obtain⟨cur,e,hm,hfits,hx',hi'⟩:=hi.upd hk hr hrow hroom hfit hcell hus
   have hst:=run_storeCells_at P r (i*k.sz+off) e (a.eval y).cells.toList 0 cur w hm (by simpa using hfits) (fun u hu=>RepL.oneCell hus hcell u hu)
   have hsz:(a.eval y).cells.size=inf.size:=by
    have:=hus.length
    simp only[Array.length_toList]at this
    omega
   refine⟨_,?_,hx',hi'⟩
   unfold execOp
   simp only[Nat.add_zero]at hst
   simp[ho,Instr.storeAt,hu,Instr.sureAddr,storeVar,sizeOf,typeInfo,hinf,hsz,hst]
  ·simp at h
theorem op_new (hi:Inv L H K w base) {cs:List AV} {us:Array Value} (hc:cellsB cs=true) (hr:RepL L w cs us.toList) (e:TypeId) {kd:Kind} (hkd:kd= .box∨kd= .cell e):
  EffOK L H K w base (.new ⟨cs.length,[cs],kd⟩ none) (.ok (.value (.pointer (some ⟨w.heap.size,0,none⟩))) (w.alloc (.cells us e))):=by
 intro b hb
 have hbel:=below_alloc w (.cells us e)
 have hx:=Ext.own (b:=b) (r:=w.heap.size) (sz:=cs.length) hi hbel hb
 refine⟨L.own b w.heap.size cs.length,_,_,rfl,hx,?_,?_⟩
 ·refine Inv.own (k:=⟨cs.length,[cs],kd⟩) hi hbel hb (Nat.le_refl _) (BlkOK.mk' (by rcases hkd with rfl |rfl <;> rfl) hi.top ⟨us,e,heap_alloc_new w _,?_,?_⟩ (fun t ht=>by
   rcases hkd with rfl |rfl
   ·cases ht
   ·cases ht;exact⟨us,heap_alloc_new w _⟩))
  ·have:=hr.length
   simp only[Array.length_toList]at this
   simp[this]
  ·intro i row hrow
   cases i with
   |succ i=>simp at hrow
   |zero=>
    obtain rfl:cs=row:=by simpa using hrow
    refine⟨rfl,fun o v hv=>⟨(by rcases hkd with rfl |rfl <;> rfl),cellU_of (cellsB_iff.1 hc v (List.mem_of_getElem? hv)),?_⟩⟩
    obtain⟨u,hu,hrep⟩:=hr.get hv
    exact⟨u,by simpa using hu,Rep.ext hx v u hrep⟩
 ·simp only[Rep]
  exact⟨w.heap.size,cs.length,setF_same _ _ _,by simp⟩
mutual
theorem zeroOf_rep {v:Value} {x:AV} (h:zeroOf v=some x):Rep L w x v:=by
 cases v with
 |slice p n c=>
  cases p with
  |some _=>simp[zeroOf]at h
  |none=>
   cases n with
   |succ _=>simp[zeroOf]at h
   |zero=>
    cases c with
    |succ _=>simp[zeroOf]at h
    |zero=>
     simp only[zeroOf,Option.some.injEq]at h
     subst h
     simp only[Rep]
     exact⟨none,0,0,rfl,rfl,Nat.le_refl _,by omega,.inl trivial,rfl,rfl,rfl⟩
 |pointer p=>
  cases p with
  |some _=>simp[zeroOf]at h
  |none=>
   simp only[zeroOf,Option.some.injEq]at h
   subst h
   simp[Rep]
 |_=>first
  | (simp only[zeroOf,reduceCtorEq]at h;done)
  | (simp only[zeroOf,Option.some.injEq]at h;subst h;simp[Rep])
end
theorem zerosOf_rep:∀{vs:List Value} {xs:List AV},zerosOf vs=some xs→RepL L w xs vs
 | [],xs,h=>by
  simp only[zerosOf,Option.some.injEq]at h
  subst h
  simp[RepL]
 |v::r,xs,h=>by
  simp only[zerosOf]at h
  obtain⟨x,hx,h⟩:=ob_eq h
  obtain⟨q,hq,h⟩:=ob_eq h
  cases h
  simp only[RepL]
  exact⟨v,r,rfl,zeroOf_rep hx,zerosOf_rep hq⟩
theorem zeroAt_eq {t:TypeId} {z:List AV} (h:zeroAt P t=some z):∃i v,P.info? t=some i∧i.zero=some v∧zerosOf v.cells.toList=some z:=by
 obtain⟨v,hv,h⟩:=ob_eq h
 cases hi:P.info? t with
 |none=>simp[hi]at hv
 |some i=>exact⟨i,v,rfl,by simpa[hi] using hv,h⟩
theorem op_alloc (hi:Inv L H K w base) {m:Nat} {t:TypeId} {z:List AV} (hz:zeroAt P t=some z) (hc:cellsB z=true) {o:Oper} (ho:o.op= .alloc t):
  EffOK L H K w base (.new ⟨z.length,[z],if m=5 then .cell t else .box⟩ none) ((execOp a.eval o).run P w):=by
 obtain⟨i,v,h1,h2,h3⟩:=zeroAt_eq hz
 have:=op_new (us:=v.cells) hi hc (zerosOf_rep h3) t (kd:=if m=5 then .cell t else .box) (by split;exact .inr rfl;exact .inl rfl)
 have hrun:(execOp a.eval o).run P w= .ok (.value (.pointer (some ⟨w.heap.size,0,none⟩))) (w.alloc (.cells v.cells t)):=by
  unfold execOp
  simp[ho,Instr.alloc,zeroValue,typeInfo,h1,h2,newVar,newRow]
 rw[hrun]
 exact this
theorem op_box (hi:Inv L H K w base) (he:EnvOK L w env a) {t:TypeId} {x:Operand} (hc:cellsB (evO env x).cells=true) {o:Oper} (ho:o.op= .box t x):
  EffOK L H K w base (.new ⟨(evO env x).cells.length,[(evO env x).cells],.box⟩ none) ((execOp a.eval o).run P w):=by
 have:=op_new (us:=(a.eval x).cells) hi hc (Rep.cells (he.op x) hc) t (kd:=.box) (.inl rfl)
 have hrun:(execOp a.eval o).run P w= .ok (.value (.pointer (some ⟨w.heap.size,0,none⟩))) (w.alloc (.cells (a.eval x).cells t)):=by
  unfold execOp
  simp[ho,Instr.box,newVar,newRow]
 rw[hrun]
 exact this
end
end Go.Sym
end
section
namespace Go.Sym
open Go.RowKit
section
variable {P:Program} {L:Lay} {H:Nat→Option Blk} {K:Nat→Option Nat} {w:World} {base:Nat} {env:Nat→AV} {a:Act}
theorem eff_val (hi:Inv L H K w base) {o:Oper} {v:AV} {u:Value} (hrun:(execOp a.eval o).run P w= .ok (.value u) w) (h:Rep L w v u):EffOK L H K w base (.val v) ((execOp a.eval o).run P w):=by
 rw[hrun]
 exact val_same hi h
theorem fieldAt_eq {t f:Nat} {p:Nat×Nat} (h:fieldAt P t f=some p):∃fs x i,P.underlying t=some (.struct fs)∧fs[f]? =some x∧P.info? x.type=some i∧i.size≠0∧p.1=x.offset:=by
 unfold fieldAt at h
 split at h
 ·rename_i fs hu
  obtain⟨x,hx,h⟩:=ob_eq h
  obtain⟨i,hi,h⟩:=ob_eq h
  split at h
  ·simp at h
  ·rename_i hs
   cases h
   exact⟨fs,x,i,hu,hx,hi,hs,rfl⟩
 ·simp at h
theorem op_fieldAddr (hi:Inv L H K w base) (he:EnvOK L w env a) {t f:Nat} {x:Operand} {v:AV} (h:fav P t f (evO env x)=some v) {o:Oper} (ho:o.op= .fieldAddr t x f):
  EffOK L H K w base (.val v) ((execOp a.eval o).run P w):=by
 have hx:=he.op x
 generalize evO env x=xv at h hx
 cases xv <;> simp only[fav,reduceCtorEq]at h
 case ptr b i off=>
  obtain⟨p,hp,h⟩:=ob_eq h
  cases h
  obtain⟨fs,fl,inf,hu,hf,hinf,hs,e⟩:=fieldAt_eq hp
  obtain⟨r,sz,hr,hv⟩:=by simpa only[Rep] using hx
  refine eff_val hi (u:=.pointer (some ⟨r,i*sz+(off+p.1),none⟩)) ?_ (by simp only[Rep];exact⟨r,sz,hr,rfl⟩)
  unfold execOp
  simp[ho,Instr.fieldAt,run_underlying hu,hf,hv,Instr.sureAddr,fieldPlace,sizeOf,typeInfo,hinf,hs,add_mk,e,Nat.add_assoc]
 case iptr cs off=>
  obtain⟨p,hp,h⟩:=ob_eq h
  cases h
  obtain⟨fs,fl,inf,hu,hf,hinf,hs,e⟩:=fieldAt_eq hp
  obtain⟨g,q,hv,hc⟩:=by simpa only[Rep] using hx
  refine eff_val hi (u:=.pointer (some ⟨g,q+(off+p.1),none⟩)) ?_ (by simp only[Rep];exact⟨g,q,rfl,hc⟩)
  unfold execOp
  simp[ho,Instr.fieldAt,run_underlying hu,hf,hv,Instr.sureAddr,fieldPlace,sizeOf,typeInfo,hinf,hs,add_mk,e,Nat.add_assoc]
theorem elemAt_eq {t:TypeId} {e:TypeId×TypeInfo} (h:elemAt P t=some e):P.underlying t=some (.slice e.1)∧P.info? e.1=some e.2:=by
 unfold elemAt at h
 split at h
 ·rename_i e' hu
  obtain⟨i,hi,h⟩:=ob_eq h
  cases h
  exact⟨hu,hi⟩
 ·simp at h
theorem elemSz_eq {t:TypeId} {e:Nat×Nat} (h:elemSz P t=some e):∃et i,P.underlying t=some (.slice et)∧P.info? et=some i∧e.1=i.size∧e.2=i.bytes:=by
 obtain⟨x,hx,h⟩:=ob_eq h
 obtain⟨z,hz,h⟩:=ob_eq h
 split at h
 ·cases h
  obtain⟨h1,h2⟩:=elemAt_eq hx
  exact⟨_,_,h1,h2,rfl,rfl⟩
 ·simp at h
theorem elemSz_zero {t:TypeId} {e:Nat×Nat} (h:elemSz P t=some e):∃et i z,P.underlying t=some (.slice et)∧P.info? et=some i∧e.1=i.size∧e.2=i.bytes∧i.zero=some z∧z.cells.size=i.size∧0 < i.size:=by
 obtain⟨x,hx,h⟩:=ob_eq h
 obtain⟨z,hz,h⟩:=ob_eq h
 split at h
 ·rename_i hc
  cases h
  obtain⟨h1,h2⟩:=elemAt_eq hx
  exact⟨_,_,z,h1,h2,rfl,rfl,hz,hc.1,by omega⟩
 ·simp at h
theorem arrAt_eq {t:TypeId} {x:Nat×Nat} (h:arrAt P t=some x):∃e i,P.underlying t=some (.array x.1 e)∧P.info? e=some i∧x.2=i.size:=by
 unfold arrAt at h
 split at h
 ·rename_i n e hu
  obtain⟨i,hi,h⟩:=ob_eq h
  cases h
  exact⟨e,i,hu,hi,rfl⟩
 ·simp at h
theorem op_indexAddr (hi:Inv L H K w base) (he:EnvOK L w env a) {t:Nat} {x y:Operand} {v:AV} (h:iav P H t (evO env x) (evO env y)=some v) {o:Oper} (ho:o.op= .indexAddr t x y):
  EffOK L H K w base (.val v) ((execOp a.eval o).run P w):=by
 have hx:=he.op x
 have hy:=he.op y
 generalize evO env x=xv at h hx
 generalize evO env y=yv at h hy
 cases yv with
 |int k n=>
  have hyv:a.eval y= .int k n:=by simpa only[Rep] using hy
  cases xv <;> simp only[iav,reduceCtorEq]at h
  case lst sz rows c=>
   obtain⟨e,hes,h⟩:=ob_eq h
   obtain⟨et,inf,hu,hinf,e1,e2⟩:=elemSz_eq hes
   split at h
   ·rename_i hcond
    obtain⟨hsz,hn0⟩:=hcond
    obtain⟨row,hrow,h⟩:=ob_eq h
    cases h
    obtain⟨ad,m,cap,hv,hm,hcap,hmax,hrows,_⟩:=by simpa only[Rep] using hx
    have hlt:n.toNat < rows.length:=(List.getElem?_eq_some_iff.1 hrow).1
    rcases hrows with rfl |⟨g,p,rfl,hrows⟩
    ·simp at hlt
    ·obtain⟨_,hc⟩:=hrows.get hrow
     have hb:n < (m:Int):=by omega
     refine eff_val hi (u:=.pointer (some ⟨g,p+n.toNat*sz+0,none⟩)) ?_ ?_
     ·unfold execOp
      simp[ho,Instr.indexAt,hyv,hv,asIntOf,run_underlying hu,hn0,hb,sizeOf,typeInfo,hinf,←e1,hsz,add_mk]
     ·simp only[Rep]
      exact⟨g,p+n.toNat*sz,rfl,RepC.cap (fun _=>rfl) hc⟩
   ·simp at h
  case win b off len cap=>
   obtain⟨e,hes,h⟩:=ob_eq h
   obtain⟨et,inf,hu,hinf,e1,e2⟩:=elemSz_eq hes
   obtain⟨k,hk,h⟩:=ob_eq h
   split at h
   ·rename_i hcond
    obtain⟨hsz,hn0,hb⟩:=hcond
    cases h
    obtain⟨r,sz,ad,cp,hr,hv,hle,hmax,_,had,_⟩:=by simpa only[Rep] using hx
    obtain⟨k',hk',rfl⟩:=hi.dom' b r sz hr
    rw[hk]at hk'
    cases hk'
    have hcap:cp≠0:=by omega
    obtain rfl:ad=⟨r,off*k.sz,none⟩:=had.resolve_left hcap
    refine eff_val hi (u:=.pointer (some ⟨r,(off+n.toNat)*k.sz+0,none⟩)) ?_ (by simp only[Rep];exact⟨r,k.sz,hr,rfl⟩)
    unfold execOp
    simp[ho,Instr.indexAt,hyv,hv,asIntOf,run_underlying hu,hn0,hb,sizeOf,typeInfo,hinf,←e1,hsz,add_mk,Nat.add_mul]
   ·simp at h
  case ptr b i off=>
   obtain⟨ar,har,h⟩:=ob_eq h
   obtain⟨et,inf,hu,hinf,e2⟩:=arrAt_eq har
   split at h
   ·rename_i hcond
    obtain⟨hn0,hb⟩:=hcond
    cases h
    obtain⟨r,sz,hr,hv⟩:=by simpa only[Rep] using hx
    refine eff_val hi (u:=.pointer (some ⟨r,i*sz+(off+n.toNat*ar.2),none⟩)) ?_ (by simp only[Rep];exact⟨r,sz,hr,rfl⟩)
    unfold execOp
    simp[ho,Instr.indexAt,hyv,hv,asIntOf,run_underlying hu,Instr.sureAddr,hn0,hb,sizeOf,typeInfo,hinf,←e2,add_mk,Nat.add_assoc]
   ·simp at h
  case iptr cs off=>
   obtain⟨ar,har,h⟩:=ob_eq h
   obtain⟨et,inf,hu,hinf,e2⟩:=arrAt_eq har
   split at h
   ·rename_i hcond
    obtain⟨hn0,hb⟩:=hcond
    cases h
    obtain⟨g,q,hv,hc⟩:=by simpa only[Rep] using hx
    refine eff_val hi (u:=.pointer (some ⟨g,q+(off+n.toNat*ar.2),none⟩)) ?_ (by simp only[Rep];exact⟨g,q,rfl,hc⟩)
    unfold execOp
    simp[ho,Instr.indexAt,hyv,hv,asIntOf,run_underlying hu,Instr.sureAddr,hn0,hb,sizeOf,typeInfo,hinf,←e2,add_mk,Nat.add_assoc]
   ·simp at h
 |_=>cases xv <;> simp[iav]at h
end
end Go.Sym
end
section
namespace Go.Sym
open Go.RowKit
section
variable {P:Program} {L:Lay} {H:Nat→Option Blk} {K:Nat→Option Nat} {w:World} {base:Nat} {env:Nat→AV} {a:Act}
theorem RepL.cut {cs:List AV} {us:List Value} (h:RepL L w cs us) (o n:Nat):RepL L w (Sym.cut cs o n) ((us.drop o).take n):=by
 refine RepL.of_get ?_ fun i v u hv hu=>?_
 ·simp[Sym.cut,h.length]
 ·have h1:=cut_get hv
  rw[List.getElem?_take]at hu
  split at hu
  ·rw[List.getElem?_drop]at hu
   obtain⟨u',hu',hr⟩:=h.get h1
   rw[hu]at hu'
   cases hu'
   exact hr
  ·simp at hu
theorem run_part {t:TypeId} {cs:List AV} {o:Nat} {v:AV} (h:partv P t cs o=some v) {us:Array Value} (hr:RepL L w cs us.toList):
  ∃u,(part t us o).run P w= .ok u w∧Rep L w v u:=by
 obtain⟨y,hy,h⟩:=ob_eq h
 obtain⟨d,i,hd,hi,e2,e1⟩:=tyOf_eq hy
 obtain⟨hn,hv⟩:=mkv_eq h
 have hag:=run_isAgg (P:=P) (w:=w) hd
 rw[←e1]at hag
 have hc:=hr.cut o y.2
 rcases hv with⟨ha,rfl⟩ |⟨ha,hcs⟩
 ·rw[ha]at hag
  refine⟨.agg (us.extract o (o+y.2)),?_,_,rfl,?_⟩
  ·simp[part,Sem.run_bind,hag,sizeOf,typeInfo,hi,e2]
  ·have:(us.extract o (o+y.2)).toList=(us.toList.drop o).take y.2:=by
    simp[Array.toList_extract,List.extract_eq_take_drop]
   rw[this]
   exact hc
 ·rw[ha]at hag
  rw[hcs]at hc
  obtain⟨u,q,hu,hrep,hq⟩:=by simpa only[RepL] using hc
  refine⟨u,?_,hrep⟩
  have h0:us[o]? =some u:=by
   have:((us.toList.drop o).take y.2)[0]? =some u:=by rw[hu];rfl
   rw[List.getElem?_take]at this
   split at this
   ·simpa using this
   ·simp at this
  simp[part,Sem.run_bind,hag,h0]
theorem op_field (hi:Inv L H K w base) (he:EnvOK L w env a) {t f:Nat} {x:Operand} {v:AV} (h:fldv P t f (evO env x)=some v) {o:Oper} (ho:o.op= .field t x f):
  EffOK L H K w base (.val v) ((execOp a.eval o).run P w):=by
 have hx:=he.op x
 generalize evO env x=xv at h hx
 cases xv <;> simp only[fldv,reduceCtorEq]at h
 case agg cs=>
  split at h
  ·rename_i fs hu
   obtain⟨fl,hf,h⟩:=ob_eq h
   obtain⟨us,hv,hr⟩:=by simpa only[Rep] using hx
   obtain⟨u,hrun,hrep⟩:=run_part h hr
   refine eff_val hi (u:=u) ?_ hrep
   unfold execOp
   simp[ho,Instr.field,run_underlying hu,hf,hv,asAgg,hrun]
  ·simp at h
theorem op_index (hi:Inv L H K w base) (he:EnvOK L w env a) {t:Nat} {x y:Operand} {v:AV} (h:ixv P t (evO env x) (evO env y)=some v) {o:Oper} (ho:o.op= .index t x y):
  EffOK L H K w base (.val v) ((execOp a.eval o).run P w):=by
 have hx:=he.op x
 have hy:=he.op y
 generalize evO env x=xv at h hx
 generalize evO env y=yv at h hy
 cases yv with
 |int k n=>
  have hyv:a.eval y= .int k n:=by simpa only[Rep] using hy
  cases xv <;> simp only[ixv,reduceCtorEq]at h
  case agg cs=>
   split at h
   ·rename_i len e hu
    obtain⟨j,hj,h⟩:=ob_eq h
    split at h
    ·rename_i hcond
     obtain⟨us,hv,hr⟩:=by simpa only[Rep] using hx
     obtain⟨u,hrun,hrep⟩:=run_part h hr
     refine eff_val hi (u:=u) ?_ hrep
     unfold execOp
     simp[ho,Instr.index,hyv,hv,asIntOf,run_underlying hu,hcond.1,hcond.2,sizeOf,typeInfo,hj,hrun]
    ·simp at h
   ·simp at h
  case str s=>
   split at h
   ·rename_i hu
    split at h
    ·rename_i hn
     obtain⟨c,hc,h⟩:=ob_eq h
     cases h
     have hv:a.eval x= .string s:=by simpa only[Rep] using hx
     refine eff_val hi (u:=.int .u8 c.toNat) ?_ rfl
     unfold execOp
     simp[ho,Instr.index,hyv,hv,asIntOf,run_underlying hu,hn,hc]
    ·simp at h
   ·simp at h
 |_=>cases xv <;> simp[ixv]at h
theorem run_equalIn_bool {t:TypeId} (hu:P.underlying t=some .bool) (d:Nat) (p q:Bool):(Op.equalIn (d+1) t (.bool p) (.bool q)).run P w= .ok (p==q) w:=by
 simp[Op.equalIn,run_underlying hu]
theorem run_eql_bool {t:TypeId} (hu:P.underlying t=some .bool) (p q:Bool):(binOp .eql t (.bool p) (.bool q)).run P w= .ok (.bool (p==q)) w:=by
 have e:binOp .eql t (.bool p) (.bool q)=(Op.equalIn (9999+1) t (.bool p) (.bool q) >>= fun r=>pure (.bool r)):=rfl
 rw[e,Sem.run_bind,run_equalIn_bool hu]
 rfl
theorem run_neq_bool {t:TypeId} (hu:P.underlying t=some .bool) (p q:Bool):(binOp .neq t (.bool p) (.bool q)).run P w= .ok (.bool (!(p==q))) w:=by
 have e:binOp .neq t (.bool p) (.bool q)=(Op.equalIn (9999+1) t (.bool p) (.bool q) >>= fun r=>pure (.bool (!r))):=rfl
 rw[e,Sem.run_bind,run_equalIn_bool hu]
 rfl
theorem eqGuard_bool {op:BinOp} {t:TypeId} {x y:Operand} {p q:Bool}:(eqGuard op t x y (.bool p) (.bool q)).run P w= .ok () w:=by cases op <;> simp[eqGuard]
theorem op_bin (hi:Inv L H K w base) (he:EnvOK L w env a) {op:BinOp} {t t':Nat} {x y:Operand} {v:AV} (h:binv P op t (evO env x) (evO env y)=some v) {o:Oper} (ho:o.op= .binOp op t x y t'):
  EffOK L H K w base (.val v) ((execOp a.eval o).run P w):=by
 have hx:=he.op x
 have hy:=he.op y
 generalize evO env x=xv at h hx
 generalize evO env y=yv at h hy
 have key:∀u:Value,(do eqGuard op t x y (a.eval x) (a.eval y);binOp op t (a.eval x) (a.eval y):Sem Value).run P w= .ok u w→Rep L w v u→EffOK L H K w base (.val v) ((execOp a.eval o).run P w):=by
  intro u hrun hrep
  refine eff_val hi (u:=u) ?_ hrep
  unfold execOp
  simp only[ho]
  rw[Sem.run_bind,hrun]
  rfl
 cases xv with
 |int k n=>
  cases yv with
  |int j m=>
   have hxv:a.eval x= .int k n:=by simpa only[Rep] using hx
   have hyv:a.eval y= .int j m:=by simpa only[Rep] using hy
   have hg:(eqGuard op t x y (.int k n) (.int j m)).run P w= .ok () w:=by cases op <;> simp[eqGuard]
   have key':∀u:Value,(binOp op t (.int k n) (.int j m)).run P w= .ok u w→Rep L w v u→EffOK L H K w base (.val v) ((execOp a.eval o).run P w):=by
    intro u hrun hrep
    exact key u (by rw[hxv,hyv,Sem.run_bind,hg];exact hrun) hrep
   clear key
   cases op <;> simp only[binv,reduceCtorEq]at h
   case add |sub |mul=>
    split at h
    ·rename_i hk;subst hk;cases h
     exact key' _ (by simp[binOp,Op.intArith]) rfl
    ·simp at h
   case quo |rem=>
    split at h
    ·rename_i hk;obtain⟨rfl,hz⟩:=hk;cases h
     exact key' _ (by simp[binOp,Op.intDiv,hz]) rfl
    ·simp at h
   all_goals
    split at h
    ·rename_i hk;subst hk;cases h
     exact key' _ (by simp[binOp,Op.intCmp]) rfl
    ·simp at h
  |_=>cases op <;> simp[binv]at h
 |str s=>
  cases yv with
  |str q=>
   have hxv:a.eval x= .string s:=by simpa only[Rep] using hx
   have hyv:a.eval y= .string q:=by simpa only[Rep] using hy
   cases op <;> simp only[binv,reduceCtorEq]at h
   case add=>
    split at h
    ·rename_i hs
     cases h
     have hs': ¬((9223372036854775807:Int) < (s.size:Int)+(q.size:Int)):=by omega
     exact key _ (by simp[eqGuard,binOp,hxv,hyv,Op.stringOp,IntKind.max,IntKind.bits,IntKind.signed,hs']) rfl
    ·cases h
   all_goals
    cases h
    exact key _ (by simp[eqGuard,binOp,hxv,hyv,Op.stringOp]) rfl
  |_=>cases op <;> simp[binv]at h
 |bool p=>
  cases yv with
  |bool q=>
   have hxv:a.eval x= .bool p:=by simpa only[Rep] using hx
   have hyv:a.eval y= .bool q:=by simpa only[Rep] using hy
   cases op <;> simp only[binv,reduceCtorEq]at h
   all_goals
    split at h
    ·rename_i hu;cases h
     first
      |exact key _ (by rw[hxv,hyv,Sem.run_bind,eqGuard_bool];exact run_eql_bool hu p q) rfl
      |exact key _ (by rw[hxv,hyv,Sem.run_bind,eqGuard_bool];exact run_neq_bool hu p q) rfl
    ·simp at h
  |_=>cases op <;> simp[binv]at h
 |_=>cases op <;> simp[binv]at h
theorem nilcmp_run (he:EnvOK L w env a) {op:BinOp} {t:TypeId} {x y:Operand} {b:Bool} (h:nilcmp P t (evO env x) y=some b) (hop:op= .eql∨op= .neq):
  (eqGuard op t x y (a.eval x) (a.eval y)).run P w= .ok () w∧(∀ d,(Op.equalIn (d+1) t (a.eval x) (a.eval y)).run P w= .ok b w)∧
   binOp .eql t (a.eval x) (a.eval y)=(Op.equalIn (9999+1) t (a.eval x) (a.eval y) >>= fun r=>pure (.bool r))∧
   binOp .neq t (a.eval x) (a.eval y)=(Op.equalIn (9999+1) t (a.eval x) (a.eval y) >>= fun r=>pure (.bool (!r))):=by
 have hx:=he.op x
 generalize evO env x=xv at h hx
 unfold nilcmp at h
 split at h
 ·have hy:a.eval (.const .nilIface)= .nilIface:=rfl
  rw[hy]
  split at h
  ·rename_i ms hu
   split at h
   ·cases h
    have hxv:a.eval x= .nilIface:=by simpa only[Rep] using hx
    rw[hxv]
    refine⟨by rcases hop with rfl |rfl <;> simp[eqGuard],fun d=>?_,rfl,rfl⟩
    simp[Op.equalIn,run_underlying hu]
   ·cases h
    obtain⟨u,hxv,_⟩:=by simpa only[Rep] using hx
    rw[hxv]
    refine⟨by rcases hop with rfl |rfl <;> simp[eqGuard],fun d=>?_,rfl,rfl⟩
    simp[Op.equalIn,run_underlying hu]
   ·cases h
  ·cases h
 ·have hy:a.eval (.const (.slice none 0 0))= .slice none 0 0:=rfl
  rw[hy]
  split at h
  ·rename_i e hu
   split at h
   ·rename_i sz rows c
    obtain⟨ad,n,cap,hxv,hn,_,_,hrows,hcap⟩:=by simpa only[Rep] using hx
    rw[hxv]
    refine⟨by rcases hop with rfl |rfl <;> simp[eqGuard],fun d=>?_,rfl,rfl⟩
    have key:ad.isNone=b:=by
     cases rows with
     |nil=>
      cases c <;> simp only[nilB,reduceCtorEq,Option.some.injEq]at h
      ·subst h;rw[hcap.1];rfl
      ·subst h
       have:ad≠none:=hcap
       cases ad <;> simp_all
      ·subst h
       have:ad=none:=hcap
       rw[this];rfl
     |cons r q=>
      simp only[nilB,Option.some.injEq]at h
      subst h
      rcases hrows with hr |⟨g,p,ha,_⟩
      ·cases hr
      ·rw[ha];rfl
    cases ad with
    |none=>simp at key;subst key;simp[Op.equalIn,run_underlying hu]
    |some ad=>simp at key;subst key;simp[Op.equalIn,run_underlying hu]
   ·simp only[nilB,Option.some.injEq]at h
    subst h
    obtain⟨r,sz,ad,cp,_,hxv,_⟩:=by simpa only[Rep] using hx
    rw[hxv]
    refine⟨by rcases hop with rfl |rfl <;> simp[eqGuard],fun d=>?_,rfl,rfl⟩
    simp[Op.equalIn,run_underlying hu]
   ·cases h
  ·cases h
 ·cases h
theorem op_binn (hi:Inv L H K w base) (he:EnvOK L w env a) {op:BinOp} {t t':Nat} {x y:Operand} {v:AV} (h:binn P op t (evO env x) (evO env y) y=some v) {o:Oper} (ho:o.op= .binOp op t x y t'):
  EffOK L H K w base (.val v) ((execOp a.eval o).run P w):=by
 unfold binn at h
 split at h
 ·rename_i b hb
  cases h
  obtain⟨h1,h2,h3,_⟩:=nilcmp_run (w:=w) he hb (.inl rfl)
  refine eff_val hi (u:=.bool b) ?_ rfl
  unfold execOp
  simp only[ho,Sem.run_bind,h1,Result.andThen_ok,h3,h2,Sem.run_pure]
 ·rename_i b hb
  cases h
  obtain⟨h1,h2,_,h3⟩:=nilcmp_run (w:=w) he hb (.inr rfl)
  refine eff_val hi (u:=.bool (!b)) ?_ rfl
  unfold execOp
  simp only[ho,Sem.run_bind,h1,Result.andThen_ok,h3,h2,Sem.run_pure]
 ·exact op_bin hi he h ho
theorem op_assert (hi:Inv L H K w base) (he:EnvOK L w env a) {x:Operand} {xt t:TypeId} {v:AV} (h:assertv P t (evO env x)=some v) {o:Oper} (ho:o.op= .typeAssert x xt t true):
  EffOK L H K w base (.val v) ((execOp a.eval o).run P w):=by
 have hx:=he.op x
 generalize evO env x=xv at h hx
 unfold assertv at h
 split at h
 ·rename_i t' v'
  split at h
  ·cases h
  ·rename_i d hd hu
   simp only[Option.ite_none_right_eq_some,Option.some.injEq]at h
   obtain⟨rfl,rfl⟩:=h
   obtain⟨u,hxv,hr⟩:=by simpa only[Rep] using hx
   refine eff_val hi (u:=.tuple #[u,.bool true]) ?_ (by simp only[Rep];exact⟨_,rfl,by simp only[RepL,Rep];exact⟨u,_,rfl,hr,_,_,rfl,rfl,rfl⟩⟩)
   unfold execOp
   cases d <;> first |exact absurd rfl (hd _) |simp[ho,Instr.typeAssert,hxv,run_underlying hu]
  ·cases h
 ·cases h
theorem op_un (hi:Inv L H K w base) (he:EnvOK L w env a) {op:UnOp} {t:Nat} {x:Operand} {v:AV} (h:unv op (evO env x)=some v) {o:Oper} (ho:o.op= .unOp op t x):
  EffOK L H K w base (.val v) ((execOp a.eval o).run P w):=by
 have hx:=he.op x
 generalize evO env x=xv at h hx
 cases op <;> cases xv <;> simp only[unv,reduceCtorEq,Option.some.injEq]at h
 case neg.int k n=>
  subst h
  have hxv:a.eval x= .int k n:=by simpa only[Rep] using hx
  refine eff_val hi (u:=.int k (k.wrap (0-n))) ?_ rfl
  unfold execOp
  simp[ho,hxv,Op.unary,Op.intArith]
 case not.bool b=>
  subst h
  have hxv:a.eval x= .bool b:=by simpa only[Rep] using hx
  refine eff_val hi (u:=.bool (!b)) ?_ rfl
  unfold execOp
  simp[ho,hxv,Op.unary]
theorem op_conv (hi:Inv L H K w base) (he:EnvOK L w env a) {s d:Nat} {x:Operand} {v:AV} (h:convv P s d (evO env x)=some v) {o:Oper} (ho:o.op= .convert s d x):
  EffOK L H K w base (.val v) ((execOp a.eval o).run P w):=by
 have hx:=he.op x
 generalize evO env x=xv at h hx
 cases xv <;> simp only[convv,reduceCtorEq]at h
 case int k n=>
  split at h
  ·rename_i k1 k2 h1 h2
   cases h
   have hxv:a.eval x= .int k n:=by simpa only[Rep] using hx
   refine eff_val hi (u:=.int k2 (k2.wrap n)) ?_ rfl
   unfold execOp
   simp[ho,hxv,convert,run_underlying h1,run_underlying h2,Conv.intToInt]
  ·simp at h
theorem op_len (hi:Inv L H K w base) (he:EnvOK L w env a) {t:Nat} {x:Operand} {v:AV} (h:lenv P t (evO env x)=some v) {o:Oper} {ts:Array TypeId}
  (ho:o.op= .call ⟨.builtin .len,#[x],ts⟩) (ht:ts[0]? =some t):EffOK L H K w base (.val v) ((execOp a.eval o).run P w):=by
 have hx:=he.op x
 generalize evO env x=xv at h hx
 have key:∀u:Value,(Builtin.len_ ts o.type #[a.eval x]).run P w= .ok u w→Rep L w v u→EffOK L H K w base (.val v) ((execOp a.eval o).run P w):=by
  intro u hrun hrep
  refine eff_val hi (u:=u) ?_ hrep
  unfold execOp
  simp[ho,resolve,invoke,builtin,hrun]
 cases xv <;> simp only[lenv,reduceCtorEq]at h
 case lst sz rows c=>
  split at h
  ·rename_i e hu
   cases h
   obtain⟨ad,m,cap,hv,hm,hcap,hmax,hrows,_⟩:=by simpa only[Rep] using hx
   exact key (.int .i64 rows.length) (by simp[Builtin.len_,ht,run_underlying hu,hv,goInt,hm]) rfl
  ·simp at h
 case win b off len cap=>
  split at h
  ·rename_i e hu
   cases h
   obtain⟨r,sz,ad,cp,hr,hv,hle,hmax,_,had,_⟩:=by simpa only[Rep] using hx
   exact key (.int .i64 len) (by simp[Builtin.len_,ht,run_underlying hu,hv,goInt]) rfl
  ·simp at h
 case str s=>
  split at h
  ·rename_i hu
   cases h
   have hv:a.eval x= .string s:=by simpa only[Rep] using hx
   exact key (.int .i64 s.size) (by simp[Builtin.len_,ht,run_underlying hu,hv,goInt]) rfl
  ·simp at h
theorem op_mkif (hi:Inv L H K w base) (he:EnvOK L w env a) {t:Nat} {x:Operand} {d:TypeDesc} (hu:P.underlying t=some d) (hd:∀ms,d≠ .interface ms) {o:Oper} (ho:o.op= .makeInterface t x):
  EffOK L H K w base (.val (.iface t (evO env x))) ((execOp a.eval o).run P w):=by
 refine eff_val hi (u:=.iface t (a.eval x)) ?_ (by simp only[Rep];exact⟨_,rfl,he.op x⟩)
 unfold execOp
 cases d <;> first |exact absurd rfl (hd _) |simp[ho,Instr.makeInterface,run_underlying hu]
theorem EnvOK.ops (he:EnvOK L w env a):∀(xs:List Operand),RepL L w (evL env xs) (xs.map a.eval)
 | []=>by simp[evL,RepL]
 |x::r=>by
  simp only[evL,List.map_cons,RepL]
  exact⟨_,_,rfl,he.op x,he.ops r⟩
theorem op_mkfn (hi:Inv L H K w base) (he:EnvOK L w env a) {f:FuncId} {first caps:Array Operand} (hf:first.toList.isEmpty=true) {o:Oper} (ho:o.op= .makeFunc (.func f) first caps):
  EffOK L H K w base (.val (.fn f (evL env caps.toList))) ((execOp a.eval o).run P w):=by
 have h0:first= #[]:=by
  cases first with
  |mk l=>cases l <;> simp_all
 subst h0
 refine eff_val hi (u:=.func (.func f) #[] (caps.map a.eval)) ?_ (by simp only[Rep];exact⟨_,rfl,by simpa using he.ops caps.toList⟩)
 unfold execOp
 simp[ho,Instr.makeFunc]
theorem op_extract (hi:Inv L H K w base) (he:EnvOK L w env a) {x:Operand} {i:Nat} {vs:List AV} {v:AV} (h:evO env x= .tup vs) (hv:vs[i]? =some v) {o:Oper} (ho:o.op= .extract x i):
  EffOK L H K w base (.val v) ((execOp a.eval o).run P w):=by
 have hx:=he.op x
 rw[h]at hx
 obtain⟨us,hu,hr⟩:=by simpa only[Rep] using hx
 obtain⟨u,h1,h2⟩:=hr.get hv
 refine eff_val hi (u:=u) ?_ h2
 unfold execOp
 have:us[i]? =some u:=by simpa using h1
 simp[ho,Instr.extract,hu,this]
theorem op_call (hP:ProgOK P) (he:EnvOK L w env a) {f:Operand} {args:Array Operand} {ts:Array TypeId} {g:FuncId} {caps:List AV} (h:evO env f= .fn g caps) {fn:Func} (hg:P.funcs[g]? =some fn) (hb:fn.body.isSome=true)
  {o:Oper} (ho:o.op= .call ⟨.value f,args,ts⟩):EffOK L H K w base (.call g (evL env args.toList++caps)) ((execOp a.eval o).run P w):=by
 have hf:=he.op f
 rw[h]at hf
 obtain⟨ws,hu,hr⟩:=by simpa only[Rep] using hf
 refine⟨args.map a.eval++ws,?_,by simpa using (he.ops args.toList).append hr⟩
 have hn:=hP.names g fn hg
 have hn': ¬fn.name= "runtime.NumGoroutine" :=by
  intro e
  rw[e]at hn
  simp at hn
 have hb': ¬fn.body=none:=by
  intro e
  simp[e]at hb
 unfold execOp
 simp[ho,resolve,invoke,Deferred.ofValue,hu,callFunc,hg,hn',hb']
theorem op_round (he:EnvOK L w env a) {f:Operand} {args:Array Operand} {ts:Array TypeId} {b:Nat} (h:evO env f= .yld b) {o:Oper} (ho:o.op= .call ⟨.value f,args,ts⟩):
  EffOK L H K w base (.round b (evL env args.toList)) ((execOp a.eval o).run P w):=by
 have hf:=he.op f
 rw[h]at hf
 obtain⟨l,sz,hl,hu⟩:=by simpa only[Rep] using hf
 refine⟨args.map a.eval,l,sz,hl,by simpa using he.ops args.toList,fun rc hrc hs=>?_⟩
 unfold execOp
 have:=run_yield (P:=P) hrc hs
 simp[ho,resolve,invoke,Deferred.ofValue,hu,this]
theorem op_invoke (hP:ProgOK P) (he:EnvOK L w env a) {x:Operand} {m:String} {args:Array Operand} {ts:Array TypeId} {t:TypeId} {v:AV} (h:evO env x= .iface t v) {g:FuncId} (hm:methodAt P t m=some g)
  {fn:Func} (hg:P.funcs[g]? =some fn) (hb:fn.body.isSome=true) {o:Oper} (ho:o.op= .call ⟨.invoke x m,args,ts⟩):
  EffOK L H K w base (.call g (v::evL env args.toList)) ((execOp a.eval o).run P w):=by
 have hx:=he.op x
 rw[h]at hx
 obtain⟨u,hu,hr⟩:=by simpa only[Rep] using hx
 refine⟨#[u]++args.map a.eval,?_,by simp only[Array.toList_append,List.cons_append,List.nil_append,RepL];exact⟨u,_,rfl,hr,by simpa using he.ops args.toList⟩⟩
 have hn:=hP.names g fn hg
 have hn': ¬fn.name= "runtime.NumGoroutine" :=by
  intro e
  rw[e]at hn
  simp at hn
 have hb': ¬fn.body=none:=by
  intro e
  simp[e]at hb
 obtain⟨i,hi,h1⟩:=ob_eq hm
 obtain⟨r,hr',h2⟩:=ob_eq h1
 obtain⟨f,hf,h3⟩:=ob_eq h2
 obtain⟨d,hd,h4⟩:=ob_eq h3
 simp only[Option.ite_none_right_eq_some,Option.some.injEq]at h4
 obtain⟨⟨hc1,hc2⟩,rfl⟩:=h4
 ·skip
  have hp:r.path.toList=[]:=by simpa using hc1
  have hp':r.path= #[]:=by cases hq:r.path;simp_all
  unfold execOp
  have hrecv:∀wr,(receiverAt t (.val u) f.2 wr).run P w= .ok u w:=fun wr=>by
   unfold receiverAt
   obtain⟨f1,f2⟩:=f
   simp only[Sem.run_bind,run_underlying hd,Result.andThen_ok]
   cases d <;> cases f2 <;> first | (simp at hc2;done) |rfl
  obtain⟨f1,f2⟩:=f
  have hmeth:∀n,(method (n+1) t u m).run P w= .ok (f1,u) w:=fun n=>by
   unfold method
   simp[Sem.run_bind,typeInfo,hi,hr',hp',follow,hf,hrecv]
  have h0:(#[Value.iface t u]++Array.map a.eval args)[0]? =some (.iface t u):=by simp[Array.getElem?_append]
  have hm100:=hmeth (P.types.size+99)
  have hex:(Array.map a.eval args).extract 0 args.size=Array.map a.eval args:=by simp
  simp[ho,resolve,invoke,hu,callMethod,Made.depth,callFunc,h0,hm100,hg,hn',hb',hex]
theorem op_panic {t:Nat} {v:AV} (he:EnvOK L w env a) {x:Operand} (h:evO env x= .iface t v) {o:Oper} (ho:o.op= .panic x):
  EffOK L H K w base (.pan (.iface t v)) ((execOp a.eval o).run P w):=by
 have hx:=he.op x
 rw[h]at hx
 obtain⟨u,hu,hr⟩:=by simpa only[Rep] using hx
 refine⟨.iface t u,?_,by simp only[Rep];exact⟨u,rfl,hr⟩⟩
 unfold execOp
 simp[ho,Instr.panic,hu]
end
end Go.Sym
end
section
namespace Go.Sym
open Go.RowKit
section
variable {P:Program} {L:Lay} {H:Nat→Option Blk} {K:Nat→Option Nat} {w:World} {base:Nat} {env:Nat→AV} {a:Act}
theorem EnvOK.opt (he:EnvOK L w env a) (x:Option Operand):(x=none∧optO env x=none)∨∃y,x=some y∧optO env x=some (evO env y)∧Rep L w (evO env y) (a.eval y):=by
 cases x with
 |none=>exact .inl ⟨rfl,rfl⟩
 |some y=>exact .inr ⟨y,rfl,rfl,he.op y⟩
theorem bnd_eq {n:Nat} {x:AV} {d:Option Nat} {r:Nat} (h:bnd n (some x) d=some r) {u:Value} (hx:Rep L w x u) (m:Nat) (hm:n≤m) (c:BoundsCode):r≤n∧(Instr.sliceBound u m c).run P w= .ok r w:=by
 cases x <;> simp only[bnd,reduceCtorEq]at h
 case int k i=>
  split at h
  ·rename_i hi
   cases h
   obtain rfl:u= .int k i:=by simpa only[Rep] using hx
   have:0≤i∧i≤(m:Int):=by omega
   refine⟨by omega,?_⟩
   simp[Instr.sliceBound,asIntOf,this]
  ·simp at h
theorem run_bounds (he:EnvOK L w env a) {lo hi:Option Operand} {n m h l:Nat} {isS:Bool} (hn:n≤m) (hh:bnd n (optO env hi) (some n)=some h) (hl:bnd h (optO env lo) (some 0)=some l):
  h≤n∧l≤h∧(Instr.sliceBounds isS n m (lo.map a.eval) (hi.map a.eval) none).run P w= .ok (l,h,m) w:=by
 rcases he.opt hi with⟨rfl,e⟩ |⟨y,rfl,e,hy⟩
 ·rw[e]at hh
  simp only[bnd,Option.some.injEq]at hh
  subst hh
  rcases he.opt lo with⟨rfl,e'⟩ |⟨z,rfl,e',hz⟩
  ·rw[e']at hl
   simp only[bnd,Option.some.injEq]at hl
   subst hl
   exact⟨Nat.le_refl _,Nat.zero_le _,by simp[Instr.sliceBounds]⟩
  ·rw[e']at hl
   obtain⟨h1,h2⟩:=bnd_eq (P:=P) hl hz n (Nat.le_refl _) .sliceB
   exact⟨Nat.le_refl _,h1,by simp[Instr.sliceBounds,h2]⟩
 ·rw[e]at hh
  obtain⟨h3,h4⟩:=bnd_eq (P:=P) hh hy m hn (if isS then .sliceAcap else .sliceAlen)
  rcases he.opt lo with⟨rfl,e'⟩ |⟨z,rfl,e',hz⟩
  ·rw[e']at hl
   simp only[bnd,Option.some.injEq]at hl
   subst hl
   exact⟨h3,Nat.zero_le _,by simp[Instr.sliceBounds,h4]⟩
  ·rw[e']at hl
   obtain⟨h1,h2⟩:=bnd_eq (P:=P) hl hz h (Nat.le_refl _) .sliceB
   exact⟨h3,h1,by simp[Instr.sliceBounds,h4,h2]⟩
theorem repR_cut {c:Cap} {sz g p:Nat} {rows:List (List AV)} (h:RepR L w c sz g p rows) (l n:Nat):RepR L w c sz g (p+l*sz) ((rows.take n).drop l):=by
 refine RepR.of_get fun i row hrow=>?_
 rw[List.getElem?_drop,List.getElem?_take]at hrow
 split at hrow
 ·obtain⟨h1,h2⟩:=h.get hrow
  exact⟨h1,by rw[Nat.add_mul,←Nat.add_assoc]at h2;exact h2⟩
 ·simp at hrow
theorem rep_sliced {sz:Nat} {rows:List (List AV)} {c c':Cap} {ad:Option Addr} {m cap:Nat} (hx:Rep L w (.lst sz rows c) (.slice ad m cap)) {size h l mm:Nat}
  (hsz:size=sz∨rows=[]) (hh:h≤rows.length) (hl:l≤h) (hmm:h≤mm) (hmm':mm≤cap) (hb:c= .bor→c'= .bor)
  (hc:CapOK L sz (if mm=l then ad else ad.map (·.add (l*size))) (h-l) (mm-l) c'):
  Rep L w (.lst sz ((rows.take h).drop l) c') (.slice (if mm=l then ad else ad.map (·.add (l*size))) (h-l) (mm-l)):=by
 obtain⟨ad',m',cap',e,hm,hcap,hmax,hrows,_⟩:=by simpa only[Rep] using hx
 cases e
 simp only[Rep]
 refine⟨_,_,_,rfl,by simp;omega,by omega,by omega,?_,hc⟩
 rcases hrows with rfl |⟨g,p,rfl,hrows⟩
 ·left;simp
 ·by_cases hml:mm=l
  ·left
   apply List.eq_nil_of_length_eq_zero
   simp
   omega
  ·by_cases hr:rows=[]
   ·left;simp[hr]
   ·right
    have:size=sz:=hsz.resolve_right hr
    subst this
    refine⟨g,p+l*size,by simp[hml,add_mk],repR_cap' (repR_cut hrows l h) hb⟩
where
 repR_cap' {c c':Cap} {sz g p:Nat} {rows:List (List AV)} (h:RepR L w c sz g p rows) (hb:c= .bor→c'= .bor):RepR L w c' sz g p rows:=RepR.cap hb h
theorem op_slice (hi:Inv L H K w base) (he:EnvOK L w env a) {t:Nat} {x:Operand} {lo h' mx:Option Operand} {v:AV} (h:slv P H t (evO env x) (optO env lo) (optO env h') (optO env mx)=some v) {o:Oper} (ho:o.op= .slice t x lo h' mx):
  EffOK L H K w base (.val v) ((execOp a.eval o).run P w):=by
 have hx:=he.op x
 generalize evO env x=xv at h hx
 have key:∀u:Value,(Instr.slice t (a.eval x) (lo.map a.eval) (h'.map a.eval) (mx.map a.eval)).run P w= .ok u w→(∀ n e,P.underlying t≠some (.array n e))→(P.underlying t).isSome=true→Rep L w v u→EffOK L H K w base (.val v) ((execOp a.eval o).run P w):=by
  intro u hrun hna hsome hrep
  refine eff_val hi (u:=u) ?_ hrep
  unfold execOp
  obtain⟨d,hd⟩:=Option.isSome_iff_exists.1 hsome
  have:(Instr.sliceAt t (a.eval x) (lo.map a.eval) (h'.map a.eval) (mx.map a.eval)).run P w= .ok u w:=by
   unfold Instr.sliceAt
   rw[Sem.run_bind,run_underlying hd]
   cases d <;> first |exact hrun |exact absurd hd (hna _ _)
  simp only[ho,Sem.run_bind,this,Result.andThen_ok]
  rfl
 cases xv <;> simp only[slv,reduceCtorEq]at h
 case lst sz rows c=>
  obtain⟨ad,m,cap,hv,hm,hcap,hmax,hrows,hcapok⟩:=by simpa only[Rep] using hx
  have hx':Rep L w (.lst sz rows c) (.slice ad m cap):=by rw[←hv];exact hx
  split at h
  ·rename_i e hu hmx
   obtain⟨j,hj,h⟩:=ob_eq h
   obtain⟨hb,hhb,h⟩:=ob_eq h
   obtain⟨l,hl,h⟩:=ob_eq h
   split at h
   ·rename_i hsz
    cases h
    rcases he.opt mx with⟨rfl,_⟩ |⟨y,rfl,e',_⟩
    ·obtain⟨b1,b2,b3⟩:=run_bounds (P:=P) (isS:=true) he (m:=cap) (by omega) hhb hl
     rw[hm]at b3
     refine key _ ?_ (fun n e'=>by rw[hu];simp) (by simp[hu]) (rep_sliced hx' (size:=j.size) (mm:=cap) hsz b1 b2 (by omega) (Nat.le_refl _) ?_ ?_)
     ·simp[Instr.slice,run_underlying hu,hv,b3,sizeOf,typeInfo,hj]
     ·rintro rfl;rfl
     ·cases c with
      |no=>exact trivial
      |nn=>exact trivial
      |an=>exact trivial
      |bor=>exact trivial
      |tok _=>exact trivial
      |nil=>
       obtain⟨rfl,rfl,rfl⟩:=hcapok
       have:l=0:=by omega
       subst this
       have:hb=0:=by omega
       subst this
       exact⟨rfl,rfl,rfl⟩
      |exact=>
       rcases he.opt h' with⟨rfl,e2⟩ |⟨y,rfl,e2,_⟩
       ·rw[e2]at hhb
        simp only[bnd,Option.some.injEq]at hhb
        have hce:cap=m:=hcapok
        show cap-l=hb-l
        omega
       ·exact trivial
    ·rw[e']at hmx;simp at hmx
   ·simp at h
  ·rename_i e k mm hu hmx
   obtain⟨j,hj,h⟩:=ob_eq h
   split at h
   ·rename_i hmm
    obtain⟨hb,hhb,h⟩:=ob_eq h
    obtain⟨l,hl,h⟩:=ob_eq h
    split at h
    ·rename_i hsz
     cases h
     rcases he.opt mx with⟨rfl,e'⟩ |⟨y,rfl,e',hy⟩
     ·rw[e']at hmx;simp at hmx
     ·rw[e']at hmx
      simp only[Option.some.injEq]at hmx
      rw[hmx]at hy
      have hyv:a.eval y= .int k mm:=by simpa only[Rep] using hy
      rcases he.opt h' with⟨rfl,e2⟩ |⟨z,rfl,e2,hz⟩
      ·rw[e2]at hhb;simp[bnd]at hhb
      ·rw[e2]at hhb
       obtain⟨b1,b2⟩:=bnd_eq (P:=P) hhb hz mm.toNat (Nat.le_refl _) .slice3B
       have hmx':0≤mm∧mm≤(cap:Int):=by omega
       have hm3:(Instr.sliceBound (.int k mm) cap .slice3Acap).run P w= .ok mm.toNat w:=by simp[Instr.sliceBound,asIntOf,hmx']
       have hbd:l≤hb∧(Instr.sliceBounds true m cap (lo.map a.eval) (some (a.eval z)) (some (.int k mm))).run P w= .ok (l,hb,mm.toNat) w:=by
        rcases he.opt lo with⟨rfl,e3⟩ |⟨q,rfl,e3,hq⟩
        ·rw[e3]at hl
         simp only[bnd,Option.some.injEq]at hl
         subst hl
         exact⟨Nat.zero_le _,by simp[Instr.sliceBounds,hm3,b2]⟩
        ·rw[e3]at hl
         obtain⟨b4,b5⟩:=bnd_eq (P:=P) hl hq hb (Nat.le_refl _) .slice3C
         exact⟨b4,by simp[Instr.sliceBounds,hm3,b2,b5]⟩
       obtain⟨b6,b7⟩:=hbd
       refine key _ ?_ (fun n e'=>by rw[hu];simp) (by simp[hu]) (rep_sliced hx' (size:=j.size) (mm:=mm.toNat) hsz (by omega) b6 b1 (by omega) ?_ ?_)
       ·simp only[Option.map_some,hyv]
        simp[Instr.slice,run_underlying hu,hv,b7,sizeOf,typeInfo,hj]
       ·rintro rfl;rfl
       ·cases c with
        |bor=>exact trivial
        |nil=>
         obtain⟨rfl,rfl,rfl⟩:=hcapok
         have h0:mm.toNat=0:=by omega
         have:l=0:=by omega
         subst this
         have:hb=0:=by omega
         subst this
         simp only[h0]
         exact⟨rfl,rfl,rfl⟩
        |_=>
         by_cases hexact:(hb:Int)=mm
         ·simp only[if_pos hexact]
          show mm.toNat-l=hb-l
          omega
         ·simp only[if_neg hexact]
          exact trivial
    ·simp at h
   ·simp at h
  ·simp at h
 case win b off len cap=>
  split at h
  ·rename_i e hu hmx
   obtain⟨j,hj,h⟩:=ob_eq h
   obtain⟨k,hk,h⟩:=ob_eq h
   obtain⟨hb,hhb,h⟩:=ob_eq h
   obtain⟨l,hl,h⟩:=ob_eq h
   split at h
   ·rename_i hsz
    cases h
    rcases he.opt mx with⟨rfl,_⟩ |⟨y,rfl,e',_⟩
    ·obtain⟨r,sz,ad,cp,hr,hv,hle,hmax,hcp,had,hro⟩:=by simpa only[Rep] using hx
     obtain⟨k',hk',rfl⟩:=hi.dom' b r sz hr
     rw[hk]at hk'
     cases hk'
     obtain⟨b1,b2,b3⟩:=run_bounds (P:=P) (isS:=true) he (m:=cp) hle hhb hl
     refine key (.slice (some (if cp=l then ad else ad.add (l*k.sz))) (hb-l) (cp-l)) ?_ (fun n e'=>by rw[hu];simp) (by simp[hu]) ?_
     ·simp[Instr.slice,run_underlying hu,hv,b3,sizeOf,typeInfo,hj,hsz]
      split <;> rfl
     ·simp only[Rep]
      refine⟨r,k.sz,_,_,hr,rfl,by omega,by omega,fun c hc=>?_,?_,?_⟩
      ·rw[Option.map_eq_some_iff]at hc
       obtain⟨c0,hc0,rfl⟩:=hc
       rw[hcp c0 hc0]
      ·by_cases hcl:cp=l
       ·left;omega
       ·right
        have:cp≠0:=by omega
        obtain rfl:=had.resolve_left this
        simp[hcl,add_mk,Nat.add_mul]
      ·rwa[show off+l+(cp-l)=off+cp by omega]
    ·rw[e']at hmx;simp at hmx
   ·simp at h
  ·simp at h
 case str s=>
  split at h
  ·rename_i hu hmx
   obtain⟨hb,hhb,h⟩:=ob_eq h
   obtain⟨l,hl,h⟩:=ob_eq h
   cases h
   rcases he.opt mx with⟨rfl,_⟩ |⟨y,rfl,e',_⟩
   ·have hv:a.eval x= .string s:=by simpa only[Rep] using hx
    obtain⟨b1,b2,b3⟩:=run_bounds (P:=P) (isS:=false) he (m:=s.size) (Nat.le_refl _) hhb hl
    refine key (.string (s.extract l hb)) ?_ (fun n e'=>by rw[hu];simp) (by simp[hu]) rfl
    simp[Instr.slice,run_underlying hu,hv,b3]
   ·rw[e']at hmx;simp at hmx
  ·simp at h
end
end Go.Sym
end
section
namespace Go.Sym
open Go.RowKit
section
variable {P:Program} {L:Lay} {H:Nat→Option Blk} {K:Nat→Option Nat} {w:World} {base:Nat} {env:Nat→AV} {a:Act}
theorem foldl_set:∀(vs:List Value) (off j0:Nat) (cs:Array Value),off+j0+vs.length≤cs.size→
  ((vs.zipIdx j0).foldl (fun (cs:Array Value) (x:Value×Nat)=>cs.setIfInBounds (off+x.2) x.1) cs).size=cs.size∧
  ∀k,((vs.zipIdx j0).foldl (fun (cs:Array Value) (x:Value×Nat)=>cs.setIfInBounds (off+x.2) x.1) cs)[k]? =if off+j0≤k∧k < off+j0+vs.length then vs[k-(off+j0)]? else cs[k]?
 | [],off,j0,cs,_=>⟨rfl,fun k=>by simp only[List.zipIdx_nil,List.foldl_nil,List.length_nil];rw[if_neg (by omega)]⟩
 |v::r,off,j0,cs,h=>by
  simp only[List.length_cons]at h
  obtain⟨h1,h2⟩:=foldl_set r off (j0+1) (cs.setIfInBounds (off+j0) v) (by simp;omega)
  simp only[List.zipIdx_cons,List.foldl_cons]
  refine⟨by rw[h1];simp,fun k=>?_⟩
  rw[h2 k]
  simp only[List.length_cons]
  by_cases hk:k=off+j0
  ·subst hk
   rw[if_neg (by omega),if_pos (by omega)]
   simp only[Nat.sub_self,List.getElem?_cons_zero]
   rw[Array.getElem?_setIfInBounds,if_pos rfl,if_pos (by omega)]
  ·by_cases hin:off+j0≤k∧k < off+j0+(r.length+1)
   ·rw[if_pos (by omega),if_pos hin]
    rw[show k-(off+j0)=(k-(off+(j0+1)))+1 by omega]
    simp
   ·rw[if_neg (by omega),if_neg hin]
    rw[Array.getElem?_setIfInBounds]
    rw[if_neg (by omega)]
def RepP (L:Lay) (w:World):List (Nat×AV)→List (Nat×Value)→Prop
 | [],us=>us=[]
 | (i,v)::r,us=>∃u q,us=(i,u)::q∧Rep L w v u∧RepP L w r q
theorem EnvOK.parts (he:EnvOK L w env a):∀(xs:List (Nat×Operand)),RepP L w (evP env xs) (xs.map fun(i,x)=>(i,a.eval x))
 | []=>by simp[evP,RepP]
 | (i,x)::r=>by
  simp only[evP,List.map_cons,RepP]
  exact⟨_,_,rfl,he.op x,he.parts r⟩
theorem fill_rep {pl:Nat→Option (Nat×Nat)}:∀{ps:List (Nat×AV)} {us:List (Nat×Value)} {cells out:List AV} {cs:Array Value},RepP L w ps us→RepL L w cells cs.toList→fillA pl cells ps=some out→
  ∃cs',Instr.fill pl cs us=some cs'∧RepL L w out cs'.toList
 | [],us,cells,out,cs,hp,hc,h=>by
  simp only[RepP]at hp
  simp only[fillA,Option.some.injEq]at h
  subst hp h
  exact⟨cs,rfl,hc⟩
 | (i,v)::r,us,cells,out,cs,hp,hc,h=>by
  obtain⟨u,q,rfl,hv,hq⟩:=by simpa only[RepP] using hp
  simp only[fillA]at h
  obtain⟨p,hpl,h⟩:=ob_eq h
  split at h
  ·rename_i hcond
   obtain⟨h1,h2,h3⟩:=hcond
   have hvc:=Rep.cells hv h3
   have hl:u.cells.size=p.2:=by
    have:=hvc.length
    simp only[Array.length_toList]at this
    omega
   have hcl:cs.size=cells.length:=by simpa using hc.length
   obtain⟨g1,g2⟩:=foldl_set u.cells.toList p.1 0 cs (by simp;omega)
   have hz:u.cells.zipIdx.foldl (fun (cs:Array Value) (x:Value×Nat)=>cs.setIfInBounds (p.1+x.2) x.1) cs=(u.cells.toList.zipIdx 0).foldl (fun (cs:Array Value) (x:Value×Nat)=>cs.setIfInBounds (p.1+x.2) x.1) cs:=by
    rw[←Array.foldl_toList]
    simp
   have hnew:RepL L w (splice cells p.1 v.cells) (u.cells.zipIdx.foldl (fun (cs:Array Value) (x:Value×Nat)=>cs.setIfInBounds (p.1+x.2) x.1) cs).toList:=by
    rw[hz]
    refine RepL.of_get ?_ fun j v' u' hv' hu'=>?_
    ·rw[splice_length (by omega),Array.length_toList,g1,hcl]
    ·rw[splice_get (by omega)]at hv'
     rw[Array.getElem?_toList,g2 j]at hu'
     simp only[Nat.add_zero,Array.length_toList]at hu'
     by_cases hin:p.1≤j∧j < p.1+v.cells.length
     ·rw[if_pos hin]at hv'
      rw[if_pos (by omega)]at hu'
      obtain⟨u2,hu2,hr⟩:=hvc.get hv'
      rw[hu']at hu2
      cases hu2
      exact hr
     ·rw[if_neg hin]at hv'
      rw[if_neg (by omega)]at hu'
      obtain⟨u2,hu2,hr⟩:=hc.get hv'
      simp only[Array.getElem?_toList]at hu2
      rw[hu']at hu2
      cases hu2
      exact hr
   obtain⟨cs',e,hr⟩:=fill_rep hq hnew h
   refine⟨cs',?_,hr⟩
   rw[←e]
   simp only[Instr.fill,hpl]
   have c1: ¬(u.cells.size≠p.2∨p.1+u.cells.size > cs.size):=by omega
   simp only[hl,ne_eq,not_true_eq_false,decide_false,Bool.false_or,gt_iff_lt]
   rw[if_neg (by simp;omega)]
  ·simp at h
theorem op_build (hi:Inv L H K w base) (he:EnvOK L w env a) {t:Nat} {z cs:List AV} {pl:Nat→Option (Nat×Nat)} {ps:Array (Nat×Operand)} (hz:zeroAt P t=some z) (hpl:placeF P t=some pl)
  (h:fillA pl z (evP env ps.toList)=some cs) {o:Oper} (ho:o.op= .build t ps):EffOK L H K w base (.val (.agg cs)) ((execOp a.eval o).run P w):=by
 obtain⟨i,zv,h1,h2,h3⟩:=zeroAt_eq hz
 obtain⟨cs',hf,hr⟩:=fill_rep (cs:=zv.cells) (he.parts ps.toList) (zerosOf_rep h3) h
 have hb:P.built t (ps.map fun(i,x)=>(i,a.eval x)).toList=some cs':=by
  unfold placeF at hpl
  unfold Program.built
  rw[Array.toList_map]
  split at hpl
  ·rename_i fs hu
   cases hm:fs.toList.mapM (fun f=>(P.info? f.type).map fun i=>(f.offset,i.size))with
   |none=>simp[hm]at hpl
   |some places=>
    simp only[hm,Option.map_some,Option.some.injEq]at hpl
    subst hpl
    simp only[h1,hu,h2,hm]
    rw[←hf]
    congr 1
    funext x
    simp
  ·rename_i e hu
   cases hj:P.info? e with
   |none=>simp[hj]at hpl
   |some j=>
    simp only[hj,Option.map_some,Option.some.injEq]at hpl
    subst hpl
    simp only[h1,hu,h2,hj]
    exact hf
  ·simp at hpl
 refine eff_val hi (u:=.agg cs') ?_ (by simp only[Rep];exact⟨cs',rfl,hr⟩)
 unfold execOp
 simp only[ho,Sem.run_bind,run_build w t _ cs' hb,Result.andThen_ok]
 rfl
theorem fill_rows {sz:Nat} (hsz:0 < sz):∀{ps:List (Nat×AV)} {us:List (Nat×Value)} {i:Nat} {rows:List (List AV)} {cs:Array Value},RepP L w ps us→litGo sz i ps=some rows→(i+ps.length)*sz=cs.size→
  ∃cs',Instr.fill (fun i=>some (i*sz,sz)) cs us=some cs'∧cs'.size=cs.size∧rows.length=ps.length∧(∀ k,k < i*sz→cs'[k]? =cs[k]?)∧
   ∀j row,rows[j]? =some row→row.length=sz∧pureL row=true∧cellsB row=true∧∀o v,row[o]? =some v→∃u,cs'[(i+j)*sz+o]? =some u∧Rep L w v u
 | [],us,i,rows,cs,hp,h,_=>by
  simp only[RepP]at hp
  simp only[litGo,Option.some.injEq]at h
  subst hp h
  exact⟨cs,rfl,rfl,rfl,fun _ _=>rfl,fun j row hj=>by simp at hj⟩
 | (j0,v)::r,us,i,rows,cs,hp,h,hs=>by
  obtain⟨u,q,rfl,hv,hq⟩:=by simpa only[RepP] using hp
  simp only[litGo]at h
  split at h
  ·rename_i hcond
   obtain⟨rfl,h1,h2,h3⟩:=hcond
   obtain⟨rs,hrs,h⟩:=ob_eq h
   cases h
   have hvc:=RepL.normL _ _ h3 (Rep.cells hv (by rw[←cellsB_normL];exact h2))
   have hl:u.cells.size=sz:=by
    have:=hvc.length
    simp only[Array.length_toList]at this
    omega
   have hroom:j0*sz+sz≤cs.size:=by
    rw[←hs,List.length_cons]
    have:(j0+1)*sz≤(j0+(r.length+1))*sz:=Nat.mul_le_mul_right _ (by omega)
    rw[Nat.add_mul,Nat.one_mul]at this
    exact this
   obtain⟨g1,g2⟩:=foldl_set u.cells.toList (j0*sz) 0 cs (by simp;omega)
   have hz:u.cells.zipIdx.foldl (fun (cs:Array Value) (x:Value×Nat)=>cs.setIfInBounds (j0*sz+x.2) x.1) cs=(u.cells.toList.zipIdx 0).foldl (fun (cs:Array Value) (x:Value×Nat)=>cs.setIfInBounds (j0*sz+x.2) x.1) cs:=by
    rw[←Array.foldl_toList]
    simp
   rw[←hz]at g1 g2
   obtain⟨cs',e,e1,e2,e3,e4⟩:=fill_rows hsz (cs:=u.cells.zipIdx.foldl (fun (cs:Array Value) (x:Value×Nat)=>cs.setIfInBounds (j0*sz+x.2) x.1) cs) hq hrs (by
    rw[g1,←hs,List.length_cons]
    congr 1
    omega)
   refine⟨cs',?_,e1.trans g1,by simp[e2],fun k hk=>?_,fun j row hj=>?_⟩
   ·rw[←e]
    simp only[Instr.fill,hl,ne_eq,not_true_eq_false,decide_false,Bool.false_or,gt_iff_lt]
    rw[if_neg (by simp;omega)]
   ·rw[e3 k (by rw[Nat.add_mul,Nat.one_mul];omega),g2 k,if_neg (by omega)]
   ·cases j with
    |succ j=>
     obtain⟨f1,f2,f3,f4⟩:=e4 j row (by simpa using hj)
     refine⟨f1,f2,f3,fun o v' hv'=>?_⟩
     obtain⟨u',hu',hr⟩:=f4 o v' hv'
     exact⟨u',by rw[show j0+(j+1)=j0+1+j by omega];exact hu',hr⟩
    |zero=>
     obtain rfl:normL v.cells=row:=by simpa using hj
     refine⟨h1,normL_pure _ h3,h2,fun o v' hv'=>?_⟩
     obtain⟨u',hu',hr⟩:=hvc.get hv'
     have ho:o < sz:=by rw[←h1];exact(List.getElem?_eq_some_iff.1 hv').1
     refine⟨u',?_,hr⟩
     rw[Nat.add_zero,e3 _ (by rw[Nat.add_mul,Nat.one_mul];omega),g2,if_pos (by simp;omega)]
     rw[show j0*sz+o-(j0*sz+0)=o by omega]
     exact hu'
  ·simp at h
theorem new_lst (hi:Inv L H K w base) {e:TypeId} {sz n:Nat} {rows:List (List AV)} {cs:Array Value} (hn:rows.length=n) (hm:n≤9223372036854775807) (hs:cs.size=n*sz)
  (hr:∀(i:Nat) (row:List AV),rows[i]? =some row→row.length=sz∧∀(o:Nat) (v:AV),row[o]? =some v→pureB v=true∧cellB v=true∧∃u,cs[i*sz+o]? =some u∧Rep L w v u)
  {o:Oper} (hrun:(execOp a.eval o).run P w= .ok (.value (.slice (some ⟨w.heap.size,0,none⟩) n n)) (w.alloc (.cells cs e))):
  EffOK L H K w base (.val (.lst sz rows .exact)) ((execOp a.eval o).run P w):=by
 rw[hrun]
 have hbel:=below_alloc w (.cells cs e)
 have hx:=Ext.fix (n:=n*sz) hi hbel (Nat.le_refl w.heap.size)
 refine⟨L.fix w.heap.size (n*sz),_,_,rfl,hx,Inv.fix hi hbel (Nat.le_refl _) (by simp),?_⟩
 simp only[Rep]
 refine⟨some ⟨w.heap.size,0,none⟩,n,n,rfl,hn,Nat.le_refl _,hm,.inr ⟨w.heap.size,0,rfl,?_⟩,rfl⟩
 refine repR_cap (repR_of (heap_alloc_new w _) (n:=n*sz) (fun o ho=>show L.S w.heap.size o∨(w.heap.size=w.heap.size∧o < n*sz)from .inr ⟨rfl,ho⟩) (by rw[hn];exact Nat.le_refl _) fun i row hrow=>?_) .exact
 obtain⟨h1,h2⟩:=hr i row hrow
 refine⟨h1,fun o v hv=>?_⟩
 obtain⟨p1,p2,u,hu,hrep⟩:=h2 o v hv
 exact⟨p1,p2,u,hu,Rep.ext hx v u hrep⟩
theorem op_buildSlice (hi:Inv L H K w base) (he:EnvOK L w env a) {t n:Nat} {e:Nat×Nat} {rows:List (List AV)} {ps:Array (Nat×Operand)} (hes:elemSz P t=some e) (hn:n=ps.size) (hsm:n*e.1≤1024)
  (h:litGo e.1 0 (evP env ps.toList)=some rows) {o:Oper} (ho:o.op= .buildSlice t n ps):EffOK L H K w base (.val (.lst e.1 rows .exact)) ((execOp a.eval o).run P w):=by
 obtain⟨et,inf,z,hu,hinf,e1,e2,hz,hzs,hpos⟩:=elemSz_zero hes
 have hlen:(evP env ps.toList).length=n:=by
  rw[hn]
  have:∀l:List (Nat×Operand),(evP env l).length=l.length:=by
   intro l
   induction l with
   |nil=>rfl
   |cons x r ih=>obtain⟨i,y⟩:=x;simp[evP,ih]
  rw[this]
  simp
 have hpos':0 < e.1:=by omega
 generalize hcs0:((Array.range (n*inf.size)).map (z.cells[· % z.cells.size]!))=cs0
 have hcs0s:cs0.size=n*inf.size:=by rw[←hcs0];simp
 obtain⟨cs',hf,hs',hrl,_,hrr⟩:=fill_rows hpos' (cs:=cs0) (he.parts ps.toList) h (by rw[hlen,Nat.zero_add,hcs0s,e1])
 refine new_lst (e:=et) hi (n:=n) (cs:=cs') (by rw[hrl,hlen]) (by
  have:n*1≤n*e.1:=Nat.mul_le_mul_left _ hpos'
  omega) (by rw[hs',hcs0s,e1]) (fun i row hrow=>?_) ?_
 ·obtain⟨p1,p2,p3,p4⟩:=hrr i row hrow
  refine⟨p1,fun o v hv=>⟨pureL_iff.1 p2 v (List.mem_of_getElem? hv),cellsB_iff.1 p3 v (List.mem_of_getElem? hv),?_⟩⟩
  have:=p4 o v hv
  rwa[Nat.zero_add]at this
 ·unfold execOp
  have hf':Instr.fill (fun i=>some (i*inf.size,inf.size)) cs0 (ps.map fun(i,x)=>(i,a.eval x)).toList=some cs':=by
   rw[←e1,Array.toList_map]
   exact hf
  by_cases h0:n*inf.size=0
  ·have hemp:cs0= #[]:=Array.eq_empty_of_size_eq_zero (by omega)
   rw[hemp]at hf'
   have hps:ps= #[]:=Array.eq_empty_of_size_eq_zero (by
    rcases Nat.mul_eq_zero.1 h0 with h |h
    ·omega
    ·omega)
   subst hps
   have hcs':cs'= #[]:=Array.eq_empty_of_size_eq_zero (by rw[hs',hcs0s];exact h0)
   subst hcs'
   have hn0:n=0:=by simpa using hn
   subst hn0
   simp[ho,Instr.buildSlice,run_underlying hu,sizeOf,typeInfo,hinf,Instr.fill,newRow,Array.range_zero']
  ·have hb:(Instr.buildSlice t n (ps.map fun(i,x)=>(i,a.eval x))).run P w= .ok (.slice (some ⟨w.heap.size,0,none⟩) n n) (w.alloc (.cells cs' et)):=
    run_buildSlice w t et n _ cs' inf z hu hinf hz (by rw[←e1];omega) h0 (by rw[hcs0];exact hf')
   simp only[ho,Sem.run_bind,hb,Result.andThen_ok]
   rfl
end
end Go.Sym
end
section
namespace Go.Sym
open Go.RowKit
section
variable {P:Program} {L:Lay} {H:Nat→Option Blk} {K:Nat→Option Nat} {w:World} {base:Nat} {env:Nat→AV} {a:Act}
theorem made_get {zs:Array Value} {n sz i o:Nat} (hs:zs.size=sz) (hi:i < n) (ho:o < sz):(madeCells zs (n*sz))[i*sz+o]? =zs[o]? :=by
 have hlt:i*sz+o < n*sz:=by
  have:(i+1)*sz≤n*sz:=Nat.mul_le_mul_right _ hi
  rw[Nat.add_mul,Nat.one_mul]at this
  omega
 have hmod:(i*sz+o) % zs.size=o:=by
  rw[hs,Nat.mul_comm,Nat.mul_add_mod,Nat.mod_eq_of_lt ho]
 simp only[madeCells,Array.getElem?_map,Array.getElem?_range,hlt,if_true,Option.map_some,hmod]
 rw[Array.getElem?_eq_getElem (by omega),getElem!_pos zs o (by omega)]
theorem op_make (hi:Inv L H K w base) (he:EnvOK L w env a) {m:Nat} {t:TypeId} {x y:Operand} {e:Eff} (h:makv P m t (evO env x) (evO env y)=some e) {o:Oper} (ho:o.op= .makeSlice t x y):
  EffOK L H K w base e ((execOp a.eval o).run P w):=by
 have hx:=he.op x
 have hy:=he.op y
 generalize evO env x=xv at h hx
 generalize evO env y=yv at h hy
 cases xv <;> simp only[makv,reduceCtorEq]at h
 rename_i k n
 cases yv <;> simp only[reduceCtorEq]at h
 rename_i k' n'
 obtain⟨el,hel,hA⟩:=ob_eq h
 clear h
 obtain⟨z,hz,hB⟩:=ob_eq hA
 clear hA
 split at hB
 ·rename_i hcond
  obtain⟨rfl,h0,hcz,hzl,hby,hlim⟩:=hcond
  obtain⟨hu,hinf⟩:=elemAt_eq hel
  obtain⟨i',zv,h1,h2,h3⟩:=zeroAt_eq hz
  rw[hinf]at h1
  cases h1
  have hxv:a.eval x= .int k n:=by simpa only[Rep] using hx
  have hyv:a.eval y= .int k' n:=by simpa only[Rep] using hy
  have hzr:=zerosOf_rep (L:=L) (w:=w) h3
  have hzs:zv.cells.size=el.2.size:=by
   have:=hzr.length
   simp only[Array.length_toList]at this
   omega
  have hby':(el.2.bytes:Int)*n≤281474976710656:=by
   have:((n.toNat*el.2.bytes:Nat):Int)≤140737488355328:=by omega
   rw[Int.natCast_mul,Int.toNat_of_nonneg h0,Int.mul_comm]at this
   omega
  have hlim':n.toNat≤17179869184:=hlim
  have hrun:(execOp a.eval o).run P w= .ok (.value (.slice (some ⟨w.heap.size,0,none⟩) n.toNat n.toNat)) (w.alloc (.cells (madeCells zv.cells (n.toNat*el.2.size)) el.1)):=by
   unfold execOp
   have:=run_make (P:=P) w t el.1 el.2 zv hu hinf h2 k k' n n h0 (Int.le_refl _) hby' (by omega)
   simp only[ho,hxv,hyv,Sem.run_bind,this,Result.andThen_ok]
   rfl
  have hcells:∀(i:Nat) (row:List AV),(List.replicate n.toNat z)[i]? =some row→row.length=el.2.size∧∀(o:Nat) (v:AV),row[o]? =some v→cellB v=true∧∃u,(madeCells zv.cells (n.toNat*el.2.size))[i*el.2.size+o]? =some u∧Rep L w v u:=by
   intro i row hrow
   rw[List.getElem?_replicate]at hrow
   split at hrow
   ·rename_i hin
    cases hrow
    refine⟨hzl,fun o v hv=>⟨cellsB_iff.1 hcz v (List.mem_of_getElem? hv),?_⟩⟩
    obtain⟨u,hu',hr⟩:=hzr.get hv
    refine⟨u,?_,hr⟩
    rw[made_get hzs hin (by rw[←hzl];exact(List.getElem?_eq_some_iff.1 hv).1)]
    simpa using hu'
   ·simp at hrow
  have hnew:∀kd:Kind,rngB kd=false→(∀ t,kd≠ .cell t)→pureL z=true→EffOK L H K w base (.new ⟨el.2.size,List.replicate n.toNat z,kd⟩ (some (n.toNat,some n.toNat))) ((execOp a.eval o).run P w):=by
   intro kd hkd hnc hp b hb
   have hbel:=below_alloc w (.cells (madeCells zv.cells (n.toNat*el.2.size)) el.1)
   have hxx:=Ext.own (b:=b) (r:=w.heap.size) (sz:=el.2.size) hi hbel hb
   refine⟨L.own b w.heap.size el.2.size,_,_,hrun,hxx,?_,?_⟩
   ·refine Inv.own (k:=⟨el.2.size,List.replicate n.toNat z,kd⟩) hi hbel hb (Nat.le_refl _) (BlkOK.mk' (by cases kd <;> first |rfl |exact absurd hkd (by simp[rngB])) hi.top ⟨_,el.1,heap_alloc_new w _,by simp[madeCells],fun i row hrow=>?_⟩ (fun t ht=>absurd ht (hnc t)))
    obtain⟨r1,r2⟩:=hcells i row hrow
    refine⟨r1,fun o v hv=>?_⟩
    obtain⟨c1,u,hu',hr⟩:=r2 o v hv
    refine⟨?_,cellU_of c1,u,hu',Rep.ext hxx v u hr⟩
    have hpv:pureB v=true:=by
     rw[List.getElem?_replicate]at hrow
     split at hrow
     ·cases hrow;exact pureL_iff.1 hp v (List.mem_of_getElem? hv)
     ·simp at hrow
    cases kd with
    |box=>rfl
    |cell t=>rfl
    |data=>exact hpv
    |toky=>show pureB (strip v)=true;rw[strip_pure hpv];exact hpv
    |rng=>simp[rngB]at hkd
    |dead=>simp[rngB]at hkd
   ·simp only[Rep]
    exact⟨w.heap.size,el.2.size,_,_,setF_same _ _ _,rfl,Nat.le_refl _,by omega,fun c hc=>Option.some.inj hc,.inr (by simp),fun j hj=>by
     rw[cell_of_row _ _ _ _ _ _ (heap_alloc_new w _),Array.getElem?_eq_getElem (by rw[Nat.zero_add]at hj;simpa[madeCells] using hj)];rfl⟩
  by_cases hp:pureL z=true
  ·rcases m with _ |_ |_ |m
   ·simp only[hp,if_true,Option.some.injEq]at hB
    subst hB
    refine new_lst (e:=el.1) hi (n:=n.toNat) (cs:=madeCells zv.cells (n.toNat*el.2.size)) (by simp) (by omega) (by simp[madeCells]) (fun i row hrow=>?_) hrun
    rw[List.getElem?_replicate]at hrow
    split at hrow
    ·rename_i hin
     cases hrow
     obtain⟨r1,r2⟩:=hcells i z (by rw[List.getElem?_replicate,if_pos hin])
     have hps:pureL (stripL z)=true:=by rw[stripL_pure hp];exact hp
     refine⟨by rw[normL_length];exact r1,fun o v hv=>?_⟩
     refine⟨pureL_iff.1 (normL_pure z hps) v (List.mem_of_getElem? hv),?_⟩
     rw[normL_get,Option.map_eq_some_iff]at hv
     obtain⟨v',hv',rfl⟩:=hv
     obtain⟨c1,u,hu',hr⟩:=r2 o v' hv'
     have hpv:=pureL_iff.1 hp v' (List.mem_of_getElem? hv')
     exact⟨by rw[cellB_normv];exact c1,u,hu',Rep.normv v' u (by rw[strip_pure hpv];exact hpv) hr⟩
    ·simp at hrow
   ·simp only[hp,if_true,Option.some.injEq]at hB
    subst hB
    exact hnew .data rfl (by simp) hp
   ·simp only[hp,if_true,Option.some.injEq]at hB
    subst hB
    exact hnew .toky rfl (by simp) hp
   ·simp only[hp,if_true,Option.some.injEq]at hB
    subst hB
    exact hnew .box rfl (by simp) hp
  ·rcases m with _ |_ |_ |m <;> simp[hp]at hB
 ·simp at hB
theorem rows_cells {c:Cap} {sz g:Nat}:∀{rows:List (List AV)} {p:Nat},RepR L w c sz g p rows→∃us:List Value,us.length=rows.length*sz∧(∀ j u,us[j]? =some u→w.cell? ⟨g,p+j,none⟩=some u)∧(∀ u ∈ us,u.oneCell'=true)∧
  ∀(i:Nat) (row:List AV),rows[i]? =some row→row.length=sz∧∀(o:Nat) (v:AV),row[o]? =some v→pureB v=true∧cellB v=true∧∃u,us[i*sz+o]? =some u∧Rep L w v u
 | [],p,_=>⟨[],by simp,by simp,by simp,fun i row h=>by simp at h⟩
 |row::r,p,h=>by
  obtain⟨hl,hc,hr⟩:=by simpa only[RepR] using h
  obtain⟨us,h1,h2,h3,h4⟩:=rows_cells hr
  obtain⟨vs,hv1,hv2,hv3,hv4⟩:∃vs:List Value,vs.length=row.length∧(∀ j u,vs[j]? =some u→w.cell? ⟨g,p+j,none⟩=some u)∧(∀ u ∈ vs,u.oneCell'=true)∧
    ∀(o:Nat) (v:AV),row[o]? =some v→pureB v=true∧cellB v=true∧∃u,vs[o]? =some u∧Rep L w v u:=by
   clear hl h hr h1 h2 h3 h4
   induction row generalizing p with
   |nil=>exact⟨[],rfl,by simp,by simp,fun o v h=>by simp at h⟩
   |cons x q ih=>
    obtain⟨_,hp,hcl,⟨u,hu,hrep⟩,hq⟩:=by simpa only[RepC] using hc
    obtain⟨vs,k1,k2,k3,k4⟩:=ih (p+1) hq
    refine⟨u::vs,by simp[k1],fun j u' hj=>?_,fun u' hu'=>?_,fun o v hv=>?_⟩
    ·cases j with
     |zero=>
      obtain rfl:u=u':=by simpa using hj
      exact hu
     |succ j=>
      rw[show p+(j+1)=p+1+j by omega]
      exact k2 j u' (by simpa using hj)
    ·rcases List.mem_cons.1 hu' with rfl |hu'
     ·exact hrep.oneCell hcl
     ·exact k3 u' hu'
    ·cases o with
     |zero=>
      obtain rfl:x=v:=by simpa using hv
      exact⟨hp,hcl,u,by simp,hrep⟩
     |succ o=>simpa using k4 o v (by simpa using hv)
  refine⟨vs++us,by rw[List.length_append,hv1,h1,hl,List.length_cons,Nat.add_mul,Nat.one_mul];omega,fun j u hj=>?_,fun u hu=>?_,fun i row' hi=>?_⟩
  ·by_cases hlt:j < vs.length
   ·rw[List.getElem?_append_left hlt]at hj
    exact hv2 j u hj
   ·rw[List.getElem?_append_right (by omega)]at hj
    have:=h2 _ u hj
    rwa[show p+sz+(j-vs.length)=p+j by omega]at this
  ·rcases List.mem_append.1 hu with hu |hu
   ·exact hv3 u hu
   ·exact h3 u hu
  ·cases i with
   |zero=>
    obtain rfl:row=row':=by simpa using hi
    refine⟨hl,fun o v hv=>?_⟩
    obtain⟨k1,k2,u,hu,hrep⟩:=hv4 o v hv
    refine⟨k1,k2,u,?_,hrep⟩
    rw[Nat.zero_mul,Nat.zero_add,List.getElem?_append_left (by rw[hv1];exact(List.getElem?_eq_some_iff.1 hv).1)]
    exact hu
   |succ i=>
    obtain⟨k1,k2⟩:=h4 i row' (by simpa using hi)
    refine⟨k1,fun o v hv=>?_⟩
    obtain⟨k3,k4,u,hu,hrep⟩:=k2 o v hv
    refine⟨k3,k4,u,?_,hrep⟩
    rw[List.getElem?_append_right (by rw[hv1,hl,Nat.add_mul,Nat.one_mul];omega),hv1,hl]
    rw[show (i+1)*sz+o-sz=i*sz+o by rw[Nat.add_mul,Nat.one_mul];omega]
    exact hu
theorem lst_cells {sz:Nat} {rows:List (List AV)} {c:Cap} {ad:Option Addr} {n cap:Nat} (h:Rep L w (.lst sz rows c) (.slice ad n cap)) (size:Nat) (hsz:size=sz∨rows=[]):
  ∃us:List Value,us.length=n*size∧(Builtin.firstCells size n (.slice ad n cap)).run P w= .ok us.toArray w∧(∀ u ∈ us,u.oneCell'=true)∧
   (∀ g p,ad=some ⟨g,p,none⟩→∀j u,us[j]? =some u→w.cell? ⟨g,p+j,none⟩=some u)∧
   ∀(i:Nat) (row:List AV),rows[i]? =some row→row.length=size∧∀(o:Nat) (v:AV),row[o]? =some v→pureB v=true∧cellB v=true∧∃u,us[i*size+o]? =some u∧Rep L w v u:=by
 obtain⟨ad',m',cap',e,hm,hcap,hmax,hrows,_⟩:=by simpa only[Rep] using h
 cases e
 rcases hrows with rfl |⟨g,p,rfl,hrows⟩
 ·have hn:n=0:=by simpa using hm.symm
  subst hn
  refine⟨[],by simp,?_,by simp,by simp,fun i row h=>by simp at h⟩
  cases ad with
  |none=>simp[Builtin.firstCells]
  |some ad=>simp[Builtin.firstCells,loadCells,loadCellsFrom]
 ·by_cases hr:rows=[]
  ·subst hr
   have hn:n=0:=by simpa using hm.symm
   subst hn
   exact⟨[],by simp,by simp[Builtin.firstCells,loadCells,loadCellsFrom],by simp,by simp,fun i row h=>by simp at h⟩
  ·have:size=sz:=hsz.resolve_right hr
   subst this
   obtain⟨us,h1,h2,h3,h4⟩:=rows_cells (p:=p) hrows
   refine⟨us,by rw[h1,hm],?_,h3,fun g' p' e=>by cases e;exact h2,h4⟩
   exact run_firstCells_some w size n _ n cap us (by rw[h1,hm]) (fun j v hj=>by rw[add_mk];exact h2 j v hj)
end
end Go.Sym
end
section
namespace Go.Sym
open Go.RowKit
section
variable {P:Program} {L:Lay} {H:Nat→Option Blk} {K:Nat→Option Nat} {w:World} {base:Nat} {env:Nat→AV} {a:Act}
def Lay.claim (L:Lay) (t:Nat) (k:Tk):Lay:={ L with tk:=setF L.tk t k }
theorem Ext.claim {L1:Lay} {w1:World} (hx:Ext base L w L1 w1) (htk:L1.tk=L.tk) {t:Nat} {k:Tk} (ht:∀k0,L.tk t=some k0→k0=k∨k0.n < k.n):Ext base L w (L1.claim t k) w1:=
 ⟨hx.S,hx.cell,hx.B,hx.lent,hx.hp,fun t' k' h=>by
  by_cases e:t'=t
  ·subst e
   refine⟨k,setF_same _ _ _,?_⟩
   rcases ht k' h with rfl |h
   ·exact .inl rfl
   ·exact .inr h
  ·exact⟨k',by show setF L1.tk t k t'=some k';rw[setF_ne _ _ _ e,htk];exact h,.inl rfl⟩,hx.new,hx.old,hx.oth⟩
theorem Inv.claim {L1:Lay} {w1:World} (hi:Inv L1 H K w1 base) {t:Nat} {k:Tk} (hk:TkOK L1 w1 base k)
  (hne:k.cap≠k.n→∀t' k' g,t'≠t→L1.tk t'=some k'→k'.cap≠k'.n→k.a=some ⟨g,0,none⟩→k'.a≠some ⟨g,0,none⟩)
  (hx:∀v u,Rep L1 w1 v u→Rep (L1.claim t k) w1 v u):Inv (L1.claim t k) H (setF K t k.n) w1 base:=by
 have hget:∀t' k',(L1.claim t k).tk t'=some k'→(t'=t∧k'=k)∨(t'≠t∧L1.tk t'=some k'):=by
  intro t' k' h
  by_cases e:t'=t
  ·subst e
   have:setF L1.tk t' k t'=some k':=h
   rw[setF_same]at this
   cases this
   exact .inl ⟨rfl,rfl⟩
  ·have:setF L1.tk t k t'=some k':=h
   rw[setF_ne _ _ _ e]at this
   exact .inr ⟨e,this⟩
 refine⟨hi.dom,hi.dom',fun b kb r sz h1 h2=>?_,hi.inj,hi.apart,fun t'=>?_,fun t' k' h=>?_,fun t1 t2 k1 k2 g h1 h2 n1 n2 a1 a2=>?_,hi.size,hi.lent,hi.top,hi.glob⟩
 ·exact(hi.blk b kb r sz h1 h2).rep hx
 ·by_cases e:t'=t
  ·subst e
   rw[setF_same]
   show some k.n=(setF L1.tk t' k t').map (·.n)
   rw[setF_same]
   rfl
  ·rw[setF_ne _ _ _ e,hi.K t']
   show(L1.tk t').map (·.n)=(setF L1.tk t k t').map (·.n)
   rw[setF_ne _ _ _ e]
 ·rcases hget t' k' h with⟨_,rfl⟩ |⟨_,h⟩
  ·exact hk
  ·exact hi.tk t' k' h
 ·rcases hget t1 k1 h1 with⟨e1,e1'⟩ |⟨e1,h1'⟩ <;> rcases hget t2 k2 h2 with⟨e2,e2'⟩ |⟨e2,h2'⟩
  ·rw[e1,e2]
  ·rw[e1']at n1 a1
   exact absurd a2 (hne n1 t2 k2 g e2 h2' n2 a1)
  ·rw[e2']at n2 a2
   exact absurd a1 (hne n2 t1 k1 g e1 h1' n1 a2)
  ·exact hi.tkinj t1 t2 k1 k2 g h1' h2' n1 n2 a1 a2
def SrcRows (L:Lay) (w:World) (size:Nat) (ys:List (List AV)) (us:List Value):Prop:=
 ∀(i:Nat) (row:List AV),ys[i]? =some row→row.length=size∧∀(o:Nat) (v:AV),row[o]? =some v→pureB v=true∧cellB v=true∧∃u,us[i*size+o]? =some u∧Rep L w v u
theorem run_app_in {ts:Array TypeId} {t t2 et:TypeId} {inf:TypeInfo} (h1:ts[0]? =some t) (h2:ts[1]? =some t2) (hu:P.underlying t=some (.slice et)) (hinf:P.info? et=some inf)
  {n m cap:Nat} {ad:Option Addr} {y:Value} {us:List Value} {ty:TypeId} (hs:Src P inf.size t2 y m us w) (hroom:n+m≤cap) {w':World}
  (hst:∀b,ad=some b→(storeCells (b.add (n*inf.size)) us).run P w= .ok () w') (hno:ad=none→w'=w):
  (Builtin.append_ ts ty #[.slice ad n cap,y]).run P w= .ok (.slice ad (n+m) cap) w':=by
 rcases hs.kind with⟨d2,hu2⟩ |hu2
 all_goals
  cases ad with
  |none=>
   rw[hno rfl]
   simp[Builtin.append_,h1,h2,run_underlying hu,run_underlying hu2,sizeOf,typeInfo,hinf,hs.len,hs.cells,hroom]
  |some b=>simp[Builtin.append_,h1,h2,run_underlying hu,run_underlying hu2,sizeOf,typeInfo,hinf,hs.len,hs.cells,hroom,hst b rfl]
theorem run_app_re {ts:Array TypeId} {t t2 et:TypeId} {inf:TypeInfo} {z:Value} (h1:ts[0]? =some t) (h2:ts[1]? =some t2) (hu:P.underlying t=some (.slice et)) (hinf:P.info? et=some inf) (hz:inf.zero=some z)
  {n m cap:Nat} {ad:Option Addr} {y:Value} {us vs:List Value} {ty:TypeId} (hs:Src P inf.size t2 y m us w) (hg:(Builtin.firstCells inf.size n (.slice ad n cap)).run P w.drew= .ok vs.toArray w.drew) (hroom:cap < n+m)
  (h63:n+m≤9223372036854775807) (hfit:(n+m)*inf.bytes≤140737488355328):
  (Builtin.append_ ts ty #[.slice ad n cap,y]).run P w= .ok (.slice (some ⟨w.heap.size,0,none⟩) (n+m) (grownCap w (n+m) cap et))
   (w.drew.alloc (.cells (vs.toArray++us.toArray++Builtin.zeroCells z.cells (grownCap w (n+m) cap et-(n+m))) et)):=by
 have hn: ¬(n+m≤cap):=by omega
 have h63': ¬(9223372036854775807 < ((n:Int)+(m:Int))):=by omega
 have h48': ¬(281474976710656 < Builtin.nextslicecap (n+m) cap*inf.bytes):=by
  have:=growslice_fits (need:=n+m) (old:=cap) (bytes:=inf.bytes) (by omega) hfit
  omega
 rcases hs.kind with⟨d2,hu2⟩ |hu2
 all_goals
  simp[Builtin.append_,h1,h2,run_underlying hu,run_underlying hu2,sizeOf,typeInfo,zeroValue,hinf,hz,hs.len,hs.cellsD,hg,hn,h63',h48',Question.forced,newRow,grownCap]
  congr 2
  apply Array.ext'
  simp[List.append_assoc]
theorem rep_len {sz:Nat} {rows:List (List AV)} {c:Cap} {ad:Option Addr} {n cap:Nat} (h:Rep L w (.lst sz rows c) (.slice ad n cap)):rows.length=n∧n≤cap∧cap≤9223372036854775807∧CapOK L sz ad n cap c:=by
 obtain⟨_,_,_,e,hm,h1,h2,_,h3⟩:=by simpa only[Rep] using h
 cases e
 exact⟨hm,h1,h2,h3⟩
theorem rep_drew {v:AV} {u:Value} (hi:Inv L H K w base) (h:Rep L w v u):Rep L w.drew v u:=Rep.ext (Ext.grow hi (below_drew w)) v u h
theorem app_re (hi:Inv L H K w base) {ts:Array TypeId} {t t2 et:TypeId} {inf:TypeInfo} {z:Value} (h1:ts[0]? =some t) (h2:ts[1]? =some t2) (hu:P.underlying t=some (.slice et))
  (hinf:P.info? et=some inf) (hz:inf.zero=some z) (hzs:z.cells.size=inf.size) (hpos:0 < inf.size)
  {sz:Nat} {rows ys:List (List AV)} {c:Cap} {ad:Option Addr} {n m cap:Nat} (hx:Rep L w (.lst sz rows c) (.slice ad n cap)) {us:List Value} {y:Value} (hy:Src P inf.size t2 y m us w) (hm:ys.length=m) (u4:SrcRows L w inf.size ys us)
  (hsz:inf.size=sz∨rows=[]) (hroom:cap < n+m) (hfit:(n+m)*inf.bytes≤140737488355328) (hlim:n+m≤lim)
  {i:Nat} (ht:∀k0,L.tk i=some k0→k0.n < n+m) (ty:TypeId):
  ∃L' w' u,(Builtin.append_ ts ty #[.slice ad n cap,y]).run P w= .ok u w'∧Ext base L w L' w'∧Inv L' H (setF K i (rows++ys).length) w' base∧Rep L' w' (.lst inf.size (rows++ys) (.tok i)) u:=by
 have hn:rows.length=n:=(rep_len hx).1
 have hlim':n+m≤17179869184:=hlim
 obtain⟨vs,v1,v2,v3,_,v4⟩:=lst_cells (P:=P) (rep_drew hi hx) inf.size hsz
 have u1:us.length=m*inf.size:=hy.newsLen
 have u4:SrcRows L w.drew inf.size ys us:=fun i row hr=>⟨(u4 i row hr).1,fun o v hv=>by
  obtain⟨p1,p2,u,hu',hr'⟩:=(u4 i row hr).2 o v hv
  exact⟨p1,p2,u,hu',rep_drew hi hr'⟩⟩
 have hrun:=run_app_re (P:=P) (w:=w) (ty:=ty) h1 h2 hu hinf hz hy v2 hroom (by omega) hfit
 generalize hnc:grownCap w (n+m) cap et=nc at hrun
 have hge:n+m≤nc:=by rw[←hnc];exact grownCap_ge _ _ _ _
 have hle:nc≤9223372036854775807:=by
  have:=grownCap_le_maxLen w (n+m) cap et (by simp only[maxLen];omega)
  rw[hnc]at this
  simp only[maxLen]at this
  omega
 generalize hcs:vs.toArray++us.toArray++Builtin.zeroCells z.cells (nc-(n+m))=cs at hrun
 have hcss:cs.size=nc*inf.size:=by
  rw[←hcs]
  simp only[Array.size_append,List.size_toArray,size_zeroCells,hzs,v1,u1,←Nat.add_mul]
  congr 1
  omega
 have hbel:Below w.heap.size w (w.drew.alloc (.cells cs et)):=(below_drew w).trans (below_alloc w.drew _)
 have hfix:=Ext.fix (n:=(n+m)*inf.size) hi hbel (Nat.le_refl w.heap.size)
 have hifix:=Inv.fix (n:=(n+m)*inf.size) hi hbel (Nat.le_refl w.heap.size) (by simp)
 have hmem:(w.drew.alloc (.cells cs et)).heap[w.heap.size]? =some (.cells cs et (0,0)):=heap_alloc_new w.drew _
 have hnotS:∀o,¬L.S w.heap.size o:=fun o h=>by have:=hi.size _ o h;omega
 have hext:Ext base L w ((L.fix w.heap.size ((n+m)*inf.size)).claim i ⟨n+m,some ⟨w.heap.size,0,none⟩,nc,inf.size⟩) (w.drew.alloc (.cells cs et)):=
  Ext.claim hfix rfl (fun k0 h=>.inr (ht k0 h))
 refine⟨_,_,_,hrun,hext,?_,?_⟩
 ·have hlen:(rows++ys).length=n+m:=by simp[hn,hm]
  rw[hlen]
  refine Inv.claim (k:=⟨n+m,some ⟨w.heap.size,0,none⟩,nc,inf.size⟩) hifix (.inr ⟨w.heap.size,rfl,hi.top,hge,⟨cs,et,hmem,hcss⟩,fun o ho=>?_,fun hB=>?_,fun b r sz h=>?_⟩) (fun _ t' k' g hne htk hcap e1 e2=>?_) (fun v u hr=>?_)
  ·rcases ho with ho |⟨_,ho⟩
   ·exact absurd ho (hnotS o)
   ·exact ho
  ·have:=hi.lent _ hB
   have:=hi.top
   omega
  ·have:=hi.lt h
   omega
  ·cases e1
   rcases hi.tk t' k' htk with h |⟨g',ha,_,_,⟨cs',e',hm',_⟩,_⟩
   ·exact hcap h.1
   ·rw[e2]at ha
    cases ha
    have:=(Array.getElem?_eq_some_iff.1 hm').1
    omega
  ·exact Rep.ext (Ext.claim (Ext.refl base (L.fix w.heap.size ((n+m)*inf.size)) (w.drew.alloc (.cells cs et))) rfl (fun k0 h=>.inr (ht k0 h))) v u hr
 ·simp only[Rep]
  refine⟨_,_,_,rfl,by simp[hn,hm],hge,hle,.inr ⟨w.heap.size,0,rfl,repR_cap (repR_of hmem (n:=(n+m)*inf.size) (fun o ho=>show L.S _ o∨_ from .inr ⟨rfl,ho⟩) (by simp[hn,hm]) fun j row hrow=>?_) _⟩,⟨_,setF_same _ _ _,Nat.le_refl _,fun _=>⟨rfl,rfl,rfl⟩⟩⟩
  have hw:∀v u,Rep L w.drew v u→Rep ((L.fix w.heap.size ((n+m)*inf.size)).claim i ⟨n+m,some ⟨w.heap.size,0,none⟩,nc,inf.size⟩) (w.drew.alloc (.cells cs et)) v u:=by
   intro v u hr
   have hi':=Inv.grow hi (below_drew w)
   have hfix':=Ext.fix (n:=(n+m)*inf.size) hi' (below_alloc w.drew (.cells cs et)) (Nat.le_refl w.heap.size)
   exact Rep.ext (Ext.claim hfix' rfl (fun k0 h=>.inr (ht k0 h))) v u hr
  by_cases hj:j < n
  ·rw[List.getElem?_append_left (by omega)]at hrow
   obtain⟨r1,r2⟩:=v4 j row hrow
   refine⟨r1,fun o v hv=>?_⟩
   obtain⟨p1,p2,u,hu',hr⟩:=r2 o v hv
   refine⟨p1,p2,u,?_,hw v u hr⟩
   have ho:o < inf.size:=by rw[←r1];exact(List.getElem?_eq_some_iff.1 hv).1
   have hlt:j*inf.size+o < n*inf.size:=by
    have:(j+1)*inf.size≤n*inf.size:=Nat.mul_le_mul_right _ hj
    rw[Nat.add_mul,Nat.one_mul]at this
    omega
   rw[←hcs,Array.append_assoc,Array.getElem?_append_left (by simp;omega)]
   simpa using hu'
  ·rw[List.getElem?_append_right (by omega)]at hrow
   obtain⟨r1,r2⟩:=u4 _ row hrow
   refine⟨r1,fun o v hv=>?_⟩
   obtain⟨p1,p2,u,hu',hr⟩:=r2 o v hv
   refine⟨p1,p2,u,?_,hw v u hr⟩
   have ho:o < inf.size:=by rw[←r1];exact(List.getElem?_eq_some_iff.1 hv).1
   have hjm:j-n < m:=by rw[←hm,←hn];exact(List.getElem?_eq_some_iff.1 hrow).1
   rw[hn]at hu'
   have hsplit:j*inf.size+o=n*inf.size+((j-n)*inf.size+o):=by
    rw[←Nat.add_assoc,←Nat.add_mul]
    congr 2
    omega
   have hlt:(j-n)*inf.size+o < m*inf.size:=by
    have:(j-n+1)*inf.size≤m*inf.size:=Nat.mul_le_mul_right _ hjm
    rw[Nat.add_mul,Nat.one_mul]at this
    omega
   rw[←hcs,Array.getElem?_append_left (by simp;omega),Array.getElem?_append_right (by simp;omega)]
   simp only[List.size_toArray,v1,List.getElem?_toArray]
   rw[hsplit,Nat.add_sub_cancel_left]
   exact hu'
theorem app_new (hi:Inv L H K w base) {ts:Array TypeId} {t t2 et:TypeId} {inf:TypeInfo} {z:Value} (h1:ts[0]? =some t) (h2:ts[1]? =some t2) (hu:P.underlying t=some (.slice et))
  (hinf:P.info? et=some inf) (hz:inf.zero=some z) (hzs:z.cells.size=inf.size)
  {sz:Nat} {ys:List (List AV)} {c:Cap} {ad:Option Addr} {cap m:Nat} (hx:Rep L w (.lst sz [] c) (.slice ad 0 cap)) (hcap:cap=0) {us:List Value} {y:Value} (hy:Src P inf.size t2 y m us w) (hm:ys.length=m) (u4:SrcRows L w inf.size ys us)
  (hm0:0 < m) (hfit:m*inf.bytes≤140737488355328) (hlim:m≤lim) (ty:TypeId):
  ∀b,H b=none→∃L' w' u,(Builtin.append_ ts ty #[.slice ad 0 cap,y]).run P w= .ok u w'∧Ext base L w L' w'∧Inv L' (setF H b ⟨inf.size,ys,.toky⟩) K w' base∧Rep L' w' (.win b 0 m none) u:=by
 intro b hb
 subst hcap
 have hlim':m≤17179869184:=hlim
 obtain⟨vs,v1,v2,_,_,_⟩:=lst_cells (P:=P) (rep_drew hi hx) inf.size (.inr rfl)
 have u1:us.length=m*inf.size:=hy.newsLen
 have u4:SrcRows L w.drew inf.size ys us:=fun i row hr=>⟨(u4 i row hr).1,fun o v hv=>by
  obtain⟨p1,p2,u,hu',hr'⟩:=(u4 i row hr).2 o v hv
  exact⟨p1,p2,u,hu',rep_drew hi hr'⟩⟩
 have hvs:vs=[]:=List.eq_nil_of_length_eq_zero (by rw[v1];simp)
 subst hvs
 have hrun:=run_app_re (P:=P) (w:=w) (ty:=ty) h1 h2 hu hinf hz (n:=0) hy v2 (by omega) (by omega) (by simpa using hfit)
 simp only[Nat.zero_add]at hrun
 generalize hnc:grownCap w m 0 et=nc at hrun
 have hge:m≤nc:=by rw[←hnc];exact grownCap_ge _ _ _ _
 have hle:nc≤9223372036854775807:=by
  have:=grownCap_le_maxLen w m 0 et (by simp only[maxLen];omega)
  rw[hnc]at this
  simp only[maxLen]at this
  omega
 generalize hcs: #[]++us.toArray++Builtin.zeroCells z.cells (nc-m)=cs at hrun
 have hcss:cs.size=nc*inf.size:=by
  rw[←hcs]
  simp only[Array.size_append,List.size_toArray,List.length_nil,size_zeroCells,hzs,u1,Nat.zero_add,←Nat.add_mul]
  congr 1
  omega
 have hbel:Below w.heap.size w (w.drew.alloc (.cells cs et)):=(below_drew w).trans (below_alloc w.drew _)
 have hmem:(w.drew.alloc (.cells cs et)).heap[w.heap.size]? =some (.cells cs et (0,0)):=heap_alloc_new w.drew _
 have hxx:=Ext.own (b:=b) (r:=w.heap.size) (sz:=inf.size) hi hbel hb
 have hw:∀v u,Rep L w.drew v u→Rep (L.own b w.heap.size inf.size) (w.drew.alloc (.cells cs et)) v u:=fun v u hr=>by
  have hi':=Inv.grow hi (below_drew w)
  exact Rep.ext (Ext.own (b:=b) (r:=w.heap.size) (sz:=inf.size) hi' (below_alloc w.drew (.cells cs et)) hb) v u hr
 refine⟨L.own b w.heap.size inf.size,_,_,hrun,hxx,?_,?_⟩
 ·refine Inv.own (k:=⟨inf.size,ys,.toky⟩) hi hbel hb (Nat.le_refl _) (BlkOK.mk' rfl hi.top ⟨cs,et,hmem,?_,fun j row hrow=>?_⟩)
  ·simp only[hcss,hm]
   exact Nat.mul_le_mul_right _ hge
  ·obtain⟨r1,r2⟩:=u4 j row hrow
   refine⟨r1,fun o v hv=>?_⟩
   obtain⟨p1,p2,u,hu',hr⟩:=r2 o v hv
   refine⟨by show pureB (strip v)=true;rw[strip_pure p1];exact p1,cellU_of p2,u,?_,hw v u hr⟩
   have ho:o < inf.size:=by rw[←r1];exact(List.getElem?_eq_some_iff.1 hv).1
   have hjm:j < m:=by rw[←hm];exact(List.getElem?_eq_some_iff.1 hrow).1
   have hlt:j*inf.size+o < m*inf.size:=by
    have:(j+1)*inf.size≤m*inf.size:=Nat.mul_le_mul_right _ hjm
    rw[Nat.add_mul,Nat.one_mul]at this
    omega
   rw[←hcs,Array.getElem?_append_left (by simp[u1,hm];omega)]
   simpa using hu'
 ·simp only[Rep]
  exact⟨w.heap.size,inf.size,_,_,setF_same _ _ _,rfl,hge,hle,fun c hc=>by(cases hc),.inr (by simp),fun j hj=>by
   rw[cell_of_row _ _ _ _ _ _ hmem,Array.getElem?_eq_getElem (by rw[Nat.zero_add]at hj;rw[hcss];exact hj)];rfl⟩
end
end Go.Sym
end
