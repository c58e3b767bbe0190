import GoSem.Step
import Derived.KernelRfl
import Derived.Lib.Bytealg
import Derived.Lib.Repeat
import Derived.Lib.Join
import Derived.Deep.MidRow
import Derived.Deep.AppendSrc
import Derived.Below
/- A part of the proof, its blanks struck by a program of ours. -/
namespace Go.Vm
universe u
inductive Ty where
 |int (k:IntKind)|bool|str|err|ref|sl (t:Ty)|arr (n:Nat) (t:Ty)|pair (a b:Ty)|st (t:Ty)|unit
 deriving DecidableEq
@[reducible] def kden:IntKind→Type| .u8=>UInt8|_=>Int
@[reducible] def Ty.den:Ty→Type
 | .int k=>kden k| .bool=>Bool| .str=>List UInt8| .err=>Bool| .ref=>Unit| .sl t=>List t.den| .arr _ t=>List t.den
 | .pair a b=>a.den×b.den| .st t=>t.den| .unit=>Unit
def toI:(k:IntKind)→kden k→Int
 | .u8,x=>(x.toNat:Int)
 | .i8,x| .i16,x| .i32,x| .i64,x| .u16,x| .u32,x| .u64,x=>x
def ofI:(k:IntKind)→Int→kden k
 | .u8,n=>UInt8.ofNat n.toNat
 | .i8,n| .i16,n| .i32,n| .i64,n| .u16,n| .u32,n| .u64,n=>n
def Ty.flat:Ty→Bool
 | .sl _=>false| .arr _ t=>t.flat| .pair a b=>a.flat&&b.flat| .st t=>t.flat|_=>true
def Ty.sz:Ty→Nat
 | .arr n t=>n*t.sz| .pair a b=>a.sz+b.sz| .st t=>t.sz| .unit=>0|_=>1
def Ty.nl:Ty→Nat
 | .pair a b=>a.nl+b.nl| .st t=>t.nl| .unit=>0|_=>1
def szT:Ty→List Nat
 | .pair a b=>szT a++szT b| .st t=>szT t| .unit=>[]| .arr n t=>[n*t.sz]|_=>[1]
def Ty.arrOK:Ty→Bool
 | .arr _ t=>t.flat| .pair a b=>a.arrOK&&b.arrOK| .st t=>t.arrOK|_=>true
def Ty.isSt:Ty→Bool| .st _=>true|_=>false
def Ty.leaf:Ty→Bool| .pair _ _| .st _| .unit=>false|_=>true
def Ty.by:Ty→Nat
 | .sl _=>24| .str=>16| .err=>16| .arr n t=>n*t.by| .pair a b=>a.by+b.by| .st t=>t.by| .unit=>0| .int .u8=>1| .bool=>8|_=>8
def zeroD:(t:Ty)→t.den
 | .int .u8=>(0:UInt8)
 | .int .i8| .int .i16| .int .i32| .int .i64| .int .u16| .int .u32| .int .u64=>(0:Int)
 | .bool=>false| .str=>[]| .err=>true| .ref=>()| .sl _=>[]| .arr n t=>List.replicate n (zeroD t)
 | .pair a b=>(zeroD a,zeroD b)| .st t=>zeroD t| .unit=>()
def eqD:(t:Ty)→t.den→t.den→Bool
 | .int k,x,y=>toI k x==toI k y
 | .bool,x,y=>x==y
 | .str,x,y=>x==y
 | .pair a .unit,x,y=>eqD a x.1 y.1
 | .pair a b,x,y=>eqD a x.1 y.1&&eqD b x.2 y.2
 | .st t,x,y=>eqD t x y
 |_,_,_=>false
def eqOK:Ty→Bool
 | .int _| .bool| .str=>true| .pair a b=>eqOK a&&eqOK b| .st t=>eqOK t|_=>false
structure Dyn where
 t:Ty
 x:t.den
inductive Out(α:Type):Type 1 where
 |ret (a:α)
 |fail
 |br (b:Bool) (x y:Out α)
 |opt {β:Type} (o:Option β) (k:β→Out α)
 |alt {β γ:Type} (s:β⊕γ) (k:β→Out α) (l:γ→Out α)
def Out.bind{α β:Type}(x:Out α)(f:α→Out β):Out β:=
 match x with
 | .ret a=>f a
 | .fail=> .fail
 | .br b x y=> .br b (x.bind f) (y.bind f)
 | .opt o k=> .opt o fun a=>(k a).bind f
 | .alt s k l=> .alt s (fun a=>(k a).bind f) (fun a=>(l a).bind f)
def Out.run{α:Type}:Out α→Option α
 | .ret a=>some a
 | .fail=>none
 | .br b x y=>bif b then x.run else y.run
 | .opt o k=>o.bind fun a=>(k a).run
 | .alt s k l=>match s with| .inl a=>(k a).run| .inr a=>(l a).run
section
variable {α β:Type}
def guardO(b:Bool)(x:Out α):Out α:= .br b x .fail
def nthO(xs:List α)(n:Nat):Out α:= .opt xs[n]? .ret
def needO(b:Bool)(x:Out α):Out α:=bif b then x else .fail
end
def castD(t u:Ty)(x:u.den):Out t.den:=if h:u=t then .ret (h▸x)else .fail
def castL(t u:Ty)(xs:List u.den):Out (List t.den):=if h:u=t then .ret (h▸xs)else .fail
@[reducible] def PT:List Ty→Type|[]=>Unit|[t]=>t.den|t::u::ts=>t.den×PT (u::ts)
def encP:(ts:List Ty)→PT ts→List Dyn
 |[],_=>[]
 |[t],x=>[⟨t,x⟩]
 |t::u::ts,x=>⟨t,x.1⟩::encP (u::ts) x.2
def decP:(ts:List Ty)→List Dyn→Out (PT ts)
 |[],[]=> .ret ()
 |[t],[d]=>castD t d.t d.x
 |t::u::ts,d::ds=>(castD t d.t d.x).bind fun x=>(decP (u::ts) ds).bind fun y=> .ret (x,y)
 |_,_=> .fail
@[reducible] def RT:List (List Ty)→Type|[]=>Empty|[ts]=>PT ts|ts::us::r=>PT ts⊕RT (us::r)
def encR{α:Type}:(es:List (List Ty))→RT es→Nat→(Nat→List Dyn→Out α)→Out α
 |[],_,_,_=> .fail
 |[ts],x,n,k=>k n (encP ts x)
 |ts::us::r,x,n,k=> .alt x (fun y=>k n (encP ts y)) (fun y=>encR (us::r) y (n+1) k)
def decR:(es:List (List Ty))→Nat→List Dyn→Out (RT es)
 |[ts],0,l=>decP ts l
 |ts::_::_,0,l=>(decP ts l).bind fun x=> .ret (Sum.inl x)
 |_::us::r,n+1,l=>(decR (us::r) n l).bind fun x=> .ret (Sum.inr x)
 |_,_,_=> .fail
inductive PV where
 |sc (t:Ty) (x:t.den)
 |nilS (t:Ty)
 |rf (r:Nat)
 |sub (r off len:Nat)
 |nst (r n k:Nat)
 |av (r n k off len:Nat)
 |ptr (r n k:Nat) (j:Option Nat)
 |ro (t:Ty) (x:t.den)
 |lent (r:Nat) (t:Ty) (x:t.den)
 |rod (r:Nat) (t:Ty) (x:t.den)
 |rb (v:PV)
 |nilp
 |fn (f:Nat) (caps:List PV)
 |ag (ps:List PV)
 |tup (ps:List PV)
 |undef
inductive Own where|full|lit|shal|froz|bare
 deriving DecidableEq
def Own.deep:Own→Bool| .full| .lit| .bare=>true|_=>false
def Own.wr:Own→Own| .bare=> .full|m=>m
inductive Root where
 |box (ps:List PV)
 |row (t:Ty) (xs:List t.den) (m:Own)
 |dead
 |mp (xs:List Int)
 |ext
def leaves:(t:Ty)→t.den→List PV
 | .pair a b,x=>leaves a x.1++leaves b x.2
 | .unit,_=>[]
 | .st t,x=>leaves t x
 | .int k,x=>[.sc (.int k) x]| .bool,x=>[.sc .bool x]| .str,x=>[.sc .str x]| .err,x=>[.sc .err x]| .ref,x=>[.sc .ref x]
 | .sl t,x=>[.sc (.sl t) x]| .arr n t,x=>[.sc (.arr n t) x]
def leavesAt(r n:Nat):(t:Ty)→t.den→Nat→List PV
 | .pair a b,x,k=>leavesAt r n a x.1 k++leavesAt r n b x.2 (k+a.nl)
 | .unit,_,_=>[]
 | .st t,x,k=>leavesAt r n t x k
 | .int j,x,_=>[.sc (.int j) x]| .bool,x,_=>[.sc .bool x]| .str,x,_=>[.sc .str x]| .err,x,_=>[.sc .err x]| .ref,x,_=>[.sc .ref x]
 | .sl _,_,k=>[.nst r n k]| .arr m t,x,_=>[.sc (.arr m t) x]
def leavesL(r:Nat):(t:Ty)→t.den→List PV
 | .pair a b,x=>leavesL r a x.1++leavesL r b x.2
 | .unit,_=>[]
 | .st t,x=>leavesL r t x
 | .int j,x=>[.sc (.int j) x]| .bool,x=>[.sc .bool x]| .str,x=>[.sc .str x]| .err,x=>[.sc .err x]| .ref,x=>[.sc .ref x]
 | .sl t,x=>[.lent r (.sl t) x]| .arr m t,x=>[.sc (.arr m t) x]
def pack(t:Ty)(ps:List PV):PV:=bif t.isSt then .ag ps else match ps with|[v]=>v|_=> .undef
def unpack:PV→List PV| .ag ps=>ps|v=>[v]
def expand(t:Ty)(x:t.den):PV:=pack t (leaves t x)
def ownL:(t:Ty)→t.den→Nat→List PV×List (Nat×Root)×Nat
 | .pair a b,x,i=>match ownL a x.1 i with|(p,u,i)=>match ownL b x.2 i with|(q,v,i)=>(p++q,u++v,i)
 | .unit,_,i=>([],[],i)
 | .st t,x,i=>ownL t x i
 | .sl t,x,i=>([.rf i],[(i,.row t x .full)],i+1)
 | .int k,x,i=>([.sc (.int k) x],[],i)| .bool,x,i=>([.sc .bool x],[],i)| .str,x,i=>([.sc .str x],[],i)| .err,x,i=>([.sc .err x],[],i)| .ref,x,i=>([.sc .ref x],[],i)
 | .arr n t,x,i=>([.sc (.arr n t) x],[],i)
def zeroL:Ty→List PV
 | .pair a b=>zeroL a++zeroL b
 | .unit=>[]| .st t=>zeroL t| .sl t=>[.nilS t]| .ref=>[.nilp]
 | .int k=>[.sc (.int k) (zeroD (.int k))]| .bool=>[.sc .bool false]| .str=>[.sc .str []]| .err=>[.sc .err true]
 | .arr n t=>[.sc (.arr n t) (List.replicate n (zeroD t))]
def look{α:Type u}:List (Nat×α)→Nat→Option α
 |[],_=>none
 |(k,v)::l,n=>bif k==n then some v else look l n
def ins{α:Type}:List (Nat×α)→Nat→α→List (Nat×α)
 |[],n,x=>[(n,x)]
 |(k,v)::l,n,x=>bif k==n then(n,x)::l else bif Nat.blt n k then(n,x)::(k,v)::l else(k,v)::ins l n x
abbrev Look:=Nat→Option Root
abbrev Ups:=List (Nat×Option Root)
structure St where
 tm:List (Nat×PV)
 roots:List (Nat×Root)
def getT(l:List (Nat×PV))(t:Nat):PV:=match look l t with|some v=>v|none=> .undef
def putT(l:List (Nat×PV))(d:Option Nat)(v:PV):List (Nat×PV):=match d with|some d=>ins l d v|none=>l
def upd:List (Nat×Root)→Ups→List (Nat×Root)
 |l,[]=>l
 |l,(r,some x)::u=>upd (ins l r x) u
 |l,(r,none)::u=>upd (ins l r .dead) u
def constV:Value→PV
 | .int k n=>bif decide (toI k (ofI k n)=n)then .sc (.int k) (ofI k n)else .undef
 | .bool b=> .sc .bool b
 | .string s=>bif Nat.ble s.data.toList.length 9223372036854775807 then .sc .str s.data.toList else .undef
 | .pointer none=> .nilp
 | .nilFunc=> .nilp
 | .nilIface=> .sc .err true
 |_=> .undef
def ev(l:List (Nat×PV)):Operand→PV
 | .tmp t=>getT l t
 | .const v=>constV v
 | .func f=> .fn f []
 | .global _=> .undef
end Go.Vm
namespace Go.Vm
section
variable {α:Type}
def getSc(t:Ty)(v:PV):Out t.den:=match v with| .sc u x=>castD t u x|_=> .fail
def asNat(v:PV):Out Nat:=match v with
 | .sc (.int .u8) x=> .ret x.toNat
 | .sc (.int k) x=>guardO (decide (0≤toI k x)) (.ret (toI k x).toNat)
 |_=> .fail
def subD(u:Ty):(t:Ty)→t.den→Nat→Out u.den
 | .pair a b,x,k=>bif Nat.blt k a.nl then subD u a x.1 k else subD u b x.2 (k-a.nl)
 | .st t,x,k=>bif (Ty.st t==u)&&(k==0)then castD u (.st t) x else subD u t x k
 | .unit,_,_=> .fail
 |t,x,k=>bif k==0 then castD u t x else .fail
def setD(u:Ty)(y:u.den):(t:Ty)→t.den→Nat→Out t.den
 | .pair a b,x,k=>bif Nat.blt k a.nl then(setD u y a x.1 k).bind fun z=> .ret (z,x.2)else(setD u y b x.2 (k-a.nl)).bind fun z=> .ret (x.1,z)
 | .st t,x,k=>bif (Ty.st t==u)&&(k==0)then castD (.st t) u y else setD u y t x k
 | .unit,_,_=> .fail
 |t,_,k=>bif k==0 then castD t u y else .fail
def fieldOf:Ty→Nat→Option (Nat×Ty)
 | .pair a _,0=>some (0,a)
 | .pair a b,n+1=>match fieldOf b n with|some (k,u)=>some (a.nl+k,u)|none=>none
 | .unit,_=>none
 |t,0=>some (0,t)
 |_,_+1=>none
def listD(s:Bool):(t:Ty)→t.den→Nat→Out ((u:Ty)×List u.den)
 | .pair a b,x,k=>bif Nat.blt k a.nl then listD s a x.1 k else listD s b x.2 (k-a.nl)
 | .st t,x,k=>listD s t x k
 | .sl t,x,k=>bif s&&(k==0)then .ret ⟨t,x⟩else .fail
 | .arr _ t,x,k=>bif !s&&(k==0)then .ret ⟨t,x⟩else .fail
 |_,_,_=> .fail
def setListD(s:Bool)(u:Ty)(ys:List u.den):(t:Ty)→t.den→Nat→Out t.den
 | .pair a b,x,k=>bif Nat.blt k a.nl then(setListD s u ys a x.1 k).bind fun z=> .ret (z,x.2)else(setListD s u ys b x.2 (k-a.nl)).bind fun z=> .ret (x.1,z)
 | .st t,x,k=>setListD s u ys t x k
 | .sl t,_,k=>bif s&&(k==0)then castL t u ys else .fail
 | .arr _ t,_,k=>bif !s&&(k==0)then castL t u ys else .fail
 |_,_,_=> .fail
def nestTy:Ty→Nat→Option Ty
 | .pair a b,k=>bif Nat.blt k a.nl then nestTy a k else nestTy b (k-a.nl)
 | .st t,k=>nestTy t k
 | .sl t,0=>some t
 |_,_=>none
def placeA(lk:Look)(r n k:Nat):Out ((u:Ty)×List u.den):=
 match lk r with
 |some (.box ps)=>(match n,ps[k]? with
  |0,some (.sc (.arr _ t) xs)=> .ret ⟨t,xs⟩
  |_,_=> .fail)
 |some (.row t xs _)=>(nthO xs n).bind fun x=>listD false t x k
 |_=> .fail
def placeS(lk:Look)(r n k:Nat):Out ((u:Ty)×List u.den):=
 match lk r with
 |some (.row t xs m)=>needO m.deep ((nthO xs n).bind fun x=>listD true t x k)
 |_=> .fail
def rowL(lk:Look)(r:Nat):Out ((u:Ty)×List u.den):=match lk r with|some (.row t xs _)=> .ret ⟨t,xs⟩|_=> .fail
def sliceOf(lk:Look)(v:PV):Out ((u:Ty)×List u.den):=
 match v with
 | .sc (.sl t) xs=> .ret ⟨t,xs⟩
 | .nilS t=> .ret ⟨t,[]⟩
 | .rf r=>rowL lk r
 | .sub r off len=>(rowL lk r).bind fun⟨t,xs⟩=> .ret ⟨t,(xs.drop off).take len⟩
 | .nst r n k=>placeS lk r n k
 | .lent _ (.sl t) xs=> .ret ⟨t,xs⟩
 | .av r n k off len=>(placeA lk r n k).bind fun⟨t,xs⟩=>needO (t.sz==1) (.ret ⟨t,(xs.drop off).take len⟩)
 |_=> .fail
def toL(lk:Look):(t:Ty)→List PV→Out (t.den×List PV)
 | .pair a b,vs=>(toL lk a vs).bind fun(x,vs)=>(toL lk b vs).bind fun(y,vs)=> .ret ((x,y),vs)
 | .st t,vs=>toL lk t vs
 | .unit,vs=> .ret ((),vs)
 | .sl t,v::vs=>(sliceOf lk v).bind fun⟨u,xs⟩=>(castL t u xs).bind fun xs=> .ret (xs,vs)
 | .int k,v::vs=>(getSc (.int k) v).bind fun x=> .ret (x,vs)
 | .bool,v::vs=>(getSc .bool v).bind fun x=> .ret (x,vs)
 | .str,v::vs=>(getSc .str v).bind fun x=> .ret (x,vs)
 | .err,v::vs=>(getSc .err v).bind fun x=> .ret (x,vs)
 | .arr n t,v::vs=>(getSc (.arr n t) v).bind fun x=> .ret (x,vs)
 |_,_=> .fail
def isTop:PV→Bool| .undef| .tup _=>false|_=>true
def toD(lk:Look)(t:Ty)(v:PV):Out t.den:=needO (isTop v) ((toL lk t (unpack v)).bind fun(x,l)=>match l with|[]=> .ret x|_=> .fail)
mutual
def ids:PV→List Nat
 | .rf r| .sub r _ _| .nst r _ _| .lent r _ _| .rod r _ _| .av r _ _ _ _| .ptr r _ _ _=>[r]
 | .fn _ cs=>idsL cs
 | .rb c=>ids c
 | .ag ps| .tup ps=>idsL ps
 |_=>[]
def idsL:List PV→List Nat
 |[]=>[]
 |v::vs=>ids v++idsL vs
end
def idsR:Option Root→List Nat
 |some (.box ps)=>idsL ps
 |_=>[]
def reach(lk:Look):Nat→List Nat→List Nat
 |0,l=>l
 |n+1,l=>l++reach lk n (l.flatMap fun r=>idsR (lk r))
def szV:PV→Nat
 | .sc t _=>t.sz
 | .ag _| .tup _=>0
 |_=>1
def alike:PV→PV→Bool
 | .sc (.arr n t) _,.sc (.arr m u) _=>(n==m)&&(t==u)
 | .sc (.arr _ _) _,_=>false
 |_,.sc (.arr _ _) _=>false
 |v,w=>(szV v==1)&&(szV w==1)
def rootSz(lk:Look)(r:Nat):List Nat:=match lk r with|some (.box ps)=>ps.map szV|some (.row t _ _)=>szT t|_=>[]
mutual
def nstOf:PV→List Nat
 | .nst r _ _| .lent r _ _| .rod r _ _=>[r]
 | .fn _ cs=>nstOfL cs
 | .rb c=>nstOf c
 | .ag ps| .tup ps=>nstOfL ps
 |_=>[]
def nstOfL:List PV→List Nat
 |[]=>[]
 |v::vs=>nstOf v++nstOfL vs
end
def lies(lk:Look)(r k:Nat)(u:Ty):Bool:=decide (((rootSz lk r).drop k).take u.nl=szT u)
def alikeL:List PV→List PV→Bool
 |[],[]=>true
 |v::vs,w::ws=>alike v w&&alikeL vs ws
 |_,_=>false
def getAt(lk:Look)(u:Ty)(r n k:Nat)(j:Option Nat):Out PV:=
 match j with
 |some j=>(placeA lk r n k).bind fun⟨t,xs⟩=>needO (t==u&&(t.leaf&&t.flat&&t.sz==1)) ((nthO xs j).bind fun x=> .ret (expand t x))
 |none=>match lk r with
  |some (.box ps)=>(match n with
   |0=>needO (decide (k+u.nl≤ps.length)&&alikeL (zeroL u) ((ps.drop k).take u.nl)) (.ret (pack u ((ps.drop k).take u.nl)))
   |_=> .fail)
  |some (.row t xs m)=>(nthO xs n).bind fun x=>(subD u t x k).bind fun y=>needO (!m.deep||u.arrOK) (.ret (pack u (bif m.deep then leavesAt r n u y k else leaves u y)))
  |_=> .fail
mutual
def capOK:PV→Bool
 | .ptr _ _ _ _| .ro _ _| .nilp=>true
 | .fn _ cs=>capOKL cs
 | .rb c=>capOK c
 |_=>false
def capOKL:List PV→Bool
 |[]=>true
 |v::vs=>capOK v&&capOKL vs
end
def leafOK:PV→Bool
 | .nst _ _ _| .lent _ _ _| .rod _ _ _| .ag _| .tup _| .undef=>false
 | .fn _ cs=>capOKL cs
 | .rb c=>capOK c
 |_=>true
def nstFree:List PV→Bool
 |[]=>true
 |v::l=>leafOK v&&nstFree l
def setBox(ps:List PV)(k:Nat)(ws:List PV):Out (List PV):=
 needO (decide (k+ws.length≤ps.length)&&alikeL ((ps.drop k).take ws.length) ws&&nstFree ws) (.ret (ps.take k++ws++ps.drop (k+ws.length)))
mutual
def ownable(lk:Look):PV→Bool
 | .sc t _=>t.flat
 | .nilS _=>true
 | .rf r=>(match lk r with|some (.row _ _ m)=>m.deep|_=>false)
 | .ag ps=>ownableL lk ps
 |_=>false
def ownableL(lk:Look):List PV→Bool
 |[]=>true
 |v::vs=>ownable lk v&&ownableL lk vs
end
def nodupB:List Nat→Bool
 |[]=>true
 |x::l=>!l.contains x&&nodupB l
def apartB(a b:List Nat):Bool:=a.all fun x=>!b.contains x
def freeze(lk:Look):List Nat→Out Ups
 |[]=> .ret []
 |r::l=>match lk r with
  |some (.row t xs _)=>(freeze lk l).bind fun u=> .ret ((r,some (.row t xs .froz))::u)
  |_=> .fail
def absorb(lk:Look)(vs:List PV):Out (Bool×Ups):=
 bif ownableL lk vs&&nodupB (idsL vs)then .ret (true,(idsL vs).map fun r=>(r,none))
 else(freeze lk (idsL vs)).bind fun u=> .ret (false,u)
def setAt(lk:Look)(u:Ty)(w:PV)(r n k:Nat)(j:Option Nat):Out Ups:=
 match lk r with
 |some (.box ps)=>(match n,j with
  |0,none=>needO (isTop w&&alikeL (zeroL u) (unpack w)) ((setBox ps k (unpack w)).bind fun ps=> .ret [(r,some (.box ps))])
  |0,some j=>(match ps[k]? with
   |some (.sc (.arr m t) xs)=>needO (t==u&&(t.leaf&&t.flat&&t.sz==1)) ((nthO xs j).bind fun _=>(toD lk t w).bind fun y=> .ret [(r,some (.box (ps.set k (.sc (.arr m t) (xs.set j y)))))])
   |_=> .fail)
  |_,_=> .fail)
 |some (.row t xs m)=>needO (!decide (m= .froz)) ((nthO xs n).bind fun x=>match j with
  |none=>(toD lk u w).bind fun y=>(setD u y t x k).bind fun x=>bif u.flat then .ret [(r,some (.row t (xs.set n x) m.wr))]
    else needO (!(ids w).contains r) ((absorb lk [w]).bind fun(b,up)=> .ret (up++[(r,some (.row t (xs.set n x) (bif b then m.wr else .shal)))]))
  |some j=>(listD false t x k).bind fun⟨t',ys⟩=>needO (t'==u&&(t'.leaf&&t'.flat&&t'.sz==1)) ((nthO ys j).bind fun _=>(toD lk t' w).bind fun y=>(setListD false t' (ys.set j y) t x k).bind fun x=> .ret [(r,some (.row t (xs.set n x) m.wr))]))
 |_=> .fail
def wrapS(k:IntKind)(n:Int):PV:= .sc (.int k) (ofI k (k.wrap n))
def binI(op:BinOp)(k:IntKind)(x y:Int):Out PV:=
 match op with
 | .add=> .ret (wrapS k (x+y))
 | .sub=> .ret (wrapS k (x-y))
 | .mul=> .ret (wrapS k (x*y))
 | .quo=> .br (y==0) .fail (.ret (wrapS k (x.tdiv y)))
 | .rem=> .br (y==0) .fail (.ret (.sc (.int k) (ofI k (x.tmod y))))
 | .and=> .ret (wrapS k ((BitVec.ofInt k.bits x&&&BitVec.ofInt k.bits y).toNat))
 | .or=> .ret (wrapS k ((BitVec.ofInt k.bits x|||BitVec.ofInt k.bits y).toNat))
 | .xor=> .ret (wrapS k ((BitVec.ofInt k.bits x^^^BitVec.ofInt k.bits y).toNat))
 | .andNot=> .ret (wrapS k ((BitVec.ofInt k.bits x&&& ~~~BitVec.ofInt k.bits y).toNat))
 | .eql=> .ret (.sc .bool (x==y))| .neq=> .ret (.sc .bool (x !=y))| .lss=> .ret (.sc .bool (decide (x<y)))| .leq=> .ret (.sc .bool (decide (x≤y)))
 | .gtr=> .ret (.sc .bool (decide (x>y)))| .geq=> .ret (.sc .bool (decide (x≥y)))
 |_=> .fail
def shiftI(left:Bool)(k:IntKind)(x y:Int):Out PV:=
 .br (decide (y<0)) .fail (.ret (match left with
  |true=>wrapS k (x*2^(min y.toNat k.bits))
  |false=> .sc (.int k) (ofI k (x.fdiv (2^(min y.toNat k.bits))))))
def strS(op:BinOp)(x y:List UInt8):Out PV:=
 match op with
 | .add=>guardO (decide (x.length+y.length≤9223372036854775807)) (.ret (.sc .str (x++y)))
 | .eql=> .ret (.sc .bool (x==y))
 | .neq=> .ret (.sc .bool (!(x==y)))
 | .lss=> .ret (.sc .bool (Op.bytesLess x y))
 | .leq=> .ret (.sc .bool (Op.bytesLess x y||x==y))
 | .gtr=> .ret (.sc .bool (!(Op.bytesLess x y||x==y)))
 | .geq=> .ret (.sc .bool (!Op.bytesLess x y))
 |_=> .fail
def isShift:BinOp→Option Bool| .shl=>some true| .shr=>some false|_=>none
def eqS(op:BinOp)(b:Bool):Out PV:=match op with| .eql=> .ret (.sc .bool b)| .neq=> .ret (.sc .bool (!b))|_=> .fail
def binV(t:Option Ty)(cst:Bool)(op:BinOp)(a b:PV):Out PV:=
 match a,b with
 | .sc (.int k) x,.sc (.int k') y=>(match isShift op with
  |some l=>shiftI l k (toI k x) (toI k' y)
  |none=>needO (decide (k=k')) (binI op k (toI k x) (toI k' y)))
 | .sc .str x,.sc .str y=>strS op x y
 | .sc .bool x,.sc .bool y=>needO (t==some .bool) (eqS op (x==y))
 | .sc .err x,.sc .err true=>needO (t==some .err&&cst) (eqS op x)
 |_,_=> .fail
def agEq(lk:Look)(ok:Bool)(t:Option Ty)(op:BinOp)(ps qs:List PV):Out PV:=
 match t with
 |some (.st u)=>needO (ok&&eqOK u) ((toL lk u ps).bind fun(x,l)=>(toL lk u qs).bind fun(y,l')=>match l,l' with
  |[],[]=>eqS op (eqD u x y)
  |_,_=> .fail)
 |_=> .fail
def nilCmp(op:BinOp)(t:Option Ty)(v:PV):Out PV:=
 match t,v with
 |some (.sl _),.nilS _=>eqS op true
 |some (.sl _),.sc (.sl _) x=> .br x.isEmpty .fail (eqS op false)
 |_,_=> .fail
def unV(op:UnOp)(a:PV):Out PV:=
 match op,a with
 | .not,.sc .bool b=> .ret (.sc .bool (!b))
 | .neg,.sc (.int k) x=> .ret (wrapS k (0-toI k x))
 | .xor,.sc (.int k) x=> .ret (wrapS k ((BitVec.ofInt k.bits (if k.signed then-1 else k.max)^^^BitVec.ofInt k.bits (toI k x)).toNat))
 |_,_=> .fail
end
end Go.Vm
namespace Go.Vm
inductive Mode where
 |b (t:Ty)
 |q (t:Ty)
 |i (t:Ty)
 |o (t:Ty)
 |p (t:Ty) (own:Bool)
 |f0 (g:Nat)|f1 (g:Nat) (m:Mode)|f2 (g:Nat) (m n:Mode)
 |pb (m:Mode)
 deriving DecidableEq
inductive Res where
 |v (t:Ty) (fresh:Bool)
 |pn (t:Ty)
 |pl (t:Ty)
 deriving DecidableEq
def slTys:Ty→List Ty
 | .pair a b=>slTys a++slTys b| .st t=>slTys t| .sl t=>[.sl t]|_=>[]
@[reducible] def Mode.ins:Mode→List Ty
 | .b t=>[t]| .q t=>[t]| .i t=>[t]| .o t=>[t]| .p t _=>[t]| .f0 _=>[]| .f1 _ m=>m.ins| .f2 _ m n=>m.ins++n.ins| .pb m=>m.ins
@[reducible] def Mode.outs:Mode→List Ty
 | .b _=>[]| .q _=>[]| .i t=>slTys t| .o _=>[]| .p t _=>[t]| .f0 _=>[]| .f1 _ m=>m.outs| .f2 _ m n=>m.outs++n.outs| .pb m=>m.outs
@[reducible] def Res.ty:Res→Ty| .v t _=>t| .pn t=>t| .pl t=>t
@[reducible] def insL(ms:List Mode):List Ty:=ms.flatMap Mode.ins
@[reducible] def retL(ms:List Mode)(rs:List Res):List Ty:=ms.flatMap Mode.outs++rs.map Res.ty
structure Spec where
 params:List Mode
 res:List Res
 den:PT (insL params)→Option (PT (retL params res))
inductive PS where
 |sc (t:Ty)|rf (r:Nat)|sub (r:Nat)|ptr (r n k:Nat) (j:Option Nat)|nl (t:Ty)|nilp
 |ro (t:Ty)|rb (p:PS)|fn (g:Nat) (a:PS)
 |unit|pair (a b:PS)|ag (a:PS)
inductive RS where
 |row (t:Ty) (m:Own)|box (p:PS)|mp
structure Shape where
 tm:List (Nat×PS)
 roots:List (Nat×RS)
@[reducible] def PS.tys:PS→List Ty
 | .sc t=>[t]| .sub _=>[.int .i64,.int .i64]| .ro t=>[t]| .rb p=>p.tys| .fn _ a=>a.tys| .pair a b=>a.tys++b.tys| .ag a=>a.tys|_=>[]
@[reducible] def RS.tys:RS→List Ty| .row t _=>[.sl t]| .box p=>p.tys| .mp=>[.sl (.int .i64)]
@[reducible] def Shape.tys(s:Shape):List Ty:=(s.tm.flatMap fun x=>x.2.tys)++s.roots.flatMap fun x=>x.2.tys
inductive Ex where|normal|exit(id:Nat)|ret
 deriving DecidableEq
structure LSpec where
 consts:List (Nat×Ty)
 head:Shape
 exits:List (Ex×Shape)
 den:Nat→PT (consts.map (·.2))→PT head.tys→Option (RT (exits.map fun x=>x.2.tys))
structure RSpec where
 h:Nat
 ts:List Ty
 ys:List Ty
 items:PT ts→List (PT ys)
 pre:PT ts→Bool
 consts:List (Nat×Ty)
 head:Shape
 exits:List (Ex×Shape)
 den:List (PT ys)→PT (consts.map (·.2))→PT head.tys→Option (RT (exits.map fun x=>x.2.tys))
structure It where
 h:Nat
 ts:List Ty
 pre:PT ts→Bool
structure Ins where
 t:Ty
 tS:Nat
 tI:Nat
 ov:Nat
structure Env where
 ty:List (Nat×Ty)
 sp:List (Nat×Spec)
 lp:List (Nat×LSpec)
 fuel:Nat
 eqs:List Nat:=[]
 rg:List (Nat×RSpec):=[]
 its:List (Nat×It):=[]
 mps:List Nat:=[]
 ins:List (Nat×Ins):=[]
def tyOf(e:Env)(t:Nat):Option Ty:=look e.ty t
inductive Wb where
 |row (r:Nat) (t:Ty)|none_ (t:Ty)|gone (r:Nat)|nst (r n k:Nat) (t:Ty)
 |var (r k:Nat) (t:Ty) (own:Bool) (old:List Nat)
structure Got where
 ds:List Dyn
 ws:List Wb
 lent:List Nat
def Got.add(a b:Got):Got:=⟨a.ds++b.ds,a.ws++b.ws,a.lent++b.lent⟩
def boxAt(lk:Look)(v:PV)(n:Nat):Out (Nat×Nat×List PV):=
 match v with
 | .ptr r 0 k none=>(match lk r with
  |some (.box ps)=>needO (decide (k+n≤ps.length)) (.ret (r,k,(ps.drop k).take n))
  |_=> .fail)
 |_=> .fail
def wholeW(lk:Look):PV→Out (List Wb)
 | .rf r=>(match lk r with
  |some (.row u _ m)=>needO (m.deep||(u.flat&&!decide (m= .froz))) (.ret [.row r u])
  |_=> .fail)
 | .nilS t=> .ret [.none_ t]
 | .nst r n k=>(match lk r with
  |some (.row u _ m)=>(match nestTy u k with
   |some t=>needO m.deep (.ret [.nst r n k t])
   |none=> .fail)
  |_=> .fail)
 |_=> .fail
def wbsW(lk:Look):Ty→List PV→Out (List Wb×List PV)
 | .pair a b,vs=>(wbsW lk a vs).bind fun(x,vs)=>(wbsW lk b vs).bind fun(y,vs)=> .ret (x++y,vs)
 | .st t,vs=>wbsW lk t vs
 | .unit,vs=> .ret ([],vs)
 | .sl _,v::vs=>(wholeW lk v).bind fun w=> .ret (w,vs)
 |_,_::vs=> .ret ([],vs)
 |_,[]=> .fail
def goneW:List Wb→List Wb
 |[]=>[]
 | .row r _::l=> .gone r::goneW l
 |_::l=>goneW l
def noNst:List Wb→Bool
 |[]=>true
 | .nst _ _ _ _::_=>false
 |_::l=>noNst l
def isAg:PV→Bool| .ag _=>true|_=>false
def topV(t:Ty)(v:PV):Bool:=(t.leaf||t.isSt)&&t.arrOK&&(isAg v==t.isSt)
def gather(lk:Look):Mode→PV→Out Got
 | .b t,v=>needO (topV t v) ((toD lk t v).bind fun x=> .ret ⟨[⟨t,x⟩],[],reach lk 2 (ids v)⟩)
 | .q t,.ro u x=>(castD t u x).bind fun x=> .ret ⟨[⟨t,x⟩],[],[]⟩
 | .q t,v=>(boxAt lk v t.nl).bind fun(r,_,ps)=>(toL lk t ps).bind fun(x,l)=>match l with
  |[]=> .ret ⟨[⟨t,x⟩],[],r::reach lk 2 (idsL ps)⟩
  |_=> .fail
 | .i t,v=>needO (topV t v) ((toD lk t v).bind fun x=>(wbsW lk t (unpack v)).bind fun(w,_)=> .ret ⟨[⟨t,x⟩],w,[]⟩)
 | .o t,v=>needO (topV t v) ((toD lk t v).bind fun x=>(wbsW lk t (unpack v)).bind fun(w,_)=>needO (noNst w) (.ret ⟨[⟨t,x⟩],goneW w,[]⟩))
 | .p t true,v=>(boxAt lk v t.nl).bind fun(r,k,ps)=>needO (ownableL lk ps) ((toL lk t ps).bind fun(x,l)=>match l with|[]=> .ret ⟨[⟨t,x⟩],[.var r k t true (idsL ps)],[]⟩|_=> .fail)
 | .p t false,v=>(boxAt lk v t.nl).bind fun(r,k,ps)=>match idsL ps with
  |[]=>(toL lk t ps).bind fun(x,l)=>(match l with|[]=> .ret ⟨[⟨t,x⟩],[.var r k t false []],[]⟩|_=> .fail)
  |_=> .fail
 | .f0 g,.fn h []=>needO (g==h) (.ret ⟨[],[],[]⟩)
 | .f1 g m,.fn h [c]=>needO (g==h&&capOK c) (gather lk m c)
 | .f2 g m n,.fn h [c,d]=>needO (g==h&&capOK c&&capOK d) ((gather lk m c).bind fun a=>(gather lk n d).bind fun b=> .ret (a.add b))
 | .pb m,.rb c=>needO (capOK c) (gather lk m c)
 | .pb m,v=>(boxAt lk v 1).bind fun(r,_,ps)=>match ps with
  |[c]=>needO (capOK c) ((gather lk m c).bind fun a=> .ret ⟨a.ds,a.ws,r::a.lent⟩)
  |_=> .fail
 |_,_=> .fail
def gatherL(lk:Look):List Mode→List PV→Out Got
 |[],[]=> .ret ⟨[],[],[]⟩
 |m::ms,v::vs=>(gather lk m v).bind fun a=>(gatherL lk ms vs).bind fun b=> .ret (a.add b)
 |_,_=> .fail
def fitsD(lk:Look):Nat→Mode→PV→Bool
 |0,_,_=>true
 |n+1,.pb m,.rb c=>fitsD lk n m c
 |n+1,.pb m,v=>(match(boxAt lk v 1).run with|some (_,_,[c])=>fitsD lk n m c|_=>false)
 |_+1,.f0 g,.fn h []=>g==h
 |n+1,.f1 g m,.fn h [c]=>g==h&&fitsD lk n m c
 |n+1,.f2 g m m',.fn h [c,d]=>g==h&&fitsD lk n m c&&fitsD lk n m' d
 |_+1,.f0 _,_|_+1,.f1 _ _,_|_+1,.f2 _ _ _,_=>false
 |_+1,.i t,v=>(wbsW lk t (unpack v)).run.isSome
 |_+1,.o t,v=>(match(wbsW lk t (unpack v)).run with|some (w,_)=>noNst w|none=>false)
 |_+1,.p t own,v=>(match(boxAt lk v t.nl).run with|some (_,_,ps)=>bif own then ownableL lk ps else decide (idsL ps=[])|_=>false)
 |_+1,.q _,.ptr _ _ _ _|_+1,.q _,.ro _ _=>true
 |_+1,.q _,_=>false
 |_+1,.b _,.fn _ _|_+1,.b _,.ptr _ _ _ _=>false
 |_+1,.b _,_=>true
def fitsL(lk:Look):List Mode→List PV→Bool
 |[],[]=>true
 |m::ms,v::vs=>fitsD lk 8 m v&&fitsL lk ms vs
 |_,_=>false
def pickS(lk:Look)(g:Nat)(vs:List PV):List (Nat×Spec)→Option Spec
 |[]=>none
 |(h,s)::l=>bif g==h&&fitsL lk s.params vs then some s else pickS lk g vs l
def wbRoots:List Wb→List Nat
 |[]=>[]
 | .row r _::l| .gone r::l=>r::wbRoots l
 | .none_ _::l=>wbRoots l
 | .nst r _ _ _::l=>r::wbRoots l
 | .var r _ _ _ old::l=>r::old++wbRoots l
def writeBack(lk:Look):List Wb→List Dyn→Nat→Out (Ups×List Dyn×Nat)
 |[],ys,id=> .ret ([],ys,id)
 | .gone r::ws,ys,id=>(writeBack lk ws ys id).bind fun(up,z)=> .ret ((r,none)::up,z)
 | .none_ _::ws,y::ys,id=>needO (match y.t with| .sl _=>true|_=>false) (writeBack lk ws ys id)
 | .row r t::ws,y::ys,id=>(castD (.sl t) y.t y.x).bind fun y=>match lk r with
  |some (.row u _ m)=>needO (m.deep||(u.flat&&!decide (m= .froz)))<|(castL u t y).bind fun y=>(writeBack lk ws ys id).bind fun(up,z)=> .ret ((r,some (.row u y m.wr))::up,z)
  |_=> .fail
 | .nst r n k t::ws,y::ys,id=>(castD (.sl t) y.t y.x).bind fun y=>match lk r with
  |some (.row u xs m)=>needO m.deep<|(nthO xs n).bind fun x=>(setListD true t y u x k).bind fun x'=>(writeBack lk ws ys id).bind fun(up,z)=> .ret ((r,some (.row u (xs.set n x') m.wr))::up,z)
  |_=> .fail
 | .var r k t true old::ws,y::ys,id=>(castD t y.t y.x).bind fun y=>match lk r,ownL t y id with
  |some (.box ps),(c,u,id)=>needO t.arrOK<|(setBox ps k c).bind fun ps=>(writeBack lk ws ys id).bind fun(up,z)=>
    .ret (old.map (fun o=>(o,none))++(u.map (fun(i,x)=>(i,some x))++(r,some (.box ps))::up),z)
  |_,_=> .fail
 | .var r k t false old::ws,y::ys,id=>(castD t y.t y.x).bind fun y=>match lk r with
  |some (.box ps)=>(setBox ps k (leaves t y)).bind fun ps=>(writeBack lk ws ys id).bind fun(up,z)=> .ret (old.map (fun o=>(o,none))++(r,some (.box ps))::up,z)
  |_=> .fail
 |_::_,[],_=> .fail
def results_:List Res→List Dyn→Nat→Out (List PV×Ups×Nat)
 |[],[],id=> .ret ([],[],id)
 | .v t true::rs,y::ys,id=>(castD t y.t y.x).bind fun y=>match ownL t y id with
  |(v,u,id)=>needO ((t.leaf||t.isSt)&&t.arrOK) ((results_ rs ys id).bind fun(vs,up,id)=> .ret (pack t v::vs,u.map (fun(i,x)=>(i,some x))++up,id))
 | .v t false::rs,y::ys,id=>(castD t y.t y.x).bind fun y=>needO (t.leaf||t.isSt) ((results_ rs ys id).bind fun(vs,up,id)=> .ret (expand t y::vs,up,id))
 | .pn t::rs,y::ys,id=>(castD t y.t y.x).bind fun y=>match ownL t y (id+1)with
  |(v,u,id')=>needO t.arrOK<|(results_ rs ys id').bind fun(vs,up,id')=> .ret (.ptr id 0 0 none::vs,u.map (fun(i,x)=>(i,some x))++(id,some (.box v))::up,id')
 | .pl t::rs,y::ys,id=>(castD t y.t y.x).bind fun y=>(results_ rs ys (id+1)).bind fun(vs,up,id')=> .ret (.ptr id 0 0 none::vs,(id,some (.box (leaves t y)))::up,id')
 |_,_,_=> .fail
def borrowed:List Res→Bool
 |[]=>false
 | .pl t::l=>!t.flat||borrowed l
 | .v t false::l=>!t.flat||borrowed l
 |_::l=>borrowed l
def flatW:List Wb→Bool
 |[]=>true
 | .var _ _ t false _::l=>t.flat&&flatW l
 |_::l=>flatW l
def packR:List PV→PV
 |[v]=>v
 |vs=> .tup vs
def callS(s:Spec)(id:Nat)(vs:List PV)(lk:Look):Out (PV×Ups):=
 (gatherL lk s.params vs).bind fun g=>
 needO (nodupB (wbRoots g.ws)&&apartB g.lent (wbRoots g.ws)&&!(g.lent++wbRoots g.ws).contains 0&&g.lent.all fun r=>(lk r).isSome)<|
  (decP (insL s.params) g.ds).bind fun x=> .opt (s.den x) fun y=>
  (writeBack lk g.ws (encP (retL s.params s.res) y) (id+1)).bind fun(up,ys,id1)=>(results_ s.res ys id1).bind fun(vs,up',id2)=>
   needO (Nat.ble id2 (id+1000)) ((bif borrowed s.res||!flatW g.ws then freeze lk g.lent else .ret []).bind fun fz=> .ret (packR vs,fz++(up++up')))
def rosL:List Dyn→List PV
 |[]=>[]
 |d::ds=> .ro d.t d.x::rosL ds
def itS(it:It)(vs:List PV)(lk:Look):Out (PV×Ups):=
 (gatherL lk (it.ts.map .b) vs).bind fun g=>(decP it.ts g.ds).bind fun x=>guardO (it.pre x)<|
  needO (!g.lent.contains 0&&g.ws.isEmpty) ((freeze lk g.lent).bind fun fz=> .ret (.fn it.h (rosL g.ds),fz))
def isSl:Option Ty→Bool|some (.sl _)=>true|_=>false
def lenV(lk:Look)(ty:Option Ty)(v:PV):Out Nat:=
 match v with
 | .sc .str x=>needO (ty==some .str) (.ret x.length)
 | .sc (.arr n _) _=>(match ty with|some (.arr m _)=>needO (n==m) (.ret n)|_=> .fail)
 | .sub _ _ n=>needO (isSl ty) (.ret n)
 | .av _ _ _ _ n=>needO (isSl ty) (.ret n)
 |v=>needO (isSl ty) ((sliceOf lk v).bind fun⟨_,xs⟩=> .ret xs.length)
def minmax(mx:Bool)(k:IntKind):List PV→Int→Out PV
 |[],x=> .ret (.sc (.int k) (ofI k x))
 |v::l,x=>(getSc (.int k) v).bind fun y=>minmax mx k l (match mx with|true=>max x (toI k y)|false=>min x (toI k y))
def minmaxV(mx:Bool):List PV→Out PV
 | .sc (.int k) x::l=>minmax mx k l (toI k x)
 |_=> .fail
def roomOK(n b:Nat):Bool:=decide (n*b≤140737488355328)
def srcL(lk:Look)(tx:Option Ty)(b:PV):Out ((u:Ty)×List u.den):=match b with
 | .sc .str x=>needO (tx==some .str) (.ret ⟨.int .u8,x⟩)
 |b=>needO (isSl tx) (sliceOf lk b)
def srcT(lk:Look)(tx:Option Ty)(t:Ty)(b:PV):Out ((u:Ty)×List u.den):=match tx with
 |some (.int .i64)=>needO (t.flat&&Nat.blt 0 t.sz) ((asNat b).bind fun n=> .ret ⟨t,List.replicate n (zeroD t)⟩)
 |tx=>srcL lk tx b
def appendTo(lk:Look)(tx:Option Ty)(id:Nat)(b:PV)(t:Ty)(xs:List t.den)(m:Own)(old:List Nat):Out (PV×Ups):=
 (srcT lk tx t b).bind fun⟨u,ys⟩=>(castL t u ys).bind fun ys=>
  guardO (roomOK (xs.length+ys.length) t.by)<|
   bif t.flat then .ret (.rf id,old.map (fun r=>(r,none))++[(id,some (.row t (xs++ys) .full))])
   else match b with
    | .nilS _=> .ret (.rf id,old.map (fun r=>(r,none))++[(id,some (.row t (xs++ys) m))])
    | .sc _ _=> .ret (.rf id,old.map (fun r=>(r,none))++[(id,some (.row t (xs++ys) .shal))])
    |b=>needO (!(ids b).any fun s=>old.contains s)<|match b,m,lk ((ids b).headD 0)with
     | .rf r,.full,some (.row _ _ .lit)=> .ret (.rf id,(old++[r]).map (fun r=>(r,none))++[(id,some (.row t (xs++ys) .full))])
     |b,_,_=>(freeze lk (ids b)).bind fun fz=> .ret (.rf id,fz++(old.map (fun r=>(r,none))++[(id,some (.row t (xs++ys) .shal))]))
def appendV(lk:Look)(ty tx:Option Ty)(id:Nat)(a b:PV):Out (PV×Ups):=
 match a with
 | .nilS t=>needO (ty==some (.sl t)&&Nat.blt 0 t.by) (appendTo lk tx id b t [] .full [])
 | .rf r=>(match lk r with
  |some (.row t xs m)=>needO (ty==some (.sl t)&&Nat.blt 0 t.by&&!decide (m= .froz)) (appendTo lk tx id b t xs (bif m.deep then .full else .shal) [r])
  |_=> .fail)
 | .sub r 0 n=>(match lk r with
  |some (.row t xs m)=>needO (ty==some (.sl t)&&Nat.blt 0 t.by&&!decide (m= .froz)) (appendTo lk tx id b t (xs.take n) .shal [r])
  |_=> .fail)
 |_=> .fail
def spliceL{β:Type}(xs ys:List β)(off n:Nat):List β:=xs.take off++ys.take n++xs.drop (off+n)
def copyV(lk:Look)(ty tx:Option Ty)(a b:PV):Out (PV×Ups):=
 needO (isSl ty)<|(srcL lk tx b).bind fun⟨u,ys⟩=>match a with
 | .nilS _=> .ret (.sc (.int .i64) (0:Int),[])
 | .rf r=>(match lk r with
  |some (.row t xs m)=>needO (ty==some (.sl t)&&t.flat&&!decide (m= .froz)) ((castL t u ys).bind fun ys=> .ret (.sc (.int .i64) ((min ys.length xs.length:Nat):Int),[(r,some (.row t (spliceL xs ys 0 (min ys.length xs.length)) m.wr))]))
  |_=> .fail)
 | .sub r off len=>(match lk r with
  |some (.row t xs m)=>needO (ty==some (.sl t)&&t.flat&&!decide (m= .froz)) ((castL t u ys).bind fun ys=> .ret (.sc (.int .i64) ((min ys.length len:Nat):Int),[(r,some (.row t (spliceL xs ys off (min ys.length len)) m.wr))]))
  |_=> .fail)
 | .av r n k off len=>(match lk r with
  |some (.box ps)=>(match n,ps[k]? with
   |0,some (.sc (.arr m t) xs)=>needO (ty==some (.sl t)&&t.flat&&t.sz==1) ((castL t u ys).bind fun ys=> .ret (.sc (.int .i64) ((min ys.length len:Nat):Int),[(r,some (.box (ps.set k (.sc (.arr m t) (spliceL xs ys off (min ys.length len))))))]))
   |_,_=> .fail)
  |some (.row t xs m)=>needO (!decide (m= .froz)) ((nthO xs n).bind fun x=>(listD false t x k).bind fun⟨v,zs⟩=>needO (ty==some (.sl v)&&v.flat&&v.sz==1) ((castL v u ys).bind fun ys=>(setListD false v (spliceL zs ys off (min ys.length len)) t x k).bind fun x=> .ret (.sc (.int .i64) ((min ys.length len:Nat):Int),[(r,some (.row t (xs.set n x) m.wr))])))
  |_=> .fail)
 |_=> .fail
def fillPs(u:Ty):List PV→List (Nat×PV)→Out (List PV)
 |ps,[]=> .ret ps
 |ps,(i,v)::l=>match fieldOf u i with
  |some (k,t)=>needO (isTop v&&alikeL (zeroL t) (unpack v)) ((setBox ps k (unpack v)).bind fun ps=>fillPs u ps l)
  |none=> .fail
def fillXs(lk:Look)(t:Ty):List t.den→List (Nat×PV)→Out (List t.den)
 |xs,[]=> .ret xs
 |xs,(i,v)::l=>(toD lk t v).bind fun x=>fillXs lk t (xs.set i x) l
def listXs(lk:Look)(t:Ty):List PV→Out (List t.den)
 |[]=> .ret []
 |v::l=>(toD lk t v).bind fun x=>(listXs lk t l).bind fun xs=> .ret (x::xs)
def bound(v:Option PV)(d:Nat):Out Nat:=match v with|none=> .ret d|some v=>asNat v
def bounds(lo hi:Option PV)(n:Nat)(k:Nat→Nat→Out PV):Out (PV×Ups):=
 (bound hi n).bind fun h=>(bound lo 0).bind fun l=>guardO (decide (l≤h)&&decide (h≤n)) ((k l h).bind fun v=> .ret (v,[]))
def sliceV2(lk:Look)(ty:Option Ty)(v:PV)(lo hi:Option PV):Out (PV×Ups):=
 match ty with
 |some .str=>(match v with
  | .sc .str x=>bounds lo hi x.length fun l h=> .ret (.sc .str ((x.take h).drop l))
  |_=> .fail)
 |some (.sl u)=>(match v with
  | .sc (.sl t) x=>needO (t==u) (bounds lo hi x.length fun l h=> .ret (.sc (.sl t) ((x.take h).drop l)))
  | .nilS t=>needO (t==u) (bounds lo hi 0 fun _ _=> .ret (.nilS t))
  | .nst r n k=>(placeS lk r n k).bind fun⟨t,x⟩=>needO (t==u) (bounds lo hi x.length fun l h=> .ret (.lent r (.sl t) ((x.take h).drop l)))
  | .lent r (.sl t) x=>needO (t==u) (bounds lo hi x.length fun l h=> .ret (.lent r (.sl t) ((x.take h).drop l)))
  | .rf r=>(rowL lk r).bind fun⟨t,xs⟩=>needO (t==u) (bounds lo hi xs.length fun l h=> .ret (.sub r l (h-l)))
  | .sub r off n=>(rowL lk r).bind fun⟨t,_⟩=>needO (t==u) (bounds lo hi n fun l h=> .ret (.sub r (off+l) (h-l)))
  | .av r n k off m=>needO (u.sz==1) (bounds lo hi m fun l h=> .ret (.av r n k (off+l) (h-l)))
  |_=> .fail)
 |some (.arr m u)=>(match v with
  | .ptr r n k none=>needO (u.sz==1&&lies lk r k (.arr m u)&&Nat.ble m 9223372036854775807) (bounds lo hi m fun l h=> .ret (.av r n k l (h-l)))
  |_=> .fail)
 |_=> .fail
def v1(v:PV):Out (PV×Ups):= .ret (v,[])
def notTup:PV→Bool| .tup _=>false|_=>true
def nilConst(e:Env)(t:Nat)(x:Operand)(v:PV):PV:=match x with
 | .const (.slice none 0 0)=>(match tyOf e t with|some (.sl u)=> .nilS u|_=> .undef)
 |_=>v
def nilArgs(e:Env)(ρ:Operand→PV):List Nat→List Operand→List PV
 |t::ts,x::xs=>nilConst e t x (ρ x)::nilArgs e ρ ts xs
 |[],x::xs=>ρ x::nilArgs e ρ [] xs
 |_,[]=>[]
def getSpan(lk:Look)(u:Ty)(r n k:Nat)(j:Option Nat):Option (Out PV):=
 match u with
 | .arr q t=>(match j with
  |some j=>some ((placeA lk r n k).bind fun⟨t',xs⟩=>needO (t.leaf&&t.flat&&t.sz==1) ((castL t t' xs).bind fun xs=>guardO (decide (j+q≤xs.length)) (.ret (expand (.arr q t) ((xs.drop j).take q)))))
  |none=>(match lk r with
   |some (.row t' xs _)=>bif decide (t'=t)then some (needO (k==0&&(t.leaf&&t.flat&&t.sz==1)&&Nat.blt 0 q) ((castL t t' xs).bind fun xs=>guardO (decide (n+q≤xs.length)) (.ret (expand (.arr q t) ((xs.drop n).take q)))))else none
   |_=>none))
 |_=>none
def insV(lk:Look)(t:Ty)(id:Nat)(a:PV)(i:Nat)(b:PV):Out (PV×Ups):=
 match b with
 | .rf r'=>(match lk r' with
  |some (.row t' ys .bare)=>(castL t t' ys).bind fun ys=>guardO (decide (0<ys.length)) (match a with
   | .nilS u=>needO (decide (u=t)) (guardO (decide (i≤0)&&roomOK ys.length t.by) (.ret (.rf id,[(id,some (.row t ys .full))])))
   | .rf r=>(match lk r with
    |some (.row u xs m)=>needO (!decide (m= .froz)&&!(r==r')) ((castL t u xs).bind fun xs=>guardO (decide (i≤xs.length)&&roomOK (xs.length+ys.length) t.by)
      (.ret (.rf id,[(r,none),(id,some (.row t (xs.take i++ys++xs.drop i) .full))])))
    |_=> .fail)
   |_=> .fail)
  |_=> .fail)
 |_=> .fail
def insCall(e:Env)(z:Ins)(vs:List PV)(caps:List PV)(id:Nat)(lk:Look):Out (PV×Ups):=
 match vs with
 |[a,.sc (.int .i64) i,b]=>needO (caps.isEmpty&&(tyOf e z.tS==some (.sl z.t))&&(tyOf e z.tI==some (.int .i64))&&z.t.flat&&Nat.blt 0 z.t.by&&Nat.blt 0 z.t.sz) (guardO (decide (0≤i)) (insV lk z.t id a (Int.toNat i) b))
 |_=> .fail
def eff(e:Env)(op:Op)(ty:Nat)(id:Nat)(ρ:Operand→PV)(lk:Look):Out (PV×Ups):=
 match op with
 | .move x| .assign x=>v1 (nilConst e ty x (ρ x))
 | .pick c a b=>(getSc .bool (ρ c)).bind fun t=> .br t (v1 (ρ a)) (v1 (ρ b))
 | .alloc t=>(match tyOf e t with|some t=> .ret (.ptr id 0 0 none,[(id,some (.box (zeroL t)))])|none=> .fail)
 | .box t x=>(match tyOf e t with
  |some t=>needO (isTop (ρ x)&&alikeL (zeroL t) (unpack (ρ x))&&nstFree (unpack (ρ x))) (.ret (.ptr id 0 0 none,[(id,some (.box (unpack (ρ x))))]))
  |none=> .fail)
 | .build t parts=>(match tyOf e t with
  |some (.st u)=>(fillPs u (zeroL u) (parts.toList.map fun(i,x)=>(i,ρ x))).bind fun ps=>v1 (.ag ps)
  |some (.arr n u)=>needO (u.flat&&parts.toList.all (fun x=>Nat.blt x.1 n)) ((fillXs lk u (List.replicate n (zeroD u)) (parts.toList.map fun(i,x)=>(i,ρ x))).bind fun xs=>v1 (.sc (.arr n u) xs))
  |_=> .fail)
 | .buildSlice t n parts=>(match tyOf e t with
  |some (.sl u)=>let ps:=parts.toList.map fun(i,x)=>(i,ρ x)
   needO (Nat.ble (n*u.sz) 16777216&&Nat.ble n 16777216&&ps.all (fun x=>Nat.blt x.1 n))<|bif u.flat then(fillXs lk u (List.replicate n (zeroD u)) ps).bind fun xs=> .ret (.rf id,[(id,some (.row u xs .bare))])
    else needO (decide (ps.map (·.1)=List.range n))<|(listXs lk u (ps.map (·.2))).bind fun xs=>(absorb lk (ps.map (·.2))).bind fun(b,up)=> .ret (.rf id,up++[(id,some (.row u xs (bif b then .lit else .shal)))])
  |_=> .fail)
 | .load t a=>(match tyOf e t with
  |some t=>(match ρ a with
   | .ptr r n k j=>(match getSpan lk t r n k j with|some o=>o.bind v1|none=>(getAt lk t r n k j).bind v1)
   | .ro u x=>(castD t u x).bind fun x=>v1 (expand t x)
   | .rod r u x=>(castD t u x).bind fun x=>needO t.arrOK (v1 (pack t (leavesL r t x)))
   | .rb v=>needO (decide (t= .ref)&&capOK v) (v1 v)
   |_=> .fail)
  |none=> .fail)
 | .store t a x=>(match tyOf e t with
  |some u=>(match ρ a with
   | .ptr r n k j=>(setAt lk u (nilConst e t x (ρ x)) r n k j).bind fun up=> .ret (.undef,up)
   |_=> .fail)
  |none=> .fail)
 | .nilCheck x=>(match ρ x with| .ptr r n k j=>v1 (.ptr r n k j)| .ro t x=>v1 (.ro t x)| .rod r t x=>v1 (.rod r t x)| .fn f c=>v1 (.fn f c)| .rb v=>v1 (.rb v)|_=> .fail)
 | .binOp op t x y _=>(match y with
  | .const (.slice none 0 0)=>(nilCmp op (tyOf e t) (ρ x)).bind v1
  |_=>match ρ x,ρ y with
   | .ag ps,.ag qs=>(agEq lk (e.eqs.contains t) (tyOf e t) op ps qs).bind v1
   |a,b=>(binV (tyOf e t) (match y with| .const _=>true|_=>false) op a b).bind v1)
 | .unOp op _ x=>(unV op (ρ x)).bind v1
 | .convert s t x=>(match tyOf e t with
  |some (.int k')=>(match ρ x with| .sc (.int k) n=>needO (tyOf e s).isSome (v1 (wrapS k' (toI k n)))|_=> .fail)
  |some .str=>(match ρ x with
   | .sc .str z=>needO (tyOf e s).isSome (v1 (.sc .str z))
   |v=>needO (tyOf e s==some (.sl (.int .u8))) ((sliceOf lk v).bind fun⟨t,xs⟩=>(castL (.int .u8) t xs).bind fun xs=>v1 (.sc .str xs)))
  |some (.sl (.int .u8))=>(match ρ x with
   | .sc .str z=>needO (tyOf e s==some .str) (.ret (.rf id,[(id,some (.row (.int .u8) z .full))]))
   | .rf r=>(match lk r with
    |some (.row (.int .u8) xs .bare)=>needO (s==t) (guardO (decide (0<xs.length)) (.ret (.rf r,[(r,some (.row (.int .u8) xs .full))])))
    |_=> .fail)
   |_=> .fail)
  |_=> .fail)
 | .makeFunc (.func g) first caps=>(match first.toList with|[]=>needO (capOKL (caps.toList.map ρ)) (v1 (.fn g (caps.toList.map ρ)))|_=> .fail)
 | .makeSlice t n c=>(match tyOf e t with
  |some (.sl u)=>(asNat (ρ n)).bind fun n=>(asNat (ρ c)).bind fun c=>needO (Nat.blt 0 u.by) (guardO (decide (n≤c)&&roomOK c u.by) (.ret (.rf id,[(id,some (.row u (List.replicate n (zeroD u)) .full))])))
  |_=> .fail)
 | .slice t x lo hi none=>sliceV2 lk (tyOf e t) (ρ x) (lo.map ρ) (hi.map ρ)
 | .fieldAddr t x f=>(match tyOf e t with
  |some (.st u)=>(match fieldOf u f with
   |some (d,w)=>(match ρ x with
    | .ptr r n k none=>needO (lies lk r k u&&Nat.blt 0 w.sz) (v1 (.ptr r n (k+d) none))
    | .ro t' x=>needO (Nat.blt 0 w.sz) ((castD (.st u) t' x).bind fun x=>(subD w u x d).bind fun y=>v1 (.ro w y))
    | .rod r t' x=>needO (Nat.blt 0 w.sz) ((castD (.st u) t' x).bind fun x=>(subD w u x d).bind fun y=>v1 (.rod r w y))
    |_=> .fail)
   |none=> .fail)
  |_=> .fail)
 | .field t x f=>(match tyOf e t with
  |some (.st u)=>(match fieldOf u f,ρ x with
   |some (d,w),.ag ps=>needO (decide (d+w.nl≤ps.length)&&decide (ps.map szV=szT u)&&alikeL (zeroL w) ((ps.drop d).take w.nl)) (v1 (pack w ((ps.drop d).take w.nl)))
   |_,_=> .fail)
  |_=> .fail)
 | .indexAddr t x i=>(asNat (ρ i)).bind fun i=>(match tyOf e t with
  |some (.arr m u)=>(match ρ x with
   | .ptr r n k none=>needO (u.sz==1) (guardO (decide (i<m)) (v1 (.ptr r n k (some i))))
   | .ro t' xs=>(castD (.arr m u) t' xs).bind fun xs=>(nthO xs i).bind fun x=>v1 (.ro u x)
   | .rod r t' xs=>(castD (.arr m u) t' xs).bind fun xs=>(nthO xs i).bind fun x=>v1 (.rod r u x)
   |_=> .fail)
  |some (.sl u)=>(match ρ x with
   | .rf r=>(rowL lk r).bind fun⟨t,xs⟩=>needO (t==u) (guardO (decide (i<xs.length)) (v1 (.ptr r i 0 none)))
   | .sub r off m=>(rowL lk r).bind fun⟨t,_⟩=>needO (t==u) (guardO (decide (i<m)) (v1 (.ptr r (off+i) 0 none)))
   | .av r n k off m=>(placeA lk r n k).bind fun⟨t,_⟩=>needO (t==u&&t.sz==1) (guardO (decide (i<m)) (v1 (.ptr r n k (some (off+i)))))
   | .nst r n k=>(placeS lk r n k).bind fun⟨t,xs⟩=>needO (t==u) ((nthO xs i).bind fun x=>v1 (.rod r t x))
   | .lent r (.sl t) xs=>needO (t==u) ((nthO xs i).bind fun x=>v1 (.rod r t x))
   | .sc (.sl t) xs=>needO (t==u) ((nthO xs i).bind fun x=>v1 (.ro t x))
   |_=> .fail)
  |_=> .fail)
 | .index t x i=>(asNat (ρ i)).bind fun i=>(match ρ x with
  | .sc .str s=>needO (tyOf e t==some .str) ((nthO s i).bind fun c=>v1 (.sc (.int .u8) c))
  | .sc (.arr m u) xs=>needO (tyOf e t==some (.arr m u)&&u.leaf) ((nthO xs i).bind fun x=>v1 (expand u x))
  |_=> .fail)
 | .extract x i=>(match ρ x with| .tup vs=>(match vs[i]? with|some v=>v1 v|none=> .fail)|_=> .fail)
 | .call c=>(match c.callee with
  | .value f=>(match ρ f with
   | .fn g caps=>match look e.ins g with
    |some z=>insCall e z (c.args.toList.map ρ) caps id lk
    |none=>match look e.its g with
    |some it=>let vs:=c.args.toList.map ρ
     needO (vs.all notTup&&caps.isEmpty) (itS it vs lk)
    |none=>let vs:=nilArgs e ρ c.argTypes.toList c.args.toList++caps
    needO (vs.all notTup&&capOKL caps) (match pickS lk g vs e.sp with|some s=>callS s id vs lk|none=> .fail)
   |_=> .fail)
  | .builtin .len=>(match c.args.toList,c.argTypes.toList with|[x],t::_=>(lenV lk (tyOf e t) (ρ x)).bind fun n=>v1 (.sc (.int .i64) (n:Int))|_,_=> .fail)
  | .builtin .min=>needO ((c.args.toList.map ρ).all notTup) ((minmaxV false (c.args.toList.map ρ)).bind v1)
  | .builtin .max=>needO ((c.args.toList.map ρ).all notTup) ((minmaxV true (c.args.toList.map ρ)).bind v1)
  | .builtin .append=>(match c.args.toList,c.argTypes.toList with|[a,b],[t,u]=>appendV lk (tyOf e t) (tyOf e u) id (nilConst e t a (ρ a)) (nilConst e u b (ρ b))|_,_=> .fail)
  | .builtin .copy=>(match c.args.toList,c.argTypes.toList with|[a,b],[t,u]=>copyV lk (tyOf e t) (tyOf e u) (ρ a) (ρ b)|_,_=> .fail)
  |_=> .fail)
 | .sliceToArrayPointer t x=>(match tyOf e t with
  |some (.arr q u)=>(match ρ x with
   | .rf r=>(rowL lk r).bind fun⟨t',xs⟩=>needO (t'==u&&Nat.blt 0 q) (guardO (decide (q≤xs.length)) (v1 (.ptr r 0 0 none)))
   | .av r n k off len=>needO (Nat.blt 0 q) (guardO (decide (q≤len)) (v1 (.ptr r n k (some off))))
   |_=> .fail)
  |_=> .fail)
 | .makeMap t h=>needO (e.mps.contains t&&h.isNone) (.ret (.rf id,[(id,some (.mp []))]))
 | .lookup t x i c=>needO (e.mps.contains t&&!c) (match ρ x with
  | .rf r=>(match lk r with|some (.mp xs)=>(getSc (.int .i64) (ρ i)).bind fun n=>v1 (.sc .bool (xs.contains n))|_=> .fail)
  |_=> .fail)
 | .mapUpdate t m k v=>needO (e.mps.contains t) (match ρ m with
  | .rf r=>(match lk r with|some (.mp xs)=>(getSc (.int .i64) (ρ k)).bind fun n=>(getSc .bool (ρ v)).bind fun b=>guardO b (.ret (.undef,[(r,some (.mp (n::xs)))]))|_=> .fail)
  |_=> .fail)
 |_=> .fail
end Go.Vm
namespace Go.Vm
def gd{α:Type}(b:Bool)(k:Option α):Option α:=bif b then k else none
def alt{α β γ:Type}(s:β⊕γ)(k:β→Option α)(l:γ→Option α):Option α:=match s with| .inl a=>k a| .inr a=>l a
def wi(x:Int):Int:=IntKind.i64.wrap x
def wb(x:Int):UInt8:=ofI .u8 (IntKind.u8.wrap x)
def w32(x:Int):Int:=IntKind.u32.wrap x
def w64(x:Int):Int:=IntKind.u64.wrap x
def shr(x:Int)(n:Nat):Int:=x.fdiv (2^n)
def andB(b:Nat)(x y:Int):Int:=((BitVec.ofInt b x&&&BitVec.ofInt b y).toNat:Nat)
def orB(b:Nat)(x y:Int):Int:=((BitVec.ofInt b x|||BitVec.ofInt b y).toNat:Nat)
def xorB(b:Nat)(x y:Int):Int:=((BitVec.ofInt b x^^^BitVec.ofInt b y).toNat:Nat)
def chunksF{α:Type}(n:Nat):Nat→List α→List (List α)
 |0,_=>[]
 |k+1,xs=>bif xs.isEmpty then []else xs.take n::chunksF n k (xs.drop n)
def chunks{α:Type}(n:Nat)(xs:List α):List (List α):=chunksF n xs.length xs
def backsF{α:Type}(xs:List α):Nat→List (Int×α)
 |0=>[]
 |k+1=>(match xs[k]? with|some x=>[((k:Int),x)]|none=>[])++backsF xs k
def backs{α:Type}(xs:List α):List (Int×α):=backsF xs xs.length
end Go.Vm
set_option linter.unusedVariables false
set_option maxRecDepth 100000
namespace Go.Vm
def g_fo(N:Nat)(_:Unit):Option (List Int):=
 some ([1116352408,1899447441,3049323471,3921009573,961987163,1508970993,2453635748,2870763221,3624381080,310598401,607225278,1426881987,1925078388,2162078206,2614888103,3248222580,3835390401,4022224774,264347078,604807628,770255983,1249150122,1555081692,1996064986,2554220882,2821834349,2952996808,3210313671,3336571891,3584528711,113926993,338241895,666307205,773529912,1294757372,1396182291,1695183700,1986661051,2177026350,2456956037,2730485921,2820302411,3259730800,3345764771,3516065817,3600352804,4094571909,275423344,430227734,506948616,659060556,883997877,958139571,1322822218,1537002063,1747873779,1955562222,2024104815,2227730452,2361852424,2428436474,2756734187,3204031479,3329325298]:List Int)
def g_fq(N:Nat)(a0:Int)(a1:Int):Option (Int):=
 bif decide (a1<0)then none else
 bif decide ((w64 (32-a1))<0)then none else
 let v2:Int:=w32 (orB 32 (shr a0 (min a1.toNat 32)) (w32 (a0*2^(min (w64 (32-a1)).toNat 32))))
 some v2
def g_fn.l2(N:Nat):Nat→List UInt8→List Int→Int→List Int→List Int→Option (List Int×List Int)
 |0,_,_,_,_,_=>none
 |n+1,c0,c1,m2,m3,m4=>
 bif decide (m2<16)then
 gd (decide (0≤(wi (4*m2))))<|
 c0[(wi (4*m2)).toNat]?.bind fun e5=>
 gd (decide (0≤(wi ((wi (4*m2))+1))))<|
 c0[(wi ((wi (4*m2))+1)).toNat]?.bind fun e6=>
 let v7:Int:=w32 (orB 32 (w32 ((w32 (e5.toNat:Int))*2^24)) (w32 ((w32 (e6.toNat:Int))*2^16)))
 gd (decide (0≤(wi ((wi (4*m2))+2))))<|
 c0[(wi ((wi (4*m2))+2)).toNat]?.bind fun e8=>
 let v9:Int:=w32 (orB 32 v7 (w32 ((w32 (e8.toNat:Int))*2^8)))
 gd (decide (0≤(wi ((wi (4*m2))+3))))<|
 c0[(wi ((wi (4*m2))+3)).toNat]?.bind fun e10=>
 gd (decide (0≤m2))<|
 gd (decide (m2.toNat<m4.length))<|
 m4[m2.toNat]?.bind fun _=>
 let v11:List Int:=m4.set m2.toNat (w32 (orB 32 v9 (w32 (e10.toNat:Int))))
 (g_fn.l2 N n c0 c1 (wi (m2+1)) m3 v11).bind some
 else
 some (m3,m4)
def g_fn.l6(N:Nat):Nat→List Int→Int→List Int→List Int→Option (List Int×List Int)
 |0,_,_,_,_=>none
 |n+1,c0,m1,m2,m3=>
 bif decide (m1<64)then
 gd (decide (0≤(wi (m1-15))))<|
 gd (decide ((wi (m1-15)).toNat<m3.length))<|
 m3[(wi (m1-15)).toNat]?.bind fun e4=>
 gd (decide (0≤(wi (m1-2))))<|
 gd (decide ((wi (m1-2)).toNat<m3.length))<|
 m3[(wi (m1-2)).toNat]?.bind fun e5=>
 gd (decide (0≤(wi (m1-16))))<|
 gd (decide ((wi (m1-16)).toNat<m3.length))<|
 m3[(wi (m1-16)).toNat]?.bind fun e6=>
 (g_fq N e4 7).bind fun r7=>
 (g_fq N e4 18).bind fun r8=>
 let v9:Int:=w32 (xorB 32 (w32 (xorB 32 r7 r8)) (shr e4 3))
 gd (decide (0≤(wi (m1-7))))<|
 gd (decide ((wi (m1-7)).toNat<m3.length))<|
 m3[(wi (m1-7)).toNat]?.bind fun e10=>
 (g_fq N e5 17).bind fun r11=>
 (g_fq N e5 19).bind fun r12=>
 let v13:Int:=w32 (xorB 32 (w32 (xorB 32 r11 r12)) (shr e5 10))
 let v14:Int:=w32 ((w32 ((w32 (e6+v9))+e10))+v13)
 gd (decide (0≤m1))<|
 gd (decide (m1.toNat<m3.length))<|
 m3[m1.toNat]?.bind fun _=>
 (g_fn.l6 N n c0 (wi (m1+1)) m2 (m3.set m1.toNat v14)).bind some
 else
 some (m2,m3)
def g_fn.l13(N:Nat):Nat→List Int→Int→List Int→List Int→List Int→Option (List Int×List Int)
 |0,_,_,_,_,_=>none
 |n+1,c0,m1,m2,m3,m4=>
 bif decide (m1<64)then
 gd (decide (4<m4.length))<|
 m4[4]?.bind fun e5=>
 gd (decide (0<m4.length))<|
 m4[0]?.bind fun e6=>
 gd (decide (7<m4.length))<|
 m4[7]?.bind fun e7=>
 (g_fq N e5 6).bind fun r8=>
 (g_fq N e5 11).bind fun r9=>
 (g_fq N e5 25).bind fun r10=>
 let v11:Int:=w32 (e7+(w32 (xorB 32 (w32 (xorB 32 r8 r9)) r10)))
 gd (decide (5<m4.length))<|
 m4[5]?.bind fun e12=>
 gd (decide (6<m4.length))<|
 m4[6]?.bind fun e13=>
 let v14:Int:=w32 (xorB 32 (w32 (andB 32 e5 e12)) (w32 (andB 32 (w32 (xorB 32 4294967295 e5)) e13)))
 gd (decide (0≤m1))<|
 c0[m1.toNat]?.bind fun e15=>
 gd (decide (0≤m1))<|
 gd (decide (m1.toNat<m3.length))<|
 m3[m1.toNat]?.bind fun e16=>
 let v17:Int:=w32 ((w32 ((w32 (v11+v14))+e15))+e16)
 (g_fq N e6 2).bind fun r18=>
 (g_fq N e6 13).bind fun r19=>
 (g_fq N e6 22).bind fun r20=>
 gd (decide (1<m4.length))<|
 m4[1]?.bind fun e21=>
 gd (decide (2<m4.length))<|
 m4[2]?.bind fun e22=>
 let v23:Int:=w32 (xorB 32 (w32 (andB 32 e6 e21)) (w32 (andB 32 e6 e22)))
 gd (decide (1<m4.length))<|
 m4[1]?.bind fun e24=>
 gd (decide (2<m4.length))<|
 m4[2]?.bind fun e25=>
 let v26:Int:=w32 ((w32 (xorB 32 (w32 (xorB 32 r18 r19)) r20))+(w32 (xorB 32 v23 (w32 (andB 32 e24 e25)))))
 gd (decide (0<m4.length))<|
 m4[0]?.bind fun e27=>
 gd (decide (1<m4.length))<|
 m4[1]?.bind fun e28=>
 gd (decide (2<m4.length))<|
 m4[2]?.bind fun e29=>
 gd (decide (3<m4.length))<|
 m4[3]?.bind fun e30=>
 gd (decide (4<m4.length))<|
 m4[4]?.bind fun e31=>
 gd (decide (5<m4.length))<|
 m4[5]?.bind fun e32=>
 gd (decide (6<m4.length))<|
 m4[6]?.bind fun e33=>
 let v34:List Int:=([w32 (v17+v26),e27,e28,e29,w32 (e30+v17),e31,e32,e33]:List Int)
 (g_fn.l13 N n c0 (wi (m1+1)) m2 m3 v34).bind some
 else
 some (m2,m4)
def g_fn.l21(N:Nat):Nat→Int→List Int→List Int→Option (List Int)
 |0,_,_,_=>none
 |n+1,m0,m1,m2=>
 bif decide (m0<8)then
 gd (decide (0≤m0))<|
 gd (decide (m0.toNat<m1.length))<|
 m1[m0.toNat]?.bind fun e3=>
 gd (decide (0≤m0))<|
 gd (decide (m0.toNat<m2.length))<|
 m2[m0.toNat]?.bind fun e4=>
 gd (decide (0≤m0))<|
 gd (decide (m0.toNat<m1.length))<|
 m1[m0.toNat]?.bind fun _=>
 let v5:List Int:=m1.set m0.toNat (w32 (e3+e4))
 (g_fn.l21 N n (wi (m0+1)) v5 m2).bind some
 else
 some m1
def g_fn(N:Nat)(a0:List Int)(a1:List UInt8)(a2:List Int):Option (List Int):=
 (g_fn.l2 N N a1 a2 0 a0 (List.replicate 64 0)).bind fun r3=>
 (g_fn.l6 N N a2 16 r3.1 r3.2).bind fun r4=>
 gd (roomOK (0+r4.1.length) 8)<|
 (g_fn.l13 N N a2 0 r4.1 r4.2 ([]++r4.1)).bind fun r5=>
 (g_fn.l21 N N 0 r5.1 r5.2).bind fun r6=>
 some r6
def g_fp.l3(N:Nat):Nat→List UInt8→List Int→List UInt8→Option (List Int×List UInt8)
 |0,_,_,_=>none
 |n+1,c0,m1,m2=>
 bif ((m2.length:Int).tmod 64) !=56 then
 gd (roomOK (m2.length+1) 1)<|
 (g_fp.l3 N n c0 m1 (m2++([0]:List UInt8))).bind some
 else
 some (m1,m2)
def g_fp.l6(N:Nat):Nat→List UInt8→Int→List Int→List UInt8→Option (List Int×List UInt8)
 |0,_,_,_,_=>none
 |n+1,c0,m1,m2,m3=>
 bif decide (m1≥0)then
 bif decide ((w64 (wi (8*m1)))<0)then none else
 let v4:Int:=shr (wi (8*(c0.length:Int))) (min (w64 (wi (8*m1))).toNat 64)
 gd (roomOK (m3.length+([wb v4]:List UInt8).length) 1)<|
 (g_fp.l6 N n c0 (wi (m1-1)) m2 (m3++([wb v4]:List UInt8))).bind some
 else
 some (m2,m3)
def g_fp.l11(N:Nat):Nat→Int→List Int→List UInt8→List Int→Option (List Int)
 |0,_,_,_,_=>none
 |n+1,m0,m1,m2,m3=>
 bif decide (m0<(m2.length:Int))then
 gd (decide (0≤(wi (m0+64))))<|
 gd (decide (0≤m0))<|
 gd ((decide (m0.toNat≤(wi (m0+64)).toNat))&&(decide ((wi (m0+64)).toNat≤m2.length)))<|
 let v4:Nat:=(wi (m0+64)).toNat-m0.toNat
 (g_fn N m1 ((m2.drop m0.toNat).take v4) m3).bind fun r5=>
 (g_fp.l11 N n (wi (m0+64)) r5 m2 m3).bind some
 else
 some m1
def g_fp.l16(N:Nat):Nat→Int→List Int→List UInt8→Option (List UInt8)
 |0,_,_,_=>none
 |n+1,m0,m1,m2=>
 bif decide (m0<8)then
 gd (decide (0≤m0))<|
 gd (decide (m0.toNat<m1.length))<|
 m1[m0.toNat]?.bind fun e3=>
 gd (decide (0≤m0))<|
 gd (decide (m0.toNat<m1.length))<|
 m1[m0.toNat]?.bind fun e4=>
 gd (decide (0≤m0))<|
 gd (decide (m0.toNat<m1.length))<|
 m1[m0.toNat]?.bind fun e5=>
 gd (decide (0≤m0))<|
 gd (decide (m0.toNat<m1.length))<|
 m1[m0.toNat]?.bind fun e6=>
 let v7:List UInt8:=([wb (shr e3 24),wb (shr e4 16),wb (shr e5 8),wb e6]:List UInt8)
 gd (roomOK (m2.length+v7.length) 1)<|
 (g_fp.l16 N n (wi (m0+1)) m1 (m2++v7)).bind some
 else
 some m2
def g_fp(N:Nat)(a0:List UInt8):Option (List UInt8):=
 gd (roomOK (0+a0.length) 1)<|
 gd (roomOK ((([]:List UInt8)++a0).length+1) 1)<|
 (g_fp.l3 N N a0 ([1779033703,3144134277,1013904242,2773480762,1359893119,2600822924,528734635,1541459225]:List Int) ((([]:List UInt8)++a0)++([128]:List UInt8))).bind fun r1=>
 (g_fp.l6 N N a0 7 r1.1 r1.2).bind fun r2=>
 (g_fo N ()).bind fun r3=>
 (g_fp.l11 N N 0 r2.1 r2.2 r3).bind fun r4=>
 (g_fp.l16 N N 0 r4 ([]:List UInt8)).bind fun r5=>
 some r5
def g_fd(N:Nat)(_:Unit):Option (List UInt8):=
 (g_fp N ([107,101,121]:List UInt8)).bind fun r0=>
 some r0
def g_co(N:Nat)(a0:List UInt8):Option (Bool):=
 some (decide ((a0.length:Int)>65536))
def g_fb.l2(N:Nat):Nat→List (List UInt8)→Int→Int→Option (Int⊕Unit)
 |0,_,_,_=>none
 |n+1,c0,c1,m2=>
 bif decide (m2<c1)then
 gd (decide (0≤m2))<|
 c0[m2.toNat]?.bind fun e3=>
 (g_co N e3).bind fun r4=>
 bif r4 then
 some (Sum.inl m2)
 else
 (g_fb.l2 N n c0 c1 (wi (m2+1))).bind some
 else
 some (Sum.inr ())
def g_fb(N:Nat)(a0:List (List UInt8)):Option (Int):=
 (g_fb.l2 N N a0 (a0.length:Int) 0).bind fun r1=>
 alt r1 (fun y2=>
 some y2) fun _=>
 some (-1)
def g_eu(N:Nat)(a0:List (List UInt8)):Option (Bool):=
 (g_fb N a0).bind fun r1=>
 some (decide (r1≥0))
def g_cn(N:Nat)(a0:List (List UInt8)):Option (Bool):=
 (g_eu N a0).bind fun r1=>
 some r1
def g_dw(N:Nat)(a0:Int)(a1:Int)(a2:Int):Option (Bool):=
 bif decide (a1≤a0)then
 some (decide (a0≤a2))
 else
 some false
def g_cf(N:Nat)(a0:List UInt8)(a1:Int):Option (Int):=
 (g_cn N ([a0]:List (List UInt8))).bind fun r2=>
 bif r2 then
 some 2
 else
 bif (a0.length:Int) !=32 then
 some 1
 else
 (g_dw N a1 4 64).bind fun r3=>
 bif !r3 then
 some 4
 else
 some 0
def g_ct(N:Nat)(a0:Int):Option (List (List UInt8)×List (Int×List UInt8)×List (List UInt8)):=
 gd (decide (0≤a0))<|
 gd (decide (0≤a0))<|
 gd ((decide (a0.toNat≤a0.toNat))&&(roomOK a0.toNat 16))<|
 some (List.replicate a0.toNat ([]:List UInt8),[],[])
def g_br.l3(N:Nat):Nat→Int→Int→List UInt8→Option (List UInt8)
 |0,_,_,_=>none
 |n+1,m0,m1,m2=>
 bif decide (m1≥0)then
 gd (decide (0≤m1))<|
 gd (decide (m1.toNat<m2.length))<|
 m2[m1.toNat]?.bind fun _=>
 (g_br.l3 N n (shr m0 8) (wi (m1-1)) (m2.set m1.toNat (wb m0))).bind some
 else
 some m2
def g_br(N:Nat)(a0:Int)(a1:Int):Option (List UInt8):=
 gd (decide (0≤a1))<|
 gd (decide (0≤a1))<|
 gd ((decide (a1.toNat≤a1.toNat))&&(roomOK a1.toNat 1))<|
 (g_br.l3 N N a0 (wi (a1-1)) (List.replicate a1.toNat 0)).bind fun r2=>
 some r2
def g_cd(N:Nat)(a0:Bool):Option (Int):=
 bif a0 then
 some 1
 else
 some 0
def g_ca.l3(N:Nat):Nat→List (List UInt8×Bool×List UInt8)→Int→List UInt8→Int→Option (List UInt8)
 |0,_,_,_,_=>none
 |n+1,c0,c1,m2,m3=>
 bif decide (m3<c1)then
 gd (decide (0≤m3))<|
 c0[m3.toNat]?.bind fun e4=>
 (g_br N (e4.1.length:Int) 1).bind fun r5=>
 gd (decide (r5.length+e4.1.length≤9223372036854775807))<|
 (g_cd N e4.2.1).bind fun r6=>
 (g_br N r6 1).bind fun r7=>
 gd (decide ((r5++e4.1).length+r7.length≤9223372036854775807))<|
 (g_br N (e4.2.2.length:Int) 2).bind fun r8=>
 gd (decide (((r5++e4.1)++r7).length+r8.length≤9223372036854775807))<|
 gd (decide ((((r5++e4.1)++r7)++r8).length+e4.2.2.length≤9223372036854775807))<|
 let v9:List UInt8:=(((r5++e4.1)++r7)++r8)++e4.2.2
 gd (decide (m2.length+v9.length≤9223372036854775807))<|
 (g_ca.l3 N n c0 c1 (m2++v9) (wi (m3+1))).bind some
 else
 some m2
def g_ca(N:Nat)(a0:List (List UInt8×Bool×List UInt8)):Option (List UInt8):=
 (g_br N (a0.length:Int) 1).bind fun r1=>
 (g_ca.l3 N N a0 (a0.length:Int) r1 0).bind fun r2=>
 some r2
def g_ap.g2(N:Nat):List (Int×Int×List UInt8)→List (List UInt8)→List (Int×List UInt8)→List (List UInt8)→Int→List UInt8→Option ((List (List UInt8)×List (Int×List UInt8)×List (List UInt8)×Int×List UInt8)⊕(List UInt8))
 |[],m0,m1,m2,m3,m4=>
 some (Sum.inl (m0,m1,m2,m3,m4))
 |y5::ys,m0,m1,m2,m3,m4=>
 bif y5.2.1==m3 then
 some (Sum.inr y5.2.2)
 else
 (g_ap.g2 N ys m0 m1 m2 m3 m4).bind some
def g_ap(N:Nat)(a0:List (List UInt8)×List (Int×List UInt8)×List (List UInt8))(a1:Int):Option (List UInt8):=
 (g_ap.g2 N (backs a0.2.1) a0.1 a0.2.1 a0.2.2 a1 ([]:List UInt8)).bind fun r2=>
 alt r2 (fun y3=>
 gd (decide (0≤y3.2.2.2.1))<|
 y3.1[y3.2.2.2.1.toNat]?.bind fun e4=>
 some e4) fun z5=>
 some z5
def g_df(N:Nat)(a0:List UInt8×Bool)(a1:Int):Option ((List UInt8×Bool)×List UInt8):=
 bif decide (a1>(a0.1.length:Int))then
 some ((a0.1,true),([]:List UInt8))
 else
 gd (decide (0≤a1))<|
 gd ((decide (0≤a1.toNat))&&(decide (a1.toNat≤a0.1.length)))<|
 gd (decide (0≤a1))<|
 gd ((decide (a1.toNat≤a0.1.length))&&(decide (a0.1.length≤a0.1.length)))<|
 some (((a0.1.take a0.1.length).drop a1.toNat,a0.2),(a0.1.take a1.toNat).drop 0)
def g_de.l3(N:Nat):Nat→Int→Int→Int→List UInt8→Bool→List UInt8→Option (Int×List UInt8×Bool)
 |0,_,_,_,_,_,_=>none
 |n+1,c0,m1,m2,m3,m4,m5=>
 bif decide (m2<c0)then
 gd (decide (0≤m2))<|
 gd (decide (m2.toNat<m5.length))<|
 m5[m2.toNat]?.bind fun e6=>
 let v7:Int:=wi (orB 64 (wi (m1*2^8)) (wi (e6.toNat:Int)))
 (g_de.l3 N n c0 v7 (wi (m2+1)) m3 m4 m5).bind some
 else
 some (m1,m3,m4)
def g_de(N:Nat)(a0:List UInt8×Bool)(a1:Int):Option ((List UInt8×Bool)×Int):=
 (g_df N a0 a1).bind fun r2=>
 (g_de.l3 N N (r2.2.length:Int) 0 0 r2.1.1 r2.1.2 r2.2).bind fun r3=>
 some (r3.2,r3.1)
def g_dm(N:Nat)(a0:Int)(a1:Int):Option (List UInt8):=
 (g_br N 0 4).bind fun r2=>
 (g_br N a0 4).bind fun r3=>
 gd (decide (r2.length+r3.length≤9223372036854775807))<|
 (g_br N a1 4).bind fun r4=>
 gd (decide ((r2++r3).length+r4.length≤9223372036854775807))<|
 some ((r2++r3)++r4)
def g_di(N:Nat)(_:Unit):Option (List Int):=
 some ([1116352408,1899447441,3049323471,3921009573,961987163,1508970993,2453635748,2870763221,3624381080,310598401,607225278,1426881987,1925078388,2162078206,2614888103,3248222580,3835390401,4022224774,264347078,604807628,770255983,1249150122,1555081692,1996064986,2554220882,2821834349,2952996808,3210313671,3336571891,3584528711,113926993,338241895,666307205,773529912,1294757372,1396182291,1695183700,1986661051,2177026350,2456956037,2730485921,2820302411,3259730800,3345764771,3516065817,3600352804,4094571909,275423344,430227734,506948616,659060556,883997877,958139571,1322822218,1537002063,1747873779,1955562222,2024104815,2227730452,2361852424,2428436474,2756734187,3204031479,3329325298]:List Int)
def g_ef(N:Nat)(a0:Int)(a1:Int):Option (Int):=
 bif decide ((w64 (andB 64 (w64 a1) 31))<0)then none else
 let v2:Int:=w32 (a0*2^(min (w64 (andB 64 (w64 a1) 31)).toNat 32))
 let v3:Int:=w64 (32-(w64 (andB 64 (w64 a1) 31)))
 bif decide (v3<0)then none else
 some (w32 (orB 32 v2 (shr a0 (min v3.toNat 32))))
def g_dg(N:Nat)(a0:Int)(a1:Int):Option (Int):=
 (g_ef N a0 (wi (0-a1))).bind fun r2=>
 some r2
def g_dj.l7(N:Nat):Nat→List UInt8→Int→Int→List UInt8→Int→Int→List Int→List Int→Option (List Int×List Int)
 |0,_,_,_,_,_,_,_,_=>none
 |n+1,c0,c1,c2,c3,c4,m5,m6,m7=>
 bif decide (m5<c4)then
 gd (decide (0≤m5))<|
 c3[m5.toNat]?.bind fun e8=>
 gd (decide (0≤c1))<|
 gd (decide (c1.toNat<64))<|
 m7[c1.toNat]?.bind fun e9=>
 let v10:Int:=w32 (orB 32 (w32 (e9*2^8)) (w32 (e8.toNat:Int)))
 gd (decide (0≤c1))<|
 gd (decide (c1.toNat<64))<|
 m7[c1.toNat]?.bind fun _=>
 (g_dj.l7 N n c0 c1 c2 c3 c4 (wi (m5+1)) m6 (m7.set c1.toNat v10)).bind some
 else
 some (m6,m7)
def g_dj.l3(N:Nat):Nat→List UInt8→Int→List Int→List Int→Option (List Int×List Int)
 |0,_,_,_,_=>none
 |n+1,c0,m1,m2,m3=>
 bif decide (m1<64)then
 bif decide (m1<16)then
 gd (decide (0≤(wi ((wi (m1+1))*4))))<|
 gd (decide (0≤(wi (m1*4))))<|
 gd ((decide ((wi (m1*4)).toNat≤(wi ((wi (m1+1))*4)).toNat))&&(decide ((wi ((wi (m1+1))*4)).toNat≤c0.length)))<|
 let v4:List UInt8:=(c0.take (wi ((wi (m1+1))*4)).toNat).drop (wi (m1*4)).toNat
 (g_dj.l7 N N c0 m1 m1 v4 (v4.length:Int) 0 m2 m3).bind fun r5=>
 (g_dj.l3 N n c0 (wi (m1+1)) r5.1 r5.2).bind some
 else
 gd (decide (0≤(wi (m1-15))))<|
 gd (decide ((wi (m1-15)).toNat<64))<|
 m3[(wi (m1-15)).toNat]?.bind fun e6=>
 gd (decide (0≤(wi (m1-2))))<|
 gd (decide ((wi (m1-2)).toNat<64))<|
 m3[(wi (m1-2)).toNat]?.bind fun e7=>
 (g_dg N e6 7).bind fun r8=>
 (g_dg N e6 18).bind fun r9=>
 let v10:Int:=w32 (xorB 32 (w32 (xorB 32 r8 r9)) (shr e6 3))
 (g_dg N e7 17).bind fun r11=>
 (g_dg N e7 19).bind fun r12=>
 let v13:Int:=w32 (xorB 32 (w32 (xorB 32 r11 r12)) (shr e7 10))
 gd (decide (0≤(wi (m1-16))))<|
 gd (decide ((wi (m1-16)).toNat<64))<|
 m3[(wi (m1-16)).toNat]?.bind fun e14=>
 gd (decide (0≤(wi (m1-7))))<|
 gd (decide ((wi (m1-7)).toNat<64))<|
 m3[(wi (m1-7)).toNat]?.bind fun e15=>
 let v16:Int:=w32 ((w32 ((w32 (e14+v10))+e15))+v13)
 gd (decide (0≤m1))<|
 gd (decide (m1.toNat<64))<|
 m3[m1.toNat]?.bind fun _=>
 (g_dj.l3 N n c0 (wi (m1+1)) m2 (m3.set m1.toNat v16)).bind some
 else
 some (m2,m3)
def g_dj(N:Nat)(a0:List UInt8):Option (List Int):=
 (g_dj.l3 N N a0 0 (List.replicate 64 0) (List.replicate 64 0)).bind fun r1=>
 some r1.2
def g_dt.l3(N:Nat):Nat→Int→List Int→List Int→List Int→List Int→List Int→Option (List Int×List Int×List Int)
 |0,_,_,_,_,_,_=>none
 |n+1,m0,m1,m2,m3,m4,m5=>
 bif decide (m0<64)then
 m5[0]?.bind fun e6=>
 m5[4]?.bind fun e7=>
 m5[7]?.bind fun e8=>
 (g_dg N e7 6).bind fun r9=>
 (g_dg N e7 11).bind fun r10=>
 (g_dg N e7 25).bind fun r11=>
 let v12:Int:=w32 (e8+(w32 (xorB 32 (w32 (xorB 32 r9 r10)) r11)))
 m5[5]?.bind fun e13=>
 m5[6]?.bind fun e14=>
 let v15:Int:=w32 (xorB 32 (w32 (andB 32 e7 e13)) (w32 (andB 32 (w32 (xorB 32 4294967295 e7)) e14)))
 gd (decide (0≤m0))<|
 gd (decide (m0.toNat<64))<|
 m2[m0.toNat]?.bind fun e16=>
 gd (decide (0≤m0))<|
 gd (decide (m0.toNat<64))<|
 m3[m0.toNat]?.bind fun e17=>
 let v18:Int:=w32 ((w32 ((w32 (v12+v15))+e16))+e17)
 (g_dg N e6 2).bind fun r19=>
 (g_dg N e6 13).bind fun r20=>
 (g_dg N e6 22).bind fun r21=>
 m5[1]?.bind fun e22=>
 m5[2]?.bind fun e23=>
 let v24:Int:=w32 (xorB 32 (w32 (andB 32 e6 e22)) (w32 (andB 32 e6 e23)))
 m5[1]?.bind fun e25=>
 m5[2]?.bind fun e26=>
 let v27:Int:=w32 ((w32 (xorB 32 (w32 (xorB 32 r19 r20)) r21))+(w32 (xorB 32 v24 (w32 (andB 32 e25 e26)))))
 m5[1]?.bind fun e28=>
 m5[2]?.bind fun e29=>
 m5[3]?.bind fun e30=>
 m5[5]?.bind fun e31=>
 m5[6]?.bind fun e32=>
 let v33:List Int:=([w32 (v18+v27),e6,e28,e29,w32 (e30+v18),e7,e31,e32]:List Int)
 (g_dt.l3 N n (wi (m0+1)) m1 m2 m3 m4 v33).bind some
 else
 some (m1,m4,m5)
def g_dt.l11(N:Nat):Nat→Int→List Int→List Int→List Int→Option (List Int×List Int)
 |0,_,_,_,_=>none
 |n+1,m0,m1,m2,m3=>
 bif decide (m0<8)then
 gd (decide (0≤m0))<|
 gd (decide (m0.toNat<8))<|
 m1[m0.toNat]?.bind fun e4=>
 gd (decide (0≤m0))<|
 gd (decide (m0.toNat<8))<|
 m3[m0.toNat]?.bind fun e5=>
 gd (decide (0≤m0))<|
 gd (decide (m0.toNat<8))<|
 m1[m0.toNat]?.bind fun _=>
 let v6:List Int:=m1.set m0.toNat (w32 (e4+e5))
 (g_dt.l11 N n (wi (m0+1)) v6 m2 m3).bind some
 else
 some (m1,m2)
def g_dt(N:Nat)(a0:List Int)(a1:List Int)(a2:List Int):Option (List Int):=
 (g_dt.l3 N N 0 a0 a1 a2 (List.replicate 8 0) a0).bind fun r3=>
 (g_dt.l11 N N 0 r3.1 r3.2.1 r3.2.2).bind fun r4=>
 some r4.1
def g_cg.l3(N:Nat):Nat→List UInt8→List UInt8→Option (List UInt8)
 |0,_,_=>none
 |n+1,c0,m1=>
 bif ((m1.length:Int).tmod 64) !=56 then
 gd (roomOK (m1.length+1) 1)<|
 (g_cg.l3 N n c0 (m1++([0]:List UInt8))).bind some
 else
 some m1
def g_cg.g9(N:Nat):List (List UInt8)→List Int→List Int→Option (List Int)
 |[],m0,m1=>
 some m0
 |y2::ys,m0,m1=>
 (g_dj N y2).bind fun r3=>
 (g_dt N m0 m1 r3).bind fun r4=>
 (g_cg.g9 N ys r4 m1).bind some
def g_cg.l13(N:Nat):Nat→List Int→List UInt8→Int→Option (List UInt8)
 |0,_,_,_=>none
 |n+1,c0,m1,m2=>
 bif decide (m2<8)then
 gd (decide (0≤m2))<|
 c0[m2.toNat]?.bind fun e3=>
 (g_br N (wi e3) 4).bind fun r4=>
 gd (decide (m1.length+r4.length≤9223372036854775807))<|
 (g_cg.l13 N n c0 (m1++r4) (wi (m2+1))).bind some
 else
 some m1
def g_cg(N:Nat)(a0:List UInt8):Option (List UInt8):=
 gd (roomOK (a0.length+1) 1)<|
 (g_cg.l3 N N a0 (a0++([128]:List UInt8))).bind fun r1=>
 (g_br N (wi (8*(a0.length:Int))) 8).bind fun r2=>
 gd (roomOK (r1.length+r2.length) 1)<|
 (g_di N ()).bind fun r3=>
 gd (decide ((r1++r2).length≤4611686018427387904))<|
 (g_cg.g9 N (chunks (64:Int).toNat (r1++r2)) ([1779033703,3144134277,1013904242,2773480762,1359893119,2600822924,528734635,1541459225]:List Int) r3).bind fun r4=>
 (g_cg.l13 N N r4 ([]:List UInt8) 0).bind fun r5=>
 some r5
def g_cs.l4(N:Nat):Nat→UInt8→Int→Int→List UInt8→Option (List UInt8)
 |0,_,_,_,_=>none
 |n+1,c0,c1,m2,m3=>
 bif decide (m2<c1)then
 gd (decide (0≤m2))<|
 gd (decide (m2.toNat<m3.length))<|
 m3[m2.toNat]?.bind fun e4=>
 gd (decide (0≤m2))<|
 gd (decide (m2.toNat<m3.length))<|
 m3[m2.toNat]?.bind fun _=>
 let v5:List UInt8:=m3.set m2.toNat (wb (xorB 8 (e4.toNat:Int) (c0.toNat:Int)))
 (g_cs.l4 N n c0 c1 (wi (m2+1)) v5).bind some
 else
 some m3
def g_cs(N:Nat)(a0:List UInt8)(a1:UInt8):Option (List UInt8):=
 let v2:List UInt8:=spliceL (List.replicate 64 0) a0 0 (min a0.length (List.replicate 64 0).length)
 (g_cs.l4 N N a1 (v2.length:Int) 0 v2).bind fun r3=>
 some r3
def g_ch(N:Nat)(a0:List UInt8)(a1:List UInt8):Option (List UInt8):=
 bif decide ((a0.length:Int)>64)then
 (g_cg N a0).bind fun r2=>
 (g_cs N r2 92).bind fun r3=>
 (g_cs N r2 54).bind fun r4=>
 gd (decide (r4.length+a1.length≤9223372036854775807))<|
 (g_cg N (r4++a1)).bind fun r5=>
 gd (decide (r3.length+r5.length≤9223372036854775807))<|
 (g_cg N (r3++r5)).bind fun r6=>
 some r6
 else
 (g_cs N a0 92).bind fun r7=>
 (g_cs N a0 54).bind fun r8=>
 gd (decide (r8.length+a1.length≤9223372036854775807))<|
 (g_cg N (r8++a1)).bind fun r9=>
 gd (decide (r7.length+r9.length≤9223372036854775807))<|
 (g_cg N (r7++r9)).bind fun r10=>
 some r10
def g_by.l3(N:Nat):Nat→List UInt8→List UInt8→Int→List UInt8→List UInt8→Int→Option (List UInt8)
 |0,_,_,_,_,_,_=>none
 |n+1,c0,c1,c2,m3,m4,m5=>
 bif decide ((m3.length:Int)<c2)then
 gd (decide (m4.length+c1.length≤9223372036854775807))<|
 (g_br N m5 1).bind fun r6=>
 gd (decide ((m4++c1).length+r6.length≤9223372036854775807))<|
 (g_ch N c0 ((m4++c1)++r6)).bind fun r7=>
 gd (decide (m3.length+r7.length≤9223372036854775807))<|
 (g_by.l3 N n c0 c1 c2 (m3++r7) r7 (wi (m5+1))).bind some
 else
 some m3
def g_by(N:Nat)(a0:List UInt8)(a1:List UInt8)(a2:Int):Option (List UInt8):=
 (g_by.l3 N N a0 a1 a2 ([]:List UInt8) ([]:List UInt8) 1).bind fun r3=>
 gd (decide (0≤a2))<|
 gd ((decide (0≤a2.toNat))&&(decide (a2.toNat≤r3.length)))<|
 some ((r3.take a2.toNat).drop 0)
def g_dl(N:Nat)(a0:List UInt8):Option (List UInt8×List UInt8):=
 (g_ch N ([115,101,97,108]:List UInt8) a0).bind fun r1=>
 (g_by N r1 ([107,101,121,115]:List UInt8) 64).bind fun r2=>
 gd (true&&(decide (32≤r2.length)))<|
 gd ((decide (32≤r2.length))&&(decide (r2.length≤r2.length)))<|
 some ((r2.take 32).drop 0,(r2.take r2.length).drop 32)
def g_dr(N:Nat)(a0:List UInt8)(a1:List UInt8)(a2:List UInt8)(a3:List UInt8):Option (List UInt8):=
 (g_br N (a2.length:Int) 4).bind fun r4=>
 gd (decide (a1.length+r4.length≤9223372036854775807))<|
 gd (decide ((a1++r4).length+a2.length≤9223372036854775807))<|
 gd (decide (((a1++r4)++a2).length+a3.length≤9223372036854775807))<|
 (g_ch N a0 (((a1++r4)++a2)++a3)).bind fun r5=>
 gd (true&&(decide (16≤r5.length)))<|
 some ((r5.take 16).drop 0)
def g_ds.l2(N:Nat):Nat→UInt8→Int→Int→Option (Int)
 |0,_,_,_=>none
 |n+1,m0,m1,m2=>
 bif decide ((m0.toNat:Int)>0)then
 let v3:Bool:=((wb (andB 8 (m0.toNat:Int) 1)).toNat:Int)==1
 bif v3 then
 bif decide ((wi (m2*2^1))>255)then
 (g_ds.l2 N n (ofI .u8 (shr (m0.toNat:Int) 1)) (wi (xorB 64 m1 m2)) (wi (xorB 64 (wi (m2*2^1)) 283))).bind some
 else
 (g_ds.l2 N n (ofI .u8 (shr (m0.toNat:Int) 1)) (wi (xorB 64 m1 m2)) (wi (m2*2^1))).bind some
 else
 bif decide ((wi (m2*2^1))>255)then
 (g_ds.l2 N n (ofI .u8 (shr (m0.toNat:Int) 1)) m1 (wi (xorB 64 (wi (m2*2^1)) 283))).bind some
 else
 (g_ds.l2 N n (ofI .u8 (shr (m0.toNat:Int) 1)) m1 (wi (m2*2^1))).bind some
 else
 some m1
def g_ds(N:Nat)(a0:UInt8)(a1:UInt8):Option (UInt8):=
 (g_ds.l2 N N a1 0 (wi (a0.toNat:Int))).bind fun r2=>
 some (wb r2)
def g_ci.l3(N:Nat):Nat→UInt8→UInt8→Int→Option (UInt8)
 |0,_,_,_=>none
 |n+1,m0,m1,m2=>
 bif decide (m2<7)then
 (g_ds N m1 m1).bind fun r3=>
 (g_ds N m0 r3).bind fun r4=>
 (g_ci.l3 N n r4 r3 (wi (m2+1))).bind some
 else
 some m0
def g_ci(N:Nat)(a0:UInt8):Option (UInt8):=
 (g_ci.l3 N N 1 a0 0).bind fun r1=>
 some r1
def g_eg(N:Nat)(a0:UInt8)(a1:Int):Option (UInt8):=
 bif decide ((w64 (andB 64 (w64 a1) 7))<0)then none else
 let v2:UInt8:=wb ((a0.toNat:Int)*2^(min (w64 (andB 64 (w64 a1) 7)).toNat 8))
 let v3:Int:=w64 (8-(w64 (andB 64 (w64 a1) 7)))
 bif decide (v3<0)then none else
 let v4:UInt8:=wb (orB 8 (v2.toNat:Int) ((ofI .u8 (shr (a0.toNat:Int) (min v3.toNat 8))).toNat:Int))
 some v4
def g_dp(N:Nat)(a0:UInt8):Option (UInt8):=
 (g_ci N a0).bind fun r1=>
 (g_eg N r1 1).bind fun r2=>
 (g_eg N r1 2).bind fun r3=>
 let v4:UInt8:=wb (xorB 8 ((wb (xorB 8 (r1.toNat:Int) (r2.toNat:Int))).toNat:Int) (r3.toNat:Int))
 (g_eg N r1 3).bind fun r5=>
 (g_eg N r1 4).bind fun r6=>
 let v7:UInt8:=wb (xorB 8 ((wb (xorB 8 (v4.toNat:Int) (r5.toNat:Int))).toNat:Int) (r6.toNat:Int))
 some (wb (xorB 8 (v7.toNat:Int) 99))
def g_bs.l23(N:Nat):Nat→List UInt8→Int→UInt8→Int→Int→Int→Int→List UInt8→List UInt8→List (List UInt8)→List UInt8→Option (List UInt8×List UInt8×List (List UInt8))
 |0,_,_,_,_,_,_,_,_,_,_,_=>none
 |n+1,c0,c1,c2,c3,c4,c5,m6,m7,m8,m9,m10=>
 bif decide (m6<4)then
 gd (decide (0≤(wi (c3-c1))))<|
 gd (decide ((wi (c3-c1)).toNat<m9.length))<|
 gd (decide (0≤m6))<|
 gd (decide (m6.toNat<4))<|
 m9[(wi (c3-c1)).toNat]?.bind fun e11=>
 e11[m6.toNat]?.bind fun e12=>
 gd (decide (0≤m6))<|
 gd (decide (m6.toNat<4))<|
 m10[m6.toNat]?.bind fun e13=>
 gd (decide (0≤c3))<|
 gd (decide (c3.toNat<m9.length))<|
 gd (decide (0≤m6))<|
 gd (decide (m6.toNat<4))<|
 m9[c3.toNat]?.bind fun e14=>
 e14[m6.toNat]?.bind fun _=>
 let v15:List (List UInt8):=m9.set c3.toNat (e14.set m6.toNat (wb (xorB 8 (e12.toNat:Int) (e13.toNat:Int))))
 (g_bs.l23 N n c0 c1 c2 c3 c4 c5 (wi (m6+1)) m7 m8 v15 m10).bind some
 else
 some (m7,m8,m9)
def g_bs.l33(N:Nat):Nat→Int→Int→List UInt8→List UInt8→List (List UInt8)→List UInt8→List (List UInt8)→Option (List UInt8×List UInt8×List (List UInt8)×List UInt8×List (List UInt8))
 |0,_,_,_,_,_,_,_=>none
 |n+1,c0,m1,m2,m3,m4,m5,m6=>
 bif decide (m1<16)then
 gd (decide (0≤(wi (c0+(wi (m1.tdiv 4))))))<|
 gd (decide ((wi (c0+(wi (m1.tdiv 4)))).toNat<m4.length))<|
 let v7:Nat:=(wi (c0+(wi (m1.tdiv 4)))).toNat
 gd (decide (0≤(m1.tmod 4)))<|
 gd (decide ((m1.tmod 4).toNat<4))<|
 m4[v7]?.bind fun e8=>
 e8[(m1.tmod 4).toNat]?.bind fun e9=>
 gd (decide (0≤m1))<|
 gd (decide (m1.toNat<16))<|
 m5[m1.toNat]?.bind fun _=>
 (g_bs.l33 N n c0 (wi (m1+1)) m2 m3 m4 (m5.set m1.toNat e9) m6).bind some
 else
 some (m2,m3,m4,m5,m6)
def g_bs.l3(N:Nat):Nat→List UInt8→Int→List UInt8→List UInt8→Option (List UInt8×List UInt8)
 |0,_,_,_,_=>none
 |n+1,c0,m1,m2,m3=>
 bif decide (m1<256)then
 (g_dp N (wb m1)).bind fun r4=>
 gd (decide (0≤m1))<|
 gd (decide (m1.toNat<256))<|
 m2[m1.toNat]?.bind fun _=>
 gd (decide (r4.toNat<256))<|
 m3[r4.toNat]?.bind fun _=>
 (g_bs.l3 N n c0 (wi (m1+1)) (m2.set m1.toNat r4) (m3.set r4.toNat (wb m1))).bind some
 else
 some (m2,m3)
def g_bs.l12(N:Nat):Nat→List UInt8→Int→Int→UInt8→Int→List UInt8→List UInt8→List (List UInt8)→Option (List UInt8×List UInt8×List (List UInt8))
 |0,_,_,_,_,_,_,_,_=>none
 |n+1,c0,c1,c2,m3,m4,m5,m6,m7=>
 bif decide (m4<c2)then
 bif decide (m4<c1)then
 gd (decide (0≤m4))<|
 gd (decide (m4.toNat<m7.length))<|
 gd (decide (0≤(wi (m4*4))))<|
 gd ((decide ((wi (m4*4)).toNat≤c0.length))&&(decide (c0.length≤c0.length)))<|
 let v8:List UInt8:=(c0.take c0.length).drop (wi (m4*4)).toNat
 m7[m4.toNat]?.bind fun e9=>
 let v10:List (List UInt8):=m7.set m4.toNat (spliceL e9 v8 0 (min v8.length 4))
 (g_bs.l12 N n c0 c1 c2 m3 (wi (m4+1)) m5 m6 v10).bind some
 else
 gd (decide (0≤(wi (m4-1))))<|
 gd (decide ((wi (m4-1)).toNat<m7.length))<|
 m7[(wi (m4-1)).toNat]?.bind fun e11=>
 bif c1==0 then none else
 bif (m4.tmod c1)==0 then
 e11[1]?.bind fun e12=>
 gd (decide (e12.toNat<256))<|
 m5[e12.toNat]?.bind fun e13=>
 e11[2]?.bind fun e14=>
 gd (decide (e14.toNat<256))<|
 m5[e14.toNat]?.bind fun e15=>
 e11[3]?.bind fun e16=>
 gd (decide (e16.toNat<256))<|
 m5[e16.toNat]?.bind fun e17=>
 e11[0]?.bind fun e18=>
 gd (decide (e18.toNat<256))<|
 m5[e18.toNat]?.bind fun e19=>
 let v20:List UInt8:=([wb (xorB 8 (e13.toNat:Int) (m3.toNat:Int)),e15,e17,e19]:List UInt8)
 (g_ds N m3 2).bind fun r21=>
 (g_bs.l23 N N c0 c1 r21 m4 c2 m4 0 m5 m6 m7 v20).bind fun r22=>
 (g_bs.l12 N n c0 c1 c2 r21 (wi (m4+1)) r22.1 r22.2.1 r22.2.2).bind some
 else
 bif c1==8 then
 bif c1==0 then none else
 bif (m4.tmod c1)==4 then
 e11[0]?.bind fun e23=>
 gd (decide (e23.toNat<256))<|
 m5[e23.toNat]?.bind fun e24=>
 e11[1]?.bind fun e25=>
 gd (decide (e25.toNat<256))<|
 m5[e25.toNat]?.bind fun e26=>
 e11[2]?.bind fun e27=>
 gd (decide (e27.toNat<256))<|
 m5[e27.toNat]?.bind fun e28=>
 e11[3]?.bind fun e29=>
 gd (decide (e29.toNat<256))<|
 m5[e29.toNat]?.bind fun e30=>
 (g_bs.l23 N N c0 c1 m3 m4 c2 m4 0 m5 m6 m7 ([e24,e26,e28,e30]:List UInt8)).bind fun r31=>
 (g_bs.l12 N n c0 c1 c2 m3 (wi (m4+1)) r31.1 r31.2.1 r31.2.2).bind some
 else
 (g_bs.l23 N N c0 c1 m3 m4 c2 m4 0 m5 m6 m7 e11).bind fun r32=>
 (g_bs.l12 N n c0 c1 c2 m3 (wi (m4+1)) r32.1 r32.2.1 r32.2.2).bind some
 else
 (g_bs.l23 N N c0 c1 m3 m4 c2 m4 0 m5 m6 m7 e11).bind fun r33=>
 (g_bs.l12 N n c0 c1 c2 m3 (wi (m4+1)) r33.1 r33.2.1 r33.2.2).bind some
 else
 some (m5,m6,m7)
def g_bs.l29(N:Nat):Nat→Int→List UInt8→List UInt8→List (List UInt8)→List (List UInt8)→Option (List UInt8×List UInt8×List (List UInt8))
 |0,_,_,_,_,_=>none
 |n+1,m0,m1,m2,m3,m4=>
 bif decide (m0<(m3.length:Int))then
 (g_bs.l33 N N m0 0 m1 m2 m3 (List.replicate 16 0) m4).bind fun r5=>
 gd (roomOK (r5.2.2.2.2.length+([r5.2.2.2.1]:List (List UInt8)).length) 16)<|
 (g_bs.l29 N n (wi (m0+4)) r5.1 r5.2.1 r5.2.2.1 (r5.2.2.2.2++([r5.2.2.2.1]:List (List UInt8)))).bind some
 else
 some (m1,m2,m4)
def g_bs(N:Nat)(a0:List UInt8):Option (List UInt8×List UInt8×List (List UInt8)):=
 (g_bs.l3 N N a0 0 (List.replicate 256 0) (List.replicate 256 0)).bind fun r1=>
 let v2:Int:=wi ((wi ((a0.length:Int).tdiv 4))+7)
 gd (decide (0≤(wi (4*v2))))<|
 gd (decide (0≤(wi (4*v2))))<|
 gd ((decide ((wi (4*v2)).toNat≤(wi (4*v2)).toNat))&&(roomOK (wi (4*v2)).toNat 4))<|
 let v3:List (List UInt8):=List.replicate (wi (4*v2)).toNat (List.replicate 4 0)
 (g_bs.l12 N N a0 (wi ((a0.length:Int).tdiv 4)) (v3.length:Int) 1 0 r1.1 r1.2 v3).bind fun r4=>
 (g_bs.l29 N N 0 r4.1 r4.2.1 r4.2.2 []).bind fun r5=>
 some r5
def g_ab(N:Nat)(a0:List UInt8):Option (List UInt8):=
 bif a0.isEmpty then none else
 gd (roomOK (0+a0.length) 1)<|
 some (([]:List UInt8)++a0)
def g_aa(N:Nat)(a0:List UInt8):Option (List UInt8):=
 bif a0.isEmpty then
 some []
 else
 g_ab N a0
def g_dx.l2(N:Nat):Nat→Int→List UInt8→List UInt8→List UInt8→Option (List UInt8×List UInt8)
 |0,_,_,_,_=>none
 |n+1,m0,m1,m2,m3=>
 bif decide (m0<16)then
 gd (decide (0≤m0))<|
 gd (decide (m0.toNat<16))<|
 m1[m0.toNat]?.bind fun e4=>
 gd (decide (0≤m0))<|
 gd (decide (m0.toNat<16))<|
 m2[m0.toNat]?.bind fun e5=>
 gd (decide (0≤m0))<|
 gd (decide (m0.toNat<16))<|
 m1[m0.toNat]?.bind fun _=>
 let v6:List UInt8:=m1.set m0.toNat (wb (xorB 8 (e4.toNat:Int) (e5.toNat:Int)))
 (g_dx.l2 N n (wi (m0+1)) v6 m2 m3).bind some
 else
 some (m1,m3)
def g_dx(N:Nat)(a0:List UInt8)(a1:List UInt8):Option (List UInt8):=
 (g_dx.l2 N N 0 a0 a1 (List.replicate 16 0)).bind fun r2=>
 some r2.1
def g_bx(N:Nat)(a0:UInt8):Option (UInt8):=
 let v1:UInt8:=wb (((ofI .u8 (shr (a0.toNat:Int) 7)).toNat:Int)*27)
 let v2:UInt8:=wb (xorB 8 ((wb ((a0.toNat:Int)*2^1)).toNat:Int) (v1.toNat:Int))
 some v2
def g_bz.l4(N:Nat):Nat→UInt8→Int→List UInt8→List UInt8→List UInt8→Option (List UInt8×List UInt8)
 |0,_,_,_,_,_=>none
 |n+1,c0,m1,m2,m3,m4=>
 bif decide (m1<4)then
 gd (decide (0≤m1))<|
 gd (decide (m1.toNat<4))<|
 m2[m1.toNat]?.bind fun e5=>
 gd (decide (0≤m1))<|
 gd (decide (m1.toNat<4))<|
 m2[m1.toNat]?.bind fun e6=>
 gd (decide (0≤((wi (m1+1)).tmod 4)))<|
 gd (decide (((wi (m1+1)).tmod 4).toNat<4))<|
 m2[((wi (m1+1)).tmod 4).toNat]?.bind fun e7=>
 (g_bx N (wb (xorB 8 (e6.toNat:Int) (e7.toNat:Int)))).bind fun r8=>
 let v9:UInt8:=wb (xorB 8 ((wb (xorB 8 (e5.toNat:Int) (c0.toNat:Int))).toNat:Int) (r8.toNat:Int))
 gd (decide (0≤m1))<|
 gd (decide (m1.toNat<4))<|
 m4[m1.toNat]?.bind fun _=>
 (g_bz.l4 N n c0 (wi (m1+1)) m2 m3 (m4.set m1.toNat v9)).bind some
 else
 some (m3,m4)
def g_bz(N:Nat)(a0:List UInt8):Option (List UInt8):=
 a0[0]?.bind fun e1=>
 a0[1]?.bind fun e2=>
 a0[2]?.bind fun e3=>
 let v4:UInt8:=wb (xorB 8 ((wb (xorB 8 (e1.toNat:Int) (e2.toNat:Int))).toNat:Int) (e3.toNat:Int))
 a0[3]?.bind fun e5=>
 (g_bz.l4 N N (wb (xorB 8 (v4.toNat:Int) (e5.toNat:Int))) 0 a0 (List.replicate 4 0) (List.replicate 4 0)).bind fun r6=>
 some r6.2
def g_bu.l2(N:Nat):Nat→Int→List UInt8→List UInt8→Option (List UInt8×List UInt8)
 |0,_,_,_=>none
 |n+1,m0,m1,m2=>
 bif decide (m0<16)then
 gd (decide (0≤(wi (m0+4))))<|
 gd (decide (0≤m0))<|
 gd ((decide (m0.toNat≤(wi (m0+4)).toNat))&&(decide ((wi (m0+4)).toNat≤16)))<|
 let v3:Nat:=(wi (m0+4)).toNat-m0.toNat
 gd (decide (4≤v3))<|
 gd (decide ((m0.toNat+4)≤m1.length))<|
 (g_bz N ((m1.drop m0.toNat).take 4)).bind fun r4=>
 gd (decide (0≤m0))<|
 gd ((decide (m0.toNat≤16))&&true)<|
 let v5:List UInt8:=spliceL m1 ((r4.drop 0).take 4) m0.toNat (min ((r4.drop 0).take 4).length (16-m0.toNat))
 (g_bu.l2 N n (wi (m0+4)) v5 m2).bind some
 else
 some (m1,m2)
def g_bu(N:Nat)(a0:List UInt8):Option (List UInt8):=
 (g_bu.l2 N N 0 a0 (List.replicate 16 0)).bind fun r1=>
 some r1.1
def g_bt.l8(N:Nat):Nat→Int→Int→List UInt8×List UInt8×List (List UInt8)→Int→List UInt8→List UInt8→List UInt8→Option ((List UInt8×List UInt8×List (List UInt8))×List UInt8×List UInt8×List UInt8)
 |0,_,_,_,_,_,_,_=>none
 |n+1,c0,c1,m2,m3,m4,m5,m6=>
 bif decide (m3<16)then
 let v7:Int:=wi (m3+(wi (4*(m3.tmod 4))))
 gd (decide (0≤(v7.tmod 16)))<|
 gd (decide ((v7.tmod 16).toNat<16))<|
 m4[(v7.tmod 16).toNat]?.bind fun e8=>
 m2.1[e8.toNat]?.bind fun e9=>
 gd (decide (0≤m3))<|
 gd (decide (m3.toNat<16))<|
 m6[m3.toNat]?.bind fun _=>
 (g_bt.l8 N n c0 c1 m2 (wi (m3+1)) m4 m5 (m6.set m3.toNat e9)).bind some
 else
 some (m2,m4,m5,m6)
def g_bt.l4(N:Nat):Nat→Int→List UInt8×List UInt8×List (List UInt8)→Int→List UInt8→List UInt8→Option (List UInt8×List UInt8)
 |0,_,_,_,_,_=>none
 |n+1,c0,m1,m2,m3,m4=>
 bif decide (m2≤c0)then
 (g_bt.l8 N N c0 m2 m1 0 m3 m4 (List.replicate 16 0)).bind fun r5=>
 bif decide (m2<c0)then
 (g_bu N r5.2.2.2).bind fun r6=>
 gd (decide (0≤m2))<|
 r5.1.2.2[m2.toNat]?.bind fun e7=>
 (g_dx N r6 e7).bind fun r8=>
 (g_bt.l4 N n c0 r5.1 (wi (m2+1)) r8 r5.2.2.1).bind some
 else
 gd (decide (0≤m2))<|
 r5.1.2.2[m2.toNat]?.bind fun e9=>
 (g_dx N r5.2.2.2 e9).bind fun r10=>
 (g_bt.l4 N n c0 r5.1 (wi (m2+1)) r10 r5.2.2.1).bind some
 else
 some (m3,m4)
def g_bt(N:Nat)(a0:List UInt8×List UInt8×List (List UInt8))(a1:List UInt8):Option (List UInt8):=
 a0.2.2[0]?.bind fun e2=>
 (g_dx N a1 e2).bind fun r3=>
 (g_bt.l4 N N (wi ((a0.2.2.length:Int)-1)) a0 1 r3 (List.replicate 16 0)).bind fun r4=>
 some r4.1
def g_bv.l8(N:Nat):Nat→List UInt8→Int→Int→List UInt8→List UInt8→List UInt8→List UInt8→List (List UInt8)→Option (List UInt8×List UInt8×List UInt8×List (List UInt8))
 |0,_,_,_,_,_,_,_,_=>none
 |n+1,c0,c1,m2,m3,m4,m5,m6,m7=>
 let v8:Int:=min (wi (c1+16)) (m5.length:Int)
 bif decide (m2<v8)then
 gd (decide (0≤m2))<|
 gd (decide (m2.toNat<m5.length))<|
 m5[m2.toNat]?.bind fun e9=>
 gd (decide (0≤(wi (m2-c1))))<|
 gd (decide ((wi (m2-c1)).toNat<16))<|
 m6[(wi (m2-c1)).toNat]?.bind fun e10=>
 gd (decide (0≤m2))<|
 gd (decide (m2.toNat<m5.length))<|
 m5[m2.toNat]?.bind fun _=>
 let v11:List UInt8:=m5.set m2.toNat (wb (xorB 8 (e9.toNat:Int) (e10.toNat:Int)))
 (g_bv.l8 N n c0 c1 (wi (m2+1)) m3 m4 v11 m6 m7).bind some
 else
 some (m3,m4,m5,m7)
def g_bv.l4(N:Nat):Nat→List UInt8→Int→List UInt8→List UInt8→List UInt8→List (List UInt8)→Option (List UInt8)
 |0,_,_,_,_,_,_=>none
 |n+1,c0,m1,m2,m3,m4,m5=>
 bif decide (m1<(m4.length:Int))then
 (g_br N (wi ((wi (m1.tdiv 16))+1)) 4).bind fun r6=>
 gd (decide (c0.length+r6.length≤9223372036854775807))<|
 gd (decide (16≤(c0++r6).length))<|
 gd (decide (16≤(c0++r6).length))<|
 (g_bt N (m2,m3,m5) (((c0++r6).drop 0).take 16)).bind fun r7=>
 (g_bv.l8 N N c0 m1 m1 m2 m3 m4 r7 m5).bind fun r8=>
 (g_bv.l4 N n c0 (wi (m1+16)) r8.1 r8.2.1 r8.2.2.1 r8.2.2.2).bind some
 else
 some m4
def g_bv(N:Nat)(a0:List UInt8)(a1:List UInt8)(a2:List UInt8):Option (List UInt8):=
 (g_bs N a0).bind fun r3=>
 (g_aa N a2).bind fun r4=>
 (g_bv.l4 N N a1 0 r3.1 r3.2.1 r4 r3.2.2).bind fun r5=>
 some r5
def g_du(N:Nat)(a0:List UInt8)(a1:List UInt8)(a2:List UInt8)(a3:List UInt8):Option (List UInt8×Bool):=
 bif decide ((a3.length:Int)<16)then
 some (([]:List UInt8),false)
 else
 (g_dl N a0).bind fun r4=>
 gd (decide (0≤(wi ((a3.length:Int)-16))))<|
 gd ((decide (0≤(wi ((a3.length:Int)-16)).toNat))&&(decide ((wi ((a3.length:Int)-16)).toNat≤a3.length)))<|
 let v5:List UInt8:=(a3.take (wi ((a3.length:Int)-16)).toNat).drop 0
 (g_dr N r4.2 a1 a2 v5).bind fun r6=>
 gd (decide (0≤(v5.length:Int)))<|
 gd ((decide ((v5.length:Int).toNat≤a3.length))&&(decide (a3.length≤a3.length)))<|
 let v7:List UInt8:=(a3.take a3.length).drop (v5.length:Int).toNat
 bif !(r6==v7)then
 some (([]:List UInt8),false)
 else
 (g_bv N r4.1 a1 v5).bind fun r8=>
 some (r8,true)
def g_az(N:Nat)(a0:Int×List UInt8):Option (Bool):=
 (g_dw N a0.1 1 4294967295).bind fun r1=>
 bif r1 then
 some (decide ((a0.2.length:Int)≤170))
 else
 some false
def g_dc(N:Nat)(a0:List UInt8)(a1:Int)(a2:List UInt8):Option ((Int×List UInt8)×Bool):=
 (g_de N (a2,false) 4).bind fun r3=>
 (g_dm N a1 r3.2).bind fun r4=>
 (g_du N a0 r4 ([115,108,111,116]:List UInt8) r3.1.1).bind fun r5=>
 bif r5.2 then
 bif !r3.1.2 then
 (g_az N (r3.2,r5.1)).bind fun r6=>
 some ((r3.2,r5.1),r6)
 else
 some ((r3.2,r5.1),false)
 else
 some ((r3.2,r5.1),false)
def g_da(N:Nat)(a0:Int):Option (Int):=
 let v1:Int:=wi ((wi ((wi (a0+64))-1)).tdiv 64)
 some v1
def g_cr(N:Nat)(a0:Int):Option (Bool):=
 (g_dw N a0 1 65535).bind fun r1=>
 some r1
def g_ba.l3(N:Nat):Nat→List (Int×Int)→Int→Int→Int→List (Int×Int)→List UInt8→List Int→Option (Bool⊕(Int×List (Int×Int)×List UInt8))
 |0,_,_,_,_,_,_,_=>none
 |n+1,c0,c1,m2,m3,m4,m5,m6=>
 bif decide (m2<c1)then
 gd (decide (0≤m2))<|
 c0[m2.toNat]?.bind fun e7=>
 (g_dw N e7.1 2 63).bind fun r8=>
 bif !r8 then
 some (Sum.inl false)
 else
 bif m6.contains e7.1 then
 some (Sum.inl false)
 else
 (g_cr N e7.2).bind fun r9=>
 bif !r9 then
 some (Sum.inl false)
 else
 (g_ba.l3 N n c0 c1 (wi (m2+1)) m3 m4 m5 (e7.1::m6)).bind some
 else
 some (Sum.inr (m3,m4,m5))
def g_ba(N:Nat)(a0:Int×List (Int×Int)×List UInt8):Option (Bool):=
 (g_ba.l3 N N a0.2.1 (a0.2.1.length:Int) 0 a0.1 a0.2.1 a0.2.2 ([]:List Int)).bind fun r1=>
 alt r1 (fun y2=>
 some y2) fun z3=>
 (g_dw N z3.1 1 1024).bind fun r4=>
 bif r4 then
 (g_da N z3.1).bind fun r5=>
 bif (z3.2.1.length:Int)==r5 then
 some ((z3.2.2.length:Int)==32)
 else
 some false
 else
 some false
def g_dd.l4(N:Nat):Nat→Int→Int→Int→List UInt8→List UInt8→Bool→Int→List UInt8→List (Int×Int)→Option (Int×List UInt8×List UInt8×Bool×Int×List UInt8×List (Int×Int))
 |0,_,_,_,_,_,_,_,_,_=>none
 |n+1,c0,m1,m2,m3,m4,m5,m6,m7,m8=>
 bif decide (m1<c0)then
 (g_de N (m4,m5) 1).bind fun r9=>
 (g_de N r9.1 2).bind fun r10=>
 gd (roomOK (m8.length+([(r9.2,r10.2)]:List (Int×Int)).length) 16)<|
 (g_dd.l4 N n c0 (wi (m1+1)) m2 m3 r10.1.1 r10.1.2 m6 m7 (m8++([(r9.2,r10.2)]:List (Int×Int)))).bind some
 else
 some (m2,m3,m4,m5,m6,m7,m8)
def g_dd(N:Nat)(a0:List UInt8):Option ((Int×List (Int×Int)×List UInt8)×Bool):=
 (g_de N (a0,false) 2).bind fun r1=>
 (g_da N r1.2).bind fun r2=>
 (g_dd.l4 N N (min r2 16) 0 0 ([]:List UInt8) r1.1.1 r1.1.2 r1.2 ([]:List UInt8) []).bind fun r3=>
 bif !r3.2.2.2.1 then
 (g_ba N (r3.2.2.2.2.1,r3.2.2.2.2.2.2,r3.2.2.1)).bind fun r4=>
 some ((r3.2.2.2.2.1,r3.2.2.2.2.2.2,r3.2.2.1),r4)
 else
 some ((r3.2.2.2.2.1,r3.2.2.2.2.2.2,r3.2.2.1),false)
def g_gg(N:Nat)(a0:List (List UInt8))(a1:List UInt8):Option (List UInt8):=
 bif decide (a0.length≤140737488355328)&&decide ((Lib.join a0 a1).length≤140737488355328)then some (Lib.join a0 a1)else none
def g_dz.l2(N:Nat):Nat→List UInt8→UInt8→Int→Option (Int⊕Unit)
 |0,_,_,_=>none
 |n+1,c0,c1,m2=>
 bif decide (m2≥0)then
 gd (decide (0≤m2))<|
 c0[m2.toNat]?.bind fun e3=>
 bif (e3.toNat:Int)==(c1.toNat:Int)then
 some (Sum.inl m2)
 else
 (g_dz.l2 N n c0 c1 (wi (m2-1))).bind some
 else
 some (Sum.inr ())
def g_dz(N:Nat)(a0:List UInt8)(a1:UInt8):Option (Int):=
 (g_dz.l2 N N a0 a1 (wi ((a0.length:Int)-1))).bind fun r2=>
 alt r2 (fun y3=>
 some y3) fun _=>
 some (-1)
def g_eb.l3(N:Nat):Nat→List UInt8→Int→Int→Option (Int)
 |0,_,_,_=>none
 |n+1,c0,m1,m2=>
 bif decide (m2≥0)then
 gd (decide (0≤m2))<|
 c0[m2.toNat]?.bind fun e3=>
 let v4:Int:=w32 ((w32 (m1*16777619))+(w32 (e3.toNat:Int)))
 (g_eb.l3 N n c0 v4 (wi (m2-1))).bind some
 else
 some m1
def g_eb.l8(N:Nat):Nat→Int→Int→Int→Int→Option (Int)
 |0,_,_,_,_=>none
 |n+1,c0,m1,m2,m3=>
 bif decide (m3>0)then
 bif (wi (andB 64 m3 1)) !=0 then
 (g_eb.l8 N n c0 (w32 (m1*m2)) (w32 (m2*m2)) (shr m3 1)).bind some
 else
 (g_eb.l8 N n c0 m1 (w32 (m2*m2)) (shr m3 1)).bind some
 else
 some m1
def g_eb(N:Nat)(a0:List UInt8):Option (Int×Int):=
 (g_eb.l3 N N a0 0 (wi ((a0.length:Int)-1))).bind fun r1=>
 (g_eb.l8 N N r1 1 16777619 (a0.length:Int)).bind fun r2=>
 some (r1,r2)
def g_ea.l6(N:Nat):Nat→List UInt8→List UInt8→Int→Int→Int→Int→Int→Int→Option (Int)
 |0,_,_,_,_,_,_,_,_=>none
 |n+1,c0,c1,c2,c3,c4,c5,m6,m7=>
 bif decide (m7≥c5)then
 gd (decide (0≤m7))<|
 c0[m7.toNat]?.bind fun e8=>
 let v9:Int:=w32 ((w32 (m6*16777619))+(w32 (e8.toNat:Int)))
 (g_ea.l6 N n c0 c1 c2 c3 c4 c5 v9 (wi (m7-1))).bind some
 else
 some m6
def g_ea.l12(N:Nat):Nat→List UInt8→List UInt8→Int→Int→Int→Int→Int→Option (Int⊕Unit)
 |0,_,_,_,_,_,_,_=>none
 |n+1,c0,c1,c2,c3,c4,m5,m6=>
 bif decide (m6≥0)then
 gd (decide (0≤m6))<|
 c0[m6.toNat]?.bind fun e7=>
 let v8:Int:=w32 ((w32 (m5*16777619))+(w32 (e7.toNat:Int)))
 gd (decide (0≤(wi (m6+c4))))<|
 c0[(wi (m6+c4)).toNat]?.bind fun e9=>
 let v10:Int:=w32 (v8-(w32 (c3*(w32 (e9.toNat:Int)))))
 bif v10==c2 then
 gd (decide (0≤(wi (m6+c4))))<|
 gd (decide (0≤m6))<|
 gd ((decide (m6.toNat≤(wi (m6+c4)).toNat))&&(decide ((wi (m6+c4)).toNat≤c0.length)))<|
 let v11:List UInt8:=(c0.take (wi (m6+c4)).toNat).drop m6.toNat
 bif v11==c1 then
 some (Sum.inl m6)
 else
 (g_ea.l12 N n c0 c1 c2 c3 c4 v10 (wi (m6-1))).bind some
 else
 (g_ea.l12 N n c0 c1 c2 c3 c4 v10 (wi (m6-1))).bind some
 else
 some (Sum.inr ())
def g_ea(N:Nat)(a0:List UInt8)(a1:List UInt8):Option (Int):=
 (g_eb N a1).bind fun r2=>
 let v3:Int:=wi ((a0.length:Int)-(a1.length:Int))
 (g_ea.l6 N N a0 a1 r2.1 r2.2 (a1.length:Int) v3 0 (wi ((a0.length:Int)-1))).bind fun r4=>
 bif r4==r2.1 then
 gd (decide (0≤v3))<|
 gd ((decide (v3.toNat≤a0.length))&&(decide (a0.length≤a0.length)))<|
 let v5:Bool:=((a0.take a0.length).drop v3.toNat)==a1
 bif v5 then
 some v3
 else
 (g_ea.l12 N N a0 a1 r2.1 r2.2 (a1.length:Int) r4 (wi (v3-1))).bind fun r6=>
 alt r6 (fun y7=>
 some y7) fun _=>
 some (-1)
 else
 (g_ea.l12 N N a0 a1 r2.1 r2.2 (a1.length:Int) r4 (wi (v3-1))).bind fun r8=>
 alt r8 (fun y9=>
 some y9) fun _=>
 some (-1)
def g_gh(N:Nat)(a0:List UInt8)(a1:List UInt8):Option (Int):=
 bif (a1.length:Int)==0 then
 some (a0.length:Int)
 else
 bif (a1.length:Int)==1 then
 a1[0]?.bind fun e2=>
 (g_dz N a0 e2).bind fun r3=>
 some r3
 else
 bif (a1.length:Int)==(a0.length:Int)then
 bif a1==a0 then
 some 0
 else
 some (-1)
 else
 bif decide ((a1.length:Int)>(a0.length:Int))then
 some (-1)
 else
 (g_ea N a0 a1).bind fun r4=>
 some r4
def g_cy(N:Nat)(a0:List UInt8):Option (List UInt8):=
 (g_gh N a0 ([47]:List UInt8)).bind fun r1=>
 gd (decide (0≤(max r1 0)))<|
 gd ((decide (0≤(max r1 0).toNat))&&(decide ((max r1 0).toNat≤a0.length)))<|
 let v2:List UInt8:=(a0.take (max r1 0).toNat).drop 0
 some v2
def g_dy(N:Nat)(a0:List UInt8)(a1:List UInt8):Option (Int):=
 some (Lib.compareBytes a0 a1)
def g_gd(N:Nat)(a0:List UInt8)(a1:List UInt8):Option (Int):=
 (g_dy N a0 a1).bind fun r2=>
 some r2
def g_cc(N:Nat)(a0:List UInt8×Bool×List UInt8)(a1:List UInt8):Option (Int):=
 (g_gd N a0.1 a1).bind fun r2=>
 some r2
def g_eh.l3(N:Nat):Nat→List (List UInt8×Bool×List UInt8)→List UInt8→Int→Int→Int→Option (Int)
 |0,_,_,_,_,_=>none
 |n+1,c0,c1,c2,m3,m4=>
 bif decide (m3<m4)then
 gd (decide (0≤(wi (shr (w64 (wi (m3+m4))) 1))))<|
 c0[(wi (shr (w64 (wi (m3+m4))) 1)).toNat]?.bind fun e5=>
 (g_cc N e5 c1).bind fun r6=>
 bif decide (r6<0)then
 let v7:Int:=wi ((wi (shr (w64 (wi (m3+m4))) 1))+1)
 (g_eh.l3 N n c0 c1 c2 v7 m4).bind some
 else
 (g_eh.l3 N n c0 c1 c2 m3 (wi (shr (w64 (wi (m3+m4))) 1))).bind some
 else
 some m3
def g_eh(N:Nat)(a0:List (List UInt8×Bool×List UInt8))(a1:List UInt8):Option (Int×Bool):=
 (g_eh.l3 N N a0 a1 (a0.length:Int) 0 (a0.length:Int)).bind fun r2=>
 bif decide (r2<(a0.length:Int))then
 gd (decide (0≤r2))<|
 a0[r2.toNat]?.bind fun e3=>
 (g_cc N e3 a1).bind fun r4=>
 some (r2,r4==0)
 else
 some (r2,false)
def g_cb(N:Nat)(a0:List (List UInt8×Bool×List UInt8))(a1:List UInt8):Option (Int×Bool):=
 (g_eh N a0 a1).bind fun r2=>
 some r2
def g_cz(N:Nat)(a0:List (List UInt8×Bool×List UInt8))(a1:List UInt8):Option (Int):=
 (g_cy N a1).bind fun r2=>
 (g_cb N a0 r2).bind fun r3=>
 bif r2==([]:List UInt8)then
 some 0
 else
 bif !r3.2 then
 some 5
 else
 gd (decide (0≤r3.1))<|
 a0[r3.1.toNat]?.bind fun e4=>
 bif !e4.2.1 then
 some 17
 else
 some 0
def g_at(N:Nat)(a0:List UInt8×Bool×List UInt8)(a1:List (List UInt8×Bool×List UInt8)):Option (Bool):=
 (g_cz N a1 a0.1).bind fun r2=>
 some (r2==0)
def g_bi(N:Nat)(a0:List UInt8×Bool×List UInt8)(a1:List (List UInt8×Bool×List UInt8)):Option (Bool):=
 (g_at N a0 a1).bind fun r2=>
 some (!r2)
def g_ew.l2(N:Nat):Nat→List (List UInt8×Bool×List UInt8)→Int→List (List UInt8×Bool×List UInt8)→Int→Option ((List (List UInt8×Bool×List UInt8)×Int)⊕(List (List UInt8×Bool×List UInt8)))
 |0,_,_,_,_=>none
 |n+1,c0,c1,m2,m3=>
 bif decide (m3<c1)then
 gd (decide (0≤m3))<|
 c0[m3.toNat]?.bind fun e4=>
 (g_bi N e4 m2).bind fun r5=>
 bif r5 then
 some (Sum.inl (m2,m3))
 else
 (g_ew.l2 N n c0 c1 m2 (wi (m3+1))).bind some
 else
 some (Sum.inr m2)
def g_ew(N:Nat)(a0:List (List UInt8×Bool×List UInt8))(a1:List (List UInt8×Bool×List UInt8)):Option (Int):=
 (g_ew.l2 N N a0 (a0.length:Int) a1 0).bind fun r2=>
 alt r2 (fun y3=>
 some y3.2) fun _=>
 some (-1)
def g_ep(N:Nat)(a0:List (List UInt8×Bool×List UInt8))(a1:List (List UInt8×Bool×List UInt8)):Option (Bool):=
 (g_ew N a0 a1).bind fun r2=>
 some (decide (r2≥0))
def g_bj(N:Nat)(a0:List (List UInt8×Bool×List UInt8))(a1:List (List UInt8×Bool×List UInt8)):Option (Bool):=
 (g_ep N a0 a1).bind fun r2=>
 some (!r2)
def g_ge(N:Nat)(a0:List UInt8)(a1:List UInt8):Option (Int):=
 match a1 with
 |[c]=>some (((Lib.countByte a0 c:Nat):Int))
 |_=>none
def g_ec(N:Nat)(a0:List UInt8)(a1:List UInt8):Option (Int):=
 match a1 with
 |[c]=>some (Lib.indexByte a0 c)
 |_=>none
def g_gf(N:Nat)(a0:List UInt8)(a1:List UInt8):Option (Int):=
 (g_ec N a0 a1).bind fun r2=>
 some r2
def g_gj.l11(N:Nat):Nat→List UInt8→Int→Int→List UInt8→Int→List (List UInt8)→Option (List UInt8×Int×List (List UInt8))
 |0,_,_,_,_,_,_=>none
 |n+1,c0,c1,c2,m3,m4,m5=>
 bif decide (m4<c2)then
 (g_gf N m3 c0).bind fun r6=>
 bif decide (r6<0)then
 some (m3,m4,m5)
 else
 gd (decide (0≤(wi (r6+c1))))<|
 gd ((decide (0≤(wi (r6+c1)).toNat))&&(decide ((wi (r6+c1)).toNat≤m3.length)))<|
 let v7:List UInt8:=(m3.take (wi (r6+c1)).toNat).drop 0
 gd (decide (0≤m4))<|
 gd (decide (m4.toNat<m5.length))<|
 m5[m4.toNat]?.bind fun _=>
 gd (decide (0≤(wi (r6+(c0.length:Int)))))<|
 gd ((decide ((wi (r6+(c0.length:Int))).toNat≤m3.length))&&(decide (m3.length≤m3.length)))<|
 let v8:List UInt8:=(m3.take m3.length).drop (wi (r6+(c0.length:Int))).toNat
 (g_gj.l11 N n c0 c1 c2 v8 (wi (m4+1)) (m5.set m4.toNat v7)).bind some
 else
 some (m3,m4,m5)
def g_gj(N:Nat)(a0:List UInt8)(a1:List UInt8)(a2:Int)(a3:Int):Option (List (List UInt8)):=
 bif a3==0 then
 some []
 else
 bif a1==([]:List UInt8)then none else
 bif decide (a3<0)then
 (g_ge N a0 a1).bind fun r4=>
 let v5:Int:=min (wi (r4+1)) (wi ((a0.length:Int)+1))
 gd (decide (0≤v5))<|
 gd (decide (0≤v5))<|
 gd ((decide (v5.toNat≤v5.toNat))&&(roomOK v5.toNat 16))<|
 (g_gj.l11 N N a1 a2 (wi (v5-1)) a0 0 (List.replicate v5.toNat ([]:List UInt8))).bind fun r6=>
 gd (decide (0≤r6.2.1))<|
 gd (decide (r6.2.1.toNat<r6.2.2.length))<|
 r6.2.2[r6.2.1.toNat]?.bind fun _=>
 gd (decide (0≤(wi (r6.2.1+1))))<|
 gd ((decide (0≤(wi (r6.2.1+1)).toNat))&&(decide ((wi (r6.2.1+1)).toNat≤(r6.2.2.set r6.2.1.toNat r6.1).length)))<|
 some (((r6.2.2.set r6.2.1.toNat r6.1).drop 0).take ((wi (r6.2.1+1)).toNat-0))
 else
 let v7:Int:=min a3 (wi ((a0.length:Int)+1))
 gd (decide (0≤v7))<|
 gd (decide (0≤v7))<|
 gd ((decide (v7.toNat≤v7.toNat))&&(roomOK v7.toNat 16))<|
 (g_gj.l11 N N a1 a2 (wi (v7-1)) a0 0 (List.replicate v7.toNat ([]:List UInt8))).bind fun r8=>
 gd (decide (0≤r8.2.1))<|
 gd (decide (r8.2.1.toNat<r8.2.2.length))<|
 r8.2.2[r8.2.1.toNat]?.bind fun _=>
 gd (decide (0≤(wi (r8.2.1+1))))<|
 gd ((decide (0≤(wi (r8.2.1+1)).toNat))&&(decide ((wi (r8.2.1+1)).toNat≤(r8.2.2.set r8.2.1.toNat r8.1).length)))<|
 some (((r8.2.2.set r8.2.1.toNat r8.1).drop 0).take ((wi (r8.2.1+1)).toNat-0))
def g_gi(N:Nat)(a0:List UInt8)(a1:List UInt8):Option (List (List UInt8)):=
 (g_gj N a0 a1 0 (-1)).bind fun r2=>
 some r2
def g_av.l2(N:Nat):Nat→List UInt8→Int→Int→Option (Bool⊕Unit)
 |0,_,_,_=>none
 |n+1,c0,c1,m2=>
 bif decide (m2<c1)then
 gd (decide (0≤m2))<|
 c0[m2.toNat]?.bind fun e3=>
 bif decide ((e3.toNat:Int)≥97)then
 bif decide ((e3.toNat:Int)≤122)then
 (g_av.l2 N n c0 c1 (wi (m2+1))).bind some
 else
 bif decide ((e3.toNat:Int)≥65)then
 bif decide ((e3.toNat:Int)≤90)then
 (g_av.l2 N n c0 c1 (wi (m2+1))).bind some
 else
 bif !((e3.toNat:Int)==95)then
 bif m2==0 then
 some (Sum.inl false)
 else
 bif decide ((e3.toNat:Int)<48)then
 some (Sum.inl false)
 else
 bif decide ((e3.toNat:Int)>57)then
 some (Sum.inl false)
 else
 (g_av.l2 N n c0 c1 (wi (m2+1))).bind some
 else
 (g_av.l2 N n c0 c1 (wi (m2+1))).bind some
 else
 bif !((e3.toNat:Int)==95)then
 bif m2==0 then
 some (Sum.inl false)
 else
 bif decide ((e3.toNat:Int)<48)then
 some (Sum.inl false)
 else
 bif decide ((e3.toNat:Int)>57)then
 some (Sum.inl false)
 else
 (g_av.l2 N n c0 c1 (wi (m2+1))).bind some
 else
 (g_av.l2 N n c0 c1 (wi (m2+1))).bind some
 else
 bif decide ((e3.toNat:Int)≥65)then
 bif decide ((e3.toNat:Int)≤90)then
 (g_av.l2 N n c0 c1 (wi (m2+1))).bind some
 else
 bif !((e3.toNat:Int)==95)then
 bif m2==0 then
 some (Sum.inl false)
 else
 bif decide ((e3.toNat:Int)<48)then
 some (Sum.inl false)
 else
 bif decide ((e3.toNat:Int)>57)then
 some (Sum.inl false)
 else
 (g_av.l2 N n c0 c1 (wi (m2+1))).bind some
 else
 (g_av.l2 N n c0 c1 (wi (m2+1))).bind some
 else
 bif !((e3.toNat:Int)==95)then
 bif m2==0 then
 some (Sum.inl false)
 else
 bif decide ((e3.toNat:Int)<48)then
 some (Sum.inl false)
 else
 bif decide ((e3.toNat:Int)>57)then
 some (Sum.inl false)
 else
 (g_av.l2 N n c0 c1 (wi (m2+1))).bind some
 else
 (g_av.l2 N n c0 c1 (wi (m2+1))).bind some
 else
 some (Sum.inr ())
def g_av(N:Nat)(a0:List UInt8):Option (Bool):=
 (g_av.l2 N N a0 (a0.length:Int) 0).bind fun r1=>
 alt r1 (fun y2=>
 some y2) fun _=>
 (g_dw N (a0.length:Int) 1 40).bind fun r3=>
 some r3
def g_bm(N:Nat)(a0:List UInt8):Option (Bool):=
 (g_av N a0).bind fun r1=>
 some (!r1)
def g_ez.l2(N:Nat):Nat→List (List UInt8)→Int→Int→Option (Int⊕Unit)
 |0,_,_,_=>none
 |n+1,c0,c1,m2=>
 bif decide (m2<c1)then
 gd (decide (0≤m2))<|
 c0[m2.toNat]?.bind fun e3=>
 (g_bm N e3).bind fun r4=>
 bif r4 then
 some (Sum.inl m2)
 else
 (g_ez.l2 N n c0 c1 (wi (m2+1))).bind some
 else
 some (Sum.inr ())
def g_ez(N:Nat)(a0:List (List UInt8)):Option (Int):=
 (g_ez.l2 N N a0 (a0.length:Int) 0).bind fun r1=>
 alt r1 (fun y2=>
 some y2) fun _=>
 some (-1)
def g_es(N:Nat)(a0:List (List UInt8)):Option (Bool):=
 (g_ez N a0).bind fun r1=>
 some (decide (r1≥0))
def g_bo(N:Nat)(a0:List (List UInt8)):Option (Bool):=
 (g_es N a0).bind fun r1=>
 some (!r1)
def g_ay(N:Nat)(a0:List UInt8):Option (Bool):=
 bif decide ((a0.length:Int)≤40)then
 (g_gi N a0 ([47]:List UInt8)).bind fun r1=>
 (g_bo N r1).bind fun r2=>
 some r2
 else
 some false
def g_as.l2(N:Nat):Nat→List (List UInt8×Bool×List UInt8)→Int→Int→List (List UInt8×Bool×List UInt8)→Option (Bool⊕(List (List UInt8×Bool×List UInt8)))
 |0,_,_,_,_=>none
 |n+1,c0,c1,m2,m3=>
 bif decide (m2<c1)then
 gd (decide (0≤m2))<|
 c0[m2.toNat]?.bind fun e4=>
 (g_ay N e4.1).bind fun r5=>
 bif !r5 then
 some (Sum.inl false)
 else
 bif decide (m2>0)then
 gd (decide (0≤(wi (m2-1))))<|
 m3[(wi (m2-1)).toNat]?.bind fun e6=>
 bif Op.bytesLess e4.1 e6.1||e4.1==e6.1 then
 some (Sum.inl false)
 else
 bif decide ((e4.2.2.length:Int)>200)then
 some (Sum.inl false)
 else
 bif e4.2.1 then
 bif !(e4.2.2==([]:List UInt8))then
 some (Sum.inl false)
 else
 (g_as.l2 N n c0 c1 (wi (m2+1)) m3).bind some
 else
 (g_as.l2 N n c0 c1 (wi (m2+1)) m3).bind some
 else
 bif decide ((e4.2.2.length:Int)>200)then
 some (Sum.inl false)
 else
 bif e4.2.1 then
 bif !(e4.2.2==([]:List UInt8))then
 some (Sum.inl false)
 else
 (g_as.l2 N n c0 c1 (wi (m2+1)) m3).bind some
 else
 (g_as.l2 N n c0 c1 (wi (m2+1)) m3).bind some
 else
 some (Sum.inr m3)
def g_as(N:Nat)(a0:List (List UInt8×Bool×List UInt8)):Option (Bool):=
 (g_as.l2 N N a0 (a0.length:Int) 0 a0).bind fun r1=>
 alt r1 (fun y2=>
 some y2) fun z3=>
 bif decide ((z3.length:Int)≤12)then
 (g_bj N z3 z3).bind fun r4=>
 some r4
 else
 some false
def g_db.l4(N:Nat):Nat→List UInt8→Int→Int→List UInt8→Bool→List (List UInt8×Bool×List UInt8)→Option (List UInt8×Bool×List (List UInt8×Bool×List UInt8))
 |0,_,_,_,_,_,_=>none
 |n+1,c0,c1,m2,m3,m4,m5=>
 bif decide (m2<c1)then
 (g_de N (m3,m4) 1).bind fun r6=>
 (g_df N r6.1 r6.2).bind fun r7=>
 (g_de N r7.1 1).bind fun r8=>
 (g_de N r8.1 2).bind fun r9=>
 (g_df N r9.1 r9.2).bind fun r10=>
 let v11:List (List UInt8×Bool×List UInt8):=([(r7.2,r8.2==1,r10.2)]:List (List UInt8×Bool×List UInt8))
 gd (roomOK (m5.length+v11.length) 40)<|
 (g_db.l4 N n c0 c1 (wi (m2+1)) r10.1.1 r10.1.2 (m5++v11)).bind some
 else
 some (m3,m4,m5)
def g_db(N:Nat)(a0:List UInt8):Option (List (List UInt8×Bool×List UInt8)×Bool):=
 (g_de N (a0,false) 1).bind fun r1=>
 (g_db.l4 N N a0 r1.2 0 r1.1.1 r1.1.2 []).bind fun r2=>
 bif !r2.2.1 then
 (g_as N r2.2.2).bind fun r3=>
 bif r3 then
 (g_ca N r2.2.2).bind fun r4=>
 some (r2.2.2,r4==a0)
 else
 some (r2.2.2,false)
 else
 some (r2.2.2,false)
def g_cv(N:Nat)(a0:Int×List UInt8):Option (List UInt8):=
 (g_br N a0.1 4).bind fun r1=>
 gd (decide (1+r1.length≤9223372036854775807))<|
 gd (decide ((([0]:List UInt8)++r1).length+a0.2.length≤9223372036854775807))<|
 (g_cg N ((([0]:List UInt8)++r1)++a0.2)).bind fun r2=>
 some r2
def g_cw(N:Nat)(a0:List UInt8)(a1:List UInt8):Option (List UInt8):=
 gd (decide (1+a0.length≤9223372036854775807))<|
 gd (decide ((([1]:List UInt8)++a0).length+a1.length≤9223372036854775807))<|
 (g_cg N ((([1]:List UInt8)++a0)++a1)).bind fun r2=>
 some r2
def g_dh.f(N:Nat):Nat→List (Int×List UInt8)→Option (List UInt8)
 |0,_=>none
 |n+1,a0=>
 bif (a0.length:Int)==0 then
 (g_cg N ([2]:List UInt8)).bind fun r1=>
 some r1
 else
 bif (a0.length:Int)==1 then
 a0[0]?.bind fun e2=>
 (g_cv N e2).bind fun r3=>
 some r3
 else
 let v4:Int:=wi ((wi ((a0.length:Int)+1)).tdiv 2)
 gd (decide (0≤v4))<|
 gd ((decide (0≤v4.toNat))&&(decide (v4.toNat≤a0.length)))<|
 (g_dh.f N n ((a0.take v4.toNat).drop 0)).bind fun r5=>
 gd (decide (0≤v4))<|
 gd ((decide (v4.toNat≤a0.length))&&(decide (a0.length≤a0.length)))<|
 (g_dh.f N n ((a0.take a0.length).drop v4.toNat)).bind fun r6=>
 (g_cw N r5 r6).bind fun r7=>
 some r7
def g_dh(N:Nat)(a0:List (Int×List UInt8)):Option (List UInt8):=g_dh.f N N a0
def g_aj(N:Nat)(a0:List (List UInt8)×List (Int×List UInt8)×List (List UInt8))(a1:Int):Option (Bool):=
 (g_dw N a1 0 (wi ((a0.1.length:Int)-1))).bind fun r2=>
 some r2
def g_cp(N:Nat)(a0:List UInt8):Option (Bool):=
 (g_dw N (a0.length:Int) 1 64).bind fun r1=>
 some r1
def g_cx(N:Nat)(a0:List UInt8)(a1:Int)(a2:Int)(a3:List UInt8):Option (List UInt8×Bool):=
 (g_dm N (wi (16+a1)) a2).bind fun r4=>
 (g_du N a0 r4 ([112,105,101,99,101]:List UInt8) a3).bind fun r5=>
 bif r5.2 then
 (g_cp N r5.1).bind fun r6=>
 some (r5.1,r6)
 else
 some (r5.1,false)
def g_bq(N:Nat)(a0:Int)(a1:Int)(a2:List UInt8):Option (List UInt8):=
 (g_br N a0 4).bind fun r3=>
 gd (decide (5+r3.length≤9223372036854775807))<|
 (g_br N a1 4).bind fun r4=>
 gd (decide ((([98,108,111,99,107]:List UInt8)++r3).length+r4.length≤9223372036854775807))<|
 gd (decide (((([98,108,111,99,107]:List UInt8)++r3)++r4).length+a2.length≤9223372036854775807))<|
 (g_cg N (((([98,108,111,99,107]:List UInt8)++r3)++r4)++a2)).bind fun r5=>
 some r5
def g_ar.l7(N:Nat):Nat→List UInt8→Int→Int→List (List UInt8)→List (Int×List UInt8)→List (List UInt8)→Int→List UInt8→Int→List UInt8→Int→List UInt8→Int→List UInt8→Int→List UInt8→Int→List UInt8→List (Int×Int)→List (Int×List UInt8)→List (List UInt8)→Option ((Bool×Int×List UInt8×Int×List UInt8)⊕(Int×List UInt8×Int×List UInt8×Int×List UInt8×Int×List UInt8×Int×List UInt8×Int×List UInt8×List (Int×Int)×List (Int×List UInt8)×List (List UInt8)))
 |0,_,_,_,_,_,_,_,_,_,_,_,_,_,_,_,_,_,_,_,_,_=>none
 |n+1,c0,c1,m2,m3,m4,m5,m6,m7,m8,m9,m10,m11,m12,m13,m14,m15,m16,m17,m18,m19,m20=>
 bif decide (m2<c1)then
 gd (decide (0≤m2))<|
 gd (decide (m2.toNat<m18.length))<|
 m18[m2.toNat]?.bind fun e21=>
 (g_aj N (m3,m4,m5) e21.1).bind fun r22=>
 bif !r22 then
 some (Sum.inl (false,0,([]:List UInt8),0,([]:List UInt8)))
 else
 (g_ap N (m3,m4,m5) e21.1).bind fun r23=>
 (g_cx N c0 m2 e21.2 r23).bind fun r24=>
 bif !r24.2 then
 some (Sum.inl (false,0,([]:List UInt8),0,([]:List UInt8)))
 else
 gd (roomOK (m20.length+([r24.1]:List (List UInt8)).length) 16)<|
 (g_bq N m2 e21.2 r23).bind fun r25=>
 gd (roomOK (m19.length+([(e21.2,r25)]:List (Int×List UInt8)).length) 24)<|
 (g_ar.l7 N n c0 c1 (wi (m2+1)) m3 m4 m5 m6 m7 m8 m9 m10 m11 m12 m13 m14 m15 m16 m17 m18 (m19++([(e21.2,r25)]:List (Int×List UInt8))) (m20++([r24.1]:List (List UInt8)))).bind some
 else
 some (Sum.inr (m6,m7,m8,m9,m10,m11,m12,m13,m14,m15,m16,m17,m18,m19,m20))
def g_ar(N:Nat)(a0:List (List UInt8)×List (Int×List UInt8)×List (List UInt8))(a1:List UInt8)(a2:Int×List UInt8):Option (((Int×List UInt8×List (List UInt8×Bool×List UInt8))×(Int×List (Int×Int)×List UInt8)×List (List UInt8))×Bool):=
 (g_dd N a2.2).bind fun r3=>
 bif !r3.2 then
 some (((0,([]:List UInt8),[]),(0,[],([]:List UInt8)),[]),false)
 else
 (g_ar.l7 N N a1 (r3.1.2.1.length:Int) 0 a0.1 a0.2.1 a0.2.2 a2.1 a2.2 0 ([]:List UInt8) 0 ([]:List UInt8) r3.1.1 r3.1.2.2 0 ([]:List UInt8) r3.1.1 r3.1.2.2 r3.1.2.1 [] []).bind fun r4=>
 alt r4 (fun y5=>
 some (((y5.2.1,y5.2.2.1,[]),(y5.2.2.2.1,[],y5.2.2.2.2),[]),y5.1)) fun z6=>
 (g_gg N z6.2.2.2.2.2.2.2.2.2.2.2.2.2.2 ([]:List UInt8)).bind fun r7=>
 (g_db N r7).bind fun r8=>
 bif r8.2 then
 bif (r7.length:Int)==z6.2.2.2.2.2.2.1 then
 (g_dh N z6.2.2.2.2.2.2.2.2.2.2.2.2.2.1).bind fun r9=>
 some (((z6.1,z6.2.2.2.2.2.2.2.1,r8.1),(z6.2.2.2.2.2.2.2.2.2.2.1,z6.2.2.2.2.2.2.2.2.2.2.2.2.1,z6.2.2.2.2.2.2.2.2.2.2.2.1),z6.2.2.2.2.2.2.2.2.2.2.2.2.2.2),r9==z6.2.2.2.2.2.2.2.1)
 else
 some (((z6.1,z6.2.2.2.2.2.2.2.1,r8.1),(z6.2.2.2.2.2.2.2.2.2.2.1,z6.2.2.2.2.2.2.2.2.2.2.2.2.1,z6.2.2.2.2.2.2.2.2.2.2.2.1),z6.2.2.2.2.2.2.2.2.2.2.2.2.2.2),false)
 else
 some (((z6.1,z6.2.2.2.2.2.2.2.1,r8.1),(z6.2.2.2.2.2.2.2.2.2.2.1,z6.2.2.2.2.2.2.2.2.2.2.2.2.1,z6.2.2.2.2.2.2.2.2.2.2.2.1),z6.2.2.2.2.2.2.2.2.2.2.2.2.2.2),false)
def g_al.l3(N:Nat):Nat→List UInt8→Int→List (List UInt8)→List (Int×List UInt8)→List (List UInt8)→Int→List UInt8→Int→List UInt8→Int→List UInt8→Int→List UInt8→List (List UInt8×Bool×List UInt8)→List (Int×Int)→List (List UInt8)→Option (Int×List UInt8×Int×List UInt8×Int×List UInt8×Int×List UInt8×List (List UInt8×Bool×List UInt8)×List (Int×Int)×List (List UInt8))
 |0,_,_,_,_,_,_,_,_,_,_,_,_,_,_,_,_=>none
 |n+1,c0,m1,m2,m3,m4,m5,m6,m7,m8,m9,m10,m11,m12,m13,m14,m15=>
 bif decide (m1<2)then
 (g_ap N (m2,m3,m4) m1).bind fun r16=>
 (g_dc N c0 m1 r16).bind fun r17=>
 bif !r17.2 then
 (g_al.l3 N n c0 (wi (m1+1)) m2 m3 m4 m5 m6 m7 m8 m9 m10 m11 m12 m13 m14 m15).bind some
 else
 bif decide (r17.1.1≤m9)then
 (g_al.l3 N n c0 (wi (m1+1)) m2 m3 m4 m5 m6 m7 m8 m9 m10 m11 m12 m13 m14 m15).bind some
 else
 (g_ar N (m2,m3,m4) c0 r17.1).bind fun r18=>
 bif r18.2 then
 (g_al.l3 N n c0 (wi (m1+1)) m2 m3 m4 m5 m6 m7 m8 r18.1.1.1 r18.1.1.2.1 r18.1.2.1.1 r18.1.2.1.2.2 r18.1.1.2.2 r18.1.2.1.2.1 r18.1.2.2).bind some
 else
 (g_al.l3 N n c0 (wi (m1+1)) m2 m3 m4 m5 m6 m7 m8 m9 m10 m11 m12 m13 m14 m15).bind some
 else
 some (m5,m6,m7,m8,m9,m10,m11,m12,m13,m14,m15)
def g_al(N:Nat)(a0:List (List UInt8)×List (Int×List UInt8)×List (List UInt8))(a1:List UInt8):Option (((Int×List UInt8×List (List UInt8×Bool×List UInt8))×(Int×List (Int×Int)×List UInt8)×List (List UInt8))×Bool):=
 (g_al.l3 N N a1 0 a0.1 a0.2.1 a0.2.2 0 ([]:List UInt8) 0 ([]:List UInt8) 0 ([]:List UInt8) 0 ([]:List UInt8) [] [] []).bind fun r2=>
 some (((r2.2.2.2.2.1,r2.2.2.2.2.2.1,r2.2.2.2.2.2.2.2.2.1),(r2.2.2.2.2.2.2.1,r2.2.2.2.2.2.2.2.2.2.1,r2.2.2.2.2.2.2.2.1),r2.2.2.2.2.2.2.2.2.2.2),decide (r2.2.2.2.2.1>0))
def g_bc(N:Nat)(a0:Int×Int)(a1:Int):Option (Bool):=
 some (a0.1==a1)
def g_ey.l2(N:Nat):Nat→List (Int×Int)→Int→Int→Int→Option ((Int×Int)⊕Int)
 |0,_,_,_,_=>none
 |n+1,c0,c1,m2,m3=>
 bif decide (m3<c1)then
 gd (decide (0≤m3))<|
 c0[m3.toNat]?.bind fun e4=>
 (g_bc N e4 m2).bind fun r5=>
 bif r5 then
 some (Sum.inl (m2,m3))
 else
 (g_ey.l2 N n c0 c1 m2 (wi (m3+1))).bind some
 else
 some (Sum.inr m2)
def g_ey(N:Nat)(a0:List (Int×Int))(a1:Int):Option (Int):=
 (g_ey.l2 N N a0 (a0.length:Int) a1 0).bind fun r2=>
 alt r2 (fun y3=>
 some y3.2) fun _=>
 some (-1)
def g_er(N:Nat)(a0:List (Int×Int))(a1:Int):Option (Bool):=
 (g_ey N a0 a1).bind fun r2=>
 some (decide (r2≥0))
def g_bb.l3(N:Nat):Nat→Int→Int→List (Int×Int)→List UInt8→Int→List Int→Option (List Int)
 |0,_,_,_,_,_,_=>none
 |n+1,c0,m1,m2,m3,m4,m5=>
 bif decide (m4<c0)then
 (g_er N m2 m4).bind fun r6=>
 bif !r6 then
 gd (roomOK (m5.length+([m4]:List Int).length) 8)<|
 (g_bb.l3 N n c0 m1 m2 m3 (wi (m4+1)) (m5++([m4]:List Int))).bind some
 else
 (g_bb.l3 N n c0 m1 m2 m3 (wi (m4+1)) m5).bind some
 else
 some m5
def g_bb(N:Nat)(a0:Int×List (Int×Int)×List UInt8)(a1:Int):Option (List Int):=
 (g_bb.l3 N N a1 a0.1 a0.2.1 a0.2.2 2 []).bind fun r2=>
 some r2
def g_bw.l2(N:Nat):Nat→List UInt8→List (List UInt8)→Option (List (List UInt8))
 |0,_,_=>none
 |n+1,m0,m1=>
 bif decide ((m0.length:Int)>0)then
 gd (decide (0≤(min 64 (m0.length:Int))))<|
 gd ((decide (0≤(min 64 (m0.length:Int)).toNat))&&(decide ((min 64 (m0.length:Int)).toNat≤m0.length)))<|
 let v2:List UInt8:=(m0.take (min 64 (m0.length:Int)).toNat).drop 0
 gd (roomOK (m1.length+([v2]:List (List UInt8)).length) 16)<|
 gd (decide (0≤(min 64 (m0.length:Int))))<|
 gd ((decide ((min 64 (m0.length:Int)).toNat≤m0.length))&&(decide (m0.length≤m0.length)))<|
 let v3:List UInt8:=(m0.take m0.length).drop (min 64 (m0.length:Int)).toNat
 (g_bw.l2 N n v3 (m1++([v2]:List (List UInt8)))).bind some
 else
 some m1
def g_bw(N:Nat)(a0:List UInt8):Option (List (List UInt8)):=
 (g_bw.l2 N N a0 []).bind fun r1=>
 some r1
def g_dq.l3(N:Nat):Nat→List (Int×Int)→Int→List UInt8→Int→Int→List (Int×Int)→List UInt8→Option (List UInt8×Int×List (Int×Int)×List UInt8)
 |0,_,_,_,_,_,_,_=>none
 |n+1,c0,c1,m2,m3,m4,m5,m6=>
 bif decide (m3<c1)then
 gd (decide (0≤m3))<|
 c0[m3.toNat]?.bind fun e7=>
 (g_br N e7.1 1).bind fun r8=>
 (g_br N e7.2 2).bind fun r9=>
 gd (decide (r8.length+r9.length≤9223372036854775807))<|
 gd (decide (m2.length+(r8++r9).length≤9223372036854775807))<|
 (g_dq.l3 N n c0 c1 (m2++(r8++r9)) (wi (m3+1)) m4 m5 m6).bind some
 else
 some (m2,m4,m5,m6)
def g_dq(N:Nat)(a0:Int×List (Int×Int)×List UInt8):Option (List UInt8):=
 (g_br N a0.1 2).bind fun r1=>
 (g_dq.l3 N N a0.2.1 (a0.2.1.length:Int) r1 0 a0.1 a0.2.1 a0.2.2).bind fun r2=>
 gd (decide (r2.1.length+r2.2.2.2.length≤9223372036854775807))<|
 some (r2.1++r2.2.2.2)
def g_dk(N:Nat)(a0:List UInt8)(a1:List UInt8)(a2:List UInt8)(a3:List UInt8):Option (List UInt8):=
 (g_dl N a0).bind fun r4=>
 (g_bv N r4.1 a1 a3).bind fun r5=>
 (g_dr N r4.2 a1 a2 r5).bind fun r6=>
 gd (decide (r5.length+r6.length≤9223372036854775807))<|
 some (r5++r6)
def g_do(N:Nat)(a0:List UInt8)(a1:Int)(a2:Int×List UInt8):Option (List UInt8):=
 (g_br N a2.1 4).bind fun r3=>
 (g_dm N a1 a2.1).bind fun r4=>
 (g_dk N a0 r4 ([115,108,111,116]:List UInt8) a2.2).bind fun r5=>
 gd (decide (r3.length+r5.length≤9223372036854775807))<|
 some (r3++r5)
def g_dn(N:Nat)(a0:List UInt8)(a1:Int)(a2:Int)(a3:List UInt8):Option (List UInt8):=
 (g_dm N (wi (16+a1)) a2).bind fun r4=>
 (g_dk N a0 r4 ([112,105,101,99,101]:List UInt8) a3).bind fun r5=>
 some r5
def g_ao.l11(N:Nat):Nat→List UInt8→Int→Int→Int→Int→Int→List (List UInt8)→List (Int×List UInt8)→List (List UInt8)→Int→List UInt8→Int→List UInt8→Int→List UInt8→List Int→List (List UInt8)→List (List UInt8×Bool×List UInt8)→List (Int×Int)→List (List UInt8)→List (Int×List UInt8)→List (Int×Int)→List (Int×Int×List UInt8×List Bool×Int)→Option ((List UInt8×Bool)⊕(Int×List UInt8×List (Int×Int×List UInt8×List Bool×Int)×List (Int×List UInt8)×List (Int×Int)))
 |0,_,_,_,_,_,_,_,_,_,_,_,_,_,_,_,_,_,_,_,_,_,_,_=>none
 |n+1,c0,c1,c2,m3,m4,m5,m6,m7,m8,m9,m10,m11,m12,m13,m14,m15,m16,m17,m18,m19,m20,m21,m22=>
 bif decide (m5<c2)then
 gd (decide (0≤m5))<|
 gd (decide (m5.toNat<m16.length))<|
 m16[m5.toNat]?.bind fun e23=>
 bif decide (m5<(m19.length:Int))then
 gd (decide (0≤m5))<|
 gd (decide (m5.toNat<m19.length))<|
 m19[m5.toNat]?.bind fun e24=>
 bif e24==e23 then
 gd (decide (0≤m5))<|
 gd (decide (m5.toNat<m18.length))<|
 m18[m5.toNat]?.bind fun e25=>
 gd (roomOK (m21.length+([e25]:List (Int×Int)).length) 16)<|
 (g_ap N (m6,m7,m8) e25.1).bind fun r26=>
 (g_bq N m5 e25.2 r26).bind fun r27=>
 gd (roomOK (m20.length+([(e25.2,r27)]:List (Int×List UInt8)).length) 24)<|
 (g_ao.l11 N n c0 c1 c2 (m3.toNat:Int) (m4.toNat:Int) (wi (m5+1)) m6 m7 m8 m9 m10 m11 m12 m13 m14 m15 m16 m17 m18 m19 (m20++([(e25.2,r27)]:List (Int×List UInt8))) (m21++([e25]:List (Int×Int))) m22).bind some
 else
 bif (m4.toNat:Int)==0 then
 some (Sum.inl (([]:List UInt8),false))
 else
 (g_dn N c0 m5 c1 e23).bind fun r28=>
 gd (decide (0<m4.toNat))<|
 m15[(m3.toNat+0)]?.bind fun e29=>
 let v30:List (Int×Int×List UInt8×List Bool×Int):=([(1,e29,r28,[],0)]:List (Int×Int×List UInt8×List Bool×Int))
 gd (roomOK (m22.length+v30.length) 64)<|
 gd (decide (0<m4.toNat))<|
 m15[(m3.toNat+0)]?.bind fun e31=>
 gd (roomOK (m21.length+([(e31,c1)]:List (Int×Int)).length) 16)<|
 (g_bq N m5 c1 r28).bind fun r32=>
 gd (roomOK (m20.length+([(c1,r32)]:List (Int×List UInt8)).length) 24)<|
 gd ((decide (1≤m4.toNat))&&(decide (m4.toNat≤m4.toNat)))<|
 (g_ao.l11 N n c0 c1 c2 (((m3.toNat+1):Nat):Int) (((m4.toNat-1):Nat):Int) (wi (m5+1)) m6 m7 m8 m9 m10 m11 m12 m13 m14 m15 m16 m17 m18 m19 (m20++([(c1,r32)]:List (Int×List UInt8))) (m21++([(e31,c1)]:List (Int×Int))) (m22++v30)).bind some
 else
 bif (m4.toNat:Int)==0 then
 some (Sum.inl (([]:List UInt8),false))
 else
 (g_dn N c0 m5 c1 e23).bind fun r33=>
 gd (decide (0<m4.toNat))<|
 m15[(m3.toNat+0)]?.bind fun e34=>
 let v35:List (Int×Int×List UInt8×List Bool×Int):=([(1,e34,r33,[],0)]:List (Int×Int×List UInt8×List Bool×Int))
 gd (roomOK (m22.length+v35.length) 64)<|
 gd (decide (0<m4.toNat))<|
 m15[(m3.toNat+0)]?.bind fun e36=>
 gd (roomOK (m21.length+([(e36,c1)]:List (Int×Int)).length) 16)<|
 (g_bq N m5 c1 r33).bind fun r37=>
 gd (roomOK (m20.length+([(c1,r37)]:List (Int×List UInt8)).length) 24)<|
 gd ((decide (1≤m4.toNat))&&(decide (m4.toNat≤m4.toNat)))<|
 (g_ao.l11 N n c0 c1 c2 (((m3.toNat+1):Nat):Int) (((m4.toNat-1):Nat):Int) (wi (m5+1)) m6 m7 m8 m9 m10 m11 m12 m13 m14 m15 m16 m17 m18 m19 (m20++([(c1,r37)]:List (Int×List UInt8))) (m21++([(e36,c1)]:List (Int×Int))) (m22++v35)).bind some
 else
 some (Sum.inr (m13,m14,m22,m20,m21))
def g_ao(N:Nat)(a0:List (List UInt8)×List (Int×List UInt8)×List (List UInt8))(a1:List UInt8)(a2:List (List UInt8×Bool×List UInt8)):Option (List (Int×Int×List UInt8×List Bool×Int)×List UInt8×Bool):=
 (g_ca N a2).bind fun r3=>
 (g_al N a0 a1).bind fun r4=>
 bif decide ((r3.length:Int)>1024)then
 some ([],([]:List UInt8),false)
 else
 (g_cr N (wi (r4.1.1.1+1))).bind fun r5=>
 bif !r5 then
 some ([],([]:List UInt8),false)
 else
 (g_bb N r4.1.2.1 (a0.1.length:Int)).bind fun r6=>
 (g_bw N r3).bind fun r7=>
 (g_ao.l11 N N a1 (wi (r4.1.1.1+1)) (r7.length:Int) 0 (r6.length:Int) 0 a0.1 a0.2.1 a0.2.2 r4.1.1.1 r4.1.1.2.1 r4.1.2.1.1 r4.1.2.1.2.2 (r3.length:Int) ([]:List UInt8) r6 r7 r4.1.1.2.2 r4.1.2.1.2.1 r4.1.2.2 [] [] []).bind fun r8=>
 alt r8 (fun y9=>
 some ([],y9)) fun z10=>
 (g_dh N z10.2.2.2.1).bind fun r11=>
 (g_dq N (z10.1,z10.2.2.2.2,r11)).bind fun r12=>
 (g_do N a1 ((wi (r4.1.1.1+1)).tmod 2) (wi (r4.1.1.1+1),r12)).bind fun r13=>
 let v14:List (Int×Int×List UInt8×List Bool×Int):=([(2,0,([]:List UInt8),[],0),(1,(wi (r4.1.1.1+1)).tmod 2,r13,[],0),(2,0,([]:List UInt8),[],0)]:List (Int×Int×List UInt8×List Bool×Int))
 gd (roomOK (z10.2.2.1.length+v14.length) 64)<|
 some (z10.2.2.1++v14,r11,true)
def g_cj(N:Nat)(a0:List UInt8):Option (Bool):=
 some (decide ((a0.length:Int)≤200))
def g_an(N:Nat)(a0:List (List UInt8)×List (Int×List UInt8)×List (List UInt8))(a1:Int×Int×List UInt8×List Bool×Int):Option (Int):=
 (g_aj N a0 a1.2.1).bind fun r2=>
 bif !r2 then
 some 4
 else
 (g_cj N a1.2.2.1).bind fun r3=>
 bif !r3 then
 some 2
 else
 some 0
def g_aq.l1(N:Nat):Nat→Int→Int→List (Int×List UInt8)→List (List UInt8)→List (List UInt8)→Option (List (List UInt8)×List (Int×List UInt8)×List (List UInt8))
 |0,_,_,_,_,_=>none
 |n+1,c0,m1,m2,m3,m4=>
 bif decide (m1<c0)then
 gd (decide (0≤m1))<|
 gd (decide (m1.toNat<m2.length))<|
 m2[m1.toNat]?.bind fun e5=>
 gd (decide (0≤e5.1))<|
 gd (decide (e5.1.toNat<m3.length))<|
 m3[e5.1.toNat]?.bind fun _=>
 (g_aq.l1 N n c0 (wi (m1+1)) m2 (m3.set e5.1.toNat e5.2) m4).bind some
 else
 some (m3,m2,m4)
def g_aq(N:Nat)(a0:List (List UInt8)×List (Int×List UInt8)×List (List UInt8)):Option (List (List UInt8)×List (Int×List UInt8)×List (List UInt8)):=
 (g_aq.l1 N N (a0.2.1.length:Int) 0 a0.2.1 a0.1 a0.2.2).bind fun r1=>
 some (r1.1,[],r1.2.2)
def g_ai.l2(N:Nat):Nat→List Bool→Int→Int→Bool→Int→List (Int×List UInt8)→List (List UInt8)→List (List UInt8)→Option (List (List UInt8)×List (Int×List UInt8)×List (List UInt8))
 |0,_,_,_,_,_,_,_,_=>none
 |n+1,c0,c1,c2,m3,m4,m5,m6,m7=>
 bif decide (m4<c2)then
 gd (decide (0≤m4))<|
 gd (decide (m4.toNat<m5.length))<|
 m5[m4.toNat]?.bind fun e8=>
 bif decide (m4<(c0.length:Int))then
 gd (decide (0≤m4))<|
 c0[m4.toNat]?.bind fun e9=>
 bif e9 then
 gd (decide (0≤e8.1))<|
 gd (decide (e8.1.toNat<m6.length))<|
 m6[e8.1.toNat]?.bind fun _=>
 (g_ai.l2 N n c0 c1 c2 m3 (wi (m4+1)) m5 (m6.set e8.1.toNat e8.2) m7).bind some
 else
 bif !m3 then
 gd (decide (0≤e8.1))<|
 gd (decide (e8.1.toNat<m6.length))<|
 m6[e8.1.toNat]?.bind fun e10=>
 gd (decide (0≤(min (max c1 0) (e8.2.length:Int))))<|
 gd ((decide (0≤(min (max c1 0) (e8.2.length:Int)).toNat))&&(decide ((min (max c1 0) (e8.2.length:Int)).toNat≤e8.2.length)))<|
 let v11:List UInt8:=(e8.2.take (min (max c1 0) (e8.2.length:Int)).toNat).drop 0
 let v12:Int:=min (min (max c1 0) (e8.2.length:Int)) (e10.length:Int)
 gd (decide (0≤v12))<|
 gd ((decide (v12.toNat≤e10.length))&&(decide (e10.length≤e10.length)))<|
 gd (decide (v11.length+((e10.take e10.length).drop v12.toNat).length≤9223372036854775807))<|
 let v13:List UInt8:=v11++((e10.take e10.length).drop v12.toNat)
 gd (decide (0≤e8.1))<|
 gd (decide (e8.1.toNat<m6.length))<|
 m6[e8.1.toNat]?.bind fun _=>
 (g_ai.l2 N n c0 c1 c2 true (wi (m4+1)) m5 (m6.set e8.1.toNat v13) m7).bind some
 else
 (g_ai.l2 N n c0 c1 c2 m3 (wi (m4+1)) m5 m6 m7).bind some
 else
 bif !m3 then
 gd (decide (0≤e8.1))<|
 gd (decide (e8.1.toNat<m6.length))<|
 m6[e8.1.toNat]?.bind fun e14=>
 gd (decide (0≤(min (max c1 0) (e8.2.length:Int))))<|
 gd ((decide (0≤(min (max c1 0) (e8.2.length:Int)).toNat))&&(decide ((min (max c1 0) (e8.2.length:Int)).toNat≤e8.2.length)))<|
 let v15:List UInt8:=(e8.2.take (min (max c1 0) (e8.2.length:Int)).toNat).drop 0
 let v16:Int:=min (min (max c1 0) (e8.2.length:Int)) (e14.length:Int)
 gd (decide (0≤v16))<|
 gd ((decide (v16.toNat≤e14.length))&&(decide (e14.length≤e14.length)))<|
 gd (decide (v15.length+((e14.take e14.length).drop v16.toNat).length≤9223372036854775807))<|
 let v17:List UInt8:=v15++((e14.take e14.length).drop v16.toNat)
 gd (decide (0≤e8.1))<|
 gd (decide (e8.1.toNat<m6.length))<|
 m6[e8.1.toNat]?.bind fun _=>
 (g_ai.l2 N n c0 c1 c2 true (wi (m4+1)) m5 (m6.set e8.1.toNat v17) m7).bind some
 else
 (g_ai.l2 N n c0 c1 c2 m3 (wi (m4+1)) m5 m6 m7).bind some
 else
 some (m6,m5,m7)
def g_ai(N:Nat)(a0:List (List UInt8)×List (Int×List UInt8)×List (List UInt8))(a1:List Bool)(a2:Int):Option (List (List UInt8)×List (Int×List UInt8)×List (List UInt8)):=
 (g_ai.l2 N N a1 a2 (a0.2.1.length:Int) false 0 a0.2.1 a0.1 a0.2.2).bind fun r3=>
 some (r3.1,[],r3.2.2)
def g_en(N:Nat)(a0:List (List UInt8)):Option (List (List UInt8)):=
 bif a0.isEmpty then none else
 gd (roomOK (0+a0.length) 16)<|
 some ([]++a0)
def g_em(N:Nat)(a0:List (List UInt8)):Option (List (List UInt8)):=
 bif a0.isEmpty then
 some []
 else
 g_en N a0
def g_ae(N:Nat)(a0:List (List UInt8)×List (Int×List UInt8)×List (List UInt8))(a1:Int×Int×List UInt8×List Bool×Int):Option ((List (List UInt8)×List (Int×List UInt8)×List (List UInt8))×Int):=
 bif a1.1==1 then
 bif a1.1==1 then
 (g_an N a0 a1).bind fun r2=>
 bif r2 !=0 then
 some (a0,r2)
 else
 bif a1.1==6 then
 gd (decide (0≤a1.2.1))<|
 gd (decide (a1.2.1.toNat<a0.1.length))<|
 a0.1[a1.2.1.toNat]?.bind fun _=>
 some ((a0.1.set a1.2.1.toNat a1.2.2.1,a0.2),0)
 else
 bif (a0.2.1.length:Int)==4096 then
 some (a0,7)
 else
 gd (roomOK (a0.2.1.length+([(a1.2.1,a1.2.2.1)]:List (Int×List UInt8)).length) 24)<|
 some ((a0.1,a0.2.1++([(a1.2.1,a1.2.2.1)]:List (Int×List UInt8)),a0.2.2),0)
 else
 bif a1.1==2 then
 (g_aq N a0).bind fun r3=>
 some (r3,0)
 else
 bif a1.1==3 then
 (g_ai N a0 a1.2.2.2.1 a1.2.2.2.2).bind fun r4=>
 some (r4,0)
 else
 bif a1.1==4 then
 (g_em N a0.1).bind fun r5=>
 some ((a0.1,a0.2.1,r5),0)
 else
 bif a1.1==5 then
 bif (a0.2.2.length:Int)==0 then
 some (a0,5)
 else
 (g_em N a0.2.2).bind fun r6=>
 some ((r6,[],a0.2.2),0)
 else
 some (a0,3)
 else
 bif a1.1==6 then
 (g_an N a0 a1).bind fun r7=>
 bif r7 !=0 then
 some (a0,r7)
 else
 bif a1.1==6 then
 gd (decide (0≤a1.2.1))<|
 gd (decide (a1.2.1.toNat<a0.1.length))<|
 a0.1[a1.2.1.toNat]?.bind fun _=>
 some ((a0.1.set a1.2.1.toNat a1.2.2.1,a0.2),0)
 else
 bif (a0.2.1.length:Int)==4096 then
 some (a0,7)
 else
 gd (roomOK (a0.2.1.length+([(a1.2.1,a1.2.2.1)]:List (Int×List UInt8)).length) 24)<|
 some ((a0.1,a0.2.1++([(a1.2.1,a1.2.2.1)]:List (Int×List UInt8)),a0.2.2),0)
 else
 bif a1.1==2 then
 (g_aq N a0).bind fun r8=>
 some (r8,0)
 else
 bif a1.1==3 then
 (g_ai N a0 a1.2.2.2.1 a1.2.2.2.2).bind fun r9=>
 some (r9,0)
 else
 bif a1.1==4 then
 (g_em N a0.1).bind fun r10=>
 some ((a0.1,a0.2.1,r10),0)
 else
 bif a1.1==5 then
 bif (a0.2.2.length:Int)==0 then
 some (a0,5)
 else
 (g_em N a0.2.2).bind fun r11=>
 some ((r11,[],a0.2.2),0)
 else
 some (a0,3)
def g_af(N:Nat)(a0:Int×Int×List UInt8×List Bool×Int)(a1:List (List UInt8)×List (Int×List UInt8)×List (List UInt8)):Option ((List (List UInt8)×List (Int×List UInt8)×List (List UInt8))×Bool):=
 (g_ae N a1 a0).bind fun r2=>
 some (r2.1,r2.2==0)
def g_bg(N:Nat)(a0:Int×Int×List UInt8×List Bool×Int)(a1:List (List UInt8)×List (Int×List UInt8)×List (List UInt8)):Option ((List (List UInt8)×List (Int×List UInt8)×List (List UInt8))×Bool):=
 (g_af N a0 a1).bind fun r2=>
 some (r2.1,!r2.2)
def g_ev.l2(N:Nat):Nat→List (Int×Int×List UInt8×List Bool×Int)→Int→Int→List (List UInt8)→List (Int×List UInt8)→List (List UInt8)→Option ((Int×List (List UInt8)×List (Int×List UInt8)×List (List UInt8))⊕(List (List UInt8)×List (Int×List UInt8)×List (List UInt8)))
 |0,_,_,_,_,_,_=>none
 |n+1,c0,c1,m2,m3,m4,m5=>
 bif decide (m2<c1)then
 gd (decide (0≤m2))<|
 c0[m2.toNat]?.bind fun e6=>
 (g_bg N e6 (m3,m4,m5)).bind fun r7=>
 bif r7.2 then
 some (Sum.inl (m2,r7.1))
 else
 (g_ev.l2 N n c0 c1 (wi (m2+1)) r7.1.1 r7.1.2.1 r7.1.2.2).bind some
 else
 some (Sum.inr (m3,m4,m5))
def g_ev(N:Nat)(a0:List (Int×Int×List UInt8×List Bool×Int))(a1:List (List UInt8)×List (Int×List UInt8)×List (List UInt8)):Option ((List (List UInt8)×List (Int×List UInt8)×List (List UInt8))×Int):=
 (g_ev.l2 N N a0 (a0.length:Int) 0 a1.1 a1.2.1 a1.2.2).bind fun r2=>
 alt r2 (fun y3=>
 some (y3.2,y3.1)) fun z4=>
 some (z4,(-1))
def g_eo(N:Nat)(a0:List (Int×Int×List UInt8×List Bool×Int))(a1:List (List UInt8)×List (Int×List UInt8)×List (List UInt8)):Option ((List (List UInt8)×List (Int×List UInt8)×List (List UInt8))×Bool):=
 (g_ev N a0 a1).bind fun r2=>
 some (r2.1,decide (r2.2≥0))
def g_bh(N:Nat)(a0:List (Int×Int×List UInt8×List Bool×Int))(a1:List (List UInt8)×List (Int×List UInt8)×List (List UInt8)):Option ((List (List UInt8)×List (Int×List UInt8)×List (List UInt8))×Bool):=
 (g_eo N a0 a1).bind fun r2=>
 some (r2.1,!r2.2)
def g_ag(N:Nat)(a0:List (List UInt8)×List (Int×List UInt8)×List (List UInt8))(a1:List (Int×Int×List UInt8×List Bool×Int)):Option ((List (List UInt8)×List (Int×List UInt8)×List (List UInt8))×Bool):=
 (g_bh N a1 a0).bind fun r2=>
 some r2
def g_ce(N:Nat)(a0:List UInt8)(a1:Int):Option ((List (List UInt8)×List (Int×List UInt8)×List (List UInt8))×List UInt8):=
 (g_ct N a1).bind fun r2=>
 (g_ao N r2 a0 []).bind fun r3=>
 (g_ag N r2 r3.1).bind fun r4=>
 some (r4.1,r3.2.1)
def g_cu(N:Nat)(a0:List UInt8)(a1:Int):Option ((List (List UInt8)×List (Int×List UInt8)×List (List UInt8))×(Int×Int×List UInt8)×Bool×List (List UInt8×Bool×List UInt8)):=
 (g_ce N a0 a1).bind fun r2=>
 some (r2.1,(0,1,r2.2),false,[])
def g_el(N:Nat)(a0:List (Int×List UInt8)):Option (List (Int×List UInt8)):=
 bif a0.isEmpty then none else
 gd (roomOK (0+a0.length) 24)<|
 some ([]++a0)
def g_ek(N:Nat)(a0:List (Int×List UInt8)):Option (List (Int×List UInt8)):=
 bif a0.isEmpty then
 some []
 else
 g_el N a0
def g_am(N:Nat)(a0:List (List UInt8)×List (Int×List UInt8)×List (List UInt8)):Option (List (List UInt8)×List (Int×List UInt8)×List (List UInt8)):=
 (g_em N a0.1).bind fun r1=>
 (g_ek N a0.2.1).bind fun r2=>
 (g_em N a0.2.2).bind fun r3=>
 some (r1,r2,r3)
def g_ej(N:Nat)(a0:List (List UInt8×Bool×List UInt8)):Option (List (List UInt8×Bool×List UInt8)):=
 bif a0.isEmpty then none else
 gd (roomOK (0+a0.length) 40)<|
 some ([]++a0)
def g_ei(N:Nat)(a0:List (List UInt8×Bool×List UInt8)):Option (List (List UInt8×Bool×List UInt8)):=
 bif a0.isEmpty then
 some []
 else
 g_ej N a0
def g_bf(N:Nat)(a0:(List (List UInt8)×List (Int×List UInt8)×List (List UInt8))×(Int×Int×List UInt8)×Bool×List (List UInt8×Bool×List UInt8)):Option ((List (List UInt8)×List (Int×List UInt8)×List (List UInt8))×(Int×Int×List UInt8)×Bool×List (List UInt8×Bool×List UInt8)):=
 (g_am N a0.1).bind fun r1=>
 (g_ei N a0.2.2.2).bind fun r2=>
 some (r1,a0.2.1,a0.2.2.1,r2)
def g_aw(N:Nat)(a0:List UInt8)(a1:Int):Option (((List (List UInt8)×List (Int×List UInt8)×List (List UInt8))×(Int×Int×List UInt8)×Bool×List (List UInt8×Bool×List UInt8))×Int):=
 (g_cf N a0 a1).bind fun r2=>
 bif r2 !=0 then
 some ((([],[],[]),(0,0,([]:List UInt8)),false,[]),r2)
 else
 (g_cu N a0 a1).bind fun r3=>
 (g_bf N r3).bind fun r4=>
 some (r4,0)
def g_fe(N:Nat)(a0:List UInt8):Option (List UInt8×Int×Int):=
 some (a0,0,(a0.length:Int).tmod 1000)
def g_fl(N:Nat)(a0:List UInt8×Int×Int)(a1:Int):Option (Int):=
 let v2:Int:=wi (1+(wi ((a0.1.length:Int).tdiv 12)))
 some (min v2 a1)
def g_ff(N:Nat)(a0:List UInt8×Int×Int):Option ((List UInt8×Int×Int)×Int):=
 let v1:Bool:=decide ((wi (a0.2.1+1))≤(a0.1.length:Int))
 bif v1 then
 gd (decide (0≤(wi ((wi (a0.2.1+1))-1))))<|
 a0.1[(wi ((wi (a0.2.1+1))-1)).toNat]?.bind fun e2=>
 let v3:Int:=wi ((wi (a0.2.2*31))+(wi (e2.toNat:Int)))
 gd (decide (0≤(wi ((wi (a0.2.1+1))-1))))<|
 a0.1[(wi ((wi (a0.2.1+1))-1)).toNat]?.bind fun e4=>
 some ((a0.1,wi (a0.2.1+1),(wi (v3+7)).tmod 2147483648),wi (e4.toNat:Int))
 else
 bif decide ((wi (a0.2.1+1))>3000)then
 some ((a0.1,wi (a0.2.1+1),a0.2.2),0)
 else
 let v5:Int:=(wi ((wi (a0.2.2*1103515245))+12345)).tmod 2147483648
 some ((a0.1,wi (a0.2.1+1),v5),(wi (v5.tdiv 65536)).tmod 256)
def g_fi(N:Nat)(a0:List UInt8×Int×Int)(a1:Int):Option ((List UInt8×Int×Int)×Int):=
 bif decide (a1≤1)then
 some (a0,0)
 else
 bif decide (a1≤256)then
 (g_ff N a0).bind fun r2=>
 bif a1==0 then none else
 some (r2.1,r2.2.tmod a1)
 else
 (g_ff N a0).bind fun r3=>
 (g_ff N r3.1).bind fun r4=>
 (g_ff N r4.1).bind fun r5=>
 let v6:Int:=wi ((wi (r3.2*65536))+(wi (r4.2*256)))
 bif a1==0 then none else
 some (r5.1,(wi (v6+r5.2)).tmod a1)
def g_fk(N:Nat)(a0:List UInt8×Int×Int)(a1:List (List UInt8)):Option ((List UInt8×Int×Int)×List UInt8):=
 bif (a1.length:Int)==0 then
 some (a0,([]:List UInt8))
 else
 (g_fi N a0 (a1.length:Int)).bind fun r2=>
 gd (decide (0≤r2.2))<|
 a1[r2.2.toNat]?.bind fun e3=>
 some (r2.1,e3)
def g_fj(N:Nat)(a0:List UInt8×Int×Int):Option ((List UInt8×Int×Int)×List UInt8):=
 (g_fk N a0 ([([97]:List UInt8),([98]:List UInt8),([100,105,114]:List UInt8),([100,105,114,47,97]:List UInt8),([100,105,114,47,98]:List UInt8),([100,105,114,47,115,117,98]:List UInt8),([100,105,114,47,115,117,98,47,120]:List UInt8),([111,116,104,101,114]:List UInt8),([111,116,104,101,114,47,97]:List UInt8)]:List (List UInt8))).bind fun r1=>
 some r1
def g_ft.l2(N:Nat):Nat→List (List UInt8×Bool×List UInt8)→List UInt8→Int→Option (Int⊕Unit)
 |0,_,_,_=>none
 |n+1,c0,c1,m2=>
 bif decide (m2<(c0.length:Int))then
 gd (decide (0≤m2))<|
 c0[m2.toNat]?.bind fun e3=>
 bif e3.1==c1 then
 some (Sum.inl m2)
 else
 (g_ft.l2 N n c0 c1 (wi (m2+1))).bind some
 else
 some (Sum.inr ())
def g_ft(N:Nat)(a0:List (List UInt8×Bool×List UInt8))(a1:List UInt8):Option (Int):=
 (g_ft.l2 N N a0 a1 0).bind fun r2=>
 alt r2 (fun y3=>
 some y3) fun _=>
 some (-1)
def g_fy.l2(N:Nat):Nat→List UInt8→Int→Option ((List UInt8)⊕Unit)
 |0,_,_=>none
 |n+1,c0,m1=>
 bif decide (m1≥0)then
 gd (decide (0≤m1))<|
 c0[m1.toNat]?.bind fun e2=>
 bif (e2.toNat:Int)==47 then
 gd (decide (0≤m1))<|
 gd ((decide (0≤m1.toNat))&&(decide (m1.toNat≤c0.length)))<|
 some (Sum.inl ((c0.take m1.toNat).drop 0))
 else
 (g_fy.l2 N n c0 (wi (m1-1))).bind some
 else
 some (Sum.inr ())
def g_fy(N:Nat)(a0:List UInt8):Option (List UInt8):=
 (g_fy.l2 N N a0 (wi ((a0.length:Int)-1))).bind fun r1=>
 alt r1 (fun y2=>
 some y2) fun _=>
 some ([]:List UInt8)
def g_fu(N:Nat)(a0:List (List UInt8×Bool×List UInt8))(a1:List UInt8):Option (Int):=
 bif a1==([]:List UInt8)then
 some 0
 else
 (g_ft N a0 a1).bind fun r2=>
 bif decide (r2<0)then
 some 5
 else
 gd (decide (0≤r2))<|
 a0[r2.toNat]?.bind fun e3=>
 bif !e3.2.1 then
 some 17
 else
 some 0
def g_fx(N:Nat)(a0:List (List UInt8×Bool×List UInt8))(a1:List UInt8):Option (Int):=
 (g_fy N a1).bind fun r2=>
 (g_fu N a0 r2).bind fun r3=>
 bif r3 !=0 then
 some r3
 else
 bif (a0.length:Int)==12 then
 some 7
 else
 some 0
def g_fz.l4(N:Nat):Nat→List (List UInt8×Bool×List UInt8)→Bool→Int→List UInt8→Bool→List UInt8→List (List UInt8×Bool×List UInt8)→Option (Bool×List UInt8×Bool×List UInt8×List (List UInt8×Bool×List UInt8))
 |0,_,_,_,_,_,_,_=>none
 |n+1,c0,m1,m2,m3,m4,m5,m6=>
 bif decide (m2<(c0.length:Int))then
 bif !m1 then
 gd (decide (0≤m2))<|
 c0[m2.toNat]?.bind fun e7=>
 bif !Op.bytesLess e7.1 m3 then
 gd (roomOK (m6.length+([(m3,m4,m5)]:List (List UInt8×Bool×List UInt8)).length) 40)<|
 let v8:List (List UInt8×Bool×List UInt8):=m6++([(m3,m4,m5)]:List (List UInt8×Bool×List UInt8))
 gd (decide (0≤m2))<|
 c0[m2.toNat]?.bind fun e9=>
 bif !(e9.1==m3)then
 gd (decide (0≤m2))<|
 c0[m2.toNat]?.bind fun e10=>
 gd (roomOK (v8.length+([e10]:List (List UInt8×Bool×List UInt8)).length) 40)<|
 (g_fz.l4 N n c0 true (wi (m2+1)) m3 m4 m5 (v8++([e10]:List (List UInt8×Bool×List UInt8)))).bind some
 else
 (g_fz.l4 N n c0 true (wi (m2+1)) m3 m4 m5 v8).bind some
 else
 gd (decide (0≤m2))<|
 c0[m2.toNat]?.bind fun e11=>
 bif !(e11.1==m3)then
 gd (decide (0≤m2))<|
 c0[m2.toNat]?.bind fun e12=>
 gd (roomOK (m6.length+([e12]:List (List UInt8×Bool×List UInt8)).length) 40)<|
 (g_fz.l4 N n c0 m1 (wi (m2+1)) m3 m4 m5 (m6++([e12]:List (List UInt8×Bool×List UInt8)))).bind some
 else
 (g_fz.l4 N n c0 m1 (wi (m2+1)) m3 m4 m5 m6).bind some
 else
 gd (decide (0≤m2))<|
 c0[m2.toNat]?.bind fun e13=>
 bif !(e13.1==m3)then
 gd (decide (0≤m2))<|
 c0[m2.toNat]?.bind fun e14=>
 gd (roomOK (m6.length+([e14]:List (List UInt8×Bool×List UInt8)).length) 40)<|
 (g_fz.l4 N n c0 m1 (wi (m2+1)) m3 m4 m5 (m6++([e14]:List (List UInt8×Bool×List UInt8)))).bind some
 else
 (g_fz.l4 N n c0 m1 (wi (m2+1)) m3 m4 m5 m6).bind some
 else
 some (m1,m3,m4,m5,m6)
def g_fz(N:Nat)(a0:List (List UInt8×Bool×List UInt8))(a1:List UInt8×Bool×List UInt8):Option (List (List UInt8×Bool×List UInt8)):=
 (g_fz.l4 N N a0 false 0 a1.1 a1.2.1 a1.2.2 []).bind fun r2=>
 bif !r2.1 then
 gd (roomOK (r2.2.2.2.2.length+([(r2.2.1,r2.2.2.1,r2.2.2.2.1)]:List (List UInt8×Bool×List UInt8)).length) 40)<|
 let v3:List (List UInt8×Bool×List UInt8):=r2.2.2.2.2++([(r2.2.1,r2.2.2.1,r2.2.2.2.1)]:List (List UInt8×Bool×List UInt8))
 some v3
 else
 some r2.2.2.2.2
def g_fv(N:Nat)(a0:List (List UInt8×Bool×List UInt8))(a1:List UInt8):Option (List (List UInt8×Bool×List UInt8)×Int):=
 (g_ft N a0 a1).bind fun r2=>
 bif decide (r2≥0)then
 some (a0,9)
 else
 (g_fx N a0 a1).bind fun r3=>
 bif r3 !=0 then
 some (a0,r3)
 else
 (g_fz N a0 (a1,true,([]:List UInt8))).bind fun r4=>
 some (r4,0)
def g_gb(N:Nat)(a0:List UInt8)(a1:List UInt8):Option (Bool):=
 let v2:Bool:=decide ((a0.length:Int)>(wi ((a1.length:Int)+1)))
 bif v2 then
 gd (decide (0≤(wi ((a1.length:Int)+1))))<|
 gd ((decide (0≤(wi ((a1.length:Int)+1)).toNat))&&(decide ((wi ((a1.length:Int)+1)).toNat≤a0.length)))<|
 let v3:List UInt8:=(a0.take (wi ((a1.length:Int)+1)).toNat).drop 0
 gd (decide (a1.length+1≤9223372036854775807))<|
 some (v3==(a1++([47]:List UInt8)))
 else
 some false
def g_fw.l17(N:Nat):Nat→List UInt8→List UInt8→Int→List (List UInt8×Bool×List UInt8)→List (List UInt8×Bool×List UInt8)→List (List UInt8×Bool×List UInt8)→Option ((Int×List (List UInt8×Bool×List UInt8))⊕(List (List UInt8×Bool×List UInt8)×List (List UInt8×Bool×List UInt8)))
 |0,_,_,_,_,_,_=>none
 |n+1,c0,c1,m2,m3,m4,m5=>
 bif decide (m2<(m3.length:Int))then
 gd (decide (0≤m2))<|
 gd (decide (m2.toNat<m3.length))<|
 m3[m2.toNat]?.bind fun e6=>
 bif e6.1==c0 then
 gd (roomOK (m5.length+([(c1,e6.2)]:List (List UInt8×Bool×List UInt8)).length) 40)<|
 (g_fw.l17 N n c0 c1 (wi (m2+1)) m3 m4 (m5++([(c1,e6.2)]:List (List UInt8×Bool×List UInt8)))).bind some
 else
 (g_gb N e6.1 c0).bind fun r7=>
 bif r7 then
 gd (decide (0≤(c0.length:Int)))<|
 gd ((decide ((c0.length:Int).toNat≤e6.1.length))&&(decide (e6.1.length≤e6.1.length)))<|
 let v8:List UInt8:=(e6.1.take e6.1.length).drop (c0.length:Int).toNat
 gd (decide (c1.length+v8.length≤9223372036854775807))<|
 bif decide (((c1++v8).length:Int)>40)then
 some (Sum.inl (16,m3))
 else
 gd (roomOK (m5.length+([(c1++v8,e6.2)]:List (List UInt8×Bool×List UInt8)).length) 40)<|
 let v9:List (List UInt8×Bool×List UInt8):=m5++([(c1++v8,e6.2)]:List (List UInt8×Bool×List UInt8))
 (g_fw.l17 N n c0 c1 (wi (m2+1)) m3 m4 v9).bind some
 else
 bif !(e6.1==c1)then
 gd (roomOK (m4.length+([e6]:List (List UInt8×Bool×List UInt8)).length) 40)<|
 (g_fw.l17 N n c0 c1 (wi (m2+1)) m3 (m4++([e6]:List (List UInt8×Bool×List UInt8))) m5).bind some
 else
 (g_fw.l17 N n c0 c1 (wi (m2+1)) m3 m4 m5).bind some
 else
 some (Sum.inr (m4,m5))
def g_fw.l31(N:Nat):Nat→Int→List (List UInt8×Bool×List UInt8)→List (List UInt8×Bool×List UInt8)→Option (List (List UInt8×Bool×List UInt8))
 |0,_,_,_=>none
 |n+1,m0,m1,m2=>
 bif decide (m0<(m2.length:Int))then
 gd (decide (0≤m0))<|
 gd (decide (m0.toNat<m2.length))<|
 m2[m0.toNat]?.bind fun e3=>
 (g_fz N m1 e3).bind fun r4=>
 (g_fw.l31 N n (wi (m0+1)) r4 m2).bind some
 else
 some m1
def g_fw(N:Nat)(a0:List (List UInt8×Bool×List UInt8))(a1:List UInt8)(a2:List UInt8):Option (List (List UInt8×Bool×List UInt8)×Int):=
 (g_ft N a0 a1).bind fun r3=>
 bif decide (r3<0)then
 some (a0,5)
 else
 bif a1==a2 then
 some (a0,0)
 else
 (g_gb N a2 a1).bind fun r4=>
 bif r4 then
 some (a0,15)
 else
 (g_fy N a2).bind fun r5=>
 (g_fu N a0 r5).bind fun r6=>
 bif r6 !=0 then
 some (a0,r6)
 else
 (g_ft N a0 a2).bind fun r7=>
 bif decide (r7≥0)then
 gd (decide (0≤r7))<|
 gd (decide (r7.toNat<a0.length))<|
 a0[r7.toNat]?.bind fun e8=>
 bif e8.2.1 then
 some (a0,9)
 else
 gd (decide (0≤r3))<|
 gd (decide (r3.toNat<a0.length))<|
 a0[r3.toNat]?.bind fun e9=>
 bif e9.2.1 then
 some (a0,9)
 else
 (g_fw.l17 N N a1 a2 0 a0 [] []).bind fun r10=>
 alt r10 (fun y11=>
 some (y11.2,y11.1)) fun z12=>
 (g_fw.l31 N N 0 z12.1 z12.2).bind fun r13=>
 some (r13,0)
 else
 (g_fw.l17 N N a1 a2 0 a0 [] []).bind fun r14=>
 alt r14 (fun y15=>
 some (y15.2,y15.1)) fun z16=>
 (g_fw.l31 N N 0 z16.1 z16.2).bind fun r17=>
 some (r17,0)
def g_ga.l5(N:Nat):Nat→List UInt8→Int→Int→List (List UInt8×Bool×List UInt8)→Option ((Int×List (List UInt8×Bool×List UInt8))⊕(List (List UInt8×Bool×List UInt8)))
 |0,_,_,_,_=>none
 |n+1,c0,c1,m2,m3=>
 bif decide (m2<(m3.length:Int))then
 gd (decide (0≤m2))<|
 gd (decide (m2.toNat<m3.length))<|
 m3[m2.toNat]?.bind fun e4=>
 (g_gb N e4.1 c0).bind fun r5=>
 bif r5 then
 some (Sum.inl (15,m3))
 else
 (g_ga.l5 N n c0 c1 (wi (m2+1)) m3).bind some
 else
 some (Sum.inr m3)
def g_ga(N:Nat)(a0:List (List UInt8×Bool×List UInt8))(a1:List UInt8):Option (List (List UInt8×Bool×List UInt8)×Int):=
 (g_ft N a0 a1).bind fun r2=>
 bif decide (r2<0)then
 some (a0,5)
 else
 (g_ga.l5 N N a1 r2 0 a0).bind fun r3=>
 alt r3 (fun y4=>
 some (y4.2,y4.1)) fun z5=>
 gd (decide (0≤r2))<|
 gd ((decide (0≤r2.toNat))&&(decide (r2.toNat≤z5.length)))<|
 gd (roomOK (0+((z5.drop 0).take (r2.toNat-0)).length) 40)<|
 let v6:List (List UInt8×Bool×List UInt8):=[]++((z5.drop 0).take (r2.toNat-0))
 gd (decide (0≤(wi (r2+1))))<|
 gd ((decide ((wi (r2+1)).toNat≤z5.length))&&(decide (z5.length≤z5.length)))<|
 let v7:Nat:=z5.length-(wi (r2+1)).toNat
 gd (roomOK (v6.length+((z5.drop (wi (r2+1)).toNat).take v7).length) 40)<|
 let v8:List (List UInt8×Bool×List UInt8):=v6++((z5.drop (wi (r2+1)).toNat).take v7)
 some (v8,0)
def g_fs(N:Nat)(a0:List (List UInt8×Bool×List UInt8))(a1:List UInt8):Option (Int×Int):=
 (g_ft N a0 a1).bind fun r2=>
 bif decide (r2<0)then
 some (r2,5)
 else
 gd (decide (0≤r2))<|
 a0[r2.toNat]?.bind fun e3=>
 bif e3.2.1 then
 some (r2,17)
 else
 some (r2,0)
def g_fm(N:Nat)(a0:Int)(a1:Int)(a2:Int):Option (Bool):=
 bif decide (a0≥a1)then
 some (decide (a0≤a2))
 else
 some false
def g_fr(N:Nat)(a0:List (List UInt8×Bool×List UInt8))(a1:List UInt8)(a2:Int):Option (List (List UInt8×Bool×List UInt8)×Int):=
 (g_fs N a0 a1).bind fun r3=>
 bif r3.2 !=0 then
 some (a0,r3.2)
 else
 (g_fm N a2 0 200).bind fun r4=>
 bif !r4 then
 some (a0,4)
 else
 gd (decide (0≤r3.1))<|
 gd (decide (r3.1.toNat<a0.length))<|
 a0[r3.1.toNat]?.bind fun e5=>
 let v6:Int:=max 0 (wi (a2-(e5.2.2.length:Int)))
 gd (decide (0≤v6))<|
 gd (roomOK (e5.2.2.length+(List.replicate v6.toNat (0:UInt8)).length) 1)<|
 gd (decide (0≤a2))<|
 gd ((decide (0≤a2.toNat))&&(decide (a2.toNat≤(e5.2.2++(List.replicate v6.toNat (0:UInt8))).length)))<|
 let v7:List UInt8:=((e5.2.2++(List.replicate v6.toNat (0:UInt8))).drop 0).take (a2.toNat-0)
 (g_fz N a0 (e5.1,e5.2.1,v7)).bind fun r8=>
 some (r8,0)
def g_fg(N:Nat)(a0:List UInt8×Int×Int):Option ((List UInt8×Int×Int)×List UInt8):=
 (g_fk N a0 ([([]:List UInt8),([97,98,99]:List UInt8),([98,108,111,99,107,32,111,102,32,100,97,116,97]:List UInt8),([48,49,50,51,52,53,54,55,56,57,97,98,99,100,101,102]:List UInt8),([120]:List UInt8)]:List (List UInt8))).bind fun r1=>
 some r1
def g_gc.l14(N:Nat):Nat→Int→List UInt8→List (List UInt8×Bool×List UInt8)→List UInt8→Bool→List UInt8→List UInt8→Option (List (List UInt8×Bool×List UInt8)×List UInt8×Bool×List UInt8×List UInt8)
 |0,_,_,_,_,_,_,_=>none
 |n+1,c0,c1,m2,m3,m4,m5,m6=>
 let v7:Bool:=decide ((m6.length:Int)<(wi (c0+(c1.length:Int))))
 bif v7 then
 gd (roomOK (m6.length+1) 1)<|
 (g_gc.l14 N n c0 c1 m2 m3 m4 m5 (m6++([0]:List UInt8))).bind some
 else
 some (m2,m3,m4,m5,m6)
def g_gc.l17(N:Nat):Nat→Int→List UInt8→Int→List (List UInt8×Bool×List UInt8)→List UInt8→Bool→List UInt8→List UInt8→Option (List (List UInt8×Bool×List UInt8)×List UInt8×Bool×List UInt8×List UInt8)
 |0,_,_,_,_,_,_,_,_=>none
 |n+1,c0,c1,m2,m3,m4,m5,m6,m7=>
 bif decide (m2<(c1.length:Int))then
 gd (decide (0≤m2))<|
 c1[m2.toNat]?.bind fun e8=>
 gd (decide (0≤(wi (c0+m2))))<|
 gd (decide ((wi (c0+m2)).toNat<m7.length))<|
 m7[(wi (c0+m2)).toNat]?.bind fun _=>
 let v9:List UInt8:=m7.set (wi (c0+m2)).toNat e8
 (g_gc.l17 N n c0 c1 (wi (m2+1)) m3 m4 m5 m6 v9).bind some
 else
 some (m3,m4,m5,m6,m7)
def g_gc(N:Nat)(a0:List (List UInt8×Bool×List UInt8))(a1:List UInt8)(a2:Int)(a3:List UInt8):Option (List (List UInt8×Bool×List UInt8)×Int):=
 (g_ft N a0 a1).bind fun r4=>
 bif decide (r4≥0)then
 gd (decide (0≤r4))<|
 gd (decide (r4.toNat<a0.length))<|
 a0[r4.toNat]?.bind fun e5=>
 bif e5.2.1 then
 some (a0,17)
 else
 bif decide (a2<0)then
 some (a0,4)
 else
 bif decide (a2>200)then
 some (a0,4)
 else
 let v6:Bool:=decide ((wi (a2+(a3.length:Int)))>200)
 bif v6 then
 some (a0,4)
 else
 bif decide (r4<0)then
 (g_fx N a0 a1).bind fun r7=>
 bif r7 !=0 then
 some (a0,r7)
 else
 (g_gc.l14 N N a2 a3 a0 e5.1 e5.2.1 e5.2.2 e5.2.2).bind fun r8=>
 (g_gc.l17 N N a2 a3 0 r8.1 r8.2.1 r8.2.2.1 r8.2.2.2.1 r8.2.2.2.2).bind fun r9=>
 (g_fz N r9.1 (r9.2.1,r9.2.2.1,r9.2.2.2.2)).bind fun r10=>
 some (r10,0)
 else
 (g_gc.l14 N N a2 a3 a0 e5.1 e5.2.1 e5.2.2 e5.2.2).bind fun r11=>
 (g_gc.l17 N N a2 a3 0 r11.1 r11.2.1 r11.2.2.1 r11.2.2.2.1 r11.2.2.2.2).bind fun r12=>
 (g_fz N r12.1 (r12.2.1,r12.2.2.1,r12.2.2.2.2)).bind fun r13=>
 some (r13,0)
 else
 bif decide (a2<0)then
 some (a0,4)
 else
 bif decide (a2>200)then
 some (a0,4)
 else
 let v14:Bool:=decide ((wi (a2+(a3.length:Int)))>200)
 bif v14 then
 some (a0,4)
 else
 bif decide (r4<0)then
 (g_fx N a0 a1).bind fun r15=>
 bif r15 !=0 then
 some (a0,r15)
 else
 (g_gc.l14 N N a2 a3 a0 a1 false ([]:List UInt8) ([]:List UInt8)).bind fun r16=>
 (g_gc.l17 N N a2 a3 0 r16.1 r16.2.1 r16.2.2.1 r16.2.2.2.1 r16.2.2.2.2).bind fun r17=>
 (g_fz N r17.1 (r17.2.1,r17.2.2.1,r17.2.2.2.2)).bind fun r18=>
 some (r18,0)
 else
 (g_gc.l14 N N a2 a3 a0 a1 false ([]:List UInt8) ([]:List UInt8)).bind fun r19=>
 (g_gc.l17 N N a2 a3 0 r19.1 r19.2.1 r19.2.2.1 r19.2.2.2.1 r19.2.2.2.2).bind fun r20=>
 (g_fz N r20.1 (r20.2.1,r20.2.2.1,r20.2.2.2.2)).bind fun r21=>
 some (r21,0)
def g_fh.l3(N:Nat):Nat→Int→List UInt8→Int→Int→List (List UInt8×Bool×List UInt8)→Option (List UInt8×Int×Int×List (List UInt8×Bool×List UInt8))
 |0,_,_,_,_,_=>none
 |n+1,m0,m1,m2,m3,m4=>
 bif decide (m0>0)then
 (g_fj N (m1,m2,m3)).bind fun r5=>
 (g_fi N r5.1 8).bind fun r6=>
 bif r6.2==0 then
 bif r6.2==0 then
 (g_fk N r6.1 ([([100,105,114]:List UInt8),([111,116,104,101,114]:List UInt8),([100,105,114,47,115,117,98]:List UInt8)]:List (List UInt8))).bind fun r7=>
 (g_fv N m4 r7.2).bind fun r8=>
 (g_fh.l3 N n (wi (m0-1)) r7.1.1 r7.1.2.1 r7.1.2.2 r8.1).bind some
 else
 bif r6.2==2 then
 (g_fj N r6.1).bind fun r9=>
 (g_fw N m4 r5.2 r9.2).bind fun r10=>
 (g_fh.l3 N n (wi (m0-1)) r9.1.1 r9.1.2.1 r9.1.2.2 r10.1).bind some
 else
 bif r6.2==3 then
 (g_ga N m4 r5.2).bind fun r11=>
 (g_fh.l3 N n (wi (m0-1)) r6.1.1 r6.1.2.1 r6.1.2.2 r11.1).bind some
 else
 bif r6.2==4 then
 (g_fi N r6.1 9).bind fun r12=>
 (g_fr N m4 r5.2 r12.2).bind fun r13=>
 (g_fh.l3 N n (wi (m0-1)) r12.1.1 r12.1.2.1 r12.1.2.2 r13.1).bind some
 else
 (g_fi N r6.1 6).bind fun r14=>
 (g_fg N r14.1).bind fun r15=>
 (g_gc N m4 r5.2 r14.2 r15.2).bind fun r16=>
 (g_fh.l3 N n (wi (m0-1)) r15.1.1 r15.1.2.1 r15.1.2.2 r16.1).bind some
 else
 bif r6.2==1 then
 (g_fk N r6.1 ([([100,105,114]:List UInt8),([111,116,104,101,114]:List UInt8),([100,105,114,47,115,117,98]:List UInt8)]:List (List UInt8))).bind fun r17=>
 (g_fv N m4 r17.2).bind fun r18=>
 (g_fh.l3 N n (wi (m0-1)) r17.1.1 r17.1.2.1 r17.1.2.2 r18.1).bind some
 else
 bif r6.2==2 then
 (g_fj N r6.1).bind fun r19=>
 (g_fw N m4 r5.2 r19.2).bind fun r20=>
 (g_fh.l3 N n (wi (m0-1)) r19.1.1 r19.1.2.1 r19.1.2.2 r20.1).bind some
 else
 bif r6.2==3 then
 (g_ga N m4 r5.2).bind fun r21=>
 (g_fh.l3 N n (wi (m0-1)) r6.1.1 r6.1.2.1 r6.1.2.2 r21.1).bind some
 else
 bif r6.2==4 then
 (g_fi N r6.1 9).bind fun r22=>
 (g_fr N m4 r5.2 r22.2).bind fun r23=>
 (g_fh.l3 N n (wi (m0-1)) r22.1.1 r22.1.2.1 r22.1.2.2 r23.1).bind some
 else
 (g_fi N r6.1 6).bind fun r24=>
 (g_fg N r24.1).bind fun r25=>
 (g_gc N m4 r5.2 r24.2 r25.2).bind fun r26=>
 (g_fh.l3 N n (wi (m0-1)) r25.1.1 r25.1.2.1 r25.1.2.2 r26.1).bind some
 else
 some (m1,m2,m3,m4)
def g_fh(N:Nat)(a0:List UInt8×Int×Int):Option ((List UInt8×Int×Int)×List (List UInt8×Bool×List UInt8)):=
 (g_fl N a0 14).bind fun r1=>
 (g_fi N a0 (wi (r1+4))).bind fun r2=>
 (g_fh.l3 N N r2.2 r2.1.1 r2.1.2.1 r2.1.2.2 []).bind fun r3=>
 gd (roomOK (0+r3.2.2.2.length) 40)<|
 some ((r3.1,r3.2.1,r3.2.2.1),[]++r3.2.2.2)
def g_fc(N:Nat)(a0:List UInt8):Option (List (List UInt8×Bool×List UInt8)):=
 (g_fe N a0).bind fun r1=>
 (g_fh N r1).bind fun r2=>
 some r2.2
def g_cl(N:Nat)(a0:List (List UInt8×Bool×List UInt8)):Option (Bool):=
 some (decide ((a0.length:Int)>4096))
def g_bn(N:Nat)(a0:List UInt8):Option (Bool):=
 (g_cj N a0).bind fun r1=>
 some (!r1)
def g_fa.l2(N:Nat):Nat→List (List UInt8)→Int→Int→Option (Int⊕Unit)
 |0,_,_,_=>none
 |n+1,c0,c1,m2=>
 bif decide (m2<c1)then
 gd (decide (0≤m2))<|
 c0[m2.toNat]?.bind fun e3=>
 (g_bn N e3).bind fun r4=>
 bif r4 then
 some (Sum.inl m2)
 else
 (g_fa.l2 N n c0 c1 (wi (m2+1))).bind some
 else
 some (Sum.inr ())
def g_fa(N:Nat)(a0:List (List UInt8)):Option (Int):=
 (g_fa.l2 N N a0 (a0.length:Int) 0).bind fun r1=>
 alt r1 (fun y2=>
 some y2) fun _=>
 some (-1)
def g_et(N:Nat)(a0:List (List UInt8)):Option (Bool):=
 (g_fa N a0).bind fun r1=>
 some (decide (r1≥0))
def g_bp(N:Nat)(a0:List (List UInt8)):Option (Bool):=
 (g_et N a0).bind fun r1=>
 some (!r1)
def g_cm(N:Nat)(a0:List (Int×List UInt8)):Option (Bool):=
 some (decide ((a0.length:Int)>4096))
def g_ad(N:Nat)(a0:Int×List UInt8)(a1:List (List UInt8)×List (Int×List UInt8)×List (List UInt8)):Option (Bool):=
 (g_aj N a1 a0.1).bind fun r2=>
 bif r2 then
 (g_cj N a0.2).bind fun r3=>
 some r3
 else
 some false
def g_bk(N:Nat)(a0:Int×List UInt8)(a1:List (List UInt8)×List (Int×List UInt8)×List (List UInt8)):Option (Bool):=
 (g_ad N a0 a1).bind fun r2=>
 some (!r2)
def g_ex.l2(N:Nat):Nat→List (Int×List UInt8)→Int→List (List UInt8)×List (Int×List UInt8)×List (List UInt8)→Int→Option (((List (List UInt8)×List (Int×List UInt8)×List (List UInt8))×Int)⊕(List (List UInt8)×List (Int×List UInt8)×List (List UInt8)))
 |0,_,_,_,_=>none
 |n+1,c0,c1,m2,m3=>
 bif decide (m3<c1)then
 gd (decide (0≤m3))<|
 c0[m3.toNat]?.bind fun e4=>
 (g_bk N e4 m2).bind fun r5=>
 bif r5 then
 some (Sum.inl (m2,m3))
 else
 (g_ex.l2 N n c0 c1 m2 (wi (m3+1))).bind some
 else
 some (Sum.inr m2)
def g_ex(N:Nat)(a0:List (Int×List UInt8))(a1:List (List UInt8)×List (Int×List UInt8)×List (List UInt8)):Option (Int):=
 (g_ex.l2 N N a0 (a0.length:Int) a1 0).bind fun r2=>
 alt r2 (fun y3=>
 some y3.2) fun _=>
 some (-1)
def g_eq(N:Nat)(a0:List (Int×List UInt8))(a1:List (List UInt8)×List (Int×List UInt8)×List (List UInt8)):Option (Bool):=
 (g_ex N a0 a1).bind fun r2=>
 some (decide (r2≥0))
def g_bl(N:Nat)(a0:List (Int×List UInt8))(a1:List (List UInt8)×List (Int×List UInt8)×List (List UInt8)):Option (Bool):=
 (g_eq N a0 a1).bind fun r2=>
 some (!r2)
def g_ac(N:Nat)(a0:List (List UInt8)×List (Int×List UInt8)×List (List UInt8)):Option (Bool):=
 (g_dw N (a0.1.length:Int) 1 64).bind fun r1=>
 bif r1 then
 (g_bp N a0.1).bind fun r2=>
 bif r2 then
 (g_cm N a0.2.1).bind fun r3=>
 bif !r3 then
 (g_bl N a0.2.1 a0).bind fun r4=>
 bif r4 then
 bif (a0.2.2.length:Int)==0 then
 (g_bp N a0.2.2).bind fun r5=>
 some r5
 else
 bif (a0.2.2.length:Int)==(a0.1.length:Int)then
 (g_bp N a0.2.2).bind fun r6=>
 some r6
 else
 some false
 else
 some false
 else
 some false
 else
 some false
 else
 some false
def g_dv(N:Nat)(a0:List UInt8)(a1:List (List UInt8)×List (Int×List UInt8)×List (List UInt8)):Option (Int):=
 (g_cn N ([a0]:List (List UInt8))).bind fun r2=>
 bif r2 then
 some 2
 else
 bif (a0.length:Int) !=32 then
 some 1
 else
 (g_ac N a1).bind fun r3=>
 bif !r3 then
 some 1
 else
 bif decide ((a1.1.length:Int)<4)then
 some 4
 else
 some 0
def g_bd(N:Nat)(a0:List UInt8)(a1:List (List UInt8)×List (Int×List UInt8)×List (List UInt8))(a2:List (List UInt8×Bool×List UInt8)):Option (List (Int×Int×List UInt8×List Bool×Int)×List UInt8×Int):=
 (g_cl N a2).bind fun r3=>
 bif r3 then
 some ([],([]:List UInt8),2)
 else
 (g_dv N a0 a1).bind fun r4=>
 bif r4 !=0 then
 some ([],([]:List UInt8),r4)
 else
 (g_as N a2).bind fun r5=>
 bif !r5 then
 some ([],([]:List UInt8),1)
 else
 (g_ao N a1 a0 a2).bind fun r6=>
 bif !r6.2.2 then
 some ([],([]:List UInt8),7)
 else
 some (r6.1,r6.2.1,0)
def g_be(N:Nat)(a0:List UInt8)(a1:List (List UInt8)×List (Int×List UInt8)×List (List UInt8))(a2:List (List UInt8×Bool×List UInt8)):Option ((List (List UInt8)×List (Int×List UInt8)×List (List UInt8))×Int):=
 (g_bd N a0 a1 a2).bind fun r3=>
 bif r3.2.2 !=0 then
 some (([],[],[]),r3.2.2)
 else
 (g_am N a1).bind fun r4=>
 (g_ag N r4 r3.1).bind fun r5=>
 bif !r5.2 then
 some (([],[],[]),7)
 else
 (g_am N r5.1).bind fun r6=>
 some (r6,0)
def g_ax(N:Nat)(a0:List UInt8)(a1:List (List UInt8)×List (Int×List UInt8)×List (List UInt8)):Option ((Int×List UInt8×List (List UInt8×Bool×List UInt8))×Int):=
 (g_dv N a0 a1).bind fun r2=>
 bif r2 !=0 then
 some ((0,([]:List UInt8),[]),r2)
 else
 (g_al N a1 a0).bind fun r3=>
 bif !r3.2 then
 some ((0,([]:List UInt8),[]),12)
 else
 some (r3.1.1,0)
def g_ck(N:Nat)(a0:Int):Option (Bool):=
 (g_dw N a0 0 255).bind fun r1=>
 some r1
def g_cq(N:Nat)(a0:Int×Int×List UInt8):Option (Bool):=
 (g_ck N a0.1).bind fun r1=>
 bif r1 then
 (g_dw N a0.2.1 1 1000000).bind fun r2=>
 bif r2 then
 some ((a0.2.2.length:Int)==32)
 else
 some false
 else
 some false
def g_ah(N:Nat)(a0:List (List UInt8)×List (Int×List UInt8)×List (List UInt8))(a1:List UInt8)(a2:Int):Option (((Int×List UInt8×List (List UInt8×Bool×List UInt8))×(Int×List (Int×Int)×List UInt8)×List (List UInt8))×Bool×Bool):=
 (g_ap N a0 (a2.tmod 2)).bind fun r3=>
 (g_dc N a1 (a2.tmod 2) r3).bind fun r4=>
 bif !r4.2 then
 some (((0,([]:List UInt8),[]),(0,[],([]:List UInt8)),[]),false,false)
 else
 bif r4.1.1 !=a2 then
 some (((0,([]:List UInt8),[]),(0,[],([]:List UInt8)),[]),false,false)
 else
 (g_ar N a0 a1 r4.1).bind fun r5=>
 some (r5.1,true,r5.2)
def g_ak.l10(N:Nat):Nat→List UInt8→Int→List (List UInt8)→List (Int×List UInt8)→List (List UInt8)→Int→Int→List UInt8→Int→List UInt8→Bool→Option ((Int×Int×List UInt8×Bool)⊕(Int×List UInt8×Bool))
 |0,_,_,_,_,_,_,_,_,_,_,_=>none
 |n+1,c0,m1,m2,m3,m4,m5,m6,m7,m8,m9,m10=>
 bif decide (m1<2)then
 (g_ap N (m2,m3,m4) m1).bind fun r11=>
 (g_dc N c0 m1 r11).bind fun r12=>
 bif r12.2 then
 bif decide (r12.1.1≤m6)then
 some (Sum.inl (11,0,([]:List UInt8),false))
 else
 (g_ak.l10 N n c0 (wi (m1+1)) m2 m3 m4 m5 m6 m7 m8 m9 m10).bind some
 else
 (g_ak.l10 N n c0 (wi (m1+1)) m2 m3 m4 m5 m6 m7 m8 m9 m10).bind some
 else
 some (Sum.inr (m8,m9,m10))
def g_ak(N:Nat)(a0:List (List UInt8)×List (Int×List UInt8)×List (List UInt8))(a1:List UInt8)(a2:Int×Int×List UInt8):Option (((Int×List UInt8×List (List UInt8×Bool×List UInt8))×Bool)×Int):=
 (g_ah N a0 a1 (wi (a2.2.1+1))).bind fun r3=>
 bif r3.2.2 then
 some ((r3.1.1,true),0)
 else
 (g_ah N a0 a1 a2.2.1).bind fun r4=>
 bif r4.2.2 then
 bif r4.1.1.2.1==a2.2.2 then
 some ((r4.1.1,false),0)
 else
 bif r4.2.1 then
 bif !r4.2.2 then
 some (((0,([]:List UInt8),[]),false),12)
 else
 (g_ak.l10 N N a1 0 a0.1 a0.2.1 a0.2.2 a2.1 a2.2.1 a2.2.2 0 ([]:List UInt8) false).bind fun r5=>
 alt r5 (fun y6=>
 some (((y6.2.1,y6.2.2.1,[]),y6.2.2.2),y6.1)) fun _=>
 some (((0,([]:List UInt8),[]),false),12)
 else
 (g_ak.l10 N N a1 0 a0.1 a0.2.1 a0.2.2 a2.1 a2.2.1 a2.2.2 0 ([]:List UInt8) false).bind fun r7=>
 alt r7 (fun y8=>
 some (((y8.2.1,y8.2.2.1,[]),y8.2.2.2),y8.1)) fun _=>
 some (((0,([]:List UInt8),[]),false),12)
 else
 bif r4.2.1 then
 bif !r4.2.2 then
 some (((0,([]:List UInt8),[]),false),12)
 else
 (g_ak.l10 N N a1 0 a0.1 a0.2.1 a0.2.2 a2.1 a2.2.1 a2.2.2 0 ([]:List UInt8) false).bind fun r9=>
 alt r9 (fun y10=>
 some (((y10.2.1,y10.2.2.1,[]),y10.2.2.2),y10.1)) fun _=>
 some (((0,([]:List UInt8),[]),false),12)
 else
 (g_ak.l10 N N a1 0 a0.1 a0.2.1 a0.2.2 a2.1 a2.2.1 a2.2.2 0 ([]:List UInt8) false).bind fun r11=>
 alt r11 (fun y12=>
 some (((y12.2.1,y12.2.2.1,[]),y12.2.2.2),y12.1)) fun _=>
 some (((0,([]:List UInt8),[]),false),12)
def g_au(N:Nat)(a0:List UInt8)(a1:List (List UInt8)×List (Int×List UInt8)×List (List UInt8))(a2:Int×Int×List UInt8):Option (((Int×List UInt8×List (List UInt8×Bool×List UInt8))×Bool)×Int):=
 (g_dv N a0 a1).bind fun r3=>
 bif r3 !=0 then
 some (((0,([]:List UInt8),[]),false),r3)
 else
 (g_cq N a2).bind fun r4=>
 bif !r4 then
 some (((0,([]:List UInt8),[]),false),1)
 else
 bif decide (a2.2.1>65534)then
 some (((0,([]:List UInt8),[]),false),1)
 else
 (g_ak N a1 a0 a2).bind fun r5=>
 some r5
def g_ee.l4(N:Nat):Nat→List (List UInt8×Bool×List UInt8)→List (List UInt8×Bool×List UInt8)→Int→Option (Bool⊕Unit)
 |0,_,_,_=>none
 |n+1,c0,c1,m2=>
 bif decide (m2<(c0.length:Int))then
 gd (decide (0≤m2))<|
 c0[m2.toNat]?.bind fun e3=>
 gd (decide (0≤m2))<|
 c1[m2.toNat]?.bind fun e4=>
 let v5:Bool:=!((e3.1==e4.1)&&((e3.2.1==e4.2.1)&&(e3.2.2==e4.2.2)))
 bif v5 then
 some (Sum.inl false)
 else
 (g_ee.l4 N n c0 c1 (wi (m2+1))).bind some
 else
 some (Sum.inr ())
def g_ee(N:Nat)(a0:List (List UInt8×Bool×List UInt8))(a1:List (List UInt8×Bool×List UInt8)):Option (Bool):=
 bif (a0.length:Int) !=(a1.length:Int)then
 some false
 else
 (g_ee.l4 N N a0 a1 0).bind fun r2=>
 alt r2 (fun y3=>
 some y3) fun _=>
 some true
def g_ed(N:Nat)(a0:List UInt8)(a1:List UInt8):Option (Bool):=
 bif decide ((a0.length:Int)>1048576)then
 some true
 else
 bif decide ((a1.length:Int)>1048576)then
 some true
 else
 (g_fd N ()).bind fun r2=>
 (g_aw N r2 30).bind fun r3=>
 (g_fc N a0).bind fun r4=>
 (g_fc N a1).bind fun r5=>
 (g_fd N ()).bind fun r6=>
 (g_be N r6 r3.1.1 r4).bind fun r7=>
 (g_fd N ()).bind fun r8=>
 (g_ax N r8 r7.1).bind fun r9=>
 bif r3.2 !=0 then
 some false
 else
 bif r7.2 !=0 then
 some (r7.2==7)
 else
 (g_fd N ()).bind fun r10=>
 (g_be N r10 r7.1 r5).bind fun r11=>
 (g_fd N ()).bind fun r12=>
 (g_ax N r12 r11.1).bind fun r13=>
 bif r9.2 !=0 then
 some false
 else
 bif r11.2 !=0 then
 some (r11.2==7)
 else
 bif r13.2 !=0 then
 some false
 else
 (g_fd N ()).bind fun r14=>
 (g_au N r14 r7.1 (0,r9.1.1,r9.1.2.1)).bind fun r15=>
 (g_fd N ()).bind fun r16=>
 (g_au N r16 r11.1 (0,r9.1.1,r9.1.2.1)).bind fun r17=>
 (g_fd N ()).bind fun r18=>
 (g_au N r18 r11.1 (0,r13.1.1,r13.1.2.1)).bind fun r19=>
 (g_fd N ()).bind fun r20=>
 (g_au N r20 r7.1 (0,r13.1.1,r13.1.2.1)).bind fun r21=>
 (g_fd N ()).bind fun r22=>
 (g_au N r22 r3.1.1 (0,r13.1.1,r13.1.2.1)).bind fun r23=>
 bif r15.2==0 then
 bif !r15.1.2 then
 (g_ee N r15.1.1.2.2 r4).bind fun r24=>
 bif r24 then
 bif r17.2==0 then
 bif r17.1.2 then
 (g_ee N r17.1.1.2.2 r5).bind fun r25=>
 bif r25 then
 bif r19.2==0 then
 bif !r19.1.2 then
 (g_ee N r19.1.1.2.2 r5).bind fun r26=>
 bif r26 then
 bif r21.2==11 then
 some (r23.2==11)
 else
 some false
 else
 some false
 else
 some false
 else
 some false
 else
 some false
 else
 some false
 else
 some false
 else
 some false
 else
 some false
 else
 some false
end Go.Vm
namespace Go.Vm
def noLook(ρ:Operand→PV):Op→Bool
 | .move _| .assign _| .nilCheck _=>true
 | .indexAddr _ x _=>(match ρ x with| .ptr _ _ _ none=>true|_=>false)
 |_=>false
def opIds(ρ:Operand→PV)(op:Op):List Nat:=bif noLook ρ op then nstOfL (op.operands.toList.map ρ)else idsL (op.operands.toList.map ρ)
def restr(lk:Look)(l:List Nat):Look:=fun r=>bif !(r==0)&&l.contains r then lk r else none
def szR:Root→List Nat| .box ps=>ps.map szV| .row t _ _=>szT t|_=>[]
def sameSz:Option Root→Root→Bool|some y,x=>decide (szR y=szR x)|none,_=>true
def newOK(lk:Look)(rd:List Nat)(id:Nat):Ups→Bool
 |[]=>true
 |(r,some x)::u=>!(r==0)&&(bif rd.contains r then(lk r).isSome&&(sameSz (lk r) x&&!(Nat.ble id r&&Nat.blt r (id+1001)))else(lk r).isNone&&Nat.ble 1000 r)&&newOK lk rd id u
 |(r,none)::u=>!(r==0)&&(lk r).isSome&&newOK lk rd id u
def kills(lk:Look):Ups→List Nat
 |[]=>[]
 |(r,_)::u=>match lk r with|some (.row t _ _)=>bif t.flat then kills lk u else r::kills lk u|some .ext=>r::kills lk u|_=>kills lk u
def kill1(l:List Nat)(v:PV):PV:=bif (nstOf v).any (l.contains ·)then .undef else v
def kill2(l:List Nat):PV→PV
 | .ag ps=> .ag (ps.map (kill1 l))
 |v=>kill1 l v
def kill(l:List Nat)(tm:List (Nat×PV)):List (Nat×PV):=match l with|[]=>tm|l=>tm.map fun(t,v)=>(t,kill2 l v)
def nid(d:Option Nat):Nat:=1010*((match d with|some d=>d+1|none=>0)+1)
def hitT(l:List Nat)(tm:List (Nat×PV)):List Nat:=match l with
 |[]=>[]
 |l=>tm.filterMap fun(t,v)=>bif (nstOf v).any (l.contains ·)then some t else none
abbrev Ft:=List Nat×List Nat×List Nat
def dpO:Op→Nat| .move _| .assign _| .fieldAddr _ _ _=>0|_=>3
def stepO(e:Env)(o:Oper)(s:St):Out (St×Ft):=
 let ρ:=ev s.tm
 let lk:=look s.roots
 let rd:=reach lk (dpO o.op) (opIds ρ o.op)
 (eff e o.op o.type (nid o.dst) ρ (restr lk rd)).bind fun(v,up)=>
  bif newOK lk rd (nid o.dst) up then .ret ({tm:=putT (kill (kills lk up) s.tm) o.dst v,roots:=upd s.roots up},rd++nstOf v,up.map (·.1),hitT (kills lk up) s.tm)else .fail
abbrev Foot:=List Ft
def passed(o:Oper)(s:St):St×Ft:=({s with tm:=putT s.tm o.dst (.tup [])},[],[],[])
def gstep(e:Env)(all:List Oper)(o:Oper)(s:St):Out (St×Ft):=
 match o.guard with
 |none=>stepO e o s
 |some (j,want)=>match(all[j]?).bind (·.dst)with
  |none=> .ret (passed o s)
  |some d=>match getT s.tm d with
   | .sc .bool b=> .br b
     (bif want then stepO e o {s with tm:=ins s.tm d (.sc .bool true)}else .ret (passed o {s with tm:=ins s.tm d (.sc .bool true)}))
     (bif want then .ret (passed o {s with tm:=ins s.tm d (.sc .bool false)})else stepO e o {s with tm:=ins s.tm d (.sc .bool false)})
   | .tup []=> .ret (passed o s)
   |_=> .fail
def aops(e:Env)(all:List Oper):List Oper→St→Foot→Out (St×Foot)
 |[],s,fs=> .ret (s,fs)
 |o::rest,s,fs=>(gstep e all o s).bind fun(s,f)=>aops e all rest s (f::fs)
def bindsAny(x:Edge):Bool:=match x.ground with| .textOnly _=>false| .gcOnly _=>false|_=>true
def directs(o:Oper):List Nat:=(o.after.toList.filter bindsAny).map (·.on)
def before1(pre:List Nat)(o:Oper):Nat:=(directs o).foldl (fun m x=>m|||2^x|||(pre[x]?.getD 0)) 0
def befores:List Oper→List Nat→List Nat
 |[],pre=>pre
 |o::l,pre=>befores l (pre++[before1 pre o])
def tmpsOf(o:Oper):List Nat:=o.op.operands.toList.filterMap fun| .tmp t=>some t|_=>none
def guardTmp(all:List Oper)(o:Oper):List Nat:=match o.guard with|some (j,_)=>((all[j]?).bind (·.dst)).toList|none=>[]
def apartT(all:List Oper)(a b:Oper):Bool:=
 match a.dst with
 |none=>true
 |some d=>!(tmpsOf b).contains d&&!(guardTmp all b).contains d&&b.dst !=some d
def apartF(a b:Ft):Bool:=apartB a.2.1 b.1&&apartB a.2.1 b.2.1&&apartB b.2.1 a.1
def fieldOver(a b:Oper)(f g:Ft):Bool:=
 (match a.op,b.op with| .store _ _ _,.fieldAddr _ _ _=>true|_,_=>false)&&(a.guard.isNone&&b.guard.isNone)&&(g.1.length==1&&f.2.1.all (f.1.contains ·))
def pairOK(all:List Oper)(pre:List Nat)(fs:Foot)(i j:Nat):Bool:=
 ((pre[j]?.getD 0).testBit i)||
 (match all[i]?,all[j]?,fs[i]?,fs[j]? with
  |some a,some b,some f,some g=>apartT all a b&&apartT all b a&&(apartF f g||fieldOver a b f g)&&apartB f.2.2 (tmpsOf b++guardTmp all b)
  |_,_,_,_=>false)
def edgesOK:List Oper→Nat→Bool
 |[],_=>true
 |o::l,i=>(directs o).all (Nat.blt · i)&&edgesOK l (i+1)
def allPairs(all:List Oper)(pre:List Nat)(fs:Foot):Bool:=
 (List.range all.length).all fun j=>(List.range j).all fun i=>pairOK all pre fs i j
def region(e:Env)(ops:List Oper)(draw:Bool)(s:St):Out St:=
 (aops e ops ops s []).bind fun(s,fs)=>bif draw then(bif edgesOK ops 0&&allPairs ops (befores ops []) fs.reverse then .ret s else .fail)else .ret s
def matchP:PS→PV→Option (List Dyn)
 | .sc t,.sc u x=>bif decide (u=t)then some [⟨u,x⟩]else none
 | .sc t,.nilS u=>bif decide (.sl u=t)then some [⟨.sl u,[]⟩]else none
 | .rf _,.rf _=>some []
 | .rf _,.nilS _=>some []
 | .sub _,.sub _ o n=>some [⟨.int .i64,(o:Int)⟩,⟨.int .i64,(n:Int)⟩]
 | .ptr _ n k j,.ptr _ n' k' j'=>bif n==n'&&k==k'&&decide (j=j')then some []else none
 | .fn g a,.fn h cs=>bif g==h then matchL a cs else none
 | .ro t,.ro u x=>bif decide (u=t)then some [⟨u,x⟩]else none
 | .rb p,.rb v=>matchP p v
 | .nl t,.nilS u=>bif decide (u=t)then some []else none
 | .nilp,.nilp=>some []
 | .ag a,.ag ps=>matchL a ps
 |_,_=>none
where matchL:PS→List PV→Option (List Dyn)
 | .unit,[]=>some []
 | .pair a b,v::vs=>match matchP a v,matchL b vs with|some x,some y=>some (x++y)|_,_=>none
 |_,_=>none
inductive Bnd where|row(r:Nat)|nil(t:Ty)|box(r:Nat)
def bindsP:PS→PV→List (Nat×Bnd)
 | .rf k,.rf r=>[(k,.row r)]
 | .rf k,.nilS t=>[(k,.nil t)]
 | .sub k,.sub r _ _=>[(k,.row r)]
 | .ptr k _ _ _,.ptr r _ _ _=>[(k,.box r)]
 | .rb p,.rb v=>bindsP p v
 | .fn _ a,.fn _ cs=>bindsL a cs
 | .ag a,.ag ps=>bindsL a ps
 |_,_=>[]
where bindsL:PS→List PV→List (Nat×Bnd)
 | .pair a b,v::vs=>bindsP a v++bindsL b vs
 |_,_=>[]
def Bnd.root:Bnd→List Nat| .row r| .box r=>[r]| .nil _=>[]
def own0(k r:Nat):Bool:=bif Nat.blt k 1000||Nat.blt r 1 then k==r else true
def consist:List (Nat×Bnd)→Bool
 |[]=>true
 |(k,b)::l=>(match b with| .row r| .box r=>own0 k r| .nil _=>!Nat.blt k 1000)&&(l.all fun(k',b')=>match b,b' with
   | .row r,.row r'=>(k==k')==(r==r')
   | .box r,.box r'=>(k==k')==(r==r')
   | .row r,.box r'=>!(k==k')&&!(r==r')
   | .box r,.row r'=>!(k==k')&&!(r==r')
   |_,_=>!(k==k'))&&consist l
def matchT:List (Nat×PS)→List (Nat×PV)→Option (List Dyn)
 |[],_=>some []
 |(t,p)::l,tm=>match matchP p (getT tm t),matchT l tm with|some x,some y=>some (x++y)|_,_=>none
def bindsT:List (Nat×PS)→List (Nat×PV)→List (Nat×Bnd)
 |[],_=>[]
 |(t,p)::l,tm=>bindsP p (getT tm t)++bindsT l tm
def bindsR(lk:Look):List (Nat×RS)→List (Nat×Bnd)→List (Nat×Bnd)
 |[],b=>b
 |(_,.row _ _)::l,b=>bindsR lk l b
 |(_,.mp)::l,b=>bindsR lk l b
 |(k,.box p)::l,b=>match look b k with
  |some (.box r)=>(match lk r with|some (.box ps)=>bindsR lk l (b++bindsP p (.ag ps))|_=>bindsR lk l b)
  |_=>bindsR lk l b
def modeFits(m m':Own)(t:Ty):Bool:=decide (m'=m)||(decide (m= .full)&&decide (m'= .lit))||decide (m= .froz)||(decide (m= .shal)&&m'.deep)||(t.flat&&!decide (m'= .froz)&&!decide (m= .bare))
def sameB:Bnd→Bnd→Bool
 | .row r,.row r'=>r==r'
 | .box r,.box r'=>r==r'
 | .nil t,.nil u=>decide (t=u)
 |_,_=>false
def coverB(b l:List (Nat×Bnd)):Bool:=l.all fun(k,x)=>match look b k with|some y=>sameB x y|none=>false
def matchR(lk:Look)(b:List (Nat×Bnd)):List (Nat×RS)→Option (List Dyn)
 |[]=>some []
 |(k,.row t m)::l=>(match look b k with
  |some (.nil u)=>bif decide (u=t)then(match matchR lk b l with|some y=>some (⟨.sl t,[]⟩::y)|none=>none)else none
  |some (.row r)=>(match lk r with
   |some (.row u xs m')=>bif decide (u=t)&&modeFits m m' t then(match matchR lk b l with|some y=>some (⟨.sl u,xs⟩::y)|none=>none)else none
   |_=>none)
  |_=>none)
 |(k,.mp)::l=>(match look b k with
  |some (.row r)=>(match lk r with
   |some (.mp xs)=>(match matchR lk b l with|some y=>some (⟨.sl (.int .i64),xs⟩::y)|none=>none)
   |_=>none)
  |_=>none)
 |(k,.box p)::l=>(match look b k with
  |some (.box r)=>(match lk r with
   |some (.box ps)=>bif coverB b (bindsP p (.ag ps))then(match matchP p (.ag ps),matchR lk b l with|some x,some y=>some (x++y)|_,_=>none)else none
   |_=>none)
  |_=>none)
def bindsS(sh:Shape)(s:St):List (Nat×Bnd):=bindsR (look s.roots) sh.roots (bindsT sh.tm s.tm)
def matchO(sh:Shape)(s:St):Option (List Dyn):=
 let b:=bindsS sh s
 bif consist b&&coverB b (bindsT sh.tm s.tm)&&b.all (fun x=>(look sh.roots x.1).isSome)then(match matchT sh.tm s.tm,matchR (look s.roots) b sh.roots with|some x,some y=>some (x++y)|_,_=>none)else none
def wholeT(lk:Look):List (Nat×PS)→List (Nat×PV)→List (Nat×PV)
 |[],tm=>tm
 |(t,.sub _)::l,tm=>wholeT lk l (match getT tm t with
  | .rf r=>(match lk r with|some (.row _ xs _)=>bif r==0 then tm else ins tm t (.sub r 0 xs.length)|_=>tm)
  |_=>tm)
 |_::l,tm=>wholeT lk l tm
def matchOK(sh:Shape)(s:St):Option (List Dyn):=matchO sh {s with tm:=wholeT (look s.roots) sh.tm s.tm}
def fillP:PS→List Dyn→Option (PV×List Dyn)
 | .sc t,d::l=>bif decide (d.t=t)then some (.sc d.t d.x,l)else none
 | .rf k,l=>some (.rf k,l)
 | .sub k,⟨.int .i64,o⟩::⟨.int .i64,n⟩::l=>some (.sub k (Int.toNat o) (Int.toNat n),l)
 | .ptr k n i j,l=>some (.ptr k n i j,l)
 | .fn g a,l=>match fillL a l with|some (cs,l)=>some (.fn g cs,l)|none=>none
 | .ro t,d::l=>bif decide (d.t=t)then some (.ro d.t d.x,l)else none
 | .rb p,l=>match fillP p l with|some (v,l)=>some (.rb v,l)|none=>none
 | .nl t,l=>some (.nilS t,l)
 | .nilp,l=>some (.nilp,l)
 | .ag a,l=>match fillL a l with|some (ps,l)=>some (.ag ps,l)|none=>none
 |_,_=>none
where fillL:PS→List Dyn→Option (List PV×List Dyn)
 | .unit,l=>some ([],l)
 | .pair a b,l=>match fillP a l with
  |some (v,l)=>(match fillL b l with|some (vs,l)=>some (v::vs,l)|none=>none)
  |none=>none
 |_,_=>none
def fillT:List (Nat×PS)→List Dyn→Option (List (Nat×PV)×List Dyn)
 |[],l=>some ([],l)
 |(t,p)::r,l=>match fillP p l with
  |some (v,l)=>(match fillT r l with|some (vs,l)=>some ((t,v)::vs,l)|none=>none)
  |none=>none
def fillR:List (Nat×RS)→List Dyn→Option (List (Nat×Root)×List Dyn)
 |[],l=>some ([],l)
 |(k,.row t m)::r,⟨.sl u,xs⟩::l=>bif decide (u=t)then(match fillR r l with|some (vs,l)=>some ((k,.row u xs m)::vs,l)|none=>none)else none
 |(k,.mp)::r,⟨.sl (.int .i64),xs⟩::l=>(match fillR r l with|some (vs,l)=>some ((k,.mp xs)::vs,l)|none=>none)
 |(k,.box p)::r,l=>(match fillP p l with
  |some (.ag ps,l)=>(match fillR r l with|some (vs,l)=>some ((k,.box ps)::vs,l)|none=>none)
  |_=>none)
 |_,_=>none
def fillS(sh:Shape)(l:List Dyn):Option St:=
 match fillT sh.tm l with
 |some (tm,l)=>(match fillR sh.roots l with
  |some (rs,[])=>some ⟨tm,rs⟩
  |_=>none)
 |none=>none
def constsOf:List (Nat×Ty)→List (Nat×PV)→Option (List Dyn)
 |[],_=>some []
 |(t,u)::l,tm=>match getT tm t,constsOf l tm with
  | .sc u' x,some y=>bif decide (u'=u)then some (⟨u',x⟩::y)else none
  |_,_=>none
def constsIn:List (Nat×Ty)→List Dyn→List (Nat×PV)
 |(t,_)::l,d::ds=>(t,.sc d.t d.x)::constsIn l ds
 |_,_=>[]
def firstReg:Code→Nat
 | .region i _ _=>i
 | .seq a _=>firstReg a
 | .block _ a=>firstReg a
 | .loop a=>firstReg a
 | .scope a=>firstReg a
 |_=>0
def asg:Code→List Nat
 | .region _ ops _=>ops.toList.filterMap (·.dst)
 | .seq a b=>asg a++asg b
 | .cond _ a b=>asg a++asg b
 | .block _ a=>asg a
 | .loop a=>asg a
 | .scope a=>asg a
 | .rangeFunc _ ts a b=>ts.toList++asg a++asg b
 |_=>[]
def exitAt:List (Ex×Shape)→Ex→Nat→Option (Nat×Shape)
 |[],_,_=>none
 |(x,sh)::l,y,n=>bif decide (x=y)then some (n,sh)else exitAt l y (n+1)
def loopO(L:LSpec)(body:Code)(fuel:Nat)(s:St):Out (Ex×St):=
 bif L.consts.all (fun(t,_)=>!(asg body).contains t)then
  match constsOf L.consts s.tm,matchOK L.head s with
  |some cs,some ms=>(decP _ cs).bind fun c=>(decP _ ms).bind fun m=> .opt (L.den fuel c m) fun r=>encR _ r 0 fun i ds=>match L.exits[i]? with
   |some (x,sh)=>(match fillS sh ds with
    |some s'=> .ret (x,{s' with tm:=constsIn L.consts cs++s'.tm})
    |none=> .fail)
   |none=> .fail
  |_,_=> .fail
 else .fail
def noRange:Code→Bool
 | .seq a b=>noRange a&&noRange b
 | .cond _ a b=>noRange a&&noRange b
 | .block _ a=>noRange a
 | .loop a=>noRange a
 | .scope a=>noRange a
 | .rangeFunc _ _ _ _=>false
 |_=>true
def rkey(assign body:Code):Nat:=match assign with| .skip=>firstReg body|a=>firstReg a
def capsD:List Ty→List PV→Option (List Dyn)
 |[],[]=>some []
 |t::ts,.ro u x::vs=>bif decide (u=t)then(match capsD ts vs with|some l=>some (⟨u,x⟩::l)|none=>none)else none
 |_,_=>none
def no0(tm:List (Nat×PV)):Bool:=tm.all fun x=>!(nstOf x.2).contains 0
def psIn:List Nat→List Dyn→List (Nat×PV)
 |p::ps,d::ds=>(p,expand d.t d.x)::psIn ps ds
 |_,_=>[]
def rkeys(R:RSpec):List Nat:=R.consts.map (·.1)++R.head.tm.map (·.1)++R.exits.flatMap fun x=>x.2.tm.map (·.1)
def rangeO(R:RSpec)(ps:List Nat)(assign body:Code)(v:PV)(s:St):Out (Ex×St):=
 match v with
 | .fn h caps=>
  bif h==R.h&&ps.length==R.ys.length&&nodupB ps&&noRange assign&&noRange body&&(rkeys R).all (fun t=>!(asg assign).contains t&&!(asg body).contains t&&!ps.contains t)&&ps.all (fun t=>!(asg assign).contains t&&!(asg body).contains t)then
  match capsD R.ts caps,constsOf R.consts s.tm,matchOK R.head s with
  |some xs,some cs,some ms=>(decP _ xs).bind fun x=>guardO (R.pre x)<|(decP _ cs).bind fun c=>(decP _ ms).bind fun m=> .opt (R.den (R.items x) c m) fun r=>encR _ r 0 fun i ds=>match R.exits[i]? with
   |some (x,sh)=>(match fillS sh ds with
    |some s'=> .ret (x,{s' with tm:=constsIn R.consts cs++s'.tm})
    |none=> .fail)
   |none=> .fail
  |_,_,_=> .fail
  else .fail
 |_=> .fail
def arun(e:Env):Code→St→Out (Ex×St)
 | .skip,s=> .ret (.normal,s)
 | .region _ ops draw,s=>(region e ops.toList draw s).bind fun s=> .ret (.normal,s)
 | .seq a b,s=>(arun e a s).bind fun(x,s')=>match x with| .normal=>arun e b s'|x=> .ret (x,s')
 | .cond c a b,s=>(getSc .bool (ev s.tm c)).bind fun t=> .br t (arun e a s) (arun e b s)
 | .block id a,s=>(arun e a s).bind fun(x,s')=>match x with| .exit id'=>bif id'==id then .ret (.normal,s')else .ret (x,s')|x=> .ret (x,s')
 | .exit id,s=> .ret (.exit id,s)
 | .ret,s=> .ret (.ret,s)
 | .loop body,s=>(match look e.lp (firstReg body)with|some L=>loopO L body e.fuel s|none=> .fail)
 | .rangeFunc f ps assign body,s=>(match look e.rg (rkey assign body)with|some R=>rangeO R ps.toList assign body (ev s.tm f) s|none=> .fail)
 |_,_=> .fail
def roundO(e:Env)(L:LSpec)(body:Code)(n:Nat)(c:PT (L.consts.map (·.2)))(m:PT L.head.tys):Out (RT (L.exits.map fun x=>x.2.tys)):=
 match fillS L.head (encP _ m)with
 |some s=>(arun e body {s with tm:=constsIn L.consts (encP _ c)++s.tm}).bind fun(x,s')=>match x with
  | .normal=>(match matchOK L.head s' with|some ms'=>(decP _ ms').bind fun m'=> .opt (L.den n c m') .ret|none=> .fail)
  |x=>(match exitAt L.exits x 0 with
   |some (i,sh)=>(match matchOK sh s' with|some ds=>decR _ i ds|none=> .fail)
   |none=> .fail)
 |none=> .fail
structure LoopOK(e:Env)(L:LSpec)(body:Code):Prop where
 zero: ∀c m,L.den 0 c m=none
 succ: ∀n c m,(roundO e L body n c m).run=L.den (n+1) c m
def endR(R:RSpec)(c:PT (R.consts.map (·.2)))(m:PT R.head.tys):Out (RT (R.exits.map fun x=>x.2.tys)):=
 match fillS R.head (encP _ m)with
 |some s=>(match exitAt R.exits .normal 0 with
  |some (i,sh)=>(match matchOK sh {s with tm:=constsIn R.consts (encP _ c)++s.tm}with|some ds=>decR _ i ds|none=> .fail)
  |none=> .fail)
 |none=> .fail
def roundR(e:Env)(R:RSpec)(ps:List Nat)(assign body:Code)(y:PT R.ys)(ys:List (PT R.ys))(c:PT (R.consts.map (·.2)))(m:PT R.head.tys):Out (RT (R.exits.map fun x=>x.2.tys)):=
 match fillS R.head (encP _ m)with
 |some s=>(arun e assign {s with tm:=psIn ps (encP _ y)++(constsIn R.consts (encP _ c)++s.tm)}).bind fun(x,s1)=>match x with
  | .normal=>needO (no0 s1.tm)<|(arun e body s1).bind fun(x,s')=>(match x with
   | .normal=>(match matchOK R.head s' with|some ms'=>(decP _ ms').bind fun m'=> .opt (R.den ys c m') .ret|none=> .fail)
   |x=>(match exitAt R.exits x 0 with
    |some (i,sh)=>(match matchOK sh s' with|some ds=>decR _ i ds|none=> .fail)
    |none=> .fail))
  |_=> .fail
 |none=> .fail
structure RangeOK(e:Env)(R:RSpec)(ps:List Nat)(assign body:Code):Prop where
 nil: ∀c m,(endR R c m).run=R.den [] c m
 cons: ∀y ys c m,(roundR e R ps assign body y ys c m).run=R.den (y::ys) c m
def loopIn:Code→Nat→Option Code
 | .loop b,n=>bif firstReg b==n then some b else loopIn b n
 | .seq a b,n=>(match loopIn a n with|some x=>some x|none=>loopIn b n)
 | .block _ a,n=>loopIn a n
 | .scope a,n=>loopIn a n
 | .cond _ a b,n=>(match loopIn a n with|some x=>some x|none=>loopIn b n)
 | .rangeFunc _ _ a b,n=>(match loopIn a n with|some x=>some x|none=>loopIn b n)
 |_,_=>none
structure Ent where
 vs:List PV
 rs:List (Nat×Root)
 l:List Dyn
 id:Nat
def enterM:Mode→List Dyn→Nat→Option Ent
 | .b t,d::l,id=>bif decide (d.t=t)then some ⟨[expand d.t d.x],[],l,id⟩else none
 | .q t,d::l,id=>bif decide (d.t=t)then some ⟨[.ro d.t d.x],[],l,id⟩else none
 | .i t,d::l,id| .o t,d::l,id=>bif decide (d.t=t)&&t.arrOK then(match ownL d.t d.x id with|(v,up,id')=>some ⟨[pack d.t v],up,l,id'⟩)else none
 | .p t true,d::l,id=>bif decide (d.t=t)&&t.arrOK then(match ownL d.t d.x (id+1)with|(v,up,id')=>some ⟨[.ptr id 0 0 none],up++[(id,.box v)],l,id'⟩)else none
 | .p t false,d::l,id=>bif decide (d.t=t)then some ⟨[.ptr id 0 0 none],[(id,.box (leaves d.t d.x))],l,id+1⟩else none
 | .f0 g,l,id=>some ⟨[.fn g []],[],l,id⟩
 | .f1 g m,l,id=>(match enterM m l id with|some a=>bif capOKL a.vs then some {a with vs:=[.fn g a.vs]}else none|none=>none)
 | .f2 g m n,l,id=>(match enterM m l id with
  |some a=>(match enterM n a.l a.id with|some b=>bif capOKL a.vs&&capOKL b.vs then some ⟨[.fn g (a.vs++b.vs)],a.rs++b.rs,b.l,b.id⟩else none|none=>none)
  |none=>none)
 | .pb m,l,id=>(match enterM m l id with|some a=>(match a.vs with|[v]=>bif capOK v then some {a with vs:=[.rb v]}else none|_=>none)|none=>none)
 |_,_,_=>none
def enterL:List Mode→List Dyn→Nat→Option (List PV×List (Nat×Root))
 |[],[],_=>some ([],[])
 |m::ms,l,id=>(match enterM m l id with
  |some a=>(match enterL ms a.l a.id with|some (vs,s)=>some (a.vs++vs,a.rs++s)|none=>none)
  |none=>none)
 |_,_,_=>none
def leaveW(lk:Look):Ty→List PV→Out (List Dyn×List Nat×List PV)
 | .pair a b,vs=>(leaveW lk a vs).bind fun(x,l,vs)=>(leaveW lk b vs).bind fun(y,l',vs)=> .ret (x++y,l++l',vs)
 | .st t,vs=>leaveW lk t vs
 | .unit,vs=> .ret ([],[],vs)
 | .sl t,.rf r::vs=>(match lk r with
  |some (.row u xs m)=>needO (decide (u=t)&&(m.deep||(u.flat&&!decide (m= .froz)))) (.ret ([⟨.sl u,xs⟩],[r],vs))
  |_=> .fail)
 | .sl _,_=> .fail
 |_,_::vs=> .ret ([],[],vs)
 |_,[]=> .fail
def leaveM(lk:Look):Mode→PV→Out (List Dyn×List Nat)
 | .b _,_| .q _,_| .o _,_| .f0 _,_=> .ret ([],[])
 | .i t,v=>(leaveW lk t (unpack v)).bind fun(a,b,_)=> .ret (a,b)
 | .p t true,.ptr r 0 0 none=>(match lk r with
  |some (.box ps)=>needO (ownableL lk ps) ((toL lk t ps).bind fun(x,l)=>match l with|[]=> .ret ([⟨t,x⟩],r::idsL ps)|_=> .fail)
  |_=> .fail)
 | .p t false,.ptr r 0 0 none=>(match lk r with
  |some (.box ps)=>(match idsL ps with
   |[]=>(toL lk t ps).bind fun(x,l)=>(match l with|[]=> .ret ([⟨t,x⟩],[r])|_=> .fail)
   |_=> .fail)
  |_=> .fail)
 | .f1 _ m,.fn _ [v]=>leaveM lk m v
 | .f2 _ m n,.fn _ [v,w]=>(leaveM lk m v).bind fun(a,l)=>(leaveM lk n w).bind fun(b,l')=> .ret (a++b,l++l')
 | .pb m,.rb v=>leaveM lk m v
 |_,_=> .fail
def leaveL(lk:Look):List Mode→List PV→Out (List Dyn×List Nat)
 |[],[]=> .ret ([],[])
 |m::ms,v::vs=>(leaveM lk m v).bind fun(a,l)=>(leaveL lk ms vs).bind fun(b,l')=> .ret (a++b,l++l')
 |_,_=> .fail
def resVal(e:Env)(s:St):ResultVar→Out PV
 | .tmp t=> .ret (getT s.tm t)
 | .cell a t=>(match tyOf e t,getT s.tm a with|some t,.ptr r n k j=>getAt (look s.roots) t r n k j|_,_=> .fail)
def resL(e:Env)(s:St):List Res→List ResultVar→Out (List Dyn×List Nat×List Nat)
 |[],[]=> .ret ([],[],[])
 | .v t true::rs,x::xs=>(resVal e s x).bind fun v=>needO (topV t v&&ownable (look s.roots) v) ((toD (look s.roots) t v).bind fun d=>(resL e s rs xs).bind fun(ds,l,rd)=> .ret (⟨t,d⟩::ds,ids v++l,rd))
 | .v t false::rs,x::xs=>(resVal e s x).bind fun v=>needO (topV t v) ((toD (look s.roots) t v).bind fun d=>(resL e s rs xs).bind fun(ds,l,rd)=> .ret (⟨t,d⟩::ds,l,ids v++rd))
 | .pn t::rs,x::xs=>(resVal e s x).bind fun v=>match v with
  | .ptr r 0 0 none=>(match look s.roots r with
   |some (.box ps)=>needO (ownableL (look s.roots) ps) ((toL (look s.roots) t ps).bind fun(d,l)=>match l with
    |[]=>(resL e s rs xs).bind fun(ds,l,rd)=> .ret (⟨t,d⟩::ds,r::idsL ps++l,rd)
    |_=> .fail)
   |_=> .fail)
  |_=> .fail
 | .pl t::rs,x::xs=>(resVal e s x).bind fun v=>match v with
  | .ptr r 0 0 none=>(match look s.roots r with
   |some (.box ps)=>(match idsL ps with
    |[]=>(toL (look s.roots) t ps).bind fun(d,l)=>(match l with
     |[]=>(resL e s rs xs).bind fun(ds,l,rd)=> .ret (⟨t,d⟩::ds,r::l,rd)
     |_=> .fail)
    |_=> .fail)
   |_=> .fail)
  |_=> .fail
 |_,_=> .fail
def numbered(vs:List PV):List (Nat×PV):=vs.zipIdx.map fun(v,i)=>(i,v)
def bodyO(e:Env)(f:Func)(params:List Mode)(res:List Res)(x:PT (insL params)):Out (PT (retL params res)):=
 match f.body,enterL params (encP _ x) 1 with
 |some c,some (vs,rs)=>needO ((asg c).all (Nat.blt · f.ntmps)&&Nat.ble vs.length f.ntmps&&rs.all (fun x=>Nat.blt x.1 1000))<|(arun e c ⟨numbered vs,upd [] (rs.map fun(i,x)=>(i,some x))⟩).bind fun(x,s)=>
  needO ((decide (x= .ret)||decide (x= .normal))&&no0 s.tm)
   ((leaveL (look s.roots) params vs).bind fun(outs,l)=>(resL e s res f.results.toList).bind fun(ds,l',rd)=>needO (nodupB (l++l')&&apartB rd (l++l')&&rd.all (fun r=>(look s.roots r).isSome)&&(look s.roots 0).isNone) (decP _ (outs++ds)))
 |_,_=> .fail
end Go.Vm
namespace Go.Vm
theorem Addr.add_block(a:Addr)(j:Nat):(a.add j).block=a.block:=by unfold Addr.add;split<;>rfl
section
variable {α:Type}
def EL(R:α→List Value→List Nat→Prop):List α→List Value→List Nat→Prop
 |[],cs,bs=>cs=[]∧bs=[]
 |x::xs,cs,bs=> ∃c cs' b bs',cs=c++cs'∧bs=b++bs'∧R x c b∧EL R xs cs' bs'
def OwnS(w:World)(R:α→List Value→List Nat→Prop)(sz:Nat)(xs:List α)(v:Value)(bs:List Nat):Prop:=
 (∃A,v= .slice A 0 0∧xs=[]∧bs=[])∨
 ∃g cap cells rest,v= .slice (some ⟨g,0,none⟩) xs.length cap∧xs.length≤cap∧cap≤maxLen∧g<w.heap.size∧
  w.rangeAt g 0 cells∧w.there g 0 (cap*sz)∧EL R xs cells rest∧bs=g::rest
def BorS(w:World)(O:Nat→Prop)(R:α→List Value→List Nat→Prop)(xs:List α)(v:Value):Prop:=
 ∃A cap,v= .slice A xs.length cap∧(xs.length≤cap∧cap≤maxLen)∧
  (0<xs.length→ ∃a cells,A=some a∧a.block<w.heap.size∧ ¬O a.block∧(∀j u,cells[j]?=some u→w.cell? (a.add j)=some u)∧EL R xs cells [])
end
def ErrV(x:Bool)(v:Value):Prop:=(x=true∧v= .nilIface)∨(x=false∧ ∃t u,v= .iface t u)
def DRel(w:World)(O:Nat→Prop)(m:Bool):(t:Ty)→t.den→List Value→List Nat→Prop
 | .int k,x,cs,bs=>cs=[.int k (toI k x)]∧bs=[]
 | .bool,x,cs,bs=>cs=[.bool x]∧bs=[]
 | .str,x,cs,bs=>(∃s:ByteArray,s.data.toList=x∧x.length≤maxLen∧cs=[.string s])∧bs=[]
 | .err,x,cs,bs=>(∃v,cs=[v]∧ErrV x v)∧bs=[]
 | .ref,_,cs,bs=>(∃v:Value,cs=[v]∧v.oneCell'=true)∧bs=[]
 | .sl t,xs,cs,bs=> ∃v,cs=[v]∧(match m with
  |true=>OwnS w (DRel w O m t) t.sz xs v bs
  |false=>BorS w O (DRel w O m t) xs v∧bs=[])
 | .arr n t,xs,cs,bs=>xs.length=n∧EL (DRel w O m t) xs cs bs
 | .pair a b,x,cs,bs=> ∃c d p q,cs=c++d∧bs=p++q∧DRel w O m a x.1 c p∧DRel w O m b x.2 d q
 | .st t,x,cs,bs=>DRel w O m t x cs bs
 | .unit,_,cs,bs=>cs=[]∧bs=[]
theorem EL.mono{α:Type}{R R':α→List Value→List Nat→Prop}: ∀{xs:List α} {cs:List Value} {bs:List Nat},
  (∀x c b,x∈xs→(∀k∈b,k∈bs)→R x c b→R' x c b)→EL R xs cs bs→EL R' xs cs bs
 |[],_,_,_,h=>h
 |x::xs,cs,bs,hr,⟨c,cs',b,bs',e1,e2,h1,h2⟩=>
  ⟨c,cs',b,bs',e1,e2,hr _ _ _ (by simp) (fun k hk=>by rw[e2];simp[hk]) h1,
   EL.mono (fun x c b' hx hb h=>hr x c b' (by simp[hx]) (fun k hk=>by rw[e2];exact List.mem_append_right _ (hb k hk)) h) h2⟩
structure Stp(w:World)(O:Nat→Prop)(w':World)(O':Nat→Prop):Prop where
 size:w.heap.size≤w'.heap.size
 keep: ∀k,k<w.heap.size→ ¬O k→w'.heap[k]?=w.heap[k]?
 ours: ∀k,k<w.heap.size→ ¬O k→ ¬O' k
 os:w'.os=w.os
 output:w'.output=w.output
 tape:w'.tape=w.tape
theorem Stp.refl(w:World)(O:Nat→Prop):Stp w O w O:=⟨Nat.le_refl _,fun _ _ _=>rfl,fun _ _ h=>h,rfl,rfl,rfl⟩
theorem Stp.trans{w w' w'':World}{O O' O'':Nat→Prop}(h:Stp w O w' O')(k:Stp w' O' w'' O''):Stp w O w'' O'':=
 ⟨Nat.le_trans h.size k.size,fun i hi ho=>(k.keep i (Nat.lt_of_lt_of_le hi h.size) (h.ours i hi ho)).trans (h.keep i hi ho),
  fun i hi ho=>k.ours i (Nat.lt_of_lt_of_le hi h.size) (h.ours i hi ho),k.os.trans h.os,k.output.trans h.output,k.tape.trans h.tape⟩
theorem BorS.step{α:Type}{w w':World}{O O':Nat→Prop}(hs:Stp w O w' O'){R R':α→List Value→List Nat→Prop}{xs:List α}{v:Value}
  (hr: ∀x c b,x∈xs→R x c b→R' x c b) (h:BorS w O R xs v):BorS w' O' R' xs v:=by
 obtain⟨A,cap,e,hc,h⟩:=h
 refine⟨A,cap,e,hc,fun hp=>?_⟩
 obtain⟨a,cells,e1,h1,h2,h3,h4⟩:=h hp
 refine⟨a,cells,e1,Nat.lt_of_lt_of_le h1 hs.size,hs.ours _ h1 h2,fun j u hj=>?_,EL.mono (fun x c b hx _ h=>hr x c b hx h) h4⟩
 have e:w'.heap[(a.add j).block]?=w.heap[(a.add j).block]?:=by rw[Addr.add_block];exact hs.keep _ h1 h2
 rw[World.cell?_of_block e]
 exact h3 j u hj
theorem OwnS.step{α:Type}{w w':World}{R R':α→List Value→List Nat→Prop}{sz:Nat}{xs:List α}{v:Value}{bs:List Nat}
  (hk: ∀k∈bs,w'.heap[k]?=w.heap[k]?) (hsz:w.heap.size≤w'.heap.size) (hr: ∀x c b,x∈xs→(∀k∈b,k∈bs)→R x c b→R' x c b) (h:OwnS w R sz xs v bs):OwnS w' R' sz xs v bs:=by
 rcases h with h|⟨g,cap,cells,rest,e,h1,h2,h3,h4,h5,h6,h7⟩
 ·exact .inl h
 ·have hg:=hk g (by rw[h7];simp)
  refine .inr ⟨g,cap,cells,rest,e,h1,h2,Nat.lt_of_lt_of_le h3 hsz,fun j u hj=>?_,fun j hj=>?_,EL.mono (fun x c b hx hb h=>hr x c b hx (fun k hk=>by rw[h7];exact List.mem_cons_of_mem _ (hb k hk)) h) h6,h7⟩
  ·rw[World.cell?_of_block (a:=⟨g,0+j,none⟩) hg];exact h4 j u hj
  ·rw[World.cell?_of_block (a:=⟨g,0+j,none⟩) hg,World.frozen?_of_block (a:=⟨g,0+j,none⟩) hg];exact h5 j hj
theorem DRel.bor{w w':World}{O O':Nat→Prop}(hs:Stp w O w' O'): ∀(t:Ty) (x:t.den) (cs:List Value) (bs:List Nat),DRel w O false t x cs bs→DRel w' O' false t x cs bs
 | .int _,_,_,_,h| .bool,_,_,_,h| .str,_,_,_,h| .err,_,_,_,h| .ref,_,_,_,h| .unit,_,_,_,h=>h
 | .sl t,xs,cs,bs,⟨v,e,h,hb⟩=>⟨v,e,h.step hs (fun x c b _ h=>DRel.bor hs t x c b h),hb⟩
 | .arr _ t,_,_,_,⟨h1,h2⟩=>⟨h1,EL.mono (fun x c b _ _ h=>DRel.bor hs t x c b h) h2⟩
 | .pair a b,_,_,_,⟨c,d,p,q,e1,e2,h1,h2⟩=>⟨c,d,p,q,e1,e2,DRel.bor hs a _ _ _ h1,DRel.bor hs b _ _ _ h2⟩
 | .st t,x,cs,bs,h=>DRel.bor hs t x cs bs h
theorem DRel.own{w w':World}{O O':Nat→Prop}(hsz:w.heap.size≤w'.heap.size): ∀(t:Ty) (x:t.den) (cs:List Value) (bs:List Nat),(∀k∈bs,w'.heap[k]?=w.heap[k]?)→DRel w O true t x cs bs→DRel w' O' true t x cs bs
 | .int _,_,_,_,_,h| .bool,_,_,_,_,h| .str,_,_,_,_,h| .err,_,_,_,_,h| .ref,_,_,_,_,h| .unit,_,_,_,_,h=>h
 | .sl t,xs,cs,bs,hk,⟨v,e,h⟩=>⟨v,e,h.step hk hsz (fun x c b _ hb h=>DRel.own hsz t x c b (fun k hk'=>hk k (hb k hk')) h)⟩
 | .arr _ t,_,_,_,hk,⟨h1,h2⟩=>⟨h1,EL.mono (fun x c b _ hb h=>DRel.own hsz t x c b (fun k hk'=>hk k (hb k hk')) h) h2⟩
 | .pair a b,_,_,_,hk,⟨c,d,p,q,e1,e2,h1,h2⟩=>⟨c,d,p,q,e1,e2,DRel.own hsz a _ _ _ (fun k hk'=>hk k (by rw[e2];simp[hk'])) h1,DRel.own hsz b _ _ _ (fun k hk'=>hk k (by rw[e2];simp[hk'])) h2⟩
 | .st t,x,cs,bs,hk,h=>DRel.own hsz t x cs bs hk h
theorem EL.lend{α:Type}{R R':α→List Value→List Nat→Prop}: ∀{xs:List α} {cs:List Value} {bs:List Nat},
  (∀x c b,(∀k∈b,k∈bs)→R x c b→R' x c [])→EL R xs cs bs→EL R' xs cs []
 |[],_,_,_,⟨h,_⟩=>⟨h,rfl⟩
 |x::xs,cs,bs,hr,⟨c,cs',b,bs',e1,e2,h1,h2⟩=>
  ⟨c,cs',[],[],e1,rfl,hr _ _ _ (fun k hk=>by rw[e2];simp[hk]) h1,EL.lend (fun x c b' hb h=>hr x c b' (fun k hk=>by rw[e2];exact List.mem_append_right _ (hb k hk)) h) h2⟩
theorem DRel.lend{w:World}{O O':Nat→Prop}: ∀(t:Ty) (x:t.den) (cs:List Value) (bs:List Nat),(∀k∈bs,¬O' k)→DRel w O true t x cs bs→DRel w O' false t x cs []
 | .int _,_,_,_,_,h| .bool,_,_,_,_,h| .str,_,_,_,_,h| .err,_,_,_,_,h| .ref,_,_,_,_,h| .unit,_,_,_,_,h=>⟨h.1,rfl⟩
 | .sl t,xs,cs,bs,hk,⟨v,e,h⟩=>by
  refine⟨v,e,?_,rfl⟩
  rcases h with⟨A,rfl,rfl,rfl⟩|⟨g,cap,cells,rest,e,h1,hm,h3,h4,_,h6,h7⟩
  ·exact⟨A,0,rfl,⟨Nat.le_refl _,Nat.zero_le _⟩,fun h=>absurd h (by simp)⟩
  ·refine⟨some ⟨g,0,none⟩,cap,e,⟨h1,hm⟩,fun _=>⟨⟨g,0,none⟩,cells,rfl,h3,hk g (by rw[h7];simp),fun j u hj=>?_,EL.lend (fun x c b hb h=>DRel.lend t x c b (fun k hk'=>hk k (by rw[h7];exact List.mem_cons_of_mem _ (hb k hk'))) h) h6⟩⟩
   rw[Addr.add_mid];exact h4 j u hj
 | .arr _ t,_,_,_,hk,⟨h1,h2⟩=>⟨h1,EL.lend (fun x c b hb h=>DRel.lend t x c b (fun k hk'=>hk k (hb k hk')) h) h2⟩
 | .pair a b,_,_,_,hk,⟨c,d,p,q,e1,e2,h1,h2⟩=>⟨c,d,[],[],e1,rfl,DRel.lend a _ _ _ (fun k hk'=>hk k (by rw[e2];simp[hk'])) h1,DRel.lend b _ _ _ (fun k hk'=>hk k (by rw[e2];simp[hk'])) h2⟩
 | .st t,x,cs,bs,hk,h=>DRel.lend t x cs bs hk h
theorem EL.flat{α:Type}{R R':α→List Value→List Nat→Prop}: ∀{xs:List α} {cs:List Value} {bs:List Nat},
  (∀x c b,R x c b→b=[]∧R' x c [])→EL R xs cs bs→bs=[]∧EL R' xs cs []
 |[],_,_,_,⟨h,h'⟩=>⟨h',h,rfl⟩
 |x::xs,cs,bs,hr,⟨c,cs',b,bs',e1,e2,h1,h2⟩=>by
  obtain⟨rfl,h1'⟩:=hr _ _ _ h1
  obtain⟨rfl,h2'⟩:=EL.flat hr h2
  exact⟨e2,c,cs',[],[],e1,rfl,h1',h2'⟩
theorem DRel.flat{w w':World}{O O':Nat→Prop}{m m':Bool}: ∀(t:Ty) (x:t.den) (cs:List Value) (bs:List Nat),t.flat=true→DRel w O m t x cs bs→bs=[]∧DRel w' O' m' t x cs []
 | .int _,_,_,_,_,h| .bool,_,_,_,_,h| .str,_,_,_,_,h| .err,_,_,_,_,h| .ref,_,_,_,_,h| .unit,_,_,_,_,h=>⟨h.2,h.1,rfl⟩
 | .sl _,_,_,_,hf,_=>by simp[Ty.flat]at hf
 | .arr _ t,_,_,_,hf,⟨h1,h2⟩=>by
  obtain⟨h3,h4⟩:=EL.flat (fun x c b h=>DRel.flat (w':=w') (O':=O') (m':=m') t x c b (by simpa[Ty.flat]using hf) h) h2
  exact⟨h3,h1,h4⟩
 | .pair a b,_,_,_,hf,⟨c,d,p,q,e1,e2,h1,h2⟩=>by
  simp[Ty.flat]at hf
  obtain⟨rfl,h1'⟩:=DRel.flat (w':=w') (O':=O') (m':=m') a _ _ _ hf.1 h1
  obtain⟨rfl,h2'⟩:=DRel.flat (w':=w') (O':=O') (m':=m') b _ _ _ hf.2 h2
  exact⟨e2,c,d,[],[],e1,rfl,h1',h2'⟩
 | .st t,x,cs,bs,hf,h=>DRel.flat t x cs bs (by simpa[Ty.flat]using hf) h
theorem EL.length{α:Type}{R:α→List Value→List Nat→Prop}{n:Nat}: ∀{xs:List α} {cs:List Value} {bs:List Nat},(∀x c b,R x c b→c.length=n)→EL R xs cs bs→cs.length=xs.length*n
 |[],_,_,_,⟨h,_⟩=>by simp[h]
 |x::xs,cs,bs,hr,⟨c,cs',b,bs',e1,_,h1,h2⟩=>by
  rw[e1,List.length_append,hr _ _ _ h1,EL.length hr h2,List.length_cons,Nat.add_mul];omega
theorem DRel.length{w:World}{O:Nat→Prop}{m:Bool}: ∀(t:Ty) (x:t.den) (cs:List Value) (bs:List Nat),DRel w O m t x cs bs→cs.length=t.sz
 | .int _,_,_,_,h| .bool,_,_,_,h=>by rw[h.1];rfl
 | .str,_,_,_,⟨⟨_,_,_,e⟩,_⟩=>by rw[e];rfl
 | .err,_,_,_,⟨⟨_,e,_⟩,_⟩=>by rw[e];rfl
 | .ref,_,_,_,⟨⟨_,e,_⟩,_⟩=>by rw[e];rfl
 | .unit,_,_,_,h=>by rw[h.1];rfl
 | .sl _,_,_,_,⟨v,e,_⟩=>by rw[e];rfl
 | .arr n t,_,_,_,⟨h1,h2⟩=>by rw[EL.length (fun x c b h=>DRel.length t x c b h) h2,h1];rfl
 | .pair a b,_,_,_,⟨c,d,p,q,e1,_,h1,h2⟩=>by rw[e1,List.length_append,DRel.length a _ _ _ h1,DRel.length b _ _ _ h2];rfl
 | .st t,x,cs,bs,h=>DRel.length t x cs bs h
theorem EL.one{α:Type}{R:α→List Value→List Nat→Prop}: ∀{xs:List α} {cs:List Value} {bs:List Nat},(∀x c b,R x c b→ ∀v∈c,Value.oneCell' v=true)→EL R xs cs bs→ ∀v∈cs,v.oneCell'=true
 |[],_,_,_,⟨h,_⟩=>by simp[h]
 |x::xs,cs,bs,hr,⟨c,cs',b,bs',e1,_,h1,h2⟩=>by
  intro v hv
  rw[e1,List.mem_append]at hv
  rcases hv with hv|hv
  ·exact hr _ _ _ h1 v hv
  ·exact EL.one hr h2 v hv
theorem DRel.one{w:World}{O:Nat→Prop}{m:Bool}: ∀(t:Ty) (x:t.den) (cs:List Value) (bs:List Nat),DRel w O m t x cs bs→ ∀v∈cs,v.oneCell'=true
 | .int _,_,_,_,h| .bool,_,_,_,h=>by rw[h.1];simp[Value.oneCell']
 | .str,_,_,_,⟨⟨_,_,_,e⟩,_⟩=>by rw[e];simp[Value.oneCell']
 | .err,_,_,_,⟨⟨_,e,h⟩,_⟩=>by
  rw[e]
  rcases h with⟨_,rfl⟩|⟨_,t,u,rfl⟩<;>simp[Value.oneCell']
 | .ref,_,_,_,⟨⟨_,e,h⟩,_⟩=>by rw[e];simpa using h
 | .unit,_,_,_,h=>by rw[h.1];simp
 | .sl _,_,_,_,⟨v,e,h⟩=>by
  rw[e]
  have:v.oneCell'=true:=by
   split at h
   ·rcases h with⟨A,rfl,_⟩|⟨g,cap,cells,rest,rfl,_⟩<;>rfl
   ·obtain⟨⟨A,cap,rfl,_⟩,_⟩:=h;rfl
  simpa using this
 | .arr n t,_,_,_,⟨h1,h2⟩=>EL.one (fun x c b h=>DRel.one t x c b h) h2
 | .pair a b,_,_,_,⟨c,d,p,q,e1,_,h1,h2⟩=>by
  intro v hv
  rw[e1,List.mem_append]at hv
  rcases hv with hv|hv
  ·exact DRel.one a _ _ _ h1 v hv
  ·exact DRel.one b _ _ _ h2 v hv
 | .st t,x,cs,bs,h=>DRel.one t x cs bs h
end Go.Vm
namespace Go.Vm
inductive G where
 |box (b o:Nat) (szs:List Nat) (out:Nat→Option Value×Bool)
 |row (v:Value) (t:Ty)
def offL(t:Ty)(k:Nat):Nat:=((szT t).take k).sum
def rowAt:Value→Option Nat| .slice (some ⟨g,0,none⟩) _ (_+1)=>some g|_=>none
theorem rowAt_some{v:Value}{g:Nat}(h:rowAt v=some g): ∃l c,v= .slice (some ⟨g,0,none⟩) l (c+1):=by
 unfold rowAt at h
 split at h
 ·simp only[Option.some.injEq]at h;subst h;exact⟨_,_,rfl⟩
 ·cases h
theorem rowAt_pos{g l c:Nat}(h:0<c):rowAt (.slice (some ⟨g,0,none⟩) l c)=some g:=by
 obtain⟨d,rfl⟩: ∃d,c=d+1:=⟨c-1,by omega⟩
 rfl
def G.lsz:G→Nat→Nat
 | .box _ _ szs _,k=>szs[k]?.getD 0
 | .row _ t,k=>(szT t)[k]?.getD 0
def G.at:G→Nat→Nat→Option (Nat×Nat)
 | .box b o szs _,0,k=>some (b,o+(szs.take k).sum)
 | .row v t,n,k=>(rowAt v).map fun g=>(g,n*t.sz+offL t k)
 |_,_,_=>none
def AllW(W:Nat→Nat→Prop)(k:Nat):Prop:= ∃s,W s k
def ButW(W:Nat→Nat→Prop)(r k:Nat):Prop:= ∃s,s≠r∧W s k
section
variable (γ:Nat→G) (D:Nat→Nat) (w:World) (W:Nat→Nat→Prop)
mutual
def LRel:PV→List Value→Prop
 | .sc t x,cs=>t.leaf=true∧DRel w (AllW W) false t x cs []
 | .nilS _,cs=>cs=[.slice none 0 0]
 | .rf r,cs=>D r≠0∧ ∃v t,γ r= .row v t∧cs=[v]∧v.oneCell'=true
 | .sub r off len,cs=>D r≠0∧ ∃v t A n cap A' c',γ r= .row v t∧v= .slice A n cap∧cs=[.slice A' len c']∧len≤c'∧off+c'=cap∧off+len≤n∧
   (0<len→ ∃g,A=some ⟨g,0,none⟩∧A'=some ⟨g,off*t.sz,none⟩)∧(off=0→A'=A)
 | .nst r n k,cs=>D r=2∧ ∃v b o,(γ r).at n k=some (b,o)∧b<w.heap.size∧ ¬ButW W r b∧w.cell? ⟨b,o,none⟩=some v∧cs=[v]∧v.oneCell'=true
 | .av r n k off len,cs=>D r≠0∧ ∃b o A c',(γ r).at n k=some (b,o)∧cs=[.slice (some A) len c']∧len≤c'∧c'≤maxLen∧off+len≤(γ r).lsz k∧(0<len→A=⟨b,o+off,none⟩)
 | .ptr r n k j,cs=>D r≠0∧ ∃b o,(γ r).at n k=some (b,o)∧cs=[.pointer (some ⟨b,o+j.getD 0,none⟩)]
 | .ro t x,cs=> ∃a cells,cs=[.pointer (some a)]∧a.block<w.heap.size∧ ¬AllW W a.block∧(∀j u,cells[j]?=some u→w.cell? (a.add j)=some u)∧DRel w (AllW W) false t x cells []
 | .lent r t x,cs=>D r=2∧t.leaf=true∧t.sz=1∧DRel w (ButW W r) false t x cs []
 | .rod r t x,cs=>D r=2∧ ∃a cells,cs=[.pointer (some a)]∧a.block<w.heap.size∧ ¬ButW W r a.block∧(∀j u,cells[j]?=some u→w.cell? (a.add j)=some u)∧DRel w (ButW W r) false t x cells []
 | .rb v,cs=> ∃a u,cs=[.pointer (some a)]∧a.block<w.heap.size∧ ¬AllW W a.block∧w.cell? (a.add 0)=some u∧LRel v [u]
 | .nilp,cs=>cs=[.pointer none]∨cs=[.nilFunc]
 | .fn f caps,cs=> ∃vs,cs=[.func (.func f) #[] vs.toArray]∧LRels caps vs
 | .undef,cs=> ∃v:Value,cs=[v]∧v.oneCell'=true
 | .ag _,_| .tup _,_=>False
def LRels:List PV→List Value→Prop
 |[],vs=>vs=[]
 |p::ps,vs=> ∃v vs',vs=v::vs'∧LRel p [v]∧LRels ps vs'
end
def LL:List PV→List Value→Prop
 |[],cs=>cs=[]
 |p::ps,cs=> ∃c c',cs=c++c'∧c.length=szV p∧LRel γ D w W p c∧LL ps c'
def VRel0:PV→Value→Prop
 | .ag ps,v=> ∃cs,v= .agg cs.toArray∧LL γ D w W ps cs
 | .sc (.arr n t) x,v=> ∃cs,v= .agg cs.toArray∧LRel γ D w W (.sc (.arr n t) x) cs
 | .undef,_=>True
 |p,v=>LRel γ D w W p [v]
def VRels:List PV→List Value→Prop
 |[],vs=>vs=[]
 |p::ps,vs=> ∃v vs',vs=v::vs'∧VRel0 γ D w W p v∧VRels ps vs'
def VRel:PV→Value→Prop
 | .tup ps,v=> ∃vs,v= .tuple vs.toArray∧VRels γ D w W ps vs
 |p,v=>VRel0 γ D w W p v
def Plain(w:World)(g:Nat):Prop:= ∃C ty,w.heap[g]?=some (.cells C ty (0,0))
theorem OwnS.head_mem{α:Type}{w:World}{R:α→List Value→List Nat→Prop}{sz:Nat}{xs:List α}{v:Value}{bs:List Nat}(h:OwnS w R sz xs v bs){g:Nat}(hg:rowAt v=some g):g∈bs:=by
 obtain⟨_,_,e⟩:=rowAt_some hg
 rcases h with⟨A,rfl,_⟩|⟨g',cap,cells,rest,rfl,_,_,_,_,_,_,h7⟩
 ·cases e
 ·cases e;rw[h7];simp
def MapOf(xs:List Int)(es:List MapEntry):Prop:=(∀e∈es,∃n∈xs,e.key= .int .i64 n∧e.val= .bool true)∧ ∀n∈xs,∃e∈es,e.key= .int .i64 n
def RootRel:G→Root→List Nat→Prop
 | .box b o szs out,.box ps,bs=>nstFree ps=true∧ps.map szV=szs∧bs=[b]∧b<w.heap.size∧(∃cs,LL γ D w W ps cs∧w.rangeAt b o cs)∧w.there b o szs.sum∧
   (∀j,(j<o∨o+szs.sum≤j)→(w.cell? ⟨b,j,none⟩,w.frozen? ⟨b,j,none⟩)=out j)
 | .row v t,.row u xs m,bs=>u=t∧(match m with
   | .full| .lit=>OwnS w (DRel w (AllW W) true u) u.sz xs v bs
   | .shal=>OwnS w (fun x c b=>b=[]∧DRel w (AllW W) false u x c []) u.sz xs v bs
   | .bare=>OwnS w (DRel w (AllW W) true u) u.sz xs v bs∧ ∀g,rowAt v=some g→Plain w g
   | .froz=>bs=[]∧BorS w (AllW W) (DRel w (AllW W) false u) xs v∧(0<xs.length→(rowAt v).isSome=true))
 | .row v t,.mp xs,bs=>t= .int .i64∧ ∃b,v= .map (some b)∧bs=[b]∧b<w.heap.size∧ ∃es clock,w.heap[b]?=some (.map es clock)∧MapOf xs es.toList
 |_,.dead,bs=>bs=[]
 |_,.ext,_=>True
 |_,_,_=>False
end
structure Kp(γ:Nat→G)(D:Nat→Nat)(w:World)(W:Nat→Nat→Prop)(γ':Nat→G)(D':Nat→Nat)(w':World)(W':Nat→Nat→Prop)(bad:Nat→Prop):Prop where
 stp:Stp w (AllW W) w' (AllW W')
 same: ∀r,D r≠0→γ' r=γ r
 dom: ∀r,D r≠0→D' r≠0
 nst: ∀r,D r=2→ ¬bad r→D' r=2∧Stp w (ButW W r) w' (ButW W' r)∧ ∀k,W r k→W' r k
section
variable {γ γ':Nat→G} {D D':Nat→Nat} {w w':World} {W W':Nat→Nat→Prop} {bad:Nat→Prop}
mutual
theorem LRel.step(h:Kp γ D w W γ' D' w' W' bad): ∀(p:PV) (cs:List Value),(∀r∈nstOf p,¬bad r)→LRel γ D w W p cs→LRel γ' D' w' W' p cs
 | .sc t x,cs,_,hl=>by simp only[LRel]at*;exact⟨hl.1,DRel.bor h.stp _ _ _ _ hl.2⟩
 | .nilS _,cs,_,hl=>by simpa only[LRel]using hl
 | .rf r,cs,_,hl=>by
  simp only[LRel]at*
  obtain⟨h1,v,t,h2,h3⟩:=hl
  exact⟨h.dom r h1,v,t,(h.same r h1).trans h2,h3⟩
 | .sub r off len,cs,_,hl=>by
  simp only[LRel]at*
  obtain⟨h1,v,t,A,n,cap,A',c',h2,h3⟩:=hl
  exact⟨h.dom r h1,v,t,A,n,cap,A',c',(h.same r h1).trans h2,h3⟩
 | .nst r n k,cs,hb,hl=>by
  simp only[LRel]at*
  obtain⟨h1,v,b,o,h2,h5,h6,h3,h4⟩:=hl
  obtain⟨hd,hs,_⟩:=h.nst r h1 (hb r (by simp[nstOf]))
  exact⟨hd,v,b,o,by rw[h.same r (by omega)];exact h2,Nat.lt_of_lt_of_le h5 hs.size,hs.ours _ h5 h6,by rw[World.cell?_of_block (a:=⟨b,o,none⟩) (hs.keep _ h5 h6)];exact h3,h4⟩
 | .lent r t x,cs,hb,hl=>by
  simp only[LRel]at*
  obtain⟨hd,hs,_⟩:=h.nst r hl.1 (hb r (by simp[nstOf]))
  exact⟨hd,hl.2.1,hl.2.2.1,DRel.bor hs _ _ _ _ hl.2.2.2⟩
 | .rod r t x,cs,hb,hl=>by
  simp only[LRel]at*
  obtain⟨h0,a,cells,h1,h2,h3,h4,h5⟩:=hl
  obtain⟨hd,hs,_⟩:=h.nst r h0 (hb r (by simp[nstOf]))
  refine⟨hd,a,cells,h1,Nat.lt_of_lt_of_le h2 hs.size,hs.ours _ h2 h3,fun j u hj=>?_,DRel.bor hs _ _ _ _ h5⟩
  have e:w'.heap[(a.add j).block]?=w.heap[(a.add j).block]?:=by rw[Addr.add_block];exact hs.keep _ h2 h3
  rw[World.cell?_of_block e];exact h4 j u hj
 | .av r n k off len,cs,_,hl=>by
  simp only[LRel]at*
  obtain⟨h1,b,o,A,c',h2,h3⟩:=hl
  exact⟨h.dom r h1,b,o,A,c',by rw[h.same r h1];exact h2,by rw[h.same r h1];exact h3⟩
 | .ptr r n k j,cs,_,hl=>by
  simp only[LRel]at*
  obtain⟨h1,b,o,h2,h3⟩:=hl
  exact⟨h.dom r h1,b,o,by rw[h.same r h1];exact h2,h3⟩
 | .ro t x,cs,_,hl=>by
  simp only[LRel]at*
  obtain⟨a,cells,h1,h2,h3,h4,h5⟩:=hl
  refine⟨a,cells,h1,Nat.lt_of_lt_of_le h2 h.stp.size,h.stp.ours _ h2 h3,fun j u hj=>?_,DRel.bor h.stp _ _ _ _ h5⟩
  have e:w'.heap[(a.add j).block]?=w.heap[(a.add j).block]?:=by rw[Addr.add_block];exact h.stp.keep _ h2 h3
  rw[World.cell?_of_block e];exact h4 j u hj
 | .rb v,cs,hb,hl=>by
  simp only[LRel]at*
  obtain⟨a,u,h1,h2,h3,h4,h5⟩:=hl
  refine⟨a,u,h1,Nat.lt_of_lt_of_le h2 h.stp.size,h.stp.ours _ h2 h3,?_,LRel.step h v _ (fun r hr=>hb r (by simpa[nstOf]using hr)) h5⟩
  have e:w'.heap[(a.add 0).block]?=w.heap[(a.add 0).block]?:=by rw[Addr.add_block];exact h.stp.keep _ h2 h3
  rw[World.cell?_of_block e];exact h4
 | .nilp,cs,_,hl=>by simpa only[LRel]using hl
 | .fn f caps,cs,hb,hl=>by
  simp only[LRel]at*
  obtain⟨vs,h1,h2⟩:=hl
  exact⟨vs,h1,LRels.step h caps vs (fun r hr=>hb r (by simpa[nstOf]using hr)) h2⟩
 | .undef,cs,_,hl=>by simpa only[LRel]using hl
 | .ag _,cs,_,hl=>by simp only[LRel]at hl
 | .tup _,cs,_,hl=>by simp only[LRel]at hl
theorem LRels.step(h:Kp γ D w W γ' D' w' W' bad): ∀(ps:List PV) (vs:List Value),(∀r∈nstOfL ps,¬bad r)→LRels γ D w W ps vs→LRels γ' D' w' W' ps vs
 |[],vs,_,hl=>by simpa only[LRels]using hl
 |p::ps,vs,hb,hl=>by
  simp only[LRels]at*
  obtain⟨v,vs',h1,h2,h3⟩:=hl
  exact⟨v,vs',h1,LRel.step h p _ (fun r hr=>hb r (by simp[nstOfL,hr])) h2,LRels.step h ps vs' (fun r hr=>hb r (by simp[nstOfL,hr])) h3⟩
end
mutual
theorem nstOf_cap: ∀(p:PV),capOK p=true→nstOf p=[]
 | .ptr _ _ _ _,_| .ro _ _,_| .nilp,_=>rfl
 | .fn _ cs,h=>by simp only[capOK]at h;simp[nstOf,nstOfL_cap cs h]
 | .rb c,h=>by simp only[capOK]at h;simp[nstOf,nstOf_cap c h]
 | .sc _ _,h| .nilS _,h| .rf _,h| .sub _ _ _,h| .nst _ _ _,h| .lent _ _ _,h| .rod _ _ _,h| .av _ _ _ _ _,h| .ag _,h| .tup _,h| .undef,h=>by simp[capOK]at h
theorem nstOfL_cap: ∀(ps:List PV),capOKL ps=true→nstOfL ps=[]
 |[],_=>rfl
 |p::ps,h=>by simp only[capOKL,Bool.and_eq_true]at h;simp[nstOfL,nstOf_cap p h.1,nstOfL_cap ps h.2]
end
theorem nstOf_leaf: ∀(p:PV),leafOK p=true→nstOf p=[]
 | .fn _ cs,h=>by simp only[leafOK]at h;simp[nstOf,nstOfL_cap cs h]
 | .rb c,h=>by simp only[leafOK]at h;simp[nstOf,nstOf_cap c h]
 | .nst _ _ _,h| .lent _ _ _,h| .rod _ _ _,h| .ag _,h| .tup _,h| .undef,h=>by simp[leafOK]at h
 | .sc _ _,_| .nilS _,_| .rf _,_| .sub _ _ _,_| .av _ _ _ _ _,_| .ro _ _,_| .nilp,_| .ptr _ _ _ _,_=>rfl
theorem nstOfL_free: ∀(ps:List PV),nstFree ps=true→nstOfL ps=[]
 |[],_=>rfl
 |p::ps,h=>by simp only[nstFree,Bool.and_eq_true]at h;simp[nstOfL,nstOf_leaf p h.1,nstOfL_free ps h.2]
theorem LL.step(h:Kp γ D w W γ' D' w' W' bad): ∀(ps:List PV) (cs:List Value),(∀r∈nstOfL ps,¬bad r)→LL γ D w W ps cs→LL γ' D' w' W' ps cs
 |[],cs,_,hl=>hl
 |p::ps,cs,hb,⟨c,c',h1,h2,h3,h4⟩=>⟨c,c',h1,h2,LRel.step h p c (fun r hr=>hb r (by simp[nstOfL,hr])) h3,LL.step h ps c' (fun r hr=>hb r (by simp[nstOfL,hr])) h4⟩
theorem RootRel.keep(h:Kp γ D w W γ' D' w' W' bad){g:G}{x:Root}{bs:List Nat}(hk: ∀k∈bs,w'.heap[k]?=w.heap[k]?)(hl:RootRel γ D w W g x bs):RootRel γ' D' w' W' g x bs:=by
 unfold RootRel at*
 split at hl
 ·obtain⟨h0,h1,h2,h3,⟨cs,h4,h5⟩,h6,h7⟩:=hl
  rename_i b o szs out ps
  have hb:=hk b (by rw[h2];simp)
  have hc: ∀j,w'.cell? ⟨b,j,none⟩=w.cell? ⟨b,j,none⟩:=fun j=>World.cell?_of_block (a:=⟨b,j,none⟩) hb
  have hf: ∀j,w'.frozen? ⟨b,j,none⟩=w.frozen? ⟨b,j,none⟩:=fun j=>World.frozen?_of_block (a:=⟨b,j,none⟩) hb
  refine⟨h0,h1,h2,Nat.lt_of_lt_of_le h3 h.stp.size,⟨cs,LL.step h _ _ (by rw[nstOfL_free _ h0];simp) h4,fun j u hj=>?_⟩,fun j hj=>?_,fun j hj=>?_⟩
  ·rw[hc];exact h5 j u hj
  ·rw[hc,hf];exact h6 j hj
  ·rw[hc,hf];exact h7 j hj
 ·obtain⟨rfl,hl⟩:=hl
  refine⟨rfl,?_⟩
  split at hl
  ·exact hl.step hk h.stp.size (fun x c b _ hb hr=>DRel.own h.stp.size _ x c b (fun k hk'=>hk k (hb k hk')) hr)
  ·exact hl.step hk h.stp.size (fun x c b _ hb hr=>DRel.own h.stp.size _ x c b (fun k hk'=>hk k (hb k hk')) hr)
  ·exact hl.step hk h.stp.size (fun x c b _ hb hr=>⟨hr.1,DRel.bor h.stp _ x c _ hr.2⟩)
  ·exact⟨hl.1.step hk h.stp.size (fun x c b _ hb hr=>DRel.own h.stp.size _ x c b (fun k hk'=>hk k (hb k hk')) hr),fun g hg=>by
    obtain⟨C,ty,h1⟩:=hl.2 g hg
    exact⟨C,ty,by rw[hk g (hl.1.head_mem hg)];exact h1⟩⟩
  ·exact⟨hl.1,hl.2.1.step h.stp (fun x c b _ hr=>DRel.bor h.stp _ x c b hr),hl.2.2⟩
 ·obtain⟨h1,b,h2,h3,h4,es,c,h5,h6⟩:=hl
  exact⟨h1,b,h2,h3,Nat.lt_of_lt_of_le h4 h.stp.size,es,c,by rw[hk b (by rw[h3];simp)];exact h5,h6⟩
 ·exact hl
 ·trivial
 ·exact hl.elim
theorem VRel0.step(h:Kp γ D w W γ' D' w' W' bad)(p:PV)(v:Value)(hb: ∀r∈nstOf p,¬bad r)(hl:VRel0 γ D w W p v):VRel0 γ' D' w' W' p v:=by
 unfold VRel0 at*
 split at hl
 ·obtain⟨cs,h1,h2⟩:=hl
  exact⟨cs,h1,LL.step h _ _ (fun r hr=>hb r (by simpa[nstOf]using hr)) h2⟩
 ·obtain⟨cs,h1,h2⟩:=hl
  exact⟨cs,h1,LRel.step h _ _ hb h2⟩
 ·trivial
 ·exact LRel.step h _ _ hb hl
theorem VRels.step(h:Kp γ D w W γ' D' w' W' bad): ∀(ps:List PV) (vs:List Value),(∀r∈nstOfL ps,¬bad r)→VRels γ D w W ps vs→VRels γ' D' w' W' ps vs
 |[],vs,_,hl=>hl
 |p::ps,vs,hb,⟨v,vs',h1,h2,h3⟩=>⟨v,vs',h1,VRel0.step h p v (fun r hr=>hb r (by simp[nstOfL,hr])) h2,VRels.step h ps vs' (fun r hr=>hb r (by simp[nstOfL,hr])) h3⟩
theorem VRel.step(h:Kp γ D w W γ' D' w' W' bad)(p:PV)(v:Value)(hb: ∀r∈nstOf p,¬bad r)(hl:VRel γ D w W p v):VRel γ' D' w' W' p v:=by
 unfold VRel at*
 split at hl
 ·obtain⟨vs,h1,h2⟩:=hl
  exact⟨vs,h1,VRels.step h _ _ (fun r hr=>hb r (by simpa[nstOf]using hr)) h2⟩
 ·exact VRel0.step h _ _ hb hl
end
end Go.Vm
namespace Go.Vm
def Dom(lk:Look)(r:Nat):Nat:=match lk r with
 |none=>0
 |some (.row t _ m)=>bif !t.flat&&m.deep then 2 else 1
 |some .ext=>2
 |some _=>1
theorem dom_none{lk:Look}{r:Nat}:Dom lk r=0↔lk r=none:=by
 unfold Dom
 cases h:lk r with
 |none=>simp
 |some x=>
  cases x<;>simp
  rename_i t xs m
  cases (!t.flat&&m.deep)<;>simp
theorem dom_some{lk:Look}{r:Nat}(h:Dom lk r≠0): ∃x,lk r=some x:=by
 cases h':lk r with
 |none=>exact absurd (dom_none.2 h') h
 |some x=>exact⟨x,rfl⟩
def Owned(B:Nat→List Nat)(lk:Look)(r k:Nat):Prop:= ∃x,lk r=some x∧k∈B r
theorem owned_but{B:Nat→List Nat}{lk:Look}{r k:Nat}:ButW (Owned B lk) r k↔ ∃s x,s≠r∧lk s=some x∧k∈B s:=by
 constructor
 ·rintro⟨s,h,x,h1,h2⟩;exact⟨s,x,h,h1,h2⟩
 ·rintro⟨s,x,h,h1,h2⟩;exact⟨s,h,x,h1,h2⟩
structure Mem(γ:Nat→G)(B:Nat→List Nat)(w:World)(lk:Look):Prop where
 rel: ∀r x,lk r=some x→RootRel γ (Dom lk) w (Owned B lk) (γ r) x (B r)
 nodup: ∀r x,lk r=some x→(B r).Nodup
 uniq: ∀r s x y k,lk r=some x→lk s=some y→k∈B r→k∈B s→r=s
 lt: ∀r x,lk r=some x→ ∀k∈B r,k<w.heap.size
 glt: ∀r,Dom lk r≠0→ ∀n k b o,(γ r).at n k=some (b,o)→b<w.heap.size
def setF(lk:Look)(r:Nat)(x:Root):Look:=fun s=>if s=r then some x else lk s
def updF:Look→Ups→Look
 |lk,[]=>lk
 |lk,(r,x)::u=>updF (setF lk r (x.getD .dead)) u
theorem look_ins{α:Type}(n:Nat)(x:α): ∀(l:List (Nat×α)) (m:Nat),look (ins l n x) m=if m=n then some x else look l m
 |[],m=>by
  simp only[ins,look]
  by_cases h:m=n
  ·subst h;simp
  ·have:(n==m)=false:=by simp;omega
   simp[this,h]
 |(k,v)::l,m=>by
  simp only[ins]
  by_cases hk:k=n
  ·subst hk
   simp only[beq_self_eq_true,cond_true,look]
   by_cases h:m=k
   ·subst h;simp
   ·have:(k==m)=false:=by simp;omega
    simp[this,h]
  ·have hk':(k==n)=false:=by simp;omega
   simp only[hk',cond_false]
   cases hb:Nat.blt n k
   ·simp only[cond_false,look]
    by_cases h:k=m
    ·subst h
     have: ¬k=n:=hk
     simp[this]
    ·have:(k==m)=false:=by simp;omega
     simp only[this,cond_false]
     exact look_ins n x l m
   ·simp only[cond_true,look]
    by_cases h:m=n
    ·subst h;simp
    ·have:(n==m)=false:=by simp;omega
     simp[this,h]
theorem look_upd: ∀(u:Ups) (l:List (Nat×Root)),look (upd l u)=updF (look l) u
 |[],l=>rfl
 |(r,some x)::u,l=>by
  simp only[upd,updF,look_upd u]
  congr 1
  funext s
  simp[look_ins,setF]
 |(r,none)::u,l=>by
  simp only[upd,updF,look_upd u]
  congr 1
  funext s
  simp[look_ins,setF]
section
variable {γ:Nat→G} {B:Nat→List Nat} {w:World} {lk:Look}
theorem Kp.refl(γ:Nat→G)(D:Nat→Nat)(w:World)(W:Nat→Nat→Prop)(bad:Nat→Prop):Kp γ D w W γ D w W bad:=
 ⟨Stp.refl w _,fun _ _=>rfl,fun _ h=>h,fun _ hd _=>⟨hd,Stp.refl w _,fun _ h=>h⟩⟩
theorem Kp.trans{γ γ' γ'':Nat→G}{D D' D'':Nat→Nat}{w w' w'':World}{W W' W'':Nat→Nat→Prop}{bad bad':Nat→Prop}
  (h:Kp γ D w W γ' D' w' W' bad) (k:Kp γ' D' w' W' γ'' D'' w'' W'' bad'):Kp γ D w W γ'' D'' w'' W'' (fun r=>bad r∨bad' r):=
 ⟨h.stp.trans k.stp,fun r hr=>(k.same r (h.dom r hr)).trans (h.same r hr),fun r hr=>k.dom r (h.dom r hr),fun r hr hb=>by
  obtain⟨h1,h2,h5⟩:=h.nst r hr (fun e=>hb (.inl e))
  obtain⟨h3,h4,h6⟩:=k.nst r h1 (fun e=>hb (.inr e))
  exact⟨h3,h2.trans h4,fun k hk=>h6 k (h5 k hk)⟩⟩
theorem Kp.weaken{γ γ':Nat→G}{D D':Nat→Nat}{w w':World}{W W':Nat→Nat→Prop}{bad bad':Nat→Prop}(h:Kp γ D w W γ' D' w' W' bad)(hb: ∀r,D r=2→bad r→bad' r):Kp γ D w W γ' D' w' W' bad':=
 ⟨h.stp,h.same,h.dom,fun r hr hb'=>h.nst r hr (fun e=>hb' (hb r hr e))⟩
def updN{α:Type}(f:Nat→α)(r:Nat)(x:α):Nat→α:=fun s=>if s=r then x else f s
theorem Mem.add(hM:Mem γ B w lk){id:Nat}(hid:lk id=none){w':World}{x:Root}{g:G}{bs:List Nat}
  (hsz:w.heap.size≤w'.heap.size) (hold: ∀k,k<w.heap.size→w'.heap[k]?=w.heap[k]?) (hos:w'.os=w.os) (hou:w'.output=w.output) (hta:w'.tape=w.tape)
  (hnd:bs.Nodup) (hbs: ∀k∈bs,w.heap.size≤k∧k<w'.heap.size) (hg: ∀n k b o,g.at n k=some (b,o)→b<w'.heap.size)
  (hrel:Kp γ (Dom lk) w (Owned B lk) (updN γ id g) (Dom (setF lk id x)) w' (Owned (updN B id bs) (setF lk id x)) (fun _=>False)→
   RootRel (updN γ id g) (Dom (setF lk id x)) w' (Owned (updN B id bs) (setF lk id x)) g x bs):
  Mem (updN γ id g) (updN B id bs) w' (setF lk id x)∧
  Kp γ (Dom lk) w (Owned B lk) (updN γ id g) (Dom (setF lk id x)) w' (Owned (updN B id bs) (setF lk id x)) (fun _=>False):=by
 have hne: ∀r,Dom lk r≠0→r≠id:=fun r hr e=>hr (by rw[e];exact dom_none.2 hid)
 have hdd: ∀r,r≠id→Dom (setF lk id x) r=Dom lk r:=fun r hr=>by simp[Dom,setF,hr]
 have hback: ∀s k,k<w.heap.size→Owned (updN B id bs) (setF lk id x) s k→Owned B lk s k:=by
  rintro s k hk ⟨y,h1,h2⟩
  by_cases e:s=id
  ·subst e
   simp only[updN,if_true]at h2
   exact absurd (hbs k h2).1 (by omega)
  ·simp only[setF,e,if_false,updN]at h1 h2
   exact⟨y,h1,h2⟩
 have hK:Kp γ (Dom lk) w (Owned B lk) (updN γ id g) (Dom (setF lk id x)) w' (Owned (updN B id bs) (setF lk id x)) (fun _=>False):=by
  refine⟨⟨hsz,fun k hk _=>hold k hk,fun k hk hno=>?_,hos,hou,hta⟩,fun r hr=>by simp[updN,hne r hr],fun r hr=>?_,fun r hr hb=>⟨?_,⟨hsz,fun k hk _=>hold k hk,fun k hk hno=>?_,hos,hou,hta⟩,fun k=>?_⟩⟩
  ·rintro⟨r,h⟩;exact hno ⟨r,hback r k hk h⟩
  ·rw[hdd r (hne r hr)];exact hr
  ·rw[hdd r (hne r (by omega))];exact hr
  ·rintro⟨s,h,h'⟩;exact hno ⟨s,h,hback s k hk h'⟩
  ·rintro⟨y,h1,h2⟩
   have e:=hne r (by omega)
   exact⟨y,by simp[setF,e,h1],by simp[updN,e,h2]⟩
 refine⟨⟨fun r y hy=>?_,fun r y hy=>?_,fun r s y z k hy hz hk hk'=>?_,fun r y hy k hk=>?_,fun r hr n k b o ha=>?_⟩,hK⟩
 ·by_cases e:r=id
  ·subst e
   simp only[setF,if_true,Option.some.injEq]at hy
   subst hy
   simp only[updN,if_true]
   exact hrel hK
  ·simp only[setF,e,if_false]at hy
   have h1:=hM.rel r y hy
   simp only[updN,e,if_false]
   exact h1.keep hK (fun k hk=>hold k (hM.lt r y hy k hk))
 ·by_cases e:r=id
  ·subst e;simpa[updN]using hnd
  ·simp only[setF,e,if_false]at hy
   simpa[updN,e]using hM.nodup r y hy
 ·by_cases e:r=id<;>by_cases e':s=id
  ·rw[e,e']
  ·simp only[setF,e',if_false]at hz
   simp only[updN,e,e',if_true,if_false]at hk hk'
   exact absurd (hM.lt s z hz k hk') (by have:=(hbs k hk).1;omega)
  ·simp only[setF,e,if_false]at hy
   simp only[updN,e,e',if_true,if_false]at hk hk'
   exact absurd (hM.lt r y hy k hk) (by have:=(hbs k hk').1;omega)
  ·simp only[setF,e,e',if_false]at hy hz
   simp only[updN,e,e',if_false]at hk hk'
   exact hM.uniq r s y z k hy hz hk hk'
 ·by_cases e:r=id
  ·subst e
   simp only[updN,if_true]at hk
   exact(hbs k hk).2
  ·simp only[setF,e,if_false]at hy
   simp only[updN,e,if_false]at hk
   exact Nat.lt_of_lt_of_le (hM.lt r y hy k hk) hsz
 ·by_cases e:r=id
  ·subst e
   simp only[updN,if_true]at ha
   exact hg n k b o ha
  ·simp only[updN,e,if_false]at ha
   exact Nat.lt_of_lt_of_le (hM.glt r (by rw[←hdd r e];exact hr) n k b o ha) hsz
theorem setF_dom{lk:Look}{r:Nat}{x x':Root}(hx:lk r=some x)(s:Nat):Dom (setF lk r x') s≠0↔Dom lk s≠0:=by
 have h: ∀(lk:Look),Dom lk s≠0↔ ∃y,lk s=some y:=fun lk=>⟨dom_some,fun⟨y,hy⟩ e=>by rw[dom_none.1 e]at hy;simp at hy⟩
 rw[h,h]
 unfold setF
 by_cases e:s=r
 ·subst e;simp[hx]
 ·simp[e]
theorem setF_dom_ne{lk:Look}{r:Nat}{x':Root}{s:Nat}(h:s≠r):Dom (setF lk r x') s=Dom lk s:=by simp[Dom,setF,h]
theorem setF_owned{B:Nat→List Nat}{lk:Look}{r:Nat}{x x':Root}(hx:lk r=some x):Owned B (setF lk r x')=Owned B lk:=by
 funext s k
 apply propext
 unfold Owned setF
 constructor
 ·rintro⟨y,h1,h2⟩
  by_cases e:s=r
  ·subst e;exact⟨x,hx,h2⟩
  ·simp only[e,if_false]at h1;exact⟨y,h1,h2⟩
 ·rintro⟨y,h1,h2⟩
  by_cases e:s=r
  ·subst e;exact⟨x',by simp,h2⟩
  ·exact⟨y,by simp[e,h1],h2⟩
theorem Mem.put(hM:Mem γ B w lk){r:Nat}{x x':Root}(hx:lk r=some x){w':World}
  (hsz:w'.heap.size=w.heap.size) (hold: ∀k,k∉B r→w'.heap[k]?=w.heap[k]?) (hos:w'.os=w.os) (hou:w'.output=w.output) (hta:w'.tape=w.tape)
  (hrel:Kp γ (Dom lk) w (Owned B lk) γ (Dom (setF lk r x')) w' (Owned B (setF lk r x')) (fun s=>s=r)→
   RootRel γ (Dom (setF lk r x')) w' (Owned B (setF lk r x')) (γ r) x' (B r)):
  Mem γ B w' (setF lk r x')∧Kp γ (Dom lk) w (Owned B lk) γ (Dom (setF lk r x')) w' (Owned B (setF lk r x')) (fun s=>s=r):=by
 have hK:Kp γ (Dom lk) w (Owned B lk) γ (Dom (setF lk r x')) w' (Owned B (setF lk r x')) (fun s=>s=r):=
  ⟨⟨Nat.le_of_eq hsz.symm,fun k hk hno=>hold k fun h=>hno ⟨r,x,hx,h⟩,fun k hk hno h=>hno (by rwa [setF_owned hx]at h),hos,hou,hta⟩,fun _ _=>rfl,fun s hs=>(setF_dom hx s).2 hs,
   fun s hs hb=>⟨by rw[setF_dom_ne hb];exact hs,⟨Nat.le_of_eq hsz.symm,fun k hk hno=>hold k fun h=>hno ⟨r,fun e=>hb e.symm,x,hx,h⟩,fun k hk hno h=>hno (by rwa [setF_owned hx]at h),hos,hou,hta⟩,fun k h=>by rwa [setF_owned hx]⟩⟩
 refine⟨⟨fun s y hy=>?_,fun s y hy=>?_,fun s s' y z k hy hz hk hk'=>?_,fun s y hy k hk=>?_,fun s hs n k b o ha=>?_⟩,hK⟩
 ·by_cases e:s=r
  ·subst e
   simp only[setF,if_true,Option.some.injEq]at hy
   subst hy
   exact hrel hK
  ·simp only[setF,e,if_false]at hy
   exact(hM.rel s y hy).keep hK (fun k hk=>hold k fun h=>e (hM.uniq s r y x k hy hx hk h))
 ·by_cases e:s=r
  ·subst e;exact hM.nodup s x hx
  ·simp only[setF,e,if_false]at hy;exact hM.nodup s y hy
 ·have h1: ∃y',lk s=some y':=by
   by_cases e:s=r
   ·subst e;exact⟨x,hx⟩
   ·simp only[setF,e,if_false]at hy;exact⟨y,hy⟩
  have h2: ∃z',lk s'=some z':=by
   by_cases e:s'=r
   ·subst e;exact⟨x,hx⟩
   ·simp only[setF,e,if_false]at hz;exact⟨z,hz⟩
  obtain⟨y',h1⟩:=h1
  obtain⟨z',h2⟩:=h2
  exact hM.uniq s s' y' z' k h1 h2 hk hk'
 ·rw[hsz]
  by_cases e:s=r
  ·subst e;exact hM.lt s x hx k hk
  ·simp only[setF,e,if_false]at hy;exact hM.lt s y hy k hk
 ·rw[hsz];exact hM.glt s ((setF_dom hx s).1 hs) n k b o ha
theorem Mem.release(hM:Mem γ B w lk){r:Nat}{x x':Root}(hx:lk r=some x)
  (hrel:Kp γ (Dom lk) w (Owned B lk) γ (Dom (setF lk r x')) w (Owned (updN B r []) (setF lk r x')) (fun s=>s=r)→
   RootRel γ (Dom (setF lk r x')) w (Owned (updN B r []) (setF lk r x')) (γ r) x' []):
  Mem γ (updN B r []) w (setF lk r x')∧Kp γ (Dom lk) w (Owned B lk) γ (Dom (setF lk r x')) w (Owned (updN B r []) (setF lk r x')) (fun s=>s=r):=by
 have hsub: ∀s,updN B r [] s=[]∨(s≠r∧updN B r [] s=B s):=fun s=>by
  by_cases e:s=r
  ·left;simp[updN,e]
  ·right;simp[updN,e]
 have hK:Kp γ (Dom lk) w (Owned B lk) γ (Dom (setF lk r x')) w (Owned (updN B r []) (setF lk r x')) (fun s=>s=r):=by
  have hback: ∀s k,Owned (updN B r []) (setF lk r x') s k→Owned B lk s k:=by
   rintro s k ⟨y,h1,h2⟩
   rcases hsub s with e|⟨e,e'⟩
   ·rw[e]at h2;simp at h2
   ·simp only[setF,e,if_false]at h1
    rw[e']at h2
    exact⟨y,h1,h2⟩
  exact⟨⟨Nat.le_refl _,fun k hk hno=>rfl,fun k hk hno ⟨s,h⟩=>hno ⟨s,hback s k h⟩,rfl,rfl,rfl⟩,fun _ _=>rfl,fun s hs=>(setF_dom hx s).2 hs,
   fun s hs hb=>⟨by rw[setF_dom_ne hb];exact hs,⟨Nat.le_refl _,fun k hk hno=>rfl,fun k hk hno ⟨s',h,h'⟩=>hno ⟨s',h,hback s' k h'⟩,rfl,rfl,rfl⟩,fun k ⟨y,h1,h2⟩=>⟨y,by simp only[setF];rw[if_neg hb];exact h1,by simp only[updN];rw[if_neg hb];exact h2⟩⟩⟩
 refine⟨⟨fun s y hy=>?_,fun s y hy=>?_,fun s s' y z k hy hz hk hk'=>?_,fun s y hy k hk=>?_,fun s hs n k b o ha=>?_⟩,hK⟩
 ·by_cases e:s=r
  ·subst e
   simp only[setF,if_true,Option.some.injEq]at hy
   subst hy
   simp only[updN,if_true]
   exact hrel hK
  ·simp only[setF,e,if_false]at hy
   simp only[updN,e,if_false]
   exact(hM.rel s y hy).keep hK (fun k hk=>rfl)
 ·rcases hsub s with e|⟨e,e'⟩
  ·rw[e];exact List.nodup_nil
  ·simp only[setF,e,if_false]at hy
   rw[e'];exact hM.nodup s y hy
 ·rcases hsub s with e|⟨e,e'⟩
  ·rw[e]at hk;simp at hk
  ·rcases hsub s' with f|⟨f,f'⟩
   ·rw[f]at hk';simp at hk'
   ·simp only[setF,e,f,if_false]at hy hz
    rw[e']at hk;rw[f']at hk'
    exact hM.uniq s s' y z k hy hz hk hk'
 ·rcases hsub s with e|⟨e,e'⟩
  ·rw[e]at hk;simp at hk
  ·simp only[setF,e,if_false]at hy
   rw[e']at hk;exact hM.lt s y hy k hk
 ·exact hM.glt s ((setF_dom hx s).1 hs) n k b o ha
theorem Mem.kill(hM:Mem γ B w lk){r:Nat}{x:Root}(hx:lk r=some x):
  Mem γ (updN B r []) w (setF lk r .dead)∧Kp γ (Dom lk) w (Owned B lk) γ (Dom (setF lk r .dead)) w (Owned (updN B r []) (setF lk r .dead)) (fun s=>s=r):=
 hM.release hx fun _=>by unfold RootRel;split<;>first|trivial|simp_all
theorem OwnS.lend{α:Type}{w:World}{O:Nat→Prop}{R R':α→List Value→List Nat→Prop}{sz:Nat}{xs:List α}{v:Value}{bs:List Nat}
  (hk: ∀k∈bs,¬O k) (hr: ∀x c b,(∀k∈b,k∈bs)→R x c b→R' x c []) (h:OwnS w R sz xs v bs):BorS w O R' xs v:=by
 rcases h with⟨A,rfl,rfl,rfl⟩|⟨g,cap,cells,rest,e,h1,hm,h3,h4,_,h6,h7⟩
 ·exact⟨A,0,rfl,⟨Nat.le_refl _,Nat.zero_le _⟩,fun h=>absurd h (by simp)⟩
 ·refine⟨some ⟨g,0,none⟩,cap,e,⟨h1,hm⟩,fun _=>⟨⟨g,0,none⟩,cells,rfl,h3,hk g (by rw[h7];simp),fun j u hj=>?_,EL.lend (fun x c b hb h=>hr x c b (fun k hk'=>by rw[h7];exact List.mem_cons_of_mem _ (hb k hk')) h) h6⟩⟩
  rw[Addr.add_mid];exact h4 j u hj
theorem OwnS.head{α:Type}{w:World}{R:α→List Value→List Nat→Prop}{sz:Nat}{xs:List α}{v:Value}{bs:List Nat}(h:OwnS w R sz xs v bs)(hp:0<xs.length):(rowAt v).isSome=true:=by
 rcases h with⟨_,_,rfl,_⟩|⟨g,cap,cells,rest,rfl,h,_⟩
 ·simp at hp
 ·obtain⟨c,rfl⟩: ∃c,cap=c+1:=⟨cap-1,by omega⟩
  rfl
theorem Mem.froze(hM:Mem γ B w lk){r:Nat}{t:Ty}{xs:List t.den}{m:Own}(hx:lk r=some (.row t xs m)):
  Mem γ (updN B r []) w (setF lk r (.row t xs .froz))∧Kp γ (Dom lk) w (Owned B lk) γ (Dom (setF lk r (.row t xs .froz))) w (Owned (updN B r []) (setF lk r (.row t xs .froz))) (fun s=>s=r):=by
 refine hM.release hx fun hK=>?_
 have h:=hM.rel r _ hx
 have hno: ∀k∈B r,¬AllW (Owned (updN B r []) (setF lk r (.row t xs .froz))) k:=by
  rintro k hk ⟨s,y,h1,h2⟩
  by_cases e:s=r
  ·subst e;simp[updN]at h2
  ·simp only[setF,e,if_false]at h1
   simp only[updN,e,if_false]at h2
   exact e (hM.uniq s r y _ k h1 hx h2 hk)
 unfold RootRel at*
 split at h
 ·rename_i heq;cases heq
 ·rename_i v t' u ys m' hg heq
  simp only[Root.row.injEq]at heq
  obtain⟨rfl,heq,rfl⟩:=heq
  obtain rfl:=eq_of_heq heq
  obtain⟨rfl,h⟩:=h
  rw[hg]
  refine⟨rfl,rfl,?_⟩
  split at h
  ·exact⟨h.lend hno (fun x c b hb hr=>DRel.lend _ x c b (fun k hk=>hno k (hb k hk)) hr),h.head⟩
  ·exact⟨h.lend hno (fun x c b hb hr=>DRel.lend _ x c b (fun k hk=>hno k (hb k hk)) hr),h.head⟩
  ·exact⟨h.lend hno (fun x c b hb hr=>DRel.bor hK.stp _ x c _ hr.2),h.head⟩
  ·exact⟨h.1.lend hno (fun x c b hb hr=>DRel.lend _ x c b (fun k hk=>hno k (hb k hk)) hr),h.1.head⟩
  ·exact⟨h.2.1.step hK.stp (fun x c b _ hr=>DRel.bor hK.stp _ x c b hr),h.2.2⟩
 ·rename_i heq;cases heq
 ·rename_i heq;cases heq
 ·rename_i heq;cases heq
 ·exact h.elim
end
end Go.Vm
namespace Go.Vm
def ZC:Ty→List Value→Prop
 | .int k,cs=>cs=[.int k 0]
 | .bool,cs=>cs=[.bool false]
 | .str,cs=> ∃s:ByteArray,s.data.toList=[]∧cs=[.string s]
 | .err,cs=>cs=[.nilIface]
 | .ref,cs=>cs=[.pointer none]∨cs=[.nilFunc]
 | .sl _,cs=>cs=[.slice none 0 0]
 | .arr n t,cs=> ∃z,ZC t z∧cs=(List.replicate n z).flatten
 | .pair a b,cs=> ∃c d,cs=c++d∧ZC a c∧ZC b d
 | .st t,cs=>ZC t cs
 | .unit,cs=>cs=[]
theorem toI_zero(k:IntKind):toI k (zeroD (.int k))=0:=by cases k<;>rfl
theorem EL.replicate{α:Type}{R:α→List Value→List Nat→Prop}{x:α}{z:List Value}(h:R x z []): ∀n,EL R (List.replicate n x) (List.replicate n z).flatten []
 |0=>⟨rfl,rfl⟩
 |n+1=>⟨z,_,[],[],by simp[List.replicate_succ],rfl,h,EL.replicate h n⟩
theorem ZC.data{w:World}{O:Nat→Prop}{m:Bool}: ∀(t:Ty) (cs:List Value),ZC t cs→DRel w O m t (zeroD t) cs []
 | .int k,cs,h=>⟨by rw[toI_zero];exact h,rfl⟩
 | .bool,cs,h=>⟨h,rfl⟩
 | .str,cs,⟨s,h1,h2⟩=>⟨⟨s,h1,Nat.zero_le _,h2⟩,rfl⟩
 | .err,cs,h=>⟨⟨_,h,.inl ⟨rfl,rfl⟩⟩,rfl⟩
 | .ref,cs,h=>⟨by rcases h with h|h<;>exact⟨_,h,rfl⟩,rfl⟩
 | .sl t,cs,h=>by
  refine⟨_,h,?_⟩
  cases m
  ·exact⟨⟨none,0,rfl,⟨Nat.le_refl _,Nat.zero_le _⟩,fun h=>absurd h (by simp[zeroD])⟩,rfl⟩
  ·exact .inl ⟨none,rfl,rfl,rfl⟩
 | .arr n t,cs,⟨z,h,e⟩=>⟨by simp[zeroD],by rw[e];exact EL.replicate (ZC.data t z h) n⟩
 | .pair a b,cs,⟨c,d,e,h1,h2⟩=>⟨c,d,[],[],e,rfl,ZC.data a c h1,ZC.data b d h2⟩
 | .st t,cs,h=>ZC.data t cs h
 | .unit,cs,h=>⟨h,rfl⟩
theorem LL.append{γ:Nat→G}{D:Nat→Nat}{w:World}{W:Nat→Nat→Prop}: ∀{ps qs:List PV} {cs ds:List Value},LL γ D w W ps cs→LL γ D w W qs ds→LL γ D w W (ps++qs) (cs++ds)
 |[],_,_,_,h,k=>by rw[show _=[]from h];exact k
 |p::ps,_,_,_,⟨c,c',e,h1,h2,h3⟩,k=>⟨c,c'++_,by rw[e,List.append_assoc],h1,h2,LL.append h3 k⟩
theorem LL.one{γ:Nat→G}{D:Nat→Nat}{w:World}{W:Nat→Nat→Prop}{p:PV}{cs:List Value}(hl:cs.length=szV p)(h:LRel γ D w W p cs):LL γ D w W [p] cs:=⟨cs,[],by simp,hl,h,rfl⟩
theorem ZC.leaves{γ:Nat→G}{D:Nat→Nat}{w:World}{W:Nat→Nat→Prop}: ∀(t:Ty) (cs:List Value),ZC t cs→LL γ D w W (zeroL t) cs
 | .int k,cs,h=> .one (by rw[show cs=_ from h];rfl) (by simp only[LRel];exact⟨rfl,ZC.data (.int k) cs h⟩)
 | .bool,cs,h=> .one (by rw[show cs=_ from h];rfl) (by simp only[LRel];exact⟨rfl,ZC.data .bool cs h⟩)
 | .str,cs,h=> .one (by obtain⟨_,_,h⟩:=h;rw[h];rfl) (by simp only[LRel];exact⟨rfl,ZC.data .str cs h⟩)
 | .err,cs,h=> .one (by rw[show cs=_ from h];rfl) (by simp only[LRel];exact⟨rfl,ZC.data .err cs h⟩)
 | .ref,cs,h=> .one (by rcases h with h|h<;>rw[h]<;>rfl) (by simp only[LRel];exact h)
 | .sl t,cs,h=> .one (by rw[show cs=_ from h];rfl) (by simp only[LRel];exact h)
 | .arr n t,cs,h=> .one (by rw[(DRel.length (w:=w) (O:=AllW W) (m:=false) _ _ _ _ (ZC.data (.arr n t) cs h))];rfl) (by simp only[LRel];exact⟨rfl,ZC.data (.arr n t) cs h⟩)
 | .pair a b,cs,⟨c,d,e,h1,h2⟩=>by rw[e];exact(ZC.leaves a c h1).append (ZC.leaves b d h2)
 | .st t,cs,h=>ZC.leaves t cs h
 | .unit,cs,h=>h
structure Inf(P:Program)(t:Ty)(n:Nat)(d:TypeDesc):Prop where
 und:P.underlying n=some d
 ex: ∃i z,P.info? n=some i∧i.size=t.sz∧i.bytes≤t.by∧i.zero=some z∧ZC t z.cells.toList∧(d.isRow=true→z= .agg z.cells)
def one(R:Nat→Prop)(fs:List Field)(off:Nat):Prop:= ∃f,fs=[f]∧f.offset=off∧R f.type
def TyR(P:Program):Ty→(Nat→Prop)×(List Field→Nat→Prop)
 | .int k=>(fun n=>Inf P (.int k) n (.int k),one fun n=>Inf P (.int k) n (.int k))
 | .bool=>(fun n=>Inf P .bool n .bool,one fun n=>Inf P .bool n .bool)
 | .str=>(fun n=>Inf P .str n .string,one fun n=>Inf P .str n .string)
 | .err=>(fun n=> ∃ms,Inf P .err n (.interface ms),one fun n=> ∃ms,Inf P .err n (.interface ms))
 | .ref=>(fun n=> ∃d,Inf P .ref n d∧d.isRow=false,one fun n=> ∃d,Inf P .ref n d∧d.isRow=false)
 | .sl t=>(fun n=> ∃e,Inf P (.sl t) n (.slice e)∧(TyR P t).1 e,one fun n=> ∃e,Inf P (.sl t) n (.slice e)∧(TyR P t).1 e)
 | .arr m t=>(fun n=> ∃e,Inf P (.arr m t) n (.array m e)∧(TyR P t).1 e,one fun n=> ∃e,Inf P (.arr m t) n (.array m e)∧(TyR P t).1 e)
 | .st t=>(fun n=> ∃fs,Inf P (.st t) n (.struct fs)∧(TyR P t).2 fs.toList 0,one fun n=> ∃fs,Inf P (.st t) n (.struct fs)∧(TyR P t).2 fs.toList 0)
 | .pair a b=>(fun _=>False,fun fs off=> ∃f r,fs=f::r∧f.offset=off∧(TyR P a).1 f.type∧(TyR P b).2 r (off+a.sz))
 | .unit=>(fun _=>False,fun fs _=>fs=[])
abbrev TyOK(P:Program)(t:Ty)(n:Nat):Prop:=(TyR P t).1 n
def isRowT:Ty→Bool| .arr _ _| .st _=>true|_=>false
theorem TyOK.inf{P:Program}{t:Ty}{n:Nat}(h:TyOK P t n): ∃d,Inf P t n d∧d.isRow=isRowT t:=by
 cases t<;>simp only[TyOK,TyR]at h
 ·exact⟨_,h,rfl⟩
 ·exact⟨_,h,rfl⟩
 ·exact⟨_,h,rfl⟩
 ·obtain⟨ms,h⟩:=h;exact⟨_,h,rfl⟩
 ·obtain⟨d,h,hd⟩:=h;exact⟨_,h,hd⟩
 ·obtain⟨d,h,hd⟩:=h;exact⟨_,h,rfl⟩
 ·obtain⟨d,h,hd⟩:=h;exact⟨_,h,rfl⟩
 ·obtain⟨d,h,hd⟩:=h;exact⟨_,h,rfl⟩
theorem TyOK.size{P:Program}{t:Ty}{n:Nat}(h:TyOK P t n):(P.info? n).map (·.size)=some t.sz:=by
 obtain⟨d,⟨_,i,z,h1,h2,_⟩,_⟩:=h.inf
 rw[h1];simp[h2]
theorem szT_length: ∀t:Ty,(szT t).length=t.nl
 | .pair a b=>by simp[szT,Ty.nl,szT_length a,szT_length b]
 | .st t=>szT_length t
 | .unit| .int _| .bool| .str| .err| .ref| .sl _| .arr _ _=>rfl
theorem szT_sum: ∀t:Ty,(szT t).sum=t.sz
 | .pair a b=>by simp[szT,Ty.sz,szT_sum a,szT_sum b]
 | .st t=>szT_sum t
 | .arr n t=>by simp[szT,Ty.sz]
 | .unit| .int _| .bool| .str| .err| .ref| .sl _=>rfl
theorem offL_zero(t:Ty):offL t 0=0:=rfl
theorem offL_left(a b:Ty){k:Nat}(h:k≤a.nl):offL (.pair a b) k=offL a k:=by
 unfold offL;rw[show szT (.pair a b)=szT a++szT b from rfl,List.take_append_of_le_length (by rw[szT_length];exact h)]
theorem offL_right(a b:Ty)(k:Nat):offL (.pair a b) (a.nl+k)=a.sz+offL b k:=by
 unfold offL;rw[show szT (.pair a b)=szT a++szT b from rfl,←szT_length,List.take_length_add_append];simp[szT_sum]
theorem offL_add(t:Ty)(k i:Nat)(u:Ty)(h:((szT t).drop k).take u.nl=szT u)(hi:i≤u.nl):offL t (k+i)=offL t k+offL u i:=by
 unfold offL
 rw[List.take_add,List.sum_append,←h,List.take_take,Nat.min_eq_left hi]
theorem TyR.field{P:Program}: ∀{t:Ty} {fs:List Field} {off:Nat},(TyR P t).2 fs off→ ∀{f k:Nat} {u:Ty},fieldOf t f=some (k,u)→ ∃fd,fs[f]?=some fd∧fd.offset=off+offL t k∧TyOK P u fd.type∧k+u.nl≤t.nl
 | .pair a b,fs,off,h,f,k,u,hf=>by
  obtain⟨fd,r,rfl,h1,h2,h3⟩:=h
  cases f with
  |zero=>
   simp only[fieldOf,Option.some.injEq,Prod.mk.injEq]at hf
   obtain⟨rfl,rfl⟩:=hf
   exact⟨fd,rfl,by rw[h1];rfl,h2,by simp[Ty.nl]⟩
  |succ f=>
   simp only[fieldOf]at hf
   split at hf
   ·rename_i k' u' hk
    simp only[Option.some.injEq,Prod.mk.injEq]at hf
    obtain⟨rfl,rfl⟩:=hf
    obtain⟨fd',h4,h5,h6,h7⟩:=TyR.field h3 hk
    refine⟨fd',by simpa using h4,?_,h6,by simp[Ty.nl];omega⟩
    rw[h5,offL_right]
    omega
   ·cases hf
 | .unit,_,_,_,_,_,_,hf=>by simp[fieldOf]at hf
 | .int j,fs,off,h,f,k,u,hf=>by
  obtain⟨fd,rfl,h1,h2⟩:=h
  cases f<;>simp[fieldOf]at hf
  obtain⟨rfl,rfl⟩:=hf
  exact⟨fd,rfl,h1,h2,by simp⟩
 | .bool,fs,off,h,f,k,u,hf=>by
  obtain⟨fd,rfl,h1,h2⟩:=h
  cases f<;>simp[fieldOf]at hf
  obtain⟨rfl,rfl⟩:=hf
  exact⟨fd,rfl,h1,h2,by simp⟩
 | .str,fs,off,h,f,k,u,hf=>by
  obtain⟨fd,rfl,h1,h2⟩:=h
  cases f<;>simp[fieldOf]at hf
  obtain⟨rfl,rfl⟩:=hf
  exact⟨fd,rfl,h1,h2,by simp⟩
 | .err,fs,off,h,f,k,u,hf=>by
  obtain⟨fd,rfl,h1,h2⟩:=h
  cases f<;>simp[fieldOf]at hf
  obtain⟨rfl,rfl⟩:=hf
  exact⟨fd,rfl,h1,h2,by simp⟩
 | .ref,fs,off,h,f,k,u,hf=>by
  obtain⟨fd,rfl,h1,h2⟩:=h
  cases f<;>simp[fieldOf]at hf
  obtain⟨rfl,rfl⟩:=hf
  exact⟨fd,rfl,h1,h2,by simp⟩
 | .sl t,fs,off,h,f,k,u,hf=>by
  obtain⟨fd,rfl,h1,h2⟩:=h
  cases f<;>simp[fieldOf]at hf
  obtain⟨rfl,rfl⟩:=hf
  exact⟨fd,rfl,h1,h2,by simp⟩
 | .arr m t,fs,off,h,f,k,u,hf=>by
  obtain⟨fd,rfl,h1,h2⟩:=h
  cases f<;>simp[fieldOf]at hf
  obtain⟨rfl,rfl⟩:=hf
  exact⟨fd,rfl,h1,h2,by simp⟩
 | .st t,fs,off,h,f,k,u,hf=>by
  obtain⟨fd,rfl,h1,h2⟩:=h
  cases f<;>simp[fieldOf]at hf
  obtain⟨rfl,rfl⟩:=hf
  refine⟨fd,rfl,?_,h2,by simp⟩
  rw[h1]
  rfl
def eqB(P:Program):Ty→(Nat→Bool)×(List Field→Bool)
 | .st t=>let f:=fun n=>!P.stoodInHeld n&&(match P.underlying n with|some (.struct fs)=>(eqB P t).2 fs.toList|_=>false)
  (f,fun fs=>match fs with|[x]=>x.name != "_" &&f x.type|_=>false)
 | .pair a b=>(fun _=>false,fun fs=>match fs with|f::r=>f.name != "_" &&(eqB P a).1 f.type&&(eqB P b).2 r|_=>false)
 |_=>(fun _=>true,fun fs=>match fs with|[x]=>x.name != "_" |_=>false)
def depE:Ty→Nat
 | .st t=>depE t+1| .pair a b=>max (depE a) (depE b)|_=>1
def MapTy(P:Program)(n:Nat):Prop:= ∃k v i,P.underlying n=some (.map k v)∧P.underlying k=some (.int .i64)∧P.info? v=some i∧i.zero=some (.bool false)
def mapTyB(P:Program)(n:Nat):Bool:=match P.underlying n with
 |some (.map k v)=>(match P.underlying k,P.info? v with
  |some (.int .i64),some i=>(match i.zero with|some (.bool false)=>true|_=>false)
  |_,_=>false)
 |_=>false
theorem mapTyB_ok{P:Program}{n:Nat}(h:mapTyB P n=true):MapTy P n:=by
 unfold mapTyB at h
 split at h
 ·rename_i k v h1
  split at h
  ·rename_i i h2 h3
   split at h
   ·rename_i h4;exact⟨k,v,i,h1,h2,h3,h4⟩
   ·cases h
  ·cases h
 ·cases h
structure EnvOK(P:Program)(e:Env):Prop where
 ty: ∀n t,tyOf e n=some t→TyOK P t n
 eq: ∀n t,e.eqs.contains n=true→tyOf e n=some t→P.eqGuardType P.depth n=false∧(eqB P t).1 n=true∧depE t≤10000
 mp: ∀n,e.mps.contains n=true→MapTy P n
end Go.Vm
namespace Go.Vm
section
variable {α β:Type}
theorem Out.run_bind: ∀(x:Out α) (f:α→Out β),(x.bind f).run=x.run.bind fun a=>(f a).run
 | .ret a,f=>rfl
 | .fail,f=>rfl
 | .br b x y,f=>by cases b<;>simp[Out.bind,Out.run,Out.run_bind x f,Out.run_bind y f]
 | .opt o k,f=>by cases o<;>simp[Out.bind,Out.run,fun a=>Out.run_bind (k a) f]
 | .alt s k l,f=>by cases s<;>simp[Out.bind,Out.run,fun a=>Out.run_bind (k a) f,fun a=>Out.run_bind (l a) f]
theorem Out.bind_some{x:Out α}{f:α→Out β}{r:β}:(x.bind f).run=some r↔ ∃a,x.run=some a∧(f a).run=some r:=by
 rw[Out.run_bind,Option.bind_eq_some_iff]
theorem Out.ret_some{a b:α}:(Out.ret a).run=some b↔a=b:=by simp[Out.run]
theorem Out.fail_some{b:α}:(Out.fail:Out α).run=some b↔False:=by simp[Out.run]
theorem Out.br_some{b:Bool}{x y:Out α}{r:α}:(Out.br b x y).run=some r↔(b=true∧x.run=some r)∨(b=false∧y.run=some r):=by
 cases b<;>simp[Out.run]
theorem Out.need_some{b:Bool}{x:Out α}{r:α}:(needO b x).run=some r↔b=true∧x.run=some r:=by
 cases b<;>simp[needO,Out.run]
theorem Out.guard_some{b:Bool}{x:Out α}{r:α}:(guardO b x).run=some r↔b=true∧x.run=some r:=by
 cases b<;>simp[guardO,Out.run]
theorem Out.nth_some{xs:List α}{n:Nat}{x:α}:(nthO xs n).run=some x↔xs[n]?=some x:=by
 cases h:xs[n]?<;>simp[nthO,Out.run,h]
theorem Out.opt_some{γ:Type}{o:Option γ}{k:γ→Out β}{r:β}:(Out.opt o k).run=some r↔ ∃a,o=some a∧(k a).run=some r:=by
 simp[Out.run,Option.bind_eq_some_iff]
theorem Out.cond_some{b:Bool}{x y:Out α}{r:α}:(bif b then x else y).run=some r↔(b=true∧x.run=some r)∨(b=false∧y.run=some r):=by
 cases b<;>simp
end
theorem castD_some{t u:Ty}{x:u.den}{y:t.den}:(castD t u x).run=some y↔ ∃h:u=t,h▸x=y:=by
 unfold castD
 split
 ·rename_i h;subst h;simp[Out.run]
 ·rename_i h;simp[Out.run,h]
theorem castL_some{t u:Ty}{x:List u.den}{y:List t.den}:(castL t u x).run=some y↔ ∃h:u=t,h▸x=y:=by
 unfold castL
 split
 ·rename_i h;subst h;simp[Out.run]
 ·rename_i h;simp[Out.run,h]
section
variable {γ:Nat→G} {D:Nat→Nat} {w:World} {W:Nat→Nat→Prop}
theorem LL.length: ∀{ps:List PV} {cs:List Value},LL γ D w W ps cs→cs.length=(ps.map szV).sum
 |[],_,h=>by rw[show _=[]from h];rfl
 |p::ps,_,⟨c,c',e,h1,h2,h3⟩=>by rw[e,List.length_append,h1,LL.length h3];simp
theorem LL.append_inv: ∀{ps qs:List PV} {cs:List Value},LL γ D w W (ps++qs) cs→ ∃c d,cs=c++d∧LL γ D w W ps c∧LL γ D w W qs d
 |[],qs,cs,h=>⟨[],cs,rfl,rfl,h⟩
 |p::ps,qs,_,⟨c,c',e,h1,h2,h3⟩=>by
  obtain⟨d,d',e',h4,h5⟩:=LL.append_inv h3
  exact⟨c++d,d',by rw[e,e',List.append_assoc],⟨c,d,rfl,h1,h2,h4⟩,h5⟩
theorem LL.split{ps:List PV}{cs:List Value}(h:LL γ D w W ps cs)(k n:Nat):
  ∃c1 c2 c3,cs=c1++c2++c3∧LL γ D w W (ps.take k) c1∧c1.length=((ps.map szV).take k).sum∧LL γ D w W ((ps.drop k).take n) c2∧LL γ D w W (ps.drop (k+n)) c3:=by
 have e:ps=ps.take k++((ps.drop k).take n++ps.drop (k+n)):=by
  rw[←List.drop_drop,List.take_append_drop,List.take_append_drop]
 rw[e]at h
 obtain⟨c1,d,e1,h1,h2⟩:=h.append_inv
 obtain⟨c2,c3,e2,h3,h4⟩:=h2.append_inv
 exact⟨c1,c2,c3,by rw[e1,e2,List.append_assoc],h1,by rw[h1.length,List.map_take],h3,h4⟩
theorem LL.one_inv{p:PV}{cs:List Value}(h:LL γ D w W [p] cs):LRel γ D w W p cs∧cs.length=szV p:=by
 obtain⟨c,c',e,h1,h2,h3⟩:=h
 rw[show c'=[]from h3,List.append_nil]at e
 subst e
 exact⟨h2,h1⟩
theorem LRel.length{p:PV}{cs:List Value}(h:LRel γ D w W p cs):cs.length=szV p:=by
 cases p<;>simp only[LRel]at h
 ·exact DRel.length _ _ _ _ h.2
 ·rw[h];rfl
 ·obtain⟨_,v,t,_,h,_⟩:=h;rw[h];rfl
 ·obtain⟨_,v,t,A,n,cap,A',c',_,_,h,_⟩:=h;rw[h];rfl
 ·obtain⟨_,v,b,o,_,_,_,_,h,_⟩:=h;rw[h];rfl
 ·obtain⟨_,b,o,A,c',_,h,_⟩:=h;rw[h];rfl
 ·obtain⟨_,b,o,_,h⟩:=h;rw[h];rfl
 ·obtain⟨a,cells,h,_⟩:=h;rw[h];rfl
 ·exact(DRel.length _ _ _ _ h.2.2.2).trans h.2.2.1
 ·obtain⟨_,a,cells,h,_⟩:=h;rw[h];rfl
 ·obtain⟨a,u,h,_⟩:=h;rw[h];rfl
 ·rcases h with h|h<;>rw[h]<;>rfl
 ·obtain⟨vs,h,_⟩:=h;rw[h];rfl
 ·obtain⟨v,h,_⟩:=h;rw[h];rfl
theorem LL.single{p:PV}{cs:List Value}:LL γ D w W [p] cs↔LRel γ D w W p cs:=
 ⟨fun h=>h.one_inv.1,fun h=> .one h.length h⟩
theorem LRel.oneCell{p:PV}{cs:List Value}(h:LRel γ D w W p cs): ∀v∈cs,v.oneCell'=true:=by
 cases p<;>simp only[LRel]at h
 ·exact DRel.one _ _ _ _ h.2
 ·rw[h];simp[Value.oneCell']
 ·obtain⟨_,v,t,_,h,h'⟩:=h;rw[h];simpa using h'
 ·obtain⟨_,v,t,A,n,cap,A',c',_,_,h,_⟩:=h;rw[h];simp[Value.oneCell']
 ·obtain⟨_,v,b,o,_,_,_,_,h,h'⟩:=h;rw[h];simpa using h'
 ·obtain⟨_,b,o,A,c',_,h,_⟩:=h;rw[h];simp[Value.oneCell']
 ·obtain⟨_,b,o,_,h⟩:=h;rw[h];simp[Value.oneCell']
 ·obtain⟨a,cells,h,_⟩:=h;rw[h];simp[Value.oneCell']
 ·exact DRel.one _ _ _ _ h.2.2.2
 ·obtain⟨_,a,cells,h,_⟩:=h;rw[h];simp[Value.oneCell']
 ·obtain⟨a,u,h,_⟩:=h;rw[h];simp[Value.oneCell']
 ·rcases h with h|h<;>rw[h]<;>simp[Value.oneCell']
 ·obtain⟨vs,h,_⟩:=h;rw[h];simp[Value.oneCell']
 ·obtain⟨v,h,h'⟩:=h;rw[h];simpa using h'
theorem LL.oneCell: ∀{ps:List PV} {cs:List Value},LL γ D w W ps cs→ ∀v∈cs,v.oneCell'=true
 |[],_,h=>by rw[show _=[]from h];simp
 |p::ps,_,⟨c,c',e,h1,h2,h3⟩=>by
  intro v hv
  rw[e,List.mem_append]at hv
  rcases hv with hv|hv
  ·exact h2.oneCell v hv
  ·exact h3.oneCell v hv
theorem VRel.unpack{p:PV}{v:Value}(hp:isTop p=true)(h:VRel γ D w W p v):LL γ D w W (unpack p) v.cells.toList∧(∀ps,p= .ag ps→v= .agg v.cells)∧(∀n t x,p= .sc (.arr n t) x→v= .agg v.cells):=by
 cases p<;>simp only[isTop,Bool.false_eq_true]at hp<;>simp only[VRel,VRel0,Vm.unpack]at*
 all_goals try (
  have h1:=LRel.oneCell h v (by simp)
  have:v.cells.toList=[v]:=by cases v<;>simp[Value.oneCell']at h1<;>rfl
  rw[this];exact⟨LL.single.2 h,by simp,by simp⟩)
 ·rename_i t x
  cases t
  case arr n t=>
   obtain⟨cs,rfl,h⟩:=h
   exact⟨by rw[LL.single];simpa[Value.cells]using h,by simp,fun _ _ _ _=>rfl⟩
  all_goals (
   have h1:=LRel.oneCell h v (by simp)
   have:v.cells.toList=[v]:=by cases v<;>simp[Value.oneCell']at h1<;>rfl
   rw[this];exact⟨LL.single.2 h,by simp,by simp⟩)
 ·obtain⟨cs,rfl,h⟩:=h
  exact⟨by simpa[Value.cells]using h,fun _ _=>rfl,by simp⟩
theorem alike_sz{p q:PV}(h:alike p q=true):szV p=szV q:=by
 unfold alike at h
 split at h
 ·simp only[Bool.and_eq_true,beq_iff_eq]at h
  obtain⟨rfl,rfl⟩:=h;rfl
 ·simp at h
 ·simp at h
 ·simp only[Bool.and_eq_true,beq_iff_eq]at h
  omega
theorem alikeL_sz: ∀{ps qs:List PV},alikeL ps qs=true→ps.map szV=qs.map szV
 |[],[],_=>rfl
 |p::ps,q::qs,h=>by
  simp only[alikeL,Bool.and_eq_true]at h
  simp[alike_sz h.1,alikeL_sz h.2]
 |[],_::_,h|_::_,[],h=>by simp[alikeL]at h
theorem zeroL_sz: ∀t:Ty,(zeroL t).map szV=szT t
 | .pair a b=>by simp[zeroL,szT,zeroL_sz a,zeroL_sz b]
 | .st t=>zeroL_sz t
 | .unit| .int _| .bool| .str| .err| .ref| .sl _=>rfl
 | .arr n t=>rfl
theorem VRel.pack{u:Ty}{ps:List PV}{cs:List Value}(ha:alikeL (zeroL u) ps=true)(hu:u.leaf=true∨u.isSt=true)(h:LL γ D w W ps cs):
  ∃v,VRel γ D w W (pack u ps) v∧v.cells.toList=cs∧(isRowT u=true→v= .agg cs.toArray)∧(isRowT u=false→cs=[v]):=by
 cases u
 case st t=>exact⟨.agg cs.toArray,by simp only[Vm.pack,Ty.isSt,cond_true,VRel,VRel0];exact⟨cs,rfl,h⟩,by simp[Value.cells],fun _=>rfl,by simp[isRowT]⟩
 case pair=>simp[Ty.leaf,Ty.isSt]at hu
 case unit=>simp[Ty.leaf,Ty.isSt]at hu
 case arr n t=>
  match ps,ha with
  |[p],ha=>
   simp only[zeroL,alikeL,Bool.and_true]at ha
   cases p<;>try (simp[alike]at ha;done)
   rename_i t' x'
   cases t'<;>try (simp[alike]at ha;done)
   simp only[alike,Bool.and_eq_true,beq_iff_eq]at ha
   refine⟨.agg cs.toArray,?_,by simp[Value.cells],fun _=>rfl,by simp[isRowT]⟩
   simp only[Vm.pack,Ty.isSt,cond_false,VRel,VRel0]
   exact⟨cs,rfl,LL.single.1 h⟩
  |[],ha=>simp[zeroL,alikeL]at ha
  |_::_::_,ha=>simp[zeroL,alikeL]at ha
 all_goals
  match ps,ha with
  |[p],ha=>?_
  |[],ha=>simp[zeroL,alikeL]at ha
  |_::_::_,ha=>simp[zeroL,alikeL]at ha
 all_goals
  simp only[zeroL,alikeL,Bool.and_true]at ha
  have hl:=LL.length h
  have hs:=alike_sz ha
  have h1:=LL.single.1 h
  simp only[List.map_cons,List.map_nil,List.sum_cons,List.sum_nil,Nat.add_zero,←hs]at hl
  have hl:cs.length=1:=by simpa[szV,Ty.sz]using hl
  obtain⟨v,rfl⟩:=List.length_eq_one_iff.1 hl
  refine⟨v,?_,?_,by simp[isRowT],fun _=>rfl⟩
  ·simp only[Vm.pack,Ty.isSt,cond_false]
   cases p<;>simp only[VRel,VRel0]<;>try exact h1
   ·rename_i t' x'
    cases t'<;>try exact h1
    simp[alike]at ha
   ·simp only[LRel]at h1
   ·simp only[LRel]at h1
  ·have:=h1.oneCell v (by simp)
   cases v<;>simp[Value.oneCell']at this<;>rfl
end
end Go.Vm
namespace Go.Vm
theorem EL.get{α:Type}{R:α→List Value→List Nat→Prop}{sz:Nat}(hl: ∀x c b,R x c b→c.length=sz): ∀{xs:List α} {cs:List Value} {bs:List Nat} {n:Nat} {x:α},
  EL R xs cs bs→xs[n]?=some x→ ∃c1 c c3 b1 b b3,cs=c1++c++c3∧c1.length=n*sz∧bs=b1++b++b3∧R x c b∧ ∀x' c' b',R x' c' b'→EL R (xs.set n x') (c1++c'++c3) (b1++b'++b3)
 |[],_,_,n,x,_,h=>by simp at h
 |y::ys,cs,bs,0,x,⟨c,c',b,b',e1,e2,h1,h2⟩,h=>by
  simp only[List.getElem?_cons_zero,Option.some.injEq]at h
  subst h
  exact⟨[],c,c',[],b,b',by simpa using e1,by simp,by simpa using e2,h1,fun x' c'' b'' h=>⟨c'',c',b'',b',by simp,by simp,h,h2⟩⟩
 |y::ys,cs,bs,n+1,x,⟨c,c',b,b',e1,e2,h1,h2⟩,h=>by
  obtain⟨c1,d,c3,b1,f,b3,e3,e4,e5,h3,h4⟩:=EL.get hl h2 (by simpa using h)
  refine⟨c++c1,d,c3,b++b1,f,b3,by rw[e1,e3];simp,by rw[List.length_append,hl _ _ _ h1,e4,Nat.succ_mul];omega,by rw[e2,e5];simp,h3,fun x' c'' b'' h=>?_⟩
  exact⟨c,c1++c''++c3,b,b1++b''++b3,by simp,by simp,h1,h4 _ _ _ h⟩
theorem EL.append{α:Type}{R:α→List Value→List Nat→Prop}: ∀{xs ys:List α} {cs ds:List Value} {bs es:List Nat},EL R xs cs bs→EL R ys ds es→EL R (xs++ys) (cs++ds) (bs++es)
 |[],_,_,_,_,_,⟨h1,h2⟩,h=>by rw[h1,h2];exact h
 |x::xs,ys,_,ds,_,es,⟨c,c',b,b',e1,e2,h1,h2⟩,h=>⟨c,c'++ds,b,b'++es,by rw[e1,List.append_assoc],by rw[e2,List.append_assoc],h1,EL.append h2 h⟩
theorem EL.take_drop{α:Type}{R:α→List Value→List Nat→Prop}{sz:Nat}(hl: ∀x c b,R x c b→c.length=sz): ∀{xs:List α} {cs:List Value} {bs:List Nat} (n:Nat),
  EL R xs cs bs→ ∃b1 b2,bs=b1++b2∧EL R (xs.take n) (cs.take (n*sz)) b1∧EL R (xs.drop n) (cs.drop (n*sz)) b2
 |xs,cs,bs,0,h=>⟨[],bs,rfl,by simp[EL],by simpa using h⟩
 |[],cs,bs,n+1,⟨h1,h2⟩=>⟨[],[],by simp[h2],by simp[h1,EL],by simp[h1,EL]⟩
 |x::xs,cs,bs,n+1,⟨c,c',b,b',e1,e2,h1,h2⟩=>by
  obtain⟨b1,b2,e,h3,h4⟩:=EL.take_drop hl n h2
  have e3:(n+1)*sz=c.length+n*sz:=by rw[hl _ _ _ h1,Nat.succ_mul];omega
  refine⟨b++b1,b2,by rw[e2,e];simp,⟨c,c'.take (n*sz),b,b1,?_,rfl,h1,h3⟩,?_⟩
  ·rw[e1,e3,List.take_length_add_append]
  ·rw[e1,e3,List.drop_length_add_append];simpa using h4
theorem EL.nil_of{α:Type}{R:α→List Value→List Nat→Prop}: ∀{xs:List α} {cs:List Value} {bs:List Nat},(∀x c b,R x c b→b=[])→EL R xs cs bs→bs=[]
 |[],_,_,_,⟨_,h⟩=>h
 |x::xs,_,_,hr,⟨c,c',b,b',e1,e2,h1,h2⟩=>by rw[e2,hr _ _ _ h1,EL.nil_of hr h2];rfl
theorem DRel.noblocks{w:World}{O:Nat→Prop}: ∀(t:Ty) (x:t.den) (cs:List Value) (bs:List Nat),DRel w O false t x cs bs→bs=[]
 | .int _,_,_,_,h| .bool,_,_,_,h| .str,_,_,_,h| .err,_,_,_,h| .ref,_,_,_,h| .unit,_,_,_,h=>h.2
 | .sl t,_,_,_,⟨v,e,h⟩=>h.2
 | .arr n t,_,_,_,⟨h1,h2⟩=>h2.nil_of fun x c b h=>DRel.noblocks t x c b h
 | .pair a b,_,_,_,⟨c,d,p,q,e1,e2,h1,h2⟩=>by rw[e2,DRel.noblocks a _ _ _ h1,DRel.noblocks b _ _ _ h2];rfl
 | .st t,x,cs,bs,h=>DRel.noblocks t x cs bs h
theorem Stp.shrink{w:World}{O O':Nat→Prop}(h: ∀k,O' k→O k):Stp w O w O':=⟨Nat.le_refl _,fun _ _ _=>rfl,fun k _ hn ho=>hn (h k ho),rfl,rfl,rfl⟩
theorem DRel.less{w:World}{O O':Nat→Prop}(h: ∀k,O' k→O k){t:Ty}{x:t.den}{cs:List Value}{bs:List Nat}(hd:DRel w O false t x cs bs):DRel w O' false t x cs bs:=DRel.bor (Stp.shrink h) _ _ _ _ hd
theorem blt_false{k n:Nat}(h:Nat.blt k n=false): ¬k<n:=by intro hk;rw[Nat.blt_eq.mpr hk]at h;cases h
def lty(s:Bool)(n:Nat)(u:Ty):Ty:=match s with|true=> .sl u|false=> .arr n u
def lden(s:Bool)(n:Nat){u:Ty}(ys:List u.den):(lty s n u).den:=match s with|true=>ys|false=>ys
theorem subD_rel{w:World}{O:Nat→Prop}{m:Bool}{u:Ty}: ∀(t:Ty) (x:t.den) (k:Nat) (y:u.den) (cs:List Value) (bs:List Nat),(subD u t x k).run=some y→DRel w O m t x cs bs→
  ((szT t).drop k).take u.nl=szT u∧k+u.nl≤t.nl∧
  ∃c1 c2 c3 b1 b2 b3,cs=c1++c2++c3∧bs=b1++b2++b3∧c1.length=offL t k∧DRel w O m u y c2 b2∧
   ∀y' c2' b2' x',DRel w O m u y' c2' b2'→(setD u y' t x k).run=some x'→DRel w O m t x' (c1++c2'++c3) (b1++b2'++b3)
 | .pair a b,x,k,y,cs,bs,hs,⟨c,d,p,q,e1,e2,h1,h2⟩=>by
  simp only[subD,Out.cond_some]at hs
  rcases hs with⟨hk,hs⟩|⟨hk,hs⟩
  ·have hk':k<a.nl:=by simpa using hk
   obtain⟨hz,hz',c1,c2,c3,b1,b2,b3,e3,e4,e5,h3,h4⟩:=subD_rel a x.1 k y c p hs h1
   refine⟨?_,by simp only[Ty.nl];omega,c1,c2,c3++d,b1,b2,b3++q,by rw[e1,e3];simp,by rw[e2,e4];simp,by rw[e5,offL_left _ _ (by omega)],h3,?_⟩
   ·rw[show szT (.pair a b)=szT a++szT b from rfl,List.drop_append_of_le_length (by rw[szT_length];omega),List.take_append_of_le_length (by rw[List.length_drop,szT_length];omega)]
    exact hz
   ·intro y' c2' b2' x' hy hx
    simp only[setD,hk,cond_true,Out.bind_some,Out.ret_some]at hx
    obtain⟨z,hz,rfl⟩:=hx
    exact⟨c1++c2'++c3,d,b1++b2'++b3,q,by simp,by simp,h4 _ _ _ _ hy hz,h2⟩
  ·have hk': ¬k<a.nl:=blt_false hk
   obtain⟨hz,hz',c1,c2,c3,b1,b2,b3,e3,e4,e5,h3,h4⟩:=subD_rel b x.2 (k-a.nl) y d q hs h2
   have ek:k=a.nl+(k-a.nl):=by omega
   refine⟨?_,by simp only[Ty.nl];omega,c++c1,c2,c3,p++b1,b2,b3,by rw[e1,e3];simp,by rw[e2,e4];simp,?_,h3,?_⟩
   ·rw[show szT (.pair a b)=szT a++szT b from rfl,ek,show a.nl=(szT a).length from(szT_length a).symm,List.drop_length_add_append,szT_length]
    simpa using hz
   ·rw[List.length_append,e5,DRel.length _ _ _ _ h1];conv=>rhs;rw[ek,offL_right]
   ·intro y' c2' b2' x' hy hx
    simp only[setD,hk,cond_false,Out.bind_some,Out.ret_some]at hx
    obtain⟨z,hz,rfl⟩:=hx
    exact⟨c,c1++c2'++c3,p,b1++b2'++b3,by simp,by simp,h1,h4 _ _ _ _ hy hz⟩
 | .st t,x,k,y,cs,bs,hs,h=>by
  simp only[subD,Out.cond_some]at hs
  rcases hs with⟨hk,hs⟩|⟨hk,hs⟩
  ·obtain⟨e,rfl⟩:=castD_some.1 hs
   subst e
   have hk0:k=0:=by simpa using hk
   subst hk0
   refine⟨by simp[←szT_length],by simp,[],cs,[],[],bs,[],by simp,by simp,rfl,h,?_⟩
   intro y' c2' b2' x' hy hx
   simp only[setD,hk,cond_true]at hx
   obtain⟨e,rfl⟩:=castD_some.1 hx
   simpa using hy
  ·obtain⟨hz,hz',c1,c2,c3,b1,b2,b3,e3,e4,e5,h3,h4⟩:=subD_rel t x k y cs bs hs h
   refine⟨hz,hz',c1,c2,c3,b1,b2,b3,e3,e4,e5,h3,?_⟩
   intro y' c2' b2' x' hy hx
   simp only[setD,hk,cond_false]at hx
   exact h4 _ _ _ _ hy hx
 | .unit,_,_,_,_,_,hs,_=>by simp[subD,Out.run]at hs
 | .int j,x,k,y,cs,bs,hs,h=>by
  simp only[subD,Out.cond_some,Out.fail_some,and_false,or_false]at hs
  obtain⟨hk,hs⟩:=hs
  obtain⟨e,rfl⟩:=castD_some.1 hs
  subst e
  have hk0:k=0:=by simpa using hk
  subst hk0
  refine⟨by simp[←szT_length],by simp,[],cs,[],[],bs,[],by simp,by simp,rfl,h,fun y' c2' b2' x' hy hx=>?_⟩
  simp only[setD,hk,cond_true]at hx
  obtain⟨e,rfl⟩:=castD_some.1 hx
  simpa using hy
 | .bool,x,k,y,cs,bs,hs,h=>by
  simp only[subD,Out.cond_some,Out.fail_some,and_false,or_false]at hs
  obtain⟨hk,hs⟩:=hs
  obtain⟨e,rfl⟩:=castD_some.1 hs
  subst e
  have hk0:k=0:=by simpa using hk
  subst hk0
  refine⟨by simp[←szT_length],by simp,[],cs,[],[],bs,[],by simp,by simp,rfl,h,fun y' c2' b2' x' hy hx=>?_⟩
  simp only[setD,hk,cond_true]at hx
  obtain⟨e,rfl⟩:=castD_some.1 hx
  simpa using hy
 | .str,x,k,y,cs,bs,hs,h=>by
  simp only[subD,Out.cond_some,Out.fail_some,and_false,or_false]at hs
  obtain⟨hk,hs⟩:=hs
  obtain⟨e,rfl⟩:=castD_some.1 hs
  subst e
  have hk0:k=0:=by simpa using hk
  subst hk0
  refine⟨by simp[←szT_length],by simp,[],cs,[],[],bs,[],by simp,by simp,rfl,h,fun y' c2' b2' x' hy hx=>?_⟩
  simp only[setD,hk,cond_true]at hx
  obtain⟨e,rfl⟩:=castD_some.1 hx
  simpa using hy
 | .err,x,k,y,cs,bs,hs,h=>by
  simp only[subD,Out.cond_some,Out.fail_some,and_false,or_false]at hs
  obtain⟨hk,hs⟩:=hs
  obtain⟨e,rfl⟩:=castD_some.1 hs
  subst e
  have hk0:k=0:=by simpa using hk
  subst hk0
  refine⟨by simp[←szT_length],by simp,[],cs,[],[],bs,[],by simp,by simp,rfl,h,fun y' c2' b2' x' hy hx=>?_⟩
  simp only[setD,hk,cond_true]at hx
  obtain⟨e,rfl⟩:=castD_some.1 hx
  simpa using hy
 | .ref,x,k,y,cs,bs,hs,h=>by
  simp only[subD,Out.cond_some,Out.fail_some,and_false,or_false]at hs
  obtain⟨hk,hs⟩:=hs
  obtain⟨e,rfl⟩:=castD_some.1 hs
  subst e
  have hk0:k=0:=by simpa using hk
  subst hk0
  refine⟨by simp[←szT_length],by simp,[],cs,[],[],bs,[],by simp,by simp,rfl,h,fun y' c2' b2' x' hy hx=>?_⟩
  simp only[setD,hk,cond_true]at hx
  obtain⟨e,rfl⟩:=castD_some.1 hx
  simpa using hy
 | .sl t,x,k,y,cs,bs,hs,h=>by
  simp only[subD,Out.cond_some,Out.fail_some,and_false,or_false]at hs
  obtain⟨hk,hs⟩:=hs
  obtain⟨e,rfl⟩:=castD_some.1 hs
  subst e
  have hk0:k=0:=by simpa using hk
  subst hk0
  refine⟨by simp[←szT_length],by simp,[],cs,[],[],bs,[],by simp,by simp,rfl,h,fun y' c2' b2' x' hy hx=>?_⟩
  simp only[setD,hk,cond_true]at hx
  obtain⟨e,rfl⟩:=castD_some.1 hx
  simpa using hy
 | .arr n t,x,k,y,cs,bs,hs,h=>by
  simp only[subD,Out.cond_some,Out.fail_some,and_false,or_false]at hs
  obtain⟨hk,hs⟩:=hs
  obtain⟨e,rfl⟩:=castD_some.1 hs
  subst e
  have hk0:k=0:=by simpa using hk
  subst hk0
  refine⟨by simp[←szT_length],by simp,[],cs,[],[],bs,[],by simp,by simp,rfl,h,fun y' c2' b2' x' hy hx=>?_⟩
  simp only[setD,hk,cond_true]at hx
  obtain⟨e,rfl⟩:=castD_some.1 hx
  simpa using hy
theorem subD_flat{u:Ty}: ∀(t:Ty) (x:t.den) (k:Nat) (y:u.den),(subD u t x k).run=some y→t.flat=true→u.flat=true
 | .pair a b,x,k,y,hs,h=>by
  simp only[Ty.flat,Bool.and_eq_true]at h
  simp only[subD,Out.cond_some]at hs
  rcases hs with⟨hk,hs⟩|⟨hk,hs⟩
  ·exact subD_flat a x.1 k y hs h.1
  ·exact subD_flat b x.2 _ y hs h.2
 | .st t,x,k,y,hs,h=>by
  simp only[subD,Out.cond_some]at hs
  rcases hs with⟨hk,hs⟩|⟨hk,hs⟩
  ·obtain⟨e,_⟩:=castD_some.1 hs
   subst e;exact h
  ·exact subD_flat t x k y hs h
 | .unit,_,_,_,hs,_=>by simp[subD,Out.run]at hs
 | .int j,x,k,y,hs,h=>by
  simp only[subD,Out.cond_some,Out.fail_some,and_false,or_false]at hs
  obtain⟨e,_⟩:=castD_some.1 hs.2
  subst e;exact h
 | .bool,x,k,y,hs,h=>by
  simp only[subD,Out.cond_some,Out.fail_some,and_false,or_false]at hs
  obtain⟨e,_⟩:=castD_some.1 hs.2
  subst e;exact h
 | .str,x,k,y,hs,h=>by
  simp only[subD,Out.cond_some,Out.fail_some,and_false,or_false]at hs
  obtain⟨e,_⟩:=castD_some.1 hs.2
  subst e;exact h
 | .err,x,k,y,hs,h=>by
  simp only[subD,Out.cond_some,Out.fail_some,and_false,or_false]at hs
  obtain⟨e,_⟩:=castD_some.1 hs.2
  subst e;exact h
 | .ref,x,k,y,hs,h=>by
  simp only[subD,Out.cond_some,Out.fail_some,and_false,or_false]at hs
  obtain⟨e,_⟩:=castD_some.1 hs.2
  subst e;exact h
 | .sl t,x,k,y,hs,h=>by
  simp only[subD,Out.cond_some,Out.fail_some,and_false,or_false]at hs
  obtain⟨e,_⟩:=castD_some.1 hs.2
  subst e;exact h
 | .arr n t,x,k,y,hs,h=>by
  simp only[subD,Out.cond_some,Out.fail_some,and_false,or_false]at hs
  obtain⟨e,_⟩:=castD_some.1 hs.2
  subst e;exact h
theorem listD_rel{w:World}{O:Nat→Prop}{m s:Bool}{u:Ty}: ∀(t:Ty) (x:t.den) (k:Nat) (ys:List u.den) (cs:List Value) (bs:List Nat),(listD s t x k).run=some ⟨u,ys⟩→DRel w O m t x cs bs→
  ∃c1 c2 c3 b1 b2 b3,cs=c1++c2++c3∧bs=b1++b2++b3∧c1.length=offL t k∧k<t.nl∧(m=true→s=true→t.flat=false)∧
   ∃n,(s=false→ys.length=n)∧DRel w O m (lty s n u) (lden s n ys) c2 b2∧
   ∀(ys':List u.den) c2' b2' x',DRel w O m (lty s n u) (lden s n ys') c2' b2'→(setListD s u ys' t x k).run=some x'→DRel w O m t x' (c1++c2'++c3) (b1++b2'++b3)
 | .pair a b,x,k,ys,cs,bs,hs,⟨c,d,p,q,e1,e2,h1,h2⟩=>by
  simp only[listD,Out.cond_some]at hs
  rcases hs with⟨hk,hs⟩|⟨hk,hs⟩
  ·have hk':k<a.nl:=by simpa using hk
   obtain⟨c1,c2,c3,b1,b2,b3,e3,e4,e5,hz,hf,n,hn,h3,h4⟩:=listD_rel a x.1 k ys c p hs h1
   refine⟨c1,c2,c3++d,b1,b2,b3++q,by rw[e1,e3];simp,by rw[e2,e4];simp,by rw[e5,offL_left _ _ (by omega)],by simp only[Ty.nl];omega,fun h1 h2=>by simp[Ty.flat,hf h1 h2],n,hn,h3,?_⟩
   intro y' c2' b2' x' hy hx
   simp only[setListD,hk,cond_true,Out.bind_some,Out.ret_some]at hx
   obtain⟨z,hz,rfl⟩:=hx
   exact⟨c1++c2'++c3,d,b1++b2'++b3,q,by simp,by simp,h4 _ _ _ _ hy hz,h2⟩
  ·have hk': ¬k<a.nl:=blt_false hk
   obtain⟨c1,c2,c3,b1,b2,b3,e3,e4,e5,hz,hf,n,hn,h3,h4⟩:=listD_rel b x.2 (k-a.nl) ys d q hs h2
   have ek:k=a.nl+(k-a.nl):=by omega
   refine⟨c++c1,c2,c3,p++b1,b2,b3,by rw[e1,e3];simp,by rw[e2,e4];simp,?_,by simp only[Ty.nl];omega,fun h1 h2=>by simp[Ty.flat,hf h1 h2],n,hn,h3,?_⟩
   ·rw[List.length_append,e5,DRel.length _ _ _ _ h1];conv=>rhs;rw[ek,offL_right]
   ·intro y' c2' b2' x' hy hx
    simp only[setListD,hk,cond_false,Out.bind_some,Out.ret_some]at hx
    obtain⟨z,hz,rfl⟩:=hx
    exact⟨c,c1++c2'++c3,p,b1++b2'++b3,by simp,by simp,h1,h4 _ _ _ _ hy hz⟩
 | .st t,x,k,ys,cs,bs,hs,h=>by
  obtain⟨c1,c2,c3,b1,b2,b3,e3,e4,e5,hz,hf,n,hn,h3,h4⟩:=listD_rel t x k ys cs bs hs h
  exact⟨c1,c2,c3,b1,b2,b3,e3,e4,e5,hz,hf,n,hn,h3,h4⟩
 | .sl t,x,k,ys,cs,bs,hs,h=>by
  simp only[listD,Out.cond_some,Out.fail_some,and_false,or_false,Out.ret_some]at hs
  obtain⟨hk,hs⟩:=hs
  cases hs
  simp only[Bool.and_eq_true,beq_iff_eq]at hk
  obtain⟨rfl,rfl⟩:=hk
  refine⟨[],cs,[],[],bs,[],by simp,by simp,rfl,by simp[Ty.nl],fun _ _=>rfl,0,(by intro h;simp at h),h,fun y' c2' b2' x' hy hx=>?_⟩
  simp only[setListD,Bool.true_and,beq_self_eq_true,cond_true]at hx
  obtain⟨e,rfl⟩:=castL_some.1 hx
  simpa[lty,lden]using hy
 | .arr n t,x,k,ys,cs,bs,hs,h=>by
  simp only[listD,Out.cond_some,Out.fail_some,and_false,or_false,Out.ret_some]at hs
  obtain⟨hk,hs⟩:=hs
  cases hs
  simp only[Bool.and_eq_true,beq_iff_eq,Bool.not_eq_true']at hk
  obtain⟨rfl,rfl⟩:=hk
  refine⟨[],cs,[],[],bs,[],by simp,by simp,rfl,by simp[Ty.nl],(by intro _ h;simp at h),n,fun _=>h.1,h,fun y' c2' b2' x' hy hx=>?_⟩
  simp only[setListD,Bool.not_false,Bool.true_and,beq_self_eq_true,cond_true]at hx
  obtain⟨e,rfl⟩:=castL_some.1 hx
  simpa[lty,lden]using hy
 | .unit,_,_,_,_,_,hs,_| .int _,_,_,_,_,_,hs,_| .bool,_,_,_,_,_,hs,_| .str,_,_,_,_,_,hs,_| .err,_,_,_,_,_,hs,_| .ref,_,_,_,_,_,hs,_=>by simp[listD,Out.run]at hs
end Go.Vm
namespace Go.Vm
def RowR(w:World)(O:Nat→Prop)(m:Own)(u:Ty):u.den→List Value→List Nat→Prop:=match m.deep with
 |true=>DRel w O true u
 |false=>fun x c b=>b=[]∧DRel w O false u x c []
theorem RowR.deep{w:World}{O:Nat→Prop}{m:Own}{u:Ty}(h:m.deep=true):RowR w O m u=DRel w O true u:=by unfold RowR;rw[h]
theorem RowR.shal{w:World}{O:Nat→Prop}{m:Own}{u:Ty}(h:m.deep=false):RowR w O m u=fun x c b=>b=[]∧DRel w O false u x c []:=by unfold RowR;rw[h]
theorem RowR.length{w:World}{O:Nat→Prop}{m:Own}{u:Ty}(x:u.den)(c:List Value)(b:List Nat)(h:RowR w O m u x c b):c.length=u.sz:=by
 cases hm:m.deep
 ·rw[RowR.shal hm]at h;exact DRel.length _ _ _ _ h.2
 ·rw[RowR.deep hm]at h;exact DRel.length _ _ _ _ h
theorem RowR.lend{w:World}{O O':Nat→Prop}{m:Own}{u:Ty}(ho: ∀k,O' k→O k){x:u.den}{c:List Value}{b:List Nat}(hb: ∀k∈b,¬O' k)(h:RowR w O m u x c b):DRel w O' false u x c []:=by
 cases hm:m.deep
 ·rw[RowR.shal hm]at h;exact h.2.less ho
 ·rw[RowR.deep hm]at h;exact DRel.lend _ _ _ _ hb h
theorem RootRel.row{γ:Nat→G}{D:Nat→Nat}{w:World}{W:Nat→Nat→Prop}{g:G}{u:Ty}{xs:List u.den}{m:Own}{bs:List Nat}(h:RootRel γ D w W g (.row u xs m) bs):
  ∃v,g= .row v u∧((m≠ .froz∧OwnS w (RowR w (AllW W) m u) u.sz xs v bs)∨(m= .froz∧bs=[]∧BorS w (AllW W) (DRel w (AllW W) false u) xs v∧(0<xs.length→(rowAt v).isSome=true))):=by
 unfold RootRel at h
 split at h
 ·rename_i heq;cases heq
 ·rename_i v t' u' ys m' heq
  simp only[Root.row.injEq]at heq
  obtain⟨rfl,heq,rfl⟩:=heq
  obtain rfl:=eq_of_heq heq
  obtain⟨rfl,h⟩:=h
  refine⟨v,rfl,?_⟩
  split at h
  ·exact .inl ⟨by simp,h⟩
  ·exact .inl ⟨by simp,h⟩
  ·exact .inl ⟨by simp,h⟩
  ·exact .inl ⟨by simp,h.1⟩
  ·exact .inr ⟨rfl,h⟩
 ·rename_i heq;cases heq
 ·rename_i heq;cases heq
 ·rename_i heq;cases heq
 ·exact h.elim
theorem RootRel.mkRow{γ:Nat→G}{D:Nat→Nat}{w:World}{W:Nat→Nat→Prop}{u:Ty}{xs:List u.den}{m:Own}{bs:List Nat}{v:Value}(hm:m≠ .froz)(h:OwnS w (RowR w (AllW W) m u) u.sz xs v bs)(hb:m≠ .bare:=by first|decide|assumption):RootRel γ D w W (.row v u) (.row u xs m) bs:=by
 refine⟨rfl,?_⟩
 cases m
 ·exact h
 ·exact h
 ·exact h
 ·exact absurd rfl hm
 ·exact absurd rfl hb
theorem Own.wr_ne(m:Own):m.wr≠ .bare:=by cases m<;>decide
theorem Own.wr_froz{m:Own}(h:m≠ .froz):m.wr≠ .froz:=by cases m<;>first|decide|exact h
theorem Own.wr_deep(m:Own):m.wr.deep=m.deep:=by cases m<;>rfl
theorem RootRel.mkWr{γ:Nat→G}{D:Nat→Nat}{w:World}{W:Nat→Nat→Prop}{u:Ty}{xs:List u.den}{m:Own}{bs:List Nat}{v:Value}(hm:m≠ .froz)(h:OwnS w (RowR w (AllW W) m u) u.sz xs v bs):RootRel γ D w W (.row v u) (.row u xs m.wr) bs:=by
 have e:RowR w (AllW W) m.wr u=RowR w (AllW W) m u:=by unfold RowR;rw[Own.wr_deep]
 exact RootRel.mkRow (Own.wr_froz hm) (by rw[e];exact h) (Own.wr_ne m)
theorem RootRel.bare{γ:Nat→G}{D:Nat→Nat}{w:World}{W:Nat→Nat→Prop}{v:Value}{t u:Ty}{xs:List u.den}{bs:List Nat}(h:RootRel γ D w W (.row v t) (.row u xs .bare) bs): ∀g,rowAt v=some g→Plain w g:=h.2.2
theorem RootRel.box{γ:Nat→G}{D:Nat→Nat}{w:World}{W:Nat→Nat→Prop}{g:G}{ps:List PV}{bs:List Nat}(h:RootRel γ D w W g (.box ps) bs):
  ∃b o out,g= .box b o (ps.map szV) out∧nstFree ps=true∧bs=[b]∧b<w.heap.size∧(∃cs,LL γ D w W ps cs∧w.rangeAt b o cs)∧w.there b o (ps.map szV).sum∧
   (∀j,(j<o∨o+(ps.map szV).sum≤j)→(w.cell? ⟨b,j,none⟩,w.frozen? ⟨b,j,none⟩)=out j):=by
 unfold RootRel at h
 split at h
 ·rename_i b o szs out ps' heq
  cases heq
  obtain⟨h0,h1,h2,h3,h4,h5,h6⟩:=h
  subst h1
  exact⟨b,o,out,rfl,h0,h2,h3,h4,h5,h6⟩
 ·rename_i heq;cases heq
 ·rename_i heq;cases heq
 ·rename_i heq;cases heq
 ·rename_i heq;cases heq
 ·exact h.elim
theorem RootRel.mp{γ:Nat→G}{D:Nat→Nat}{w:World}{W:Nat→Nat→Prop}{g:G}{xs:List Int}{bs:List Nat}(h:RootRel γ D w W g (.mp xs) bs):
  ∃b es clock,g= .row (.map (some b)) (.int .i64)∧bs=[b]∧b<w.heap.size∧w.heap[b]?=some (.map es clock)∧MapOf xs es.toList:=by
 unfold RootRel at h
 split at h
 ·rename_i heq;cases heq
 ·rename_i heq;cases heq
 ·rename_i v t ys heq
  cases heq
  obtain⟨rfl,b,rfl,h1,h2,es,c,h3,h4⟩:=h
  exact⟨b,es,c,rfl,h1,h2,h3,h4⟩
 ·rename_i heq;cases heq
 ·rename_i heq;cases heq
 ·exact h.elim
theorem BorS.part{w:World}{O:Nat→Prop}{u:Ty}{xs:List u.den}{g off len c' cap' n:Nat}{A':Option Addr}{A:Option Addr}
  (h:BorS w O (DRel w O false u) xs (.slice A n cap')) (hA:0<len→A=some ⟨g,0,none⟩∧A'=some ⟨g,off*u.sz,none⟩) (hc:len≤c'∧c'≤maxLen) (hle:off+len≤xs.length):
  BorS w O (DRel w O false u) ((xs.drop off).take len) (.slice A' len c'):=by
 obtain⟨B,cap,e,hcap,h⟩:=h
 have hlen:((xs.drop off).take len).length=len:=by simp;omega
 refine⟨A',c',by rw[hlen],by rw[hlen];exact hc,fun hp=>?_⟩
 rw[hlen]at hp
 obtain⟨a,cells,e1,h1,h2,h3,h4⟩:=h (by omega)
 simp only[Value.slice.injEq]at e
 obtain⟨hA1,hA2⟩:=hA hp
 rw[hA1,e1]at e
 have ea:(⟨g,0,none⟩:Addr)=a:=by simpa using e.1
 subst ea
 obtain⟨b1,b2,hb,h5,h6⟩:=EL.take_drop (fun x c b h=>DRel.length _ _ _ _ h) off h4
 simp at hb
 obtain⟨rfl,rfl⟩:=hb
 obtain⟨b1,b2,hb,h7,h8⟩:=EL.take_drop (fun x c b h=>DRel.length _ _ _ _ h) len h6
 simp at hb
 obtain⟨rfl,rfl⟩:=hb
 refine⟨_,_,hA2,h1,h2,fun j v hj=>?_,h7⟩
 rw[Addr.add_mid]
 have:=h3 (off*u.sz+j) v (by
  rw[List.getElem?_take]at hj
  split at hj
  ·rwa [List.getElem?_drop]at hj
  ·cases hj)
 rwa [Addr.add_mid,Nat.zero_add]at this
def Sub(lkS lk:Look):Prop:= ∀r x,lkS r=some x→lk r=some x
section
variable {γ:Nat→G} {B:Nat→List Nat} {w:World} {lk lkS:Look} {O':Nat→Prop}
structure Free(B:Nat→List Nat)(lk:Look)(O':Nat→Prop)(l:List Nat):Prop where
 sub: ∀k,O' k→AllW (Owned B lk) k
 free: ∀r∈l,∀k∈B r,¬O' k
theorem Free.less{l l':List Nat}(h:Free B lk O' l)(hl: ∀r∈l',r∈l):Free B lk O' l':=⟨h.sub,fun r hr=>h.free r (hl r hr)⟩
theorem Mem.rowBor(hM:Mem γ B w lk){r:Nat}{u:Ty}{xs:List u.den}{m:Own}(hx:lk r=some (.row u xs m))(hf:Free B lk O' [r]): ∃v,γ r= .row v u∧BorS w O' (DRel w O' false u) xs v:=by
 obtain⟨v,e,h|h⟩:=(hM.rel r _ hx).row
 ·exact⟨v,e,h.2.lend (hf.free r (by simp)) (fun x c b hb hr=>hr.lend hf.sub (fun k hk=>hf.free r (by simp) k (hb k hk)))⟩
 ·exact⟨v,e,h.2.2.1.step (Stp.shrink hf.sub) (fun x c b _ hr=>hr.less hf.sub)⟩
theorem Mem.elem(hM:Mem γ B w lk){r:Nat}{u:Ty}{xs:List u.den}{m:Own}(hx:lk r=some (.row u xs m))(hm:m≠ .froz){n:Nat}{x:u.den}(hn:xs[n]?=some x):
  ∃g cap cells rest,γ r= .row (.slice (some ⟨g,0,none⟩) xs.length cap) u∧xs.length≤cap∧cap≤maxLen∧g<w.heap.size∧w.rangeAt g 0 cells∧w.there g 0 (cap*u.sz)∧B r=g::rest∧
   EL (RowR w (AllW (Owned B lk)) m u) xs cells rest:=by
 obtain⟨v,e,h|h⟩:=(hM.rel r _ hx).row
 ·rcases h.2 with⟨_,_,rfl,_⟩|⟨g,cap,cells,rest,rfl,h1,h2,h3,h4,h5,h6,h7⟩
  ·simp at hn
  ·exact⟨g,cap,cells,rest,e,h1,h2,h3,h4,h5,h7,h6⟩
 ·exact absurd h.1 hm
theorem rangeAt_mid{w:World}{b o:Nat}{c1 c2 c3:List Value}(h:w.rangeAt b o (c1++c2++c3)):w.rangeAt b (o+c1.length) c2:=fun j v hj=>by
 have:=h (c1.length+j) v (by
  rw[List.append_assoc,List.getElem?_append_right (by omega),Nat.add_sub_cancel_left,List.getElem?_append_left (by rw[List.getElem?_eq_some_iff]at hj;exact hj.1)]
  exact hj)
 rwa [Nat.add_assoc]
theorem at_row{v:Value}{t:Ty}{n k b o:Nat}(h:(G.row v t).at n k=some (b,o)):(∃l c,v= .slice (some ⟨b,0,none⟩) l c)∧o=n*t.sz+offL t k:=by
 simp only[G.at,Option.map_eq_some_iff,Prod.mk.injEq]at h
 obtain⟨g,h,rfl,rfl⟩:=h
 obtain⟨l,c,rfl⟩:=rowAt_some h
 exact⟨⟨l,_,rfl⟩,rfl⟩
theorem Mem.elemBor(hM:Mem γ B w lk){r:Nat}{u:Ty}{xs:List u.den}{m:Own}(hx:lk r=some (.row u xs m)){n k b o:Nat}{x:u.den}(hn:xs[n]?=some x)(ha:(γ r).at n k=some (b,o))(hf:Free B lk O' [r]):
  ∃cs,DRel w O' false u x cs []∧w.rangeAt b (n*u.sz) cs∧o=n*u.sz+offL u k∧b<w.heap.size:=by
 obtain⟨v,e,A,cap,ev,hc,h⟩:=hM.rowBor hx hf
 rw[e]at ha
 obtain⟨⟨l,c,e1⟩,e2⟩:=at_row ha
 obtain⟨a,cells,e3,h1,h2,h3,h4⟩:=h (by have:=(List.getElem?_eq_some_iff.1 hn).1;omega)
 rw[ev,e3]at e1
 simp only[Value.slice.injEq,Option.some.injEq]at e1
 obtain⟨rfl,_,_⟩:=e1
 obtain⟨c1,c',c3,b1,b',b3,e4,e5,e6,h5,_⟩:=EL.get (fun x c b h=>DRel.length _ _ _ _ h) h4 hn
 obtain rfl:=DRel.noblocks _ _ _ _ h5
 refine⟨c',h5,?_,e2,h1⟩
 have hr:w.rangeAt b 0 cells:=fun j v hj=>by rw[←Addr.add_mid];exact h3 j v hj
 rw[e4]at hr
 have:=rangeAt_mid hr
 rwa [e5,Nat.zero_add]at this
theorem at_box{b o:Nat}{szs:List Nat}{out:Nat→Option Value×Bool}{n k b' o':Nat}(h:(G.box b o szs out).at n k=some (b',o')):n=0∧b'=b∧o'=o+(szs.take k).sum:=by
 cases n with
 |zero=>simp only[G.at,Option.some.injEq,Prod.mk.injEq]at h;exact⟨rfl,h.1.symm,h.2.symm⟩
 |succ n=>simp[G.at]at h
theorem Mem.placeA(hM:Mem γ B w lk)(hS:Sub lkS lk){r n k:Nat}{u:Ty}{ys:List u.den}(hp:(placeA lkS r n k).run=some ⟨u,ys⟩){b o:Nat}(ha:(γ r).at n k=some (b,o))(hf:Free B lk O' [r]):
  ∃cells,w.rangeAt b o cells∧EL (DRel w O' false u) ys cells []∧b<w.heap.size∧ ¬O' b:=by
 unfold Vm.placeA at hp
 split at hp
 ·rename_i ps hx
  obtain⟨b',o',out,e,h0,h1,h2,⟨cs,h3,h4⟩,h5,h6⟩:=(hM.rel r _ (hS _ _ hx)).box
  rw[e]at ha
  obtain⟨rfl,rfl,rfl⟩:=at_box ha
  split at hp
  ·rename_i m t ys' heq heq0
   simp only[Out.ret_some,Sigma.mk.injEq]at hp
   obtain⟨rfl,hp⟩:=hp
   obtain rfl:=eq_of_heq hp
   obtain⟨c1,c2,c3,e1,_,e2,h7,_⟩:=h3.split k 1
   have:(ps.drop k).take 1=[.sc (.arr m t) ys']:=by
    rw[List.take_one,List.head?_drop];simp[*]
   rw[this,LL.single,LRel]at h7
   refine⟨c2,?_,(h7.2.less hf.sub).2,h2,hf.free r (by simp) _ (by rw[h1];simp)⟩
   rw[e1]at h4
   have:=rangeAt_mid h4
   rwa [e2]at this
  ·simp[Out.run]at hp
 ·rename_i t xs m hx
  simp only[Out.bind_some,Out.nth_some]at hp
  obtain⟨x,hn,hl⟩:=hp
  obtain⟨cs,h1,h2,h3,h4⟩:=hM.elemBor (hS _ _ hx) hn ha hf
  obtain⟨c1,c2,c3,b1,b2,b3,e1,e2,e3,_,_,N,_,h5,_⟩:=listD_rel t x k ys cs [] hl h1
  obtain rfl:b2=[]:=by simp at e2;exact e2.2.1
  rw[e1]at h2
  have:=rangeAt_mid h2
  rw[e3,←h3]at this
  refine⟨c2,this,h5.2,h4,?_⟩
  obtain⟨v,e,A,cap,ev,hc,h⟩:=hM.rowBor (hS _ _ hx) hf
  obtain⟨a,cells',e3',_,h2',_⟩:=h (by have:=(List.getElem?_eq_some_iff.1 hn).1;omega)
  rw[e]at ha
  obtain⟨⟨l,c,e1⟩,e2⟩:=at_row ha
  rw[ev,e3']at e1
  simp only[Value.slice.injEq,Option.some.injEq]at e1
  obtain⟨rfl,_,_⟩:=e1
  exact h2'
 ·simp[Out.run]at hp
theorem szT_at: ∀{t:Ty} {x:t.den} {k:Nat} {u:Ty} {ys:List u.den} {w:World} {O:Nat→Prop} {m:Bool} {cs:List Value} {bs:List Nat},(listD false t x k).run=some ⟨u,ys⟩→DRel w O m t x cs bs→(szT t)[k]?=some (ys.length*u.sz)
 | .pair a b,x,k,u,ys,w,O,m,cs,bs,hs,⟨c,d,p,q,e1,e2,h1,h2⟩=>by
  simp only[listD,Out.cond_some]at hs
  rcases hs with⟨hk,hs⟩|⟨hk,hs⟩
  ·have hk':k<a.nl:=by simpa using hk
   rw[show szT (.pair a b)=szT a++szT b from rfl,List.getElem?_append_left (by rw[szT_length];exact hk')]
   exact szT_at hs h1
  ·have hk': ¬k<a.nl:=blt_false hk
   rw[show szT (.pair a b)=szT a++szT b from rfl,List.getElem?_append_right (by rw[szT_length];omega),szT_length]
   exact szT_at hs h2
 | .st t,x,k,u,ys,w,O,m,cs,bs,hs,h=>szT_at (t:=t) hs h
 | .arr n t,x,k,u,ys,w,O,m,cs,bs,hs,h=>by
  simp only[listD,Out.cond_some,Out.fail_some,and_false,or_false,Out.ret_some]at hs
  obtain⟨hk,hs⟩:=hs
  cases hs
  simp only[Bool.not_false,Bool.true_and,beq_iff_eq]at hk
  subst hk
  rw[h.1];rfl
 | .sl _,_,_,_,_,_,_,_,_,_,hs,_=>by simp[listD,Out.run]at hs
 | .unit,_,_,_,_,_,_,_,_,_,hs,_| .int _,_,_,_,_,_,_,_,_,_,hs,_| .bool,_,_,_,_,_,_,_,_,_,hs,_| .str,_,_,_,_,_,_,_,_,_,hs,_| .err,_,_,_,_,_,_,_,_,_,hs,_| .ref,_,_,_,_,_,_,_,_,_,hs,_=>by simp[listD,Out.run]at hs
theorem Mem.placeA_len(hM:Mem γ B w lk)(hS:Sub lkS lk){r n k:Nat}{u:Ty}{ys:List u.den}(hp:(Vm.placeA lkS r n k).run=some ⟨u,ys⟩):(γ r).lsz k=ys.length*u.sz:=by
 unfold Vm.placeA at hp
 split at hp
 ·rename_i ps hx
  obtain⟨b',o',out,e,h0,h1,h2,⟨cs,h3,h4⟩,h5,h6⟩:=(hM.rel r _ (hS _ _ hx)).box
  rw[e]
  split at hp
  ·rename_i m t ys' heq
   simp only[Out.ret_some,Sigma.mk.injEq]at hp
   obtain⟨rfl,hp⟩:=hp
   obtain rfl:=eq_of_heq hp
   obtain⟨c1,c2,c3,e1,_,e2,h7,_⟩:=h3.split k 1
   have:(ps.drop k).take 1=[.sc (.arr m t) ys']:=by
    rw[List.take_one,List.head?_drop,heq];rfl
   rw[this,LL.single,LRel]at h7
   have hl:ys'.length=m:=h7.2.1
   simp[G.lsz,heq,szV,Ty.sz,hl]
  ·simp[Out.run]at hp
 ·rename_i t xs m hx
  simp only[Out.bind_some,Out.nth_some]at hp
  obtain⟨x,hn,hl⟩:=hp
  have hf:Free B lk (fun _=>False) [r]:=⟨fun _ h=>h.elim,fun _ _ _ _ h=>h⟩
  obtain⟨v,e,A,cap,ev,hc,h⟩:=hM.rowBor (hS _ _ hx) hf
  obtain⟨a,cells,e3,_,_,_,h4⟩:=h (by have:=(List.getElem?_eq_some_iff.1 hn).1;omega)
  obtain⟨c1,c',c3,b1,b',b3,e4,e5,e6,h5,_⟩:=EL.get (fun x c b h=>DRel.length _ _ _ _ h) h4 hn
  rw[e]
  simp[G.lsz,szT_at hl h5]
 ·simp[Out.run]at hp
theorem Mem.placeS(hM:Mem γ B w lk)(hS:Sub lkS lk){r n k:Nat}{u:Ty}{ys:List u.den}(hp:(placeS lkS r n k).run=some ⟨u,ys⟩){b o:Nat}{v:Value}(ha:(γ r).at n k=some (b,o))(hc:w.cell? ⟨b,o,none⟩=some v)(hf:Free B lk O' [r]):
  BorS w O' (DRel w O' false u) ys v:=by
 unfold Vm.placeS at hp
 split at hp
 ·rename_i t xs m hx
  simp only[Out.need_some,Out.bind_some,Out.nth_some]at hp
  obtain⟨hm,x,hn,hl⟩:=hp
  obtain⟨cs,h1,h2,h3,h4⟩:=hM.elemBor (hS _ _ hx) hn ha hf
  obtain⟨c1,c2,c3,b1,b2,b3,e1,e2,e3,_,_,N,_,⟨v',e4,h5,_⟩,_⟩:=listD_rel t x k ys cs [] hl h1
  rw[e1]at h2
  have:=rangeAt_mid h2
  rw[e3,←h3,e4]at this
  have:=this 0 v' rfl
  rw[Nat.add_zero,hc]at this
  cases this
  exact h5
 ·simp[Out.run]at hp
theorem Mem.sliceOf(hM:Mem γ B w lk)(hS:Sub lkS lk){p:PV}{v:Value}{u:Ty}{xs:List u.den}(hs:(sliceOf lkS p).run=some ⟨u,xs⟩)(hv:LRel γ (Dom lk) w (Owned B lk) p [v])(hf:Free B lk O' (ids p)):
  BorS w O' (DRel w O' false u) xs v:=by
 unfold Vm.sliceOf at hs
 split at hs
 ·simp only[Out.ret_some,Sigma.mk.injEq]at hs
  obtain⟨rfl,hs⟩:=hs
  obtain rfl:=eq_of_heq hs
  obtain⟨_,hv⟩:_∧_:=by simpa only[LRel]using hv
  obtain⟨v',e,h⟩:=hv.less hf.sub
  simp only[List.cons.injEq,and_true]at e
  subst e
  exact h.1
 ·simp only[Out.ret_some,Sigma.mk.injEq]at hs
  obtain⟨rfl,hs⟩:=hs
  obtain rfl:=eq_of_heq hs
  simp only[LRel,List.cons.injEq,and_true]at hv
  subst hv
  exact⟨none,0,rfl,⟨Nat.le_refl _,Nat.zero_le _⟩,fun h=>absurd h (by simp)⟩
 ·rename_i r
  unfold rowL at hs
  split at hs
  ·rename_i t ys m hx
   simp only[Out.ret_some,Sigma.mk.injEq]at hs
   obtain⟨rfl,hs⟩:=hs
   obtain rfl:=eq_of_heq hs
   obtain⟨v',e,h⟩:=hM.rowBor (hS _ _ hx) (hf.less (by simp[ids]))
   simp only[LRel]at hv
   obtain⟨_,v'',t'',e',e'',_⟩:=hv
   rw[e]at e'
   cases e'
   simp only[List.cons.injEq,and_true]at e''
   subst e''
   exact h
  ·simp[Out.run]at hs
 ·rename_i r off len
  unfold rowL at hs
  split at hs
  ·rename_i t ys m hx
   simp only[Out.bind_some,Out.ret_some]at hs
   obtain⟨q,hq,hs⟩:=hs
   subst hq
   simp only[Sigma.mk.injEq]at hs
   obtain⟨rfl,hs⟩:=hs
   obtain rfl:=eq_of_heq hs
   obtain⟨v',e,h⟩:=hM.rowBor (hS _ _ hx) (hf.less (by simp[ids]))
   simp only[LRel]at hv
   obtain⟨_,v'',t'',A,n,cap,A',c',e',rfl,e'',hc,hoc,hol,hA,_⟩:=hv
   rw[e]at e'
   cases e'
   simp only[List.cons.injEq,and_true]at e''
   subst e''
   have h':=h
   obtain⟨A2,cap2,e3,hcm,_⟩:=h'
   simp only[Value.slice.injEq]at e3
   obtain⟨rfl,rfl,rfl⟩:=e3
   by_cases hp:0<len
   ·obtain⟨g,hg1,hg2⟩:=hA hp
    exact h.part (g:=g) (fun _=>⟨hg1,hg2⟩) ⟨hc,by have:=hcm.2;omega⟩ hol
   ·exact h.part (g:=0) (fun h=>absurd h hp) ⟨hc,by have:=hcm.2;omega⟩ hol
  ·simp[Out.run,Out.bind]at hs
 ·rename_i r n k
  simp only[LRel]at hv
  obtain⟨_,v',b,o,h1,_,_,h2,h3,_⟩:=hv
  simp only[List.cons.injEq,and_true]at h3
  subst h3
  exact hM.placeS hS hs h1 h2 (hf.less (by simp[ids]))
 ·rename_i r t ys
  simp only[Out.ret_some,Sigma.mk.injEq]at hs
  obtain⟨rfl,hs⟩:=hs
  obtain rfl:=eq_of_heq hs
  simp only[LRel]at hv
  obtain⟨_,_,_,v',e,h,_⟩:=hv
  simp only[List.cons.injEq,and_true]at e
  subst e
  have hsub: ∀k,O' k→ButW (Owned B lk) r k:=fun k hk=>by
   obtain⟨s,x,h1,h2⟩:=hf.sub k hk
   exact⟨s,fun e=>by subst e;exact hf.free s (by simp[ids]) k h2 hk,x,h1,h2⟩
  exact h.step (Stp.shrink hsub) (fun x c b _ hr=>hr.less hsub)
 ·rename_i r n k off len
  simp only[Out.bind_some,Out.need_some,Out.ret_some]at hs
  obtain⟨⟨t,ys⟩,hp,hz,hs⟩:=hs
  simp only[Sigma.mk.injEq]at hs
  obtain⟨rfl,hs⟩:=hs
  obtain rfl:=eq_of_heq hs
  simp only[LRel]at hv
  obtain⟨_,b,o,A,c',h1,h2,h3,hcm,h4,h5⟩:=hv
  simp only[List.cons.injEq,and_true]at h2
  subst h2
  obtain⟨cells,h6,h7,h8,h9⟩:=hM.placeA hS hp h1 (hf.less (by simp[ids]))
  have hl:=hM.placeA_len hS hp
  have hz':t.sz=1:=by simpa using hz
  rw[hz',Nat.mul_one]at hl
  have hlen:((ys.drop off).take len).length=len:=by simp;omega
  refine⟨some A,c',by rw[hlen],by rw[hlen];exact⟨h3,hcm⟩,fun hpos=>?_⟩
  rw[hlen]at hpos
  obtain rfl:=h5 hpos
  obtain⟨b1,b2,hb,h5,h6'⟩:=EL.take_drop (fun x c b h=>DRel.length _ _ _ _ h) off h7
  simp at hb
  obtain⟨rfl,rfl⟩:=hb
  obtain⟨b1,b2,hb,h7,h8'⟩:=EL.take_drop (fun x c b h=>DRel.length _ _ _ _ h) len h6'
  simp at hb
  obtain⟨rfl,rfl⟩:=hb
  refine⟨_,_,rfl,h8,h9,fun j v hj=>?_,h7⟩
  rw[Addr.add_mid]
  have:=h6 (off*t.sz+j) v (by
   rw[List.getElem?_take]at hj
   split at hj
   ·rwa [List.getElem?_drop]at hj
   ·cases hj)
  rwa [hz',Nat.mul_one,←Nat.add_assoc]at this
 ·simp[Out.run]at hs
end
end Go.Vm
namespace Go.Vm
theorem getSc_some{t:Ty}{p:PV}{x:t.den}:(getSc t p).run=some x↔p= .sc t x:=by
 unfold getSc
 split
 ·rename_i u y
  rw[castD_some]
  constructor
  ·rintro⟨h,rfl⟩;subst h;rfl
  ·intro h;cases h;exact⟨rfl,rfl⟩
 ·rename_i h
  simp only[Out.fail_some,false_iff]
  intro e;exact h _ _ e
section
variable {γ:Nat→G} {B:Nat→List Nat} {w:World} {lk lkS:Look} {O':Nat→Prop}
theorem Mem.toL(hM:Mem γ B w lk)(hS:Sub lkS lk): ∀(t:Ty) (ps:List PV) (cs:List Value) (x:t.den) (rest:List PV),(toL lkS t ps).run=some (x,rest)→LL γ (Dom lk) w (Owned B lk) ps cs→Free B lk O' (idsL ps)→
  ∃c1 c2 qs,cs=c1++c2∧DRel w O' false t x c1 []∧LL γ (Dom lk) w (Owned B lk) rest c2∧ps=qs++rest∧qs.length=t.nl
 | .pair a b,ps,cs,x,rest,ht,hl,hf=>by
  simp only[Vm.toL,Out.bind_some,Out.ret_some]at ht
  obtain⟨⟨x1,r1⟩,h1,⟨x2,r2⟩,h2,e⟩:=ht
  simp only[Prod.mk.injEq]at e
  obtain⟨rfl,rfl⟩:=e
  obtain⟨c1,c2,qs,e1,h3,h4,e2,e3⟩:=Mem.toL hM hS a ps cs x1 r1 h1 hl hf
  obtain⟨d1,d2,qs',e4,h5,h6,e5,e6⟩:=Mem.toL hM hS b r1 c2 x2 r2 h2 h4 (hf.less fun r hr=>by
   rw[e2]
   have: ∀(l l':List PV),idsL (l++l')=idsL l++idsL l':=fun l l'=>by induction l<;>simp_all [idsL]
   rw[this];simp[hr])
  exact⟨c1++d1,d2,qs++qs',by rw[e1,e4];simp,⟨c1,d1,[],[],rfl,rfl,h3,h5⟩,h6,by rw[e2,e5];simp,by simp[e3,e6,Ty.nl]⟩
 | .st t,ps,cs,x,rest,ht,hl,hf=>Mem.toL hM hS t ps cs x rest ht hl hf
 | .unit,ps,cs,x,rest,ht,hl,hf=>by
  simp only[Vm.toL,Out.ret_some,Prod.mk.injEq]at ht
  obtain⟨_,rfl⟩:=ht
  exact⟨[],cs,[],rfl,⟨rfl,rfl⟩,hl,rfl,rfl⟩
 | .sl t,p::ps,cs,x,rest,ht,⟨c,c',e,h1,h2,h3⟩,hf=>by
  simp only[Vm.toL,Out.bind_some,Out.ret_some,Prod.mk.injEq]at ht
  obtain⟨⟨u,xs⟩,hs,y,hc,rfl,rfl⟩:=ht
  obtain⟨e',rfl⟩:=castL_some.1 hc
  dsimp only at e'
  subst e'
  have: ∃v,c=[v]:=by
   unfold Vm.sliceOf at hs
   split at hs
   ·exact List.length_eq_one_iff.1 h1
   ·exact List.length_eq_one_iff.1 h1
   ·exact List.length_eq_one_iff.1 h1
   ·exact List.length_eq_one_iff.1 h1
   ·exact List.length_eq_one_iff.1 h1
   ·exact List.length_eq_one_iff.1 h1
   ·exact List.length_eq_one_iff.1 h1
   ·simp[Out.run]at hs
  obtain⟨v,rfl⟩:=this
  exact⟨[v],c',[p],e,⟨v,rfl,hM.sliceOf hS hs h2 (hf.less fun r hr=>by simp[idsL,hr]),rfl⟩,h3,rfl,rfl⟩
 | .int k,p::ps,cs,x,rest,ht,⟨c,c',e,h1,h2,h3⟩,hf=>by
  simp only[Vm.toL,Out.bind_some,Out.ret_some,Prod.mk.injEq]at ht
  obtain⟨y,hs,rfl,rfl⟩:=ht
  obtain rfl:=getSc_some.1 hs
  simp only[LRel]at h2
  exact⟨c,c',[.sc (.int k) y],e,h2.2.less hf.sub,h3,rfl,rfl⟩
 | .bool,p::ps,cs,x,rest,ht,⟨c,c',e,h1,h2,h3⟩,hf=>by
  simp only[Vm.toL,Out.bind_some,Out.ret_some,Prod.mk.injEq]at ht
  obtain⟨y,hs,rfl,rfl⟩:=ht
  obtain rfl:=getSc_some.1 hs
  simp only[LRel]at h2
  exact⟨c,c',[.sc .bool y],e,h2.2.less hf.sub,h3,rfl,rfl⟩
 | .str,p::ps,cs,x,rest,ht,⟨c,c',e,h1,h2,h3⟩,hf=>by
  simp only[Vm.toL,Out.bind_some,Out.ret_some,Prod.mk.injEq]at ht
  obtain⟨y,hs,rfl,rfl⟩:=ht
  obtain rfl:=getSc_some.1 hs
  simp only[LRel]at h2
  exact⟨c,c',[.sc .str y],e,h2.2.less hf.sub,h3,rfl,rfl⟩
 | .err,p::ps,cs,x,rest,ht,⟨c,c',e,h1,h2,h3⟩,hf=>by
  simp only[Vm.toL,Out.bind_some,Out.ret_some,Prod.mk.injEq]at ht
  obtain⟨y,hs,rfl,rfl⟩:=ht
  obtain rfl:=getSc_some.1 hs
  simp only[LRel]at h2
  exact⟨c,c',[.sc .err y],e,h2.2.less hf.sub,h3,rfl,rfl⟩
 | .arr n t,p::ps,cs,x,rest,ht,⟨c,c',e,h1,h2,h3⟩,hf=>by
  simp only[Vm.toL,Out.bind_some,Out.ret_some,Prod.mk.injEq]at ht
  obtain⟨y,hs,rfl,rfl⟩:=ht
  obtain rfl:=getSc_some.1 hs
  simp only[LRel]at h2
  exact⟨c,c',[.sc (.arr n t) y],e,h2.2.less hf.sub,h3,rfl,rfl⟩
 | .ref,_,_,_,_,ht,_,_=>by simp[Vm.toL,Out.run]at ht
 | .sl _,[],_,_,_,ht,_,_| .int _,[],_,_,_,ht,_,_| .bool,[],_,_,_,ht,_,_| .str,[],_,_,_,ht,_,_| .err,[],_,_,_,ht,_,_| .arr _ _,[],_,_,_,ht,_,_=>by simp[Vm.toL,Out.run]at ht
theorem idsL_append(l l':List PV):idsL (l++l')=idsL l++idsL l':=by induction l<;>simp_all [idsL]
theorem idsL_unpack(p:PV): ∀r,r∈idsL (unpack p)↔r∈ids p:=by
 intro r;cases p<;>simp[Vm.unpack,idsL,ids]
theorem Mem.toD(hM:Mem γ B w lk)(hS:Sub lkS lk){t:Ty}{p:PV}{v:Value}{x:t.den}(ht:(toD lkS t p).run=some x)(hv:VRel γ (Dom lk) w (Owned B lk) p v)(hf:Free B lk O' (ids p)):
  DRel w O' false t x v.cells.toList []∧isTop p=true:=by
 simp only[Vm.toD,Out.need_some,Out.bind_some]at ht
 obtain⟨hp,⟨y,rest⟩,h1,h2⟩:=ht
 split at h2
 ·simp only[Out.ret_some]at h2
  rename_i heq
  obtain⟨c1,c2,qs,e1,h3,h4,e2,e3⟩:=hM.toL hS t (Vm.unpack p) v.cells.toList y rest h1 (hv.unpack hp).1 (hf.less fun r hr=>(idsL_unpack p r).1 hr)
  dsimp only at heq h2
  subst heq h2
  rw[show c2=[]from h4,List.append_nil]at e1
  rw[e1];exact⟨h3,hp⟩
 ·simp[Out.run]at h2
theorem Mem.toL_own(hM:Mem γ B w lk)(hS:Sub lkS lk){O:Nat→Prop}: ∀(t:Ty) (ps:List PV) (cs:List Value) (x:t.den) (rest:List PV),(Vm.toL lkS t ps).run=some (x,rest)→LL γ (Dom lk) w (Owned B lk) ps cs→ownableL lkS ps=true→
  ∃c1 c2 qs,cs=c1++c2∧DRel w O true t x c1 ((idsL qs).flatMap B)∧LL γ (Dom lk) w (Owned B lk) rest c2∧ps=qs++rest
 | .pair a b,ps,cs,x,rest,ht,hl,hf=>by
  simp only[Vm.toL,Out.bind_some,Out.ret_some]at ht
  obtain⟨⟨x1,r1⟩,h1,⟨x2,r2⟩,h2,e⟩:=ht
  simp only[Prod.mk.injEq]at e
  obtain⟨rfl,rfl⟩:=e
  obtain⟨c1,c2,qs,e1,h3,h4,e2⟩:=Mem.toL_own hM hS a ps cs x1 r1 h1 hl hf
  have ho: ∀(l l':List PV),ownableL lkS (l++l')=(ownableL lkS l&&ownableL lkS l'):=fun l l'=>by induction l<;>simp_all [ownableL,Bool.and_assoc]
  obtain⟨d1,d2,qs',e4,h5,h6,e5⟩:=Mem.toL_own hM hS b r1 c2 x2 r2 h2 h4 (by rw[e2,ho,Bool.and_eq_true]at hf;exact hf.2)
  exact⟨c1++d1,d2,qs++qs',by rw[e1,e4];simp,⟨c1,d1,_,_,rfl,by rw[idsL_append,List.flatMap_append],h3,h5⟩,h6,by rw[e2,e5];simp⟩
 | .st t,ps,cs,x,rest,ht,hl,hf=>Mem.toL_own hM hS t ps cs x rest ht hl hf
 | .unit,ps,cs,x,rest,ht,hl,hf=>by
  simp only[Vm.toL,Out.ret_some,Prod.mk.injEq]at ht
  obtain⟨_,rfl⟩:=ht
  exact⟨[],cs,[],rfl,⟨rfl,rfl⟩,hl,rfl⟩
 | .sl t,p::ps,cs,x,rest,ht,⟨c,c',e,h1,h2,h3⟩,hf=>by
  simp only[Vm.toL,Out.bind_some,Out.ret_some,Prod.mk.injEq]at ht
  obtain⟨⟨u,xs⟩,hs,y,hc,rfl,rfl⟩:=ht
  obtain⟨e',rfl⟩:=castL_some.1 hc
  dsimp only at e'
  subst e'
  simp only[ownableL,Bool.and_eq_true]at hf
  refine⟨c,c',[p],e,?_,h3,rfl⟩
  have hf1:=hf.1
  cases p<;>simp only[ownable,Bool.false_eq_true]at hf1
  ·rename_i t' x'
   cases t'<;>simp only[Vm.sliceOf,Out.run,reduceCtorEq]at hs
   simp[Ty.flat]at hf1
  ·rename_i t'
   simp only[Vm.sliceOf,Out.ret_some,Sigma.mk.injEq]at hs
   obtain⟨rfl,hs⟩:=hs
   obtain rfl:=eq_of_heq hs
   simp only[LRel]at h2
   subst h2
   exact⟨_,rfl,.inl ⟨_,rfl,rfl,by simp[idsL,ids]⟩⟩
  ·rename_i r
   split at hf1
   ·rename_i t' ys m hx
    simp only[Vm.sliceOf,rowL,hx,Out.ret_some,Sigma.mk.injEq]at hs
    obtain⟨rfl,hs⟩:=hs
    obtain rfl:=eq_of_heq hs
    simp only[LRel]at h2
    obtain⟨_,v,t,e1,rfl,_⟩:=h2
    obtain⟨v',e2,h|h⟩:=(hM.rel r _ (hS _ _ hx)).row
    ·rw[e1]at e2
     cases e2
     refine⟨v,rfl,?_⟩
     have:=h.2
     rw[RowR.deep hf1]at this
     simp only[idsL,ids,List.flatMap_cons,List.flatMap_nil,List.append_nil]
     exact this.step (fun _ _=>rfl) (Nat.le_refl _) (fun x c b _ _ h=>DRel.own (Nat.le_refl _) _ x c b (fun _ _=>rfl) h)
    ·rw[h.1]at hf1;simp[Own.deep]at hf1
   ·cases hf1
  ·simp only[LRel]at h2
 | .int k,p::ps,cs,x,rest,ht,⟨c,c',e,h1,h2,h3⟩,hf=>by
  simp only[Vm.toL,Out.bind_some,Out.ret_some,Prod.mk.injEq]at ht
  obtain⟨y,hs,rfl,rfl⟩:=ht
  obtain rfl:=getSc_some.1 hs
  simp only[LRel]at h2
  exact⟨c,c',[.sc (.int k) y],e,by simpa[idsL,ids]using(DRel.flat (.int k) y c [] rfl h2.2).2,h3,rfl⟩
 | .bool,p::ps,cs,x,rest,ht,⟨c,c',e,h1,h2,h3⟩,hf=>by
  simp only[Vm.toL,Out.bind_some,Out.ret_some,Prod.mk.injEq]at ht
  obtain⟨y,hs,rfl,rfl⟩:=ht
  obtain rfl:=getSc_some.1 hs
  simp only[LRel]at h2
  exact⟨c,c',[.sc .bool y],e,by simpa[idsL,ids]using(DRel.flat .bool y c [] rfl h2.2).2,h3,rfl⟩
 | .str,p::ps,cs,x,rest,ht,⟨c,c',e,h1,h2,h3⟩,hf=>by
  simp only[Vm.toL,Out.bind_some,Out.ret_some,Prod.mk.injEq]at ht
  obtain⟨y,hs,rfl,rfl⟩:=ht
  obtain rfl:=getSc_some.1 hs
  simp only[LRel]at h2
  exact⟨c,c',[.sc .str y],e,by simpa[idsL,ids]using(DRel.flat .str y c [] rfl h2.2).2,h3,rfl⟩
 | .err,p::ps,cs,x,rest,ht,⟨c,c',e,h1,h2,h3⟩,hf=>by
  simp only[Vm.toL,Out.bind_some,Out.ret_some,Prod.mk.injEq]at ht
  obtain⟨y,hs,rfl,rfl⟩:=ht
  obtain rfl:=getSc_some.1 hs
  simp only[LRel]at h2
  exact⟨c,c',[.sc .err y],e,by simpa[idsL,ids]using(DRel.flat .err y c [] rfl h2.2).2,h3,rfl⟩
 | .arr n t,p::ps,cs,x,rest,ht,⟨c,c',e,h1,h2,h3⟩,hf=>by
  simp only[Vm.toL,Out.bind_some,Out.ret_some,Prod.mk.injEq]at ht
  obtain⟨y,hs,rfl,rfl⟩:=ht
  obtain rfl:=getSc_some.1 hs
  simp only[ownableL,ownable,Bool.and_eq_true]at hf
  simp only[LRel]at h2
  exact⟨c,c',[.sc (.arr n t) y],e,by simpa[idsL,ids]using(DRel.flat (.arr n t) y c [] hf.1 h2.2).2,h3,rfl⟩
 | .ref,_,_,_,_,ht,_,_=>by simp[Vm.toL,Out.run]at ht
 | .sl _,[],_,_,_,ht,_,_| .int _,[],_,_,_,ht,_,_| .bool,[],_,_,_,ht,_,_| .str,[],_,_,_,ht,_,_| .err,[],_,_,_,ht,_,_| .arr _ _,[],_,_,_,ht,_,_=>by simp[Vm.toL,Out.run]at ht
end
end Go.Vm
