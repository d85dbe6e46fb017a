/- What an operation that leaves the world alone comes to (vop), and that it does (vop_ok). -/
import Derived.LaidEqlPtr
import Derived.Lib.Builder
import Derived.Test.YtfengpdaocgcnaaGreatDoorQ01
import Derived.Laws.StructEq
import Derived.Laws.Concat
import Derived.Laws.Cover1
import Derived.Laws.IdiomStrings
import Derived.Laws.Pointers
namespace Go.Proofs.YtfengpdaocgcnaaGreatDoor
open Go.RowKit
abbrev R:=Option (V×List Prop)
def R.add (p:Prop):R→R
 |some (v,l)=>some (v,p::l)
 |none=>none
def u1 (x:Option V) (f:V→R):R:=
 match x with
 |some (.gd h v)=>(f v).add (h=true)
 |some v=>f v
 |none=>none
theorem seal_eq (F:Type):((True∧True)→F)=(True→F):=congrArg (fun r:Prop=>r→F) (propext ⟨fun _=>trivial,fun _=>⟨trivial,trivial⟩⟩)
def sealed (F:Type) (x:F):F:=cast (seal_eq F) (fun _=>x) trivial
theorem cast_seal {F:Type} {p q:Prop} (h:p=q) (x:F) (e:(p→F)=(q→F)) (hq:q):cast e (fun _=>x) hq=x:=by subst h;rfl
theorem sealed_id (F:Type) (x:F):sealed F x=x:=cast_seal (propext ⟨fun _=>trivial,fun _=>⟨trivial,trivial⟩⟩) x (seal_eq F) trivial
def wr:IntKind→Int→Int:=sealed _ fun k n=>k.wrap n
def bt:BinOp→IntKind→Int→Int→Int:=sealed _ fun o k a b=>bits o k a b
theorem wr_eq (k:IntKind) (n:Int):wr k n=k.wrap n:=by unfold wr;rw[sealed_id]
theorem bt_eq (o:BinOp) (k:IntKind) (a b:Int):bt o k a b=bits o k a b:=by unfold bt;rw[sealed_id]
def cutL:List UInt8→Nat→Nat→List UInt8:=sealed _ fun l a n=>(l.drop a).take n
theorem cutL_eq (l:List UInt8) (a n:Nat):cutL l a n=(l.drop a).take n:=by unfold cutL;rw[sealed_id]
theorem wrap_u8 (n:Int):wr .u8 n=n%256:=by rw[wr_eq,IntKind.wrap_u8]
theorem shr_eq (a:Int) (k:Nat):a.fdiv (2^k)=a/2^k:=Int.fdiv_eq_ediv_of_nonneg a (Int.le_of_lt (Int.pow_pos (by decide)))
theorem wrap_byteAt (l:List UInt8) (i:Nat):wr .i64 (byteAt l i)=byteAt l i:=by
 have h0:=byteAt_lo l i
 have h1:=byteAt_hi l i
 rw[wr_eq,IntKind.wrap_i64];omega
structure I64 (n:Int):Prop where
 lo: -9223372036854775808≤n
 hi:n≤9223372036854775807
theorem I64_iff {n:Int}:I64 n↔ -9223372036854775808≤n∧n≤9223372036854775807:=⟨fun h=>⟨h.1,h.2⟩,fun h=>⟨h.1,h.2⟩⟩
def vbool:V→Option Bool
 | .bb b=>some b
 | .val (.bool b)=>some b
 |_=>none
def vpick1 (b:Bool) (x y:V) (l:List Prop):R:=
 match vbool x,vbool y with
 |some p,some q=>some (.bb (bif b then p else q),l)
 |some p,none=>some (.bb p,(b=true)::l)
 |none,some q=>some (.bb q,(b=false)::l)
 |none,none=>none
def vpick (c:V) (x y:Option V):R:=
 match vbool c,x,y with
 |some b,some (.gd h x),some (.gd k y)=>vpick1 b x y [b=true→h=true,b=false→k=true]
 |some b,some (.gd h x),some y=>vpick1 b x y [b=true→h=true]
 |some b,some x,some (.gd k y)=>vpick1 b x y [b=false→k=true]
 |some b,some x,some y=>vpick1 b x y []
 |_,_,_=>none
def vnum (k:IntKind) (n:Int) (l:List Prop):R:=
 match k with
 | .i64=>some (.i n,I64 n::l)
 |k=>some (.val (.int k (wr k n)),l)
def vint2 (op:BinOp) (k:IntKind) (a b:Int):R:=
 match op with
 | .add=>vnum k (a+b) []
 | .sub=>vnum k (a-b) []
 | .mul=>vnum k (a*b) []
 | .quo=>vnum k (a/b) [0≤a,0<b]
 | .rem=>some (.val (.int k (a%b)),[0≤a,0<b])
 | .and=>some (.val (.int k (bt .and k a b)),[])
 | .or=>some (.val (.int k (bt .or k a b)),[])
 | .xor=>some (.val (.int k (bt .xor k a b)),[])
 | .andNot=>some (.val (.int k (bt .andNot k a b)),[])
 | .eql=>some (.bb (a==b),[])
 | .neq=>some (.bb (!(a==b)),[])
 | .lss=>some (.bb (decide (a<b)),[])
 | .leq=>some (.bb (decide (a≤b)),[])
 | .gtr=>some (.bb (decide (b<a)),[])
 | .geq=>some (.bb (decide (b≤a)),[])
 |_=>none
def vstr2 (op:BinOp) (a b:List UInt8):R:=
 match op with
 | .add=>some (.str (a++b),[(a.length:Int)+b.length≤9223372036854775807])
 | .eql=>some (.bb (a==b),[])
 | .neq=>some (.bb (!(a==b)),[])
 | .lss=>some (.bb (Op.bytesLess a b),[])
 | .leq=>some (.bb (Op.bytesLess a b||a==b),[])
 | .gtr=>some (.bb (!(Op.bytesLess a b||a==b)),[])
 | .geq=>some (.bb (!(Op.bytesLess a b)),[])
 |_=>none
def vbool2 (op:BinOp) (a b:Bool):R:=
 match op with
 | .eql=>some (.bb (a==b),[])
 | .neq=>some (.bb (!(a==b)),[])
 |_=>none
def eqC (P:Program) (t:TypeId) (x y:V):Option Bool:=
 match x,y with
 | .val (.int k a), .val (.int k' b)=>match P.underlying t with
  |some (.int q)=>if q=k∧k=k' then some (decide (a=b)) else none
  |_=>none
 | .str a, .str b=>match P.underlying t with
  |some .string=>some (decide (a=b))
  |_=>none
 | .bb a, .bb b=>match P.underlying t with
  |some .bool=>some (decide (a=b))
  |_=>none
 |_,_=>none
def vstEq (P:Program):Nat→List Field→List V→List V→Option Bool
 |_,[],[],[]=>some true
 |i,f::fs,x::xs,y::ys=>if f.name≠ "_" ∧f.offset=i then match eqC P f.type x y with
  |some q=>(vstEq P (i+1) fs xs ys).map fun r=>q&&r
  |none=>none
  else none
 |_,_,_,_=>none
def vslN (P:Program) (op:BinOp) (t:TypeId) (n:Nat):R:=
 match op,P.underlying t with
 | .eql,some (.slice _)=>some (.bb false,[0<n])
 | .neq,some (.slice _)=>some (.bb true,[0<n])
 |_,_=>none
def vptr (P:Program) (op:BinOp) (t:TypeId) (b:Bool):R:=
 match op,P.underlying t with
 | .eql,some (.pointer _)=>some (.bb b,[])
 | .neq,some (.pointer _)=>some (.bb (!b),[])
 |_,_=>none
def vptrS (P:Program) (op:BinOp) (t:TypeId):R:=
 match op,P.underlying t with
 | .eql,some (.pointer e)=>some (.bb true,[(P.info? e).isSome=true])
 | .neq,some (.pointer e)=>some (.bb false,[(P.info? e).isSome=true])
 |_,_=>none
def vbin (P:Program) (op:BinOp) (t:TypeId) (x y:V):R:=
 match x,y with
 | .val (.int k a), .val (.int k' b)=>
  match op with
  | .shl=>some (.val (.int k (wr k (a*2^(min b.toNat k.bits)))),[0≤b])
  | .shr=>some (.val (.int k (a.fdiv (2^(min b.toNat k.bits)))),[0≤b])
  |op=>if k=k' then vint2 op k a b else none
 | .str a, .str b=>vstr2 op a b
 | .bb a, .bb b=>match P.underlying t with
  |some .bool=>vbool2 op a b
  |_=>none
 | .val (.map r), .val (.map none)=>match op,P.underlying t with
  | .eql,some (.map _ _)=>some (.bb r.isNone,[])
  | .neq,some (.map _ _)=>some (.bb (!r.isNone),[])
  |_,_=>none
 | .st xs, .st ys=>match op,P.underlying t with
  | .eql,some (.struct fs)=>match vstEq P 0 fs.toList xs ys with
   |some b=>some (.bb b,[P.stoodInHeld t=false,P.eqGuardType P.depth t=false])
   |none=>none
  | .neq,some (.struct fs)=>match vstEq P 0 fs.toList xs ys with
   |some b=>some (.bb (!b),[P.stoodInHeld t=false,P.eqGuardType P.depth t=false])
   |none=>none
  |_,_=>none
 | .pe _ _ _, .val (.pointer none)=>vptr P op t false
 | .op _ _, .val (.pointer none)=>vptr P op t false
 | .op k i, .op k' j=>if k=k'∧i=j then vptrS P op t else none
 | .val (.pointer none), .val (.pointer none)=>vptr P op t true
 | .by l, .val (.slice none _ _)=>vslN P op t l.length
 | .sq _ _ l, .val (.slice none _ _)=>vslN P op t l.length
 |_,_=>none
def vnn (op:BinOp) (b:Bool):R:=
 match op with
 | .eql=>some (.bb b,[])
 | .neq=>some (.bb (!b),[])
 |_=>none
def isNilC:Operand→Bool
 | .const .nilIface=>true
 |_=>false
def isIf (P:Program) (t:TypeId):Bool:=
 match P.underlying t with
 |some (.interface _)=>true
 |_=>false
def vbinN (P:Program) (op:BinOp) (t:TypeId) (y:Operand) (vx vy:V):R:=
 match vx with
 | .nn=>if isNilC y=true∧isIf P t=true then vnn op false else none
 | .ifc _ _=>if isNilC y=true∧isIf P t=true then vnn op false else none
 | .val .nilIface=>if isNilC y=true∧isIf P t=true then vnn op true else none
 |vx=>vbin P op t vx vy
def vmkI (P:Program) (t:TypeId) (v:V):R:=
 match P.underlying t with
 |none=>none
 |some (.interface _)=>none
 |some _=>match v with
  | .val x=>some (.val (.iface t x),[])
  |v=>some (.ifc t v,[])
def vun (op:UnOp) (x:V):R:=
 match op,x with
 | .not, .bb b=>some (.bb (!b),[])
 | .not, .val (.bool b)=>some (.bb (!b),[])
 | .neg, .val (.int .i64 n)=>some (.i (-n),[I64 (-n)])
 | .neg, .val (.int .u64 n)=>some (.val (.int .u64 (wr .u64 (-n))),[])
 | .xor, .val (.int .u32 n)=>some (.val (.int .u32 (bt .xor .u32 4294967295 n)),[])
 |_,_=>none
def vconv (P:Program) (src dst:TypeId) (x:V):R:=
 match P.underlying src,P.underlying dst,x with
 |some (.int _),some (.int k), .val (.int _ n)=>some (.val (.int k (wr k n)),[])
 |some .string,some .string, .str l=>some (.str l,[])
 |some (.slice e),some .string, .by l=>match P.underlying e with
  |some (.int .u8)=>some (.str l,[])
  |_=>none
 |_,_,_=>none
def vnil:V→R
 | .pe s i j=>some (.pe s i j,[])
 | .op k j=>some (.op k j,[])
 | .rp k sz i j=>some (.rp k sz i j,[])
 |_=>none
def vfieldAddr (P:Program) (s:TypeId) (f:Nat) (x:V):R:=
 match P.underlying s,x with
 |some (.struct fs), .pe v i j=>match fs[f]? with
  |some fd=>if 0<P.cellsOf fd.type then some (.pe v i (j+fd.offset),[]) else none
  |none=>none
 |some (.struct fs), .op k j=>match fs[f]? with
  |some fd=>if 0<P.cellsOf fd.type then some (.op k (j+fd.offset),[]) else none
  |none=>none
 |some (.struct fs), .rp k sz i j=>match fs[f]? with
  |some fd=>if 0<P.cellsOf fd.type then some (.rp k sz i (j+fd.offset),[]) else none
  |none=>none
 |_,_=>none
def Hpk (h:List (Nat×Ob)):Nm→Option (List Prop×Ob)
 | .r k=>match Hroot h k with
  |some o=>some ([],o)
  |none=>none
 | .c k i j=>match Hroot h k with
  |some (.row _ s)=>match s.elems with
   |some (sz,n,c)=>if j<sz then match (c i).cell j with
    | .own ty s' _=>some ([i<n], .row ty s')
    |_=>none
    else none
   |none=>none
  |_=>none
def vconvO (P:Program) (h:List (Nat×Ob)) (src dst:TypeId) (m:Nm):R:=
 match P.underlying src,P.underlying dst,Hpk h m with
 |some (.slice e),some .string,some (l, .row _ (.by b))=>match P.underlying e with
  |some (.int .u8)=>some (.str b,l)
  |_=>none
 |_,_,_=>none
def vconvH (P:Program) (h:List (Nat×Ob)) (src dst:TypeId):V→R
 | .ro m=>vconvO P h src dst m
 |x=>vconv P src dst x
def vindexAddr (P:Program) (h:List (Nat×Ob)) (t:TypeId) (x i:V):R:=
 match P.underlying t,i with
 |some (.slice el), .val (.int _ q)=>match x with
  | .ro m=>match Hpk h m with
   |some (l, .row _ s)=>match s.elems with
    |some (sz,n,_)=>if P.cellsOf el=sz then some (.rp m sz q.toNat 0,(0≤q)::(q<n)::l) else none
    |none=>none
   |_=>none
  | .vw m sz a n=>if P.cellsOf el=sz∧0<sz then some (.rp m sz (a+q.toNat) 0,[0≤q,q<n]) else none
  | .val (.slice none _ _)=>if P.cellsOf el=1 then some (.pe (.by []) q.toNat 0,[False]) else none
  |x=>match x.elems with
   |some (sz,n,_)=>if P.cellsOf el=sz then some (.pe x q.toNat 0,[0≤q,q<n]) else none
   |none=>none
 |some (.array n el), .val (.int _ q)=>match x with
  | .op k 0=>if P.cellsOf el=1 then some (.op k q.toNat,[0≤q,q<n]) else none
  |_=>none
 |_,_=>none
def aggD:TypeDesc→Option Bool
 | .struct _=>some true
 | .array _ _=>some true
 |_=>some false
def vload (P:Program) (h:List (Nat×Ob)) (t:TypeId) (x:V):R:=
 match (P.underlying t).bind aggD,x with
 |some true, .pe s i 0=>match s.elems with
  |some (sz,_,c)=>if P.cellsOf t=sz then (match c i with
    | .st l=>if l.length=sz then some (.st l,[]) else none
    |_=>none) else none
  |none=>none
 |some false, .pe s i j=>match s.elems with
  |some (sz,_,c)=>if j<sz then some ((c i).cell j,[]) else none
  |none=>none
 |some true, .op k 0=>match Hroot h k with
  |some (.box _ (.st l))=>if l.length=P.cellsOf t∧0<P.cellsOf t then some (.st l,[]) else none
  |_=>none
 |some false, .op k j=>match Hroot h k with
  |some (.box _ v)=>if j<v.csize then some (v.cell j,[]) else none
  |_=>none
 |some true, .rp m sz i 0=>match Hpk h m with
  |some (l0, .row _ s)=>match s.elems with
   |some (sz',n,c)=>if sz=sz'∧P.cellsOf t=sz then (match c i with
    | .st l=>if l.length=sz then some (.st ((List.range sz).map fun j=>refV m i j (l.getD j .any)),(i<n)::l0) else none
    |_=>none) else none
   |none=>none
  |_=>none
 |some false, .rp m sz i j=>match Hpk h m with
  |some (l0, .row _ s)=>match s.elems with
   |some (sz',n,c)=>if sz=sz'∧j<sz then some (refV m i j ((c i).cell j),(i<n)::l0) else none
   |none=>none
  |_=>none
 |_,_=>none
def bnd (lo hi:Option V) (n N:Nat):Option (Nat×Nat×List Prop):=
 match lo,hi with
 |some (.val (.int _ a)),some (.val (.int _ b))=>some (a.toNat,b.toNat,[0≤a,a≤b,b≤N])
 |none,some (.val (.int _ b))=>some (0,b.toNat,[0≤b,b≤N])
 |some (.val (.int _ a)),none=>some (a.toNat,n,[0≤a,a≤n])
 |none,none=>some (0,n,[])
 |_,_=>none
def vslice3 (P:Program) (t:TypeId) (x hi mx:V):R:=
 match P.underlying t with
 |some (.slice el)=>match x.elems with
  |some (sz,n,_)=>if P.cellsOf el=sz then match hi,mx with
    | .val (.int _ y), .val (.int _ z)=>match x.cut 0 y.toNat with
     |some r=>some (r,[0≤y,y≤z,z≤n])
     |none=>none
    |_,_=>none
   else none
  |none=>none
 |_=>none
def vslice (P:Program) (h:List (Nat×Ob)) (t:TypeId) (x:V) (lo hi:Option V):R:=
 match P.underlying t with
 |some (.slice el)=>match x with
  | .ro m=>match Hpk h m with
   |some (l, .row _ s)=>match s.elems with
    |some (sz,n,_)=>if P.cellsOf el=sz then match bnd lo hi n n with
      |some (a,b,l2)=>some (.vw m sz a (b-a),l++l2)
      |none=>none
     else none
    |none=>none
   |_=>none
  | .vw m sz a n=>match Hpk h m with
   |some (l, .row _ s)=>match s.elems with
    |some (sz',N,_)=>if P.cellsOf el=sz∧sz'=sz then match bnd lo hi n (N-a) with
      |some (p,q,l2)=>some (.vw m sz (a+p) (q-p),l++(a+n≤N)::l2)
      |none=>none
     else none
    |none=>none
   |_=>none
  |x=>match x.elems with
   |some (sz,n,_)=>if P.cellsOf el=sz then match bnd lo hi n n with
     |some (a,b,l2)=>match x.cut a b with
      |some r=>some (r,l2)
      |none=>none
     |none=>none
    else none
   |none=>none
 |some .string=>match x with
  | .str l=>match bnd lo hi l.length l.length with
   |some (a,b,l2)=>some (.str (cutL l a (b-a)),l2)
   |none=>none
  |_=>none
 |_=>none
def vlen (P:Program) (h:List (Nat×Ob)) (t:TypeId) (x:V):R:=
 match P.underlying t with
 |some (.slice _)=>match x with
  | .ro m=>match Hpk h m with
   |some (l, .row _ s)=>match s.elems with
    |some (_,n,_)=>some (.i n,l)
    |none=>none
   |_=>none
  | .vw _ _ _ n=>some (.i n,[])
  | .val (.slice _ n _)=>some (.i n,[])
  |x=>match x.elems with
   |some (_,n,_)=>some (.i n,[])
   |none=>none
 |some .string=>match x with
  | .str l=>some (.i l.length,[])
  |_=>none
 |_=>none
def vindex (P:Program) (t:TypeId) (x i:V):R:=
 match P.underlying t,x,i with
 |some .string, .str l, .val (.int _ q)=>some (.val (.int .u8 (byteAt l q.toNat)),[0≤q,q<l.length])
 |some (.array n el), .st l, .val (.int _ q)=>if (P.underlying el).bind aggD=some false∧P.cellsOf el=1∧l.length=n then some (l.getD q.toNat .any,[0≤q,q<n]) else none
 |_,_,_=>none
def vextract (k:Nat) (x:V):R:=
 match x with
 | .tu l=>if k<l.length then some (l.getD k .any,[]) else none
 |_=>none
def vfield (P:Program) (s:TypeId) (f:Nat) (x:V):R:=
 match P.underlying s,x with
 |some (.struct fs), .st l=>match fs[f]? with
  |some fd=>match (P.underlying fd.type).bind aggD with
   |some true=>if 0<P.cellsOf fd.type∧fd.offset+P.cellsOf fd.type≤l.length then some (.st ((l.drop fd.offset).take (P.cellsOf fd.type)),[]) else none
   |some false=>if P.cellsOf fd.type=1∧fd.offset<l.length then some (l.getD fd.offset .any,[]) else none
   |none=>none
  |none=>none
 |_,_=>none
def uopt (gl:Gl) (e:En) (x:Option Operand) (f:Option V→R):R:=
 match x with
 |none=>f none
 |some x=>u1 (e.ev gl x) fun v=>f (some v)
def imin (a b:Int):Int:=if b<a then b else a
theorem imin_eq (a b:Int):imin a b=min a b:=by unfold imin;split<;>omega
def vmin (x y:V):R:=
 match x,y with
 | .val (.int k a), .val (.int k' b)=>if k'=k then some (.val (.int k (imin a b)),[]) else none
 |_,_=>none
def imax (a b:Int):Int:=if a<b then b else a
def vmax (x y:V):R:=
 match x,y with
 | .val (.int k a), .val (.int k' b)=>if k'=k then some (.val (.int k (imax a b)),[]) else none
 |_,_=>none
def vlook (P:Program) (gl:Gl) (t:TypeId) (m k:V):R:=
 match m,k with
 | .val m, .str s=>match gl.lk t m s with
  |some z=>some (.i z,[gl.P=some P])
  |none=>none
 |_,_=>none
def vop (P:Program) (gl:Gl) (e:En) (h:List (Nat×Ob)):Op→R
 | .move x=>u1 (e.ev gl x) fun v=>some (v,[])
 | .assign x=>u1 (e.ev gl x) fun v=>some (v,[])
 | .nilCheck x=>u1 (e.ev gl x) vnil
 | .pick c x y=>u1 (e.ev gl c) fun c=>vpick c (e.ev gl x) (e.ev gl y)
 | .binOp op t x y _=>u1 (e.ev gl x) fun vx=>u1 (e.ev gl y) fun vy=>vbinN P op t y vx vy
 | .unOp op _ x=>u1 (e.ev gl x) (vun op)
 | .convert src dst x=>u1 (e.ev gl x) (vconvH P h src dst)
 | .fieldAddr s x f=>u1 (e.ev gl x) (vfieldAddr P s f)
 | .field s x f=>u1 (e.ev gl x) (vfield P s f)
 | .indexAddr t x i=>u1 (e.ev gl x) fun x=>u1 (e.ev gl i) fun i=>vindexAddr P h t x i
 | .index t x i=>u1 (e.ev gl x) fun x=>u1 (e.ev gl i) fun i=>vindex P t x i
 | .load t x=>u1 (e.ev gl x) (vload P h t)
 | .slice t x lo hi none=>u1 (e.ev gl x) fun x=>uopt gl e lo fun lo=>uopt gl e hi fun hi=>vslice P h t x lo hi
 | .slice t x none (some hi) (some mx)=>u1 (e.ev gl x) fun x=>u1 (e.ev gl hi) fun hi=>u1 (e.ev gl mx) fun mx=>vslice3 P t x hi mx
 | .extract x k=>u1 (e.ev gl x) (vextract k)
 | .makeInterface t x=>u1 (e.ev gl x) (vmkI P t)
 | .lookup t m k false=>u1 (e.ev gl m) fun m=>u1 (e.ev gl k) fun k=>vlook P gl t m k
 | .call c=>match c.callee with
  | .builtin .len=>match c.args.toList with
   |[x]=>match c.argTypes.toList with
    |[t]=>u1 (e.ev gl x) (vlen P h t)
    |_=>none
   |_=>none
  | .builtin .min=>match c.args.toList with
   |[x,y]=>u1 (e.ev gl x) fun x=>u1 (e.ev gl y) fun y=>vmin x y
   |_=>none
  | .builtin .max=>match c.args.toList with
   |[x,y]=>u1 (e.ev gl x) fun x=>u1 (e.ev gl y) fun y=>vmax x y
   |_=>none
  |_=>none
 |_=>none
def ldOk (P:Program) (rw:Bool) (js:List Nat) (t:TypeId):V→Bool
 | .op _ j=>match (P.underlying t).bind aggD with
  |some true=>(List.range (P.cellsOf t)).all fun i=> !js.contains i
  |_=> !js.contains j
 | .rp _ _ _ _=>rw
 |_=>true
def cvOk (rw:Bool):V→Bool
 | .ro _=>rw
 |_=>true
def ldq (P:Program) (gl:Gl) (rw:Bool) (js:List Nat) (e:En):Op→Bool
 | .load t x=>match e.ev gl x with
  |some (.gd _ v)=>ldOk P rw js t v
  |some v=>ldOk P rw js t v
  |none=>false
 | .convert _ _ x=>match e.ev gl x with
  |some (.gd _ v)=>cvOk rw v
  |some v=>cvOk rw v
  |none=>false
 |_=>true
theorem ldOk_all (P:Program) (t:TypeId) (v:V):ldOk P true [] t v=true:=by
 unfold ldOk
 split
 ·split<;>simp
 ·rfl
 ·rfl
section
variable {P:Program} {w:World} {F:Cx}
def AllP (l:List Prop):Prop:= ∀p,p∈l→p
theorem allP_app {l m:List Prop} (h:AllP (l++m)):AllP l∧AllP m:=⟨fun p hp=>h p (List.mem_append_left _ hp),fun p hp=>h p (List.mem_append_right _ hp)⟩
theorem allP_tail {p:Prop} {l:List Prop} (h:AllP (p::l)):AllP l:=fun q hq=>h q (List.mem_cons_of_mem _ hq)
theorem allP_head {p:Prop} {l:List Prop} (h:AllP (p::l)):p:=h p (List.mem_cons_self ..)
theorem Hpk_ok {h:List (Nat×Ob)} {m:Nm} {l:List Prop} {ob:Ob} (hp:Hpk h m=some (l,ob)) (hl:AllP l):Hget h m=some ob:=by
 cases m with
 |r k=>
  simp only[Hpk] at hp
  split at hp
  ·rename_i o ho
   obtain⟨rfl,rfl⟩:l=[]∧o=ob:=by simpa [eq_comm] using hp
   exact ho
  ·cases hp
 |c k i j=>
  simp only[Hpk] at hp
  split at hp
  ·rename_i ty s hr
   split at hp
   ·rename_i sz n c he
    split at hp
    ·rename_i hj
     split at hp
     ·rename_i ty' s' q hc
      obtain⟨rfl,rfl⟩:l=[i<n]∧ob= .row ty' s':=by simpa [eq_comm] using hp
      have hi:i<n:=allP_head hl
      simp only[Hget,hr,Hchild,he,hc,if_pos (And.intro hi hj)]
     ·cases hp
    ·cases hp
   ·cases hp
  ·cases hp
theorem u1_ok {o:Option V} {f:V→R} {r:V} {l:List Prop} {x:Value} (h:u1 o f=some (r,l)) (hl:AllP l) (hx: ∀v,o=some v→Rep w F v x):
  ∃v l',f v=some (r,l')∧AllP l'∧Rep w F v x:=by
 unfold u1 at h
 split at h
 ·rename_i g v
  cases hf:f v with
  |none=>rw[hf] at h;simp[R.add] at h
  |some q=>
   obtain⟨r',l'⟩:=q
   rw[hf] at h
   simp only[R.add,Option.some.injEq,Prod.mk.injEq] at h
   obtain⟨rfl,rfl⟩:=h
   have hg:g=true:=hl _ (List.mem_cons_self ..)
   have:=hx _ rfl
   cases this with
   |gd _ _ _ h _=>exact⟨v,l',hf,fun p hp=>hl p (List.mem_cons_of_mem _ hp),h hg⟩
   |sl _ _ _ _ _ _ _ _ _ he=>simp[V.elems] at he
 ·rename_i v _
  exact⟨v,l,h,hl,hx _ rfl⟩
 ·exact absurd h (by simp)
theorem some_pair {α β:Type} {a c:α} {b d:β} (h:some (a,b)=some (c,d)):a=c∧b=d:=by simpa using h
theorem vnum_ok {k:IntKind} {n:Int} {l l':List Prop} {r:V} (h:vnum k n l=some (r,l')) (hl:AllP l'):r= .val (.int k (k.wrap n))∧AllP l:=by
 cases k<;>simp only[vnum,Option.some.injEq,Prod.mk.injEq] at h<;>obtain⟨rfl,rfl⟩:=h
 case i64=>
  have h1:I64 n:=hl _ (List.mem_cons_self ..)
  refine⟨?_,fun p hp=>hl p (List.mem_cons_of_mem _ hp)⟩
  rw[V.i,IntKind.wrap_i64];obtain⟨h1,h2⟩:=h1
  congr 2;omega
 all_goals exact⟨by rw[wr_eq],hl⟩
theorem vint2_ok {op:BinOp} {k:IntKind} {a b:Int} {r:V} {l:List Prop} (t:TypeId) (h:vint2 op k a b=some (r,l)) (hl:AllP l):
  ∃y,Rep w F r y∧ ∀w',(binOp op t (.int k a) (.int k b)).run P w'= .ok y w':=by
 cases op
 case add=>obtain⟨rfl,_⟩:=vnum_ok h hl;exact⟨_, .val _,fun w'=>by simp[binOp,Op.intArith]⟩
 case sub=>obtain⟨rfl,_⟩:=vnum_ok h hl;exact⟨_, .val _,fun w'=>by simp[binOp,Op.intArith]⟩
 case mul=>obtain⟨rfl,_⟩:=vnum_ok h hl;exact⟨_, .val _,fun w'=>by simp[binOp,Op.intArith]⟩
 case quo=>
  obtain⟨rfl,h1⟩:=vnum_ok h hl
  have ha:0≤a:=h1 _ (by simp)
  have hb:0<b:=h1 _ (by simp)
  have hn: ¬b=0:=by omega
  exact⟨_, .val _,fun w'=>by simp[binOp,Op.intDiv,hn,Int.tdiv_eq_ediv_of_nonneg ha]⟩
 case rem=>
  obtain⟨rfl,rfl⟩:=some_pair h
  have ha:0≤a:=hl _ (by simp)
  have hb:0<b:=hl _ (by simp)
  have hn: ¬b=0:=by omega
  exact⟨_, .val _,fun w'=>by simp[binOp,Op.intDiv,hn,Int.tmod_eq_emod_of_nonneg ha]⟩
 case and=>obtain⟨rfl,rfl⟩:=some_pair h;exact⟨_, .val _,fun w'=>by simp[binOp,intBits_and,bt_eq]⟩
 case or=>obtain⟨rfl,rfl⟩:=some_pair h;exact⟨_, .val _,fun w'=>by simp[binOp,intBits_or,bt_eq]⟩
 case xor=>obtain⟨rfl,rfl⟩:=some_pair h;exact⟨_, .val _,fun w'=>by simp[binOp,intBits_xor,bt_eq]⟩
 case andNot=>obtain⟨rfl,rfl⟩:=some_pair h;exact⟨_, .val _,fun w'=>by simp[binOp,intBits_andNot,bt_eq]⟩
 case eql=>obtain⟨rfl,rfl⟩:=some_pair h;exact⟨_, .bb _,fun w'=>by simp[binOp,Op.intCmp]⟩
 case neq=>obtain⟨rfl,rfl⟩:=some_pair h;exact⟨_, .bb _,fun w'=>by simp[binOp,Op.intCmp,bne]⟩
 case lss=>obtain⟨rfl,rfl⟩:=some_pair h;exact⟨_, .bb _,fun w'=>by simp[binOp,Op.intCmp]⟩
 case leq=>obtain⟨rfl,rfl⟩:=some_pair h;exact⟨_, .bb _,fun w'=>by simp[binOp,Op.intCmp]⟩
 case gtr=>obtain⟨rfl,rfl⟩:=some_pair h;exact⟨_, .bb _,fun w'=>by simp[binOp,Op.intCmp]⟩
 case geq=>obtain⟨rfl,rfl⟩:=some_pair h;exact⟨_, .bb _,fun w'=>by simp[binOp,Op.intCmp]⟩
 all_goals simp[vint2] at h
theorem vstr2_ok {op:BinOp} {a b:List UInt8} {r:V} {l:List Prop} (t:TypeId) (h:vstr2 op a b=some (r,l)) (hl:AllP l):
  ∃y,Rep w F r y∧ ∀w',(binOp op t (.string ⟨a.toArray⟩) (.string ⟨b.toArray⟩)).run P w'= .ok y w':=by
 cases op
 case add=>
  obtain⟨rfl,rfl⟩:=some_pair h
  have h1:(a.length:Int)+b.length≤9223372036854775807:=hl _ (by simp)
  refine⟨_, .str _,fun w'=> ?_⟩
  rw[binOp_string_add,run_string_add_sum w' _ _ (by simp[ByteArray.size];omega),ByteArray.mk_append_mk]
 case eql=>obtain⟨rfl,rfl⟩:=some_pair h;exact⟨_, .bb _,fun w'=>by rw[binOp_string_eql];simp⟩
 case neq=>obtain⟨rfl,rfl⟩:=some_pair h;exact⟨_, .bb _,fun w'=>by rw[binOp_string_neq];simp⟩
 case lss=>obtain⟨rfl,rfl⟩:=some_pair h;exact⟨_, .bb _,fun w'=>by rw[binOp_string_lss];simp⟩
 case leq=>obtain⟨rfl,rfl⟩:=some_pair h;exact⟨_, .bb _,fun w'=>by rw[binOp_string_leq];simp⟩
 case gtr=>obtain⟨rfl,rfl⟩:=some_pair h;exact⟨_, .bb _,fun w'=>by rw[binOp_string_gtr];simp⟩
 case geq=>obtain⟨rfl,rfl⟩:=some_pair h;exact⟨_, .bb _,fun w'=>by rw[binOp_string_geq];simp⟩
 all_goals simp[vstr2] at h
theorem run_equalIn_bool (d:Nat) {t:TypeId} (a b:Bool) (ht:P.underlying t=some .bool) (w':World):(Op.equalIn (d+1) t (.bool a) (.bool b)).run P w'= .ok (a==b) w':=by
 simp[Op.equalIn,run_underlying ht]
theorem run_eql_bool {t:TypeId} (a b:Bool) (ht:P.underlying t=some .bool) (w':World):(binOp .eql t (.bool a) (.bool b)).run P w'= .ok (.bool (a==b)) w':=by
 simp only[binOp]
 simp[Op.equal,Op.maxDepth,run_equalIn_bool 9999 a b ht]
theorem run_neq_bool {t:TypeId} (a b:Bool) (ht:P.underlying t=some .bool) (w':World):(binOp .neq t (.bool a) (.bool b)).run P w'= .ok (.bool (!(a==b))) w':=by
 simp only[binOp]
 simp[Op.equal,Op.maxDepth,run_equalIn_bool 9999 a b ht]
theorem vbool2_ok {op:BinOp} {a b:Bool} {r:V} {l:List Prop} {t:TypeId} (ht:P.underlying t=some .bool) (h:vbool2 op a b=some (r,l)):
  ∃y,Rep w F r y∧ ∀w',(binOp op t (.bool a) (.bool b)).run P w'= .ok y w':=by
 cases op
 case eql=>obtain⟨rfl,rfl⟩:=some_pair h;exact⟨_, .bb _,fun w'=>run_eql_bool a b ht w'⟩
 case neq=>obtain⟨rfl,rfl⟩:=some_pair h;exact⟨_, .bb _,fun w'=>run_neq_bool a b ht w'⟩
 all_goals simp[vbool2] at h
theorem rep_val {x y:Value} (h:Rep w F (.val x) y):y=x:=by
 cases h with
 |val _=>rfl
 |sl _ _ _ _ _ _ _ _ _ he=>simp[V.elems] at he
theorem rep_bb {b:Bool} {y:Value} (h:Rep w F (.bb b) y):y= .bool b:=by
 cases h with
 |bb _=>rfl
 |sl _ _ _ _ _ _ _ _ _ he=>simp[V.elems] at he
theorem rep_str {l:List UInt8} {y:Value} (h:Rep w F (.str l) y):y= .string ⟨l.toArray⟩:=by
 cases h with
 |str _=>rfl
 |sl _ _ _ _ _ _ _ _ _ he=>simp[V.elems] at he
theorem rep_vbool {v:V} {b:Bool} {y:Value} (hv:vbool v=some b) (h:Rep w F v y):y= .bool b:=by
 unfold vbool at hv
 split at hv
 ·simp only[Option.some.injEq] at hv;subst hv;exact rep_bb h
 ·simp only[Option.some.injEq] at hv;subst hv;exact rep_val h
 ·exact absurd hv (by simp)
theorem rep_st {l:List V} {p:Value} (h:Rep w F (.st l) p): ∃(cs:Array Value) (u:Nat→Value),p= .agg cs∧cs.size=l.length∧(∀j,j<l.length→cs[j]?=some (u j)∧(u j).oneCell'=true)∧ ∀j,j<l.length→Rep w F (l.getD j .any) (u j):=by
 cases h with
 |st _ cs u h1 h2 h3=>exact⟨cs,u,rfl,h1,h2,h3⟩
 |sl _ _ _ _ _ _ _ _ _ he=>simp[V.elems] at he
theorem eqC_ok {t:TypeId} {x y:V} {q:Bool} {p p':Value} {w':World} {d:Nat} (h:eqC P t x y=some q) (hp:Rep w F x p) (hq:Rep w F y p'):
  (∀(cs:Array Value) (o:Nat),cs[o]?=some p→(part t cs o).run P w'= .ok p w')∧(∀(cs:Array Value) (o:Nat),cs[o]?=some p'→(part t cs o).run P w'= .ok p' w')∧(Op.equalIn (d+1) t p p').run P w'= .ok q w':=by
 unfold eqC at h
 split at h
 ·rename_i k a k' b
  obtain rfl:=rep_val hp
  obtain rfl:=rep_val hq
  split at h
  ·rename_i q0 ht
   split at h
   ·rename_i hc
    obtain⟨rfl,rfl⟩:=hc
    obtain rfl:=Option.some.inj h
    exact⟨fun cs o hc=>by simp[part,isAgg,run_underlying ht,hc],fun cs o hc=>by simp[part,isAgg,run_underlying ht,hc],by
     have p3:=run_equalIn_int (P:=P) w' d t q0 q0 a b ht
     have e:(a==b)=decide (a=b):=by rw[Bool.eq_iff_iff];simp
     rw[p3,e]⟩
   ·cases h
  ·cases h
 ·rename_i a b
  obtain rfl:=rep_str hp
  obtain rfl:=rep_str hq
  split at h
  ·rename_i ht
   obtain rfl:=Option.some.inj h
   refine⟨fun cs o hc=>by simp[part,isAgg,run_underlying ht,hc],fun cs o hc=>by simp[part,isAgg,run_underlying ht,hc],?_⟩
   have e:(a==b)=decide (a=b):=by rw[Bool.eq_iff_iff];simp
   have e2:=run_equalIn_string (P:=P) w' d t ⟨a.toArray⟩ ⟨b.toArray⟩ ht
   rw[←e,e2]
   simp
  ·cases h
 ·rename_i a b
  obtain rfl:=rep_bb hp
  obtain rfl:=rep_bb hq
  split at h
  ·rename_i ht
   obtain rfl:=Option.some.inj h
   refine⟨fun cs o hc=>by simp[part,isAgg,run_underlying ht,hc],fun cs o hc=>by simp[part,isAgg,run_underlying ht,hc],?_⟩
   have e:(a==b)=decide (a=b):=by rw[Bool.eq_iff_iff];simp
   rw[run_equalIn_bool d a b ht,e]
  ·cases h
 ·cases h
theorem vstEq_ok: ∀(fs:List Field) (i:Nat) (xs ys:List V) (b:Bool) (cs ds:Array Value) (u u':Nat→Value),vstEq P i fs xs ys=some b→
  (∀j,j<xs.length→cs[i+j]?=some (u (i+j))∧Rep w F (xs.getD j .any) (u (i+j)))→(∀j,j<ys.length→ds[i+j]?=some (u' (i+j))∧Rep w F (ys.getD j .any) (u' (i+j)))→ ∀d w',(Op.eqFields (d+1) cs ds fs).run P w'= .ok b w':=by
 intro fs
 induction fs with
 |nil=>
  intro i xs ys b cs ds u u' h _ _ d w'
  cases xs with
  |nil=>
   cases ys with
   |nil=>simp only[vstEq,Option.some.injEq] at h;subst h;simp[Op.eqFields]
   |cons y ys=>simp[vstEq] at h
  |cons x xs=>simp[vstEq] at h
 |cons f fs ih=>
  intro i xs ys b cs ds u u' h hx hy d w'
  cases xs with
  |nil=>cases ys<;>simp[vstEq] at h
  |cons x0 xs0=>
   cases ys with
   |nil=>simp[vstEq] at h
   |cons y0 ys0=>
    simp only[vstEq] at h
    split at h
    rotate_left
    ·cases h
    rename_i hcond
    obtain⟨h1,h2⟩:=hcond
    split at h
    ·rename_i q hq
     obtain⟨r,hr,rfl⟩:=Option.map_eq_some_iff.1 h
     have q1:=hx 0 (by simp)
     have q2:=hy 0 (by simp)
     simp only[Nat.add_zero,List.getD_cons_zero] at q1 q2
     obtain⟨p1,p2,p3⟩:=eqC_ok (P:=P) (w':=w') (d:=d) hq q1.2 q2.2
     have p1':(part f.type cs f.offset).run P w'= .ok (u i) w':=by rw[h2];exact p1 cs _ q1.1
     have p2':(part f.type ds f.offset).run P w'= .ok (u' i) w':=by rw[h2];exact p2 ds _ q2.1
     have p4:=ih _ xs0 ys0 r cs ds u u' hr (fun j hj=>by have:=hx (j+1) (by simp;omega);simpa [Nat.add_assoc,Nat.add_comm 1 j] using this) (fun j hj=>by have:=hy (j+1) (by simp;omega);simpa [Nat.add_assoc,Nat.add_comm 1 j] using this) d w'
     simp only[Op.eqFields,if_pos h1,Sem.run_bind,p1',p2',p3,Result.andThen_ok]
     cases q
     ·simp
     ·simp[p4]
    ·cases h
theorem run_eql_map {t k e:TypeId} (ht:P.underlying t=some (.map k e)) (r:Option Nat) (w':World):(Op.equal t (.map r) (.map none)).run P w'= .ok r.isNone w':=by
 have h: ∀d:Nat,(Op.equalIn (d+1) t (.map r) (.map none)).run P w'= .ok r.isNone w':=fun d=>by
  cases r<;>simp[Op.equalIn,run_underlying ht]
 exact h 9999
theorem vptr_ok {op:BinOp} {b:Bool} {r:V} {l:List Prop} {q:Option Addr} (t:TypeId) (X Y:Operand) (h:vptr P op t b=some (r,l)) (hb:q.isNone=b):
  ∃z,Rep w F r z∧ ∀w',(do eqGuard op t X Y (.pointer q) (.pointer none);binOp op t (.pointer q) (.pointer none):Sem Value).run P w'= .ok z w':=by
 have key: ∀e,P.underlying t=some (.pointer e)→P.underlying t=some (.pointer (P.pointee t)):=fun e he=>by
  unfold Program.pointee;rw[he]
 have he: ∀w',(eqGuard op t X Y (.pointer q) (.pointer none):Sem Unit).run P w'= .ok () w':=fun w'=>by
  unfold eqGuard;split<;>simp
 unfold vptr at h
 split at h
 ·rename_i e ht
  obtain⟨rfl,rfl⟩:=some_pair h
  exact⟨_, .bb _,fun w'=>by simp only[Sem.run_bind,he,Result.andThen_ok,run_eql_pointer_nil w' t q (key e ht),hb]⟩
 ·rename_i e ht
  obtain⟨rfl,rfl⟩:=some_pair h
  exact⟨_, .bb _,fun w'=>by simp only[Sem.run_bind,he,Result.andThen_ok,run_neq_pointer_nil w' t q (key e ht),hb]⟩
 ·exact absurd h (by simp)
theorem vptrS_ok {op:BinOp} {r:V} {l:List Prop} {a:Addr} (t:TypeId) (X Y:Operand) (h:vptrS P op t=some (r,l)) (hl:AllP l):
  ∃z,Rep w F r z∧ ∀w',(do eqGuard op t X Y (.pointer (some a)) (.pointer (some a));binOp op t (.pointer (some a)) (.pointer (some a)):Sem Value).run P w'= .ok z w':=by
 have he: ∀w',(eqGuard op t X Y (.pointer (some a)) (.pointer (some a)):Sem Unit).run P w'= .ok () w':=fun w'=>by
  unfold eqGuard;split<;>simp
 unfold vptrS at h
 split at h
 ·rename_i e ht
  obtain⟨rfl,rfl⟩:=some_pair h
  obtain⟨j,hj⟩:=Option.isSome_iff_exists.1 (hl ((P.info? e).isSome=true) (by simp))
  exact⟨_, .bb true,fun w'=>by simp only[Sem.run_bind,he,Result.andThen_ok,run_eql_ptr_same w' a ht hj]⟩
 ·rename_i e ht
  obtain⟨rfl,rfl⟩:=some_pair h
  obtain⟨j,hj⟩:=Option.isSome_iff_exists.1 (hl ((P.info? e).isSome=true) (by simp))
  exact⟨_, .bb false,fun w'=>by simp only[Sem.run_bind,he,Result.andThen_ok,Lib.run_neq_ptr_same w' a ht hj]⟩
 ·exact absurd h (by simp)
theorem vslN_ok {op:BinOp} {r:V} {l:List Prop} {n k c c' m:Nat} {A:Option Addr} (t:TypeId) (X Y:Operand) (h:vslN P op t n=some (r,l)) (hl:AllP l) (hA:0<n→A.isSome=true):
  ∃z,Rep w F r z∧ ∀w',(do eqGuard op t X Y (.slice A m c) (.slice none k c');binOp op t (.slice A m c) (.slice none k c'):Sem Value).run P w'= .ok z w':=by
 have he: ∀w',(eqGuard op t X Y (.slice A m c) (.slice none k c'):Sem Unit).run P w'= .ok () w':=fun w'=>by
  unfold eqGuard;split<;>simp
 have run: ∀e,P.underlying t=some (.slice e)→0<n→ ∀w',(Op.equal t (.slice A m c) (.slice none k c')).run P w'= .ok false w':=fun e ht hn w'=>by
  obtain⟨a,rfl⟩:=Option.isSome_iff_exists.1 (hA hn)
  have h: ∀d:Nat,(Op.equalIn (d+1) t (.slice (some a) m c) (.slice none k c')).run P w'= .ok false w':=fun d=>by
   simp[Op.equalIn,run_underlying ht]
  exact h 9999
 unfold vslN at h
 split at h
 ·rename_i e ht
  obtain⟨rfl,rfl⟩:=some_pair h
  exact⟨_, .bb _,fun w'=>by simp[he,run e ht (hl _ (by simp)) w',binOp]⟩
 ·rename_i e ht
  obtain⟨rfl,rfl⟩:=some_pair h
  exact⟨_, .bb _,fun w'=>by simp[he,run e ht (hl _ (by simp)) w',binOp]⟩
 ·exact absurd h (by simp)
theorem rep_sl0 {s:V} {sz n:Nat} {c:Nat→V} {y:Value} (he:s.elems=some (sz,n,c)) (h:Rep w F s y): ∃A m k,y= .slice A m k∧(0<n→A.isSome=true):=by
 have main: ∀{s:V} {y:Value},Rep w F s y→ ∀{sz n c},s.elems=some (sz,n,c)→ ∃A m k,y= .slice A m k∧(0<n→A.isSome=true):=by
  intro s y h
  cases h with
  |sl s sz' n' c' A cap b off u he' hcap hA _ _=>
   intro sz n c he
   rw[he] at he'
   obtain⟨_,rfl,_⟩:sz=sz'∧n=n'∧c=c':=by simpa using he'
   exact⟨A,n,cap,rfl,fun h=>by rw[(hA h).1];rfl⟩
  |_=>intro sz n c he;exact absurd he (by simp[V.elems])
 exact main h he
theorem rep_pe0 {s:V} {i j:Nat} {y:Value} (h:Rep w F (.pe s i j) y): ∃a,y= .pointer (some a):=by
 cases h with
 |sl s sz n c A cap b off u he=>exact absurd he (by simp[V.elems])
 |pe=>exact⟨_,rfl⟩
theorem rep_op1 {k j:Nat} {p:Value} (h:Rep w F (.op k j) p): ∃b,F.O (.r k)=some b∧p= .pointer (some ⟨b,j,none⟩):=by
 cases h with
 |op _ _ b h=>exact⟨b,h,rfl⟩
 |sl _ _ _ _ _ _ _ _ _ he=>simp[V.elems] at he
theorem rep_op0 {k j:Nat} {y:Value} (h:Rep w F (.op k j) y): ∃a,y= .pointer (some a):=by
 cases h with
 |sl s sz n c A cap b off u he=>exact absurd he (by simp[V.elems])
 |op=>exact⟨_,rfl⟩
theorem vbin_ok {op:BinOp} {x y r:V} {l:List Prop} {p q:Value} (t:TypeId) (X Y:Operand) (h:vbin P op t x y=some (r,l)) (hl:AllP l) (hp:Rep w F x p) (hq:Rep w F y q):
  ∃z,Rep w F r z∧ ∀w',(do eqGuard op t X Y p q;binOp op t p q:Sem Value).run P w'= .ok z w':=by
 unfold vbin at h
 split at h
 ·rename_i k a k' b
  obtain rfl:=rep_val hp
  obtain rfl:=rep_val hq
  split at h
  ·obtain⟨rfl,rfl⟩:=some_pair h
   have hb:(0:Int)≤b:=hl _ (by simp)
   have hn: ¬b<0:=by omega
   exact⟨_, .val _,fun w'=>by simp[eqGuard,binOp,Op.shift,hn,wr_eq]⟩
  ·obtain⟨rfl,rfl⟩:=some_pair h
   have hb:(0:Int)≤b:=hl _ (by simp)
   have hn: ¬b<0:=by omega
   exact⟨_, .val _,fun w'=>by simp[eqGuard,binOp,Op.shift,hn]⟩
  ·split at h
   ·rename_i hk
    subst hk
    obtain⟨z,hz,hr⟩:=vint2_ok (P:=P) (w:=w) (F:=F) t h hl
    refine⟨z,hz,fun w'=> ?_⟩
    have he:(eqGuard op t X Y (.int k a) (.int k b):Sem Unit).run P w'= .ok () w':=by
     unfold eqGuard;split<;>simp
    simp[he,hr w']
   ·exact absurd h (by simp)
 ·rename_i a b
  obtain rfl:=rep_str hp
  obtain rfl:=rep_str hq
  obtain⟨z,hz,hr⟩:=vstr2_ok (P:=P) (w:=w) (F:=F) t h hl
  refine⟨z,hz,fun w'=> ?_⟩
  have he:(eqGuard op t X Y (.string ⟨a.toArray⟩) (.string ⟨b.toArray⟩):Sem Unit).run P w'= .ok () w':=by
   unfold eqGuard;split<;>simp
  simp[he,hr w']
 ·rename_i a b
  obtain rfl:=rep_bb hp
  obtain rfl:=rep_bb hq
  split at h
  ·rename_i ht
   obtain⟨z,hz,hr⟩:=vbool2_ok (P:=P) (w:=w) (F:=F) ht h
   refine⟨z,hz,fun w'=> ?_⟩
   have he:(eqGuard op t X Y (.bool a) (.bool b):Sem Unit).run P w'= .ok () w':=by
    unfold eqGuard;split<;>simp
   simp[he,hr w']
  ·exact absurd h (by simp)
 ·rename_i q0
  obtain rfl:=rep_val hp
  obtain rfl:=rep_val hq
  have he: ∀w',(eqGuard op t X Y (.map q0) (.map none):Sem Unit).run P w'= .ok () w':=fun w'=>by
   unfold eqGuard;split<;>simp
  split at h
  ·rename_i k e ht
   obtain⟨rfl,rfl⟩:=some_pair h
   exact⟨_, .bb _,fun w'=>by simp[he,run_eql_map ht q0 w',binOp]⟩
  ·rename_i k e ht
   obtain⟨rfl,rfl⟩:=some_pair h
   exact⟨_, .bb _,fun w'=>by simp[he,run_eql_map ht q0 w',binOp]⟩
  ·exact absurd h (by simp)
 ·rename_i xs ys
  split at h
  ·rename_i fs ht
   split at h
   ·rename_i b hb
    obtain⟨rfl,rfl⟩:=some_pair h
    have h1:P.stoodInHeld t=false:=hl _ (by simp)
    have h2:P.eqGuardType P.depth t=false:=hl _ (by simp)
    obtain⟨cs,u,rfl,hs,hc,hr⟩:=rep_st hp
    obtain⟨ds,u',rfl,hs',hc',hr'⟩:=rep_st hq
    have hf:P.fieldsOf t=fs:=by simp[Program.fieldsOf,ht]
    refine⟨_, .bb b,fun w'=> ?_⟩
    have e1:=run_eqGuard_agg (w:=w') .eql t X Y cs ds h2
    have e2:=run_eql_struct (P:=P) w' t cs ds
    have e3:=run_equalIn_struct (P:=P) w' 9999 t cs ds (by rw[hf];exact ht) h1
    have e4:=vstEq_ok (w:=w) (F:=F) fs.toList 0 xs ys b cs ds u u' hb (fun j hj=>by rw[Nat.zero_add];exact⟨(hc j hj).1,hr j hj⟩) (fun j hj=>by rw[Nat.zero_add];exact⟨(hc' j hj).1,hr' j hj⟩) 9998 w'
    rw[hf,e4] at e3
    rw[e3] at e2
    simp[e1,e2]
   ·exact absurd h (by simp)
  ·rename_i fs ht
   split at h
   ·rename_i b hb
    obtain⟨rfl,rfl⟩:=some_pair h
    have h1:P.stoodInHeld t=false:=hl _ (by simp)
    have h2:P.eqGuardType P.depth t=false:=hl _ (by simp)
    obtain⟨cs,u,rfl,hs,hc,hr⟩:=rep_st hp
    obtain⟨ds,u',rfl,hs',hc',hr'⟩:=rep_st hq
    have hf:P.fieldsOf t=fs:=by simp[Program.fieldsOf,ht]
    refine⟨_, .bb (!b),fun w'=> ?_⟩
    have e1:=run_eqGuard_agg (w:=w') .neq t X Y cs ds h2
    have e2:=run_neq_struct (P:=P) w' t cs ds
    have e3:=run_equalIn_struct (P:=P) w' 9999 t cs ds (by rw[hf];exact ht) h1
    have e4:=vstEq_ok (w:=w) (F:=F) fs.toList 0 xs ys b cs ds u u' hb (fun j hj=>by rw[Nat.zero_add];exact⟨(hc j hj).1,hr j hj⟩) (fun j hj=>by rw[Nat.zero_add];exact⟨(hc' j hj).1,hr' j hj⟩) 9998 w'
    rw[hf,e4] at e3
    rw[e3] at e2
    simp[e1,e2]
   ·exact absurd h (by simp)
  ·exact absurd h (by simp)
 ·obtain rfl:=rep_val hq
  obtain⟨a,rfl⟩:=rep_pe0 hp
  exact vptr_ok t X Y h rfl
 ·obtain rfl:=rep_val hq
  obtain⟨a,rfl⟩:=rep_op0 hp
  exact vptr_ok t X Y h rfl
 ·split at h
  ·rename_i hkk
   obtain⟨rfl,rfl⟩:=hkk
   obtain⟨b1,h1,rfl⟩:=rep_op1 hp
   obtain⟨b2,h2,rfl⟩:=rep_op1 hq
   rw[h1] at h2
   obtain rfl:=Option.some.inj h2
   exact vptrS_ok t X Y h hl
  ·exact absurd h (by simp)
 ·obtain rfl:=rep_val hq
  obtain rfl:=rep_val hp
  exact vptr_ok t X Y h rfl
 ·obtain rfl:=rep_val hq
  obtain⟨A,m,k,rfl,hA⟩:=rep_sl0 rfl hp
  exact vslN_ok t X Y h hl hA
 ·rename_i l _ _
  obtain rfl:=rep_val hq
  cases hp with
  |sl s sz' n' c' A cap b off u he' hcap hA _ _=>
   refine vslN_ok t X Y h hl fun hn=> ?_
   unfold V.elems at he'
   simp only at he'
   split at he'
   ·cases he'
   ·simp only[Option.some.injEq,Prod.mk.injEq] at he'
    rw[(hA (by omega)).1];rfl
 ·exact absurd h (by simp)
theorem rep_nn {y:Value} (h:Rep w F .nn y): ∃t x,y= .iface t x:=by
 cases h with
 |nn t x=>exact⟨t,x,rfl⟩
 |sl _ _ _ _ _ _ _ _ _ he=>simp[V.elems] at he
theorem rep_ifc {y:Value} {t:TypeId} {v:V} (h:Rep w F (.ifc t v) y): ∃x,y= .iface t x∧Rep w F v x:=by
 cases h with
 |ifc t v x h=>exact⟨x,rfl,h⟩
 |sl _ _ _ _ _ _ _ _ _ he=>simp[V.elems] at he
theorem vmkI_ok {t:TypeId} {v r:V} {l:List Prop} {p:Value} (h:vmkI P t v=some (r,l)) (hp:Rep w F v p): ∃z,Rep w F r z∧ ∀w',(Instr.makeInterface t p).run P w'= .ok z w':=by
 unfold vmkI at h
 split at h
 ·cases h
 ·cases h
 ·rename_i u hne hu
  have hr: ∀w',(Instr.makeInterface t p).run P w'= .ok (.iface t p) w':=fun w'=>by
   unfold Instr.makeInterface
   rw[Sem.run_bind,run_underlying hu]
   cases u<;>first|rfl|exact(hne _ rfl).elim
  split at h
  ·obtain⟨rfl,rfl⟩:=some_pair h
   obtain rfl:=rep_val hp
   exact⟨_, .val _,hr⟩
  ·obtain⟨rfl,rfl⟩:=some_pair h
   exact⟨_, .ifc _ _ _ hp,hr⟩
theorem run_nn {t:TypeId} {ms:Array (String×TypeId)} (ht:P.underlying t=some (.interface ms)) (u:TypeId) (x:Value) (w':World):(Op.equal t (.iface u x) .nilIface).run P w'= .ok false w':=by
 have h: ∀d:Nat,(Op.equalIn (d+1) t (.iface u x) .nilIface).run P w'= .ok false w':=fun d=>by
  simp[Op.equalIn,run_underlying ht]
 exact h 9999
theorem run_nil {t:TypeId} {ms:Array (String×TypeId)} (ht:P.underlying t=some (.interface ms)) (w':World):(Op.equal t .nilIface .nilIface).run P w'= .ok true w':=by
 have h: ∀d:Nat,(Op.equalIn (d+1) t .nilIface .nilIface).run P w'= .ok true w':=fun d=>by
  simp[Op.equalIn,run_underlying ht]
 exact h 9999
theorem isIf_ok {t:TypeId} (h:isIf P t=true): ∃ms,P.underlying t=some (.interface ms):=by
 unfold isIf at h
 split at h
 ·rename_i ms h1;exact⟨ms,h1⟩
 ·cases h
theorem isNilC_ok {y:Operand} (h:isNilC y=true):y= .const .nilIface:=by
 unfold isNilC at h
 split at h
 ·rfl
 ·cases h
theorem vbinN_ok {op:BinOp} {vx vy r:V} {l:List Prop} {p q:Value} (t:TypeId) (X Y:Operand) (h:vbinN P op t Y vx vy=some (r,l)) (hl:AllP l) (hp:Rep w F vx p) (hq:Rep w F vy q) (hY: ∀c,Y= .const c→q=c):
  ∃z,Rep w F r z∧ ∀w',(do eqGuard op t X Y p q;binOp op t p q:Sem Value).run P w'= .ok z w':=by
 have hn: ∀{u:TypeId} {x:Value},(if isNilC Y=true∧isIf P t=true then vnn op false else none)=some (r,l)→p= .iface u x→ ∃z,Rep w F r z∧ ∀w',(do eqGuard op t X Y p q;binOp op t p q:Sem Value).run P w'= .ok z w':=fun{u x} h5 e=>by
  subst e
  split at h5
  ·rename_i hc
   obtain⟨hc,ht⟩:=hc
   obtain⟨ms,ht⟩:=isIf_ok ht
   obtain rfl:=isNilC_ok hc
   obtain rfl:=hY _ rfl
   unfold vnn at h5
   split at h5
   ·obtain⟨rfl,rfl⟩:=some_pair h5
    refine⟨_, .bb _,fun w'=> ?_⟩
    have:=run_nn (P:=P) ht u x w'
    simp[eqGuard,binOp,this]
   ·obtain⟨rfl,rfl⟩:=some_pair h5
    refine⟨_, .bb _,fun w'=> ?_⟩
    have:=run_nn (P:=P) ht u x w'
    simp[eqGuard,binOp,this]
   ·cases h5
  ·cases h5
 unfold vbinN at h
 split at h
 ·obtain⟨u,x,rfl⟩:=rep_nn hp
  exact hn h rfl
 ·obtain⟨x,rfl, -⟩:=rep_ifc hp
  exact hn h rfl
 ·split at h
  ·rename_i hc
   obtain⟨hc,ht⟩:=hc
   obtain⟨ms,ht⟩:=isIf_ok ht
   obtain rfl:=isNilC_ok hc
   obtain rfl:=hY _ rfl
   obtain rfl:=rep_val hp
   unfold vnn at h
   split at h
   ·obtain⟨rfl,rfl⟩:=some_pair h
    refine⟨_, .bb _,fun w'=> ?_⟩
    have:=run_nil (P:=P) ht w'
    simp[eqGuard,binOp,this]
   ·obtain⟨rfl,rfl⟩:=some_pair h
    refine⟨_, .bb _,fun w'=> ?_⟩
    have:=run_nil (P:=P) ht w'
    simp[eqGuard,binOp,this]
   ·cases h
  ·cases h
 ·exact vbin_ok t X Y h hl hp hq
theorem vun_ok {op:UnOp} {x r:V} {l:List Prop} {p:Value} (h:vun op x=some (r,l)) (hl:AllP l) (hp:Rep w F x p):
  ∃z,Rep w F r z∧ ∀w',(Op.unary op p).run P w'= .ok z w':=by
 unfold vun at h
 split at h
 ·obtain⟨rfl,rfl⟩:=some_pair h
  obtain rfl:=rep_bb hp
  exact⟨_, .bb _,fun w'=>by simp[Op.unary]⟩
 ·obtain⟨rfl,rfl⟩:=some_pair h
  obtain rfl:=rep_val hp
  exact⟨_, .bb _,fun w'=>by simp[Op.unary]⟩
 ·rename_i n
  obtain⟨rfl,rfl⟩:=some_pair h
  obtain rfl:=rep_val hp
  have h1:I64 (-n):=hl _ (by simp)
  refine⟨_, .val _,fun w'=> ?_⟩
  simp only[Op.unary,Op.intArith,Sem.run_pure]
  congr 2
  rw[IntKind.wrap_i64];obtain⟨h1,h2⟩:=h1;omega
 ·obtain⟨rfl,rfl⟩:=some_pair h
  obtain rfl:=rep_val hp
  exact⟨_, .val _,fun w'=>by simp[Op.unary,Op.intArith,wr_eq]⟩
 ·obtain⟨rfl,rfl⟩:=some_pair h
  obtain rfl:=rep_val hp
  exact⟨_, .val _,fun w'=>by simp[Op.unary,intBits_xor,bt_eq,IntKind.signed,IntKind.max,IntKind.bits]⟩
 ·exact absurd h (by simp)
theorem vextract_ok {k:Nat} {x r:V} {l:List Prop} {p:Value} (h:vextract k x=some (r,l)) (hp:Rep w F x p):
  ∃z,Rep w F r z∧ ∀w',(Instr.extract p k).run P w'= .ok z w':=by
 unfold vextract at h
 split at h
 ·split at h
  ·rename_i l0 hk
   obtain⟨rfl,rfl⟩:=some_pair h
   cases hp with
   |tu _ cs u hs hc hr=>exact⟨_,hr k hk,fun w'=>by simp[Instr.extract,hc k hk]⟩
   |sl _ _ _ _ _ _ _ _ _ he=>simp[V.elems] at he
  ·exact absurd h (by simp)
 ·exact absurd h (by simp)
theorem rep_sl {x:V} {sz n:Nat} {c:Nat→V} {p:Value} (he:x.elems=some (sz,n,c)) (h:Rep w F x p):
  ∃(A:Option Addr) (cap b off:Nat) (u:Nat→Nat→Value),p= .slice A n cap∧n≤cap∧(0<n→A=some ⟨b,off,none⟩∧b<w.heap.size∧ ¬F.F b)∧
   (∀i,i<n→ ∀j,j<sz→w.cell? ⟨b,off+(i*sz+j),none⟩=some (u i j)∧(u i j).oneCell'=true)∧(∀i,i<n→ ∀j,j<sz→Rep w F ((c i).cell j) (u i j)):=by
 cases h with
 |sl _ sz' n' c' A cap b off u he' h1 h2 h3 h4=>
  rw[he] at he'
  obtain⟨rfl,rfl,rfl⟩:sz=sz'∧n=n'∧c=c':=by simpa using he'
  exact⟨A,cap,b,off,u,rfl,h1,h2,h3,h4⟩
 |_=>simp[V.elems] at he
theorem addr_add (b off n:Nat):(⟨b,off,none⟩:Addr).add n=⟨b,off+n,none⟩:=by
 unfold Addr.add;split
 ·simp[*]
 ·rfl
theorem run_bytes_nil {src dst e:TypeId} (A:Option Addr) (c:Nat) (hs:P.underlying src=some (.slice e)) (he:P.underlying e=some (.int .u8)) (hd:P.underlying dst=some .string) (w':World):
  (convert src dst (.slice A 0 c)).run P w'= .ok (.string ⟨#[]⟩) w':=by
 cases A with
 |none=>
  rw[run_convert_bytes_string w' src dst e none 0 c hs he hd]
  simp[Conv.bytesToString]
  rfl
 |some a=>exact run_convert_bytes_back w' src dst e a c [] hs he hd (fun j hj=>by simp at hj)
theorem vconv_ok {src dst:TypeId} {x r:V} {l:List Prop} {p:Value} (h:vconv P src dst x=some (r,l)) (hp:Rep w F x p):
  ∃z,Rep w F r z∧ ∀w',(∀b o,b<w.heap.size→ ¬F.F b→w'.cell? ⟨b,o,none⟩=w.cell? ⟨b,o,none⟩)→(convert src dst p).run P w'= .ok z w':=by
 unfold vconv at h
 split at h
 ·rename_i k' k k2 n hs hd
  obtain⟨rfl,rfl⟩:=some_pair h
  obtain rfl:=rep_val hp
  exact⟨_, .val _,fun w' _=>by simp[convert,run_underlying hs,run_underlying hd,Conv.intToInt,wr_eq]⟩
 ·rename_i l0 hs hd
  obtain⟨rfl,rfl⟩:=some_pair h
  obtain rfl:=rep_str hp
  exact⟨_, .str _,fun w' _=>by simp[convert,run_underlying hs,run_underlying hd]⟩
 ·rename_i e l0 hs hd
  split at h
  ·rename_i hE
   obtain⟨rfl,rfl⟩:=some_pair h
   obtain⟨A,cap,b,off,u,rfl,hcap,hA,hc,hr⟩:=rep_sl (x:= .by l0) rfl hp
   refine⟨_, .str _,fun w' hx=> ?_⟩
   by_cases hn:l0=[]
   ·subst hn
    exact run_bytes_nil A cap hs hE hd w'
   ·have hpos:0<l0.length:=List.length_pos_iff.2 hn
    obtain⟨rfl,hb,hF⟩:=hA hpos
    refine run_convert_bytes_back w' src dst e ⟨b,off,none⟩ cap l0 hs hE hd fun i hi=> ?_
    have h1:=hc i hi 0 (by omega)
    have h2:=hr i hi 0 (by omega)
    rw[Nat.mul_one,Nat.add_zero] at h1
    have h3:=rep_val h2
    rw[addr_add,hx _ _ hb hF,h1.1,h3]
    simp[byteAt,List.getD_eq_getElem?_getD,hi]
  ·exact absurd h (by simp)
 ·exact absurd h (by simp)
end
end Go.Proofs.YtfengpdaocgcnaaGreatDoor
