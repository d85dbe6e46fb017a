/- How many bits a number has; its bits. Plain Lean. Contracts of library functions, laid at this program: numbers as texts, texts joined. The program's numbers: comparing, bits, sums: the walks. -/
import Derived.Test.YtfengpdaocgcnaaGreatDoorQ17
import Derived.Lib.BitFns
import Derived.Shelf.Strings.Builder1
import Derived.Shelf.Strings.Builder2
import Derived.Shelf.Strings.OnBuilder
import Derived.Shelf.Small.Bits
import Derived.Shelf.Small.Strs
import Derived.Shelf.Small.Wraps
import Derived.Shelf.Strings.BuilderF
import Derived.Shelf.Strconv.Atoi
import Derived.Shelf.Strconv.Itoa0
import Derived.Shelf.Strconv.Itoa1
import Derived.Shelf.LaysM
import Derived.Shelf.Strconv.Itoa2
import Derived.Shelf.Strconv.Itoa3
import Derived.Shelf.Strconv.AtoiErrFast
import Derived.Shelf.Strconv.ParseIntEmpty
import Derived.Shelf.Strconv.AtoiFail
import Derived.Shelf.Strconv.Clone
import Derived.Shelf.Strconv.SyntaxError
import Derived.Shelf.LaysC
import Derived.Shelf.Strconv.ToError
import Derived.Shelf.Strconv.Lower
import Derived.Shelf.Strconv.ParseUint10
import Derived.Shelf.Strconv.ParseUint10Empty
import Derived.Shelf.Strconv.ParseUint10Any
import Derived.Shelf.Strconv.ParseInt10
import Derived.Shelf.Strconv.AtoiLong
import Derived.Shelf.Strconv.AtoiInnerAll
import Derived.Shelf.Strconv.RangeError
import Derived.Shelf.Strconv.ToErrorRange
import Derived.Shelf.Strconv.AtoiAll
import Derived.Shelf.Strconv.ErrVarAll
import Derived.Shelf.Strings.Search1
import Derived.Shelf.Strings.Search2
import Derived.Shelf.Strings.Search3
import Derived.Shelf.Strings.Cut
import Derived.Shelf.Strings.Count
import Derived.Shelf.Strings.Shaped
import Derived.Shelf.Strings.Prefix
import Derived.Shelf.Strings.Split
import Derived.Shelf.Strings.SplitShaped
import Derived.Shelf.Unicode.DecodeSlow
import Derived.Test.YtfengpdaocgcnaaGreatDoorProg
namespace Go.Proofs.YtfengpdaocgcnaaGreatDoor
theorem imax_eq (a b:Int):imax a b=max a b:=by unfold imax;split<;>omega
def bl (n:Nat):Nat:=if h:n=0 then 0 else bl (n/2)+1
termination_by n
decreasing_by omega
theorem bl_zero:bl 0=0:=by rw[bl];simp
theorem bl_pos {n:Nat} (h:n≠0):bl n=bl (n/2)+1:=by rw[bl.eq_def n,dif_neg h]
theorem bl_eq_zero {n:Nat}:bl n=0↔n=0:=by
 constructor
 ·intro h
  by_cases h0:n=0
  ·exact h0
  ·rw[bl_pos h0] at h;omega
 ·rintro rfl;exact bl_zero
theorem bl_lt (n:Nat):n<2^bl n:=by
 induction n using Nat.strongRecOn with
 |_ n ih=>
  by_cases h:n=0
  ·rw[h,bl_zero];decide
  ·rw[bl_pos h,Nat.pow_succ]
   have:=ih (n/2) (by omega)
   omega
theorem bl_le {n:Nat} (h:n≠0):2^(bl n-1)≤n:=by
 induction n using Nat.strongRecOn with
 |_ n ih=>
  rw[bl_pos h,Nat.add_sub_cancel]
  by_cases h0:n/2=0
  ·rw[h0,bl_zero];omega
  ·have h1:=ih (n/2) (by omega) h0
   obtain⟨m,hm⟩: ∃m,bl (n/2)=m+1:=⟨bl (n/2)-1,by have:=mt bl_eq_zero.1 h0;omega⟩
   rw[hm] at h1⊢
   rw[Nat.add_sub_cancel] at h1
   rw[Nat.pow_succ];omega
theorem pow2_lt {a b:Nat} (h:2^a<2^b):a<b:=(Nat.pow_lt_pow_iff_right (by omega)).1 h
theorem bl_is {n k:Nat} (h1:2^k≤n) (h2:n<2^(k+1)):bl n=k+1:=by
 have hp:0<2^k:=Nat.pow_pos (by omega)
 have h0:n≠0:=by omega
 have h3:=bl_lt n
 have h4:=bl_le h0
 have h5:k<bl n:=pow2_lt (by omega)
 have h6:bl n-1<k+1:=pow2_lt (by omega)
 omega
theorem bl_le_iff {n k:Nat}:bl n≤k↔n<2^k:=by
 constructor
 ·intro h
  exact Nat.lt_of_lt_of_le (bl_lt n) (Nat.pow_le_pow_right (by omega) h)
 ·intro h
  by_cases h0:n=0
  ·rw[h0,bl_zero];omega
  ·have h1:=bl_le h0
   have h2:bl n-1<k:=pow2_lt (by omega)
   omega
theorem bitLen_aux: ∀(f x:Nat),x<2^f→Lib.bitLenAux f x=bl x
 |0,x,h=>by
  have:x=0:=by simpa using h
  rw[this,bl_zero];rfl
 |f+1,x,h=>by
  rw[Lib.bitLenAux]
  split
  ·rename_i h0;rw[h0,bl_zero]
  ·rename_i h0
   rw[bitLen_aux f (x/2) (by rw[Nat.pow_succ] at h;omega),bl_pos h0,Nat.add_comm]
theorem bitLen_bl {x:Nat} (h:x<4294967296):Lib.bitLen x=bl x:=bitLen_aux 64 x (Nat.lt_trans h (by decide))
theorem B_pow (k:Nat):4294967296^k=2^(32*k):=by rw[Nat.pow_mul]
theorem bl_top {l:List Nat} {x:Nat} (hl:W32 l) (hx:x≠0):bl (vl (l++[x]))=32*l.length+bl x:=by
 have h1:=vl_lt hl
 have h2:=bl_lt x
 have h3:=bl_le hx
 obtain⟨m,hm⟩: ∃m,bl x=m+1:=⟨bl x-1,by have:=mt bl_eq_zero.1 hx;omega⟩
 rw[hm] at h2 h3⊢
 rw[Nat.add_sub_cancel] at h3
 rw[vl_snoc,←Nat.add_assoc]
 refine bl_is ?_ ?_
 ·rw[Nat.pow_add,←B_pow]
  have:=Nat.mul_le_mul_left (4294967296^l.length) h3
  omega
 ·rw[Nat.add_assoc,Nat.pow_add,←B_pow]
  have h4:4294967296^l.length*(x+1)≤4294967296^l.length*2^(m+1):=Nat.mul_le_mul_left _ h2
  rw[Nat.mul_add,Nat.mul_one] at h4
  omega
def tb (n i:Nat):Bool:=n/2^i%2==1
theorem vl_split (l:List Nat) (j:Nat):vl l=vl (l.take j)+4294967296^j*vl (l.drop j):=by
 rcases Nat.lt_or_ge j l.length with h|h
 ·conv=>lhs;rw[←List.take_append_drop j l]
  rw[vl_app,List.length_take,Nat.min_eq_left (by omega)]
 ·rw[List.take_of_length_le h,List.drop_eq_nil_of_le h,vl,Nat.mul_zero,Nat.add_zero]
theorem vl_div {l:List Nat} (hl:W32 l) (j:Nat):vl l/4294967296^j=vl (l.drop j):=by
 rw[vl_split l j,Nat.add_comm,Nat.mul_add_div (pow_pos' j)]
 have h1:=vl_lt (hl.take j)
 have h2:4294967296^(l.take j).length≤4294967296^j:=Nat.pow_le_pow_right (by omega) (by rw[List.length_take];omega)
 rw[Nat.div_eq_of_lt (by omega),Nat.add_zero]
theorem tb_word {l:List Nat} (hl:W32 l) (i:Nat):tb (vl l) i=(l.getD (i/32) 0/2^(i%32)%2==1):=by
 unfold tb
 have e:2^i=4294967296^(i/32)*2^(i%32):=by rw[B_pow,←Nat.pow_add];congr 1;omega
 rw[e,←Nat.div_div_eq_div_mul,vl_div hl]
 rcases Nat.lt_or_ge (i/32) l.length with h|h
 ·rw[List.drop_eq_getElem_cons h,vl,getD_lt h]
  obtain⟨r,hr⟩: ∃r,i%32+(r+1)=32:=⟨31-i%32,by omega⟩
  have e2:(4294967296:Nat)=2^(i%32)*(2*2^r):=by
   rw[show(2:Nat)*2^r=2^(r+1) from by rw[Nat.pow_succ,Nat.mul_comm],←Nat.pow_add,hr]
  have e3:l[i/32]+4294967296*vl (l.drop (i/32+1))=l[i/32]+2^(i%32)*(2*(2^r*vl (l.drop (i/32+1)))):=by
   rw[show 4294967296*vl (l.drop (i/32+1))=2^(i%32)*(2*2^r)*vl (l.drop (i/32+1)) from by rw[←e2]]
   grind
  rw[e3,Nat.add_mul_div_left _ _ (Nat.pow_pos (by omega)),Nat.add_mul_mod_self_left]
 ·rw[List.drop_eq_nil_of_le h,vl,getD_ge h]
theorem tb_ge {l:List Nat} (hl:W32 l) {i:Nat} (h:l.length≤i/32):tb (vl l) i=false:=by
 rw[tb_word hl,getD_ge h];simp
theorem bits_and32 {a b:Nat} (ha:a<4294967296) (hb:b<4294967296):bits .and .u32 (a:Int) (b:Int)=((a&&&b:Nat):Int):=by
 have hx:a&&&b<2^32:=Nat.and_lt_two_pow _ (by omega)
 have h1:(BitVec.ofInt 32 (a:Int)).toNat=a:=by rw[BitVec.ofInt_natCast,BitVec.toNat_ofNat];exact Nat.mod_eq_of_lt (by omega)
 have h2:(BitVec.ofInt 32 (b:Int)).toNat=b:=by rw[BitVec.ofInt_natCast,BitVec.toNat_ofNat];exact Nat.mod_eq_of_lt (by omega)
 show IntKind.u32.wrap ((BitVec.ofInt 32 (a:Int)&&&BitVec.ofInt 32 (b:Int)).toNat:Int)=_
 rw[BitVec.toNat_and,h1,h2,show∀n:Int,IntKind.u32.wrap n=n%4294967296 from fun n=>rfl]
 omega
theorem bits_or32 {a b:Nat} (ha:a<4294967296) (hb:b<4294967296):bits .or .u32 (a:Int) (b:Int)=((a|||b:Nat):Int):=by
 have hx:a|||b<2^32:=Nat.or_lt_two_pow (by omega) (by omega)
 have h1:(BitVec.ofInt 32 (a:Int)).toNat=a:=by rw[BitVec.ofInt_natCast,BitVec.toNat_ofNat];exact Nat.mod_eq_of_lt (by omega)
 have h2:(BitVec.ofInt 32 (b:Int)).toNat=b:=by rw[BitVec.ofInt_natCast,BitVec.toNat_ofNat];exact Nat.mod_eq_of_lt (by omega)
 show IntKind.u32.wrap ((BitVec.ofInt 32 (a:Int)|||BitVec.ofInt 32 (b:Int)).toNat:Int)=_
 rw[BitVec.toNat_or,h1,h2,show∀n:Int,IntKind.u32.wrap n=n%4294967296 from fun n=>rfl]
 omega
theorem bits_or64 {a b:Nat} (ha:a<18446744073709551616) (hb:b<18446744073709551616):bits .or .u64 (a:Int) (b:Int)=((a|||b:Nat):Int):=by
 have hx:a|||b<2^64:=Nat.or_lt_two_pow (by omega) (by omega)
 have h1:(BitVec.ofInt 64 (a:Int)).toNat=a:=by rw[BitVec.ofInt_natCast,BitVec.toNat_ofNat];exact Nat.mod_eq_of_lt (by omega)
 have h2:(BitVec.ofInt 64 (b:Int)).toNat=b:=by rw[BitVec.ofInt_natCast,BitVec.toNat_ofNat];exact Nat.mod_eq_of_lt (by omega)
 show IntKind.u64.wrap ((BitVec.ofInt 64 (a:Int)|||BitVec.ofInt 64 (b:Int)).toNat:Int)=_
 rw[BitVec.toNat_or,h1,h2,show∀n:Int,IntKind.u64.wrap n=n%18446744073709551616 from fun n=>rfl]
 omega
theorem and1 {a:Nat} (ha:a<4294967296):bits .and .u32 (a:Int) 1=((a%2:Nat):Int):=by
 rw[show(1:Int)=((1:Nat):Int) from rfl,bits_and32 ha (by omega),Nat.and_one_is_mod]
theorem or_add {a b k:Nat} (h:a<2^k):a|||2^k*b=a+2^k*b:=by
 rw[Nat.or_comm,←Nat.two_pow_add_eq_or_of_lt h,Nat.add_comm]
theorem bits_xor32 {a b:Nat} (ha:a<4294967296) (hb:b<4294967296):bits .xor .u32 (a:Int) (b:Int)=((a^^^b:Nat):Int):=by
 have hx:a^^^b<2^32:=Nat.xor_lt_two_pow (by omega) (by omega)
 have h1:(BitVec.ofInt 32 (a:Int)).toNat=a:=by rw[BitVec.ofInt_natCast,BitVec.toNat_ofNat];exact Nat.mod_eq_of_lt (by omega)
 have h2:(BitVec.ofInt 32 (b:Int)).toNat=b:=by rw[BitVec.ofInt_natCast,BitVec.toNat_ofNat];exact Nat.mod_eq_of_lt (by omega)
 show IntKind.u32.wrap ((BitVec.ofInt 32 (a:Int)^^^BitVec.ofInt 32 (b:Int)).toNat:Int)=_
 rw[BitVec.toNat_xor,h1,h2,show∀n:Int,IntKind.u32.wrap n=n%4294967296 from fun n=>rfl]
 omega
theorem high_bit {z:Nat} (h:z<4294967296):z.testBit 31=decide (2147483648≤z):=by
 rw[Nat.testBit_eq_decide_div_mod_eq]
 exact decide_eq_decide.2 (by omega)
theorem borrow_bit {x y b:Nat} (hx:x<4294967296) (hy:y<4294967296) (hb:b≤1):
  (((4294967295^^^x)&&&y)|||((4294967295^^^(x^^^y))&&&((x+8589934592-y-b)%4294967296)))/2147483648=if x<y+b then 1 else 0:=by
 have hd:(x+8589934592-y-b)%4294967296<4294967296:=Nat.mod_lt _ (by omega)
 generalize hD:(x+8589934592-y-b)%4294967296=D at *
 have hz:(((4294967295^^^x)&&&y)|||((4294967295^^^(x^^^y))&&&D))<2^32:=Nat.or_lt_two_pow (Nat.and_lt_two_pow _ (by omega)) (Nat.and_lt_two_pow _ (by omega))
 have ht:=high_bit (z:=((4294967295^^^x)&&&y)|||((4294967295^^^(x^^^y))&&&D)) (by omega)
 rw[Nat.testBit_or,Nat.testBit_and,Nat.testBit_and,Nat.testBit_xor,Nat.testBit_xor,Nat.testBit_xor,high_bit hx,high_bit hy,high_bit hd,show Nat.testBit 4294967295 31=true by decide] at ht
 generalize ((4294967295^^^x)&&&y)|||((4294967295^^^(x^^^y))&&&D)=z at *
 by_cases h1:2147483648≤x<;>by_cases h2:2147483648≤y<;>by_cases h3:2147483648≤D<;>simp[h1,h2,h3] at ht<;>split<;>omega
end Go.Proofs.YtfengpdaocgcnaaGreatDoor
namespace Go.Proofs
open Go.Shelf
def Tryz.lays128_ren:Go.Shelf.Ren:=⟨fun|128=>142|n=>n,fun|51=>156|3=>3|4=>4|46=>89|5=>5|9=>9|n=>n,fun|n=>n⟩
theorem Tryz.lays128:Go.Proofs.Lays.n128 Tryz.prog Tryz.lays128_ren:={
 mixed:=by kernel_rfl
 f128:=Tryz.func142.trans (congrArg some (by kernel_rfl))
 t3:=Tryz.underlying3
 a3:=Tryz.isAgg3
 z3:=Tryz.sizeOf3
 v3:=Tryz.zeroValue3
 t4:=Tryz.underlying4
 a4:=Tryz.isAgg4
 z4:=Tryz.sizeOf4
 v4:=Tryz.zeroValue4
 t5:=Tryz.underlying5
 a5:=Tryz.isAgg5
 z5:=Tryz.sizeOf5
 v5:=Tryz.zeroValue5
 t9:=Tryz.underlying9
 a9:=Tryz.isAgg9
 z9:=Tryz.sizeOf9
 v9:=Tryz.zeroValue9
 t46:=Tryz.underlying89
 a46:=Tryz.isAgg89
 z46:=Tryz.sizeOf89
 v46:=Tryz.zeroValue89
 t51:=Tryz.underlying156
 a51:=Tryz.isAgg156
 z51:=Tryz.sizeOf156
 v51:=Tryz.zeroValue156}
theorem Tryz.bits_Len32 (x:Int) (w:World) (h0:0≤x) (h1:x≤4294967295):
  Calls Tryz.prog 142 #[.int .u32 x] w fun e w'=>e= .returned (.int .i64 (Lib.bitLen x.toNat))∧w'=w:=Any.bits_Len32 Tryz.lays128 x w h0 h1
def Tryz.lays133_ren:Go.Shelf.Ren:=⟨fun|133=>281|128=>142|n=>n,fun|51=>156|3=>3|4=>4|46=>89|5=>5|9=>9|n=>n,fun|n=>n⟩
theorem Tryz.lays133:Go.Proofs.Lays.n133 Tryz.prog Tryz.lays133_ren:={
 mixed:=by kernel_rfl
 f128:=Tryz.func142.trans (congrArg some (by kernel_rfl))
 f133:=Tryz.func281.trans (congrArg some (by kernel_rfl))
 t3:=Tryz.underlying3
 a3:=Tryz.isAgg3
 z3:=Tryz.sizeOf3
 v3:=Tryz.zeroValue3
 t4:=Tryz.underlying4
 a4:=Tryz.isAgg4
 z4:=Tryz.sizeOf4
 v4:=Tryz.zeroValue4
 t5:=Tryz.underlying5
 a5:=Tryz.isAgg5
 z5:=Tryz.sizeOf5
 v5:=Tryz.zeroValue5
 t9:=Tryz.underlying9
 a9:=Tryz.isAgg9
 z9:=Tryz.sizeOf9
 v9:=Tryz.zeroValue9
 t46:=Tryz.underlying89
 a46:=Tryz.isAgg89
 z46:=Tryz.sizeOf89
 v46:=Tryz.zeroValue89
 t51:=Tryz.underlying156
 a51:=Tryz.isAgg156
 z51:=Tryz.sizeOf156
 v51:=Tryz.zeroValue156}
theorem Tryz.bits_LeadingZeros32 (x:Int) (w:World) (h0:0≤x) (h1:x≤4294967295):
  Calls Tryz.prog 281 #[.int .u32 x] w fun e w'=>e= .returned (.int .i64 (32-(Lib.bitLen x.toNat:Int)))∧w'=w:=Any.bits_LeadingZeros32 Tryz.lays133 x w h0 h1
def Tryz.laysM171_ren:Go.Shelf.Ren:=⟨fun|171=>51|243=>88|246=>137|283=>190|284=>191|285=>192|286=>193|129=>229|317=>228|318=>230|319=>231|320=>232|337=>255|338=>256|n=>n,fun|3=>3|9=>9|2=>2|4=>4|171=>212|0=>0|53=>137|37=>24|5=>5|173=>215|212=>241|51=>156|20=>20|213=>242|46=>89|232=>270|233=>271|n=>n,fun|17=>4|18=>7|19=>8|n=>n⟩
theorem Tryz.laysM171:Go.Proofs.LaysM.n171 Tryz.prog Tryz.laysM171_ren:={
 mixed:=by kernel_rfl
 f129:=Tryz.func229.trans (congrArg some (by kernel_rfl))
 f171:=Tryz.func51.trans (congrArg some (by kernel_rfl))
 f243:=Tryz.func88.trans (congrArg some (by kernel_rfl))
 f246:=Tryz.func137.trans (congrArg some (by kernel_rfl))
 f283:=Tryz.func190.trans (congrArg some (by kernel_rfl))
 f284:=Tryz.func191.trans (congrArg some (by kernel_rfl))
 f285:=Tryz.func192.trans (congrArg some (by kernel_rfl))
 f286:=Tryz.func193.trans (congrArg some (by kernel_rfl))
 f317:=Tryz.func228.trans (congrArg some (by kernel_rfl))
 f318:=Tryz.func230.trans (congrArg some (by kernel_rfl))
 f319:=Tryz.func231.trans (congrArg some (by kernel_rfl))
 f320:=Tryz.func232.trans (congrArg some (by kernel_rfl))
 f337:=Tryz.func255.trans (congrArg some (by kernel_rfl))
 f338:=Tryz.func256.trans (congrArg some (by kernel_rfl))
 t0:=Tryz.underlying0
 a0:=Tryz.isAgg0
 z0:=Tryz.sizeOf0
 v0:=Tryz.zeroValue0
 t2:=Tryz.underlying2
 a2:=Tryz.isAgg2
 z2:=Tryz.sizeOf2
 v2:=Tryz.zeroValue2
 t3:=Tryz.underlying3
 a3:=Tryz.isAgg3
 z3:=Tryz.sizeOf3
 v3:=Tryz.zeroValue3
 t4:=Tryz.underlying4
 a4:=Tryz.isAgg4
 z4:=Tryz.sizeOf4
 v4:=Tryz.zeroValue4
 t5:=Tryz.underlying5
 a5:=Tryz.isAgg5
 z5:=Tryz.sizeOf5
 v5:=Tryz.zeroValue5
 t9:=Tryz.underlying9
 a9:=Tryz.isAgg9
 z9:=Tryz.sizeOf9
 v9:=Tryz.zeroValue9
 t20:=Tryz.underlying20
 a20:=Tryz.isAgg20
 z20:=Tryz.sizeOf20
 v20:=Tryz.zeroValue20
 t37:=Tryz.underlying24
 a37:=Tryz.isAgg24
 z37:=Tryz.sizeOf24
 v37:=Tryz.zeroValue24
 t46:=Tryz.underlying89
 a46:=Tryz.isAgg89
 z46:=Tryz.sizeOf89
 v46:=Tryz.zeroValue89
 t51:=Tryz.underlying156
 a51:=Tryz.isAgg156
 z51:=Tryz.sizeOf156
 v51:=Tryz.zeroValue156
 t53:=Tryz.underlying137
 a53:=Tryz.isAgg137
 z53:=Tryz.sizeOf137
 v53:=Tryz.zeroValue137
 t171:=Tryz.underlying212
 a171:=Tryz.isAgg212
 z171:=Tryz.sizeOf212
 v171:=Tryz.zeroValue212
 t173:=Tryz.underlying215
 a173:=Tryz.isAgg215
 z173:=Tryz.sizeOf215
 v173:=Tryz.zeroValue215
 t212:=Tryz.underlying241
 a212:=Tryz.isAgg241
 z212:=Tryz.sizeOf241
 v212:=Tryz.zeroValue241
 t213:=Tryz.underlying242
 a213:=Tryz.isAgg242
 z213:=Tryz.sizeOf242
 t232:=Tryz.underlying270
 a232:=Tryz.isAgg270
 z232:=Tryz.sizeOf270
 v232:=Tryz.zeroValue270
 t233:=Tryz.underlying271
 a233:=Tryz.isAgg271
 z233:=Tryz.sizeOf271
 v233:=Tryz.zeroValue271
 g17:=by kernel_rfl
 g18:=by kernel_rfl
 g19:=by kernel_rfl
 i0:=by kernel_rfl
 i2:=by kernel_rfl
 i3:=by kernel_rfl
 i4:=by kernel_rfl
 i5:=by kernel_rfl
 i9:=by kernel_rfl
 i20:=by kernel_rfl
 i37:=by kernel_rfl
 i46:=by kernel_rfl
 i51:=by kernel_rfl
 i53:=by kernel_rfl
 i171:=by kernel_rfl
 i173:=by kernel_rfl
 i212:=by kernel_rfl
 i232:=by kernel_rfl
 i233:=by kernel_rfl
 m17:=by kernel_rfl
 m18:=by kernel_rfl
 m19:=by kernel_rfl}
open Go.RowKit Go.Sort Go.Lib in
theorem Tryz.strconv_Itoa (n:Int) (h0: -9223372036854775808≤n) (h1:n≤9223372036854775807) (w:World) (htab:Lib.TabIs Tryz.prog w "internal/strconv.uint64pow10" .u64 Lib.pow10Tab):
  Calls Tryz.prog 51 #[.int .i64 n] w fun e w'=>e= .returned (.string ⟨(Lib.itoa n).toArray⟩)∧ ∃k os,w'=grow (w.drewN k) os:=Any.strconv_Itoa Tryz.laysM171 n h0 h1 w htab
def Tryz.laysC172_ren:Go.Shelf.Ren:=⟨fun|172=>167|244=>214|245=>215|247=>246|279=>247|280=>248|281=>249|282=>250|287=>264|316=>265|171=>51|205=>266|321=>275|322=>276|243=>88|246=>137|283=>190|284=>191|285=>192|286=>193|129=>229|317=>228|318=>230|319=>231|320=>232|337=>255|338=>256|n=>n,fun|9=>9|3=>3|75=>65|76=>66|4=>4|5=>5|167=>251|37=>24|0=>0|85=>252|2=>2|168=>254|53=>137|175=>264|46=>89|210=>268|127=>113|145=>286|143=>284|21=>21|171=>212|173=>215|212=>241|51=>156|20=>20|213=>242|232=>270|233=>271|80=>68|n=>n,fun|15=>5|16=>6|17=>4|18=>7|19=>8|n=>n⟩
theorem Tryz.laysC172:Go.Proofs.LaysC.n172 Tryz.prog Tryz.laysC172_ren:={
 mixed:=by kernel_rfl
 f129:=Tryz.func229.trans (congrArg some (by kernel_rfl))
 f171:=Tryz.func51.trans (congrArg some (by kernel_rfl))
 f172:=Tryz.func167.trans (congrArg some (by kernel_rfl))
 f205:=Tryz.func266.trans (congrArg some (by kernel_rfl))
 f243:=Tryz.func88.trans (congrArg some (by kernel_rfl))
 f244:=Tryz.func214.trans (congrArg some (by kernel_rfl))
 f245:=Tryz.func215.trans (congrArg some (by kernel_rfl))
 f246:=Tryz.func137.trans (congrArg some (by kernel_rfl))
 f247:=Tryz.func246.trans (congrArg some (by kernel_rfl))
 f279:=Tryz.func247.trans (congrArg some (by kernel_rfl))
 f280:=Tryz.func248.trans (congrArg some (by kernel_rfl))
 f281:=Tryz.func249.trans (congrArg some (by kernel_rfl))
 f282:=Tryz.func250.trans (congrArg some (by kernel_rfl))
 f283:=Tryz.func190.trans (congrArg some (by kernel_rfl))
 f284:=Tryz.func191.trans (congrArg some (by kernel_rfl))
 f285:=Tryz.func192.trans (congrArg some (by kernel_rfl))
 f286:=Tryz.func193.trans (congrArg some (by kernel_rfl))
 f287:=Tryz.func264.trans (congrArg some (by kernel_rfl))
 f316:=Tryz.func265.trans (congrArg some (by kernel_rfl))
 f317:=Tryz.func228.trans (congrArg some (by kernel_rfl))
 f318:=Tryz.func230.trans (congrArg some (by kernel_rfl))
 f319:=Tryz.func231.trans (congrArg some (by kernel_rfl))
 f320:=Tryz.func232.trans (congrArg some (by kernel_rfl))
 f321:=Tryz.func275.trans (congrArg some (by kernel_rfl))
 f322:=Tryz.func276.trans (congrArg some (by kernel_rfl))
 f337:=Tryz.func255.trans (congrArg some (by kernel_rfl))
 f338:=Tryz.func256.trans (congrArg some (by kernel_rfl))
 t0:=Tryz.underlying0
 a0:=Tryz.isAgg0
 z0:=Tryz.sizeOf0
 v0:=Tryz.zeroValue0
 t2:=Tryz.underlying2
 a2:=Tryz.isAgg2
 z2:=Tryz.sizeOf2
 v2:=Tryz.zeroValue2
 t3:=Tryz.underlying3
 a3:=Tryz.isAgg3
 z3:=Tryz.sizeOf3
 v3:=Tryz.zeroValue3
 t4:=Tryz.underlying4
 a4:=Tryz.isAgg4
 z4:=Tryz.sizeOf4
 v4:=Tryz.zeroValue4
 t5:=Tryz.underlying5
 a5:=Tryz.isAgg5
 z5:=Tryz.sizeOf5
 v5:=Tryz.zeroValue5
 t9:=Tryz.underlying9
 a9:=Tryz.isAgg9
 z9:=Tryz.sizeOf9
 v9:=Tryz.zeroValue9
 t20:=Tryz.underlying20
 a20:=Tryz.isAgg20
 z20:=Tryz.sizeOf20
 v20:=Tryz.zeroValue20
 t21:=Tryz.underlying21
 a21:=Tryz.isAgg21
 z21:=Tryz.sizeOf21
 v21:=Tryz.zeroValue21
 t37:=Tryz.underlying24
 a37:=Tryz.isAgg24
 z37:=Tryz.sizeOf24
 v37:=Tryz.zeroValue24
 t46:=Tryz.underlying89
 a46:=Tryz.isAgg89
 z46:=Tryz.sizeOf89
 v46:=Tryz.zeroValue89
 t51:=Tryz.underlying156
 a51:=Tryz.isAgg156
 z51:=Tryz.sizeOf156
 v51:=Tryz.zeroValue156
 t53:=Tryz.underlying137
 a53:=Tryz.isAgg137
 z53:=Tryz.sizeOf137
 v53:=Tryz.zeroValue137
 t75:=Tryz.underlying65
 a75:=Tryz.isAgg65
 z75:=Tryz.sizeOf65
 v75:=Tryz.zeroValue65
 t76:=Tryz.underlying66
 a76:=Tryz.isAgg66
 z76:=Tryz.sizeOf66
 v76:=Tryz.zeroValue66
 t85:=Tryz.underlying252
 a85:=Tryz.isAgg252
 z85:=Tryz.sizeOf252
 v85:=Tryz.zeroValue252
 t127:=Tryz.underlying113
 a127:=Tryz.isAgg113
 z127:=Tryz.sizeOf113
 v127:=Tryz.zeroValue113
 t143:=Tryz.underlying284
 a143:=Tryz.isAgg284
 z143:=Tryz.sizeOf284
 v143:=Tryz.zeroValue284
 t145:=Tryz.underlying286
 a145:=Tryz.isAgg286
 z145:=Tryz.sizeOf286
 v145:=Tryz.zeroValue286
 t167:=Tryz.underlying251
 a167:=Tryz.isAgg251
 z167:=Tryz.sizeOf251
 v167:=Tryz.zeroValue251
 t168:=Tryz.underlying254
 a168:=Tryz.isAgg254
 z168:=Tryz.sizeOf254
 v168:=Tryz.zeroValue254
 t171:=Tryz.underlying212
 a171:=Tryz.isAgg212
 z171:=Tryz.sizeOf212
 v171:=Tryz.zeroValue212
 t173:=Tryz.underlying215
 a173:=Tryz.isAgg215
 z173:=Tryz.sizeOf215
 v173:=Tryz.zeroValue215
 t175:=Tryz.underlying264
 a175:=Tryz.isAgg264
 z175:=Tryz.sizeOf264
 v175:=Tryz.zeroValue264
 t210:=Tryz.underlying268
 a210:=Tryz.isAgg268
 z210:=Tryz.sizeOf268
 v210:=Tryz.zeroValue268
 t212:=Tryz.underlying241
 a212:=Tryz.isAgg241
 z212:=Tryz.sizeOf241
 v212:=Tryz.zeroValue241
 t213:=Tryz.underlying242
 a213:=Tryz.isAgg242
 z213:=Tryz.sizeOf242
 t232:=Tryz.underlying270
 a232:=Tryz.isAgg270
 z232:=Tryz.sizeOf270
 v232:=Tryz.zeroValue270
 t233:=Tryz.underlying271
 a233:=Tryz.isAgg271
 z233:=Tryz.sizeOf271
 v233:=Tryz.zeroValue271
 g15:=by kernel_rfl
 g16:=by kernel_rfl
 g17:=by kernel_rfl
 g18:=by kernel_rfl
 g19:=by kernel_rfl
 t80:=Tryz.underlying68
 a80:=Tryz.isAgg68
 z80:=Tryz.sizeOf68
 v80:=Tryz.zeroValue68
 i0:=by kernel_rfl
 i2:=by kernel_rfl
 i3:=by kernel_rfl
 i4:=by kernel_rfl
 i5:=by kernel_rfl
 i9:=by kernel_rfl
 i20:=by kernel_rfl
 i21:=by kernel_rfl
 i37:=by kernel_rfl
 i46:=by kernel_rfl
 i51:=by kernel_rfl
 i53:=by kernel_rfl
 i75:=by kernel_rfl
 i76:=by kernel_rfl
 i80:=by kernel_rfl
 i85:=by kernel_rfl
 i127:=by kernel_rfl
 i143:=by kernel_rfl
 i145:=by kernel_rfl
 i167:=by kernel_rfl
 i168:=by kernel_rfl
 i171:=by kernel_rfl
 i173:=by kernel_rfl
 i175:=by kernel_rfl
 i210:=by kernel_rfl
 i212:=by kernel_rfl
 i232:=by kernel_rfl
 i233:=by kernel_rfl
 m15:=by kernel_rfl
 m16:=by kernel_rfl
 m17:=by kernel_rfl
 m18:=by kernel_rfl
 m19:=by kernel_rfl
 c0:=by kernel_rfl
 c2:=by kernel_rfl
 c3:=by kernel_rfl
 c4:=by kernel_rfl
 c5:=by kernel_rfl
 c9:=by kernel_rfl
 c20:=by kernel_rfl
 c21:=by kernel_rfl
 c37:=by kernel_rfl
 c46:=by kernel_rfl
 c51:=by kernel_rfl
 c53:=by kernel_rfl
 c75:=by kernel_rfl
 c76:=by kernel_rfl
 c80:=by kernel_rfl
 c85:=by kernel_rfl
 c127:=by kernel_rfl
 c143:=by kernel_rfl
 c145:=by kernel_rfl
 c167:=by kernel_rfl
 c168:=by kernel_rfl
 c171:=by kernel_rfl
 c173:=by kernel_rfl
 c175:=by kernel_rfl
 c210:=by kernel_rfl
 c212:=by kernel_rfl
 c213:=by kernel_rfl
 c232:=by kernel_rfl
 c233:=by kernel_rfl}
open Go.RowKit in
theorem Tryz.strconv_Atoi_ok (s:ByteArray) (hmax:s.size≤9223372036854775806) (v:Int) (h:Lib.atoiAll s.data.toList= .ok v) (w:World):
  Calls Tryz.prog 167 #[.string s] w fun e w'=>e= .returned (.tuple #[.int .i64 v, .nilIface])∧(w'=w∨ ∃t,w'=Lib.bytesWorld w 5 t):=Any.strconv_Atoi_ok Tryz.laysC172 s hmax v h w
open Go.RowKit in
theorem Tryz.strconv_Atoi_syntax (s:ByteArray) (hlim:s.size≤281474976710656) (h:Lib.atoiAll s.data.toList=Lib.NumEnd.syntax) (ev:Value) (w:World) (hv:w.cell? ⟨5,0,none⟩=some ev) (hev:ev= .nilIface∨ ∃te pe,ev= .iface te pe):
  Calls Tryz.prog 167 #[.string s] w fun e w'=> ∃N,e= .returned (.tuple #[.int .i64 (0), .iface 254 (.pointer (some ⟨N,0,none⟩))])∧w.heap.size≤N∧w'.heap[N]?=some (.cells #[.string ⟨#[65,116,111,105]⟩, .string s,ev] 268 (0,0))∧Below w.heap.size w w':=Any.strconv_Atoi_syntax Tryz.laysC172 s hlim h ev w hv hev
open Go.RowKit in
theorem Tryz.strconv_Atoi_range (s:ByteArray) (hlim:s.size≤281474976710656) (h:Lib.atoiAll s.data.toList= .range) (ev:Value) (w:World) (hv:w.cell? ⟨6,0,none⟩=some ev) (hev:ev= .nilIface∨ ∃te pe,ev= .iface te pe):
  Calls Tryz.prog 167 #[.string s] w fun e w'=> ∃N,e= .returned (.tuple #[.int .i64 (Lib.atoiSat s.data.toList), .iface 254 (.pointer (some ⟨N,0,none⟩))])∧w.heap.size≤N∧w'.heap[N]?=some (.cells #[.string ⟨#[65,116,111,105]⟩, .string s,ev] 268 (0,0))∧Below w.heap.size w w':=Any.strconv_Atoi_range Tryz.laysC172 s hlim h ev w hv hev
def Tryz.lays146_ren:Go.Shelf.Ren:=⟨fun|146=>103|221=>166|268=>211|138=>212|143=>213|195=>243|197=>244|218=>245|219=>134|260=>263|217=>135|225=>186|224=>187|267=>188|266=>189|314=>227|n=>n,fun|9=>9|31=>88|3=>3|4=>4|0=>0|105=>249|21=>21|5=>5|46=>89|119=>278|139=>281|138=>280|146=>238|51=>156|n=>n,fun|1=>1|3=>9|4=>10|n=>n⟩
theorem Tryz.lays146:Go.Proofs.Lays.n146 Tryz.prog Tryz.lays146_ren:={
 mixed:=by kernel_rfl
 f138:=Tryz.func212.trans (congrArg some (by kernel_rfl))
 f143:=Tryz.func213.trans (congrArg some (by kernel_rfl))
 f146:=Tryz.func103.trans (congrArg some (by kernel_rfl))
 f195:=Tryz.func243.trans (congrArg some (by kernel_rfl))
 f197:=Tryz.func244.trans (congrArg some (by kernel_rfl))
 f217:=Tryz.func135.trans (congrArg some (by kernel_rfl))
 f218:=Tryz.func245.trans (congrArg some (by kernel_rfl))
 f219:=Tryz.func134.trans (congrArg some (by kernel_rfl))
 f221:=Tryz.func166.trans (congrArg some (by kernel_rfl))
 f224:=Tryz.func187.trans (congrArg some (by kernel_rfl))
 f225:=Tryz.func186.trans (congrArg some (by kernel_rfl))
 f260:=Tryz.func263.trans (congrArg some (by kernel_rfl))
 f266:=Tryz.func189.trans (congrArg some (by kernel_rfl))
 f267:=Tryz.func188.trans (congrArg some (by kernel_rfl))
 f268:=Tryz.func211.trans (congrArg some (by kernel_rfl))
 f314:=Tryz.func227.trans (congrArg some (by kernel_rfl))
 t0:=Tryz.underlying0
 a0:=Tryz.isAgg0
 z0:=Tryz.sizeOf0
 v0:=Tryz.zeroValue0
 t3:=Tryz.underlying3
 a3:=Tryz.isAgg3
 z3:=Tryz.sizeOf3
 v3:=Tryz.zeroValue3
 t4:=Tryz.underlying4
 a4:=Tryz.isAgg4
 z4:=Tryz.sizeOf4
 v4:=Tryz.zeroValue4
 t5:=Tryz.underlying5
 a5:=Tryz.isAgg5
 z5:=Tryz.sizeOf5
 v5:=Tryz.zeroValue5
 t9:=Tryz.underlying9
 a9:=Tryz.isAgg9
 z9:=Tryz.sizeOf9
 v9:=Tryz.zeroValue9
 t21:=Tryz.underlying21
 a21:=Tryz.isAgg21
 z21:=Tryz.sizeOf21
 v21:=Tryz.zeroValue21
 t31:=Tryz.underlying88
 a31:=Tryz.isAgg88
 z31:=Tryz.sizeOf88
 v31:=Tryz.zeroValue88
 t46:=Tryz.underlying89
 a46:=Tryz.isAgg89
 z46:=Tryz.sizeOf89
 v46:=Tryz.zeroValue89
 t51:=Tryz.underlying156
 a51:=Tryz.isAgg156
 z51:=Tryz.sizeOf156
 v51:=Tryz.zeroValue156
 t105:=Tryz.underlying249
 a105:=Tryz.isAgg249
 z105:=Tryz.sizeOf249
 v105:=Tryz.zeroValue249
 t119:=Tryz.underlying278
 a119:=Tryz.isAgg278
 z119:=Tryz.sizeOf278
 t138:=Tryz.underlying280
 a138:=Tryz.isAgg280
 z138:=Tryz.sizeOf280
 v138:=Tryz.zeroValue280
 t139:=Tryz.underlying281
 a139:=Tryz.isAgg281
 z139:=Tryz.sizeOf281
 v139:=Tryz.zeroValue281
 t146:=Tryz.underlying238
 a146:=Tryz.isAgg238
 z146:=Tryz.sizeOf238
 v146:=Tryz.zeroValue238
 g1:=by kernel_rfl
 g3:=by kernel_rfl
 g4:=by kernel_rfl}
open Go.RowKit Go.Lib in
theorem Tryz.strings_Split (s sep:ByteArray) (m:Int) (w:World) (hs:s.size<4294967281) (hm:w.cell? ⟨1,0,none⟩=some (.int .i64 m)) (h1:1≤sep.size):
  Calls Tryz.prog 103 #[.string s, .string sep] w fun e w'=>
   e= .returned (.slice (some ⟨w.heap.size,0,none⟩) (Lib.countB s sep+1) (Lib.countB s sep+1))∧w'=w.alloc (.cells ((Lib.splitB sep 0 (Lib.countB s sep) s).map Value.string).toArray 9):=Any.strings_Split Tryz.lays146 (by kernel_rfl) s sep m w hs hm h1
end Go.Proofs
namespace Go.Proofs.YtfengpdaocgcnaaGreatDoor
open Nat (reduceMul reduceLeDiff reduceEqDiff reduceLT reduceAdd reduceSub reduceDiv)
open Int (reduceToNat reducePow)
open Go.RowKit
set_option linter.unusedSimpArgs false
set_option maxRecDepth 100000
theorem len32_fn (J:Inv) (x:Nat) (hx:x<4294967296):Fn Tryz.prog J 142 false [.val (.int .u32 x)] (.i (bl x)):=by
 refine⟨⟨_,Tryz.func142,by kernel_rfl,by kernel_rfl⟩,fun w F vs hI hF hlen hvs=> ?_⟩
 obtain⟨y,rfl⟩: ∃y,vs=[y]:=List.length_eq_one_iff.1 hlen
 obtain rfl:=rep_val (hvs 0 _ y rfl rfl)
 refine(Tryz.bits_Len32 (x:Int) w (by omega) (by omega)).mono fun e w' he=> ?_
 obtain⟨rfl,rfl⟩:=he
 refine⟨_,rfl,Ext.refl _,?_⟩
 rw[Int.toNat_natCast,bitLen_bl hx]
 exact .val _
theorem lz32_fn (J:Inv) (x:Nat) (hx:x<4294967296):Fn Tryz.prog J 281 false [.val (.int .u32 x)] (.i (32-(bl x:Int))):=by
 refine⟨⟨_,Tryz.func281,by kernel_rfl,by kernel_rfl⟩,fun w F vs hI hF hlen hvs=> ?_⟩
 obtain⟨y,rfl⟩: ∃y,vs=[y]:=List.length_eq_one_iff.1 hlen
 obtain rfl:=rep_val (hvs 0 _ y rfl rfl)
 refine(Tryz.bits_LeadingZeros32 (x:Int) w (by omega) (by omega)).mono fun e w' he=> ?_
 obtain⟨rfl,rfl⟩:=he
 refine⟨_,rfl,Ext.refl _,?_⟩
 rw[Int.toNat_natCast,bitLen_bl hx]
 exact .val _
def SGaf:FuncId→List V→CR:=fun f args=>tab [(141,cW fun a=>cF [a.length≤1073741824,W32 a] false (wV (dg (vl a)))),
 (143,cW fun a=>cF [a.length≤1073741824,W32 a] false (wV (dg (vl a)))),
 (142,cI .u32 fun x=>cF [0≤x,x<4294967296] false (.i (bl x.toNat))),
 (281,cI .u32 fun x=>cF [0≤x,x<4294967296] false (.i (32-(bl x.toNat:Int))))] noF f args
def SGa (J:Inv):Sig:=⟨J,sdf,SGaf,noH,0⟩
theorem SGa_ok (J:Inv):SigOk Tryz.prog (SGa J):= .plain (tab_ok (.c (.w fun a=> .z fun⟨c0,c1,_⟩=>(by have h:=value_fn J a c0;rwa [trim_dg c1] at h))<|
 .c (.w fun a=> .z fun⟨c0,c1,_⟩=>(by have h:=proper_fn J a c0;rwa [trim_dg c1] at h))<|
 .c (.i fun x=> .z fun⟨c0,_,_⟩=>(by have h:=len32_fn J x.toNat (by omega);rwa [Int.toNat_of_nonneg c0] at h))<|
 .c (.i fun x=> .z fun⟨c0,_,_⟩=>(by have h:=lz32_fn J x.toNat (by omega);rwa [Int.toNat_of_nonneg c0] at h))<| .n) noF_ok)
theorem bits_fn (J:Inv) (l:List Nat) (hl:l.length≤67108864) (hw:W32 l):Fn Tryz.prog J 92 false [wV l] (.i (bl (vl l))):=by
 refine fnI Tryz.func92 rfl (by kernel_rfl) rfl (SGa_ok J) ?_
 unfold Tryz.f92
 have ht:=trim_len l
 have hw2:=W32_trim hw
 have hid:=trim_idem l
 simp only[↓bE,bR,reduceEqDiff,reduceLT,↓reduceIte,reduceCtorEq,SGa,SGaf,wV,unW_wds]
 rw[←trim_dg hw,←vl_trim hw]
 generalize trim l=t at *
 rcases List.eq_nil_or_concat t with rfl|⟨t0,x,rfl⟩
 ·refine⟨by omega,hw,?_,?_⟩
  ·intro _;rw[show vl []=0 from rfl,bl_zero];rfl
  ·intro hb;simp at hb
 ·rw[List.concat_eq_append] at *
  have hx:x≠0:=by
   rintro rfl
   rw[trim_app_zero] at hid
   have h1:=trim_len t0
   rw[hid,List.length_append,List.length_singleton] at h1
   omega
  have hx2:x<4294967296:=hw2 x (List.mem_append_right _ (List.mem_singleton_self _))
  have hw3:W32 t0:=fun y hy=>hw2 y (List.mem_append_left _ hy)
  rw[bl_top hw3 hx]
  rw[List.length_append,List.length_singleton] at *
  have e1:(((t0.length+1:Nat):Int)-1).toNat=t0.length:=by omega
  have e2:(t0++[x]).getD t0.length 0=x:=by simp[List.getD_eq_getElem?_getD]
  have e3:bl x≤32:=bl_le_iff.2 (by omega)
  rw[e1,e2]
  refine⟨by omega,hw,?_,?_⟩
  ·intro hb;simp at hb;omega
  ·intro hb
   refine⟨by constructor<;>omega,by constructor<;>omega,by constructor<;>omega,by omega,by omega,by omega,by omega,by constructor<;>omega,by omega⟩
theorem bit_fn (J:Inv) (l:List Nat) (i:Int) (hi:I64 i) (hw:W32 l):Fn Tryz.prog J 165 false [wV l, .i i] (.bb (decide (0≤i)&&tb (vl l) i.toNat)):=by
 refine fnI Tryz.func165 rfl (by kernel_rfl) rfl (SGa_ok J) ?_
 unfold Tryz.f165
 simp only[↓bE,bR,reduceEqDiff,reduceLT,reduceAdd,↓reduceIte,reduceCtorEq,SGa,wV]
 have hi2:=hi.2
 by_cases h0:0≤i
 ·obtain⟨j,rfl⟩:=Int.eq_ofNat_of_zero_le h0
  refine⟨fun _=>by constructor<;>omega,fun _=>by omega,fun _=>by constructor<;>omega,fun _=>by omega,fun _=>by omega,fun _=>by omega,fun hb=>by simpa using hb,fun _=>by omega,fun _=>by omega,fun _=>by omega,?_⟩
  have e1:((j:Int)/32).toNat=j/32:=by omega
  have e2:((j:Int)%32).toNat=j%32:=by omega
  rw[e1,e2,if_pos (by omega),Int.toNat_natCast]
  by_cases hb:j/32<l.length
  ·rw[tb_word hw,bt_eq]
   have e3:decide (0≤(j:Int))=true:=by simp
   have e4:decide ((j:Int)/32<(l.length:Int))=true:=by simp;omega
   rw[e3,e4,show bits BinOp.and IntKind.u32 ((l.getD (j/32) 0:Nat)/2^(j%32):Int) 1=((l.getD (j/32) 0/2^(j%32)%2:Nat):Int) from ?_]
   ·rw[Bool.true_and,Bool.true_and]
    generalize l.getD (j/32) 0/2^(j%32)%2=u
    refine Bool.eq_iff_iff.2 ?_
    simp only[beq_iff_eq,Bool.true_and]
    omega
   ·rw[show((l.getD (j/32) 0:Nat)/2^(j%32):Int)=((l.getD (j/32) 0/2^(j%32):Nat):Int) by push_cast;rfl]
    exact and1 (Nat.lt_of_le_of_lt (Nat.div_le_self _ _) (hw.get _))
  ·have e4:decide ((j:Int)/32<(l.length:Int))=false:=by simp;omega
   rw[e4,tb_ge hw (by omega)]
   simp
 ·have e3:decide (0≤i)=false:=by simp;omega
  rw[e3]
  simp[h0]
end Go.Proofs.YtfengpdaocgcnaaGreatDoor
