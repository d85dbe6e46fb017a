/- How many bits a number has; its bits. Plain Lean. -/
import Derived.Test.YtfengpdaocgcnaaGreatDoorQ17
import Derived.Lib.BitFns
namespace Go.Proofs.YtfengpdaocgcnaaGreatDoor
def bl (n:Nat):Nat:=if h:n=0 then 0 else bl (n/2)+1
termination_by n
decreasing_by omega
theorem bl_zero:bl 0=0:=by rw[bl];simp
theorem bl_pos {n:Nat} (h:n≠0):bl n=bl (n/2)+1:=by rw[bl.eq_def n,dif_neg h]
theorem bl_eq_zero {n:Nat}:bl n=0↔n=0:=by
 constructor
 ·intro h
  by_cases h0:n=0
  ·exact h0
  ·rw[bl_pos h0] at h;omega
 ·rintro rfl;exact bl_zero
theorem bl_lt (n:Nat):n<2^bl n:=by
 induction n using Nat.strongRecOn with
 |_ n ih=>
  by_cases h:n=0
  ·rw[h,bl_zero];decide
  ·rw[bl_pos h,Nat.pow_succ]
   have:=ih (n/2) (by omega)
   omega
theorem bl_le {n:Nat} (h:n≠0):2^(bl n-1)≤n:=by
 induction n using Nat.strongRecOn with
 |_ n ih=>
  rw[bl_pos h,Nat.add_sub_cancel]
  by_cases h0:n/2=0
  ·rw[h0,bl_zero];omega
  ·have h1:=ih (n/2) (by omega) h0
   obtain⟨m,hm⟩: ∃m,bl (n/2)=m+1:=⟨bl (n/2)-1,by have:=mt bl_eq_zero.1 h0;omega⟩
   rw[hm] at h1⊢
   rw[Nat.add_sub_cancel] at h1
   rw[Nat.pow_succ];omega
theorem pow2_lt {a b:Nat} (h:2^a<2^b):a<b:=(Nat.pow_lt_pow_iff_right (by omega)).1 h
theorem bl_is {n k:Nat} (h1:2^k≤n) (h2:n<2^(k+1)):bl n=k+1:=by
 have hp:0<2^k:=Nat.pow_pos (by omega)
 have h0:n≠0:=by omega
 have h3:=bl_lt n
 have h4:=bl_le h0
 have h5:k<bl n:=pow2_lt (by omega)
 have h6:bl n-1<k+1:=pow2_lt (by omega)
 omega
theorem bl_le_iff {n k:Nat}:bl n≤k↔n<2^k:=by
 constructor
 ·intro h
  exact Nat.lt_of_lt_of_le (bl_lt n) (Nat.pow_le_pow_right (by omega) h)
 ·intro h
  by_cases h0:n=0
  ·rw[h0,bl_zero];omega
  ·have h1:=bl_le h0
   have h2:bl n-1<k:=pow2_lt (by omega)
   omega
theorem bitLen_aux: ∀(f x:Nat),x<2^f→Lib.bitLenAux f x=bl x
 |0,x,h=>by
  have:x=0:=by simpa using h
  rw[this,bl_zero];rfl
 |f+1,x,h=>by
  rw[Lib.bitLenAux]
  split
  ·rename_i h0;rw[h0,bl_zero]
  ·rename_i h0
   rw[bitLen_aux f (x/2) (by rw[Nat.pow_succ] at h;omega),bl_pos h0,Nat.add_comm]
theorem bitLen_bl {x:Nat} (h:x<4294967296):Lib.bitLen x=bl x:=bitLen_aux 64 x (Nat.lt_trans h (by decide))
theorem B_pow (k:Nat):4294967296^k=2^(32*k):=by rw[Nat.pow_mul]
theorem bl_top {l:List Nat} {x:Nat} (hl:W32 l) (hx:x≠0):bl (vl (l++[x]))=32*l.length+bl x:=by
 have h1:=vl_lt hl
 have h2:=bl_lt x
 have h3:=bl_le hx
 obtain⟨m,hm⟩: ∃m,bl x=m+1:=⟨bl x-1,by have:=mt bl_eq_zero.1 hx;omega⟩
 rw[hm] at h2 h3⊢
 rw[Nat.add_sub_cancel] at h3
 rw[vl_snoc,←Nat.add_assoc]
 refine bl_is ?_ ?_
 ·rw[Nat.pow_add,←B_pow]
  have:=Nat.mul_le_mul_left (4294967296^l.length) h3
  omega
 ·rw[Nat.add_assoc,Nat.pow_add,←B_pow]
  have h4:4294967296^l.length*(x+1)≤4294967296^l.length*2^(m+1):=Nat.mul_le_mul_left _ h2
  rw[Nat.mul_add,Nat.mul_one] at h4
  omega
def tb (n i:Nat):Bool:=n/2^i%2==1
theorem vl_split (l:List Nat) (j:Nat):vl l=vl (l.take j)+4294967296^j*vl (l.drop j):=by
 rcases Nat.lt_or_ge j l.length with h|h
 ·conv=>lhs;rw[←List.take_append_drop j l]
  rw[vl_app,List.length_take,Nat.min_eq_left (by omega)]
 ·rw[List.take_of_length_le h,List.drop_eq_nil_of_le h,vl,Nat.mul_zero,Nat.add_zero]
theorem vl_div {l:List Nat} (hl:W32 l) (j:Nat):vl l/4294967296^j=vl (l.drop j):=by
 rw[vl_split l j,Nat.add_comm,Nat.mul_add_div (pow_pos' j)]
 have h1:=vl_lt (hl.take j)
 have h2:4294967296^(l.take j).length≤4294967296^j:=Nat.pow_le_pow_right (by omega) (by rw[List.length_take];omega)
 rw[Nat.div_eq_of_lt (by omega),Nat.add_zero]
theorem tb_word {l:List Nat} (hl:W32 l) (i:Nat):tb (vl l) i=(l.getD (i/32) 0/2^(i%32)%2==1):=by
 unfold tb
 have e:2^i=4294967296^(i/32)*2^(i%32):=by rw[B_pow,←Nat.pow_add];congr 1;omega
 rw[e,←Nat.div_div_eq_div_mul,vl_div hl]
 rcases Nat.lt_or_ge (i/32) l.length with h|h
 ·rw[List.drop_eq_getElem_cons h,vl,getD_lt h]
  obtain⟨r,hr⟩: ∃r,i%32+(r+1)=32:=⟨31-i%32,by omega⟩
  have e2:(4294967296:Nat)=2^(i%32)*(2*2^r):=by
   rw[show(2:Nat)*2^r=2^(r+1) from by rw[Nat.pow_succ,Nat.mul_comm],←Nat.pow_add,hr]
  have e3:l[i/32]+4294967296*vl (l.drop (i/32+1))=l[i/32]+2^(i%32)*(2*(2^r*vl (l.drop (i/32+1)))):=by
   rw[show 4294967296*vl (l.drop (i/32+1))=2^(i%32)*(2*2^r)*vl (l.drop (i/32+1)) from by rw[←e2]]
   grind
  rw[e3,Nat.add_mul_div_left _ _ (Nat.pow_pos (by omega)),Nat.add_mul_mod_self_left]
 ·rw[List.drop_eq_nil_of_le h,vl,getD_ge h]
theorem tb_ge {l:List Nat} (hl:W32 l) {i:Nat} (h:l.length≤i/32):tb (vl l) i=false:=by
 rw[tb_word hl,getD_ge h];simp
theorem bits_and32 {a b:Nat} (ha:a<4294967296) (hb:b<4294967296):bits .and .u32 (a:Int) (b:Int)=((a&&&b:Nat):Int):=by
 have hx:a&&&b<2^32:=Nat.and_lt_two_pow _ (by omega)
 have h1:(BitVec.ofInt 32 (a:Int)).toNat=a:=by rw[BitVec.ofInt_natCast,BitVec.toNat_ofNat];exact Nat.mod_eq_of_lt (by omega)
 have h2:(BitVec.ofInt 32 (b:Int)).toNat=b:=by rw[BitVec.ofInt_natCast,BitVec.toNat_ofNat];exact Nat.mod_eq_of_lt (by omega)
 show IntKind.u32.wrap ((BitVec.ofInt 32 (a:Int)&&&BitVec.ofInt 32 (b:Int)).toNat:Int)=_
 rw[BitVec.toNat_and,h1,h2,show∀n:Int,IntKind.u32.wrap n=n%4294967296 from fun n=>rfl]
 omega
theorem bits_or32 {a b:Nat} (ha:a<4294967296) (hb:b<4294967296):bits .or .u32 (a:Int) (b:Int)=((a|||b:Nat):Int):=by
 have hx:a|||b<2^32:=Nat.or_lt_two_pow (by omega) (by omega)
 have h1:(BitVec.ofInt 32 (a:Int)).toNat=a:=by rw[BitVec.ofInt_natCast,BitVec.toNat_ofNat];exact Nat.mod_eq_of_lt (by omega)
 have h2:(BitVec.ofInt 32 (b:Int)).toNat=b:=by rw[BitVec.ofInt_natCast,BitVec.toNat_ofNat];exact Nat.mod_eq_of_lt (by omega)
 show IntKind.u32.wrap ((BitVec.ofInt 32 (a:Int)|||BitVec.ofInt 32 (b:Int)).toNat:Int)=_
 rw[BitVec.toNat_or,h1,h2,show∀n:Int,IntKind.u32.wrap n=n%4294967296 from fun n=>rfl]
 omega
theorem bits_or64 {a b:Nat} (ha:a<18446744073709551616) (hb:b<18446744073709551616):bits .or .u64 (a:Int) (b:Int)=((a|||b:Nat):Int):=by
 have hx:a|||b<2^64:=Nat.or_lt_two_pow (by omega) (by omega)
 have h1:(BitVec.ofInt 64 (a:Int)).toNat=a:=by rw[BitVec.ofInt_natCast,BitVec.toNat_ofNat];exact Nat.mod_eq_of_lt (by omega)
 have h2:(BitVec.ofInt 64 (b:Int)).toNat=b:=by rw[BitVec.ofInt_natCast,BitVec.toNat_ofNat];exact Nat.mod_eq_of_lt (by omega)
 show IntKind.u64.wrap ((BitVec.ofInt 64 (a:Int)|||BitVec.ofInt 64 (b:Int)).toNat:Int)=_
 rw[BitVec.toNat_or,h1,h2,show∀n:Int,IntKind.u64.wrap n=n%18446744073709551616 from fun n=>rfl]
 omega
theorem and1 {a:Nat} (ha:a<4294967296):bits .and .u32 (a:Int) 1=((a%2:Nat):Int):=by
 rw[show(1:Int)=((1:Nat):Int) from rfl,bits_and32 ha (by omega),Nat.and_one_is_mod]
theorem or_add {a b k:Nat} (h:a<2^k):a|||2^k*b=a+2^k*b:=by
 rw[Nat.or_comm,←Nat.two_pow_add_eq_or_of_lt h,Nat.add_comm]
theorem bits_xor32 {a b:Nat} (ha:a<4294967296) (hb:b<4294967296):bits .xor .u32 (a:Int) (b:Int)=((a^^^b:Nat):Int):=by
 have hx:a^^^b<2^32:=Nat.xor_lt_two_pow (by omega) (by omega)
 have h1:(BitVec.ofInt 32 (a:Int)).toNat=a:=by rw[BitVec.ofInt_natCast,BitVec.toNat_ofNat];exact Nat.mod_eq_of_lt (by omega)
 have h2:(BitVec.ofInt 32 (b:Int)).toNat=b:=by rw[BitVec.ofInt_natCast,BitVec.toNat_ofNat];exact Nat.mod_eq_of_lt (by omega)
 show IntKind.u32.wrap ((BitVec.ofInt 32 (a:Int)^^^BitVec.ofInt 32 (b:Int)).toNat:Int)=_
 rw[BitVec.toNat_xor,h1,h2,show∀n:Int,IntKind.u32.wrap n=n%4294967296 from fun n=>rfl]
 omega
theorem high_bit {z:Nat} (h:z<4294967296):z.testBit 31=decide (2147483648≤z):=by
 rw[Nat.testBit_eq_decide_div_mod_eq]
 exact decide_eq_decide.2 (by omega)
theorem borrow_bit {x y b:Nat} (hx:x<4294967296) (hy:y<4294967296) (hb:b≤1):
  (((4294967295^^^x)&&&y)|||((4294967295^^^(x^^^y))&&&((x+8589934592-y-b)%4294967296)))/2147483648=if x<y+b then 1 else 0:=by
 have hd:(x+8589934592-y-b)%4294967296<4294967296:=Nat.mod_lt _ (by omega)
 generalize hD:(x+8589934592-y-b)%4294967296=D at *
 have hz:(((4294967295^^^x)&&&y)|||((4294967295^^^(x^^^y))&&&D))<2^32:=Nat.or_lt_two_pow (Nat.and_lt_two_pow _ (by omega)) (Nat.and_lt_two_pow _ (by omega))
 have ht:=high_bit (z:=((4294967295^^^x)&&&y)|||((4294967295^^^(x^^^y))&&&D)) (by omega)
 rw[Nat.testBit_or,Nat.testBit_and,Nat.testBit_and,Nat.testBit_xor,Nat.testBit_xor,Nat.testBit_xor,high_bit hx,high_bit hy,high_bit hd,show Nat.testBit 4294967295 31=true by decide] at ht
 generalize ((4294967295^^^x)&&&y)|||((4294967295^^^(x^^^y))&&&D)=z at *
 by_cases h1:2147483648≤x<;>by_cases h2:2147483648≤y<;>by_cases h3:2147483648≤D<;>simp[h1,h2,h3] at ht<;>split<;>omega
end Go.Proofs.YtfengpdaocgcnaaGreatDoor
