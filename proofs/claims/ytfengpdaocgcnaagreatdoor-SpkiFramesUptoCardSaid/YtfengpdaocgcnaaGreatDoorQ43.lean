/- Base64: the walks of what reads signs. The PEM text of a key. errors.Is at the program's own errors. -/
import Derived.Test.YtfengpdaocgcnaaGreatDoorQ42
import Derived.Test.YtfengpdaocgcnaaGreatDoorQ41
import Derived.Test.YtfengpdaocgcnaaGreatDoorQ17
import Derived.LaidEql
import Derived.Stop.Asserts
import Derived.RowKitTokens
namespace Go.Proofs.YtfengpdaocgcnaaGreatDoor
open Nat (reduceMul reduceLeDiff reduceEqDiff reduceLT reduceAdd reduceSub reduceDiv)
open Int (reduceToNat reducePow)
open Go.RowKit
set_option linter.unusedSimpArgs false
set_option maxRecDepth 100000
theorem idx_eq (c:UInt8): ∀S:List UInt8,Lib.indexByte S c=if c∈S then (i6 S c:Int) else-1
 |[]=>rfl
 |b::l=>by
  rw[Lib.indexByte,idx_eq c l]
  unfold i6
  by_cases hb:b=c
  ·subst hb
   simp[List.idxOf_cons]
  ·have hb2: ¬c=b:=fun e=>hb e.symm
   have e1:(b==c)=false:=by simpa using hb
   rw[e1,List.idxOf_cons,e1]
   by_cases hc:c∈l
   ·have e2:(((l.idxOf c:Nat):Int)== -1)=false:=beq_eq_false_iff_ne.2 (by omega)
    simp only[if_pos hc,List.mem_cons,hb2,hc,or_true,if_true,e2,Bool.false_eq_true,if_false,cond_false]
    rfl
   ·simp[hc,hb2]
theorem index_fn (J:Inv) (S:List UInt8) (c:Nat):Fn Tryz.prog J 83 false [.str S, .val (.int .u8 c)] (.i (if UInt8.ofNat c∈S then (i6 S (UInt8.ofNat c):Int) else-1)):=by
 refine⟨⟨_,Tryz.func83,by kernel_rfl,by kernel_rfl⟩,fun w F vs hI hF hlen hvs=> ?_⟩
 obtain⟨x,y,rfl⟩: ∃x y,vs=[x,y]:=by
  match vs,hlen with
  |[x,y],_=>exact⟨x,y,rfl⟩
 obtain rfl:=rep_str (hvs 0 _ x rfl rfl)
 obtain rfl:=rep_val (hvs 1 _ y rfl rfl)
 refine(Tryz.strings_IndexByte ⟨S.toArray⟩ (c:Int) w).mono fun e w' he=> ?_
 obtain⟨rfl,rfl⟩:=he
 refine⟨_,rfl,Ext.refl _,?_⟩
 rw[Int.toNat_natCast,show(⟨S.toArray⟩:ByteArray).data.toList=S from rfl,idx_eq]
 exact .val _
def SIxf:FuncId→List V→CR:=fun f args=>tab [(83,cS fun S=>cI .u8 fun c=>cF [0≤c,c<256] false (.i (if u8 c∈S then (i6 S (u8 c):Int) else-1)))] noF f args
def SIx (J:Inv):Sig:=⟨J,sdf,SIxf,noH,0⟩
theorem SIx_ok (J:Inv):SigOk Tryz.prog (SIx J):= .plain (tab_ok (.c (.s fun S=> .i fun c=> .z fun⟨c0,_,_⟩=>(by have h:=index_fn J S c.toNat;rwa [Int.toNat_of_nonneg c0] at h))<| .n) noF_ok)
theorem b64num_fn (J:Inv) (S:List UInt8) (c:Int) (h0:0≤c) (h1:c<256) (hm:u8 c∈S) (hS:S.length=64):Fn Tryz.prog J 136 false [.val (.int .u8 c), .str S] (.val (.int .u64 (i6 S (u8 c):Nat))):=by
 refine fnI Tryz.func136 rfl (by kernel_rfl) rfl (SIx_ok J) ?_
 unfold Tryz.f136
 have hi:i6 S (u8 c)<64:=by rw[←hS];exact List.idxOf_lt_length_of_mem hm
 simp only[↓bE,bQ,reduceMul,reduceLeDiff,reduceEqDiff,reduceLT,reduceAdd,reduceSub,↓reduceIte,reduceCtorEq,reduceToNat,reducePow,Nat.reduceBEq,reduceDiv,SIx,SIxf,if_pos hm]
 rw[wr64n (by omega)]
 exact⟨h0,h1,rfl⟩
def SNuf:FuncId→List V→CR:=fun f args=>tab [(136,cI .u8 fun c=>cS fun S=>cF [0≤c,c<256,u8 c∈S,S.length=64] false (.val (.int .u64 (i6 S (u8 c):Nat))))] SIxf f args
def SNu (J:Inv):Sig:=⟨J,sdf,SNuf,noH,0⟩
theorem SNu_ok (J:Inv):SigOk Tryz.prog (SNu J):= .plain (tab_ok (.c (.i fun c=> .s fun S=> .z fun⟨c0,c1,c2,c3,_⟩=>b64num_fn J S c c0 c1 c2 c3)<| .n) (SIx_ok J).1)
theorem byteAt3 (x y z u:UInt8) (l:List UInt8):byteAt (x::y::z::u::l) 3=((u.toNat:Nat):Int):=rfl
theorem u8_toN (x:UInt8):u8 ((x.toNat:Nat):Int)=x:=by
 unfold u8
 exact UInt8.toNat_inj.1 (by rw[Int.toNat_natCast,UInt8.toNat_ofNat',Nat.mod_eq_of_lt x.toNat_lt])
theorem read_app (S:List UInt8): ∀(p d:List UInt8),p.length%4=0→readF S (p++d)=((readF S p).1++(readF S d).1,(readF S d).2)
 |a::b::c::e::r,d,h=>by
  have:=read_app S r d (by simp only[List.length_cons] at h;omega)
  simp only[List.cons_append,readF,this,List.append_assoc]
 |[a,b,c],d,h=>by simp at h
 |[a,b],d,h=>by simp at h
 |[a],d,h=>by simp at h
 |[],d,h=>rfl
theorem read_t (S:List UInt8): ∀(p:List UInt8),p.length%4=0→(readF S p).2=true
 |a::b::c::e::r,h=>read_t S r (by simp only[List.length_cons] at h;omega)
 |[a,b,c],h=>by simp at h
 |[a,b],h=>by simp at h
 |[a],h=>rfl
 |[],h=>rfl
theorem read_len (S:List UInt8): ∀(p:List UInt8),(readF S p).1.length≤p.length
 |a::b::c::e::r=>by
  have:=read_len S r
  simp only[readF,List.length_append,List.length_cons,List.length_nil];omega
 |[a,b,c]=>by simp[readF]
 |[a,b]=>by simp[readF]
 |[a]=>by simp[readF]
 |[]=>by simp[readF]
theorem or4 {a b c d:Nat} (ha:a<64) (hb:b<64) (hc:c<64) (hd:d<64):bt .or .u64 (bt .or .u64 (bt .or .u64 (wr .u64 ((a:Int)*262144)) (wr .u64 ((b:Int)*4096))) (wr .u64 ((c:Int)*64))) (d:Int)=((a*262144+b*4096+c*64+d:Nat):Int):=by
 rw[show(a:Int)*262144=((a*262144:Nat):Int) by omega,show(b:Int)*4096=((b*4096:Nat):Int) by omega,show(c:Int)*64=((c*64:Nat):Int) by omega,wr64n (by omega),wr64n (by omega),wr64n (by omega),bt_eq,bt_eq,bt_eq,bits_or64 (by omega) (by omega)]
 have h1:a*262144|||b*4096=a*262144+b*4096:=by
  have:=or_add (a:=b*4096) (b:=a) (k:=18) (by omega)
  rw[Nat.or_comm,show a*262144=2^18*a by omega,this];omega
 rw[h1,bits_or64 (by omega) (by omega)]
 have h2:a*262144+b*4096|||c*64=a*262144+b*4096+c*64:=by
  have:=or_add (a:=c*64) (b:=a*64+b) (k:=12) (by omega)
  rw[Nat.or_comm,show a*262144+b*4096=2^12*(a*64+b) by omega,this];omega
 rw[h2,bits_or64 (by omega) (by omega)]
 have h3:a*262144+b*4096+c*64|||d=a*262144+b*4096+c*64+d:=by
  have:=or_add (a:=d) (b:=a*4096+b*64+c) (k:=6) (by omega)
  rw[Nat.or_comm,show a*262144+b*4096+c*64=2^6*(a*4096+b*64+c) by omega,this];omega
 rw[h3]
theorem or2 {a b c:Nat} (ha:a<64) (hb:b<64) (hc:c<64):bt .or .u64 ((c*64:Nat):Int) (bt .or .u64 (wr .u64 ((a:Int)*262144)) (wr .u64 ((b:Int)*4096)))=((a*262144+b*4096+c*64:Nat):Int):=by
 rw[show(a:Int)*262144=((a*262144:Nat):Int) by omega,show(b:Int)*4096=((b*4096:Nat):Int) by omega,wr64n (by omega),wr64n (by omega),bt_eq,bt_eq,bits_or64 (by omega) (by omega)]
 have h1:a*262144|||b*4096=a*262144+b*4096:=by
  have:=or_add (a:=b*4096) (b:=a) (k:=18) (by omega)
  rw[Nat.or_comm,show a*262144=2^18*a by omega,this];omega
 rw[h1,bits_or64 (by omega) (by omega)]
 have h2:c*64|||(a*262144+b*4096)=a*262144+b*4096+c*64:=by
  have:=or_add (a:=c*64) (b:=a*64+b) (k:=12) (by omega)
  rw[show a*262144+b*4096=2^12*(a*64+b) by omega,this];omega
 rw[h2]
theorem u8_mod (n:Nat):u8 (((n%256:Nat)):Int)=UInt8.ofNat n:=by
 unfold u8
 exact UInt8.toNat_inj.1 (by rw[Int.toNat_natCast,UInt8.toNat_ofNat',UInt8.toNat_ofNat',Nat.mod_mod])
theorem and255 {n:Nat} (h:n<18446744073709551616):bt .and .u64 (n:Int) 255=((n%256:Nat):Int):=by
 rw[show(255:Int)=((255:Nat):Int) from rfl,and_u64b h (by omega)]
 have:=Nat.and_two_pow_sub_one_eq_mod n 8
 rw[show(2:Nat)^8-1=255 from rfl,show(2:Nat)^8=256 from rfl] at this
 rw[this]
theorem and65535 {n:Nat} (h:n<18446744073709551616):bt .and .u64 (n:Int) 65535=((n%65536:Nat):Int):=by
 rw[show(65535:Int)=((65535:Nat):Int) from rfl,and_u64b h (by omega)]
 have:=Nat.and_two_pow_sub_one_eq_mod n 16
 rw[show(2:Nat)^16-1=65535 from rfl,show(2:Nat)^16=65536 from rfl] at this
 rw[this]
theorem beqN0 (n:Nat):(((n:Nat):Int)==0)=(n==0):=by
 rcases n with _|n
 ·rfl
 ·rw[beq_eq_false_iff_ne.2 (by omega),beq_eq_false_iff_ne.2 (by omega)]
theorem read_fn (J:Inv) (S s:List UInt8) (hS:S.length=64) (hs: ∀c∈s,c∈S) (hl:s.length≤67108864):Fn Tryz.prog J 84 false [.str s, .str S] (.tu [.by (readF S s).1, .bb (readF S s).2]):=by
 refine fnI Tryz.func84 rfl (by kernel_rfl) rfl (SNu_ok J) ?_
 unfold Tryz.f84
 simp only[↓bD,bQ,reduceMul,reduceLeDiff,reduceEqDiff,reduceLT,reduceAdd,reduceSub,↓reduceIte,reduceCtorEq,reduceToNat,reducePow,Nat.reduceBEq,reduceDiv,SNu,SNuf,SIxf]
 refine⟨by constructor<;>omega,by omega,by omega,by constructor<;>omega,by constructor<;>omega,by omega,by omega,by omega,by omega,?_⟩
 refine LoopC.intro (α:=List UInt8×List UInt8×Nat) (fun y=>y.1++y.2.1=s∧y.1.length%4=0) (fun y=>⟨[(0, .str y.2.1),(1, .str S),(6, .ro (.r y.2.2))],[(y.2.2, .row 5 (.by (readF S y.1).1))],y.2.2+1⟩) (fun y=>y.2.1.length) ([],s,0) ⟨rfl,rfl⟩ ?_ ?_
 ·simp only[↓bE,bQ,reduceMul,reduceLeDiff,reduceEqDiff,reduceLT,reduceAdd,reduceSub,↓reduceIte,reduceCtorEq,reduceToNat,reducePow,Nat.reduceBEq,reduceDiv,readF]
  rfl
 ·rintro⟨p,d,r⟩ ⟨hp,hi⟩
  simp only at hp hi
  have a0:(r=r+1)=False:=eq_false (by omega)
  have a1:(r+1=r)=False:=eq_false (by omega)
  have hpl:=read_len S p
  subst hp
  rw[List.length_append] at hl
  have hm: ∀c∈d,c∈S:=fun c hc=>hs c (List.mem_append_right _ hc)
  rcases d with _|⟨x,_|⟨y,_|⟨z,_|⟨u,t⟩⟩⟩⟩
  ·have c0:decide ((4:Int)≤((0:Nat):Int))=false:=rfl
   have c1:(((0:Nat):Int)==3)=false:=rfl
   have c2:(((0:Nat):Int)==2)=false:=rfl
   simp only[↓bD,bQ,reduceMul,reduceLeDiff,reduceEqDiff,reduceLT,reduceAdd,reduceSub,↓reduceIte,reduceCtorEq,reduceToNat,reducePow,Nat.reduceBEq,reduceDiv,SNu,SNuf,SIxf,a0,a1,List.append_nil,c0,c1,c2]
   exact(read_t S p hi).symm
  ·have c0:decide ((4:Int)≤((1:Nat):Int))=false:=rfl
   have c1:(((1:Nat):Int)==3)=false:=rfl
   have c2:(((1:Nat):Int)==2)=false:=rfl
   simp only[↓bD,bQ,reduceMul,reduceLeDiff,reduceEqDiff,reduceLT,reduceAdd,reduceSub,↓reduceIte,reduceCtorEq,reduceToNat,reducePow,Nat.reduceBEq,reduceDiv,SNu,SNuf,SIxf,a0,a1,List.append_nil,c0,c1,c2,read_app S p _ hi,readF]
  ·have c0:decide ((4:Int)≤((2:Nat):Int))=false:=rfl
   have c1:(((2:Nat):Int)==3)=false:=rfl
   have c2:(((2:Nat):Int)==2)=true:=rfl
   have mx:=hm x (by simp)
   have my:=hm y (by simp)
   have hx:=x.toNat_lt
   have hy:=y.toNat_lt
   have ix:i6 S x<64:=by rw[←hS];exact List.idxOf_lt_length_of_mem mx
   have iy:i6 S y<64:=by rw[←hS];exact List.idxOf_lt_length_of_mem my
   obtain⟨N,hN,ho⟩: ∃N,i6 S x*262144+i6 S y*4096=N∧bt .or .u64 0 (bt .or .u64 (wr .u64 ((i6 S x:Int)*262144)) (wr .u64 ((i6 S y:Int)*4096)))=((N:Nat):Int):=⟨_,rfl,by have h:=or2 ix iy (show 0<64 by omega);rw[Nat.zero_mul,Nat.add_zero,show((0:Nat):Int)=0 from rfl] at h;exact h⟩
   simp only[↓bD,bQ,reduceMul,reduceLeDiff,reduceEqDiff,reduceLT,reduceAdd,reduceSub,↓reduceIte,reduceCtorEq,reduceToNat,reducePow,Nat.reduceBEq,reduceDiv,SNu,SNuf,SIxf,a0,a1,List.append_nil,c0,c1,c2,read_app S p _ hi,readF,hN]
   have q0:((N:Nat):Int)/65536%256=((N/65536%256:Nat):Int):=by omega
   have q1:((N:Nat):Int)/256%256=((N/256%256:Nat):Int):=by omega
   have q3:bt .and .u64 ((N:Nat):Int) 65535=((N%65536:Nat):Int):=and65535 (by omega)
   refine DrawC.sch [(0,some []),(1,some []),(2,some []),(3,some []),(6,some []),(7,some []),(8,some []),(4,none),(5,some []),(9,none),(10,some []),(11,some []),(12,some []),(13,some [])] [] (by kernel_rfl) ?_
   simp only[↓bD,bQ,reduceMul,reduceLeDiff,reduceEqDiff,reduceLT,reduceAdd,reduceSub,↓reduceIte,reduceCtorEq,reduceToNat,reducePow,Nat.reduceBEq,reduceDiv,SNu,SNuf,SIxf,a0,a1,byteAt0,byteAt1,byteAt2,byteAt3,u8_toN,ho,q0,c1,u8_mod,q3,beqN0]
   simp only[List.length_append,List.length_cons,List.length_nil] at hl⊢
   refine⟨by omega,by omega,by omega,by omega,by omega,by omega,mx,hS,by omega,by omega,by omega,my,hS,by omega,by omega,by omega,by omega,by omega⟩
  ·have c0:decide ((4:Int)≤((3:Nat):Int))=false:=rfl
   have c1:(((3:Nat):Int)==3)=true:=rfl
   have mx:=hm x (by simp)
   have my:=hm y (by simp)
   have mz:=hm z (by simp)
   have hx:=x.toNat_lt
   have hy:=y.toNat_lt
   have hz:=z.toNat_lt
   have ix:i6 S x<64:=by rw[←hS];exact List.idxOf_lt_length_of_mem mx
   have iy:i6 S y<64:=by rw[←hS];exact List.idxOf_lt_length_of_mem my
   have iz:i6 S z<64:=by rw[←hS];exact List.idxOf_lt_length_of_mem mz
   have e6:wr .u64 ((i6 S z:Int)*64)=((i6 S z*64:Nat):Int):=by rw[show(i6 S z:Int)*64=((i6 S z*64:Nat):Int) by omega];exact wr64n (by omega)
   obtain⟨N,hN,ho⟩: ∃N,i6 S x*262144+(i6 S y*4096+i6 S z*64)=N∧bt .or .u64 ((i6 S z*64:Nat):Int) (bt .or .u64 (wr .u64 ((i6 S x:Int)*262144)) (wr .u64 ((i6 S y:Int)*4096)))=((N:Nat):Int):=⟨_,rfl,by rw[or2 ix iy iz,Nat.add_assoc]⟩
   simp only[↓bD,bQ,reduceMul,reduceLeDiff,reduceEqDiff,reduceLT,reduceAdd,reduceSub,↓reduceIte,reduceCtorEq,reduceToNat,reducePow,Nat.reduceBEq,reduceDiv,SNu,SNuf,SIxf,a0,a1,List.append_nil,c0,c1,read_app S p _ hi,readF,byteAt0,byteAt1,byteAt2,byteAt3,u8_toN,hN]
   refine⟨by omega,by omega,by omega,by omega,mz,hS,by omega,?_⟩
   have q0:((N:Nat):Int)/65536%256=((N/65536%256:Nat):Int):=by omega
   have q1:((N:Nat):Int)/256%256=((N/256%256:Nat):Int):=by omega
   have q3:bt .and .u64 ((N:Nat):Int) 255=((N%256:Nat):Int):=and255 (by omega)
   refine DrawC.sch [(0,some []),(1,some []),(2,some []),(3,some []),(6,some []),(7,some []),(8,some []),(4,none),(5,some []),(9,none),(10,some []),(11,some []),(12,some []),(13,some [])] [] (by kernel_rfl) ?_
   simp only[↓bD,bQ,reduceMul,reduceLeDiff,reduceEqDiff,reduceLT,reduceAdd,reduceSub,↓reduceIte,reduceCtorEq,reduceToNat,reducePow,Nat.reduceBEq,reduceDiv,SNu,SNuf,SIxf,a0,a1,byteAt0,byteAt1,byteAt2,byteAt3,u8_toN,e6,ho,q0,q1,c1,u8_mod,q3,beqN0]
   simp only[List.length_append,List.length_cons,List.length_nil,List.append_assoc,List.cons_append,List.nil_append] at hl⊢
   refine⟨by omega,by omega,by omega,by omega,by omega,by omega,mx,hS,by omega,by omega,by omega,my,hS,by omega,by omega,by omega,by omega,by omega,by omega,by omega,by omega,by omega,trivial⟩
  ·have hc:decide ((4:Int)≤((t.length+4:Nat):Int))=true:=decide_eq_true (by omega)
   have mx:=hm x (by simp)
   have my:=hm y (by simp)
   have mz:=hm z (by simp)
   have mu:=hm u (by simp)
   have hx:=x.toNat_lt
   have hy:=y.toNat_lt
   have hz:=z.toNat_lt
   have hu:=u.toNat_lt
   have ix:i6 S x<64:=by rw[←hS];exact List.idxOf_lt_length_of_mem mx
   have iy:i6 S y<64:=by rw[←hS];exact List.idxOf_lt_length_of_mem my
   have iz:i6 S z<64:=by rw[←hS];exact List.idxOf_lt_length_of_mem mz
   have iu:i6 S u<64:=by rw[←hS];exact List.idxOf_lt_length_of_mem mu
   obtain⟨N,hN,ho⟩: ∃N,i6 S x*262144+(i6 S y*4096+(i6 S z*64+i6 S u))=N∧bt .or .u64 (bt .or .u64 (bt .or .u64 (wr .u64 ((i6 S x:Int)*262144)) (wr .u64 ((i6 S y:Int)*4096))) (wr .u64 ((i6 S z:Int)*64))) (i6 S u:Int)=((N:Nat):Int):=⟨_,rfl,by rw[or4 ix iy iz iu,Nat.add_assoc,Nat.add_assoc]⟩
   have q0:((N:Nat):Int)/65536%256=((N/65536%256:Nat):Int):=by omega
   have q1:((N:Nat):Int)/256%256=((N/256%256:Nat):Int):=by omega
   have q2:((N:Nat):Int)%256=((N%256:Nat):Int):=by omega
   simp only[↓bD,bQ,reduceMul,reduceLeDiff,reduceEqDiff,reduceLT,reduceAdd,reduceSub,↓reduceIte,reduceCtorEq,reduceToNat,reducePow,Nat.reduceBEq,reduceDiv,SNu,SNuf,SIxf,a0,a1,hc]
   refine DrawC.sch [(0,some []),(1,some []),(2,some []),(5,some []),(6,some []),(7,some []),(11,some []),(12,some []),(13,some []),(17,some []),(18,some []),(19,some []),(3,none),(4,some []),(8,none),(9,some []),(10,some []),(14,none),(15,some []),(16,some []),(20,none),(21,some []),(22,some [])] [] (by kernel_rfl) ?_
   simp only[↓bD,bQ,reduceMul,reduceLeDiff,reduceEqDiff,reduceLT,reduceAdd,reduceSub,↓reduceIte,reduceCtorEq,reduceToNat,reducePow,Nat.reduceBEq,reduceDiv,SNu,SNuf,SIxf,a0,a1,byteAt0,byteAt1,byteAt2,byteAt3,u8_toN,ho,q0,q1,q2,u8_mod]
   have e4:(((t.length+4:Nat):Int)-4)=t.length:=by omega
   simp only[List.length_append,List.length_cons,List.length_nil] at hl⊢
   refine⟨by omega,by omega,by omega,by omega,by omega,by omega,by omega,by omega,by omega,by omega,mx,hS,by omega,by omega,by omega,my,hS,by omega,by omega,by omega,mz,hS,by omega,by omega,by omega,mu,hS,by omega,by omega,by omega,by omega,by omega,by omega,by omega,by omega,by omega,by omega,by omega,Again.intro (p++[x,y,z,u],t,r+2) ⟨by simp,by simp[hi]⟩ (by simp only[List.length_cons];omega) ?_⟩
   have b0:(r+2=r+1)=False:=eq_false (by omega)
   have b1:(r+1=r+2)=False:=eq_false (by omega)
   have b2:(r=r+2)=False:=eq_false (by omega)
   have b3:(r+2=r)=False:=eq_false (by omega)
   simp only[↓bD,bQ,reduceMul,reduceLeDiff,reduceEqDiff,reduceLT,reduceAdd,reduceSub,↓reduceIte,reduceCtorEq,reduceToNat,reducePow,Nat.reduceBEq,reduceDiv,read_app S p _ hi,readF,hN,e4,b0,b1,b2,b3,Nat.add_sub_cancel,List.take_length,List.append_nil]
   rw[cutL_eq]
   exact⟨by simp,Nat.le_refl _⟩
def SRdf:FuncId→List V→CR:=fun f args=>tab [(84,cS fun s=>cS fun S=>cF [S.length=64,∀c∈s,c∈S,s.length≤67108864] false (.tu [.by (readF S s).1, .bb (readF S s).2]))] SIxf f args
def SRd (J:Inv):Sig:=⟨J,sdf,SRdf,noH,0⟩
theorem SRd_ok (J:Inv):SigOk Tryz.prog (SRd J):= .plain (tab_ok (.c (.s fun s=> .s fun S=> .z fun⟨c0,c1,c2,_⟩=>read_fn J S s c0 c1 c2)<| .n) (SIx_ok J).1)
theorem spell_mem {S:List UInt8} (hS:S.length=64) (b:List UInt8): ∀c∈spellF S b,c∈S:=by
 have hg: ∀n,n<64→b6 S n∈S:=fun n hn=>by
  unfold b6
  rw[List.getD_eq_getElem?_getD,List.getElem?_eq_getElem (by omega)]
  exact List.getElem_mem _
 suffices h: ∀k (b:List UInt8),b.length≤k→ ∀c∈spellF S b,c∈S from h _ b (Nat.le_refl _)
 intro k
 induction k with
 |zero=>intro b hb c hc;obtain rfl:b=[]:=List.length_eq_zero_iff.1 (by omega);simp[spellF] at hc
 |succ k ih=>
  intro b hb c hc
  rcases b with _|⟨x,_|⟨y,_|⟨z,t⟩⟩⟩
  ·simp[spellF] at hc
  ·have hx:=x.toNat_lt
   simp only[spellF,List.mem_cons,List.not_mem_nil,or_false] at hc
   rcases hc with rfl|rfl<;>exact hg _ (by omega)
  ·have hx:=x.toNat_lt
   have hy:=y.toNat_lt
   simp only[spellF,List.mem_cons,List.not_mem_nil,or_false] at hc
   rcases hc with rfl|rfl|rfl<;>exact hg _ (by omega)
  ·have hx:=x.toNat_lt
   have hy:=y.toNat_lt
   have hz:=z.toNat_lt
   simp only[spellF,List.mem_cons] at hc
   rcases hc with rfl|rfl|rfl|rfl|hc
   ·exact hg _ (by omega)
   ·exact hg _ (by omega)
   ·exact hg _ (by omega)
   ·exact hg _ (by omega)
   ·exact ih t (by simp only[List.length_cons] at hb;omega) c hc
theorem std_al:Al stdS:=⟨rfl,by decide⟩
theorem byteAt_l {L R:List UInt8} {m:Nat} (h:m<L.length):u8 (byteAt (L++R) m)∈L:=by
 rw[u8_get,List.getD_eq_getElem?_getD,List.getElem?_append_left h,List.getElem?_eq_getElem h]
 exact List.getElem_mem _
theorem byteAt_r {L:List UInt8} {k m:Nat} (h:L.length≤m) (h2:m<L.length+k):byteAt (L++List.replicate k 61) m=61:=by
 rw[byteAt_get,List.getD_eq_getElem?_getD,List.getElem?_append_right h,List.getElem?_replicate,if_pos (by omega)]
 rfl
def beginN:List UInt8:=[45,45,45,45,45,66,69,71,73,78,32,80,85,66,76,73,67,32,75,69,89,45,45,45,45,45,10]
def endN:List UInt8:=[45,45,45,45,45,69,78,68,32,80,85,66,76,73,67,32,75,69,89,45,45,45,45,45,10]
def pemL (s:List UInt8):List UInt8:=if _h:s=[] then [] else s.take 64++10::pemL (s.drop 64)
termination_by s.length
decreasing_by have:=List.length_pos_iff.2 _h;simp only[List.length_drop];omega
theorem pemL_nil:pemL []=[]:=by rw[pemL,dif_pos rfl]
theorem pemL_ne {s:List UInt8} (h:s≠[]):pemL s=s.take 64++10::pemL (s.drop 64):=by rw[pemL,dif_neg h]
def pemF (b:List UInt8):List UInt8:=beginN++(pemL (encF stdS b)++endN)
def Ky.pem (k:Ky):List UInt8×Int:=if k.pr.2=0 then (pemF k.pr.1,0) else ([],k.pr.2)
def BMh:FuncId→List V→List (Nat×Ob)→Nat→HR:=fun f args h nx=>tabH [(35,fun h nx=>hO fun k=>hS fun s=>hD (hU h k
  (hF [k<nx,s.length≤140737488355328] [(k, .box 63 bu0)] (.tu [.i s.length, .val .nilIface]) [(k, .box 63 (bu1 k nx)),(nx, .row 5 (.by s))] (nx+1))
  fun m l=>hF [k≠m,k<nx,m<nx,l.length+s.length≤140737488355328] [(k, .box 63 (bu1 k m)),(m, .row 5 (.by l))] (.tu [.i s.length, .val .nilIface]) [(k, .box 63 (bu1 k nx)),(nx, .row 5 (.by (l++s)))] (nx+1))),
 (37,fun h nx=>hO fun k=>hD (hU h k none
  fun m l=>hF [l≠[],k≠m] [(k, .box 63 (bu1 k m)),(m, .row 5 (.by l))] (.str l) [] nx))] noH f args h nx
theorem BMh_ok (J:Inv):HTab Tryz.prog J BMh:=tabH_ok (.c (fun _ nx=> .o fun k=> .s fun s=> .d (.U (.F fun⟨c0,c1,_⟩=>write0_fn J nx k s c0 c1) fun m l=> .F fun⟨c0,c1,c2,c3,_⟩=>write1_fn J nx k m l s c0 c1 c2 c3)) (.c (fun _ nx=> .o fun k=> .d (.U .no fun m l=> .F fun⟨c0,c1,_⟩=>str_fn J nx k m l c0 c1)) .n)) noH_ok
def BMaf:FuncId→List V→CR:=fun f args=>tab [(9,cK fun k=>cF [k.Ok] false (.tu [.by k.pr.1, .i k.pr.2])),
 (36,cY fun b=>cF [b.length≤16777216] false (.str (encF stdS b)))] noF f args
def BMa (J:Inv):Sig:=⟨J,sdf,BMaf,noH,0⟩
theorem BMa_ok (J:Inv) (hJ: ∀w F,J.I w F→JV.I w F) (hE:EdT J):SigOk Tryz.prog (BMa J):= .plain (tab_ok (.c (.k fun k=> .z fun⟨c0,_⟩=>sprint_fn J hJ hE k c0)<|
 .c (.y fun b=> .z fun⟨c0,_⟩=>encodeStd_fn J b c0)<| .n) noF_ok)
def BM (J:Inv):Sig:=⟨J,sdf,BMaf,BMh,0⟩
theorem BM_ok (J:Inv) (hJ: ∀w F,J.I w F→JV.I w F) (hE:EdT J):SigOk Tryz.prog (BM J):=⟨(BMa_ok J hJ hE).1,BMh_ok J⟩
theorem pr_len (k:Ky):k.pr.1.length≤65536:=by
 unfold Ky.pr
 split
 ·exact printF_len _
 ·exact Nat.zero_le _
theorem enc_len {b:List UInt8} (h:b.length≤65536):(encF stdS b).length≤100000:=by
 have hl:=spell_len stdS b
 unfold encF
 rw[List.length_append,List.length_replicate,hl]
 split<;>omega
theorem pem0_own (J:Inv) (hJ: ∀w F,J.I w F→JV.I w F) (hE:EdT J) (k:Ky) (hk:k.Ok) (h:k.pr.2≠0):FnH Tryz.prog J 10 [k.V] [] 0 (.tu [.str [], .i k.pr.2]) [] 12:=by
 rcases k with ⟨kty,crv,s,n,e,x,y⟩
 refine fnJ Tryz.func10 rfl (by kernel_rfl) (BM_ok J hJ hE) rfl ?_
 unfold Tryz.f10
 have e1:((Ky.mk kty crv s n e x y).pr.2==0)=false:=beq_eq_false_iff_ne.2 h
 simp only[↓bD,bQ,reduceMul,reduceLeDiff,reduceEqDiff,reduceLT,reduceAdd,reduceSub,↓reduceIte,reduceCtorEq,reduceToNat,reducePow,Nat.reduceBEq,reduceDiv,BM,BMaf,BMh,Ky.V,keyV,cK,keyW,byN,e1]
 refine⟨hk,RenC.skip ?_⟩
 simp only[↓bD,bQ,reduceMul,reduceLeDiff,reduceEqDiff,reduceLT,reduceAdd,reduceSub,↓reduceIte,reduceCtorEq,reduceToNat,reducePow,Nat.reduceBEq,reduceDiv]
theorem pem1_own (J:Inv) (hJ: ∀w F,J.I w F→JV.I w F) (hE:EdT J) (k:Ky) (hk:k.Ok) (h:k.pr.2=0):FnH Tryz.prog J 10 [k.V] [] 0 (.tu [.str (pemF k.pr.1), .i 0]) [] 3:=by
 have hp:=pr_len k
 have hel:=enc_len hp
 have hfin:pemF k.pr.1=beginN++pemL (encF stdS k.pr.1)++endN:=by unfold pemF;rw[List.append_assoc]
 rcases k with ⟨kty,crv,s,n,e,x,y⟩
 refine fnJ Tryz.func10 rfl (by kernel_rfl) (BM_ok J hJ hE) rfl ?_
 unfold Tryz.f10
 have n1:[45,45,45,45,45,66,69,71,73,78,32,80,85,66,76,73,67,32,75,69,89,45,45,45,45,45,10]=beginN:=rfl
 have n2:[45,45,45,45,45,69,78,68,32,80,85,66,76,73,67,32,75,69,89,45,45,45,45,45,10]=endN:=rfl
 simp only[↓bD,bQ,reduceMul,reduceLeDiff,reduceEqDiff,reduceLT,reduceAdd,reduceSub,↓reduceIte,reduceCtorEq,reduceToNat,reducePow,Nat.reduceBEq,reduceDiv,BM,BMaf,BMh,hU.eq_1,bu0,bu1,Ky.V,keyV,cK,keyW,byN,h,n1]
 generalize (Ky.mk kty crv s n e x y).pr.1=b at hp hel hfin⊢
 refine⟨hk,by decide,by omega,?_⟩
 refine LoopC.intro (α:=List UInt8×List UInt8×Nat) (fun y=>y.1++pemL y.2.1=beginN++pemL (encF stdS b)∧y.1.length+2*y.2.1.length≤300000∧1<y.2.2) (fun y=>⟨[(7, .str y.2.1),(6, .op 1 0)],[(1, .box 63 (.st [.op 1 0, .ro (.r y.2.2)])),(y.2.2, .row 5 (.by y.1))],y.2.2+1⟩) (fun y=>y.2.1.length) (beginN,encF stdS b,2) ⟨rfl,by show beginN.length+2*(encF stdS b).length≤300000;have:beginN.length=27:=rfl;omega,by show 1<2;omega⟩ ?_ ?_
 ·simp only[↓bD,bQ,reduceMul,reduceLeDiff,reduceEqDiff,reduceLT,reduceAdd,reduceSub,↓reduceIte,reduceCtorEq,reduceToNat,reducePow,Nat.reduceBEq,reduceDiv]
  skip
 ·rintro⟨acc,rest,r⟩ ⟨h1,h2,h3⟩
  simp only at h1 h2 h3
  have r1:(r=1)=False:=eq_false (by omega)
  have r2:(1=r)=False:=eq_false (by omega)
  have r3:(r+1=1)=False:=eq_false (by omega)
  have r4:(1=r+1)=False:=eq_false (by omega)
  have r5:(r=0)=False:=eq_false (by omega)
  simp only[↓bD,bQ,reduceMul,reduceLeDiff,reduceEqDiff,reduceLT,reduceAdd,reduceSub,↓reduceIte,reduceCtorEq,reduceToNat,reducePow,Nat.reduceBEq,reduceDiv,BM,BMaf,BMh,hU.eq_1,bu0,bu1,n1,n2,r1,r2,r3,r4,r5]
  have em:imin 64 (rest.length:Int)=((min 64 rest.length:Nat):Int):=by rw[imin_eq];omega
  have hcl:(cutL rest 0 (min 64 rest.length)).length=min 64 rest.length:=by rw[cutL_eq];simp
  rw[em,Int.toNat_natCast]
  refine⟨fun h=> ?_,fun h=> ?_⟩
  ·have hne:rest≠[]:=by simpa using h
   have hpos:=List.length_pos_iff.2 hne
   refine⟨by omega,by omega,by omega,by omega,by omega,by rw[List.length_append,hcl];simp only[List.length_cons,List.length_nil];omega,by omega,by omega,Again.intro (acc++(cutL rest 0 (min 64 rest.length)++[10]),rest.drop 64,r+1) ⟨?_,?_,by show 1<r+1;omega⟩ (by show(rest.drop 64).length<rest.length;rw[List.length_drop];omega) ?_⟩
   ·show acc++(cutL rest 0 (min 64 rest.length)++[10])++pemL (rest.drop 64)=_
    rw[←h1,pemL_ne hne,cutL_eq,List.drop_zero]
    have:rest.take (min 64 rest.length)=rest.take 64:=by rw[Nat.min_comm,←List.take_take];exact List.take_of_length_le (by rw[List.length_take];omega)
    rw[this]
    simp
   ·show(acc++(cutL rest 0 (min 64 rest.length)++[10])).length+2*(rest.drop 64).length≤300000
    rw[List.length_append,List.length_append,hcl,List.length_drop]
    simp only[List.length_cons,List.length_nil]
    omega
   ·simp only[↓bD,bQ,reduceMul,reduceLeDiff,reduceEqDiff,reduceLT,reduceAdd,reduceSub,↓reduceIte,reduceCtorEq,reduceToNat,reducePow,Nat.reduceBEq,reduceDiv,r1,r2,r3,r4]
    refine⟨?_,Nat.le_refl _⟩
    rw[cutL_eq]
    split
    ·exact List.take_of_length_le (by rw[List.length_drop];omega)
    ·rw[Nat.sub_self,List.take_zero,List.drop_eq_nil_iff.2 (by omega)]
  ·obtain rfl:rest=[]:=by simpa using h
   rw[pemL_nil,List.append_nil] at h1
   subst h1
   refine⟨by omega,by omega,by have:endN.length=25:=rfl;omega,by simp[endN],RenC.intro [] ⟨[(2, .str (pemF b)),(3, .i 0)],[],0⟩ ?_ ?_⟩
   ·rw[hfin]
    simp only[↓bD,bQ,reduceMul,reduceLeDiff,reduceEqDiff,reduceLT,reduceAdd,reduceSub,↓reduceIte,reduceCtorEq,reduceToNat,reducePow,Nat.reduceBEq,reduceDiv]
    skip
   ·simp only[↓bD,bQ,reduceMul,reduceLeDiff,reduceEqDiff,reduceLT,reduceAdd,reduceSub,↓reduceIte,reduceCtorEq,reduceToNat,reducePow,Nat.reduceBEq,reduceDiv]
    skip
theorem spem_fn (J:Inv) (hJ: ∀w F,J.I w F→JV.I w F) (hE:EdT J) (k:Ky) (hk:k.Ok):Fn Tryz.prog J 10 false [k.V] (.tu [.str k.pem.1, .i k.pem.2]):=by
 by_cases h:k.pr.2=0
 ·have e:k.pem=(pemF k.pr.1,0):=by unfold Ky.pem;rw[if_pos h]
  rw[e];exact Fn.of_plain (pem1_own J hJ hE k hk h) rfl
 ·have e:k.pem=([],k.pr.2):=by unfold Ky.pem;rw[if_neg h]
  rw[e];exact Fn.of_plain (pem0_own J hJ hE k hk h) rfl
open Go.RowKit Go.Extern.Stop Go.Stop Go.Extern
theorem isTypeOf (v:Value) (w:World):(Extern.ReflectliteType.typeOf #[.iface 28 v]).run Tryz.prog w= .ok (.iface 172 (.agg #[.pointer (some ⟨12,28,none⟩)])) w:=by kernel_rfl
def cmpX:Array Value→Sem Value:=Extern.ReflectliteType.method fun t=>do Extern.Rtype.noPackHeld "Comparable" t;pure (.bool (←typeInfo t).comparable)
theorem isComparable (w:World):(cmpX #[.agg #[.pointer (some ⟨12,28,none⟩)]]).run Tryz.prog w= .ok (.bool true) w:=by kernel_rfl
theorem isMethodComparable (v:Value) (w:World):(Go.method 421 172 v "Comparable").run Tryz.prog w= .ok (310,v) w:=by kernel_rfl
theorem noIsE (v:Value) (xT:TypeId) (w:World):(Instr.typeAssert (.iface 28 v) xT 174 true).run Tryz.prog w= .ok (.tuple #[.nilIface, .bool false]) w:=run_typeAssert_lacksB Tryz.underlying174 (by kernel_rfl) (by kernel_rfl) v xT w
theorem noUnwrapE (v:Value) (xT:TypeId) (w:World):(Instr.typeAssert (.iface 28 v) xT 177 true).run Tryz.prog w= .ok (.tuple #[.nilIface, .bool false]) w:=run_typeAssert_lacksB Tryz.underlying177 (by kernel_rfl) (by kernel_rfl) v xT w
theorem noUnwrapsE (v:Value) (xT:TypeId) (w:World):(Instr.typeAssert (.iface 28 v) xT 179 true).run Tryz.prog w= .ok (.tuple #[.nilIface, .bool false]) w:=run_typeAssert_lacksB Tryz.underlying179 (by kernel_rfl) (by kernel_rfl) v xT w
theorem noIsW (v:Value) (xT:TypeId) (w:World):(Instr.typeAssert (.iface 74 v) xT 174 true).run Tryz.prog w= .ok (.tuple #[.nilIface, .bool false]) w:=run_typeAssert_lacksB Tryz.underlying174 (by kernel_rfl) (by kernel_rfl) v xT w
theorem hasUnwrapW (v:Value) (xT:TypeId) (w:World):(Instr.typeAssert (.iface 74 v) xT 177 true).run Tryz.prog w= .ok (.tuple #[.iface 74 v, .bool true]) w:=run_typeAssert_hasB Tryz.underlying177 (by kernel_rfl) v xT w
theorem methodUnwrap (v:Value) (w:World):(Go.method 421 74 v "Unwrap").run Tryz.prog w= .ok (304,v) w:=by kernel_rfl
theorem errComp:(Tryz.prog.info? 28).map (·.comparable)=some true:=by kernel_rfl
theorem eqE (c d:Int) (w:World):(binOp .eql 65 (.iface 28 (.int .i64 c)) (.iface 28 (.int .i64 d))).run Tryz.prog w= .ok (.bool (c==d)) w:=by
 obtain⟨i,hi,hcmp⟩:=Option.map_eq_some_iff.1 errComp
 have h: ∀n:Nat,(Op.equalIn (n+2) 65 (.iface 28 (.int .i64 c)) (.iface 28 (.int .i64 d))).run Tryz.prog w= .ok (c==d) w:=fun n=>by
  simp[Op.equalIn,run_underlying Tryz.underlying65,run_underlying Tryz.underlying28,typeInfo,hi,hcmp]
 simp only[binOp]
 simp[Op.equal,Op.maxDepth,h 9998]
theorem is_core (b o:Nat) (c d:Int) (w:World) (h1:w.cell? ⟨b,o+1,none⟩=some (.iface 28 (.int .i64 c))):
  Calls Tryz.prog 44 #[.iface 74 (.pointer (some ⟨b,o,none⟩)), .iface 28 (.int .i64 d)] w fun e w'=>e= .returned (.bool (c==d))∧w'=w:=by
 have h8:= @run_callFunc_extern Tryz.prog 78 _ Extern.ReflectliteType.typeOf Tryz.func78 (by kernel_rfl) (by kernel_rfl) (by kernel_rfl) (by kernel_rfl)
 have h32:= @run_callFunc_extern Tryz.prog 310 _ cmpX Tryz.func310 (by kernel_rfl) (by kernel_rfl) (by kernel_rfl) (by kernel_rfl)
 have tT:=isTypeOf
 have cT:=isComparable
 have mR:=isMethodComparable
 have nE:=noIsE
 have uE:=noUnwrapE
 have vE:=noUnwrapsE
 have nW:=noIsW
 have uW:=hasUnwrapW
 have mU:=methodUnwrap
 have heq:=eqE c d w
 have hty:=run_eql_iface_types (P:=Tryz.prog) 74 28 (.pointer (some ⟨b,o,none⟩)) (.int .i64 d) Tryz.underlying65 (by decide) w
 by_cases hcd:c=d
 ·subst hcd
  have e1:(c==c)=true:=beq_self_eq_true c
  rw[e1] at heq⊢
  go_enter Tryz.func44,Tryz.ntmps44
  go_wp2
  refine wp_loop_rounds 2 ?_
  rw[rounds_succ]
  go_wp2
  rw[rounds_succ]
  go_wp2
  go_ret
  exact⟨rfl,rfl⟩
 ·have e1:(c==d)=false:=beq_eq_false_iff_ne.2 hcd
  rw[e1] at heq⊢
  go_enter Tryz.func44,Tryz.ntmps44
  go_wp2
  refine wp_loop_rounds 2 ?_
  rw[rounds_succ]
  go_wp2
  rw[rounds_succ]
  go_wp2
  go_ret
  exact⟨rfl,rfl⟩
theorem is_nil (d:Int) (w:World):
  Calls Tryz.prog 44 #[.nilIface, .iface 28 (.int .i64 d)] w fun e w'=>e= .returned (.bool false)∧w'=w:=by
 have hn:=run_eql_iface_nil_left (P:=Tryz.prog) w 28 (.int .i64 d) Tryz.underlying65
 go_enter Tryz.func44,Tryz.ntmps44
 go_wp2
 go_ret
 exact⟨rfl,rfl⟩
end Go.Proofs.YtfengpdaocgcnaaGreatDoor
