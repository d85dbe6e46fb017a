/- Base64: plain law. Base64: the walks of what writes signs. Base64: the walks of what reads signs. -/
import Derived.Test.YtfengpdaocgcnaaGreatDoorQ01
import Derived.Test.YtfengpdaocgcnaaGreatDoorQ38
namespace Go.Proofs.YtfengpdaocgcnaaGreatDoor
def b6 (S:List UInt8) (n:Nat):UInt8:=S.getD n 0
def spellF (S:List UInt8):List UInt8→List UInt8
 |a::b::c::r=>b6 S (a.toNat/4)::b6 S (a.toNat%4*16+b.toNat/16)::b6 S (b.toNat%16*4+c.toNat/64)::b6 S (c.toNat%64)::spellF S r
 |[a,b]=>[b6 S (a.toNat/4),b6 S (a.toNat%4*16+b.toNat/16),b6 S (b.toNat%16*4)]
 |[a]=>[b6 S (a.toNat/4),b6 S (a.toNat%4*16)]
 |[]=>[]
def i6 (S:List UInt8) (c:UInt8):Nat:=S.idxOf c
def readF (S:List UInt8):List UInt8→List UInt8×Bool
 |a::b::c::d::r=>([UInt8.ofNat ((i6 S a*262144+i6 S b*4096+i6 S c*64+i6 S d)/65536),UInt8.ofNat ((i6 S a*262144+i6 S b*4096+i6 S c*64+i6 S d)/256),UInt8.ofNat (i6 S a*262144+i6 S b*4096+i6 S c*64+i6 S d)]++(readF S r).1,(readF S r).2)
 |[a,b,c]=>([UInt8.ofNat ((i6 S a*262144+i6 S b*4096+i6 S c*64)/65536),UInt8.ofNat ((i6 S a*262144+i6 S b*4096+i6 S c*64)/256)],(i6 S a*262144+i6 S b*4096+i6 S c*64)%256==0)
 |[a,b]=>([UInt8.ofNat ((i6 S a*262144+i6 S b*4096)/65536)],(i6 S a*262144+i6 S b*4096)%65536==0)
 |_=>([],true)
theorem ofNat_eq {n:Nat} {c:UInt8} (h:n%256=c.toNat):UInt8.ofNat n=c:=by
 apply UInt8.toNat_inj.1
 rw[UInt8.toNat_ofNat',h]
structure Al (S:List UInt8):Prop where
 len:S.length=64
 inv: ∀n,n<64→i6 S (b6 S n)=n
theorem read_spell {S:List UInt8} (h:Al S): ∀b:List UInt8,readF S (spellF S b)=(b,true)
 |a::b::c::r=>by
  have ha:=a.toNat_lt
  have hb:=b.toNat_lt
  have hc:=c.toNat_lt
  rw[spellF,readF,read_spell h r,h.inv _ (by omega),h.inv _ (by omega),h.inv _ (by omega),h.inv _ (by omega)]
  rw[ofNat_eq (c:=a) (by omega),ofNat_eq (c:=b) (by omega),ofNat_eq (c:=c) (by omega)]
  rfl
 |[a,b]=>by
  have ha:=a.toNat_lt
  have hb:=b.toNat_lt
  rw[spellF,readF,h.inv _ (by omega),h.inv _ (by omega),h.inv _ (by omega),ofNat_eq (c:=a) (by omega),ofNat_eq (c:=b) (by omega)]
  refine Prod.ext rfl ?_
  rw[beq_iff_eq]
  omega
 |[a]=>by
  have ha:=a.toNat_lt
  rw[spellF,readF,h.inv _ (by omega),h.inv _ (by omega),ofNat_eq (c:=a) (by omega)]
  refine Prod.ext rfl ?_
  rw[beq_iff_eq]
  omega
 |[]=>rfl
theorem spell_len (S:List UInt8): ∀b:List UInt8,(spellF S b).length=b.length/3*4+(if b.length%3=0 then 0 else b.length%3+1)
 |a::b::c::r=>by
  have:=spell_len S r
  simp only[spellF,List.length_cons,this]
  rw[show(r.length+1+1+1)/3=r.length/3+1 by omega,show(r.length+1+1+1)%3=r.length%3 by omega]
  omega
 |[a,b]=>by simp[spellF]
 |[a]=>by simp[spellF]
 |[]=>by simp[spellF]
theorem spell_app (S:List UInt8): ∀(a b:List UInt8),a.length%3=0→spellF S (a++b)=spellF S a++spellF S b
 |x::y::z::r,b,h=>by
  have:=spell_app S r b (by simp only[List.length_cons] at h;omega)
  simp only[List.cons_append,spellF,this]
 |[x,y],b,h=>by simp at h
 |[x],b,h=>by simp at h
 |[],b,h=>rfl
open Nat (reduceMul reduceLeDiff reduceEqDiff reduceLT reduceAdd reduceSub reduceDiv)
open Int (reduceToNat reducePow)
open Go.RowKit
set_option linter.unusedSimpArgs false
set_option maxRecDepth 100000
def stdS:List UInt8:=[65,66,67,68,69,70,71,72,73,74,75,76,77,78,79,80,81,82,83,84,85,86,87,88,89,90,97,98,99,100,101,102,103,104,105,106,107,108,109,110,111,112,113,114,115,116,117,118,119,120,121,122,48,49,50,51,52,53,54,55,56,57,43,47]
theorem and_u64b {a b:Nat} (ha:a<18446744073709551616) (hb:b<18446744073709551616):bt .and .u64 (a:Int) (b:Int)=((a&&&b:Nat):Int):=by
 rw[bt_eq]
 have hx:a&&&b<2^64:=Nat.and_lt_two_pow _ (by omega)
 have h1:(BitVec.ofInt 64 (a:Int)).toNat=a:=by rw[BitVec.ofInt_natCast,BitVec.toNat_ofNat];exact Nat.mod_eq_of_lt (by omega)
 have h2:(BitVec.ofInt 64 (b:Int)).toNat=b:=by rw[BitVec.ofInt_natCast,BitVec.toNat_ofNat];exact Nat.mod_eq_of_lt (by omega)
 show IntKind.u64.wrap ((BitVec.ofInt 64 (a:Int)&&&BitVec.ofInt 64 (b:Int)).toNat:Int)=_
 rw[BitVec.toNat_and,h1,h2,show∀n:Int,IntKind.u64.wrap n=n%18446744073709551616 from fun n=>rfl]
 omega
theorem and63 {n:Nat} (h:n<18446744073709551616):bt .and .u64 (n:Int) 63=((n%64:Nat):Int):=by
 rw[show(63:Int)=((63:Nat):Int) from rfl,and_u64b h (by omega)]
 have:=Nat.and_two_pow_sub_one_eq_mod n 6
 rw[show(2:Nat)^6-1=63 from rfl,show(2:Nat)^6=64 from rfl] at this
 rw[this]
theorem or3 {a b c:Nat} (ha:a<256) (hb:b<256) (hc:c<256):bt .or .u64 (bt .or .u64 (wr .u64 (wr .u64 (a:Int)*65536)) (wr .u64 (wr .u64 (b:Int)*256))) (wr .u64 (c:Int))=((a*65536+b*256+c:Nat):Int):=by
 rw[wr64n (n:=a) (by omega),wr64n (n:=b) (by omega),wr64n (n:=c) (by omega),show(a:Int)*65536=((a*65536:Nat):Int) by omega,show(b:Int)*256=((b*256:Nat):Int) by omega,wr64n (by omega),wr64n (by omega),bt_eq,bt_eq,bits_or64 (by omega) (by omega)]
 have h1:a*65536|||b*256=a*65536+b*256:=by
  have:=or_add (a:=b*256) (b:=a) (k:=16) (by omega)
  rw[Nat.or_comm,show a*65536=2^16*a by omega,this];omega
 rw[h1,bits_or64 (by omega) (by omega)]
 have h2:a*65536+b*256|||c=a*65536+b*256+c:=by
  have:=or_add (a:=c) (b:=a*256+b) (k:=8) (by omega)
  rw[Nat.or_comm,show a*65536+b*256=2^8*(a*256+b) by omega,this];omega
 rw[h2]
theorem byteAt_get (l:List UInt8) (i:Nat):byteAt l i=(((l.getD i 0).toNat:Nat):Int):=rfl
theorem u8_get (l:List UInt8) (i:Nat):u8 (byteAt l i)=l.getD i 0:=by
 unfold u8 byteAt
 exact UInt8.toNat_inj.1 (by rw[Int.toNat_natCast,UInt8.toNat_ofNat',Nat.mod_eq_of_lt (l.getD i 0).toNat_lt])
theorem and3: ∀x:Fin 256,bits .and .u8 (x.val:Int) 3*16%256=((x.val%4*16:Nat):Int):=by decide
theorem and15: ∀x:Fin 256,bits .and .u8 (x.val:Int) 15*4%256=((x.val%16*4:Nat):Int):=by decide
theorem or8: ∀(a:Fin 4) (b:Fin 16),bits .or .u8 ((a.val*16:Nat):Int) (b.val:Int)=((a.val*16+b.val:Nat):Int):=by decide
theorem byte_at (l:List UInt8) (n:Nat):0≤byteAt l n∧byteAt l n<256:=by
 have:=(l.getD n 0).toNat_lt
 rw[byteAt_get];omega
theorem byteAt0 (x:UInt8) (l:List UInt8):byteAt (x::l) 0=((x.toNat:Nat):Int):=rfl
theorem byteAt1 (x y:UInt8) (l:List UInt8):byteAt (x::y::l) 1=((y.toNat:Nat):Int):=rfl
theorem byteAt2 (x y z:UInt8) (l:List UInt8):byteAt (x::y::z::l) 2=((z.toNat:Nat):Int):=rfl
theorem spell_own (J:Inv) (nx:Nat) (S b:List UInt8) (hS:S.length=64) (hb:b.length≤16777216):FnH Tryz.prog J 63 [.by b, .str S] [] nx (.ro (.r nx)) [(nx, .row 5 (.by (spellF S b)))] (nx+1):=by
 refine fnJ Tryz.func63 rfl (by kernel_rfl) (S0b_ok J nx) rfl ?_
 unfold Tryz.f63
 simp only[bQ,reduceAdd,↓reduceIte,reduceCtorEq,reduceToNat,S0b]
 refine⟨by constructor<;>omega,by constructor<;>omega,by omega,by omega,by constructor<;>omega,by omega,by omega,by omega,by omega,?_⟩
 refine LoopC.intro (α:=List UInt8×List UInt8×Nat) (fun y=>y.1++y.2.1=b∧y.1.length%3=0∧nx≤y.2.2) (fun y=>⟨[(0, .by y.2.1),(1, .str S),(5, .ro (.r y.2.2))],[(y.2.2, .row 5 (.by (spellF S y.1)))],y.2.2+1⟩) (fun y=>y.2.1.length) ([],b,nx) ⟨rfl,rfl,Nat.le_refl _⟩ ?_ ?_
 ·simp only[bQ,reduceLeDiff,reduceEqDiff,↓reduceIte,reduceCtorEq,spellF]
  exact⟨rfl,Nat.le_refl _⟩
 ·rintro⟨p,d,r⟩ ⟨hp,hi,hr⟩
  simp only at hp hi hr
  have n1: ¬nx<nx:=Nat.lt_irrefl _
  have a0:(r=r+1)=False:=eq_false (by omega)
  have a1:(r+1=r)=False:=eq_false (by omega)
  have hl:=spell_len S p
  have hd:=congrArg List.length hp
  rw[List.length_append] at hd
  subst hp
  rcases d with _|⟨x,_|⟨y,_|⟨z,t⟩⟩⟩
  ·have c0:decide ((3:Int)≤((0:Nat):Int))=false:=rfl
   have c1:(((0:Nat):Int)==2)=false:=rfl
   have c2:(((0:Nat):Int)==1)=false:=rfl
   simp only[↓bD,bQ,reduceEqDiff,↓reduceIte,reduceCtorEq,List.append_nil,c0,c1,c2]
   refine RenC.intro [(nx,r)] ⟨[(4, .ro (.r nx))],[(nx, .row 5 (.by (spellF S p)))],nx+1⟩ ?_ ?_<;>simp only[bQ,reduceLeDiff,↓reduceIte,n1]
   ·omega
   ·exact Nat.le_refl _
  ·have c0:decide ((3:Int)≤((1:Nat):Int))=false:=rfl
   have c1:(((1:Nat):Int)==2)=false:=rfl
   have c2:(((1:Nat):Int)==1)=true:=rfl
   simp only[↓bD,bQ,reduceEqDiff,↓reduceIte,reduceCtorEq,spell_app S p _ hi,c0,c1,c2]
   refine DrawC.sch [(0,some []),(1,some []),(2,some []),(3,some []),(4,some []),(5,some []),(6,some []),(7,some []),(8,some []),(9,some []),(10,some []),(11,some []),(12,some []),(13,some []),(14,none),(15,none),(16,some [])] [] (by kernel_rfl) ?_
   have hx:=x.toNat_lt
   have q0:((x.toNat:Nat):Int)/4=((x.toNat/4:Nat):Int):=by omega
   have q1:bt .and .u8 ((x.toNat:Nat):Int) 3*16%256=((x.toNat%4*16:Nat):Int):=by rw[bt_eq];exact and3 ⟨x.toNat,hx⟩
   simp only[↓bD,bQ,reduceMul,reduceLeDiff,reduceEqDiff,reduceLT,reduceAdd,↓reduceIte,reduceCtorEq,reduceToNat,reducePow,a0,a1,byteAt0,q0,q1,u8_get,hS]
   have s0:=byte_at S (x.toNat/4)
   have s1:=byte_at S (x.toNat%4*16)
   simp only[List.length_append,List.length_cons,List.length_nil]
   refine⟨by omega,by omega,by omega,by omega,by omega,by omega,by omega,by omega,by omega,by omega,s0.1,s0.2,s1.1,s1.2,by simp only[List.length_cons,List.length_nil] at hd;rw[hl,if_pos hi];omega,?_⟩
   refine RenC.intro [(nx,r+2)] ⟨[(4, .ro (.r nx))],[(nx, .row 5 (.by (spellF S p++spellF S [x])))],nx+1⟩ ?_ ?_<;>simp only[bQ,reduceLeDiff,↓reduceIte,n1]
   ·exact⟨rfl,by omega⟩
   ·exact Nat.le_refl _
  ·have c0:decide ((3:Int)≤((2:Nat):Int))=false:=rfl
   have c1:(((2:Nat):Int)==2)=true:=rfl
   simp only[↓bD,bQ,reduceAdd,↓reduceIte,reduceCtorEq,spell_app S p _ hi,c0,c1]
   refine DrawC.sch [(0,some []),(1,some []),(2,some []),(3,some []),(4,some []),(5,some []),(6,some []),(7,some []),(8,some []),(9,some []),(10,some []),(11,some []),(12,some []),(13,some []),(14,some []),(15,some []),(16,some []),(17,some []),(18,some []),(19,some []),(20,some []),(21,some []),(22,some []),(23,some []),(24,some []),(25,some []),(26,none),(27,none),(28,some [])] [] (by kernel_rfl) ?_
   have hx:=x.toNat_lt
   have hy:=y.toNat_lt
   have q0:((x.toNat:Nat):Int)/4=((x.toNat/4:Nat):Int):=by omega
   have q1:bt .and .u8 ((x.toNat:Nat):Int) 3*16%256=((x.toNat%4*16:Nat):Int):=by rw[bt_eq];exact and3 ⟨x.toNat,hx⟩
   have q2:((y.toNat:Nat):Int)/16=((y.toNat/16:Nat):Int):=by omega
   have q3:bt .or .u8 ((x.toNat%4*16:Nat):Int) ((y.toNat/16:Nat):Int)=((x.toNat%4*16+y.toNat/16:Nat):Int):=by rw[bt_eq];exact or8 ⟨x.toNat%4,by omega⟩ ⟨y.toNat/16,by omega⟩
   have q4:bt .and .u8 ((y.toNat:Nat):Int) 15*4%256=((y.toNat%16*4:Nat):Int):=by rw[bt_eq];exact and15 ⟨y.toNat,hy⟩
   simp only[↓bD,bQ,reduceMul,reduceLeDiff,reduceEqDiff,reduceLT,reduceAdd,↓reduceIte,reduceCtorEq,reduceToNat,reducePow,a0,a1,byteAt0,byteAt1,q0,q1,q2,q3,q4,u8_get,hS]
   have s0:=byte_at S (x.toNat/4)
   have s1:=byte_at S (x.toNat%4*16+y.toNat/16)
   have s2:=byte_at S (y.toNat%16*4)
   simp only[List.length_append,List.length_cons,List.length_nil] at hb⊢
   rw[hl,if_pos hi]
   refine⟨by omega,by omega,by omega,by omega,by omega,by omega,by omega,by omega,by omega,by omega,by omega,by omega,by omega,by omega,by omega,by omega,by omega,by omega,s0.1,s0.2,s1.1,s1.2,s2.1,s2.2,by omega,?_⟩
   refine RenC.intro [(nx,r+2)] ⟨[(4, .ro (.r nx))],[(nx, .row 5 (.by (spellF S p++spellF S [x,y])))],nx+1⟩ ?_ ?_<;>simp only[bQ,reduceLeDiff,↓reduceIte,n1]
   ·exact⟨rfl,by omega⟩
   ·exact Nat.le_refl _
  ·have hx:=x.toNat_lt
   have hy:=y.toNat_lt
   have hz:=z.toNat_lt
   have hc:decide ((3:Int)≤((t.length+3:Nat):Int))=true:=decide_eq_true (by omega)
   obtain⟨N,hN,ho⟩: ∃N,x.toNat*65536+y.toNat*256+z.toNat=N∧bt .or .u64 (bt .or .u64 (wr .u64 (wr .u64 ((x.toNat:Nat):Int)*65536)) (wr .u64 (wr .u64 ((y.toNat:Nat):Int)*256))) (wr .u64 ((z.toNat:Nat):Int))=((N:Nat):Int):=⟨_,rfl,or3 hx hy hz⟩
   simp only[↓bD,bQ,reduceLeDiff,reduceEqDiff,reduceLT,reduceAdd,↓reduceIte,reduceCtorEq,reduceToNat,reducePow,hc,byteAt0,byteAt1,byteAt2,ho]
   refine⟨by omega,by omega,by omega,by omega,by omega,by omega,by omega,by omega,?_⟩
   refine DrawC.sch [(0,some []),(1,some []),(2,some []),(3,some []),(4,some []),(5,some []),(6,some []),(7,some []),(8,some []),(9,some []),(10,some []),(11,some []),(12,some []),(13,some []),(14,some []),(15,some []),(16,some []),(17,some []),(18,some []),(19,none),(20,none),(21,some [])] [] (by kernel_rfl) ?_
   have e0:((N:Nat):Int)/262144=((N/262144:Nat):Int):=by omega
   have e1:bt .and .u64 (((N:Nat):Int)/4096) 63=((N/4096%64:Nat):Int):=by rw[show((N:Nat):Int)/4096=((N/4096:Nat):Int) by omega];exact and63 (by omega)
   have e2:bt .and .u64 (((N:Nat):Int)/64) 63=((N/64%64:Nat):Int):=by rw[show((N:Nat):Int)/64=((N/64:Nat):Int) by omega];exact and63 (by omega)
   have e3:=and63 (n:=N) (by omega)
   have e4:(((t.length+3:Nat):Int)-3)=t.length:=by omega
   simp only[↓bD,bQ,reduceMul,reduceLeDiff,reduceEqDiff,reduceAdd,↓reduceIte,reduceCtorEq,reduceToNat,reducePow,a0,a1,e0,e1,e2,e3,u8_get,hS]
   have s0:=byte_at S (N/262144)
   have s1:=byte_at S (N/4096%64)
   have s2:=byte_at S (N/64%64)
   have s3:=byte_at S (N%64)
   simp only[List.length_append,List.length_cons,List.length_nil]
   refine⟨by omega,by omega,by omega,by omega,by omega,by omega,by omega,by omega,by omega,by omega,by omega,s0.1,s0.2,s1.1,s1.2,s2.1,s2.2,s3.1,s3.2,?_,by omega,by omega,Again.intro (p++[x,y,z],t,r+2) ⟨by simp,by simp[hi],by simp only;omega⟩ (by simp only[List.length_cons];omega) ?_⟩
   ·rw[hl,if_pos hi]
    simp only[List.length_cons] at hd
    omega
   ·have b0:(r+2=r+1)=False:=eq_false (by omega)
    have b1:(r+1=r+2)=False:=eq_false (by omega)
    have b2:(r=r+2)=False:=eq_false (by omega)
    have b3:(r+2=r)=False:=eq_false (by omega)
    have f0:N/262144=x.toNat/4:=by omega
    have f1:N/4096%64=x.toNat%4*16+y.toNat/16:=by omega
    have f2:N/64%64=y.toNat%16*4+z.toNat/64:=by omega
    have f3:N%64=z.toNat%64:=by omega
    simp only[bQ,reduceLeDiff,reduceEqDiff,reduceAdd,↓reduceIte,reduceCtorEq,spell_app S p _ hi,spellF,f0,f1,f2,f3,Nat.add_sub_cancel,List.take_length]
    exact⟨rfl,Nat.le_refl _⟩
def SPlh:FuncId→List V→List (Nat×Ob)→Nat→HR:=fun f args h nx=>tabH [(63,fun _ nx=>hY fun b=>hS fun S=>hD (hF [S.length=64,b.length≤16777216] [] (.ro (.r nx)) [(nx, .row 5 (.by (spellF S b)))] (nx+1)))] noH f args h nx
theorem SPlh_ok (J:Inv):HTab Tryz.prog J SPlh:=tabH_ok (.c (fun _ nx=> .y fun b=> .s fun S=> .d (.F fun⟨c0,c1,_⟩=>spell_own J nx S b c0 c1))<| .n) noH_ok
def SPl (J:Inv) (b:Nat):Sig:=⟨J,sdf,S0f,SPlh,b⟩
theorem SPl_ok (J:Inv) (b:Nat):SigOk Tryz.prog (SPl J b):=⟨(S0_ok J).1,SPlh_ok J⟩
def encF (S b:List UInt8):List UInt8:=spellF S b++List.replicate ((4-(spellF S b).length%4)%4) 61
theorem encodeStd_fn (J:Inv) (b:List UInt8) (hb:b.length≤16777216):Fn Tryz.prog J 36 false [.by b] (.str (encF stdS b)):=by
 refine fnI Tryz.func36 rfl (by kernel_rfl) rfl (SPl_ok J 0) ?_
 unfold Tryz.f36
 have e0:[65,66,67,68,69,70,71,72,73,74,75,76,77,78,79,80,81,82,83,84,85,86,87,88,89,90,97,98,99,100,101,102,103,104,105,106,107,108,109,110,111,112,113,114,115,116,117,118,119,120,121,122,48,49,50,51,52,53,54,55,56,57,43,47]=stdS:=rfl
 simp only[↓bD,bQ,reduceMul,reduceLeDiff,reduceEqDiff,reduceAdd,↓reduceIte,reduceCtorEq,SPl,S0f,SPlh,e0]
 generalize hL:spellF stdS b=L
 have hl:=spell_len stdS b
 rw[hL] at hl
 have h64:stdS.length=64:=rfl
 have hlo:L.length≤33554432:=by
  rw[hl]
  split<;>omega
 have e1:encF stdS b=L++List.replicate ((4-L.length%4)%4) 61:=by rw[←hL];rfl
 rw[e1]
 simp only[List.length_append,List.length_cons,List.length_nil]
 refine⟨h64,hb,by omega,by omega,fun h=> ?_,fun h=>⟨fun h2=> ?_,fun h2=> ?_⟩⟩
 ·have h:=eq_of_beq h
  rw[show L.length%4=2 by omega,List.append_assoc]
  exact⟨by omega,by omega,by omega,by omega,by omega,by omega,rfl⟩
 ·have h2:=eq_of_beq h2
  rw[show L.length%4=3 by omega]
  exact⟨by omega,by omega,by omega,rfl⟩
 ·have h3:L.length%4≠1:=by
   rw[hl]
   split<;>omega
  have h:=beq_eq_false_iff_ne.1 h
  have h2:=beq_eq_false_iff_ne.1 h2
  rw[show L.length%4=0 by omega]
  exact(List.append_nil L).symm
open Nat (reduceMul reduceLeDiff reduceEqDiff reduceLT reduceAdd reduceSub reduceDiv)
open Int (reduceToNat reducePow)
open Go.RowKit
set_option linter.unusedSimpArgs false
set_option maxRecDepth 100000
theorem idx_eq (c:UInt8): ∀S:List UInt8,Lib.indexByte S c=if c∈S then (i6 S c:Int) else-1
 |[]=>rfl
 |b::l=>by
  rw[Lib.indexByte,idx_eq c l]
  unfold i6
  by_cases hb:b=c
  ·subst hb
   simp
  ·have hb2: ¬c=b:=fun e=>hb e.symm
   have e1:(b==c)=false:=by simpa using hb
   rw[e1,List.idxOf_cons,e1]
   by_cases hc:c∈l
   ·have e2:(((l.idxOf c:Nat):Int)== -1)=false:=beq_eq_false_iff_ne.2 (by omega)
    simp only[List.mem_cons,hb2,hc,or_true,if_true,e2,Bool.false_eq_true,if_false,cond_false]
    rfl
   ·simp[hc,hb2]
theorem index_fn (J:Inv) (S:List UInt8) (c:Nat):Fn Tryz.prog J 83 false [.str S, .val (.int .u8 c)] (.i (if UInt8.ofNat c∈S then (i6 S (UInt8.ofNat c):Int) else-1)):=by
 refine⟨⟨_,Tryz.func83,by kernel_rfl,by kernel_rfl⟩,fun w F vs hI hF hlen hvs=> ?_⟩
 obtain⟨x,y,rfl⟩: ∃x y,vs=[x,y]:=by
  match vs,hlen with
  |[x,y],_=>exact⟨x,y,rfl⟩
 obtain rfl:=rep_str (hvs 0 _ x rfl rfl)
 obtain rfl:=rep_val (hvs 1 _ y rfl rfl)
 refine(Tryz.strings_IndexByte ⟨S.toArray⟩ (c:Int) w).mono fun e w' he=> ?_
 obtain⟨rfl,rfl⟩:=he
 refine⟨_,rfl,Ext.refl _,?_⟩
 rw[Int.toNat_natCast,show(⟨S.toArray⟩:ByteArray).data.toList=S from rfl,idx_eq]
 exact .val _
def SIxf:FuncId→List V→CR:=fun f args=>tab [(83,cS fun S=>cI .u8 fun c=>cF [0≤c,c<256] false (.i (if u8 c∈S then (i6 S (u8 c):Int) else-1)))] noF f args
def SIx (J:Inv):Sig:=⟨J,sdf,SIxf,noH,0⟩
theorem SIx_ok (J:Inv):SigOk Tryz.prog (SIx J):= .plain (tab_ok (.c (.s fun S=> .i fun c=> .z fun⟨c0,_,_⟩=>(by have h:=index_fn J S c.toNat;rwa [Int.toNat_of_nonneg c0] at h))<| .n) noF_ok)
theorem b64num_fn (J:Inv) (S:List UInt8) (c:Int) (h0:0≤c) (h1:c<256) (hm:u8 c∈S) (hS:S.length=64):Fn Tryz.prog J 136 false [.val (.int .u8 c), .str S] (.val (.int .u64 (i6 S (u8 c):Nat))):=by
 refine fnI Tryz.func136 rfl (by kernel_rfl) rfl (SIx_ok J) ?_
 unfold Tryz.f136
 have hi:i6 S (u8 c)<64:=by rw[←hS];exact List.idxOf_lt_length_of_mem hm
 simp only[↓bE,bQ,reduceEqDiff,reduceAdd,↓reduceIte,reduceCtorEq,SIx,SIxf,if_pos hm]
 rw[wr64n (by omega)]
 exact⟨h0,h1,rfl⟩
def SNuf:FuncId→List V→CR:=fun f args=>tab [(136,cI .u8 fun c=>cS fun S=>cF [0≤c,c<256,u8 c∈S,S.length=64] false (.val (.int .u64 (i6 S (u8 c):Nat))))] SIxf f args
def SNu (J:Inv):Sig:=⟨J,sdf,SNuf,noH,0⟩
theorem SNu_ok (J:Inv):SigOk Tryz.prog (SNu J):= .plain (tab_ok (.c (.i fun c=> .s fun S=> .z fun⟨c0,c1,c2,c3,_⟩=>b64num_fn J S c c0 c1 c2 c3)<| .n) (SIx_ok J).1)
theorem byteAt3 (x y z u:UInt8) (l:List UInt8):byteAt (x::y::z::u::l) 3=((u.toNat:Nat):Int):=rfl
theorem u8_toN (x:UInt8):u8 ((x.toNat:Nat):Int)=x:=by
 unfold u8
 exact UInt8.toNat_inj.1 (by rw[Int.toNat_natCast,UInt8.toNat_ofNat',Nat.mod_eq_of_lt x.toNat_lt])
theorem read_app (S:List UInt8): ∀(p d:List UInt8),p.length%4=0→readF S (p++d)=((readF S p).1++(readF S d).1,(readF S d).2)
 |a::b::c::e::r,d,h=>by
  have:=read_app S r d (by simp only[List.length_cons] at h;omega)
  simp only[List.cons_append,readF,this,List.append_assoc]
 |[a,b,c],d,h=>by simp at h
 |[a,b],d,h=>by simp at h
 |[a],d,h=>by simp at h
 |[],d,h=>rfl
theorem read_t (S:List UInt8): ∀(p:List UInt8),p.length%4=0→(readF S p).2=true
 |a::b::c::e::r,h=>read_t S r (by simp only[List.length_cons] at h;omega)
 |[a,b,c],h=>by simp at h
 |[a,b],h=>by simp at h
 |[a],h=>rfl
 |[],h=>rfl
theorem read_len (S:List UInt8): ∀(p:List UInt8),(readF S p).1.length≤p.length
 |a::b::c::e::r=>by
  have:=read_len S r
  simp only[readF,List.length_append,List.length_cons,List.length_nil];omega
 |[a,b,c]=>by simp[readF]
 |[a,b]=>by simp[readF]
 |[a]=>by simp[readF]
 |[]=>by simp[readF]
theorem or4 {a b c d:Nat} (ha:a<64) (hb:b<64) (hc:c<64) (hd:d<64):bt .or .u64 (bt .or .u64 (bt .or .u64 (wr .u64 ((a:Int)*262144)) (wr .u64 ((b:Int)*4096))) (wr .u64 ((c:Int)*64))) (d:Int)=((a*262144+b*4096+c*64+d:Nat):Int):=by
 rw[show(a:Int)*262144=((a*262144:Nat):Int) by omega,show(b:Int)*4096=((b*4096:Nat):Int) by omega,show(c:Int)*64=((c*64:Nat):Int) by omega,wr64n (by omega),wr64n (by omega),wr64n (by omega),bt_eq,bt_eq,bt_eq,bits_or64 (by omega) (by omega)]
 have h1:a*262144|||b*4096=a*262144+b*4096:=by
  have:=or_add (a:=b*4096) (b:=a) (k:=18) (by omega)
  rw[Nat.or_comm,show a*262144=2^18*a by omega,this];omega
 rw[h1,bits_or64 (by omega) (by omega)]
 have h2:a*262144+b*4096|||c*64=a*262144+b*4096+c*64:=by
  have:=or_add (a:=c*64) (b:=a*64+b) (k:=12) (by omega)
  rw[Nat.or_comm,show a*262144+b*4096=2^12*(a*64+b) by omega,this];omega
 rw[h2,bits_or64 (by omega) (by omega)]
 have h3:a*262144+b*4096+c*64|||d=a*262144+b*4096+c*64+d:=by
  have:=or_add (a:=d) (b:=a*4096+b*64+c) (k:=6) (by omega)
  rw[Nat.or_comm,show a*262144+b*4096+c*64=2^6*(a*4096+b*64+c) by omega,this];omega
 rw[h3]
theorem or2 {a b c:Nat} (ha:a<64) (hb:b<64) (hc:c<64):bt .or .u64 ((c*64:Nat):Int) (bt .or .u64 (wr .u64 ((a:Int)*262144)) (wr .u64 ((b:Int)*4096)))=((a*262144+b*4096+c*64:Nat):Int):=by
 rw[show(a:Int)*262144=((a*262144:Nat):Int) by omega,show(b:Int)*4096=((b*4096:Nat):Int) by omega,wr64n (by omega),wr64n (by omega),bt_eq,bt_eq,bits_or64 (by omega) (by omega)]
 have h1:a*262144|||b*4096=a*262144+b*4096:=by
  have:=or_add (a:=b*4096) (b:=a) (k:=18) (by omega)
  rw[Nat.or_comm,show a*262144=2^18*a by omega,this];omega
 rw[h1,bits_or64 (by omega) (by omega)]
 have h2:c*64|||(a*262144+b*4096)=a*262144+b*4096+c*64:=by
  have:=or_add (a:=c*64) (b:=a*64+b) (k:=12) (by omega)
  rw[show a*262144+b*4096=2^12*(a*64+b) by omega,this];omega
 rw[h2]
theorem u8_mod (n:Nat):u8 (((n%256:Nat)):Int)=UInt8.ofNat n:=by
 unfold u8
 exact UInt8.toNat_inj.1 (by rw[Int.toNat_natCast,UInt8.toNat_ofNat',UInt8.toNat_ofNat',Nat.mod_mod])
theorem and255 {n:Nat} (h:n<18446744073709551616):bt .and .u64 (n:Int) 255=((n%256:Nat):Int):=by
 rw[show(255:Int)=((255:Nat):Int) from rfl,and_u64b h (by omega)]
 have:=Nat.and_two_pow_sub_one_eq_mod n 8
 rw[show(2:Nat)^8-1=255 from rfl,show(2:Nat)^8=256 from rfl] at this
 rw[this]
theorem and65535 {n:Nat} (h:n<18446744073709551616):bt .and .u64 (n:Int) 65535=((n%65536:Nat):Int):=by
 rw[show(65535:Int)=((65535:Nat):Int) from rfl,and_u64b h (by omega)]
 have:=Nat.and_two_pow_sub_one_eq_mod n 16
 rw[show(2:Nat)^16-1=65535 from rfl,show(2:Nat)^16=65536 from rfl] at this
 rw[this]
theorem beqN0 (n:Nat):(((n:Nat):Int)==0)=(n==0):=by
 rcases n with _|n
 ·rfl
 ·rw[beq_eq_false_iff_ne.2 (by omega),beq_eq_false_iff_ne.2 (by omega)]
theorem read_fn (J:Inv) (S s:List UInt8) (hS:S.length=64) (hs: ∀c∈s,c∈S) (hl:s.length≤67108864):Fn Tryz.prog J 84 false [.str s, .str S] (.tu [.by (readF S s).1, .bb (readF S s).2]):=by
 refine fnI Tryz.func84 rfl (by kernel_rfl) rfl (SNu_ok J) ?_
 unfold Tryz.f84
 simp only[bQ,reduceAdd,↓reduceIte,reduceCtorEq,reduceToNat,SNu]
 refine⟨by constructor<;>omega,by omega,by omega,by constructor<;>omega,by constructor<;>omega,by omega,by omega,by omega,by omega,?_⟩
 refine LoopC.intro (α:=List UInt8×List UInt8×Nat) (fun y=>y.1++y.2.1=s∧y.1.length%4=0) (fun y=>⟨[(0, .str y.2.1),(1, .str S),(6, .ro (.r y.2.2))],[(y.2.2, .row 5 (.by (readF S y.1).1))],y.2.2+1⟩) (fun y=>y.2.1.length) ([],s,0) ⟨rfl,rfl⟩ ?_ ?_
 ·simp only[bQ,reduceLeDiff,reduceEqDiff,↓reduceIte,reduceCtorEq,readF]
  rfl
 ·rintro⟨p,d,r⟩ ⟨hp,hi⟩
  simp only at hp hi
  have a0:(r=r+1)=False:=eq_false (by omega)
  have a1:(r+1=r)=False:=eq_false (by omega)
  have hpl:=read_len S p
  subst hp
  rw[List.length_append] at hl
  have hm: ∀c∈d,c∈S:=fun c hc=>hs c (List.mem_append_right _ hc)
  rcases d with _|⟨x,_|⟨y,_|⟨z,_|⟨u,t⟩⟩⟩⟩
  ·have c0:decide ((4:Int)≤((0:Nat):Int))=false:=rfl
   have c1:(((0:Nat):Int)==3)=false:=rfl
   have c2:(((0:Nat):Int)==2)=false:=rfl
   simp only[↓bD,bQ,reduceLeDiff,reduceEqDiff,reduceAdd,↓reduceIte,reduceCtorEq,List.append_nil,c0,c1,c2]
   exact(read_t S p hi).symm
  ·have c0:decide ((4:Int)≤((1:Nat):Int))=false:=rfl
   have c1:(((1:Nat):Int)==3)=false:=rfl
   have c2:(((1:Nat):Int)==2)=false:=rfl
   simp only[↓bD,bQ,reduceLeDiff,reduceEqDiff,reduceAdd,↓reduceIte,reduceCtorEq,List.append_nil,c0,c1,c2,read_app S p _ hi,readF]
  ·have c0:decide ((4:Int)≤((2:Nat):Int))=false:=rfl
   have c1:(((2:Nat):Int)==3)=false:=rfl
   have c2:(((2:Nat):Int)==2)=true:=rfl
   have mx:=hm x (by simp)
   have my:=hm y (by simp)
   have hx:=x.toNat_lt
   have hy:=y.toNat_lt
   have ix:i6 S x<64:=by rw[←hS];exact List.idxOf_lt_length_of_mem mx
   have iy:i6 S y<64:=by rw[←hS];exact List.idxOf_lt_length_of_mem my
   obtain⟨N,hN,ho⟩: ∃N,i6 S x*262144+i6 S y*4096=N∧bt .or .u64 0 (bt .or .u64 (wr .u64 ((i6 S x:Int)*262144)) (wr .u64 ((i6 S y:Int)*4096)))=((N:Nat):Int):=⟨_,rfl,by have h:=or2 ix iy (show 0<64 by omega);rw[Nat.zero_mul,Nat.add_zero,show((0:Nat):Int)=0 from rfl] at h;exact h⟩
   simp only[↓bD,bQ,reduceEqDiff,reduceAdd,↓reduceIte,reduceCtorEq,c0,c1,c2,read_app S p _ hi,readF,hN]
   have q0:((N:Nat):Int)/65536%256=((N/65536%256:Nat):Int):=by omega
   have q1:((N:Nat):Int)/256%256=((N/256%256:Nat):Int):=by omega
   have q3:bt .and .u64 ((N:Nat):Int) 65535=((N%65536:Nat):Int):=and65535 (by omega)
   refine DrawC.sch [(0,some []),(1,some []),(2,some []),(3,some []),(6,some []),(7,some []),(8,some []),(4,none),(5,some []),(9,none),(10,some []),(11,some []),(12,some []),(13,some [])] [] (by kernel_rfl) ?_
   simp only[↓bD,bQ,reduceMul,reduceLeDiff,reduceEqDiff,reduceAdd,↓reduceIte,reduceCtorEq,reduceToNat,reducePow,SNuf,a0,a1,byteAt0,byteAt1,u8_toN,ho,q0,c1,u8_mod,q3,beqN0]
   simp only[List.length_append,List.length_cons,List.length_nil] at hl⊢
   refine⟨by omega,by omega,by omega,by omega,by omega,by omega,mx,hS,by omega,by omega,by omega,my,hS,by omega,by omega,by omega,by omega,by omega⟩
  ·have c0:decide ((4:Int)≤((3:Nat):Int))=false:=rfl
   have c1:(((3:Nat):Int)==3)=true:=rfl
   have mx:=hm x (by simp)
   have my:=hm y (by simp)
   have mz:=hm z (by simp)
   have hx:=x.toNat_lt
   have hy:=y.toNat_lt
   have hz:=z.toNat_lt
   have ix:i6 S x<64:=by rw[←hS];exact List.idxOf_lt_length_of_mem mx
   have iy:i6 S y<64:=by rw[←hS];exact List.idxOf_lt_length_of_mem my
   have iz:i6 S z<64:=by rw[←hS];exact List.idxOf_lt_length_of_mem mz
   have e6:wr .u64 ((i6 S z:Int)*64)=((i6 S z*64:Nat):Int):=by rw[show(i6 S z:Int)*64=((i6 S z*64:Nat):Int) by omega];exact wr64n (by omega)
   obtain⟨N,hN,ho⟩: ∃N,i6 S x*262144+(i6 S y*4096+i6 S z*64)=N∧bt .or .u64 ((i6 S z*64:Nat):Int) (bt .or .u64 (wr .u64 ((i6 S x:Int)*262144)) (wr .u64 ((i6 S y:Int)*4096)))=((N:Nat):Int):=⟨_,rfl,by rw[or2 ix iy iz,Nat.add_assoc]⟩
   simp only[↓bD,bQ,reduceLeDiff,reduceEqDiff,reduceAdd,↓reduceIte,reduceCtorEq,reduceToNat,reducePow,SNuf,List.append_nil,c0,c1,read_app S p _ hi,readF,byteAt2,u8_toN,hN]
   refine⟨by omega,by omega,by omega,by omega,mz,hS,by omega,?_⟩
   have q0:((N:Nat):Int)/65536%256=((N/65536%256:Nat):Int):=by omega
   have q1:((N:Nat):Int)/256%256=((N/256%256:Nat):Int):=by omega
   have q3:bt .and .u64 ((N:Nat):Int) 255=((N%256:Nat):Int):=and255 (by omega)
   refine DrawC.sch [(0,some []),(1,some []),(2,some []),(3,some []),(6,some []),(7,some []),(8,some []),(4,none),(5,some []),(9,none),(10,some []),(11,some []),(12,some []),(13,some [])] [] (by kernel_rfl) ?_
   simp only[↓bD,bQ,reduceMul,reduceLeDiff,reduceEqDiff,reduceAdd,↓reduceIte,reduceCtorEq,reduceToNat,reducePow,SNuf,a0,a1,byteAt0,byteAt1,u8_toN,e6,ho,q0,q1,c1,u8_mod,q3,beqN0]
   simp only[List.length_append,List.length_cons,List.length_nil,List.append_assoc,List.cons_append,List.nil_append] at hl⊢
   refine⟨by omega,by omega,by omega,by omega,by omega,by omega,mx,hS,by omega,by omega,by omega,my,hS,by omega,by omega,by omega,by omega,by omega,by omega,by omega,by omega,by omega,trivial⟩
  ·have hc:decide ((4:Int)≤((t.length+4:Nat):Int))=true:=decide_eq_true (by omega)
   have mx:=hm x (by simp)
   have my:=hm y (by simp)
   have mz:=hm z (by simp)
   have mu:=hm u (by simp)
   have hx:=x.toNat_lt
   have hy:=y.toNat_lt
   have hz:=z.toNat_lt
   have hu:=u.toNat_lt
   have ix:i6 S x<64:=by rw[←hS];exact List.idxOf_lt_length_of_mem mx
   have iy:i6 S y<64:=by rw[←hS];exact List.idxOf_lt_length_of_mem my
   have iz:i6 S z<64:=by rw[←hS];exact List.idxOf_lt_length_of_mem mz
   have iu:i6 S u<64:=by rw[←hS];exact List.idxOf_lt_length_of_mem mu
   obtain⟨N,hN,ho⟩: ∃N,i6 S x*262144+(i6 S y*4096+(i6 S z*64+i6 S u))=N∧bt .or .u64 (bt .or .u64 (bt .or .u64 (wr .u64 ((i6 S x:Int)*262144)) (wr .u64 ((i6 S y:Int)*4096))) (wr .u64 ((i6 S z:Int)*64))) (i6 S u:Int)=((N:Nat):Int):=⟨_,rfl,by rw[or4 ix iy iz iu,Nat.add_assoc,Nat.add_assoc]⟩
   have q0:((N:Nat):Int)/65536%256=((N/65536%256:Nat):Int):=by omega
   have q1:((N:Nat):Int)/256%256=((N/256%256:Nat):Int):=by omega
   have q2:((N:Nat):Int)%256=((N%256:Nat):Int):=by omega
   simp only[↓bD,bQ,reduceAdd,↓reduceIte,hc]
   refine DrawC.sch [(0,some []),(1,some []),(2,some []),(5,some []),(6,some []),(7,some []),(11,some []),(12,some []),(13,some []),(17,some []),(18,some []),(19,some []),(3,none),(4,some []),(8,none),(9,some []),(10,some []),(14,none),(15,some []),(16,some []),(20,none),(21,some []),(22,some [])] [] (by kernel_rfl) ?_
   simp only[↓bD,bQ,reduceMul,reduceLeDiff,reduceEqDiff,reduceAdd,↓reduceIte,reduceCtorEq,reduceToNat,reducePow,SNuf,a0,a1,byteAt0,byteAt1,byteAt2,byteAt3,u8_toN,ho,q0,q1,q2,u8_mod]
   have e4:(((t.length+4:Nat):Int)-4)=t.length:=by omega
   simp only[List.length_append,List.length_cons,List.length_nil] at hl⊢
   refine⟨by omega,by omega,by omega,by omega,by omega,by omega,by omega,by omega,by omega,by omega,mx,hS,by omega,by omega,by omega,my,hS,by omega,by omega,by omega,mz,hS,by omega,by omega,by omega,mu,hS,by omega,by omega,by omega,by omega,by omega,by omega,by omega,by omega,by omega,by omega,by omega,Again.intro (p++[x,y,z,u],t,r+2) ⟨by simp,by simp[hi]⟩ (by simp only[List.length_cons];omega) ?_⟩
   have b0:(r+2=r+1)=False:=eq_false (by omega)
   have b1:(r+1=r+2)=False:=eq_false (by omega)
   have b2:(r=r+2)=False:=eq_false (by omega)
   have b3:(r+2=r)=False:=eq_false (by omega)
   simp only[bQ,reduceLeDiff,reduceEqDiff,reduceAdd,↓reduceIte,reduceCtorEq,read_app S p _ hi,readF,hN,Nat.add_sub_cancel,List.append_nil]
   rw[cutL_eq]
   exact⟨by simp,Nat.le_refl _⟩
def SRdf:FuncId→List V→CR:=fun f args=>tab [(84,cS fun s=>cS fun S=>cF [S.length=64,∀c∈s,c∈S,s.length≤67108864] false (.tu [.by (readF S s).1, .bb (readF S s).2]))] SIxf f args
def SRd (J:Inv):Sig:=⟨J,sdf,SRdf,noH,0⟩
theorem SRd_ok (J:Inv):SigOk Tryz.prog (SRd J):= .plain (tab_ok (.c (.s fun s=> .s fun S=> .z fun⟨c0,c1,c2,_⟩=>read_fn J S s c0 c1 c2)<| .n) (SIx_ok J).1)
theorem spell_mem {S:List UInt8} (hS:S.length=64) (b:List UInt8): ∀c∈spellF S b,c∈S:=by
 have hg: ∀n,n<64→b6 S n∈S:=fun n hn=>by
  unfold b6
  rw[List.getD_eq_getElem?_getD,List.getElem?_eq_getElem (by omega)]
  exact List.getElem_mem _
 suffices h: ∀k (b:List UInt8),b.length≤k→ ∀c∈spellF S b,c∈S from h _ b (Nat.le_refl _)
 intro k
 induction k with
 |zero=>intro b hb c hc;obtain rfl:b=[]:=List.length_eq_zero_iff.1 (by omega);simp[spellF] at hc
 |succ k ih=>
  intro b hb c hc
  rcases b with _|⟨x,_|⟨y,_|⟨z,t⟩⟩⟩
  ·simp[spellF] at hc
  ·have hx:=x.toNat_lt
   simp only[spellF,List.mem_cons,List.not_mem_nil,or_false] at hc
   rcases hc with rfl|rfl<;>exact hg _ (by omega)
  ·have hx:=x.toNat_lt
   have hy:=y.toNat_lt
   simp only[spellF,List.mem_cons,List.not_mem_nil,or_false] at hc
   rcases hc with rfl|rfl|rfl<;>exact hg _ (by omega)
  ·have hx:=x.toNat_lt
   have hy:=y.toNat_lt
   have hz:=z.toNat_lt
   simp only[spellF,List.mem_cons] at hc
   rcases hc with rfl|rfl|rfl|rfl|hc
   ·exact hg _ (by omega)
   ·exact hg _ (by omega)
   ·exact hg _ (by omega)
   ·exact hg _ (by omega)
   ·exact ih t (by simp only[List.length_cons] at hb;omega) c hc
theorem std_al:Al stdS:=⟨rfl,by decide⟩
theorem byteAt_l {L R:List UInt8} {m:Nat} (h:m<L.length):u8 (byteAt (L++R) m)∈L:=by
 rw[u8_get,List.getD_eq_getElem?_getD,List.getElem?_append_left h,List.getElem?_eq_getElem h]
 exact List.getElem_mem _
theorem byteAt_r {L:List UInt8} {k m:Nat} (h:L.length≤m) (h2:m<L.length+k):byteAt (L++List.replicate k 61) m=61:=by
 rw[byteAt_get,List.getD_eq_getElem?_getD,List.getElem?_append_right h,List.getElem?_replicate,if_pos (by omega)]
 rfl
end Go.Proofs.YtfengpdaocgcnaaGreatDoor
