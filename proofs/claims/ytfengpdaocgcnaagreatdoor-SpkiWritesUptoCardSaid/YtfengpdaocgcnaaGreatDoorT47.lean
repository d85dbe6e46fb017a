/- The document's base64: bit by bit. The document's PEM text of a key. Printing: the bytes as memory of the caller's own. -/
import Derived.Test.YtfengpdaocgcnaaGreatDoorT41
import Derived.Test.YtfengpdaocgcnaaGreatDoorT31
import Derived.Test.YtfengpdaocgcnaaGreatDoorT46
import Derived.Test.YtfengpdaocgcnaaGreatDoorT42
import Derived.Test.YtfengpdaocgcnaaGreatDoorT36
import Derived.Test.YtfengpdaocgcnaaGreatDoorQ17
namespace Go.Proofs.YtfengpdaocgcnaaGreatDoor
open Nat (reduceMul reduceLeDiff reduceEqDiff reduceLT reduceAdd reduceSub reduceDiv)
open Int (reduceToNat reducePow)
open Go.RowKit
set_option linter.unusedSimpArgs false
set_option maxRecDepth 100000
def bitR (b:List UInt8) (i:Nat):Nat:=(b.getD (i/8) 0).toNat/2^(7-i%8)%2
theorem and_i1 {a:Nat} (ha:a<256):bt .and .i64 (a:Int) 1=((a%2:Nat):Int):=by
 rw[bt_eq]
 have h1:(BitVec.ofInt 64 (a:Int)).toNat=a:=by rw[BitVec.ofInt_natCast,BitVec.toNat_ofNat];exact Nat.mod_eq_of_lt (by omega)
 have h2:(BitVec.ofInt 64 1).toNat=1:=rfl
 have hx:=Nat.and_one_is_mod a
 show IntKind.i64.wrap ((BitVec.ofInt 64 (a:Int)&&&BitVec.ofInt 64 1).toNat:Int)=_
 rw[BitVec.toNat_and,h1,h2,IntKind.wrap_i64,hx]
 omega
theorem rbit_fn (J:Inv) (b:List UInt8) (i:Nat) (hi:i≤1000000000):Fn Tryz.prog J 183 false [.by b, .i i] (.i (bitR b i)):=by
 refine fnI Tryz.func183 rfl (by kernel_rfl) rfl (S0_ok J) ?_
 unfold Tryz.f183
 simp only[↓bD,bQ,reduceEqDiff,reduceLT,reduceAdd,↓reduceIte,reduceCtorEq,S0]
 have e1:wr .u64 (7-(i:Int)%8)=((7-i%8:Nat):Int):=by
  rw[show 7-(i:Int)%8=((7-i%8:Nat):Int) by omega];exact wr64n (by omega)
 have e2:((i:Int)/8).toNat=i/8:=by omega
 rw[e1,e2,Int.toNat_natCast,if_pos (by omega)]
 have e3:byteAt b (i/8)/2^(7-i%8)=(((b.getD (i/8) 0).toNat/2^(7-i%8):Nat):Int):=by unfold byteAt;push_cast;rfl
 have h3:(b.getD (i/8) 0).toNat/2^(7-i%8)<256:=Nat.lt_of_le_of_lt (Nat.div_le_self _ _) (UInt8.toNat_lt _)
 have e4: ∀d:Nat,d<256→wr .i64 (d:Int)=d:=fun d h=>by rw[wr_eq,IntKind.wrap_i64];omega
 rw[e3,e4 _ h3,and_i1 h3]
 refine⟨by constructor<;>omega,by omega,by omega,fun h=> ?_,fun h=>⟨by constructor<;>omega,by omega,by omega,by omega,by have:=of_decide_eq_false h;omega,by omega,by omega,by constructor<;>omega,by omega,rfl⟩⟩
 have h:=of_decide_eq_true h
 unfold bitR
 rw[List.getD_eq_getElem?_getD,List.getElem?_eq_none (by omega)]
 simp
theorem rbit_fnI (J:Inv) (b:List UInt8) (i:Int) (h0:0≤i) (hi:i≤1000000000):Fn Tryz.prog J 183 false [.by b, .i i] (.i (bitR b i.toNat)):=by
 obtain⟨i,rfl⟩:=Int.eq_ofNat_of_zero_le h0
 exact rbit_fn J b i (by omega)
def bitsR (b:List UInt8) (i:Nat):Nat→Nat
 |0=>0
 |k+1=>2*bitsR b i k+bitR b (i+k)
theorem bitR_lt (b:List UInt8) (i:Nat):bitR b i<2:=Nat.mod_lt _ (by omega)
theorem bitsR_lt (b:List UInt8) (i:Nat): ∀k,bitsR b i k<2^k
 |0=>by simp[bitsR]
 |k+1=>by
  have h1:=bitsR_lt b i k
  have h2:=bitR_lt b (i+k)
  rw[bitsR,Nat.pow_succ];omega
def spellR (S b:List UInt8) (n:Nat):List UInt8:=(List.range n).map fun j=>b6 S (bitsR b (6*j) 6)
theorem bitsR_6 (b:List UInt8) (i:Nat):bitsR b i 6=32*bitR b i+16*bitR b (i+1)+8*bitR b (i+2)+4*bitR b (i+3)+2*bitR b (i+4)+bitR b (i+5):=by
 simp only[bitsR,Nat.add_zero];omega
theorem bitsR_tail (a b c:UInt8) (r:List UInt8) (j:Nat):bitsR (a::b::c::r) (6*(j+4)) 6=bitsR r (6*j) 6:=by
 have h: ∀k,bitR (a::b::c::r) (6*(j+4)+k)=bitR r (6*j+k):=fun k=>by
  unfold bitR
  rw[show(6*(j+4)+k)/8=(6*j+k)/8+3 by omega,show(6*(j+4)+k)%8=(6*j+k)%8 by omega]
  rfl
 have h0:bitR (a::b::c::r) (6*(j+4))=bitR r (6*j):=h 0
 rw[bitsR_6,bitsR_6,h0,h,h,h,h,h]
theorem six_0 (a:UInt8) (r:List UInt8):bitsR (a::r) 0 6=a.toNat/4:=by
 have:=a.toNat_lt
 rw[bitsR_6];simp only[bitR,Nat.reduceAdd,Nat.reduceDiv,Nat.reduceMod,Nat.reduceSub,Nat.reducePow,Nat.zero_div,Nat.zero_mod,List.getD_cons_zero];omega
theorem six_1 (a b:UInt8) (r:List UInt8):bitsR (a::b::r) 6 6=a.toNat%4*16+b.toNat/16:=by
 have:=b.toNat_lt
 rw[bitsR_6];simp only[bitR,Nat.reduceAdd,Nat.reduceDiv,Nat.reduceMod,Nat.reduceSub,Nat.reducePow,List.getD_cons_zero,List.getD_cons_succ];omega
theorem six_2 (a b c:UInt8) (r:List UInt8):bitsR (a::b::c::r) 12 6=b.toNat%16*4+c.toNat/64:=by
 have:=c.toNat_lt
 rw[bitsR_6];simp only[bitR,Nat.reduceAdd,Nat.reduceDiv,Nat.reduceMod,Nat.reduceSub,Nat.reducePow,List.getD_cons_zero,List.getD_cons_succ];omega
theorem six_3 (a b c:UInt8) (r:List UInt8):bitsR (a::b::c::r) 18 6=c.toNat%64:=by
 rw[bitsR_6];simp only[bitR,Nat.reduceAdd,Nat.reduceDiv,Nat.reduceMod,Nat.reduceSub,Nat.reducePow,List.getD_cons_zero,List.getD_cons_succ];omega
theorem six_e1 (a:UInt8):bitsR [a] 6 6=a.toNat%4*16:=by
 rw[bitsR_6];simp only[bitR,Nat.reduceAdd,Nat.reduceDiv,Nat.reduceMod,Nat.reduceSub,Nat.reducePow,List.getD_cons_zero,List.getD_cons_succ,List.getD_nil,UInt8.toNat_zero,Nat.zero_div,Nat.zero_mod];omega
theorem six_e2 (a b:UInt8):bitsR [a,b] 12 6=b.toNat%16*4:=by
 rw[bitsR_6];simp only[bitR,Nat.reduceAdd,Nat.reduceDiv,Nat.reduceMod,Nat.reduceSub,Nat.reducePow,List.getD_cons_zero,List.getD_cons_succ,List.getD_nil,UInt8.toNat_zero,Nat.zero_div,Nat.zero_mod];omega
theorem spellR_eq (S:List UInt8): ∀b:List UInt8,spellR S b ((8*b.length+5)/6)=spellF S b
 |a::b::c::r=>by
  have ih:=spellR_eq S r
  unfold spellR at ih⊢
  rw[show(8*(a::b::c::r).length+5)/6=(8*r.length+5)/6+1+1+1+1 by simp only[List.length_cons];omega,List.range_succ_eq_map,List.map_cons,List.map_map,List.range_succ_eq_map,List.map_cons,List.map_map,List.range_succ_eq_map,List.map_cons,List.map_map,List.range_succ_eq_map,List.map_cons,List.map_map,spellF,←ih]
  simp only[Function.comp_def,Nat.succ_eq_add_one,Nat.zero_add,Nat.mul_zero,Nat.reduceAdd,Nat.reduceMul,Nat.mul_one,six_0,six_1,six_2,six_3]
  congr 4
  refine List.map_congr_left fun j _=> ?_
  rw[←bitsR_tail a b c r j]
 |[a,b]=>by
  unfold spellR
  rw[show(8*[a,b].length+5)/6=3 by simp only[List.length_cons,List.length_nil]]
  simp only[List.range_succ,List.range_zero,List.map_cons,List.map_nil,List.nil_append,List.cons_append,Nat.mul_zero,Nat.reduceMul,Nat.mul_one,six_0,six_1,six_e2,spellF]
 |[a]=>by
  unfold spellR
  rw[show(8*[a].length+5)/6=2 by simp only[List.length_cons,List.length_nil]]
  simp only[List.range_succ,List.range_zero,List.map_cons,List.map_nil,List.nil_append,List.cons_append,Nat.mul_zero,Nat.mul_one,six_0,six_e1,spellF]
 |[]=>rfl
theorem rsigns_fn (J:Inv) (v:Bool) (hv:v=true):Fn Tryz.prog J 182 false [.bb v] (.str stdS):=by
 subst hv
 refine fnI Tryz.func182 rfl (by kernel_rfl) rfl (S0_ok J) ?_
 unfold Tryz.f182
 simp only[↓bD,bQ,reduceEqDiff,reduceAdd,↓reduceIte,reduceCtorEq,S0]
 exact⟨by omega,rfl⟩
def REn1f:FuncId→List V→CR:=fun f args=>tab [(183,cY fun b=>cI .i64 fun i=>cF [0≤i,i≤1000000000] false (.i (bitR b i.toNat))),
 (182,cB fun v=>cF [v=true] false (.str stdS))] noF f args
def REn1 (J:Inv):Sig:=⟨J,sdf,REn1f,noH,0⟩
theorem REn1_ok (J:Inv):SigOk Tryz.prog (REn1 J):= .plain (tab_ok (.c (.y fun b=> .i fun i=> .z fun⟨c0,c1,_⟩=>rbit_fnI J b i c0 c1)<|
 .c (.b fun v=> .z fun⟨c0,_⟩=>rsigns_fn J v c0)<| .n) noF_ok)
theorem spellR_succ (S b:List UInt8) (j:Nat):spellR S b (j+1)=spellR S b j++[b6 S (bitsR b (6*j) 6)]:=by
 unfold spellR
 rw[List.range_succ,List.map_append];rfl
theorem spellR_len (S b:List UInt8) (j:Nat):(spellR S b j).length=j:=by unfold spellR;simp
theorem rspell_own (J:Inv) (b:List UInt8) (hb:b.length≤100000000):FnH Tryz.prog J 127 [.by b, .bb true] [] 0 (.str (spellF stdS b)) [] 1:=by
 rw[←spellR_eq]
 refine fnJ Tryz.func127 rfl (by kernel_rfl) (REn1_ok J) rfl ?_
 unfold Tryz.f127
 simp only[↓bD,bQ,reduceEqDiff,reduceAdd,↓reduceIte,reduceCtorEq,REn1,REn1f]
 generalize hK:Kseq _ _ _ _=K2
 refine LoopC.introA (α:=Nat×Nat) (fun y=>y.1≤(8*b.length+5)/6) (fun y=>⟨[(6, .ro (.r y.2)),(7, .i ((6*y.1:Nat):Int)),(5, .str stdS),(0, .by b)],[(y.2, .row 5 (.by (spellR stdS b y.1)))],y.2+1⟩) (fun y=>(8*b.length+5)/6-y.1) (0,0) [.sl 6 5 (.by [])] (Nat.zero_le _) ?_ ?_
 ·simp only[bQ,reduceMul,reduceLeDiff,reduceEqDiff,↓reduceIte,reduceCtorEq]
  exact⟨rfl,rfl⟩
 ·rintro⟨j,k⟩ q
  simp only at q
  simp only[bQ,reduceEqDiff,↓reduceIte,reduceCtorEq]
  refine⟨by constructor<;>omega,fun hj=> ?_,fun hj=> ?_⟩
  ·have hj:6*j<8*b.length:=by have:=of_decide_eq_true hj;omega
   generalize hK3:Kseq _ _ _ _=K3
   refine LoopC.intro (α:=Nat) (fun q=>q≤6) (fun q=>⟨[(8, .i (bitsR b (6*j) q)),(9, .i q),(6, .ro (.r k)),(7, .i ((6*j:Nat):Int)),(5, .str stdS),(0, .by b)],[(k, .row 5 (.by (spellR stdS b j)))],k+1⟩) (fun q=>6-q) 0 (Nat.zero_le _) ?_ ?_
   ·simp only[bQ,reduceLeDiff,reduceEqDiff,↓reduceIte,reduceCtorEq,bitsR]
    exact⟨⟨rfl,rfl⟩,Nat.le_refl _⟩
   ·intro q hq
    have hbl:bitsR b (6*j) q<64:=Nat.lt_of_lt_of_le (bitsR_lt b (6*j) q) (Nat.pow_le_pow_right (n:=2) (by omega) hq)
    have hb1:=bitR_lt b (6*j+q)
    have e1:(((6*j:Nat):Int)+(q:Int)).toNat=6*j+q:=by omega
    simp only[↓bD,bQ,reduceEqDiff,↓reduceIte,reduceCtorEq,REn1f,e1]
    refine⟨fun h=> ?_,fun h=> ?_⟩
    ·have hq2:q<6:=by have:=of_decide_eq_true h;omega
     refine⟨by constructor<;>omega,by constructor<;>omega,by omega,by omega,by constructor<;>omega,by constructor<;>omega,Again.intro (q+1) (by omega) (by omega) ?_⟩
     simp only[bQ,reduceLeDiff,reduceEqDiff,↓reduceIte,reduceCtorEq,bitsR]
     exact⟨⟨by omega,by omega⟩,Nat.le_refl _⟩
    ·have hq2:q=6:=by have:=of_decide_eq_false h;omega
     subst hq2
     rw[←hK3]
     have hsl:stdS.length=64:=rfl
     have hu:u8 (byteAt stdS (bitsR b (6*j) 6))=b6 stdS (bitsR b (6*j) 6):=by unfold u8 byteAt b6;simp
     have h0:=byteAt_lo stdS (bitsR b (6*j) 6)
     have h1:=byteAt_hi stdS (bitsR b (6*j) 6)
     simp only[bQ,reduceMul,reduceLeDiff,reduceEqDiff,reduceAdd,↓reduceIte,reduceCtorEq,hu,←spellR_succ,spellR_len,hsl]
     refine⟨by omega,by omega,by omega,by omega,by omega,by constructor<;>omega,Again.intro (j+1,k+2) (by show j+1≤_;omega) (by simp only;omega) ?_⟩
     simp only[bQ,reduceLeDiff,reduceEqDiff,reduceAdd,↓reduceIte,reduceCtorEq]
     exact⟨by omega,Nat.le_refl _⟩
  ·have hj:j=(8*b.length+5)/6:=by have:=of_decide_eq_false hj;omega
   subst hj
   rw[←hK]
   simp only[bQ,reduceEqDiff,↓reduceIte]
   refine RenC.intro [] ⟨[(4, .str (spellR stdS b ((8*b.length+5)/6)))],[],0⟩ ?_ ?_
   ·simp only[bQ,reduceLeDiff,↓reduceIte]
   ·simp only[bQ,reduceLeDiff,↓reduceIte]
theorem rspell_fn (J:Inv) (b:List UInt8) (v:Bool) (hv:v=true) (hb:b.length≤100000000):Fn Tryz.prog J 127 false [.by b, .bb v] (.str (spellF stdS b)):=by
 subst hv
 exact Fn.of_plain (rspell_own J b hb) rfl
def REn2f:FuncId→List V→CR:=fun f args=>tab [(127,cY fun b=>cB fun v=>cF [v=true,b.length≤100000000] false (.str (spellF stdS b)))] noF f args
def REn2 (J:Inv):Sig:=⟨J,sdf,REn2f,noH,0⟩
theorem REn2_ok (J:Inv):SigOk Tryz.prog (REn2 J):= .plain (tab_ok (.c (.y fun b=> .b fun v=> .z fun⟨c0,c1,_⟩=>rspell_fn J b v c0 c1)<| .n) noF_ok)
theorem rencStd_fn (J:Inv) (b:List UInt8) (hb:b.length≤100000000):Fn Tryz.prog J 71 false [.by b] (.str (encF stdS b)):=by
 have hl:=spell_len stdS b
 unfold encF
 refine fnI Tryz.func71 rfl (by kernel_rfl) rfl (REn2_ok J) ?_
 unfold Tryz.f71
 simp only[↓bD,bQ,↓reduceIte,reduceCtorEq,REn2,REn2f]
 generalize spellF stdS b=s at *
 have hsl:s.length≤200000000:=by split at hl<;>omega
 refine⟨hb,?_⟩
 refine LoopC.intro (α:=Nat) (fun q=>q≤(4-s.length%4)%4) (fun q=>⟨[(3, .str (s++List.replicate q 61))],[],0⟩) (fun q=>(4-s.length%4)%4-q) 0 (Nat.zero_le _) ?_ ?_
 ·simp only[bQ,reduceLeDiff,↓reduceIte,List.replicate_zero,List.append_nil]
 ·intro q hq
  simp only[bQ,reduceEqDiff,↓reduceIte,List.length_append,List.length_replicate]
  refine⟨by omega,by omega,fun h=> ?_,fun h=> ?_⟩
  ·have h:((s.length+q:Nat):Int)%4≠0:=fun e=>by rw[e] at h;exact absurd h (by decide)
   refine⟨by omega,Again.intro (q+1) (by omega) (by omega) ?_⟩
   simp only[bQ,reduceLeDiff,↓reduceIte]
   rw[List.replicate_succ',List.append_assoc]
  ·have h:((s.length+q:Nat):Int)%4=0:=by simpa using h
   have e:q=(4-s.length%4)%4:=by omega
   rw[←e]
def frR (s:List UInt8):Nat→List UInt8
 |0=>[]
 |i+1=>frR s i++(s.getD i 0::if i%64=63∨i+1=s.length then [10] else [])
theorem frR_head (s:List UInt8): ∀i,i≤64→i≤s.length→frR s i=s.take i++(if i=64∨i=s.length∧0<i then [10] else [])
 |0,_,_=>by rw[if_neg (by omega)];rfl
 |i+1,h1,h2=>by
  rw[frR,frR_head s i (by omega) (by omega),if_neg (by omega),List.append_nil]
  have e:s.take (i+1)=s.take i++[s.getD i 0]:=by
   rw[List.take_succ_eq_append_getElem (by omega),List.getD_eq_getElem?_getD,List.getElem?_eq_getElem (by omega)];rfl
  rw[e,List.append_assoc,List.singleton_append]
  by_cases h:i%64=63∨i+1=s.length
  ·rw[if_pos h,if_pos (by omega)]
  ·rw[if_neg h,if_neg (by omega)]
theorem frR_tail (s:List UInt8) (h:64≤s.length): ∀i,frR s (64+i)=frR s 64++frR (s.drop 64) i
 |0=>by rw[frR,List.append_nil]
 |i+1=>by
  show frR s (64+i)++(s.getD (64+i) 0::if (64+i)%64=63∨64+i+1=s.length then [10] else [])=frR s 64++(frR (s.drop 64) i++((s.drop 64).getD i 0::if i%64=63∨i+1=(s.drop 64).length then [10] else []))
  rw[frR_tail s h i,List.append_assoc]
  have e1:s.getD (64+i) 0=(s.drop 64).getD i 0:=by
   rw[List.getD_eq_getElem?_getD,List.getD_eq_getElem?_getD,List.getElem?_drop]
  have e2:((64+i)%64=63∨64+i+1=s.length)↔(i%64=63∨i+1=(s.drop 64).length):=by rw[List.length_drop];omega
  rw[e1]
  simp only[e2]
theorem frR_all: ∀n,∀s:List UInt8,s.length≤n→frR s s.length=pemL s
 |0,s,hn=>by
  obtain rfl:s=[]:=List.length_eq_zero_iff.1 (by omega)
  rw[pemL_nil];rfl
 |n+1,s,hn=>by
  by_cases hs:s=[]
  ·subst hs;rw[pemL_nil];rfl
  ·have hp:=List.length_pos_iff.2 hs
   rw[pemL_ne hs]
   by_cases h:64≤s.length
   ·have e:s.length=64+(s.drop 64).length:=by rw[List.length_drop];omega
    have ih:=frR_all n (s.drop 64) (by rw[List.length_drop];omega)
    conv=>lhs;rw[e]
    rw[frR_tail s h,ih,frR_head s 64 (Nat.le_refl _) h,if_pos (.inl rfl),List.append_assoc];rfl
   ·rw[frR_head s s.length (by omega) (Nat.le_refl _),if_pos (.inr ⟨rfl,hp⟩),List.drop_eq_nil_of_le (by omega),pemL_nil,List.take_length,List.take_of_length_le (by omega)]
theorem frR_len (s:List UInt8): ∀i,(frR s i).length≤2*i
 |0=>Nat.zero_le _
 |i+1=>by
  have:=frR_len s i
  rw[frR,List.length_append,List.length_cons]
  split<;>simp only[List.length_cons,List.length_nil]<;>omega
def RFaf:FuncId→List V→CR:=fun f args=>tab [(71,cY fun b=>cF [b.length≤100000000] false (.str (encF stdS b)))] noF f args
def RFa (J:Inv):Sig:=⟨J,sdf,RFaf,noH,0⟩
theorem RFa_ok (J:Inv):SigOk Tryz.prog (RFa J):= .plain (tab_ok (.c (.y fun b=> .z fun⟨c0,_⟩=>rencStd_fn J b c0)<| .n) noF_ok)
theorem rframe_fn (J:Inv) (b:List UInt8) (hb:b.length≤16777216):Fn Tryz.prog J 40 false [.by b] (.str (pemF b)):=by
 have hl:=spell_len stdS b
 have hel:(encF stdS b).length≤50000000:=by
  unfold encF
  rw[List.length_append,List.length_replicate];split at hl<;>omega
 have hp:pemF b=beginN++(frR (encF stdS b) (encF stdS b).length++endN):=by rw[frR_all _ _ (Nat.le_refl _)];rfl
 rw[hp]
 clear hp hl
 refine fnI Tryz.func40 rfl (by kernel_rfl) rfl (RFa_ok J) ?_
 unfold Tryz.f40
 have n1:[45,45,45,45,45,66,69,71,73,78,32,80,85,66,76,73,67,32,75,69,89,45,45,45,45,45,10]=beginN:=rfl
 have n2:[45,45,45,45,45,69,78,68,32,80,85,66,76,73,67,32,75,69,89,45,45,45,45,45,10]=endN:=rfl
 simp only[↓bD,bQ,↓reduceIte,reduceCtorEq,RFa,RFaf,n1]
 generalize encF stdS b=s at *
 refine⟨by omega,?_⟩
 generalize hK:Kseq _ _ _ _=K2
 refine LoopC.intro (α:=Nat) (fun i=>i≤s.length) (fun i=>⟨[(4, .str (beginN++frR s i)),(5, .i i),(3, .str s)],[],0⟩) (fun i=>s.length-i) 0 (Nat.zero_le _) ?_ ?_
 ·simp only[bQ,reduceLeDiff,reduceEqDiff,↓reduceIte,frR,List.append_nil]
  rfl
 ·intro i hi
  have hf:=frR_len s i
  have hbl:beginN.length=27:=rfl
  simp only[bQ,reduceEqDiff,↓reduceIte]
  refine⟨fun h=> ?_,fun h=> ?_⟩
  ·have hi2:i<s.length:=by have:=of_decide_eq_true h;omega
   have hc:cutL s i (((i:Int)+1).toNat-i)=[s.getD i 0]:=by
    rw[cutL_eq,show((i:Int)+1).toNat-i=1 by omega,List.drop_eq_getElem_cons hi2,List.getD_eq_getElem?_getD,List.getElem?_eq_getElem hi2];rfl
   rw[hc]
   simp only[List.length_append,List.length_cons,List.length_nil]
   refine⟨by constructor<;>omega,by omega,by omega,by omega,by omega,by omega,by omega,fun _=>by constructor<;>omega,fun h=> ?_,fun h=> ?_⟩
   ·have h:i%64=63∨i+1=s.length:=by
     simp only[Bool.or_eq_true,beq_iff_eq] at h
     omega
    refine⟨by omega,by constructor<;>omega,Again.intro (i+1) (by omega) (by omega) ?_⟩
    simp only[bQ,reduceLeDiff,reduceEqDiff,↓reduceIte,frR,if_pos h,List.append_assoc]
    rfl
   ·have h: ¬(i%64=63∨i+1=s.length):=by
     simp only[Bool.or_eq_false_iff,beq_eq_false_iff_ne] at h
     omega
    refine⟨by constructor<;>omega,Again.intro (i+1) (by omega) (by omega) ?_⟩
    simp only[bQ,reduceLeDiff,reduceEqDiff,↓reduceIte,frR,if_neg h,List.append_assoc]
    rfl
  ·have hi2:i=s.length:=by have:=of_decide_eq_false h;omega
   subst hi2
   rw[←hK]
   have hen:endN.length=25:=rfl
   simp only[bQ,reduceEqDiff,↓reduceIte,n2,List.length_append,List.append_assoc]
   omega
def RFbf:FuncId→List V→CR:=fun f args=>tab [(11,cK fun k=>cF [k.Ok] false (.tu [.by k.pr.1, .i k.pr.2])),
 (40,cY fun b=>cF [b.length≤16777216] false (.str (pemF b)))] noF f args
def RFb (J:Inv):Sig:=⟨J,sdf,RFbf,noH,0⟩
theorem RFb_ok (J:Inv):SigOk Tryz.prog (RFb J):= .plain (tab_ok (.c (.k fun k=> .z fun⟨c0,_⟩=>rprint_fn J k c0)<|
 .c (.y fun b=> .z fun⟨c0,_⟩=>rframe_fn J b c0)<| .n) noF_ok)
theorem rpem1_fn (J:Inv) (k:Ky) (hk:k.Ok) (h:(k.pr.2==0)=true):Fn Tryz.prog J 12 false [k.V] (.tu [.str (pemF k.pr.1), .i 0]):=by
 have hl:=pr_len k
 generalize hR:k.pr=R at *
 rcases k with ⟨kty,crv,s,n,e,x,y⟩
 refine fnI Tryz.func12 rfl (by kernel_rfl) rfl (RFb_ok J) ?_
 unfold Tryz.f12
 simp only[↓bD,bQ,reduceLeDiff,reduceEqDiff,reduceLT,reduceAdd,↓reduceIte,RFb,RFbf,Ky.V,keyV,cK,keyW,byN,hR,h]
 exact⟨hk,by omega⟩
theorem rpem0_fn (J:Inv) (k:Ky) (hk:k.Ok) (h:(k.pr.2==0)=false):Fn Tryz.prog J 12 false [k.V] (.tu [.str [], .i k.pr.2]):=by
 generalize hR:k.pr=R at *
 rcases k with ⟨kty,crv,s,n,e,x,y⟩
 refine fnI Tryz.func12 rfl (by kernel_rfl) rfl (RFb_ok J) ?_
 unfold Tryz.f12
 simp only[↓bD,bQ,reduceLeDiff,reduceEqDiff,reduceLT,reduceAdd,↓reduceIte,RFb,RFbf,Ky.V,keyV,cK,keyW,byN,hR,h]
 exact hk
theorem rpem_fn (J:Inv) (k:Ky) (hk:k.Ok):Fn Tryz.prog J 12 false [k.V] (.tu [.str k.pem.1, .i k.pem.2]):=by
 by_cases h:k.pr.2=0
 ·have e:k.pem=(pemF k.pr.1,0):=by unfold Ky.pem;rw[if_pos h]
  rw[e];exact rpem1_fn J k hk (beq_iff_eq.2 h)
 ·have e:k.pem=([],k.pr.2):=by unfold Ky.pem;rw[if_neg h]
  rw[e];exact rpem0_fn J k hk (beq_eq_false_iff_ne.2 h)
def G5b (J:Inv) (L:Nat→List UInt8) (b:Nat):Sig:=⟨J,df,G5f L,noH,b⟩
theorem G5b_ok (J:Inv) (L:Nat→List UInt8) (hL:L=lenF) (b:Nat):SigOk Tryz.prog (G5b J L b):=⟨(G5_ok J L hL).1,fun _ _ _ _ _ h=>by cases h⟩
theorem printH_walk (J:Inv) (b:Nat) (ts:List Tlv) (hs:Small ts) (f:Nat→Option Nat) (sz nx ins:Nat→Nat) (out:List UInt8) (code:Int)
  (hno:shapedF ts=false→out=[]∧code=80)
  (hf: ∀a b,f a=some b→a<b∧b≤ts.length∧nx a=b)
  (hst:shapedF ts=true→ ∀x,x<ts.length→0≤(ts.getD x default).kids∧tagF (tagT ts x)=true∧stK f (kidT ts x) (x+1)=some (nx x)∧ins x=(datT ts x).length+kdN nx sz (kidT ts x) (x+1))
  (hsz: ∀x,sz x=szOf (ins x)) (hbig:shapedF ts=true→(∃x,x<ts.length∧65536<sz x)→out=[]∧code=10)
  (hout:shapedF ts=true→(∀x,x<ts.length→sz x≤65536)→out=fl ts ins 0 ts.length∧code=0∧out.length≤65536):
  FnH Tryz.prog J 30 [tlsV ts] [] b (.tu [.ro (.r b), .i code]) [(b, .row 5 (.by out))] (b+1):=by
 have hs1:=hs.1
 obtain⟨L,hL⟩: ∃L,L=lenF:=⟨_,rfl⟩
 refine fnH_introN Tryz.func30 rfl (by kernel_rfl) (Nat.le_of_ble_eq_true (by kernel_rfl)) (by kernel_rfl) (by kernel_rfl) (G5b_ok J L hL b) rfl ?_
 unfold Tryz.f30
 simp only[bnA,reduceLeDiff,reduceAdd,↓reduceIte,reduceCtorEq,tlsV,tlvD,bnB,G5b,G5f]
 refine⟨hs,fun h0=> ?_,fun h0=> ?_⟩
 ·have hx:shapedF ts=false:=by simpa using h0
  obtain⟨rfl,rfl⟩:=hno hx
  refine .inl ⟨[.sl 2 5 (.by [])],⟨[(2, .ro (.r b)),(3, .i 80)],[(b, .row 5 (.by []))],b+1⟩,?_,?_⟩
  ·simp only[bnA,reduceLeDiff,reduceEqDiff,↓reduceIte]
   exact Nat.le_refl _
  ·simp only[bnA,reduceLeDiff,reduceEqDiff,↓reduceIte]
   exact Nat.le_refl _
 ·have h1:shapedF ts=true:=by simpa using h0
  have p3:=hst h1
  have p2:0<ts.length:=by unfold shapedF at h1;simp only[Bool.and_eq_true,decide_eq_true_eq] at h1;exact h1.1
  refine⟨by omega,by omega,by omega,by omega,by omega,by omega,by omega,by omega,by omega,by constructor<;>omega,?_⟩
  refine LoopC.intro (α:=Nat) (fun c=>c≤ts.length∧ ∀x,c≤x→x<ts.length→sz x≤65536)
   (fun c=>⟨[(0,tlsV ts),(4, .ro (.r b)),(5, .ro (.r (b+1))),(6, .ro (.r (b+2))),(7, .i ((c:Int)-1))],
    [(b, .row 3 (.sq 1 (.i 0) (nums .i64 (dtab (sz) ts.length c)))),(b+1, .row 3 (.sq 1 (.i 0) (nums .i64 (dtab (nx) ts.length c)))),(b+2, .row 3 (.sq 1 (.i 0) (nums .i64 (dtab (ins) ts.length c))))],b+3⟩)
   (fun c=>c) ts.length ⟨Nat.le_refl _,fun x h1 h2=>by omega⟩ ?_ ?_
  ·simp only[bnA,reduceLeDiff,reduceEqDiff,↓reduceIte,reduceCtorEq,tlsV,tlvD,df,tab_all sz ts.length]
   rw[←tab_all (nx),←tab_all (sz),←tab_all (ins)]
   exact⟨⟨rfl,rfl⟩,Nat.le_refl _⟩
  ·rintro c ⟨g1,g2⟩
   cases c with
   |zero=>
    simp only[bnA,reduceEqDiff,reduceLT,↓reduceIte,reduceCtorEq,tlsV,tlvD,bnB]
    refine⟨fun h0=>by simp at h0,fun _=> ?_⟩
    obtain⟨o1,o2,o3⟩:=hout h1 fun x hx=>g2 x (Nat.zero_le _) hx
    subst o2
    refine LoopC.introA (α:=Nat×Nat) (fun y=>y.1≤ts.length∧b+2<y.2)
     (fun y=>⟨[(10, .ro (.r y.2)),(6, .ro (.r (b+2))),(80,tlsV ts),(81, .i ts.length),(82, .i y.1)],[(y.2, .row 5 (.by (fl ts ins 0 y.1))),(b+2, .row 3 (.sq 1 (.i 0) (nums .i64 (dtab ins ts.length 0))))],y.2+1⟩)
     (fun y=>ts.length-y.1) (0,b+3) [.sl 10 5 (.by [])] ⟨Nat.zero_le _,by simp only;omega⟩ ?_ ?_
    ·simp only[bnA,reduceLeDiff,reduceEqDiff,reduceAdd,↓reduceIte,reduceCtorEq,tlsV,tlvD,fl]
     exact⟨rfl,Nat.le_refl _⟩
    ·rintro⟨x,k⟩ ⟨q1,q2⟩
     simp only at q1 q2
     have n1:(k=b+2)=False:=by simp;omega
     have n2:(b+2=k)=False:=by simp;omega
     have n3: ∀j,(k+j=b+2)=False:=fun j=>by simp;omega
     have n4: ∀j,(b+2=k+j)=False:=fun j=>by simp;omega
     simp only[bnA,reduceMul,reduceLeDiff,reduceEqDiff,reduceLT,reduceAdd,↓reduceIte,reduceCtorEq,tlsV,tlvD,bnB,G5f,n1,n3]
     refine⟨fun hx=> ?_,fun hx=> ?_⟩
     ·simp only[decide_eq_true_eq] at hx
      have hx:x<ts.length:=by omega
      obtain⟨w1,w2,w3,w4⟩:=p3 x hx
      obtain⟨t0,t1⟩:=tagF_range w2
      unfold tagT at t0 t1
      have e1:(ts.getD x default).tag%256=(ts.getD x default).tag:=by omega
      have e2:(dtab ins ts.length 0).getD x 0=(ins x:Int):=tab_get _ (Nat.zero_le _) hx
      have e3:fl ts ins 0 x++[u8 (ts.getD x default).tag]++L (ins x)++(ts.getD x default).data=fl ts ins 0 (x+1):=by
       rw[fl_add,Nat.zero_add,fl,fl,pieceT,hL];simp[tagT,datT]
      have e4:=fl_pre ts ins (a:=0) (show x+1≤ts.length by omega)
      have e5:(fl ts ins 0 ts.length).length≤65536:=by rw[←o1];exact o3
      have e6:=congrArg List.length e3
      simp only[List.length_append,List.length_cons,List.length_nil] at e6
      have e7:ins x<sz x:=by rw[hsz];unfold szOf;omega
      have e8:=g2 x (Nat.zero_le _) hx
      rw[e1,e2,tab_len,Int.toNat_natCast,e3]
      simp only[List.length_append,List.length_cons,List.length_nil]
      refine⟨by omega,by omega,by omega,by omega,by omega,by omega,by omega,by omega,by omega,by omega,by omega,by omega,by constructor<;>omega,?_⟩
      refine Again.intro (x+1,k+5) ⟨by simp only;omega,by simp only;omega⟩ (by simp only;omega) ?_
      simp only[bnA,reduceLeDiff,reduceEqDiff,reduceAdd,↓reduceIte,n3]
      exact⟨by omega,Nat.le_refl _⟩
     ·simp only[decide_eq_false_iff_not] at hx
      obtain rfl:x=ts.length:=by omega
      refine RenC.intro [(b,k)] ⟨[(2, .ro (.r b)),(3, .i 0)],[(b, .row 5 (.by (fl ts ins 0 ts.length)))],b+1⟩ ?_ ⟨[],⟨[(2, .ro (.r b)),(3, .i 0)],[(b, .row 5 (.by (fl ts ins 0 ts.length)))],b+1⟩,?_,?_⟩
      ·have n5: ¬b<b:=Nat.lt_irrefl _
       simp only[bnA,reduceEqDiff,↓reduceIte,n5]
       refine⟨by omega,by omega,by omega⟩
      ·simp only[bnA,reduceLeDiff,reduceEqDiff,↓reduceIte]
       exact Nat.le_refl _
      ·rw[o1]
       simp only[bnA,reduceLeDiff,reduceEqDiff,↓reduceIte]
       exact Nat.le_refl _
   |succ i=>
    have ei:(((i+1:Nat):Int)-1)=(i:Int):=by omega
    obtain⟨w1,w2,w3,w4⟩:=p3 i (by omega)
    have w5:=hs.at (show i<ts.length by omega)
    simp only[ei,bnA,reduceEqDiff,reduceLT,↓reduceIte,reduceCtorEq,tlsV,tlvD,bnB]
    refine⟨fun _=> ?_,fun hi=>by simp only[decide_eq_false_iff_not] at hi;omega⟩
    refine⟨by constructor<;>omega,by omega,by omega,by omega,by omega,?_⟩
    obtain⟨M,hM⟩: ∃M:Nat,M=65536:=⟨_,rfl⟩
    refine LoopC.intro (α:=Nat×Nat×Nat) (fun y=>y.1≤kidT ts i∧i+1+y.1≤y.2.1∧y.2.1≤ts.length∧stK (f) (kidT ts i-y.1) y.2.1=some (nx i)∧y.2.2+kdN (nx) (sz) (kidT ts i-y.1) y.2.1=ins i∧y.2.2≤(datT ts i).length+(y.2.1-(i+1))*M)
     (fun y=>⟨[(0,tlsV ts),(4, .ro (.r b)),(5, .ro (.r (b+1))),(6, .ro (.r (b+2))),(7, .i i),(8, .i y.2.1),(9, .i y.2.2),(44, .i (ts.getD i default).kids),(45, .i y.1)],
      [(b, .row 3 (.sq 1 (.i 0) (nums .i64 (dtab (sz) ts.length (i+1))))),(b+1, .row 3 (.sq 1 (.i 0) (nums .i64 (dtab (nx) ts.length (i+1))))),(b+2, .row 3 (.sq 1 (.i 0) (nums .i64 (dtab (ins) ts.length (i+1)))))],b+3⟩)
     (fun y=>kidT ts i-y.1) (0,i+1,(datT ts i).length) ⟨by simp only;omega,by simp only;omega,by simp only;omega,by simp only[Nat.sub_zero];exact w3,by simp only[Nat.sub_zero];exact w4.symm,Nat.le_add_right _ _⟩ ?_ ?_
    ·simp only[bnA,reduceLeDiff,reduceEqDiff,↓reduceIte,reduceCtorEq,tlsV,tlvD,datT]
     refine⟨by omega,by omega⟩
    ·rintro⟨j,k,n⟩ ⟨f1,f2,f3,f4,f5,f6⟩
     simp only at f1 f2 f3 f4 f5 f6
     simp only[bnA,reduceEqDiff,reduceLT,↓reduceIte,reduceCtorEq,tlsV,tlvD,G5f]
     simp only[tab_len]
     have f8:(k-(i+1))*M≤3518437208883*M:=Nat.mul_le_mul_right _ (by omega)
     have f9:n≤9000000000000000000:=by unfold datT at f6;omega
     have f10:=w5
     refine⟨fun hj=> ?_,fun hj=> ?_⟩
     ·simp only[decide_eq_true_eq] at hj
      have hk:kidT ts i-j=(kidT ts i-(j+1))+1:=by unfold kidT at *;omega
      rw[hk,stK] at f4
      rw[hk,kdN] at f5
      split at f4
      ·rename_i k' hk'
       obtain⟨u1,u2,hkn⟩:=hf k k' hk'
       rw[hkn] at f5
       have hsz:=g2 k (by omega) (by omega)
       rw[tab_get sz (by omega) (by omega),tab_get nx (by omega) (by omega),hkn]
       unfold datT at *
       refine⟨by omega,by omega,by omega,by constructor<;>omega,by omega,by omega,by omega,by constructor<;>omega,?_⟩
       have f7:n+sz k≤(ts.getD i default).data.length+(k'-(i+1))*M:=by
        have:(k-(i+1)+1)*M≤(k'-(i+1))*M:=Nat.mul_le_mul_right _ (by omega)
        rw[Nat.succ_mul] at this
        omega
       refine Again.intro (j+1,k',n+sz k) ⟨by simp only;unfold kidT;omega,by simp only;omega,by simp only;omega,f4,by simp only;omega,f7⟩ (by simp only;unfold kidT;omega) ?_
       simp only[bnA,reduceLeDiff,reduceEqDiff,↓reduceIte,reduceCtorEq]
       refine⟨by omega,by omega⟩
      ·cases f4
     ·simp only[decide_eq_false_iff_not] at hj
      have hk:kidT ts i-j=0:=by unfold kidT;omega
      rw[hk,stK] at f4
      rw[hk,kdN] at f5
      obtain rfl:k=nx i:=by simpa using f4
      obtain rfl:n=ins i:=by simpa using f5
      have e1:(1+((L (ins i)).length:Int)+(ins i:Int))=(sz i:Int):=by rw[hsz,hL];unfold szOf;omega
      have e2:(dtab (sz) ts.length i).getD i 0=(sz i:Int):=tab_get _ (Nat.le_refl _) (by omega)
      have e3:(L (ins i)).length≤9:=by rw[hL];exact lenF_len _ (by unfold datT at *;omega)
      rw[e1,tab_set sz ts.length i,tab_set nx ts.length i,tab_set ins ts.length i,e2,tab_len]
      unfold datT at f6
      refine⟨by omega,by omega,by omega,by omega,by omega,by omega,by omega,by omega,by constructor<;>omega,by constructor<;>omega,by omega,by omega,by omega,by omega,by omega,by omega,fun hb=> ?_,fun hb=> ?_⟩
      ·simp only[decide_eq_true_eq] at hb
       obtain⟨rfl,rfl⟩:=hbig h1 ⟨i,by omega,by omega⟩
       refine RenC.intro [] ⟨[(2, .val (.slice none 0 0)),(3, .i 10)],[],b⟩ ?_ ⟨[.sl 2 5 (.by [])],⟨[(2, .ro (.r b)),(3, .i 10)],[(b, .row 5 (.by []))],b+1⟩,?_,?_⟩
       ·simp only[bnA,reduceEqDiff,↓reduceIte]
        exact Nat.le_refl _
       ·simp only[bnA,reduceLeDiff,reduceEqDiff,↓reduceIte]
        exact Nat.le_refl _
       ·simp only[bnA,reduceLeDiff,reduceEqDiff,↓reduceIte]
        exact Nat.le_refl _
      ·simp only[decide_eq_false_iff_not] at hb
       refine⟨by constructor<;>omega,?_⟩
       refine Again.intro i ⟨by omega,fun x h1 h2=> ?_⟩ (by omega) ?_
       ·rcases Nat.lt_or_ge i x with hl|hl
        ·exact g2 x (by omega) h2
        ·obtain rfl:x=i:=by omega
         omega
       ·simp only[bnA,reduceLeDiff,reduceEqDiff,↓reduceIte,reduceCtorEq]
        exact Nat.le_refl _
theorem print_own (J:Inv) (ts:List Tlv) (b:Nat) (hs:Small ts):FnH Tryz.prog J 30 [tlsV ts] [] b (.tu [.ro (.r b), .i (printF ts).2]) [(b, .row 5 (.by (printF ts).1))] (b+1):=by
 refine printH_walk J b ts hs (stF ts 32) (szI ts) (nxI ts) (inI ts) _ _ (fun h=> ?_) (fun a b h=> ?_) (fun h x hx=> ?_) (fun x=>rfl) (fun h hb=> ?_) (fun h hb=> ?_)
 ·unfold printF;rw[if_pos h];exact⟨rfl,rfl⟩
 ·obtain⟨h1,h2⟩:=stF_ok 32 h
  exact⟨h1,h2,by simp only[nxI,nxG,h,Option.getD_some]⟩
 ·exact(shapedF_shp h).2.2.step hx
 ·unfold printF;rw[if_neg (by rw[h];simp),if_pos ((bigF_iff ts).2 hb)];exact⟨rfl,rfl⟩
 ·have hnb: ¬bigF ts=true:=fun e=>by
   obtain⟨x,h1,h2⟩:=(bigF_iff ts).1 e
   have:=hb x h1
   omega
  have e:printF ts=(fl ts (inI ts) 0 ts.length,0):=by unfold printF;rw[if_neg (by rw[h];simp),if_neg hnb]
  rw[e]
  obtain⟨h1,h2,h3⟩:=shapedF_shp h
  refine⟨rfl,rfl,?_⟩
  have h4:=h3.len ts.length 0 (by omega) h2
  have h5:nxI ts 0=ts.length:=by simp only[nxI,nxG,h1,Option.getD_some]
  rw[h5] at h4
  simp only[Nat.sub_zero] at h4
  show(fl ts (inI ts) 0 ts.length).length≤65536
  rw[h4]
  exact hb 0 h2
end Go.Proofs.YtfengpdaocgcnaaGreatDoor
