/- The reference's numbers: without noughts on top. The reference's numbers: from bytes. The reference's numbers: sums and differences. The reference's numbers: differences. The reference's numbers: bits. The reference's curves: digits. The reference's numbers: products. Division bit by bit: plain Lean. -/
import Derived.Test.YtfengpdaocgcnaaGreatDoorT42
namespace Go.Proofs.YtfengpdaocgcnaaGreatDoor
open Nat (reduceMul reduceLeDiff reduceEqDiff reduceLT reduceAdd reduceSub reduceDiv)
open Int (reduceToNat reducePow)
open Go.RowKit
set_option linter.unusedSimpArgs false
set_option maxRecDepth 100000
theorem proper6_fn (J:Inv) (l:List Nat) (hl:l.length≤67108864) (hw:W32 l):Fn Tryz.prog J 168 false [wV l] (wV (dg (vl l))):=by
 rw[←trim_dg hw]
 refine fnI Tryz.func168 rfl (by kernel_rfl) (wV_cl _) (SGa_ok J) ?_
 unfold Tryz.f168
 simp only[bQ,↓reduceIte,reduceCtorEq,SGa]
 refine LoopC.intro (α:=Nat) (fun k=>k≤l.length∧trim (l.take k)=trim l) (fun k=>⟨[(0,wV l),(3, .i k)],[],0⟩) (fun k=>k) l.length ⟨Nat.le_refl _,by rw[List.take_length]⟩ ?_ ?_
 ·simp only[bQ,reduceLeDiff,↓reduceIte,reduceCtorEq]
 ·rintro k ⟨h1,h2⟩
  simp only[bQ,reduceEqDiff,reduceLT,↓reduceIte,reduceCtorEq]
  refine⟨fun _=>by constructor<;>omega,fun _=>by omega,fun _=>by omega,fun h=> ?_,fun h=> ?_⟩
  ·rw[Bool.and_eq_true,decide_eq_true_eq,beq_iff_eq] at h
   obtain⟨j,rfl⟩: ∃j,k=j+1:=⟨k-1,by omega⟩
   rw[show(((j+1:Nat):Int)-1).toNat=j by omega] at h
   refine⟨by constructor<;>omega,Again.intro j ⟨by omega,?_⟩ (by omega) ?_⟩
   ·rw[←h2,trim_take (by omega) (by omega)]
   ·simp only[bQ,reduceLeDiff,↓reduceIte,reduceCtorEq]
    omega
  ·have ht:l.take k=trim l:=by
    rcases Nat.eq_zero_or_pos k with rfl|hk
    ·rw[←h2];rfl
    ·obtain⟨j,rfl⟩: ∃j,k=j+1:=⟨k-1,by omega⟩
     rw[show(((j+1:Nat):Int)-1).toNat=j by omega,decide_eq_true (by omega),Bool.true_and,beq_eq_false_iff_ne] at h
     rw[←h2,trim_take_last (by omega) (by omega)]
   clear h
   refine LoopC.introA (α:=Nat×Nat) (fun y=>y.1≤k) (fun y=>⟨[(0,wV l),(3, .i k),(4, .ro (.r y.2)),(5, .i y.1)],[(y.2, .row 156 (wV (l.take y.1)))],y.2+1⟩) (fun y=>k-y.1) (0,0) [.sl 4 156 (wV [])] (Nat.zero_le _) ?_ ?_
   ·simp only[bQ,reduceLeDiff,reduceEqDiff,↓reduceIte,reduceCtorEq]
    rfl
   ·rintro⟨i,r⟩ h3
    simp only at h3
    simp only[bQ,reduceMul,reduceLeDiff,reduceEqDiff,reduceLT,reduceAdd,↓reduceIte,reduceCtorEq]
    refine⟨fun h=> ?_,fun h=> ?_⟩
    ·have h:i<k:=by simpa using h
     have e2:l.take (i+1)=l.take i++[l.getD i 0]:=by rw[List.take_succ_eq_append_getElem (by omega),List.getD_eq_getElem?_getD,List.getElem?_eq_getElem (by omega)];rfl
     have e3:(l.take i++[l.getD i 0]).length≤67108865:=by rw[←e2,List.length_take];omega
     refine⟨by omega,by omega,by omega,by constructor<;>omega,Again.intro (i+1,r+2) h (by simp only;omega) ?_⟩
     simp only[bQ,reduceLeDiff,reduceEqDiff,reduceAdd,↓reduceIte,reduceCtorEq,e2]
     exact⟨by omega,Nat.le_refl _⟩
    ·obtain rfl:i=k:=by (have h:k≤i:=(by simpa using h);omega)
     rw[ht]
theorem proper11_fn (J:Inv) (l:List Nat) (hl:l.length≤67108864) (hw:W32 l):Fn Tryz.prog J 169 false [wV l] (wV (dg (vl l))):=by
 rw[←trim_dg hw]
 refine fnI Tryz.func169 rfl (by kernel_rfl) (wV_cl _) (SGa_ok J) ?_
 unfold Tryz.f169
 simp only[bQ,↓reduceIte,reduceCtorEq,SGa]
 refine LoopC.intro (α:=Nat) (fun k=>k≤l.length∧trim (l.take k)=trim l) (fun k=>⟨[(0,wV l),(3, .val (.slice none 0 0)),(4, .i k)],[],0⟩) (fun k=>k) l.length ⟨Nat.le_refl _,by rw[List.take_length]⟩ ?_ ?_
 ·simp only[bQ,reduceLeDiff,reduceEqDiff,↓reduceIte,reduceCtorEq]
 ·rintro k ⟨h1,h2⟩
  simp only[bQ,reduceEqDiff,reduceLT,↓reduceIte,reduceCtorEq]
  refine⟨fun _=>by constructor<;>omega,fun _=>by omega,fun _=>by omega,fun h=> ?_,fun h=> ?_⟩
  ·rw[Bool.and_eq_true,decide_eq_true_eq,beq_iff_eq] at h
   obtain⟨j,rfl⟩: ∃j,k=j+1:=⟨k-1,by omega⟩
   rw[show(((j+1:Nat):Int)-1).toNat=j by omega] at h
   refine⟨by constructor<;>omega,Again.intro j ⟨by omega,?_⟩ (by omega) ?_⟩
   ·rw[←h2,trim_take (by omega) (by omega)]
   ·simp only[bQ,reduceLeDiff,reduceEqDiff,↓reduceIte,reduceCtorEq]
    omega
  ·have ht:l.take k=trim l:=by
    rcases Nat.eq_zero_or_pos k with rfl|hk
    ·rw[←h2];rfl
    ·obtain⟨j,rfl⟩: ∃j,k=j+1:=⟨k-1,by omega⟩
     rw[show(((j+1:Nat):Int)-1).toNat=j by omega,decide_eq_true (by omega),Bool.true_and,beq_eq_false_iff_ne] at h
     rw[←h2,trim_take_last (by omega) (by omega)]
   clear h
   refine LoopC.introA (α:=Nat×Nat) (fun y=>y.1≤k) (fun y=>⟨[(0,wV l),(4, .i k),(3, .ro (.r y.2)),(5, .i y.1)],[(y.2, .row 156 (wV (l.take y.1)))],y.2+1⟩) (fun y=>k-y.1) (0,0) [.sl 3 156 (wV [])] (Nat.zero_le _) ?_ ?_
   ·simp only[bQ,reduceLeDiff,reduceEqDiff,↓reduceIte,reduceCtorEq]
    rfl
   ·rintro⟨i,r⟩ h3
    simp only at h3
    simp only[bQ,reduceMul,reduceLeDiff,reduceEqDiff,reduceLT,reduceAdd,↓reduceIte,reduceCtorEq]
    refine⟨fun h=> ?_,fun h=> ?_⟩
    ·have h:i<k:=by simpa using h
     have e2:l.take (i+1)=l.take i++[l.getD i 0]:=by rw[List.take_succ_eq_append_getElem (by omega),List.getD_eq_getElem?_getD,List.getElem?_eq_getElem (by omega)];rfl
     have e3:(l.take i++[l.getD i 0]).length≤67108865:=by rw[←e2,List.length_take];omega
     refine⟨by omega,by omega,by omega,by constructor<;>omega,Again.intro (i+1,r+2) h (by simp only;omega) ?_⟩
     simp only[bQ,reduceLeDiff,reduceEqDiff,reduceAdd,↓reduceIte,reduceCtorEq,e2]
     exact⟨by omega,Nat.le_refl _⟩
    ·obtain rfl:i=k:=by (have h:k≤i:=(by simpa using h);omega)
     rw[ht]
theorem trim7_fn (J:Inv) (l:List Nat) (hl:l.length≤67108864) (hw:W32 l):Fn Tryz.prog J 176 false [wV l] (wV (dg (vl l))):=by
 rw[←trim_dg hw]
 refine fnI Tryz.func176 rfl (by kernel_rfl) (wV_cl _) (SGa_ok J) ?_
 unfold Tryz.f176
 simp only[bQ,↓reduceIte,reduceCtorEq,SGa]
 refine LoopC.intro (α:=Nat) (fun k=>k≤l.length∧trim (l.take k)=trim l) (fun k=>⟨[(0,wV l),(3, .i k)],[],0⟩) (fun k=>k) l.length ⟨Nat.le_refl _,by rw[List.take_length]⟩ ?_ ?_
 ·simp only[bQ,reduceLeDiff,↓reduceIte,reduceCtorEq]
 ·rintro k ⟨h1,h2⟩
  simp only[bQ,reduceEqDiff,reduceLT,↓reduceIte,reduceCtorEq]
  refine⟨fun _=>by constructor<;>omega,fun _=>by omega,fun _=>by omega,fun h=> ?_,fun h=> ?_⟩
  ·rw[Bool.and_eq_true,decide_eq_true_eq,beq_iff_eq] at h
   obtain⟨j,rfl⟩: ∃j,k=j+1:=⟨k-1,by omega⟩
   rw[show(((j+1:Nat):Int)-1).toNat=j by omega] at h
   refine⟨by constructor<;>omega,Again.intro j ⟨by omega,?_⟩ (by omega) ?_⟩
   ·rw[←h2,trim_take (by omega) (by omega)]
   ·simp only[bQ,reduceLeDiff,↓reduceIte,reduceCtorEq]
    omega
  ·have ht:l.take k=trim l:=by
    rcases Nat.eq_zero_or_pos k with rfl|hk
    ·rw[←h2];rfl
    ·obtain⟨j,rfl⟩: ∃j,k=j+1:=⟨k-1,by omega⟩
     rw[show(((j+1:Nat):Int)-1).toNat=j by omega,decide_eq_true (by omega),Bool.true_and,beq_eq_false_iff_ne] at h
     rw[←h2,trim_take_last (by omega) (by omega)]
   exact⟨by omega,by omega,by rw[List.length_take];omega,by rw[ht]⟩
theorem nb_app2 (a c:List UInt8):nb (a++c)=nb a*256^c.length+nb c:=by
 suffices h: ∀n,∀c:List UInt8,c.length=n→nb (a++c)=nb a*256^n+nb c from h _ c rfl
 intro n
 induction n with
 |zero=>intro c h;rw[List.length_eq_zero_iff.1 h,List.append_nil];simp[nb]
 |succ n ih=>
  intro c h
  rcases List.eq_nil_or_concat c with rfl|⟨c,d,rfl⟩
  ·simp at h
  ·rw[List.concat_eq_append] at *
   rw[←List.append_assoc,nb_snoc,nb_snoc,ih c (by simpa using h),Nat.pow_succ,Nat.mul_add,←Nat.mul_assoc (nb a),Nat.mul_comm 256 (nb a*256^n)]
   omega
def ub (b:List UInt8) (lo:Int) (k:Nat):Nat:=nb ((b.take (lo+k).toNat).drop lo.toNat)
theorem ub_zero (b:List UInt8) (lo:Int):ub b lo 0=0:=by
 unfold ub
 rw[show lo+((0:Nat):Int)=lo by omega,List.drop_take,Nat.sub_self];rfl
theorem ub_neg {b:List UInt8} {lo:Int} {k:Nat} (h:lo+k<0):ub b lo (k+1)=0:=by
 unfold ub
 rw[show(lo+((k+1:Nat):Int)).toNat=0 by omega];simp[nb]
theorem ub_step {b:List UInt8} {lo:Int} {k:Nat} (h:0≤lo+k) (h2:lo+k<b.length):ub b lo (k+1)=ub b lo k*256+(b.getD (lo+k).toNat 0).toNat:=by
 unfold ub
 rw[show(lo+((k+1:Nat):Int)).toNat=(lo+k).toNat+1 by omega]
 have hk:(lo+k).toNat<b.length:=by omega
 have e2:b.take ((lo+k).toNat+1)=b.take (lo+k).toNat++[b.getD (lo+k).toNat 0]:=by rw[List.take_succ_eq_append_getElem hk,List.getD_eq_getElem?_getD,List.getElem?_eq_getElem hk];rfl
 rw[e2,List.drop_append_of_le_length (by rw[List.length_take];omega),nb_snoc,Nat.mul_comm 256]
theorem ub_lt (b:List UInt8) (lo:Int) (k:Nat):ub b lo k<256^k:=by
 unfold ub
 refine Nat.lt_of_lt_of_le (nb_lt _) (Nat.pow_le_pow_right (by omega) ?_)
 rw[List.length_drop,List.length_take]
 omega
theorem ub_join {b:List UInt8} {t:Nat} (h:4*t<b.length):nb (b.drop ((b.length:Int)-4*t-4).toNat)=ub b ((b.length:Int)-4*t-4) 4*4294967296^t+nb (b.drop (b.length-4*t)):=by
 unfold ub
 have e:(b.length:Int)-4*t-4+((4:Nat):Int)=((b.length-4*t:Nat):Int):=by omega
 rw[e,Int.toNat_natCast]
 have e2:b.drop ((b.length:Int)-4*t-4).toNat=(b.take (b.length-4*t)).drop ((b.length:Int)-4*t-4).toNat++b.drop (b.length-4*t):=by
  rw[←List.drop_append_of_le_length (by rw[List.length_take];omega),List.take_append_drop]
 rw[e2,nb_app2,List.length_drop,show b.length-(b.length-4*t)=4*t by omega,Nat.pow_mul]
def RLcf:FuncId→List V→CR:=fun f args=>tab [(168,cW fun l=>cF [l.length≤67108864,W32 l] false (wV (dg (vl l))))] noF f args
def RLc (J:Inv):Sig:=⟨J,sdf,RLcf,noH,0⟩
theorem RLc_ok (J:Inv):SigOk Tryz.prog (RLc J):= .plain (tab_ok (.c (.w fun l=> .z fun⟨c0,c1,_⟩=>proper6_fn J l c0 c1)<| .n) noF_ok)
theorem fromBytes6_fn (J:Inv) (b:List UInt8) (hb:b.length≤67108864):Fn Tryz.prog J 108 false [.by b] (wV (dg (nb b))):=by
 refine fnI Tryz.func108 rfl (by kernel_rfl) (wV_cl _) (RLc_ok J) ?_
 unfold Tryz.f108
 simp only[bQ,↓reduceIte,reduceCtorEq,RLc]
 refine LoopC.introA (α:=List Nat×Nat) (fun y=>4*y.1.length<b.length+4∧W32 y.1∧vl y.1=nb (b.drop (b.length-4*y.1.length))) (fun y=>⟨[(0, .by b),(3, .ro (.r y.2)),(4, .i ((b.length:Int)-4*y.1.length))],[(y.2, .row 156 (wV y.1))],y.2+1⟩) (fun y=>b.length+4-4*y.1.length) ([],0) [.sl 3 156 (wV [])] ⟨by simp only[List.length_nil];omega,W32.nil,?_⟩ ?_ ?_
 ·simp only[List.length_nil]
  rw[show b.length-4*0=b.length by omega,List.drop_length];rfl
 ·simp only[bQ,reduceLeDiff,reduceEqDiff,↓reduceIte,reduceCtorEq]
  omega
 ·rintro⟨o,r⟩ ⟨h1,h2,h3⟩
  simp only at h1 h2 h3
  simp only[↓bE,bQ,reduceEqDiff,↓reduceIte,reduceCtorEq,RLcf]
  refine⟨fun h=>⟨by constructor<;>omega,?_⟩,fun h=>⟨by omega,h2,?_⟩⟩
  ·have h4:4*o.length<b.length:=by have h:=of_decide_eq_true h;omega
   have hj:=ub_join h4
   generalize hlo:(b.length:Int)-4*o.length-4=lo at hj⊢
   have hl4:=ub_lt b lo 4
   refine LoopC.intro (α:=Nat) (fun k=>k≤4) (fun k=>⟨[(0, .by b),(3, .ro (.r r)),(4, .i ((b.length:Int)-4*o.length)),(5, .val (.int .u32 ((ub b lo k:Nat):Int))),(6, .i (lo+k))],[(r, .row 156 (wV o))],r+1⟩) (fun k=>4-k) 0 (Nat.zero_le _) ?_ ?_
   ·simp only[bQ,reduceLeDiff,reduceEqDiff,↓reduceIte,reduceCtorEq,ub_zero]
    exact⟨⟨rfl,by omega⟩,Nat.le_refl _⟩
   ·intro k h5
    simp only[bQ,reduceMul,reduceLeDiff,reduceEqDiff,reduceLT,reduceAdd,↓reduceIte,reduceCtorEq]
    refine⟨fun h6=>⟨fun h7=> ?_,fun h7=> ?_⟩,fun h6=> ?_⟩
    ·have h6:k<4:=by have h6:=of_decide_eq_true h6;omega
     have h7:=of_decide_eq_true h7
     have h8:=ub_lt b lo k
     have h9:(256:Nat)^k≤16777216:=Nat.le_trans (Nat.pow_le_pow_right (by omega) (show k≤3 by omega)) (by decide)
     have h10:=ub_step h7 (show lo+k<b.length by omega)
     have h11:=(b.getD (lo+k).toNat 0).toNat_lt
     refine⟨by omega,by omega,by constructor<;>omega,Again.intro (k+1) (by omega) (by omega) ?_⟩
     simp only[bQ,reduceLeDiff,reduceEqDiff,↓reduceIte,reduceCtorEq,h10]
     have e:byteAt b (lo+k).toNat=(((b.getD (lo+k).toNat 0).toNat:Nat):Int):=rfl
     rw[e,wr32,wr32,wr32]
     exact⟨⟨by omega,by omega⟩,Nat.le_refl _⟩
    ·have h6:k<4:=by have h6:=of_decide_eq_true h6;omega
     have h7:=of_decide_eq_false h7
     have h10:=ub_neg (b:=b) (show lo+k<0 by omega)
     have h11:ub b lo k=0:=by
      rcases Nat.eq_zero_or_pos k with rfl|hk
      ·exact ub_zero b lo
      ·obtain⟨j,rfl⟩: ∃j,k=j+1:=⟨k-1,by omega⟩
       exact ub_neg (by omega)
     refine⟨by constructor<;>omega,Again.intro (k+1) (by omega) (by omega) ?_⟩
     simp only[bQ,reduceLeDiff,reduceEqDiff,↓reduceIte,reduceCtorEq,h10,h11]
     rw[wr32]
     exact⟨⟨by omega,by omega⟩,Nat.le_refl _⟩
    ·have h6:k=4:=by have h6:=of_decide_eq_false h6;omega
     subst h6
     refine⟨by rw[List.length_append];simp only[List.length_singleton];omega,by constructor<;>omega,Again.intro (o++[ub b lo 4],r+2) ⟨by rw[List.length_append];simp only[List.length_singleton];omega,h2.app (W32.one (by omega)),?_⟩ (by simp only[List.length_append,List.length_singleton];omega) ?_⟩
     ·simp only[vl_snoc,List.length_append,List.length_singleton]
      rw[show b.length-4*(o.length+1)=lo.toNat by omega,hj,h3]
      rw[Nat.mul_comm (4294967296^o.length)];omega
     ·simp only[bQ,reduceLeDiff,reduceEqDiff,reduceAdd,↓reduceIte,reduceCtorEq,List.length_append]
      exact⟨by omega,Nat.le_refl _⟩
  ·rw[h3]
   have h:=of_decide_eq_false h
   rw[show b.length-4*o.length=0 by omega,List.drop_zero]
def RLdf:FuncId→List V→CR:=fun f args=>tab [(177,cW fun l=>cI .i64 fun n=>cF [0≤n,W32 l] false (.val (.int .u64 ((l.getD n.toNat 0:Nat):Int)))),
 (176,cW fun l=>cF [l.length≤67108864,W32 l] false (wV (dg (vl l))))] noF f args
def RLd (J:Inv):Sig:=⟨J,sdf,RLdf,noH,0⟩
theorem RLd_ok (J:Inv):SigOk Tryz.prog (RLd J):= .plain (tab_ok (.c (.w fun l=> .i fun n=> .z fun⟨c0,c1,_⟩=>(by have h:=limb7_fn J l n.toNat c1;rwa [show V.i (n.toNat:Int)= .val (.int .i64 n) by unfold V.i;rw[Int.toNat_of_nonneg c0]] at h))<|
 .c (.w fun l=> .z fun⟨c0,c1,_⟩=>trim7_fn J l c0 c1)<| .n) noF_ok)
theorem and_u64 {a b:Nat} (ha:a<18446744073709551616) (hb:b<18446744073709551616):bt .and .u64 (a:Int) (b:Int)=((a&&&b:Nat):Int):=by
 rw[bt_eq]
 have hx:a&&&b<2^64:=Nat.and_lt_two_pow _ (by omega)
 have h1:(BitVec.ofInt 64 (a:Int)).toNat=a:=by rw[BitVec.ofInt_natCast,BitVec.toNat_ofNat];exact Nat.mod_eq_of_lt (by omega)
 have h2:(BitVec.ofInt 64 (b:Int)).toNat=b:=by rw[BitVec.ofInt_natCast,BitVec.toNat_ofNat];exact Nat.mod_eq_of_lt (by omega)
 show IntKind.u64.wrap ((BitVec.ofInt 64 (a:Int)&&&BitVec.ofInt 64 (b:Int)).toNat:Int)=_
 rw[BitVec.toNat_and,h1,h2,show∀n:Int,IntKind.u64.wrap n=n%18446744073709551616 from fun n=>rfl]
 omega
theorem low_word {s:Nat} (h:s<18446744073709551616):w32 (bt .and .u64 (s:Int) 4294967295)=s%4294967296:=by
 rw[show(4294967295:Int)=((4294967295:Nat):Int) from rfl,and_u64 h (by omega),w32_nat]
 have e:=Nat.and_two_pow_sub_one_eq_mod s 32
 rw[show(2:Nat)^32-1=4294967295 by decide,show(2:Nat)^32=4294967296 by decide] at e
 rw[e]
 omega
theorem no_carry {P B c v u w:Nat} (hB:2≤B) (h:v+P*B*c=u+w) (h1:u<P) (h2:w<P):v=u+w:=by
 rcases Nat.eq_zero_or_pos c with rfl|hc
 ·omega
 ·have h4:=Nat.le_mul_of_pos_right (P*B) hc
  have h5:=Nat.mul_le_mul_left P hB
  omega
theorem AddI.done {a b o:List Nat} {i c:Nat} (h:AddI a b o (i+1) c) (wa:W32 a) (wb:W32 b) (ha:a.length≤i) (hb:b.length≤i):vl o=vl a+vl b:=by
 have h1:=h.eq
 rw[List.take_of_length_le (by omega),List.take_of_length_le (by omega)] at h1
 have h2:=Nat.lt_of_lt_of_le (vl_lt wa) (Nat.pow_le_pow_right (by omega) ha)
 have h3:=Nat.lt_of_lt_of_le (vl_lt wb) (Nat.pow_le_pow_right (by omega) hb)
 rw[Nat.pow_succ] at h1
 exact no_carry (by omega) h1 h2 h3
theorem plus7_fn (J:Inv) (a b:List Nat) (ha:a.length≤1048576) (hb:b.length≤1048576) (wa:W32 a) (wb:W32 b):Fn Tryz.prog J 119 false [wV a,wV b] (wV (dg (vl a+vl b))):=by
 refine fnI Tryz.func119 rfl (by kernel_rfl) (wV_cl _) (RLd_ok J) ?_
 unfold Tryz.f119
 simp only[bQ,reduceAdd,RLd]
 refine LoopC.introA (α:=(List Nat×Nat)×Nat) (fun y=>AddI a b y.1.1 y.1.1.length y.1.2∧y.1.1.length≤max a.length b.length+1) (fun y=>⟨[(0,wV a),(1,wV b),(5, .ro (.r y.2)),(6, .val (.int .u64 ((y.1.2:Nat):Int))),(7, .i y.1.1.length)],[(y.2, .row 156 (wV y.1.1))],y.2+1⟩) (fun y=>max a.length b.length+1-y.1.1.length) (([],0),0) [.sl 5 156 (wV [])] ⟨AddI.zero a b,Nat.zero_le _⟩ ?_ ?_
 ·simp only[bQ,reduceLeDiff,reduceEqDiff,↓reduceIte,reduceCtorEq]
  exact⟨rfl,rfl⟩
 ·rintro⟨⟨o,c⟩,r⟩ ⟨h1,h2⟩
  simp only at h1 h2
  simp only[↓bE,bQ,reduceMul,reduceLeDiff,reduceEqDiff,reduceAdd,↓reduceIte,reduceCtorEq,reduceToNat,reducePow,RLdf]
  have hc:=h1.c1
  have g1:=wa.get o.length
  have g2:=wb.get o.length
  have hst:=h1.step wa wb
  generalize a.getD o.length 0=p at *
  generalize b.getD o.length 0=q at *
  have e1:wr .u64 ((p:Int)+q)=((p+q:Nat):Int):=by rw[←Int.natCast_add];exact wr64n (by omega)
  have e2:wr .u64 (((p+q:Nat):Int)+c)=((c+p+q:Nat):Int):=by rw[←Int.natCast_add];rw[wr64n (by omega)];omega
  rw[imax_eq,e1,e2,low_word (by omega)]
  have lo:(o++[(c+p+q)%4294967296]).length=o.length+1:=by simp
  refine⟨fun h=> ?_,fun h=> ?_⟩
  ·have h:=of_decide_eq_true h
   refine⟨by omega,wa,by omega,wb,by rw[lo];omega,by omega,by constructor<;>omega,Again.intro ((o++[(c+p+q)%4294967296],(c+p+q)/4294967296),r+2) ⟨by simp only[lo];exact hst,by simp only[lo];omega⟩ (by simp only[lo];omega) ?_⟩
   simp only[bQ,reduceLeDiff,reduceEqDiff,reduceAdd,↓reduceIte,reduceCtorEq]
   exact⟨⟨by omega,by rw[List.length_append];simp only[List.length_singleton];omega⟩,Nat.le_refl _⟩
  ·have h:=of_decide_eq_false h
   refine⟨by omega,h1.w,?_⟩
   have hol:o.length=max a.length b.length+1:=by omega
   rw[hol] at h1
   rw[h1.done wa wb (by omega) (by omega)]
theorem SubI.done {a b o:List Nat} {c:Nat} (h:SubI a b o a.length c) (wa:W32 a) (wb:W32 b) (hl:b.length≤a.length) (hv:vl b≤vl a):vl o=vl a-vl b:=by
 obtain⟨h1, -⟩:=h.fin wa wb hl
 have h2:=vl_lt wa
 rw[h1,fw_vl]
 generalize 4294967296^a.length=P at *
 rw[show vl a+P-vl b=vl a-vl b+P by omega,Nat.add_mod_right]
 exact Nat.mod_eq_of_lt (by omega)
theorem minus7_fn (J:Inv) (a b:List Nat) (ha:a.length≤1048576) (hl:b.length≤a.length) (wa:W32 a) (wb:W32 b) (hv:vl b≤vl a):Fn Tryz.prog J 123 false [wV a,wV b] (wV (dg (vl a-vl b))):=by
 refine fnI Tryz.func123 rfl (by kernel_rfl) (wV_cl _) (RLd_ok J) ?_
 unfold Tryz.f123
 simp only[bQ,reduceAdd,RLd]
 refine LoopC.introA (α:=(List Nat×Nat)×Nat) (fun y=>SubI a b y.1.1 y.1.1.length y.1.2∧y.1.1.length≤a.length) (fun y=>⟨[(0,wV a),(1,wV b),(5, .ro (.r y.2)),(6, .val (.int .u64 ((y.1.2:Nat):Int))),(7, .i y.1.1.length)],[(y.2, .row 156 (wV y.1.1))],y.2+1⟩) (fun y=>a.length-y.1.1.length) (([],0),0) [.sl 5 156 (wV [])] ⟨SubI.zero a b,Nat.zero_le _⟩ ?_ ?_
 ·simp only[bQ,reduceLeDiff,reduceEqDiff,↓reduceIte,reduceCtorEq]
  exact⟨rfl,rfl⟩
 ·rintro⟨⟨o,c⟩,r⟩ ⟨h1,h2⟩
  simp only at h1 h2
  simp only[↓bE,bQ,reduceMul,reduceLeDiff,reduceEqDiff,reduceAdd,↓reduceIte,reduceCtorEq,RLdf]
  have hc:=h1.b1
  have g1:=wa.get o.length
  have g2:=wb.get o.length
  have hst:=h1.step wa wb
  generalize a.getD o.length 0=p at *
  generalize b.getD o.length 0=q at *
  have e1:wr .u64 ((q:Int)+c)=((q+c:Nat):Int):=by rw[←Int.natCast_add];exact wr64n (by omega)
  rw[e1]
  have lo: ∀z,(o++[z]).length=o.length+1:=fun z=>by simp
  refine⟨fun h=> ?_,fun h=> ?_⟩
  ·have h:=of_decide_eq_true h
   refine⟨by omega,wa,by omega,wb,fun h3=> ?_,fun h3=> ?_⟩
   ·have h3:p<q+c:=by have h3:=of_decide_eq_true h3;omega
    have e2:w32 (wr .u64 (wr .u64 ((p:Int)+4294967296)-((q+c:Nat):Int)))=(p+8589934592-q-c)%4294967296:=by
     rw[wr64 (n:=(p:Int)+4294967296) (by omega) (by omega),show(p:Int)+4294967296-((q+c:Nat):Int)=((p+4294967296-(q+c):Nat):Int) by omega,wr64n (by omega),w32_nat]
     omega
    rw[e2]
    rw[show brw p (q+c)=1 from if_pos h3] at hst
    refine⟨by rw[lo];omega,by constructor<;>omega,Again.intro ((o++[(p+8589934592-q-c)%4294967296],1),r+2) ⟨by simp only[lo];exact hst,by simp only[lo];omega⟩ (by simp only[lo];omega) ?_⟩
    simp only[bQ,reduceLeDiff,reduceEqDiff,reduceAdd,↓reduceIte,reduceCtorEq,lo]
    exact⟨⟨rfl,by omega⟩,Nat.le_refl _⟩
   ·have h3: ¬p<q+c:=by have h3:=of_decide_eq_false h3;omega
    have e2:w32 (wr .u64 ((p:Int)-((q+c:Nat):Int)))=(p+8589934592-q-c)%4294967296:=by
     rw[show(p:Int)-((q+c:Nat):Int)=((p-(q+c):Nat):Int) by omega,wr64n (by omega),w32_nat]
     omega
    rw[e2]
    rw[show brw p (q+c)=0 from if_neg h3] at hst
    refine⟨by rw[lo];omega,by constructor<;>omega,Again.intro ((o++[(p+8589934592-q-c)%4294967296],0),r+2) ⟨by simp only[lo];exact hst,by simp only[lo];omega⟩ (by simp only[lo];omega) ?_⟩
    simp only[bQ,reduceLeDiff,reduceEqDiff,reduceAdd,↓reduceIte,reduceCtorEq,lo]
    exact⟨⟨rfl,by omega⟩,Nat.le_refl _⟩
  ·have h:=of_decide_eq_false h
   refine⟨by omega,h1.w,?_⟩
   have hol:o.length=a.length:=by omega
   rw[hol] at h1
   rw[h1.done wa wb hl hv]
theorem and_one64 {s:Nat} (h:s<18446744073709551616):bt .and .u64 (s:Int) 1=((s%2:Nat):Int):=by
 rw[show(1:Int)=((1:Nat):Int) from rfl,and_u64 h (by omega),Nat.and_one_is_mod]
theorem bit7_fn (J:Inv) (l:List Nat) (i:Nat) (hi:i<4294967296) (hw:W32 l):Fn Tryz.prog J 122 false [wV l, .i i] (.bb (tb (vl l) i)):=by
 refine fnI Tryz.func122 rfl (by kernel_rfl) rfl (RLd_ok J) ?_
 unfold Tryz.f122
 simp only[↓bE,bQ,reduceEqDiff,reduceAdd,↓reduceIte,reduceCtorEq,RLd,RLdf]
 have g:=hw.get (i/32)
 rw[tb_word hw]
 have e1:wr .u64 ((i:Int)%32)=((i%32:Nat):Int):=by
  rw[show(i:Int)%32=((i%32:Nat):Int) by omega];exact wr64n (by omega)
 have e2:((i:Int)/32).toNat=i/32:=by omega
 rw[e1,e2,Int.toNat_natCast,if_pos (by omega)]
 have e3:((l.getD (i/32) 0:Nat):Int)/2^(i%32)=((l.getD (i/32) 0/2^(i%32):Nat):Int):=by push_cast;rfl
 have h3:l.getD (i/32) 0/2^(i%32)≤l.getD (i/32) 0:=Nat.div_le_self _ _
 rw[e3,and_one64 (by omega)]
 refine⟨by constructor<;>omega,by omega,by omega,by omega,hw,by omega,by omega,by omega,?_⟩
 generalize l.getD (i/32) 0/2^(i%32)%2=u
 refine Bool.eq_iff_iff.2 ?_
 simp only[beq_iff_eq]
 omega
theorem digit11_fn (J:Inv) (c:Nat) (h:(48≤c∧c≤57)∨(97≤c∧c≤102)):Fn Tryz.prog J 251 false [.val (.int .u8 (c:Int))] (.val (.int .u32 ((hd c:Nat):Int))):=by
 refine fnI Tryz.func251 rfl (by kernel_rfl) rfl (SGa_ok J) ?_
 unfold Tryz.f251
 simp only[bQ,↓reduceIte,reduceCtorEq,SGa]
 rw[wr32,wr32,wr32]
 refine⟨fun h1=> ?_,fun h1=> ?_⟩
 ·have h1:=of_decide_eq_true h1
  unfold hd
  rw[if_neg (by omega)]
  omega
 ·have h1:=of_decide_eq_false h1
  unfold hd
  rw[if_pos (by omega)]
  omega
theorem one7_fn (J:Inv):Fn Tryz.prog J 267 false [] (wV [1]):=by
 refine fnI Tryz.func267 rfl (by kernel_rfl) (wV_cl _) (SGa_ok J) ?_
 unfold Tryz.f267
 simp only[bQ,reduceMul,reduceLeDiff,↓reduceIte,reduceCtorEq,SGa,wds]
 rfl
theorem times7_fn (J:Inv) (x y:List Nat) (hx:x.length≤1048576) (hy:y.length≤1048576) (wx:W32 x) (wy:W32 y):Fn Tryz.prog J 179 false [wV x,wV y] (wV (dg (vl x*vl y))):=by
 refine fnI Tryz.func179 rfl (by kernel_rfl) (wV_cl _) (RLd_ok J) ?_
 unfold Tryz.f179
 simp only[bQ,reduceEqDiff,reduceAdd,↓reduceIte,reduceCtorEq,RLd]
 refine⟨by constructor<;>omega,by omega,by omega,by omega,?_⟩
 rw[show((x.length:Int)+y.length).toNat=x.length+y.length by omega]
 refine LoopC.intro (α:=Nat×List Nat) (fun p=>p.1≤x.length∧MulI x y p.2 p.1 0 0) (fun p=>⟨[(0,wV x),(1,wV y),(5, .ro (.r 0)),(6, .i p.1)],[(0, .row 156 (wV p.2))],1⟩) (fun p=>x.length-p.1) (0,_) ⟨by omega, .zero x y⟩ ?_ ?_
 ·simp only[bQ,reduceLeDiff,reduceEqDiff,↓reduceIte,reduceCtorEq]
  rfl
 ·rintro⟨i,L⟩ ⟨h1,h2⟩
  have h2:MulI x y L i 0 0:=h2
  simp only at h1
  have e0:=h2.len
  simp only[↓bE,bQ,reduceEqDiff,↓reduceIte,reduceCtorEq,RLdf,e0]
  refine⟨fun hi=> ?_,fun hi=> ?_⟩
  ·have hi:i<x.length:=by simpa using hi
   refine LoopC.intro (α:=Nat×List Nat×Nat) (fun p=>p.1≤y.length∧MulI x y p.2.1 i p.1 p.2.2) (fun p=>⟨[(0,wV x),(1,wV y),(5, .ro (.r 0)),(6, .i i),(7, .val (.int .u64 p.2.2)),(8, .i p.1)],[(0, .row 156 (wV p.2.1))],1⟩) (fun p=>y.length-p.1) (0,L,0) ⟨by omega,h2⟩ ?_ ?_
   ·simp only[bQ,reduceLeDiff,reduceEqDiff,↓reduceIte,reduceCtorEq]
    exact⟨rfl,rfl⟩
   ·rintro⟨j,M,c⟩ ⟨h3,h4⟩
    have h4:MulI x y M i j c:=h4
    simp only at h3
    have e1:=h4.len
    have t1:((i:Int)+j).toNat=i+j:=by omega
    have t2:((i:Int)+y.length).toNat=i+y.length:=by omega
    simp only[↓bE,bQ,reduceLeDiff,reduceEqDiff,reduceLT,↓reduceIte,reduceCtorEq,reduceToNat,reducePow,e1,t1,t2]
    refine⟨fun hj=> ?_,fun hj=> ?_⟩
    ·have hj:j<y.length:=by simpa using hj
     have hb:=mul_bound h4.c1 (wx.get i) (wy.get j) (h4.w.get (i+j))
     have b1:=wx.get i
     have b2:=wy.get j
     have b3:=h4.w.get (i+j)
     have hst:=h4.step wx wy hi hj
     refine⟨by constructor<;>omega,by omega,by omega,by omega,by omega,by omega,by omega,by omega,by constructor<;>omega,by omega,by omega,by omega,by omega,by constructor<;>omega,?_⟩
     refine Again.intro (j+1,M.set (i+j) ((c+(x.getD i 0*y.getD j 0+M.getD (i+j) 0))%4294967296),(c+(x.getD i 0*y.getD j 0+M.getD (i+j) 0))/4294967296) ⟨hj,hst⟩ (by simp only;omega) ?_
     simp only[bQ,reduceLeDiff,reduceEqDiff,↓reduceIte,reduceCtorEq]
     rw[wr64n (n:=x.getD i 0) (by omega),wr64n (n:=y.getD j 0) (by omega),wr64n (n:=M.getD (i+j) 0) (by omega)]
     simp only[←Int.natCast_mul]
     generalize x.getD i 0*y.getD j 0=u at *
     simp(disch:=omega) only[wr64n,←Int.natCast_add,low_word]
     rw[show M.getD (i+j) 0+u+c=c+(u+M.getD (i+j) 0) by omega]
     exact⟨⟨by omega,by omega⟩,rfl⟩
    ·obtain rfl:j=y.length:=by simp at hj;omega
     refine⟨by constructor<;>omega,by omega,by omega,by omega,by constructor<;>omega,?_⟩
     refine Again.intro (i+1,M.set (i+y.length) c) ⟨hi,h4.next hi⟩ (by simp only;omega) ?_
     simp only[bQ,reduceLeDiff,reduceEqDiff,↓reduceIte,reduceCtorEq]
     rw[w32_nat,Nat.mod_eq_of_lt h4.c1]
     exact⟨by omega,rfl⟩
  ·obtain rfl:i=x.length:=by simp at hi;omega
   rw[h2.fin]
   exact⟨by omega,h2.w,rfl⟩
def cyD (x:List Nat) (c i:Nat):Nat:=(2*vl (x.take i)+c)/4294967296^i
theorem cyD_zero (x:List Nat) (c:Nat):cyD x c 0=c:=by
 unfold cyD
 rw[List.take_zero,show vl []=0 from rfl,Nat.mul_zero,Nat.zero_add,Nat.pow_zero,Nat.div_one]
theorem cyD_le {x:List Nat} (h:W32 x) {c:Nat} (hc:c≤1) (i:Nat):cyD x c i≤1:=by
 unfold cyD
 have h1:=vl_take_lt h i
 have:=Nat.div_lt_of_lt_mul (show 2*vl (x.take i)+c<4294967296^i*2 by omega)
 omega
theorem dbl_take (x:List Nat) (c i:Nat):2*vl (x.take (i+1))+c=(2*vl (x.take i)+c)+4294967296^i*(2*x.getD i 0):=by
 rw[vl_take_succ,Nat.mul_add,Nat.mul_left_comm]
 omega
theorem dbl_sum (x:List Nat) (c i:Nat):(2*vl (x.take (i+1))+c)/4294967296^i=cyD x c i+2*x.getD i 0:=by
 unfold cyD
 rw[dbl_take,Nat.add_mul_div_left _ _ (Nat.pow_pos (by omega))]
theorem cyD_succ (x:List Nat) (c i:Nat):cyD x c (i+1)=(cyD x c i+2*x.getD i 0)/4294967296:=by
 rw[←dbl_sum,Nat.div_div_eq_div_mul,←Nat.pow_succ];rfl
theorem cyD_top {x:List Nat} (h:W32 x) {c:Nat} (hc:c≤1) (i:Nat):cyD x c (i+1)=x.getD i 0/2147483648:=by
 rw[cyD_succ]
 have:=cyD_le h hc i
 have:=h.get i
 omega
theorem dbl_or {u c:Nat} (hc:c≤1):(2*u%4294967296)|||c=(c+2*u)%4294967296:=by
 have h:=(up_low (c:=c) (u:=u) (s:=1) (by omega) (by omega)).1
 rwa [show u*2^1=2*u by omega] at h
theorem part_set {o M:List Nat} (h:o.length<M.length) (z:Nat):(o++M.drop o.length).set o.length z=(o++[z])++M.drop (o.length+1):=by
 rw[List.set_append_right _ _ (Nat.le_refl _),Nat.sub_self,List.drop_eq_getElem_cons h,List.set_cons_zero,List.append_assoc];rfl
theorem part_get {o M:List Nat}:(o++M.drop o.length).getD o.length 0=M.getD o.length 0:=by
 rw[List.getD_eq_getElem?_getD,List.getElem?_append_right (Nat.le_refl _),Nat.sub_self,List.getElem?_drop,Nat.add_zero,←List.getD_eq_getElem?_getD]
theorem part_len {o M:List Nat} (h:o.length≤M.length):(o++M.drop o.length).length=M.length:=by
 rw[List.length_append,List.length_drop];omega
theorem bit_or {w X s:Nat} (hs:s<32) (h:w=X*2^(s+1)%4294967296):w|||2^s=w+2^s:=by
 have h1:w=2^(s+1)*(X%2^(31-s)):=by
  rw[h,Nat.mul_comm X,←Nat.mul_mod_mul_left,←Nat.pow_add,show s+1+(31-s)=32 by omega]
 rw[Nat.or_comm,h1,or_add (Nat.pow_lt_pow_right (by omega) (by omega)),Nat.add_comm]
theorem mod_bit {V P m t:Nat} (ht:t=V%P+m) (hlt:t<P):t=(V+m)%P:=by
 rw[ht] at hlt⊢
 rw[Nat.add_mod]
 have hm:m<P:=by omega
 rw[Nat.mod_eq_of_lt hm,Nat.mod_eq_of_lt hlt]
theorem q_get {n X k:Nat} (hk:k/32<n):(fw n (X*2^(k+1))).getD (k/32) 0=X*2^(k%32+1)%4294967296:=by
 rw[fw_get _ _ _ hk,B_pow]
 have e:X*2^(k+1)=X*2^(k%32+1)*2^(32*(k/32)):=by
  rw[Nat.mul_assoc,←Nat.pow_add,show k%32+1+32*(k/32)=k+1 by omega]
 rw[e,Nat.mul_div_cancel _ (Nat.pow_pos (by omega))]
theorem q_word {n X k:Nat} (hk:k/32<n):(fw n (X*2^(k+1))).set (k/32) ((fw n (X*2^(k+1))).getD (k/32) 0|||2^(k%32))=fw n ((2*X+1)*2^k):=by
 have hg:=q_get (X:=X) hk
 have hor:=bit_or (w:=(fw n (X*2^(k+1))).getD (k/32) 0) (s:=k%32) (by omega) hg
 have hw32:(fw n (X*2^(k+1))).getD (k/32) 0|||2^(k%32)<4294967296:=
  Nat.or_lt_two_pow (n:=32) (W32.get (fw_w _ _) _) (Nat.pow_lt_pow_right (by omega) (by omega))
 have hs:=vl_set (fw n (X*2^(k+1))) (k/32) ((fw n (X*2^(k+1))).getD (k/32) 0|||2^(k%32)) (by rw[fw_len];exact hk)
 have hW:W32 ((fw n (X*2^(k+1))).set (k/32) ((fw n (X*2^(k+1))).getD (k/32) 0|||2^(k%32))):=W32.set (fw_w _ _) hw32
 have hlt:=vl_lt hW
 have hof:=fw_of (o:=(fw n (X*2^(k+1))).set (k/32) ((fw n (X*2^(k+1))).getD (k/32) 0|||2^(k%32))) ((2*X+1)*2^k) hW
 rw[List.length_set,fw_len] at hof hlt
 refine hof ?_
 have e:(2*X+1)*2^k=X*2^(k+1)+2^k:=by rw[Nat.pow_succ,Nat.add_mul,Nat.one_mul,Nat.mul_comm 2 X,Nat.mul_assoc,Nat.mul_comm 2 (2^k)]
 have e2:4294967296^(k/32)*2^(k%32)=2^k:=by rw[B_pow,←Nat.pow_add,show 32*(k/32)+k%32=k by omega]
 rw[e]
 refine mod_bit ?_ hlt
 rw[←fw_vl,←e2]
 rw[hor] at hs⊢
 rw[Nat.mul_add] at hs
 omega
theorem bit_step (A i:Nat):A/2^i=2*(A/2^(i+1))+A/2^i%2:=by
 rw[Nat.pow_succ,←Nat.div_div_eq_div_mul]
 omega
theorem div_step {A D Q R b X:Nat} (hQ:Q=A/D) (hR:R=A%D) (hX:X=2*R+b):
  (D≤X→X<2*D→(2*A+b)/D=2*Q+1∧(2*A+b)%D=X-D)∧(X<D→(2*A+b)/D=2*Q∧(2*A+b)%D=X):=by
 have h:=Nat.div_add_mod A D
 rw[←hQ,←hR] at h
 refine⟨fun h1 h2=> ?_,fun h1=> ?_⟩
 ·have e:2*A+b=(X-D)+D*(2*Q+1):=by rw[←h,Nat.mul_add D,Nat.mul_add,Nat.mul_left_comm D];omega
  rw[e,Nat.add_mul_div_left _ _ (by omega),Nat.div_eq_of_lt (by omega),Nat.add_mul_mod_self_left,Nat.mod_eq_of_lt (by omega)]
  exact⟨by omega,rfl⟩
 ·have e:2*A+b=X+D*(2*Q):=by rw[←h,Nat.mul_add,Nat.mul_left_comm D];omega
  rw[e,Nat.add_mul_div_left _ _ (by omega),Nat.div_eq_of_lt h1,Nat.add_mul_mod_self_left,Nat.mod_eq_of_lt h1]
  exact⟨by omega,rfl⟩
end Go.Proofs.YtfengpdaocgcnaaGreatDoor
