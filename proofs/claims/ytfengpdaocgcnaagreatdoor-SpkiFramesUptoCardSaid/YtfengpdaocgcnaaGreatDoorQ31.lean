/- Whole numbers of any size (bignum): numbers of bytes and digits; quotient and rest with a sign. Whole numbers of any size (bignum): the rest of a division. -/
import Derived.Test.YtfengpdaocgcnaaGreatDoorQ30
namespace Go.Proofs.YtfengpdaocgcnaaGreatDoor
open Nat (reduceMul reduceLeDiff reduceEqDiff reduceLT reduceAdd reduceSub reduceDiv)
open Int (reduceToNat reducePow)
open Go.RowKit
set_option linter.unusedSimpArgs false
set_option maxRecDepth 100000
theorem Fn.of_box {P:Program} {J:Inv} {f:FuncId} {args:List V} {k nx:Nat} {ty:TypeId} {cs:List V} {post:List (Nat×Ob)} (h:FnH P J f args [] 0 (.op k 0) post nx) (hk:Hroot post k=some (.box ty (.st cs))) (hc:clL cs=true) (h0:0<cs.length):Fn P J f false args (.pe (.sq cs.length .any [.st cs]) 0 0):=by
 refine⟨h.1,fun w F vs hI hF hlen hvs=> ?_⟩
 have hm:Mem J [] 0 (.bare F) w:=⟨hF,fun _ _=>⟨rfl,rfl⟩,fun m o hm=>by cases m<;>simp[Hget,Hroot,Hchild] at hm,fun m m' o o' g hm=>by cases m<;>simp[Hget,Hroot,Hchild] at hm,fun k y hk=>by simp[Cx.bare] at hk,hI⟩
 refine(h.2 w (.bare F) vs hm hlen hvs).mono fun e w' ⟨v,G,he,hev,hle,hkeep,hmem,hown,hrep⟩=> ?_
 have hnB: ∀b,¬Blk (Cx.bare F) [] b:=fun b ⟨m,ob,hm,_⟩=>by cases m<;>simp[Hget,Hroot,Hchild] at hm
 obtain⟨b,hO,rfl⟩:=rep_op hrep
 obtain⟨b',cells,u,hO',hheap,hsz,h1,h2,_⟩:=hmem.own (.r k) _ hk
 rw[hO] at hO'
 obtain rfl:b=b':=by simpa using hO'
 have hnew:w.heap.size≤b:=by
  rcases hown (.r k) _ b hk (by simp[Cx.blk,hO]) with h|h
  ·exact absurd h (hnB b)
  ·exact h
 have hcs:(V.st cs).csize=cs.length:=rfl
 have hp:Rep w' (.bare fun b=>F b∨(false=true∧b<w.heap.size)) (.pe (.sq cs.length .any [.st cs]) 0 0) (.pointer (some ⟨b,0+(0*cs.length+0),none⟩)):=by
  refine .pe (.sq cs.length .any [.st cs]) cs.length 1 (fun i=>[V.st cs].getD i .any) 0 0 b 0 (fun _ j=>u j) (by simp only[V.elems,List.length_singleton];rw[if_neg (by omega)]) (by omega) (heap_lt hheap) (fun hb=> ?_) (fun i hi j hj=> ?_) (fun i hi j hj=> ?_)
  ·rcases hb with hb|⟨hb,_⟩
   ·have:=hF b hb;omega
   ·cases hb
  ·obtain rfl:i=0:=by omega
   have h3:=h1 j (by rw[hcs];exact hj)
   rw[show 0+(0*cs.length+j)=j by omega]
   exact⟨(cell0 hheap j).trans h3.1,h3.2⟩
  ·obtain rfl:i=0:=by omega
   have h3:=h2 j (by rw[hcs];exact hj)
   have hcl:((V.st cs).cell j).cl=true:=by
    show(cs.getD j .any).cl=true
    exact cl_get hc hj _
   refine(h3.bare hcl).of_bare fun b hb=> .inl ?_
   rcases hb with hb|⟨hb,_⟩
   ·exact hkeep b hb (hnB b)
   ·cases hb
 rw[show 0+(0*cs.length+0)=0 by omega] at hp
 exact⟨_,he,⟨hev.os,hev.tape,hev.output,hev.size,fun b hb=>hev.block b hb (hnB b)⟩,hp⟩
def SBjh:FuncId→List V→List (Nat×Ob)→Nat→Option CallH:=fun f args h nx=>
 if f=234 then match args with
  |[.op k 0, .val (.int .i64 x)]=>match Hroot h k with
   |some (.box ty (.st [b0,v0]))=>some ⟨[ty=142,0≤x,x<9223372036854775808],[],[(k, .box 142 (.st [b0,v0]))], .op k 0,[(k, .box 142 (bI false x.toNat))],nx⟩
   |_=>none
  |_=>none
 else SBgh f args h nx
theorem SBjh_ok (J:Inv) (f:FuncId) (args:List V) (h:List (Nat×Ob)) (nx:Nat) (c:CallH) (hc:SBjh f args h nx=some c) (hl:AllP c.l):FnH Tryz.prog J f (mixA h c.bw args).1 c.pre nx c.res c.post c.nx:=by
 unfold SBjh at hc
 split at hc
 ·rename_i hf;subst hf
  split at hc
  ·rename_i k x
   split at hc
   ·rename_i ty b0 v0 hk
    obtain rfl:=Option.some.inj hc
    have q1:ty=142:=hl _ (by simp)
    have q2:0≤x:=hl _ (by simp)
    have q3:x<9223372036854775808:=hl _ (by simp)
    have hp:=bSetI_fn J k nx b0 v0 x.toNat (by omega)
    rw[show V.i (x.toNat:Int)= .val (.int .i64 x) by unfold V.i;rw[Int.toNat_of_nonneg q2]] at hp
    exact hp
   ·exact absurd hc (by simp)
  ·exact absurd hc (by simp)
 ·exact SBgh_ok J f args h nx c hc hl
def SBj (J:Inv) (b:Nat):Sig:=⟨J,sdf,SBsf,SBjh,b⟩
theorem SBj_ok (J:Inv) (b:Nat):SigOk Tryz.prog (SBj J b):=⟨(SBs_ok J).1,SBjh_ok J⟩
theorem newInt_fn (J:Inv) (x:Nat) (hx:x<9223372036854775808):Fn Tryz.prog J 200 false [.i x] (pN x):=by
 refine Fn.of_box (k:=0) (nx:=1) (ty:=142) (post:=[(0, .box 142 (bI false x))]) ?_ rfl (by simp[clL,V.cl,wV,wds_cl]) (by simp)
 refine fnJ Tryz.func200 rfl (by kernel_rfl) (SBj_ok J 0) rfl ?_
 unfold Tryz.f200
 simp only[↓bD,bQ,reduceMul,reduceLeDiff,reduceEqDiff,reduceLT,reduceAdd,reduceSub,↓reduceIte,reduceCtorEq,reduceToNat,reducePow,Nat.reduceBEq,reduceDiv,SBj,SBsf,SBnf,SBmf,SBjh,SBgh,pN,bI]
 refine⟨by omega,by omega, .inl ?_⟩
 simp only[↓bD,bQ,reduceMul,reduceLeDiff,reduceEqDiff,reduceLT,reduceAdd,reduceSub,↓reduceIte,reduceCtorEq,reduceToNat,reducePow,Nat.reduceBEq,reduceDiv]
theorem nb_nil:nb []=0:=rfl
theorem setBytes_fn (J:Inv) (k nx:Nat) (b0 v0:V) (b:List UInt8) (hb:b.length≤100000):FnH Tryz.prog J 96 [.op k 0, .by b] [(k, .box 142 (.st [b0,v0]))] nx (.op k 0) [(k, .box 142 (bI false (nb b)))] nx:=by
 refine fnJ Tryz.func96 rfl (by kernel_rfl) (SBj_ok J nx) rfl ?_
 unfold Tryz.f96
 simp only[↓bD,bQ,reduceMul,reduceLeDiff,reduceEqDiff,reduceLT,reduceAdd,reduceSub,↓reduceIte,reduceCtorEq,reduceToNat,reducePow,Nat.reduceBEq,reduceDiv,SBj,SBsf,SBnf,SBmf,SBjh,SBgh,pN,bI]
 refine LoopC.introA (α:=Nat) (fun i=>i≤b.length) (fun i=>⟨[(0, .op k 0),(1, .by b),(5,wV (dg (nb (b.take i)))),(6, .i i)],[(k, .box 142 (.st [b0,v0]))],nx⟩) (fun i=>b.length-i) 0 [.nl 5 1 (.val (.int .u32 0))] (Nat.zero_le _) ?_ ?_
 ·simp only[↓bD,bQ,reduceMul,reduceLeDiff,reduceEqDiff,reduceLT,reduceAdd,reduceSub,↓reduceIte,reduceCtorEq,reduceToNat,reducePow,Nat.reduceBEq,reduceDiv,List.take_zero,nb_nil,dg_zero]
  exact⟨rfl,Nat.le_refl _⟩
 ·intro i hi
  simp only[↓bD,bQ,reduceMul,reduceLeDiff,reduceEqDiff,reduceLT,reduceAdd,reduceSub,↓reduceIte,reduceCtorEq,reduceToNat,reducePow,Nat.reduceBEq,reduceDiv,SBj,SBsf,SBnf,SBmf,SBjh,SBgh,pN,bI]
  refine⟨fun h=> ?_,fun h=> ?_⟩
  ·have h:i<b.length:=by simpa using h
   refine DrawC.sch [(0,some []),(2,some []),(3,some []),(4,some []),(5,some []),(6,some []),(1,none),(7,none),(8,none),(9,some [])] [] (by kernel_rfl) ?_
   simp only[↓bD,bQ,reduceMul,reduceLeDiff,reduceEqDiff,reduceLT,reduceAdd,reduceSub,↓reduceIte,reduceCtorEq,reduceToNat,reducePow,Nat.reduceBEq,reduceDiv,SBj,SBsf,SBnf,SBmf,SBjh,SBgh,pN,bI]
   have hl:=byteAt_lo b i
   have hh:=byteAt_hi b i
   have e1:wr .u64 (byteAt b i)=(((b.getD i 0).toNat:Nat):Int):=by
    have e:byteAt b i=(((b.getD i 0).toNat:Nat):Int):=rfl
    rw[e] at hh⊢
    exact wr64n (by omega)
   have e2:b.take (i+1)=b.take i++[b.getD i 0]:=by rw[List.take_succ_eq_append_getElem h,List.getD_eq_getElem?_getD,List.getElem?_eq_getElem h];rfl
   have l1:=nb_dg_len (b.take i)
   have l2:=nb_dg_len (b.take (i+1))
   rw[List.length_take] at l1 l2
   have e3:nb (b.take i)*2^8+(b.getD i 0).toNat=nb (b.take (i+1)):=by rw[e2,nb_snoc];omega
   have l3:=dg_mono (show nb (b.take i)*2^8≤nb (b.take (i+1)) by omega)
   have l4:=dg_mono (show(b.getD i 0).toNat≤nb (b.take (i+1)) by omega)
   rw[e1,Int.toNat_natCast]
   have h256:=(b.getD i 0).toNat_lt
   refine⟨by omega,by omega,by omega,by omega,by omega,by omega,by omega,by omega,by omega,by constructor<;>omega,Again.intro (i+1) h (by omega) ?_⟩
   simp only[↓bD,bQ,reduceMul,reduceLeDiff,reduceEqDiff,reduceLT,reduceAdd,reduceSub,↓reduceIte,reduceCtorEq,reduceToNat,reducePow,Nat.reduceBEq,reduceDiv,e1]
   rw[e3]
   exact⟨⟨rfl,by omega⟩,Nat.le_refl _⟩
  ·have h:i=b.length:=by rw[decide_eq_false_iff_not] at h;omega
   subst h
   rw[List.take_length]
   refine .inl ?_
   simp only[↓bD,bQ,reduceMul,reduceLeDiff,reduceEqDiff,reduceLT,reduceAdd,reduceSub,↓reduceIte,reduceCtorEq,reduceToNat,reducePow,Nat.reduceBEq,reduceDiv]
   exact Nat.le_refl _
def hd (c:Nat):Nat:=if c≤57 then c-48 else c-87
def hexN (s:List UInt8):Nat:=s.foldl (fun a c=>16*a+hd c.toNat) 0
theorem hexN_snoc (s:List UInt8) (c:UInt8):hexN (s++[c])=16*hexN s+hd c.toNat:=by unfold hexN;rw[List.foldl_append];rfl
def HexOk (s:List UInt8):Prop:= ∀c∈s,(48≤c.toNat∧c.toNat≤57)∨(97≤c.toNat∧c.toNat≤102)
theorem hd_lt {s:List UInt8} (h:HexOk s) {c:UInt8} (hc:c∈s):hd c.toNat<16:=by
 have:=h c hc
 unfold hd;split<;>omega
theorem hex_aux: ∀(s:List UInt8) (a:Nat),(∀c∈s,hd c.toNat<16)→s.foldl (fun a c=>16*a+hd c.toNat) a<(a+1)*16^s.length
 |[],a,_=>by simp
 |c::r,a,h=>by
  have h1:=hex_aux r (16*a+hd c.toNat) fun d hd=>h d (List.mem_cons_of_mem _ hd)
  have h2:=h c (List.mem_cons_self ..)
  rw[List.foldl_cons,List.length_cons,Nat.pow_succ]
  refine Nat.lt_of_lt_of_le h1 ?_
  rw[Nat.mul_comm (16^r.length),←Nat.mul_assoc]
  exact Nat.mul_le_mul_right _ (by omega)
theorem hexN_len {s:List UInt8} (h:HexOk s):(dg (hexN s)).length≤s.length:=by
 have h1:=hex_aux s 0 fun c hc=>hd_lt h hc
 rw[Nat.zero_add,Nat.one_mul] at h1
 exact dg_len (Nat.lt_of_lt_of_le h1 (Nat.pow_le_pow_left (by omega) _))
theorem wr_small {x:Int} (h0:0≤x) (h1:x<9223372036854775808):wr .i64 x=x:=by rw[wr_eq,IntKind.wrap_i64];omega
theorem setString_fn (J:Inv) (k nx:Nat) (b0 v0:V) (s:List UInt8) (hs:s.length≤1000) (h0:s.length≠0) (hx:HexOk s):FnH Tryz.prog J 195 [.op k 0, .str s, .i 16] [(k, .box 142 (.st [b0,v0]))] nx (.tu [.op k 0, .bb true]) [(k, .box 142 (bI false (hexN s)))] nx:=by
 refine fnJ Tryz.func195 rfl (by kernel_rfl) (SBj_ok J nx) rfl ?_
 unfold Tryz.f195
 have hfirst:0<s.length:=by omega
 have hm:s.getD 0 0∈s:=by
  rw[List.getD_eq_getElem?_getD,List.getElem?_eq_getElem hfirst]
  exact List.getElem_mem hfirst
 have hf:=hx _ hm
 have e1:(byteAt s 0==45)=false:=by rw[beq_eq_false_iff_ne];unfold byteAt;omega
 have e2:(byteAt s 0==43)=false:=by rw[beq_eq_false_iff_ne];unfold byteAt;omega
 have e3:decide (0<(s.length:Int))=true:=decide_eq_true (by omega)
 have e4:((s.length:Int)==0)=false:=by rw[beq_eq_false_iff_ne];omega
 have e5:((16:Int)==0)=false:=rfl
 have e6:decide ((16:Int)<2)=false:=rfl
 have e7:decide ((36:Int)<16)=false:=rfl
 simp only[↓bD,bQ,reduceMul,reduceLeDiff,reduceEqDiff,reduceLT,reduceAdd,reduceSub,↓reduceIte,reduceCtorEq,reduceToNat,reducePow,Nat.reduceBEq,reduceDiv,SBj,SBsf,SBnf,SBmf,SBjh,SBgh,pN,bI,e1,e2,e3,e4,e5,e6,e7]
 refine⟨fun _=>by omega,fun _=>by omega,fun _=>by omega,fun _=>by omega,?_⟩
 refine LoopC.introA (α:=Nat) (fun i=>i≤s.length) (fun i=>⟨[(0, .op k 0),(1, .str s),(2, .i 16),(8, .bb false),(9,wV (dg (hexN (s.take i)))),(10, .i i)],[(k, .box 142 (.st [b0,v0]))],nx⟩) (fun i=>s.length-i) 0 [.nl 9 1 (.val (.int .u32 0))] (Nat.zero_le _) ?_ ?_
 ·simp only[↓bD,bQ,reduceMul,reduceLeDiff,reduceEqDiff,reduceLT,reduceAdd,reduceSub,↓reduceIte,reduceCtorEq,reduceToNat,reducePow,Nat.reduceBEq,reduceDiv,List.take_zero,show hexN []=0 from rfl,dg_zero]
  exact⟨rfl,Nat.le_refl _⟩
 ·intro i hi
  have hrange:i<s.length→(48≤byteAt s i∧byteAt s i≤57)∨(97≤byteAt s i∧byteAt s i≤102):=fun h=>by
   have hm:s.getD i 0∈s:=by
    rw[List.getD_eq_getElem?_getD,List.getElem?_eq_getElem h]
    exact List.getElem_mem h
   have:=hx _ hm
   unfold byteAt
   omega
  have hstep:i<s.length→hexN (s.take (i+1))=hexN (s.take i)*16+hd (byteAt s i).toNat:=fun h=>by
   have e2:s.take (i+1)=s.take i++[s.getD i 0]:=by rw[List.take_succ_eq_append_getElem h,List.getD_eq_getElem?_getD,List.getElem?_eq_getElem h];rfl
   rw[e2,hexN_snoc,Nat.mul_comm]
   rfl
  have hsub: ∀n,HexOk (s.take n):=fun n c hc=>hx c (List.mem_of_mem_take hc)
  have l1:=hexN_len (hsub i)
  have l2:=hexN_len (hsub (i+1))
  rw[List.length_take] at l1 l2
  by_cases hlt:i<s.length
  ·have e8:decide ((i:Int)<s.length)=true:=decide_eq_true (by omega)
   have hst:=hstep hlt
   have w16:wr .u64 16=16:=wr64 (by omega) (by omega)
   rcases hrange hlt with ⟨r1,r2⟩|⟨r1,r2⟩
   ·have f1:decide (48≤byteAt s i)=true:=decide_eq_true r1
    have f2:decide (byteAt s i≤57)=true:=decide_eq_true r2
    have f0:(byteAt s i-48)%256=byteAt s i-48:=by omega
    have f3:wr .i64 (byteAt s i-48)=((hd (byteAt s i).toNat:Nat):Int):=by
     rw[wr_small (by omega) (by omega)]
     unfold hd
     rw[if_pos (by omega)]
     omega
    have hlt16:hd (byteAt s i).toNat<16:=by unfold hd;rw[if_pos (by omega)];omega
    generalize hd (byteAt s i).toNat=d at *
    have f5:decide ((16:Int)≤(d:Int))=false:=decide_eq_false (by omega)
    have f6:wr .u64 (d:Int)=(d:Int):=wr64n (by omega)
    simp only[↓bD,bQ,reduceMul,reduceLeDiff,reduceEqDiff,reduceLT,reduceAdd,reduceSub,↓reduceIte,reduceCtorEq,reduceToNat,reducePow,Nat.reduceBEq,reduceDiv,SBj,SBsf,SBnf,SBmf,SBjh,SBgh,pN,bI,e8,f1,f2,w16,f0,f3,f5,f6]
    have l3:=dg_mono (show hexN (s.take i)*16≤hexN (s.take (i+1)) by omega)
    have l4:(dg d).length≤1:=dg_len (by omega)
    have l5:(dg 16).length≤1:=dg_len (by omega)
    refine⟨by omega,by omega,by omega,by omega,by omega,by omega,by omega,by omega,by omega,by omega,by constructor<;>omega,Again.intro (i+1) hlt (by omega) ?_⟩
    simp only[↓bD,bQ,reduceMul,reduceLeDiff,reduceEqDiff,reduceLT,reduceAdd,reduceSub,↓reduceIte,reduceCtorEq,reduceToNat,reducePow,Nat.reduceBEq,reduceDiv]
    rw[←hst]
    exact⟨⟨rfl,by omega⟩,Nat.le_refl _⟩
   ·have f1:decide (48≤byteAt s i)=true:=decide_eq_true (by omega)
    have f2:decide (byteAt s i≤57)=false:=decide_eq_false (by omega)
    have f3:decide (97≤byteAt s i)=true:=decide_eq_true r1
    have f4:decide (byteAt s i≤122)=true:=decide_eq_true (by omega)
    have f0:(byteAt s i-97)%256=byteAt s i-97:=by omega
    have g3:wr .i64 (byteAt s i-97)+10=((hd (byteAt s i).toNat:Nat):Int):=by
     rw[wr_small (by omega) (by omega)]
     unfold hd
     rw[if_neg (by omega)]
     omega
    have hlt16:hd (byteAt s i).toNat<16:=by unfold hd;rw[if_neg (by omega)];omega
    generalize hd (byteAt s i).toNat=d at *
    have f5:decide ((16:Int)≤(d:Int))=false:=decide_eq_false (by omega)
    have f6:wr .u64 (d:Int)=(d:Int):=wr64n (by omega)
    simp only[↓bD,bQ,reduceMul,reduceLeDiff,reduceEqDiff,reduceLT,reduceAdd,reduceSub,↓reduceIte,reduceCtorEq,reduceToNat,reducePow,Nat.reduceBEq,reduceDiv,SBj,SBsf,SBnf,SBmf,SBjh,SBgh,pN,bI,e8,f1,f2,f3,f4,w16,f0,g3,f5,f6]
    have l3:=dg_mono (show hexN (s.take i)*16≤hexN (s.take (i+1)) by omega)
    have l4:(dg d).length≤1:=dg_len (by omega)
    have l5:(dg 16).length≤1:=dg_len (by omega)
    refine⟨by omega,by omega,by constructor<;>omega,by omega,by omega,by omega,by omega,by omega,by omega,by omega,by omega,by constructor<;>omega,Again.intro (i+1) hlt (by omega) ?_⟩
    simp only[↓bD,bQ,reduceMul,reduceLeDiff,reduceEqDiff,reduceLT,reduceAdd,reduceSub,↓reduceIte,reduceCtorEq,reduceToNat,reducePow,Nat.reduceBEq,reduceDiv]
    rw[←hst]
    exact⟨⟨rfl,by omega⟩,Nat.le_refl _⟩
  ·have h:i=s.length:=by omega
   subst h
   have e8:decide ((s.length:Int)<s.length)=false:=decide_eq_false (by omega)
   rw[List.take_length]
   simp only[↓bD,bQ,reduceMul,reduceLeDiff,reduceEqDiff,reduceLT,reduceAdd,reduceSub,↓reduceIte,reduceCtorEq,reduceToNat,reducePow,Nat.reduceBEq,reduceDiv,SBj,SBsf,SBnf,SBmf,SBjh,SBgh,pN,bI,e8]
   refine .inl ?_
   simp only[↓bD,bQ,reduceMul,reduceLeDiff,reduceEqDiff,reduceLT,reduceAdd,reduceSub,↓reduceIte,reduceCtorEq,reduceToNat,reducePow,Nat.reduceBEq,reduceDiv]
   exact Nat.le_refl _
theorem pos_and (b:Bool) (n:Nat):(b&&decide (0<(dg n).length))=(b&&decide (n≠0)):=by
 congr 1
 by_cases h:n=0
 ·subst h;rw[dg_zero];rfl
 ·rw[decide_eq_true h]
  exact decide_eq_true (Nat.pos_of_ne_zero fun e=>h (dg_eq_nil.1 (List.length_eq_zero_iff.1 e)))
theorem bQuo_fn (J:Inv) (k kr nx:Nat) (h1:(k=kr)=False) (h2:(kr=k)=False) (b0 v0:V) (bx:Bool) (x y:Nat) (hx:(dg x).length≤100000) (hy:(dg y).length≤100000) (hy3:3≤(dg y).length):FnH Tryz.prog J 258 [.op k 0, .op kr 0,pN y, .op kr 0] [(k, .box 142 (.st [b0,v0])),(kr, .box 142 (bI bx x))] nx (.tu [.op k 0, .op kr 0]) [(k, .box 142 (bI (bx&&decide (x/y≠0)) (x/y))),(kr, .box 142 (bI (bx&&decide (x%y≠0)) (x%y)))] nx:=by
 rw[←pos_and,←pos_and]
 refine fnJ Tryz.func258 rfl (by kernel_rfl) (SBi_ok J nx) rfl ?_
 unfold Tryz.f258
 simp only[↓bD,bQ,reduceMul,reduceLeDiff,reduceEqDiff,reduceLT,reduceAdd,reduceSub,↓reduceIte,reduceCtorEq,reduceToNat,reducePow,Nat.reduceBEq,reduceDiv,SBi,SBsf,SBnf,SBmf,SBgh,pN,bI,h1,h2]
 refine DrawC.sch [(0,some []),(1,some []),(2,some []),(3,some []),(4,some []),(5,some []),(6,some []),(7,some []),(8,none),(9,some []),(10,some []),(11,some []),(12,some []),(13,some [])] [] (by kernel_rfl) ?_
 simp only[↓bD,bQ,reduceMul,reduceLeDiff,reduceEqDiff,reduceLT,reduceAdd,reduceSub,↓reduceIte,reduceCtorEq,reduceToNat,reducePow,Nat.reduceBEq,reduceDiv,SBi,SBsf,SBnf,SBmf,SBgh,pN,bI,h1,h2]
 refine⟨.of (by omega), .of (by omega),hy3,by omega,by omega, .inl ?_⟩
 simp only[↓bD,bQ,reduceMul,reduceLeDiff,reduceEqDiff,reduceLT,reduceAdd,reduceSub,↓reduceIte,reduceCtorEq,reduceToNat,reducePow,Nat.reduceBEq,reduceDiv,h1,h2]
 exact⟨by cases bx<;>rfl,Nat.le_refl _⟩
def SBlh:FuncId→List V→List (Nat×Ob)→Nat→HR:=fun f args h nx=>tabH [(258,fun h nx=>hO fun k=>hO fun kr=>hP fun y=>hE kr (hD (hA h k fun bk vk=>hX h kr fun bx x=>hF [(k=kr)=False,(kr=k)=False,(dg x).length≤100000,(dg y).length≤100000,3≤(dg y).length] [(k, .box 142 (.st [bk,vk])),(kr, .box 142 (bI bx x))] (.tu [.op k 0, .op kr 0]) [(k, .box 142 (bI (bx&&decide (x/y≠0)) (x/y))),(kr, .box 142 (bI (bx&&decide (x%y≠0)) (x%y)))] (nx)))),
 (257,fun h nx=>hO fun k=>hP fun x=>hD (hA h k fun bk vk=>hF [(dg x).length≤100000] [(k, .box 142 (.st [bk,vk]))] (.op k 0) [(k, .box 142 (bI false x))] (nx))),
 (199,fun h nx=>hO fun k=>hE k (hP fun y=>hD (hX h k fun bx x=>hF [(dg x).length≤100000,(dg y).length≤100000] [(k, .box 142 (bI bx x))] (.op k 0) [(k, .box 142 (bI (sumB bx x true y&&decide (0<(dg (sumN bx x true y)).length)) (sumN bx x true y)))] (nx)))),
 (148,fun h nx=>hO fun k=>hE k (hO fun k2=>hD (hX h k fun bx x=>hX h k2 fun bf y=>hF [bf=false,(k=k2)=False,(dg x).length≤100000,(dg y).length≤100000] [(k, .box 142 (bI bx x)),(k2, .box 142 (bI bf y))] (.op k 0) [(k, .box 142 (bI (sumB bx x false y&&decide (0<(dg (sumN bx x false y)).length)) (sumN bx x false y))),(k2, .box 142 (bI false y))] (nx))))] noH f args h nx
theorem SBlh_ok (J:Inv):HTab Tryz.prog J SBlh:=tabH_ok (.c (fun _ nx=> .o fun k=> .o fun kr=> .p fun y=> .e (.d (.A fun bk vk=> .X fun bx x=> .F fun⟨c0,c1,c2,c3,c4,_⟩=>bQuo_fn J k kr nx c0 c1 bk vk bx x y c2 c3 c4)))<|
 .c (fun _ nx=> .o fun k=> .p fun x=> .d (.A fun bk vk=> .F fun⟨c0,_⟩=>bSet_fn J k nx bk vk x c0))<|
 .c (fun _ nx=> .o fun k=> .e (.p fun y=> .d (.X fun bx x=> .F fun⟨c0,c1,_⟩=>bSubO_fn J k nx bx x y c0 c1)))<|
 .c (fun _ nx=> .o fun k=> .e (.o fun k2=> .d (.X fun bx x=> .X fun _ y=> .F fun⟨c0,c1,c2,c3,_⟩=>(by subst c0;exact bAddO_fn J k nx k2 c1 bx x y c2 c3))))<| .n) noH_ok
def SBpf:FuncId→List V→CR:=fun f args=>tab [(200,cI .i64 fun n=>cF [0≤n,n<9223372036854775808] false (pN n.toNat))] noF f args
def SBp (J:Inv):Sig:=⟨J,sdf,SBpf,noH,0⟩
theorem SBp_ok (J:Inv):SigOk Tryz.prog (SBp J):= .plain (tab_ok (.c (.i fun n=> .z fun⟨c0,_,_⟩=>(by have h:=newInt_fn J n.toNat (by omega);rwa [show V.i (n.toNat:Int)= .val (.int .i64 n) by unfold V.i;rw[Int.toNat_of_nonneg c0]] at h))<| .n) noF_ok)
def SBq (J:Inv) (b:Nat):Sig:=⟨J,sdf,SBpf,SBlh,b⟩
theorem SBq_ok (J:Inv) (b:Nat):SigOk Tryz.prog (SBq J b):=⟨(SBp_ok J).1,SBlh_ok J⟩
def modS (bx:Bool) (n p:Nat):Nat:=if bx=true∧n%p≠0 then p-n%p else n%p
theorem bDiv1_fn (J:Inv) (k kr nx:Nat) (h1:(k=kr)=False) (h2:(kr=k)=False) (h3:k<nx) (h4:kr<nx) (b0 v0:V) (bx:Bool) (x y:Nat) (hx:(dg x).length≤90000) (hy:(dg y).length≤90000) (hy3:3≤(dg y).length) (hb:bx=true∧x%y≠0):FnH Tryz.prog J 235 [.op k 0, .op kr 0,pN y, .op kr 0] [(k, .box 142 (.st [b0,v0])),(kr, .box 142 (bI bx x))] nx (.tu [.op k 0, .op kr 0]) [(k, .box 142 (bI (sumB (bx&&decide (¬x/y=0)) (x/y) true 1&&decide (0<(dg (sumN (bx&&decide (¬x/y=0)) (x/y) true 1)).length)) (sumN (bx&&decide (¬x/y=0)) (x/y) true 1))),(kr, .box 142 (bI false (modS bx x y)))] (nx+1):=by
 have h5:(nx=k)=False:=eq_false (by omega)
 have h6:(nx=kr)=False:=eq_false (by omega)
 have h7:(k=nx)=False:=eq_false (by omega)
 have h8:(kr=nx)=False:=eq_false (by omega)
 have hy0:0<y:=Nat.pos_of_ne_zero fun e=>by rw[e,dg_zero] at hy3;exact absurd hy3 (by simp)
 have l1:=dg_mono (Nat.div_le_self x y)
 have l2:=dg_mono (Nat.mod_le x y)
 have l3:(dg 1).length≤1:=dg_len (by omega)
 have hm:=Nat.mod_lt x hy0
 have eb:(bx&&decide (¬x%y=0))=true:=by rw[hb.1,decide_eq_true hb.2];rfl
 have em:modS bx x y=y-x%y:=if_pos hb
 have es:sumN true (x%y) false y=y-x%y:=by
  unfold sumN
  rw[if_neg (by simp),if_neg (by omega)]
 have et:sumB true (x%y) false y=false:=by
  unfold sumB
  rw[if_neg (by simp),if_neg (by omega)]
 refine fnJ Tryz.func235 rfl (by kernel_rfl) (SBq_ok J nx) rfl ?_
 unfold Tryz.f235
 simp only[↓bD,bQ,reduceMul,reduceLeDiff,reduceEqDiff,reduceLT,reduceAdd,reduceSub,↓reduceIte,reduceCtorEq,reduceToNat,reducePow,Nat.reduceBEq,reduceDiv,SBq,SBpf,SBlh,pN,bI,h1,h2,h5,h6,h7,h8,eb,es,et,em]
 refine⟨by omega,by omega,by omega,hy3,by omega,by omega,by omega,by omega,by omega,by omega, .inl ?_⟩
 simp only[↓bD,bQ,reduceMul,reduceLeDiff,reduceEqDiff,reduceLT,reduceAdd,reduceSub,↓reduceIte,reduceCtorEq,reduceToNat,reducePow,Nat.reduceBEq,reduceDiv,h1,h2,h5,h6,h7,h8]
 exact Nat.le_refl _
theorem bDiv0_fn (J:Inv) (k kr nx:Nat) (h1:(k=kr)=False) (h2:(kr=k)=False) (h3:k<nx) (h4:kr<nx) (b0 v0:V) (bx:Bool) (x y:Nat) (hx:(dg x).length≤90000) (hy:(dg y).length≤90000) (hy3:3≤(dg y).length) (hb: ¬(bx=true∧x%y≠0)):FnH Tryz.prog J 235 [.op k 0, .op kr 0,pN y, .op kr 0] [(k, .box 142 (.st [b0,v0])),(kr, .box 142 (bI bx x))] nx (.tu [.op k 0, .op kr 0]) [(k, .box 142 (bI (bx&&decide (¬x/y=0)) (x/y))),(kr, .box 142 (bI false (modS bx x y)))] (nx+1):=by
 have h5:(nx=k)=False:=eq_false (by omega)
 have h6:(nx=kr)=False:=eq_false (by omega)
 have h7:(k=nx)=False:=eq_false (by omega)
 have h8:(kr=nx)=False:=eq_false (by omega)
 have hy0:0<y:=Nat.pos_of_ne_zero fun e=>by rw[e,dg_zero] at hy3;exact absurd hy3 (by simp)
 have l1:=dg_mono (Nat.div_le_self x y)
 have l2:=dg_mono (Nat.mod_le x y)
 have l3:(dg 1).length≤1:=dg_len (by omega)
 have hm:=Nat.mod_lt x hy0
 have eb:(bx&&decide (¬x%y=0))=false:=by
  cases bx
  ·rfl
  ·rw[Bool.true_and];exact decide_eq_false fun h=>hb ⟨rfl,h⟩
 have em:modS bx x y=x%y:=if_neg hb
 refine fnJ Tryz.func235 rfl (by kernel_rfl) (SBq_ok J nx) rfl ?_
 unfold Tryz.f235
 simp only[↓bD,bQ,reduceMul,reduceLeDiff,reduceEqDiff,reduceLT,reduceAdd,reduceSub,↓reduceIte,reduceCtorEq,reduceToNat,reducePow,Nat.reduceBEq,reduceDiv,SBq,SBpf,SBlh,pN,bI,h1,h2,h5,h6,h7,h8,eb,em]
 refine⟨by omega,by omega,by omega,hy3, .inl ?_⟩
 simp only[↓bD,bQ,reduceMul,reduceLeDiff,reduceEqDiff,reduceLT,reduceAdd,reduceSub,↓reduceIte,reduceCtorEq,reduceToNat,reducePow,Nat.reduceBEq,reduceDiv,h1,h2,h5,h6,h7,h8]
 exact Nat.le_refl _
def divC (bx:Bool) (x y:Nat):V:=if bx=true∧x%y≠0 then (bI (sumB (bx&&decide (¬x/y=0)) (x/y) true 1&&decide (0<(dg (sumN (bx&&decide (¬x/y=0)) (x/y) true 1)).length)) (sumN (bx&&decide (¬x/y=0)) (x/y) true 1)) else (bI (bx&&decide (¬x/y=0)) (x/y))
theorem bDiv_fn (J:Inv) (k kr nx:Nat) (h1:(k=kr)=False) (h2:(kr=k)=False) (h3:k<nx) (h4:kr<nx) (b0 v0:V) (bx:Bool) (x y:Nat) (hx:(dg x).length≤90000) (hy:(dg y).length≤90000) (hy3:3≤(dg y).length):FnH Tryz.prog J 235 [.op k 0, .op kr 0,pN y, .op kr 0] [(k, .box 142 (.st [b0,v0])),(kr, .box 142 (bI bx x))] nx (.tu [.op k 0, .op kr 0]) [(k, .box 142 (divC bx x y)),(kr, .box 142 (bI false (modS bx x y)))] (nx+1):=by
 unfold divC
 by_cases hb:bx=true∧x%y≠0
 ·rw[if_pos hb];exact bDiv1_fn J k kr nx h1 h2 h3 h4 b0 v0 bx x y hx hy hy3 hb
 ·rw[if_neg hb];exact bDiv0_fn J k kr nx h1 h2 h3 h4 b0 v0 bx x y hx hy hy3 hb
def SBrh:FuncId→List V→List (Nat×Ob)→Nat→HR:=fun f args h nx=>tabH [(235,fun h nx=>hO fun k=>hO fun kr=>hP fun y=>hE kr (hD (hA h k fun bk vk=>hX h kr fun bx x=>hF [(k=kr)=False,(kr=k)=False,k<nx,kr<nx,(dg x).length≤90000,(dg y).length≤90000,3≤(dg y).length] [(k, .box 142 (.st [bk,vk])),(kr, .box 142 (bI bx x))] (.tu [.op k 0, .op kr 0]) [(k, .box 142 (divC bx x y)),(kr, .box 142 (bI false (modS bx x y)))] (nx+1))))] noH f args h nx
theorem SBrh_ok (J:Inv):HTab Tryz.prog J SBrh:=tabH_ok (.c (fun _ nx=> .o fun k=> .o fun kr=> .p fun y=> .e (.d (.A fun bk vk=> .X fun bx x=> .F fun⟨c0,c1,c2,c3,c4,c5,c6,_⟩=>bDiv_fn J k kr nx c0 c1 c2 c3 bk vk bx x y c4 c5 c6)))<| .n) noH_ok
def SBr (J:Inv) (b:Nat):Sig:=⟨J,sdf,SBpf,SBrh,b⟩
theorem SBr_ok (J:Inv) (b:Nat):SigOk Tryz.prog (SBr J b):=⟨(SBp_ok J).1,SBrh_ok J⟩
theorem bMod_fn (J:Inv) (k nx:Nat) (h1:k<nx) (bx:Bool) (x y:Nat) (hx:(dg x).length≤90000) (hy:(dg y).length≤90000) (hy3:3≤(dg y).length):FnH Tryz.prog J 201 [.op k 0, .op k 0,pN y] [(k, .box 142 (bI bx x))] nx (.op k 0) [(k, .box 142 (bI false (modS bx x y)))] (nx+2):=by
 have h2:(k=nx)=False:=eq_false (by omega)
 have h3:(nx=k)=False:=eq_false (by omega)
 refine fnJ Tryz.func201 rfl (by kernel_rfl) (SBr_ok J nx) rfl ?_
 unfold Tryz.f201
 simp only[↓bD,bQ,reduceMul,reduceLeDiff,reduceEqDiff,reduceLT,reduceAdd,reduceSub,↓reduceIte,reduceCtorEq,reduceToNat,reducePow,Nat.reduceBEq,reduceDiv,SBr,SBpf,SBrh,pN,bI,h1,h2,h3]
 refine⟨by omega,by omega,hx,hy,hy3, .inl ?_⟩
 simp only[↓bD,bQ,reduceMul,reduceLeDiff,reduceEqDiff,reduceLT,reduceAdd,reduceSub,↓reduceIte,reduceCtorEq,reduceToNat,reducePow,Nat.reduceBEq,reduceDiv,h1,h2,h3]
 exact Nat.le_refl _
end Go.Proofs.YtfengpdaocgcnaaGreatDoor
