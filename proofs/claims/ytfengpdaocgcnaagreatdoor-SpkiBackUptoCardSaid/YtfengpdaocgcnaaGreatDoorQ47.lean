/- spoil, the second loop: the parts are grown. spoil: the third loop; the whole. spoil, the whole. -/
import Derived.Test.YtfengpdaocgcnaaGreatDoorQ46
namespace Go.Proofs.YtfengpdaocgcnaaGreatDoor
open Nat (reduceMul reduceLeDiff reduceEqDiff reduceLT reduceAdd reduceSub reduceDiv)
open Int (reduceToNat reducePow)
open Go.RowKit
set_option linter.unusedSimpArgs false
set_option maxRecDepth 100000
def upd (g:Nat→Value) (i:Nat) (y:Value):Nat→Value:=fun j=>if j=i then y else g j
theorem upd_self (g:Nat→Value) (i:Nat) (y:Value):upd g i y i=y:=if_pos rfl
theorem upd_ne {g:Nat→Value} {i j:Nat} {y:Value} (h:j≠i):upd g i y j=g j:=if_neg h
abbrev hdI (i:Nat) (hv gv:Nat→Value) (N:Nat):S:=⟨[(7, .i i),(3, .op 0 0),(4, .op 1 0)],[(0, .box 70 (.st [.val (hv 0), .val (hv 1), .val (hv 2), .val (hv 3), .val (hv 4)])),(1, .box 70 (.st [.val (gv 0), .val (gv 1), .val (gv 2), .val (gv 3), .val (gv 4)]))],N⟩
abbrev hdQ (q i:Nat) (hv gv:Nat→Value) (N:Nat):S:=⟨[(8, .i q),(7, .i i),(3, .op 0 0),(4, .op 1 0)],[(0, .box 70 (.st [.val (hv 0), .val (hv 1), .val (hv 2), .val (hv 3), .val (hv 4)])),(1, .box 70 (.st [.val (gv 0), .val (gv 1), .val (gv 2), .val (gv 3), .val (gv 4)]))],N⟩
def moC (j:Nat):UInt8:=u8 (20+(j:Int))
abbrev hdA (q i:Nat) (hv gv:Nat→Value) (N:Nat):S:=⟨[(64, .ro (.r N)),(60, .val (gv i)),(57, .i i),(8, .i q),(7, .i i),(3, .op 0 0),(4, .op 1 0)],(N, .row 5 (.by [moC i]))::(hdI i hv gv N).h,N+1⟩
theorem wp_append {P:Program} {a:Act} {w w':World} {o:Oper} {T:TypeId} {X Y:Operand} {v':Value} {K:Act→World→Prop} {Q:Exit→Act→World→Prop} (hop:o.op= .call {callee:= .builtin .append,args:= #[X,Y],argTypes:= #[T,T]})
  (hrun:(Builtin.append_ #[T,T] o.type #[a.eval X,a.eval Y]).run P w= .ok v' w') (h:K (a.put o.dst v') w'):o.wp P a w K Q:=by
 unfold Oper.wp execOp
 simp only[hop,resolve,invoke,builtin,Sem.run_bind,Sem.run_pure,Result.andThen_ok,List.map_toArray,List.map_cons,List.map_nil,hrun]
 exact h
noncomputable def pL2:Code:=sR (sR (sR pA2))
theorem pA2_eq:pA2= .seq (sL pA2) (.block 4 (.loop pL2)):=by kernel_rfl
noncomputable def pI:Code:=sR (sL (sR pL2))
noncomputable def pG:Code:=sR (sR (sR (sR pI)))
theorem pL2_eq:pL2= .seq (sL pL2) (.seq (.block 5 (.seq (sL pI) (.seq (sL (sR pI)) (.block 6 (.loop pG))))) (sR (sR pL2))):=by kernel_rfl
theorem pI_eq:pI= .seq (sL pI) (.seq (sL (sR pI)) (.block 6 (.loop pG))):=by kernel_rfl
noncomputable def pR17:Code:=sR (sL (sR pG))
theorem pG_eq:pG= .seq (sL pG) (.seq (.block 7 pR17) (sR (sR pG))):=by kernel_rfl
section
variable {x x0:Fx} {F:Cx} {w:World} {a:Act} {Z:List (Value×List UInt8)}
theorem sp_app (J:Inv) (hj:x0.J=J) (hn:x0.n=106) {i q N:Nat} {hv gv:Nat→Value} {l:List UInt8} {Q:Exit→Act→World→Prop} (h:Lmb x0 ((gv i,l)::Z) x F w) (hs:Sat x (hdQ q i hv gv N) F a w) (hN:2≤N) (hi:i<5) (hl:l.length≤2147483648)
  (hsep: ∀z∈Z,∀b,z.1.ownBlock=some b→(gv i).ownBlock=some b→z.2.length≤l.length) (hg: ∀b,(gv i).ownBlock=some b→(hv i).ownBlock=some b∨x0.w.heap.size≤b)
  (hQ: ∀x F a w y N,2≤N→Lmb x0 ((y,l++[moC i])::Z) x F w→Sat x (hdQ q i hv (upd gv i y) N) F a w→(∀z∈Z,∀b,z.1.ownBlock=some b→y.ownBlock=some b→z.2.length≤(l++[moC i]).length)→(∀b,y.ownBlock=some b→(hv i).ownBlock=some b∨x0.w.heap.size≤b)→Q .normal a w):
  pR17.wp Tryz.prog Q a w:=by
 have hm:Tryz.prog.follows .mixedOrders=true:=by kernel_rfl
 have hT:Tryz.prog.underlying 24=some (.slice 5):=Tryz.underlying24
 have hri:rowInfo Tryz.prog 5=some (1,1):=by kernel_rfl
 obtain⟨r2,hs2⟩:=hs.root h.root
 have hst:=fun s' F' a' w' h'=>h.step (x1:=x.at (hdQ q i hv gv N).h F w) (s':=s') (F':=F') (a':=a') (w':=w') hs r2 rfl rfl (fun b h2 h3=>⟨h2,h3⟩) h'
 have hsz:x0.w.heap.size≤w.heap.size:=(h.root.sat hs).ev.size
 generalize hx2:x.at (hdQ q i hv gv N).h F w=x2 at r2 hs2 hst
 have hx2j:x2.J=J:=r2.j.trans hj
 have hx2n:x2.n=106:=r2.n.trans hn
 have hx2w:x2.w=w:=by rw[←hx2];rfl
 clear hx2 hs h
 have q0:((0:Nat):Int)=0:=rfl
 have q1:((1:Nat):Int)=1:=rfl
 have q2:((2:Nat):Int)=2:=rfl
 have q3:((3:Nat):Int)=3:=rfl
 have q4:((4:Nat):Int)=4:=rfl
 have n1:(N=0)=False:=eq_false (by omega)
 have n2:(N=1)=False:=eq_false (by omega)
 have n3:(0=N)=False:=eq_false (by omega)
 have n4:(1=N)=False:=eq_false (by omega)
 have hi5:i=0∨i=1∨i=2∨i=3∨i=4:=by omega
 simp only[pR17,pG,pI,pL2,pA2,pB,sL,sR,Tryz.f22,Option.getD_some]
 refine wp_region_list ?_
 show wpList Tryz.prog _ Q ([_,_,_,_,_,_,_,_]++[_,_,_]) a w
 refine vopsL_ok (G:=SG J N) (K:=fun s'=>Sub s' (hdA q i hv gv N)) (SG_ok J N) hx2j _ (fun s' F5 a5 w5 hsub hs5=> ?_) _ _ F a w (by rw[hx2n];exact dsts_of (by kernel_rfl)) ?_ hs2
 ·have h5:=hst _ _ _ _ hs5
  have hs5:=hs5.sub hsub
  clear hst hs2 hsub
  have e1:a5.eval (.tmp 60)=gv i:=rep_val (hs5.env 60 _ rfl).2
  obtain⟨v',w6,hrun,x6,F6,hs6,h6,hyB⟩:=h5.app (P:=Tryz.prog) (T:=24) (ty:=24) (c:=moC i) (t:=65) hs5 hsep (hs5.env 64 _ rfl).2 (by simp[vsrc,Hpk,Hroot]) (by omega) (by rw[hx2n];omega) hT hri
  have hsz5:x0.w.heap.size≤w5.heap.size:=(h5.root.sat hs5).ev.size
  have hsep6: ∀z∈Z,∀b,z.1.ownBlock=some b→v'.ownBlock=some b→z.2.length≤(l++[moC i]).length:=fun z hz b hb hb'=>by
   rw[List.length_append]
   rcases hyB b hb' with h1|h1
   ·have:=hsep z hz b hb h1;omega
   ·have:=((h5.kid z (List.mem_cons_of_mem _ hz)).lt b hb).2;omega
  have hg6: ∀b,v'.ownBlock=some b→(hv i).ownBlock=some b∨x0.w.heap.size≤b:=fun b hb=>by
   rcases hyB b hb with h1|h1
   ·exact hg b h1
   ·exact .inr (by omega)
  refine wpList_plain rfl fun K' hK'=> ?_
  refine wp_append rfl (by rw[e1];exact hrun) (hK' _ _ ?_)
  have ho:v'.oneCell'=true:=by
   obtain⟨A,cap,e,_⟩:=row_val (h6.kid _ (List.mem_cons_self ..))
   simp only at e
   rw[e];rfl
  clear hK' K' hs5 h5 e1 hrun hsep hyB hsz5 hg
  obtain⟨r7,hs7⟩:=hs6.root h6.root
  have hst:=fun s' F' a' w' h'=>h6.step (x1:=x6.at (hdA q i hv gv N).h F6 w6) (s':=s') (F':=F') (a':=a') (w':=w') hs6 r7 rfl rfl (fun b h2 h3=>⟨h2,h3⟩) h'
  refine vops_ok (G:=SG J (N+1)) (K:=fun s'=>Sub s' (hdQ q i hv (upd gv i v') (N+1))) (SG_ok J (N+1)) (r7.j.trans hj) (fun s' F8 a8 w8 hsub hs8=> ?_) _ _ F6 _ w6 (by rw[r7.n.trans hn];exact dsts_of (by kernel_rfl)) ?_ hs7
  ·exact hQ _ F8 a8 w8 v' (N+1) (by omega) (hst _ _ _ _ hs8) (hs8.sub hsub) hsep6 hg6
  ·rcases hi5 with rfl|rfl|rfl|rfl|rfl
   all_goals
    simp only[bQ,reduceLeDiff,reduceEqDiff,reduceLT,reduceAdd,↓reduceIte,reduceCtorEq,reduceToNat,SG,hdQ,q0,q1,q2,q3,q4,n1,n2,upd,Nat.reduceEqDiff,ho]
    exact⟨by omega,by omega,Nat.le_refl _⟩
 ·rcases hi5 with rfl|rfl|rfl|rfl|rfl
  all_goals
   simp only[bQ,reduceMul,reduceLeDiff,reduceEqDiff,reduceLT,reduceAdd,↓reduceIte,reduceCtorEq,reduceToNat,SG,hdA,hdQ,moC,q0,q1,q2,q3,q4,n1,n2]
   exact⟨by omega,by omega,by constructor<;>omega,by omega,by omega,rfl,Nat.le_refl _⟩
theorem sp_grow (J:Inv) (hj:x0.J=J) (hn:x0.n=106) {i N:Nat} {hv gv:Nat→Value} {l:List UInt8} {Q:Exit→Act→World→Prop} (h:Lmb x0 Z x F w) (hz:(hv i,l)∈Z) (hs:Sat x (hdI i hv gv N) F a w) (hN:2≤N) (hi:i<5) (hl:l.length≤1073741824)
  (hsep: ∀z∈Z,∀b,z.1.ownBlock=some b→(hv i).ownBlock=some b→z.2.length≤l.length)
  (hQ: ∀x F a w gv' N,2≤N→Lmb x0 ((gv' i,l++List.replicate 70 (moC i))::Z) x F w→Sat x (hdI i hv gv' N) F a w→(∀b,(gv' i).ownBlock=some b→(hv i).ownBlock=some b∨x0.w.heap.size≤b)→(∀j,j≠i→gv' j=gv j)→Q .normal a w):
  pI.wp Tryz.prog Q a w:=by
 have hm:Tryz.prog.follows .mixedOrders=true:=by kernel_rfl
 have q0:((0:Nat):Int)=0:=rfl
 have q1:((1:Nat):Int)=1:=rfl
 have q2:((2:Nat):Int)=2:=rfl
 have q3:((3:Nat):Int)=3:=rfl
 have q4:((4:Nat):Int)=4:=rfl
 have hi5:i=0∨i=1∨i=2∨i=3∨i=4:=by omega
 have ho:(hv i).oneCell'=true:=by
  obtain⟨A,cap,e,_⟩:=row_val (h.kid _ hz)
  simp only at e
  rw[e];rfl
 rw[pI_eq]
 refine wp_seq ?_
 refine piece (G:=SG J N) h.root hs (SG_ok J N) (h.root.j.trans hj) rfl hm (by rw[h.root.n,hn];kernel_rfl) (K:=⟨fun s'=>Sub s' (hdI i hv (upd gv i (hv i)) N),fun _=>False,[]⟩) ?_ (fun x1 r1 hj1 hn1 hw hX hC hF=>⟨fun s' F1 a1 w1 hsub hs1=> ?_,fun _ _ _ _ h=>h.elim,fun _ _ h=>by simp[exGet] at h⟩)
 ·simp only[pI,pL2,pA2,pB,sL,sR,Tryz.f22,Option.getD_some]
  rcases hi5 with rfl|rfl|rfl|rfl|rfl
  all_goals
   simp only[bQ,reduceLeDiff,reduceEqDiff,reduceLT,reduceAdd,↓reduceIte,reduceCtorEq,reduceToNat,SG,hdI,q0,q1,q2,q3,q4,upd,Nat.reduceEqDiff,ho]
   exact⟨by omega,by omega,by omega,by omega,Nat.le_refl _⟩
 have h1:=h.step hs r1 hw hX hF hs1
 have hs1:=hs1.sub hsub
 clear hs h hsub r1 hw hX hC hF hn1 hj1
 refine wp_seq ?_
 refine piece (G:=SG J N) h1.root hs1 (SG_ok J N) (h1.root.j.trans hj) rfl hm (by rw[h1.root.n,hn];kernel_rfl) (K:=⟨fun s'=>Sub s' (hdQ 0 i hv (upd gv i (hv i)) N),fun _=>False,[]⟩) ?_ (fun x1 r1 hj1 hn1 hw hX hC hF=>⟨fun s' F2 a2 w2 hsub hs2=> ?_,fun _ _ _ _ h=>h.elim,fun _ _ h=>by simp[exGet] at h⟩)
 ·simp only[pI,pL2,pA2,pB,sL,sR,Tryz.f22,Option.getD_some]
  simp only[bQ,reduceEqDiff,↓reduceIte,reduceCtorEq,SG,hdI,hdQ,q0]
  exact Nat.le_refl _
 have h2:=h1.step hs1 r1 hw hX hF hs2
 have hs2:=hs2.sub hsub
 clear hs1 h1 hsub r1 hw hX hC hF hn1 hj1
 refine wp_block ?_
 refine wp_loop_ghost (fun n a w=> ∃q gv' N x F,n=70-q∧q≤70∧2≤N∧Lmb x0 ((gv' i,l++List.replicate q (moC i))::Z) x F w∧Sat x (hdQ q i hv gv' N) F a w∧(∀z∈Z,∀b,z.1.ownBlock=some b→(gv' i).ownBlock=some b→z.2.length≤(l++List.replicate q (moC i)).length)∧(∀b,(gv' i).ownBlock=some b→(hv i).ownBlock=some b∨x0.w.heap.size≤b)∧(∀j,j≠i→gv' j=gv j))
  70 ⟨0,upd gv i (hv i),N,x1,F2,rfl,by omega,hN,h2.sub (fun z hm=> ?_),hs2,?_,?_,fun j hj=>upd_ne hj⟩ ?_
 ·rcases List.mem_cons.1 hm with rfl|hm
  ·rw[upd_self,List.replicate_zero,List.append_nil];exact hz
  ·exact hm
 ·rw[upd_self,List.replicate_zero,List.append_nil];exact hsep
 ·rw[upd_self];exact fun b hb=> .inl hb
 clear hs2 h2 hsep hN
 rintro n a w ⟨q,gv',N,x,F,rfl,hq,hN,h,hs,hsep,hg,hne⟩
 rw[pG_eq]
 refine wp_seq ?_
 refine piece (G:=SG J N) h.root hs (SG_ok J N) (h.root.j.trans hj) rfl hm (by rw[h.root.n,hn];kernel_rfl) (K:=⟨fun s'=>Sub s' (hdQ q i hv gv' N)∧q<70,fun _=>False,[(6,fun s'=>Sub s' (hdQ q i hv gv' N)∧q=70)]⟩) ?_ (fun x1 r1 hj1 hn1 hw hX hC hF=>⟨fun s' F1 a1 w1 hsub hs1=> ?_,fun _ _ _ _ h=>h.elim,fun id k hid s' F1 a1 w1 hsub hs1=> ?_⟩)
 ·simp only[pG,pI,pL2,pA2,pB,sL,sR,Tryz.f22,Option.getD_some]
  simp only[bQ,reduceEqDiff,↓reduceIte,reduceCtorEq,SG,hdQ]
  refine⟨fun h=>⟨Nat.le_refl _,?_⟩,fun h=>⟨Nat.le_refl _,?_⟩⟩
  ·simp only[decide_eq_true_eq] at h;omega
  ·simp only[decide_eq_false_iff_not] at h;omega
 ·obtain⟨hsub,hq2⟩:=hsub
  have h1:=h.step hs r1 hw hX hF hs1
  have hs1:=hs1.sub hsub
  clear hs h hsub r1 hw hX hC hF hn1 hj1
  show(Code.seq (.block 7 pR17) (sR (sR pG))).wp Tryz.prog _ a1 w1
  refine wp_seq (wp_block ?_)
  refine sp_app J hj hn h1 hs1 hN hi (by rw[List.length_append,List.length_replicate];omega) hsep hg fun x F a w y N hN h hs hsep hg=> ?_
  clear h1 hs1
  show(sR (sR pG)).wp Tryz.prog _ a w
  refine piece (G:=SG J N) h.root hs (SG_ok J N) (h.root.j.trans hj) rfl hm (by rw[h.root.n,hn];kernel_rfl) (K:=⟨fun s'=>Sub s' (hdQ (q+1) i hv (upd gv' i y) N),fun _=>False,[]⟩) ?_ (fun x1 r1 hj1 hn1 hw hX hC hF=>⟨fun s' F1 a1 w1 hsub hs1=> ?_,fun _ _ _ _ h=>h.elim,fun _ _ h=>by simp[exGet] at h⟩)
  ·simp only[pG,pI,pL2,pA2,pB,sL,sR,Tryz.f22,Option.getD_some]
   simp only[bQ,reduceEqDiff,↓reduceIte,reduceCtorEq,SG,hdQ]
   refine⟨by constructor<;>omega,by omega,Nat.le_refl _⟩
  ·have h1:=h.step hs r1 hw hX hF hs1
   have e:l++List.replicate q (moC i)++[moC i]=l++List.replicate (q+1) (moC i):=by rw[List.append_assoc,←List.replicate_succ']
   rw[e] at h1 hsep
   refine⟨70-(q+1),by omega,q+1,upd gv' i y,N,x1,F1,rfl,by omega,hN,?_,hs1.sub hsub,?_,?_,fun j hj=>(upd_ne hj).trans (hne j hj)⟩
   ·rw[upd_self];exact h1
   ·rw[upd_self];exact hsep
   ·rw[upd_self];exact hg
 ·simp only[exGet] at hid
  split at hid
  ·rename_i e;subst e
   obtain rfl:=Option.some.inj hid
   obtain⟨hsub,rfl⟩:=hsub
   have h1:=h.step hs r1 hw hX hF hs1
   exact hQ x1 F1 a1 w1 gv' N hN h1 ((hs1.sub hsub).sub (by simp only[bQ,reduceEqDiff,↓reduceIte,reduceCtorEq,hdQ,hdI];exact Nat.le_refl _)) hg hne
  ·cases hid
end
def wrC (m:Nat→Nat) (j:Nat):List UInt8:=List.replicate (m j) (u8 (10+(j:Int)))
def grC (m:Nat→Nat) (j:Nat):List UInt8:=wrC m j++List.replicate 70 (moC j)
theorem wrC_len (m:Nat→Nat) (j:Nat):(wrC m j).length=m j:=by simp[wrC]
theorem grC_len (m:Nat→Nat) (j:Nat):(grC m j).length=m j+70:=by simp[grC,wrC]
theorem byteAt_lit {l:List UInt8} {i:Nat} {c:Int} (h:l[i]?=some (u8 c)) (h0:0≤c) (h1:c<256):byteAt l i=c:=by
 unfold byteAt
 rw[List.getD_eq_getElem?_getD,h,Option.getD_some]
 unfold u8
 simp
 omega
theorem wrC_at (m:Nat→Nat) {j q:Nat} (hj:j<5) (h:q<m j):byteAt (wrC m j) q=10+(j:Int):=
 byteAt_lit (by rw[wrC,List.getElem?_replicate,if_pos h]) (by omega) (by omega)
theorem grC_at (m:Nat→Nat) {j q:Nat} (hj:j<5) (h:q<70):byteAt (grC m j) (m j+q)=20+(j:Int):=
 byteAt_lit (by rw[grC,List.getElem?_append_right (by rw[wrC_len];omega),wrC_len,Nat.add_sub_cancel_left,List.getElem?_replicate,if_pos h];rfl) (by omega) (by omega)
abbrev ctS (E:En) (m:Nat→Nat) (N:Nat):S:=⟨E,[(0, .box 70 (.st [.by (wrC m 0), .by (wrC m 1), .by (wrC m 2), .by (wrC m 3), .by (wrC m 4)])),(1, .box 70 (.st [.by (grC m 0), .by (grC m 1), .by (grC m 2), .by (grC m 3), .by (grC m 4)]))],N⟩
theorem sp_l3 (J:Inv) (m:Nat→Nat) (hm: ∀j,m j≤1073741824) (N:Nat):vg Tryz.prog (SG J N) pA3 (ctS [(3, .op 0 0),(4, .op 1 0)] m N) ⟨fun _=>False,RetK Tryz.f22.results.toList (.bb true) (fun _=>True),[]⟩:=by
 simp only[pA3,pB,sR,Tryz.f22,Option.getD_some]
 simp only[bQ,SG,ctS]
 generalize hK:Kseq _ _ _ _=K2
 refine LoopC.intro (α:=Nat) (fun i=>i≤5) (fun i=>ctS [(9, .i i),(3, .op 0 0),(4, .op 1 0)] m N) (fun i=>5-i) 0 (Nat.zero_le _) ?_ ?_
 ·simp only[bQ,reduceEqDiff,↓reduceIte,reduceCtorEq,ctS]
  first|rfl|exact⟨rfl,Nat.le_refl _⟩|exact Nat.le_refl _
 ·intro i hi
  have q0:((0:Nat):Int)=0:=rfl
  have q1:((1:Nat):Int)=1:=rfl
  have q2:((2:Nat):Int)=2:=rfl
  have q3:((3:Nat):Int)=3:=rfl
  have q4:((4:Nat):Int)=4:=rfl
  have q5:((5:Nat):Int)=5:=rfl
  obtain⟨j,hj⟩: ∃j:Int,j=(i:Int):=⟨_,rfl⟩
  obtain⟨k,hk⟩: ∃k,k=i:=⟨_,rfl⟩
  obtain⟨mk,hmk⟩: ∃n,m i=n:=⟨_,rfl⟩
  have hmi:mk≤1073741824:=by rw[←hmk];exact hm i
  have hC:=fun(q:Nat) (h1:i<5) (h:q<mk)=>wrC_at m h1 (q:=q) (by rw[hmk];exact h)
  have hG:=fun(q:Nat) (h1:i<5) (h:q<70)=>grC_at m h1 (q:=q) h
  rw[hmk] at hG
  have hi:i=5∨i=0∨i=1∨i=2∨i=3∨i=4:=by omega
  rcases hi with rfl|hi
  ·simp only[bQ,reduceEqDiff,reduceLT,reduceAdd,↓reduceIte,reduceToNat,ctS,q5]
   refine⟨fun h=>absurd h (by simp),fun _=> ?_⟩
   rw[←hK]
   simp only[bQ,↓reduceIte]
  rcases hi with rfl|rfl|rfl|rfl|rfl
  all_goals
   simp only[bQ,reduceEqDiff,reduceLT,reduceAdd,↓reduceIte,reduceToNat,ctS,wrC_len,hmk,q0,q1,q2,q3,q4,q5]
   refine⟨fun _=>⟨by omega,by omega,?_⟩,fun h=>absurd h (by simp)⟩
   generalize hK2:Kseq _ _ _ _=K3
   refine LoopC.intro (α:=Nat) (fun q=>q≤mk) (fun q=>ctS [(11, .i q),(10, .i mk),(9, .i j),(3, .op 0 0),(4, .op 1 0)] m N) (fun q=>mk-q) 0 (Nat.zero_le _) ?_ ?_
   ·simp only[bQ,reduceEqDiff,↓reduceIte,reduceCtorEq,ctS]
    exact⟨⟨rfl,hj.symm⟩,Nat.le_refl _⟩
   ·intro q hq
    simp only[bQ,reduceEqDiff,reduceLT,reduceAdd,↓reduceIte,reduceToNat,ctS,wrC_len,hmk,hj,q0,q1,q2,q3,q4,q5]
    refine⟨fun h=> ?_,fun h=> ?_⟩
    ·have hq2:q<mk:=by have:=of_decide_eq_true h;omega
     refine⟨by omega,by omega,by omega,by omega,by constructor<;>omega,fun h=> ?_,fun _=>⟨by constructor<;>omega,Again.intro (q+1) (by omega) (by omega) ?_⟩⟩
     ·rw[hC q (by omega) hq2] at h
      exact absurd h (by decide)
     ·simp only[bQ,reduceEqDiff,↓reduceIte,reduceCtorEq]
      exact⟨rfl,Nat.le_refl _⟩
    ·have hq2:q=mk:=by have:=of_decide_eq_false h;omega
     rw[←hK2,hq2]
     simp only[bQ]
     generalize hK4:Kseq _ _ _ _=K5
     refine LoopC.intro (α:=Nat) (fun q=>q≤70) (fun q=>ctS [(12, .i q),(10, .i mk),(9, .i j),(3, .op 0 0),(4, .op 1 0)] m N) (fun q=>70-q) 0 (Nat.zero_le _) ?_ ?_
     ·simp only[bQ,reduceEqDiff,↓reduceIte,reduceCtorEq,ctS]
      exact⟨⟨rfl,hj.symm⟩,Nat.le_refl _⟩
     ·clear hq2 hq h q
      intro q hq
      simp only[bQ,reduceEqDiff,reduceLT,reduceAdd,↓reduceIte,reduceCtorEq,reduceToNat,ctS,grC_len,hmk,hj,q0,q1,q2,q3,q4,q5]
      refine⟨fun h=> ?_,fun h=> ?_⟩
      ·have hq2:q<70:=by have:=of_decide_eq_true h;omega
       have hn:((mk:Int)+(q:Int)).toNat=mk+q:=by omega
       simp only[hn,hG q (by omega) hq2]
       refine⟨by omega,by omega,by constructor<;>omega,by omega,by omega,by constructor<;>omega,fun h=>absurd h (by decide),fun _=>⟨by constructor<;>omega,Again.intro (q+1) (by omega) (by omega) ?_⟩⟩
       simp only[bQ,reduceEqDiff,↓reduceIte,reduceCtorEq]
       exact⟨rfl,Nat.le_refl _⟩
      ·have hq2:q=70:=by have:=of_decide_eq_false h;omega
       rw[←hK4,hq2]
       simp only[bQ,reduceEqDiff,↓reduceIte]
       refine⟨by constructor<;>omega,Again.intro (k+1) (by omega) (by omega) ?_⟩
       simp only[bQ,reduceEqDiff,reduceAdd,↓reduceIte,reduceCtorEq,hk]
       exact⟨rfl,Nat.le_refl _⟩
def Zh (hv:Nat→Value) (ct:Nat→List UInt8):List (Value×List UInt8):=(List.range 5).map fun j=>(hv j,ct j)
def Zg (gv:Nat→Value) (ct:Nat→List UInt8) (i:Nat):List (Value×List UInt8):=(List.range i).map fun j=>(gv j,ct j++List.replicate 70 (moC j))
theorem mem_Zh {hv:Nat→Value} {ct:Nat→List UInt8} {z:Value×List UInt8}:z∈Zh hv ct↔ ∃j,j<5∧z=(hv j,ct j):=by
 unfold Zh
 rw[List.mem_map]
 constructor
 ·rintro⟨j,hj,rfl⟩;exact⟨j,List.mem_range.1 hj,rfl⟩
 ·rintro⟨j,hj,rfl⟩;exact⟨j,List.mem_range.2 hj,rfl⟩
theorem mem_Zg {gv:Nat→Value} {ct:Nat→List UInt8} {i:Nat} {z:Value×List UInt8}:z∈Zg gv ct i↔ ∃j,j<i∧z=(gv j,ct j++List.replicate 70 (moC j)):=by
 unfold Zg
 rw[List.mem_map]
 constructor
 ·rintro⟨j,hj,rfl⟩;exact⟨j,List.mem_range.1 hj,rfl⟩
 ·rintro⟨j,hj,rfl⟩;exact⟨j,List.mem_range.2 hj,rfl⟩
abbrev hd0 (hv gv:Nat→Value) (N:Nat):S:=⟨[(3, .op 0 0),(4, .op 1 0)],[(0, .box 70 (.st [.val (hv 0), .val (hv 1), .val (hv 2), .val (hv 3), .val (hv 4)])),(1, .box 70 (.st [.val (gv 0), .val (gv 1), .val (gv 2), .val (gv 3), .val (gv 4)]))],N⟩
section
variable {x x0:Fx} {F:Cx} {w:World} {a:Act}
theorem sp_l2 (J:Inv) (hj:x0.J=J) (hn:x0.n=106) {N:Nat} {hv gv:Nat→Value} {ct:Nat→List UInt8} {Q:Exit→Act→World→Prop} (h:Lmb x0 (Zh hv ct) x F w) (hs:Sat x (hd0 hv gv N) F a w) (hN:2≤N) (hl: ∀j,j<5→(ct j).length≤1073741824)
  (hsep: ∀j k,j<5→k<5→ ∀b,(hv j).ownBlock=some b→(hv k).ownBlock=some b→j=k) (hlt: ∀j,j<5→ ∀b,(hv j).ownBlock=some b→b<x0.w.heap.size)
  (hQ: ∀x F a w gv N,2≤N→Lmb x0 (Zh hv ct++Zg gv ct 5) x F w→Sat x (hd0 hv gv N) F a w→Q .normal a w):pA2.wp Tryz.prog Q a w:=by
 have hm:Tryz.prog.follows .mixedOrders=true:=by kernel_rfl
 rw[pA2_eq]
 refine wp_seq ?_
 refine piece (G:=SG J N) h.root hs (SG_ok J N) (h.root.j.trans hj) rfl hm (by rw[h.root.n,hn];kernel_rfl) (K:=⟨fun s'=>Sub s' (hdI 0 hv gv N),fun _=>False,[]⟩) ?_ (fun x1 r1 hj1 hn1 hw hX hC hF=>⟨fun s' F1 a1 w1 hsub hs1=> ?_,fun _ _ _ _ h=>h.elim,fun _ _ h=>by simp[exGet] at h⟩)
 ·simp only[pA2,pB,sL,sR,Tryz.f22,Option.getD_some]
  simp only[bQ,reduceEqDiff,↓reduceIte,reduceCtorEq,SG,hd0,hdI]
  first|rfl|exact⟨rfl,Nat.le_refl _⟩|exact Nat.le_refl _
 have h1:=h.step hs r1 hw hX hF hs1
 have hs1:=hs1.sub hsub
 clear hs h hsub r1 hw hX hC hF hn1 hj1
 refine wp_block ?_
 refine wp_loop_ghost (fun n a w=> ∃i gv N x F,n=5-i∧i≤5∧2≤N∧Lmb x0 (Zh hv ct++Zg gv ct i) x F w∧Sat x (hdI i hv gv N) F a w∧(∀j,j<i→ ∀b,(gv j).ownBlock=some b→(hv j).ownBlock=some b∨x0.w.heap.size≤b))
  5 ⟨0,gv,N,x1,F1,rfl,by omega,hN,h1.sub (fun z hz=> ?_),hs1,fun j hj=>by omega⟩ ?_
 ·rcases List.mem_append.1 hz with hz|hz
  ·exact hz
  ·obtain⟨j,hj,_⟩:=mem_Zg.1 hz;omega
 clear hs1 h1 hN
 rintro n a w ⟨i,gv,N,x,F,rfl,hi,hN,h,hs,hg⟩
 rw[pL2_eq]
 refine wp_seq ?_
 refine piece (G:=SG J N) h.root hs (SG_ok J N) (h.root.j.trans hj) rfl hm (by rw[h.root.n,hn];kernel_rfl) (K:=⟨fun s'=>Sub s' (hdI i hv gv N)∧i<5,fun _=>False,[(4,fun s'=>Sub s' (hdI i hv gv N)∧i=5)]⟩) ?_ (fun x1 r1 hj1 hn1 hw hX hC hF=>⟨fun s' F1 a1 w1 hsub hs1=> ?_,fun _ _ _ _ h=>h.elim,fun id k hid s' F1 a1 w1 hsub hs1=> ?_⟩)
 ·simp only[pL2,pA2,pB,sL,sR,Tryz.f22,Option.getD_some]
  simp only[bQ,reduceEqDiff,↓reduceIte,reduceCtorEq,SG,hdI]
  refine⟨fun h=>⟨Nat.le_refl _,?_⟩,fun h=>⟨Nat.le_refl _,?_⟩⟩
  ·simp only[decide_eq_true_eq] at h;omega
  ·simp only[decide_eq_false_iff_not] at h;omega
 ·obtain⟨hsub,hi2⟩:=hsub
  have h1:=h.step hs r1 hw hX hF hs1
  have hs1:=hs1.sub hsub
  clear hs h hsub r1 hw hX hC hF hn1 hj1
  show(Code.seq (.block 5 pI) (sR (sR pL2))).wp Tryz.prog _ a1 w1
  refine wp_seq (wp_block ?_)
  refine sp_grow J hj hn (l:=ct i) h1 (List.mem_append_left _ (mem_Zh.2 ⟨i,hi2,rfl⟩)) hs1 hN hi2 (hl i hi2) (fun z hz b hb hb'=> ?_) fun x F a w gv' N hN h hs hg' hne=> ?_
  ·rcases List.mem_append.1 hz with hz|hz
   ·obtain⟨j,hj,rfl⟩:=mem_Zh.1 hz
    obtain rfl:=hsep j i hj hi2 b hb hb'
    exact Nat.le_refl _
   ·obtain⟨j,hj,rfl⟩:=mem_Zg.1 hz
    rcases hg j hj b hb with h2|h2
    ·have:=hsep j i (by omega) hi2 b h2 hb';omega
    ·have:=hlt i hi2 b hb';omega
  clear h1 hs1
  show(sR (sR pL2)).wp Tryz.prog _ a w
  refine piece (G:=SG J N) h.root hs (SG_ok J N) (h.root.j.trans hj) rfl hm (by rw[h.root.n,hn];kernel_rfl) (K:=⟨fun s'=>Sub s' (hdI (i+1) hv gv' N),fun _=>False,[]⟩) ?_ (fun x1 r1 hj1 hn1 hw hX hC hF=>⟨fun s' F1 a1 w1 hsub hs1=> ?_,fun _ _ _ _ h=>h.elim,fun _ _ h=>by simp[exGet] at h⟩)
  ·simp only[pL2,pA2,pB,sL,sR,Tryz.f22,Option.getD_some]
   simp only[bQ,reduceEqDiff,↓reduceIte,reduceCtorEq,SG,hdI]
   refine⟨by constructor<;>omega,by omega,Nat.le_refl _⟩
  ·have h1:=h.step hs r1 hw hX hF hs1
   refine⟨5-(i+1),by omega,i+1,gv',N,x1,F1,rfl,by omega,hN,h1.sub (fun z hz=> ?_),hs1.sub hsub,fun j hj b hb=> ?_⟩
   ·rcases List.mem_append.1 hz with hz|hz
    ·exact List.mem_cons_of_mem _ (List.mem_append_left _ hz)
    ·obtain⟨j,hj,rfl⟩:=mem_Zg.1 hz
     by_cases e:j=i
     ·subst e;exact List.mem_cons_self ..
     ·rw[hne j e]
      exact List.mem_cons_of_mem _ (List.mem_append_right _ (mem_Zg.2 ⟨j,by omega,rfl⟩))
   ·by_cases e:j=i
    ·subst e;exact hg' b hb
    ·rw[hne j e] at hb
     exact hg j (by omega) b hb
 ·simp only[exGet] at hid
  split at hid
  ·rename_i e;subst e
   obtain rfl:=Option.some.inj hid
   obtain⟨hsub,rfl⟩:=hsub
   have h1:=h.step hs r1 hw hX hF hs1
   exact hQ x1 F1 a1 w1 gv N hN h1 ((hs1.sub hsub).sub (by simp only[bQ,reduceEqDiff,↓reduceIte,reduceCtorEq,hd0,hdI];exact Nat.le_refl _))
  ·cases hid
theorem sp_rest (J:Inv) (hj:x0.J=J) (hn:x0.n=106) {s n e y z:List UInt8} {Q:Exit→Act→World→Prop} (h1:s.length≤1073741824) (h2:n.length≤1073741824) (h3:e.length≤1073741824) (h4:y.length≤1073741824) (h5:z.length≤1073741824) (hs:Sat x0 (spS1 s n e y z) F a w)
  (hQ: ∀s F a w,RetK Tryz.f22.results.toList (.bb true) (fun _=>True) s→Sat x0 s F a w→Q .ret a w):(Code.seq pA1 (.seq pA2 pA3)).wp Tryz.prog Q a w:=by
 have hm:Tryz.prog.follows .mixedOrders=true:=by kernel_rfl
 refine wp_seq ?_
 refine piece (G:=SG J 7) (Root.refl x0) hs (SG_ok J 7) hj rfl hm (by rw[hn];kernel_rfl) (sp_l1 J (five s n e y z) fun i=>by
  match i with
  |0=>exact h1
  |1=>exact h2
  |2=>exact h3
  |3=>exact h4
  |i+4=>exact h5) (fun x1 r1 hj1 hn1 hw hX hC hF=>⟨fun s' F1 a1 w1 hsub hs1=> ?_,fun _ _ _ _ h=>h.elim,fun _ _ h=>by simp[exGet] at h⟩)
 have hs1:Sat x0 (spS1 (mkC 0 s) (mkC 1 n) (mkC 2 e) (mkC 3 y) (mkC 4 z)) F1 a1 w1:=(r1.sat hs1).sub hsub
 clear hs hsub r1 hw hX hC hF hn1 hj1
 obtain⟨m,hmm⟩: ∃m,five s.length n.length e.length y.length z.length=m:=⟨_,rfl⟩
 have hml: ∀j,m j≤1073741824:=fun j=>by
  rw[←hmm]
  match j with
  |0=>exact h1
  |1=>exact h2
  |2=>exact h3
  |3=>exact h4
  |j+4=>exact h5
 have m0:mkC 0 s=wrC m 0:=by rw[←hmm];rfl
 have m1:mkC 1 n=wrC m 1:=by rw[←hmm];rfl
 have m2:mkC 2 e=wrC m 2:=by rw[←hmm];rfl
 have m3:mkC 3 y=wrC m 3:=by rw[←hmm];rfl
 have m4:mkC 4 z=wrC m 4:=by rw[←hmm];rfl
 simp only[m0,m1,m2,m3,m4] at hs1
 clear hmm m0 m1 m2 m3 m4
 have hr: ∀j,j<5→Hroot (spH (wrC m 0) (wrC m 1) (wrC m 2) (wrC m 3) (wrC m 4)) (j+2)=some (.row 5 (.by (wrC m j))):=fun j hj=>by
  have:j=0∨j=1∨j=2∨j=3∨j=4:=by omega
  rcases this with rfl|rfl|rfl|rfl|rfl<;>rfl
 have hr2: ∀j,j<5→Hroot (spS1 (wrC m 0) (wrC m 1) (wrC m 2) (wrC m 3) (wrC m 4)).h (j+2)=some (.row 5 (.by (wrC m j))):=fun j hj=>by
  have:j=0∨j=1∨j=2∨j=3∨j=4:=by omega
  rcases this with rfl|rfl|rfl|rfl|rfl<;>rfl
 have hx: ∀j,∃v,j<5→F1.W (.r (j+2))=some v:=fun j=>by
  by_cases hj:j<5
  ·obtain⟨v,q1,_⟩:=row_head hs1 (hr2 j hj)
   exact⟨v,fun _=>q1⟩
  ·exact⟨.nilIface,fun h=>absurd h hj⟩
 obtain⟨hv,hW⟩:=Classical.axiomOfChoice hx
 have hcell: ∀j v,j<5→Rep w1 F1 (.ro (.r (j+2))) v→Rep w1 F1 (.val (hv j)) v:=fun j v hj h=>by
  have h6:=rep_ro h
  rw[hW j hj] at h6
  obtain rfl:=Option.some.inj h6
  exact .val _
 have hs2:=hs1.cells (k:=0) (us:=[.val (hv 0), .val (hv 1), .val (hv 2), .val (hv 3), .val (hv 4)]) rfl rfl (fun j v hj h=>by
  have:j=0∨j=1∨j=2∨j=3∨j=4:=by
   have:j<5:=hj
   omega
  rcases this with rfl|rfl|rfl|rfl|rfl
  ·exact hcell 0 v (by omega) h
  ·exact hcell 1 v (by omega) h
  ·exact hcell 2 v (by omega) h
  ·exact hcell 3 v (by omega) h
  ·exact hcell 4 v (by omega) h)
 have hnil: ∀j,(fun _:Nat=>Value.slice none 0 0) j=Value.slice none 0 0:=fun _=>rfl
 have hsep: ∀j k,j<5→k<5→ ∀b,(hv j).ownBlock=some b→(hv k).ownBlock=some b→j=k:=fun j k hj hk b hb hb'=>by
  have:=row_sep hs1 (hr2 j hj) (hr2 k hk) (hW j hj) (hW k hk) hb hb'
  omega
 have hlt: ∀j,j<5→ ∀b,(hv j).ownBlock=some b→b<w1.heap.size:=fun j hj b hb=>by
  obtain⟨v,q1,_,q3⟩:=row_head hs1 (hr2 j hj)
  rw[hW j hj] at q1
  obtain rfl:=Option.some.inj q1
  exact(q3 b hb).2
 obtain⟨r2,x2,hs3,h3⟩:=Lmb.enter (Z:=Zh hv (wrC m)) (h':=(hd0 hv (fun _=> .slice none 0 0) 7).h) hs2 (by simp[subH,Hroot]) (fun q hq=>by
  obtain⟨j,hj,rfl⟩:=mem_Zh.1 hq
  refine⟨j+2,?_,?_,hW j hj⟩
  ·have:j=0∨j=1∨j=2∨j=3∨j=4:=by omega
   rcases this with rfl|rfl|rfl|rfl|rfl<;>rfl
  ·have:j=0∨j=1∨j=2∨j=3∨j=4:=by omega
   rcases this with rfl|rfl|rfl|rfl|rfl<;>rfl)
 clear hs1 hs2 hcell hx hr hr2
 refine wp_seq ?_
 refine sp_l2 J (r2.j.trans hj) (r2.n.trans hn) (gv:=fun _=> .slice none 0 0) (N:=7) h3 hs3 (by omega) (fun j hj=>by rw[wrC_len];exact hml j) hsep hlt fun x F a w gv N hN h hs=> ?_
 obtain⟨x6,F6,r6,hs6,hrep⟩:=h.read hs
 have rh: ∀j v,j<5→Rep w F6 (.val (hv j)) v→Rep w F6 (.by (wrC m j)) v:=fun j v hj h=>by
  rw[rep_val h]
  exact hrep (hv j,wrC m j) (List.mem_append_left _ (mem_Zh.2 ⟨j,hj,rfl⟩))
 have rg: ∀j v,j<5→Rep w F6 (.val (gv j)) v→Rep w F6 (.by (grC m j)) v:=fun j v hj h=>by
  rw[rep_val h]
  exact hrep (gv j,grC m j) (List.mem_append_right _ (mem_Zg.2 ⟨j,hj,rfl⟩))
 have hs7:=hs6.cells (k:=0) (us:=[.by (wrC m 0), .by (wrC m 1), .by (wrC m 2), .by (wrC m 3), .by (wrC m 4)]) rfl rfl (fun j v hj h=>by
  have:j=0∨j=1∨j=2∨j=3∨j=4:=by
   have:j<5:=hj
   omega
  rcases this with rfl|rfl|rfl|rfl|rfl
  ·exact rh 0 v (by omega) h
  ·exact rh 1 v (by omega) h
  ·exact rh 2 v (by omega) h
  ·exact rh 3 v (by omega) h
  ·exact rh 4 v (by omega) h)
 have hs8:=hs7.cells (k:=1) (us:=[.by (grC m 0), .by (grC m 1), .by (grC m 2), .by (grC m 3), .by (grC m 4)]) rfl rfl (fun j v hj h=>by
  have:j=0∨j=1∨j=2∨j=3∨j=4:=by
   have:j<5:=hj
   omega
  rcases this with rfl|rfl|rfl|rfl|rfl
  ·exact rg 0 v (by omega) h
  ·exact rg 1 v (by omega) h
  ·exact rg 2 v (by omega) h
  ·exact rg 3 v (by omega) h
  ·exact rg 4 v (by omega) h)
 have hs9:=hs8.sub (t:=ctS [(3, .op 0 0),(4, .op 1 0)] m N) (by simp only[bQ,reduceEqDiff,↓reduceIte,reduceCtorEq,ctS];exact Nat.le_refl _)
 refine piece (G:=SG J N) r6 hs9 (SG_ok J N) (r6.j.trans (r2.j.trans hj)) rfl hm (by rw[r6.n,r2.n,hn];kernel_rfl) (sp_l3 J m hml N) (fun x7 r7 hj1 hn1 hw hX hC hF=>⟨fun _ _ _ _ h=>h.elim,fun s' F' a' w' hr hs'=>hQ s' F' a' w' hr (r2.sat (r7.sat hs')),fun _ _ h=>by simp[exGet] at h⟩)
end
end Go.Proofs.YtfengpdaocgcnaaGreatDoor
