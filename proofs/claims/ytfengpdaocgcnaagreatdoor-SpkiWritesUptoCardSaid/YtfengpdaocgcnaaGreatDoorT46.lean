/- The reference's curves: sums and products; is a point on the curve; the point of two coordinates. The reference's keys: is it a right key?. The document's Print. -/
import Derived.Test.YtfengpdaocgcnaaGreatDoorT45
import Derived.Test.YtfengpdaocgcnaaGreatDoorT42
namespace Go.Proofs.YtfengpdaocgcnaaGreatDoor
open Nat (reduceMul reduceLeDiff reduceEqDiff reduceLT reduceAdd reduceSub reduceDiv)
open Int (reduceToNat reducePow)
open Go.RowKit
set_option linter.unusedSimpArgs false
set_option maxRecDepth 100000
theorem crvP_l (c:Int):(dg (crvP c)).length≤100:=by unfold crvP;split;exact p256_l;exact p384_l
theorem crvP_l3 (c:Int):3≤(dg (crvP c)).length:=by unfold crvP;split;exact p256_l3;exact p384_l3
theorem crvB_l (c:Int):(dg (crvB c)).length≤100:=by unfold crvB;split;exact b256_l;exact b384_l
theorem crvP_2 (c:Int):2≤crvP c:=by
 rcases Nat.lt_or_ge (crvP c) 2 with h|h
 ·have h1:=dg_len (n:=crvP c) (k:=1) (by omega)
  have h2:=crvP_l3 c
  omega
 ·exact h
theorem crvP_S (c:Int):S7 (dg (crvP c)):= .dg (by have:=crvP_l c;omega)
theorem crv_S (c:Int) (x:Nat):S7 (dg (x%crvP c)):= .lt (Nat.mod_lt x (by have:=crvP_2 c;omega)) (by have:=crvP_l c;omega)
theorem crvB_S (c:Int):S7 (dg (crvB c)):= .dg (by have:=crvB_l c;omega)
def RGaf:FuncId→List V→CR:=fun f args=>tab [(171,cI .i64 fun c=>cF [c=1∨c=2] false (wV (dg (crvP c)))),
 (218,cW fun a=>cW fun b=>cW fun m=>cF [S7 a,S7 b,S7 m,2≤vl m] false (.tu [wV (dg ((vl a+vl b)%vl m)), .i 0])),
 (219,cW fun a=>cW fun b=>cW fun m=>cF [S7 a,S7 b,S7 m,2≤vl m] false (.tu [wV (dg (subM (vl a%vl m) (vl b%vl m) (vl m))), .i 0])),
 (220,cW fun a=>cW fun b=>cW fun m=>cF [S7 a,S7 b,S7 m,2≤vl m] false (.tu [wV (dg (vl a*vl b%vl m)), .i 0]))] noF f args
def RGa (J:Inv):Sig:=⟨J,sdf,RGaf,noH,0⟩
theorem RGa_ok (J:Inv):SigOk Tryz.prog (RGa J):= .plain (tab_ok (.c (.i fun c=> .z fun⟨c0,_⟩=>crv_field_fn J c c0)<|
 .c (.w fun a=> .w fun b=> .w fun m=> .z fun⟨c0,c1,c2,c3,_⟩=>add7_fn J a b m c0 c1 c2 c3)<|
 .c (.w fun a=> .w fun b=> .w fun m=> .z fun⟨c0,c1,c2,c3,_⟩=>sub7_fn J a b m c0 c1 c2 c3)<|
 .c (.w fun a=> .w fun b=> .w fun m=> .z fun⟨c0,c1,c2,c3,_⟩=>mul7_fn J a b m c0 c1 c2 c3)<| .n) noF_ok)
section
variable (J:Inv) (c:Int) (hc:c=1∨c=2) (x y:List Nat) (hx:S7 x) (hy:S7 y)
include hc hx hy
theorem add11_fn:Fn Tryz.prog J 172 false [.i c,wV x,wV y] (wV (dg ((vl x+vl y)%crvP c))):=by
 refine fnI Tryz.func172 rfl (by kernel_rfl) (wV_cl _) (RGa_ok J) ?_
 unfold Tryz.f172
 simp only[↓bE,bQ,reduceEqDiff,reduceLT,reduceAdd,↓reduceIte,reduceCtorEq,RGa,RGaf]
 exact⟨hc,hx,hy,crvP_S c,crvP_2 c⟩
theorem sub11_fn:Fn Tryz.prog J 173 false [.i c,wV x,wV y] (wV (dg (subM (vl x%crvP c) (vl y%crvP c) (crvP c)))):=by
 refine fnI Tryz.func173 rfl (by kernel_rfl) (wV_cl _) (RGa_ok J) ?_
 unfold Tryz.f173
 simp only[↓bE,bQ,reduceEqDiff,reduceLT,reduceAdd,↓reduceIte,reduceCtorEq,RGa,RGaf]
 exact⟨hc,hx,hy,crvP_S c,crvP_2 c⟩
theorem mul11_fn:Fn Tryz.prog J 174 false [.i c,wV x,wV y] (wV (dg (vl x*vl y%crvP c))):=by
 refine fnI Tryz.func174 rfl (by kernel_rfl) (wV_cl _) (RGa_ok J) ?_
 unfold Tryz.f174
 simp only[↓bE,bQ,reduceEqDiff,reduceLT,reduceAdd,↓reduceIte,reduceCtorEq,RGa,RGaf]
 exact⟨hc,hx,hy,crvP_S c,crvP_2 c⟩
end
def RGbf:FuncId→List V→CR:=fun f args=>tab [(171,cI .i64 fun c=>cF [c=1∨c=2] false (wV (dg (crvP c)))),
 (175,cI .i64 fun c=>cF [c=1∨c=2] false (wV (dg (crvB c)))),
 (172,cI .i64 fun c=>cW fun a=>cW fun b=>cF [c=1∨c=2,S7 a,S7 b] false (wV (dg ((vl a+vl b)%crvP c)))),
 (173,cI .i64 fun c=>cW fun a=>cW fun b=>cF [c=1∨c=2,S7 a,S7 b] false (wV (dg (subM (vl a%crvP c) (vl b%crvP c) (crvP c))))),
 (174,cI .i64 fun c=>cW fun a=>cW fun b=>cF [c=1∨c=2,S7 a,S7 b] false (wV (dg (vl a*vl b%crvP c)))),
 (169,cW fun l=>cF [l.length≤67108864,W32 l] false (wV (dg (vl l)))),
 (107,cI .i64 fun c=>cF [] false (.val (.int .i64 (crvS c)))),
 (170,cW fun a=>cW fun b=>cF [a.length≤67108864,b.length≤67108864,W32 a,W32 b] false (.i (cmp3 (vl a) (vl b))))] noF f args
def RGb (J:Inv):Sig:=⟨J,sdf,RGbf,noH,0⟩
theorem RGb_ok (J:Inv):SigOk Tryz.prog (RGb J):= .plain (tab_ok (.c (.i fun c=> .z fun⟨c0,_⟩=>crv_field_fn J c c0)<|
 .c (.i fun c=> .z fun⟨c0,_⟩=>crv_b_fn J c c0)<|
 .c (.i fun c=> .w fun a=> .w fun b=> .z fun⟨c0,c1,c2,_⟩=>add11_fn J c c0 a b c1 c2)<|
 .c (.i fun c=> .w fun a=> .w fun b=> .z fun⟨c0,c1,c2,_⟩=>sub11_fn J c c0 a b c1 c2)<|
 .c (.i fun c=> .w fun a=> .w fun b=> .z fun⟨c0,c1,c2,_⟩=>mul11_fn J c c0 a b c1 c2)<|
 .c (.w fun l=> .z fun⟨c0,c1,_⟩=>proper11_fn J l c0 c1)<|
 .c (.i fun c=> .z fun _=>size11_fn J c)<|
 .c (.w fun a=> .w fun b=> .z fun⟨c0,c1,c2,c3,_⟩=>cmp6_fn J a b c0 c1 c2 c3)<| .n) noF_ok)
theorem crvS_ne (c:Int) (hc:c=1∨c=2):(crvS c==0)=false:=by rcases hc with rfl|rfl<;>rfl
theorem vl_3:vl [3]=3:=vl_one 3
theorem unW_3:unW [V.val (.int .u32 3)]=[3]:=rfl
theorem on11_fn (J:Inv) (c:Int) (hc:c=1∨c=2) (x y:List Nat) (hx:S7 x) (hy:S7 y):Fn Tryz.prog J 109 false [.i c, .st [wV x,wV y, .bb false]] (.bb (crvOn (crvP c) (crvB c) (vl x) (vl y))):=by
 refine fnI Tryz.func109 rfl (by kernel_rfl) rfl (RGb_ok J) ?_
 unfold Tryz.f109
 have hz:=crvS_ne c hc
 simp only[↓bE,bQ,reduceMul,reduceLeDiff,reduceEqDiff,reduceLT,reduceAdd,↓reduceIte,reduceCtorEq,RGb,RGbf,hz]
 simp only[Br_f,unW_3,vl_3,cmp3_ge,cmp3_zero,Nat.mod_mod]
 have x1:=hx.l
 have x2:=hx.w
 have x3:=hx.n
 have y1:=hy.l
 have y2:=hy.w
 have y3:=hy.n
 have p1:=crvP_l c
 have x7:=S7.dg hx.n
 have y7:=S7.dg hy.n
 have p7:=crvB_S c
 have t7:=S7.one 3 (by omega)
 have t3:[V.val (.int .u32 3)]=wds [3]:=rfl
 have hp0:0<crvP c:=by have:=crvP_2 c;omega
 have hm: ∀v,(dg (v%crvP c)).length≤100:=fun v=>Nat.le_trans (dg_mono (Nat.le_of_lt (Nat.mod_lt v hp0))) p1
 have hm2: ∀v,(dg (v%crvP c)).length≤67108864:=fun v=>by have:=hm v;omega
 have hs7: ∀a b,S7 (dg (subM a b (crvP c))):=fun a b=>crv_S c _
 repeat (with_reducible refine And.intro ?_ ?_; · first|omega|assumption|exact crv_S c _|(intro _;first|omega|assumption)|exact hm2 _|exact hs7 _ _)
 refine⟨fun h=> ?_,fun h=> ?_⟩
 ·unfold crvOn
  rw[Bool.or_eq_true,decide_eq_true_eq,decide_eq_true_eq] at h
  rcases h with h|h
  ·rw[decide_eq_false (show ¬vl x<crvP c by omega),Bool.false_and]
  ·rw[decide_eq_false (show ¬vl y<crvP c by omega),Bool.false_and,Bool.and_false]
 ·rw[Bool.or_eq_false_iff,decide_eq_false_iff_not,decide_eq_false_iff_not] at h
  repeat (with_reducible refine And.intro ?_ ?_; · first|omega|assumption|exact crv_S c _|rfl|(intro _;first|omega|assumption)|exact hm2 _|exact hs7 _ _)
  unfold crvOn crvR
  rw[decide_eq_true (show vl x<crvP c by omega),decide_eq_true (show vl y<crvP c by omega),Bool.true_and,Bool.true_and,subM_gsub (Nat.mod_lt _ hp0)]
  rw[Bool.eq_iff_iff,decide_eq_true_eq,beq_iff_eq]
def RGcf:FuncId→List V→Option (List Prop×Bool×V):=fun f args=>
 if f=109 then match args with
  |[.val (.int .i64 c), .st [.sq 1 dx Lx, .sq 1 dy Ly, .bb b]]=>some ([c=1∨c=2,dx= .val (.int .u32 0),Lx=wds (unW Lx),dy= .val (.int .u32 0),Ly=wds (unW Ly),b=false,S7 (unW Lx),S7 (unW Ly)],false, .bb (crvOn (crvP c) (crvB c) (vl (unW Lx)) (vl (unW Ly))))
  |_=>none
 else none
def RGc (J:Inv):Sig:=⟨J,sdf,RGcf,noH,0⟩
theorem RGc_ok (J:Inv):SigOk Tryz.prog (RGc J):=by
 refine .plain fun f args l fr r h hl=> ?_
 change RGcf f args=some (l,fr,r) at h
 unfold RGcf at h
 split at h
 ·rename_i hf;subst hf
  split at h
  ·obtain⟨rfl,rfl,rfl⟩:=jsome_tri h
   rename_i c dx Lx dy Ly b
   have q0:c=1∨c=2:=hl _ (by simp)
   have q1:dx= .val (.int .u32 0):=hl _ (by simp)
   have q2:Lx=wds (unW Lx):=hl _ (by simp)
   have q3:dy= .val (.int .u32 0):=hl _ (by simp)
   have q4:Ly=wds (unW Ly):=hl _ (by simp)
   have q5:b=false:=hl _ (by simp)
   subst q1 q3 q5
   have hp:=on11_fn J c q0 (unW Lx) (unW Ly) (hl _ (by simp)) (hl _ (by simp))
   unfold wV at hp
   rw[←q2,←q4] at hp
   exact hp
  ·exact absurd h (by simp)
 ·exact absurd h (by simp)
def RGdf:FuncId→List V→CR:=fun f args=>tab [(107,cI .i64 fun c=>cF [] false (.val (.int .i64 (crvS c)))),
 (108,cY fun b=>cF [b.length≤67108864] false (wV (dg (nb b))))] RGcf f args
def RGd (J:Inv):Sig:=⟨J,sdf,RGdf,noH,0⟩
theorem RGd_ok (J:Inv):SigOk Tryz.prog (RGd J):= .plain (tab_ok (.c (.i fun c=> .z fun _=>size11_fn J c)<|
 .c (.y fun b=> .z fun⟨c0,_⟩=>fromBytes6_fn J b c0)<| .n) (RGc_ok J).1)
theorem cdec11_ok (J:Inv) (c:Int) (hc:c=1∨c=2) (x y:List UInt8) (hx:(x.length:Int)=crvS c) (hy:(y.length:Int)=crvS c) (o:Bool) (ho:crvOn (crvP c) (crvB c) (nb x) (nb y)=o):Fn Tryz.prog J 65 false [.i c, .by x, .by y] (.tu [crvPt o x y, .i (crvCo o)]):=by
 refine Fn.of_plain (nx:=10) (post:=[]) ?_ (by have:=crvPt_cl o x y;simp[V.cl,clL,V.i,this])
 refine fnC Tryz.func65 rfl (by kernel_rfl) (RGd_ok J) rfl ?_
 unfold Tryz.f65
 have hz:=crvS_ne c hc
 have h48:crvS c≤48:=by rcases hc with rfl|rfl<;>decide
 have e1:((x.length:Int)==crvS c)=true:=by rw[beq_iff_eq];exact hx
 have e2:((y.length:Int)==crvS c)=true:=by rw[beq_iff_eq];exact hy
 have lx:=nb_dg_len x
 have ly:=nb_dg_len y
 have sx:S7 (dg (nb x)):= .dg (by omega)
 have sy:S7 (dg (nb y)):= .dg (by omega)
 simp only[↓bD,bQ,reduceLeDiff,reduceEqDiff,reduceLT,reduceAdd,↓reduceIte,reduceCtorEq,RGd,RGdf,RGcf,hz,e1,e2,ho]
 refine⟨by omega,by omega,hc,sx,sy,fun h=> ?_,fun h=> ?_⟩
 ·obtain rfl:o=false:=by simpa using h
  refine .inl ?_
  simp only[bQ,reduceLeDiff,reduceEqDiff,reduceLT,reduceAdd,↓reduceIte,crvPt,crvCo]
 ·obtain rfl:o=true:=by simpa using h
  refine .inl ?_
  simp only[bQ,reduceLeDiff,reduceEqDiff,reduceLT,reduceAdd,↓reduceIte,crvPt,crvCo]
theorem cdec11_no (J:Inv) (c:Int) (x y:List UInt8) (h:crvS c=0∨(x.length:Int)≠crvS c∨(y.length:Int)≠crvS c):Fn Tryz.prog J 65 false [.val (.int .i64 c), .by x, .by y] (.tu [crvPt false x y, .i (crvCo false)]):=by
 refine Fn.of_plain (nx:=10) (post:=[]) ?_ (by have:=crvPt_cl false x y;simp[V.cl,clL,V.i,this])
 refine fnC Tryz.func65 rfl (by kernel_rfl) (RGd_ok J) rfl ?_
 unfold Tryz.f65
 have hall:(crvS c==0|| !((x.length:Int)==crvS c)|| !((y.length:Int)==crvS c))=true:=by
  rcases h with h|h|h
  ·rw[h];rfl
  ·rw[beq_eq_false_iff_ne.2 h];simp
  ·rw[beq_eq_false_iff_ne.2 h];simp
 simp only[↓bD,bQ,reduceLeDiff,reduceEqDiff,reduceLT,reduceAdd,↓reduceIte,reduceCtorEq,RGd,RGdf,hall]
 refine .inl ?_
 simp only[bQ,reduceLeDiff,reduceEqDiff,reduceLT,reduceAdd,↓reduceIte,crvPt,crvCo]
theorem crvOk_S (c:Int) (hc:c=1∨c=2) (x y:List UInt8):crvOk c x y=gOk (crvP c) (crvB c) (crvS c).toNat x y:=by
 rcases hc with rfl|rfl<;>rfl
theorem cdecode11_fn (J:Inv) (c:Int) (x y:List UInt8):Fn Tryz.prog J 65 false [.val (.int .i64 c), .by x, .by y] (.tu [crvPt (crvOk c x y) x y, .i (crvCo (crvOk c x y))]):=by
 by_cases hc:c=1∨c=2
 ·have hS:crvS c=((crvS c).toNat:Int):=by rcases hc with rfl|rfl<;>rfl
  rw[crvOk_S c hc]
  unfold gOk
  by_cases h1:x.length=(crvS c).toNat
  ·by_cases h2:y.length=(crvS c).toNat
   ·rw[decide_eq_true h1,decide_eq_true h2,Bool.true_and,Bool.true_and]
    exact cdec11_ok J c hc x y (by omega) (by omega) _ rfl
   ·rw[decide_eq_false h2,Bool.false_and,Bool.and_false]
    exact cdec11_no J c x y (.inr (.inr (by omega)))
  ·rw[decide_eq_false h1,Bool.false_and]
   exact cdec11_no J c x y (.inr (.inl (by omega)))
 ·have h1: ¬c=1:=fun h=>hc (.inl h)
  have h2: ¬c=2:=fun h=>hc (.inr h)
  have ho:crvOk c x y=false:=by unfold crvOk;rw[if_neg h1,if_neg h2]
  rw[ho]
  exact cdec11_no J c x y (.inl (by unfold crvS;rw[if_neg h1,if_neg h2]))
set_option linter.unusedSectionVars false
theorem number14_fn (J:Inv) (n e:List UInt8) (hn:n.length≤67108864) (he:e.length≤67108864):Fn Tryz.prog J 64 false [.by n, .by e] (.bb (numKy n e)):=by
 refine fnI Tryz.func64 rfl (by kernel_rfl) rfl (S0_ok J) ?_
 unfold Tryz.f64
 simp only[bQ,reduceEqDiff,reduceLT,reduceAdd,↓reduceIte,reduceCtorEq,reduceToNat,S0]
 have b0:=byteAt_lo n ((n.length:Int)-1).toNat
 have b1:=byteAt_lo e ((e.length:Int)-1).toNat
 have hN: ∀z:Bool,nkA n=true∨(nkA n=false∧nkB n=true)∨(nkA n=false∧nkB n=false∧nkC e=true)∨(nkA n=false∧nkB n=false∧nkC e=false∧nkD e=z)→numKy n e=if nkA n||nkB n||nkC e then false else z:=fun z h=>by
  unfold numKy
  rcases h with h|⟨h,h2⟩|⟨h,h2,h3⟩|⟨h,h2,h3,h4⟩<;>simp[*]
 repeat (with_reducible refine And.intro ?_ ?_; · first|omega|(intro h;simp only[Bool.or_eq_false_iff,beq_eq_false_iff_ne,ne_eq,decide_eq_false_iff_not] at h;first|omega|(constructor<;>omega)))
 refine⟨fun h=> ?_,fun h=> ?_⟩
 ·have ha:nkA n=true:=h
  unfold numKy
  rw[ha];rfl
 ·have ha:nkA n=false:=h
  clear hN
  refine⟨fun _=>by omega,fun h2=>by rw[beq_iff_eq] at h2;omega,fun h2=> ?_,fun h2=> ?_⟩
  ·have hb:nkB n=true:=h2
   unfold numKy
   rw[hb];simp
  ·have hb:nkB n=false:=h2
   repeat (with_reducible refine And.intro ?_ ?_; · first|omega|(intro h;simp only[Bool.or_eq_false_iff,beq_eq_false_iff_ne,ne_eq,decide_eq_false_iff_not] at h;first|omega|(constructor<;>omega)))
   refine⟨fun h3=> ?_,fun h3=> ?_⟩
   ·have hc:nkC e=true:=h3
    unfold numKy
    rw[hc];simp
   ·have hc:nkC e=false:=h3
    have he0:0<e.length:=by
     unfold nkC at hc
     simp only[Bool.or_eq_false_iff,beq_eq_false_iff_ne,ne_eq,decide_eq_false_iff_not] at hc
     omega
    refine⟨fun _=>by omega,fun _=>by omega,?_⟩
    unfold numKy
    rw[ha,hb,hc];rfl
theorem unB4 (a b c d:List UInt8):((a.length:Int)+b.length+c.length+d.length==0)=unB [a,b,c,d]:=by
 unfold unB
 rw[Bool.eq_iff_iff,beq_iff_eq,decide_eq_true_eq]
 simp only[lnB,List.map_cons,List.map_nil,List.sum_cons,List.sum_nil]
 omega
theorem unB3 (a b c:List UInt8):((a.length:Int)+b.length+c.length==0)=unB [a,b,c]:=by
 unfold unB
 rw[Bool.eq_iff_iff,beq_iff_eq,decide_eq_true_eq]
 simp only[lnB,List.map_cons,List.map_nil,List.sum_cons,List.sum_nil]
 omega
theorem unB4n (a b c d:List UInt8):decide (0<(a.length:Int)+b.length+c.length+d.length)= !unB [a,b,c,d]:=by
 unfold unB
 rw[Bool.eq_iff_iff,decide_eq_true_eq,Bool.not_eq_true',decide_eq_false_iff_not]
 simp only[lnB,List.map_cons,List.map_nil,List.sum_cons,List.sum_nil]
 omega
def RKaf:FuncId→List V→CR:=fun f args=>tab [(64,cY fun n=>cY fun e=>cF [n.length≤67108864,e.length≤67108864] false (.bb (numKy n e))),
 (65,cI .i64 fun c=>cY fun x=>cY fun y'=>cF [] false (.tu [crvPt (crvOk c x y') x y', .i (crvCo (crvOk c x y'))])),
 (66,cY fun b=>cF [] false (.tu [edPt13 b, .i (edCo b)]))] noF f args
def RKa (J:Inv):Sig:=⟨J,sdf,RKaf,noH,0⟩
theorem RKa_ok (J:Inv):SigOk Tryz.prog (RKa J):= .plain (tab_ok (.c (.y fun n=> .y fun e=> .z fun⟨c0,c1,_⟩=>number14_fn J n e c0 c1)<|
 .c (.i fun c=> .y fun x=> .y fun y'=> .z fun _=>cdecode11_fn J c x y')<|
 .c (.y fun b=> .z fun _=>decode13_fn J b)<| .n) noF_ok)
section
variable (J:Inv) (crv:Int) (s n e x y:List UInt8) (hs:s.length≤16777216) (hn:n.length≤16777216) (he:e.length≤16777216) (hx:x.length≤16777216) (hy:y.length≤16777216)
include hs hn he hx hy
theorem right1_fn:Fn Tryz.prog J 38 false [keyV 1 crv s n e x y] (.bb (decide (crv=0)&&(decide (32≤s.length)&&(decide (s.length≤4096)&&unB [n,e,x,y])))):=by
 refine fnI Tryz.func38 rfl (by kernel_rfl) rfl (RKa_ok J) ?_
 unfold Tryz.f38
 simp only[↓bD,bQ,reduceEqDiff,reduceLT,reduceAdd,↓reduceIte,reduceCtorEq,RKa,keyV,unB4]
 refine⟨fun _=>by constructor<;>omega,fun _=>by constructor<;>omega,fun _=>by constructor<;>omega,?_⟩
 rw[←Bool.beq_eq_decide_eq,show decide (32≤(s.length:Int))=decide (32≤s.length) from decide_eq_decide.2 (by omega),show decide ((s.length:Int)≤4096)=decide (s.length≤4096) from decide_eq_decide.2 (by omega)]
 simp only[Bool.and_assoc]
theorem right2_fn:Fn Tryz.prog J 38 false [keyV 2 crv s n e x y] (.bb (decide (crv=0)&&(unB [s,x,y]&&decide (rsC n e=0)))):=by
 refine fnI Tryz.func38 rfl (by kernel_rfl) rfl (RKa_ok J) ?_
 unfold Tryz.f38
 simp only[↓bD,bQ,reduceEqDiff,reduceLT,reduceAdd,↓reduceIte,reduceCtorEq,RKa,RKaf,keyV,k_eq,unB3]
 refine⟨fun _=>by constructor<;>omega,fun _=>by constructor<;>omega,fun _=>by omega,fun _=>by omega,?_⟩
 rw[←Bool.beq_eq_decide_eq,numKy_eq]
 simp only[Bool.and_assoc]
theorem right3_fn (o:Bool) (ho:crvOk crv x y=o):Fn Tryz.prog J 38 false [keyV 3 crv s n e x y] (.bb (o&&unB [s,n,e])):=by
 refine fnI Tryz.func38 rfl (by kernel_rfl) rfl (RKa_ok J) ?_
 unfold Tryz.f38
 cases o
 ·simp only[↓bD,bQ,reduceLeDiff,reduceEqDiff,reduceLT,reduceAdd,↓reduceIte,reduceCtorEq,RKa,RKaf,keyV,k_eq,unB3,ho,crvPt,crvCo]
  exact⟨fun h=>h.elim,fun h=>h.elim⟩
 ·simp only[↓bD,bQ,reduceLeDiff,reduceEqDiff,reduceLT,reduceAdd,↓reduceIte,reduceCtorEq,RKa,RKaf,keyV,k_eq,unB3,ho,crvPt,crvCo]
  exact⟨fun _=>by constructor<;>omega,fun _=>by constructor<;>omega⟩
theorem right4_fn (o:Bool) (ho:edOk x=o):Fn Tryz.prog J 38 false [keyV 4 crv s n e x y] (.bb (decide (crv=3)&&(unB [s,n,e,y]&&o))):=by
 refine fnI Tryz.func38 rfl (by kernel_rfl) rfl (RKa_ok J) ?_
 unfold Tryz.f38
 cases o
 ·simp only[↓bD,bQ,reduceLeDiff,reduceEqDiff,reduceLT,reduceAdd,↓reduceIte,RKa,RKaf,keyV,k_eq,unB4n,ho,edPt13,edCo]
  exact⟨fun _=>by constructor<;>omega,fun _=>by constructor<;>omega,fun _=>by constructor<;>omega,fun _=>trivial,fun _=>trivial⟩
 ·simp only[↓bD,bQ,reduceLeDiff,reduceEqDiff,reduceLT,reduceAdd,↓reduceIte,RKa,RKaf,keyV,k_eq,unB4n,ho,edPt13,edCo]
  refine⟨fun _=>by constructor<;>omega,fun _=>by constructor<;>omega,fun _=>by constructor<;>omega,?_⟩
  rw[←Bool.beq_eq_decide_eq]
  generalize (crv==3)=a
  generalize unB [s,n,e,y]=u
  cases a<;>cases u<;>simp[Br]
end
theorem right0_fn (J:Inv) (kty crv:Int) (s n e x y:List UInt8) (h1:kty≠1) (h2:kty≠2) (h3:kty≠3) (h4:kty≠4):Fn Tryz.prog J 38 false [keyV kty crv s n e x y] (.bb false):=by
 have e1:(kty==1)=false:=by rw[beq_eq_false_iff_ne];exact h1
 have e2:(kty==2)=false:=by rw[beq_eq_false_iff_ne];exact h2
 have e3:(kty==3)=false:=by rw[beq_eq_false_iff_ne];exact h3
 have e4:(kty==4)=false:=by rw[beq_eq_false_iff_ne];exact h4
 refine fnI Tryz.func38 rfl (by kernel_rfl) rfl (RKa_ok J) ?_
 unfold Tryz.f38
 simp only[↓bD,bQ,reduceEqDiff,reduceLT,reduceAdd,↓reduceIte,RKa,keyV,e1,e2,e3,e4]
theorem rRight_fn (J:Inv) (kty crv:Int) (s n e x y:List UInt8) (hs:s.length≤16777216) (hn:n.length≤16777216) (he:e.length≤16777216) (hx:x.length≤16777216) (hy:y.length≤16777216):Fn Tryz.prog J 38 false [keyV kty crv s n e x y] (.bb (goodK kty crv s n e x y)):=by
 unfold goodK
 by_cases h1:kty=1
 ·rw[if_pos h1];subst h1;exact right1_fn J crv s n e x y hs hn he hx hy
 rw[if_neg h1]
 by_cases h2:kty=2
 ·rw[if_pos h2];subst h2;exact right2_fn J crv s n e x y hs hn he hx hy
 rw[if_neg h2]
 by_cases h3:kty=3
 ·rw[if_pos h3];subst h3;exact right3_fn J crv s n e x y hs hn he hx hy _ rfl
 rw[if_neg h3]
 by_cases h4:kty=4
 ·rw[if_pos h4];subst h4;exact right4_fn J crv s n e x y hs hn he hx hy _ rfl
 rw[if_neg h4]
 exact right0_fn J kty crv s n e x y h1 h2 h3 h4
theorem ky_kinds (k:Ky) (hg:k.good=true) (h1:k.kty≠1):(∃n e,k=⟨2,0,[],n,e,[],[]⟩∧rsC n e=0)∨(∃c x y,∃N:Nat,k=⟨3,c,[],[],[],x,y⟩∧(c=1∨c=2)∧sizeC c=N∧x.length=N∧y.length=N)∨(∃x,k=⟨4,3,[],[],[],x,[]⟩∧x.length=32):=by
 unfold Ky.good goodK at hg
 rw[if_neg h1] at hg
 rcases k with ⟨kty,crv,s,n,e,x,y⟩
 simp only at hg h1
 by_cases h2:kty=2
 ·subst h2
  rw[if_pos rfl] at hg
  simp only[Bool.and_eq_true,decide_eq_true_eq] at hg
  obtain⟨rfl,hu,hr⟩:=hg
  have hu:=un_nil hu
  obtain rfl:s=[]:=hu _ (by simp)
  obtain rfl:x=[]:=hu _ (by simp)
  obtain rfl:y=[]:=hu _ (by simp)
  exact .inl ⟨n,e,rfl,hr⟩
 rw[if_neg h2] at hg
 by_cases h3:kty=3
 ·subst h3
  rw[if_pos rfl] at hg
  simp only[Bool.and_eq_true] at hg
  obtain⟨ho,hu⟩:=hg
  have hu:=un_nil hu
  obtain rfl:s=[]:=hu _ (by simp)
  obtain rfl:n=[]:=hu _ (by simp)
  obtain rfl:e=[]:=hu _ (by simp)
  obtain⟨hc,hx,hy⟩:(crv=1∨crv=2)∧(x.length:Int)=sizeC crv∧(y.length:Int)=sizeC crv:=by
   unfold crvOk at ho
   split at ho
   ·rename_i hc;subst hc
    unfold gOk at ho
    simp only[Bool.and_eq_true,decide_eq_true_eq] at ho
    exact⟨.inl rfl,by rw[ho.1];rfl,by rw[ho.2.1];rfl⟩
   ·split at ho
    ·rename_i hc;subst hc
     unfold gOk at ho
     simp only[Bool.and_eq_true,decide_eq_true_eq] at ho
     exact⟨.inr rfl,by rw[ho.1];rfl,by rw[ho.2.1];rfl⟩
    ·cases ho
  exact .inr (.inl ⟨crv,x,y,x.length,rfl,hc,hx.symm,rfl,by omega⟩)
 rw[if_neg h3] at hg
 by_cases h4:kty=4
 ·subst h4
  rw[if_pos rfl] at hg
  simp only[Bool.and_eq_true,decide_eq_true_eq] at hg
  obtain⟨rfl,hu,ho⟩:=hg
  have hu:=un_nil hu
  obtain rfl:s=[]:=hu _ (by simp)
  obtain rfl:n=[]:=hu _ (by simp)
  obtain rfl:e=[]:=hu _ (by simp)
  obtain rfl:y=[]:=hu _ (by simp)
  unfold edOk at ho
  simp only[Bool.and_eq_true,decide_eq_true_eq] at ho
  exact .inr (.inr ⟨x,rfl,ho.1⟩)
 rw[if_neg h4] at hg
 cases hg
theorem bys_pr (k:Ky) (hg:k.good=true) (h1:k.kty≠1):bysB k=k.pr.1∧k.Sm:=by
 obtain⟨q1, -, -,q4⟩:=back k hg h1
 rw[q4]
 rcases ky_kinds k hg h1 with ⟨n,e,rfl,hr⟩|⟨c,x,y,N,rfl,hcc,hN,hx,hy⟩|⟨x,rfl,hx⟩
 ·obtain⟨l1,l2,l3,l4⟩:=rs_facts hr
  have on:=ofuD_len n
  have oe:=ofuD_len e
  have h3:=print_3 (prim_uint n) (prim_uint e) (by show(ofuD n).length≤_;omega) (by show(ofuD e).length≤_;omega)
  have hin:(printF (innL n e)).1.length≤6100:=h3.2
  refine⟨?_, .inl rfl,Nat.le_trans l3 (by omega),Nat.le_trans l4 (by omega),Nat.zero_le _,Nat.zero_le _⟩
  have hw:=wrap_3 (prim_uint n) (prim_uint e) (by show(ofuD n).length≤_;omega) (by show(ofuD e).length≤_;omega)
  have hb:bodB ⟨2,0,[],n,e,[],[]⟩=(printF (innL n e)).1:=hw.symm
  have hw5:=wrap_5 (p:=⟨6,oidB rsaN,0⟩) (q:=⟨5,[],0⟩) (r:=⟨3,0::(printF (innL n e)).1,0⟩) (prim_oid nm_rsa.1) prim_null (prim_bits _) (by rw[nm_rsa.2];decide) (by decide) (by show(0::(printF (innL n e)).1).length≤_;rw[List.length_cons];omega)
  have e5:wrapB 5 []=[5,0]:=by unfold wrapB lenF;rfl
  unfold bysB
  rw[hb]
  refine Eq.trans ?_ hw5.symm
  unfold algB
  rw[if_pos rfl,e5]
 ·have hs:sizeC c≤48:=by rcases hcc with rfl|rfl<;>decide
  refine⟨?_, .inr (.inl rfl),Nat.zero_le _,Nat.zero_le _,by show x.length≤_;omega,by show y.length≤_;omega⟩
  have hw5:=wrap_5 (p:=⟨6,oidB ecN,0⟩) (q:=⟨6,oidB (cvN c),0⟩) (r:=⟨3,0::4::(x++y),0⟩) (prim_oid nm_ec.1) (prim_oid (nm_cv c).1) (prim_bits _) (by rw[nm_ec.2];decide) (by have:=(nm_cv c).2.1;show(oidB (cvN c)).length≤_;omega) (by show(0::4::(x++y)).length≤_;simp only[List.length_cons,List.length_append];omega)
  refine Eq.trans ?_ hw5.symm
  unfold bysB algB bodB
  rw[if_neg (by show ¬(3:Int)=2;decide),if_pos rfl,if_neg (by show ¬(3:Int)=2;decide),if_pos rfl]
 ·refine⟨?_, .inr (.inr rfl),Nat.zero_le _,Nat.zero_le _,by show x.length≤_;omega,Nat.zero_le _⟩
  have hw4:=wrap_4 (p:=⟨6,oidB edN,0⟩) (r:=⟨3,0::x,0⟩) (prim_oid nm_ed.1) (prim_bits _) (by rw[nm_ed.2];decide) (by show(0::x).length≤_;simp only[List.length_cons];omega)
  refine Eq.trans ?_ hw4.symm
  unfold bysB algB bodB
  rw[if_neg (by show ¬(4:Int)=2;decide),if_neg (by show ¬(4:Int)=3;decide),if_neg (by show ¬(4:Int)=2;decide),if_neg (by show ¬(4:Int)=3;decide)]
def RPhf:FuncId→List V→CR:=fun f args=>tab [(38,cK fun k=>cF [k.Ok] false (.bb k.good)),
 (39,cK fun k=>cF [k.Sm] false (.by (bysB k)))] noF f args
def RPh (J:Inv):Sig:=⟨J,sdf,RPhf,noH,0⟩
theorem RPh_ok (J:Inv):SigOk Tryz.prog (RPh J):= .plain (tab_ok (.c (.k fun _=> .z fun⟨c0,_⟩=>rRight_fn J _ _ _ _ _ _ _ c0.s c0.n c0.e c0.x c0.y)<|
 .c (.k fun k=> .z fun⟨c0,_⟩=>rbytes_fn J k c0)<| .n) noF_ok)
theorem rprint1_fn (J:Inv) (k:Ky) (hk:k.Ok) (hm:k.Sm) (hg:k.good=true) (h1:(k.kty==1)=false):Fn Tryz.prog J 11 false [k.V] (.tu [.by (bysB k), .i 0]):=by
 rcases k with ⟨kty,crv,s,n,e,x,y⟩
 simp only at h1
 refine fnI Tryz.func11 rfl (by kernel_rfl) rfl (RPh_ok J) ?_
 unfold Tryz.f11
 simp only[↓bD,bQ,reduceLeDiff,reduceEqDiff,reduceLT,reduceAdd,↓reduceIte,RPh,RPhf,Ky.V,keyV,cK,keyW,byN,hg,h1]
 exact⟨hk,hm⟩
theorem rprint0_fn (J:Inv) (k:Ky) (hk:k.Ok) (h: ¬(k.good=true∧k.kty≠1)):Fn Tryz.prog J 11 false [k.V] (.tu [.by [], .i 90]):=by
 have hb:(!k.good||k.kty==1)=true:=by
  cases hg:k.good
  ·rfl
  ·simp only[hg,true_and] at h
   simp only[Bool.not_true,Bool.false_or]
   exact beq_iff_eq.2 (Decidable.byContradiction h)
 rcases k with ⟨kty,crv,s,n,e,x,y⟩
 simp only at hb
 refine fnI Tryz.func11 rfl (by kernel_rfl) rfl (RPh_ok J) ?_
 unfold Tryz.f11
 simp only[↓bD,bQ,reduceLeDiff,reduceEqDiff,reduceLT,reduceAdd,↓reduceIte,RPh,RPhf,Ky.V,keyV,cK,keyW,byN,hb]
 exact hk
theorem rprint_fn (J:Inv) (k:Ky) (hk:k.Ok):Fn Tryz.prog J 11 false [k.V] (.tu [.by k.pr.1, .i k.pr.2]):=by
 by_cases h:k.good=true∧k.kty≠1
 ·obtain⟨hb,hm⟩:=bys_pr k h.1 h.2
  rw[←hb,(back k h.1 h.2).1]
  exact rprint1_fn J k hk hm h.1 (beq_eq_false_iff_ne.2 h.2)
 ·have hR:k.pr=([],90):=by unfold Ky.pr;rw[if_neg h]
  rw[hR]
  exact rprint0_fn J k hk h
end Go.Proofs.YtfengpdaocgcnaaGreatDoor
