/- Is it a well shaped element: the walk. What printing comes to: sizes and places of well shaped lists. Plain Lean. -/
import Derived.Test.YtfengpdaocgcnaaGreatDoorT34
import Derived.Test.YtfengpdaocgcnaaGreatDoorQ17
namespace Go.Proofs.YtfengpdaocgcnaaGreatDoor
open Nat (reduceMul reduceLeDiff reduceEqDiff reduceLT reduceAdd reduceSub reduceDiv)
open Int (reduceToNat reducePow)
open Go.RowKit
set_option linter.unusedSimpArgs false
set_option maxRecDepth 100000
def stK (rec:Nat→Option Nat):Nat→Nat→Option Nat
 |0,a=>some a
 |n+1,a=>match rec a with
  |some b=>stK rec n b
  |none=>none
def stB (ts:List Tlv) (rec:Option (Nat→Option Nat)) (a:Nat):Option Nat:=
 if ts.length≤a∨tagF (ts.getD a default).tag=false then none
 else if innerF (ts.getD a default).tag=false then
  if (ts.getD a default).kids≠0∨rightF (ts.getD a default).tag (ts.getD a default).data=false then none else some (a+1)
 else if (ts.getD a default).kids<0∨0<(ts.getD a default).data.length then none
 else match rec with
  |none=>none
  |some rec=>stK rec (ts.getD a default).kids.toNat (a+1)
def stF (ts:List Tlv):Nat→Nat→Option Nat
 |0=>stB ts none
 |d+1=>stB ts (some (stF ts d))
def encO:Option Nat→Int
 |none=> -1
 |some n=>n
theorem stB_ok {ts:List Tlv} {rec:Option (Nat→Option Nat)} (hr: ∀r,rec=some r→ ∀a b,r a=some b→a<b∧b≤ts.length) {a b:Nat} (h:stB ts rec a=some b):a<b∧b≤ts.length:=by
 unfold stB at h
 split at h
 ·cases h
 ·rename_i h1
  split at h
  ·split at h
   ·cases h
   ·obtain rfl:a+1=b:=by simpa using h
    omega
  ·split at h
   ·cases h
   ·cases rec with
    |none=>cases h
    |some r=>
     have key: ∀n a b,a≤ts.length→stK r n a=some b→a≤b∧b≤ts.length:=by
      intro n
      induction n with
      |zero=>
       intro a b ha h;obtain rfl:a=b:=by simpa [stK] using h
       exact⟨Nat.le_refl _,ha⟩
      |succ n ih=>
       intro a b ha h
       rw[stK] at h
       split at h
       ·rename_i c hc
        have h1:=hr r rfl _ _ hc
        have h2:=ih c b h1.2 h
        omega
       ·cases h
     have:=key _ _ _ (by omega) h
     omega
theorem stF_ok {ts:List Tlv}: ∀(d:Nat) {a b:Nat},stF ts d a=some b→a<b∧b≤ts.length
 |0,_,_,h=>stB_ok (fun _ h=>by cases h) h
 |d+1,_,_,h=>stB_ok (fun r h=>by simp only[Option.some.injEq] at h;subst h;exact fun a b=>stF_ok d) h
def G4f (d:Option Nat):FuncId→List V→Option (List Prop×Bool×V):=fun f args=>
 if f=86 then match args with
  |[.val (.int .i64 t)]=>some ([],false, .bb (tagF t))
  |_=>none
 else if f=50 then match args with
  |[.val (.int .i64 t), .by l]=>some ([l.length≤140737488355328],false, .bb (rightF t l))
  |_=>none
 else if f=102 then match args with
  |[.sq sz dd L, .val (.int .i64 a), .val (.int .i64 o)]=>match d with
   |some d=>some ([dd=tlvD,sz=3,L=tls (unT L),Small (unT L),0≤a,a≤((unT L).length:Int),o=32-(d:Int)],false, .i (encO (stF (unT L) d a.toNat)))
   |none=>none
  |_=>none
 else none
def G4 (J:Inv) (d:Option Nat):Sig:=⟨J,df,G4f d,noH,0⟩
def StOk (J:Inv) (d:Nat):Prop:= ∀(ts:List Tlv) (a:Nat),Small ts→a≤ts.length→Fn Tryz.prog J 102 false [tlsV ts, .i a, .i (32-(d:Int))] (.i (encO (stF ts d a)))
theorem G4_ok (J:Inv) (d:Option Nat) (hd: ∀e,d=some e→StOk J e):SigOk Tryz.prog (G4 J d):=by
 refine .plain fun f args l fr r h hl=> ?_
 unfold G4f at h
 split at h
 ·rename_i hf;subst hf
  split at h
  ·obtain⟨rfl,rfl,rfl⟩:=some_tri h;exact tagged_fn J _
  ·exact absurd h (by simp)
 ·split at h
  ·rename_i hf;subst hf
   split at h
   ·obtain⟨rfl,rfl,rfl⟩:=some_tri h;exact dright_fn J _ _ (hl _ (List.mem_cons_self ..))
   ·exact absurd h (by simp)
  ·split at h
   ·rename_i hf;subst hf
    split at h
    ·rename_i sz dd L a o
     cases d with
     |none=>exact absurd h (by simp)
     |some e=>
      obtain⟨rfl,rfl,rfl⟩:=some_tri h
      have h1:dd=tlvD:=hl _ (by simp)
      have h2:sz=3:=hl _ (by simp)
      have h3:L=tls (unT L):=hl _ (by simp)
      have h4:Small (unT L):=hl _ (by simp)
      have h5:(0:Int)≤a:=hl _ (by simp)
      have h6:a≤((unT L).length:Int):=hl _ (by simp)
      have h7:o=32-(e:Int):=hl _ (by simp)
      subst h1 h2 h7
      obtain⟨a,rfl⟩:=Int.eq_ofNat_of_zero_le h5
      have:=hd e rfl (unT L) a h4 (by omega)
      rw[tlsV,←h3] at this
      exact this
    ·exact absurd h (by simp)
   ·exact absurd h (by simp)
theorem tagF_range {t:Int} (h:tagF t=true):0≤t∧t≤255:=by
 unfold tagF at h
 simp only[Bool.and_eq_true,decide_eq_true_eq] at h
 omega
def recS (ts:List Tlv):Option Nat→Option (Nat→Option Nat)
 |none=>none
 |some e=>some (stF ts e)
theorem subtree_fn (J:Inv) (D:Nat) (dd:Option Nat) (hD:(dd=none∧D=0)∨ ∃e,dd=some e∧D=e+1∧StOk J e) (hD32:D≤32):StOk J D:=by
 intro ts a hs ha
 have hG:SigOk Tryz.prog (G4 J dd):=G4_ok J dd fun e he=>by
  rcases hD with ⟨h,_⟩|⟨e',h1,h2,h3⟩
  ·rw[h] at he;cases he
  ·rw[h1] at he
   obtain rfl:e'=e:=by simpa using he
   exact h3
 have hE:stF ts D=stB ts (recS ts dd):=by
  rcases hD with ⟨rfl,rfl⟩|⟨e',rfl,rfl,_⟩<;>rfl
 have hs1:=hs.1
 refine fnI Tryz.func102 rfl (by kernel_rfl) rfl hG ?_
 unfold Tryz.f102
 simp only[bnA,reduceLeDiff,reduceEqDiff,reduceLT,reduceAdd,↓reduceIte,reduceCtorEq,tlsV,tlvD,bnB,G4,G4f]
 rw[hE]
 refine⟨fun h=>by omega,fun h=>by simp only[decide_eq_false_iff_not] at h;omega,fun h=> ?_,fun h=> ?_⟩
 ·rw[show stB ts (recS ts dd) a=none from by unfold stB;rw[if_pos (by simp only[Bool.or_eq_true,decide_eq_true_eq,Bool.not_eq_true'] at h;exact h.imp (fun h=>by omega) id)]]
  rfl
 ·simp only[Bool.or_eq_false_iff,decide_eq_false_iff_not,Bool.not_eq_false'] at h
  obtain⟨h1,h2⟩:=h
  have hlt:a<ts.length:=by omega
  have hsz:=hs.at hlt
  obtain⟨t0,t1⟩:=tagF_range h2
  have hn: ¬(ts.length≤a∨tagF (ts.getD a default).tag=false):=by rw[h2];simp;omega
  have hin:=and32 _ t0 t1
  refine⟨by omega,by omega,fun h3=> ?_,fun h3=> ?_⟩
  ·rw[h3] at hin
   have hin:innerF (ts.getD a default).tag=false:=hin.symm
   refine⟨fun _=>hsz,fun h4=> ?_,fun h4=> ?_⟩
   ·rw[show stB ts (recS ts dd) a=none from by
     unfold stB
     rw[if_neg hn,if_pos hin,if_pos (by simpa using h4)]]
    rfl
   ·refine⟨by constructor<;>omega,?_⟩
    rw[show stB ts (recS ts dd) a=some (a+1) from by
     unfold stB
     rw[if_neg hn,if_pos hin,if_neg (by simpa using h4)]]
    simp[encO]
  ·rw[h3] at hin
   have hin:innerF (ts.getD a default).tag=true:=hin.symm
   refine⟨fun h4=> ?_,fun h4=> ?_⟩
   ·rw[show stB ts (recS ts dd) a=none from by
     unfold stB
     rw[if_neg hn,if_neg (by rw[hin];simp)]
     simp only[Bool.or_eq_true,decide_eq_true_eq,beq_iff_eq] at h4
     split
     ·rfl
     ·rename_i h5
      have:D=0:=by omega
      subst this
      rcases hD with ⟨rfl,_⟩|⟨e',_,h,_⟩
      ·rfl
      ·omega]
    rfl
   ·simp only[Bool.or_eq_false_iff,decide_eq_false_iff_not,beq_eq_false_iff_ne] at h4
    obtain⟨e,rfl,rfl,hrec⟩: ∃e,dd=some e∧D=e+1∧StOk J e:=by
     rcases hD with ⟨h,rfl⟩|h
     ·omega
     ·exact h
    rw[show stB ts (recS ts (some e)) a=stK (stF ts e) (ts.getD a default).kids.toNat (a+1) from by
     unfold stB
     rw[if_neg hn,if_neg (by rw[hin];simp),if_neg (by omega)];rfl]
    generalize hE:stK (stF ts e) (ts.getD a default).kids.toNat (a+1)=E
    refine⟨by constructor<;>omega,?_⟩
    refine LoopC.intro (α:=Nat×Nat) (fun y=>(y.1:Int)≤(ts.getD a default).kids∧a+1+y.1≤y.2∧y.2≤ts.length∧stK (stF ts e) ((ts.getD a default).kids.toNat-y.1) y.2=E)
     (fun y=>⟨[(0,tlsV ts),(60, .i y.1),(59, .i (ts.getD a default).kids),(8, .i y.2),(2, .i (32-((e+1:Nat):Int)))],[],1⟩)
     (fun y=>(ts.getD a default).kids.toNat-y.1) (0,a+1) ⟨by simp only;omega,by simp only;omega,by simp only;omega,by simp only[Nat.sub_zero];exact hE⟩ ?_ ?_
    ·simp only[bnA,reduceLeDiff,reduceEqDiff,↓reduceIte,reduceCtorEq,tlsV,tlvD]
     refine⟨by simp,by simp⟩
    ·rintro⟨i,b⟩ ⟨g1,g2,g3,g4⟩
     simp only at g1 g2 g3 g4
     simp only[bnA,reduceEqDiff,↓reduceIte,reduceCtorEq,tlsV,tlvD,bnB,G4f]
     refine⟨fun hi=> ?_,fun hi=> ?_⟩
     ·simp only[decide_eq_true_eq] at hi
      have hkn:(ts.getD a default).kids.toNat-i=((ts.getD a default).kids.toNat-(i+1))+1:=by omega
      rw[hkn,stK] at g4
      refine⟨by constructor<;>omega,hs,by omega,by omega,by omega,fun h5=> ?_,fun h5=> ?_⟩
      ·simp only[decide_eq_true_eq] at h5
       cases hb:stF ts e b with
       |some c=>rw[hb] at h5;simp only[encO] at h5;omega
       |none=>rw[hb] at g4;subst g4;rfl
      ·simp only[decide_eq_false_iff_not] at h5
       cases hb:stF ts e b with
       |none=>rw[hb] at h5;simp[encO] at h5
       |some c=>
        rw[hb] at g4
        obtain⟨q1,q2⟩:=stF_ok e hb
        refine⟨by constructor<;>omega,?_⟩
        refine Again.intro (i+1,c) ⟨by simp only;omega,by simp only;omega,q2,g4⟩ (by simp only;omega) ?_
        simp only[bnA,reduceLeDiff,reduceEqDiff,↓reduceIte,reduceCtorEq,encO]
        simp
     ·simp only[decide_eq_false_iff_not] at hi
      have hkn:(ts.getD a default).kids.toNat-i=0:=by omega
      rw[hkn,stK] at g4
      subst g4;rfl
theorem stOk_all (J:Inv): ∀d,d≤32→StOk J d
 |0,_=>subtree_fn J 0 none (.inl ⟨rfl,rfl⟩) (by omega)
 |d+1,h=>subtree_fn J (d+1) (some d) (.inr ⟨d,rfl,rfl,stOk_all J d (by omega)⟩) h
def shapedF (ts:List Tlv):Bool:=decide (0<ts.length)&&(stF ts 32 0==some ts.length)
theorem shaped_fn (J:Inv) (ts:List Tlv) (hs:Small ts):Fn Tryz.prog J 59 false [tlsV ts] (.bb (shapedF ts)):=by
 have hG:SigOk Tryz.prog (G4 J (some 32)):=G4_ok J (some 32) fun e he=>by
  simp only[Option.some.injEq] at he
  subst he
  exact stOk_all J 32 (by omega)
 refine fnI Tryz.func59 rfl (by kernel_rfl) rfl hG ?_
 unfold Tryz.f59
 simp only[bnA,reduceEqDiff,↓reduceIte,reduceCtorEq,reduceToNat,tlsV,tlvD,bnB,G4,G4f]
 refine⟨fun _=>hs,fun _=>by omega,fun _=>by omega,fun _=>by omega,?_⟩
 unfold shapedF
 congr 1
 ·simp
 ·cases stF ts 32 0 with
  |none=>simp only[encO];rw[show((-1:Int)==(ts.length:Int))=false from by simp];rfl
  |some b=>simp only[encO];rw[Bool.eq_iff_iff];simp;omega
def kdN (nx sz:Nat→Nat):Nat→Nat→Nat
 |0,_=>0
 |n+1,k=>sz k+kdN nx sz n (nx k)
def nxG (f:Nat→Option Nat) (k:Nat):Nat:=(f k).getD 0
def szOf (n:Nat):Nat:=1+(lenF n).length+n
def tagT (ts:List Tlv) (a:Nat):Int:=(ts.getD a default).tag
def datT (ts:List Tlv) (a:Nat):List UInt8:=(ts.getD a default).data
def kidT (ts:List Tlv) (a:Nat):Nat:=(ts.getD a default).kids.toNat
def inF (ts:List Tlv):Nat→Nat→Nat
 |0,a=>(datT ts a).length
 |d+1,a=>(datT ts a).length+kdN (nxG (stF ts d)) (fun k=>szOf (inF ts d k)) (kidT ts a) (a+1)
theorem kd_mono {f g:Nat→Option Nat} {u v:Nat→Nat} (h: ∀a b,f a=some b→g a=some b∧v a=u a): ∀n a b,stK f n a=some b→stK g n a=some b∧kdN (nxG g) v n a=kdN (nxG f) u n a
 |0,_,_,h0=>⟨h0,rfl⟩
 |n+1,a,b,h0=>by
  rw[stK] at h0
  split at h0
  ·rename_i c hc
   obtain⟨h1,h2⟩:=h a c hc
   obtain⟨q1,q2⟩:=kd_mono h n c b h0
   refine⟨by rw[stK,h1];exact q1,?_⟩
   rw[kdN,kdN,h2,show nxG g a=c from by simp[nxG,h1],show nxG f a=c from by simp[nxG,hc],q2]
  ·cases h0
theorem stB_cases {ts:List Tlv} {rec:Option (Nat→Option Nat)} {a b:Nat} (h:stB ts rec a=some b):a<ts.length∧tagF (tagT ts a)=true∧
  ((innerF (tagT ts a)=false∧(ts.getD a default).kids=0∧rightF (tagT ts a) (datT ts a)=true∧b=a+1)∨
   (innerF (tagT ts a)=true∧0≤(ts.getD a default).kids∧datT ts a=[]∧ ∃r,rec=some r∧stK r (kidT ts a) (a+1)=some b)):=by
 unfold stB at h
 split at h
 ·cases h
 ·rename_i h1
  simp only[not_or,Bool.not_eq_false,Nat.not_le] at h1
  refine⟨h1.1,h1.2,?_⟩
  split at h
  ·rename_i h2
   split at h
   ·cases h
   ·rename_i h3
    simp only[not_or,Bool.not_eq_false,ne_eq,Decidable.not_not] at h3
    exact .inl ⟨h2,h3.1,h3.2,by simpa using h.symm⟩
  ·rename_i h2
   split at h
   ·cases h
   ·rename_i h3
    cases rec with
    |none=>cases h
    |some r=>exact .inr ⟨by unfold tagT;cases h:innerF (ts.getD a default).tag<;>simp_all,by omega,List.eq_nil_of_length_eq_zero (by unfold datT;omega),r,rfl,h⟩
theorem stB_prim {ts:List Tlv} {rec:Option (Nat→Option Nat)} {a:Nat} (h1:a<ts.length) (h2:tagF (tagT ts a)=true) (h3:innerF (tagT ts a)=false) (h4:(ts.getD a default).kids=0) (h5:rightF (tagT ts a) (datT ts a)=true):stB ts rec a=some (a+1):=by
 unfold stB
 unfold tagT datT at *
 rw[if_neg (by rw[h2];simp;omega),if_pos h3,if_neg (by rw[h5,h4];simp)]
theorem stB_inner {ts:List Tlv} {r:Nat→Option Nat} {a:Nat} (h1:a<ts.length) (h2:tagF (tagT ts a)=true) (h3:innerF (tagT ts a)=true) (h4:0≤(ts.getD a default).kids) (h5:datT ts a=[]):stB ts (some r) a=stK r (kidT ts a) (a+1):=by
 unfold stB
 unfold tagT datT at *
 rw[if_neg (by rw[h2];simp;omega),if_neg (by rw[h3];simp),if_neg (by rw[h5];simp only[List.length_nil];omega)];rfl
theorem stF_mono1 {ts:List Tlv}: ∀(d:Nat) {a b:Nat},stF ts d a=some b→stF ts (d+1) a=some b∧inF ts (d+1) a=inF ts d a
 |0,a,b,h=>by
  obtain⟨h1,h2,h3⟩:=stB_cases h
  rcases h3 with ⟨h3,h4,h5,rfl⟩|⟨_,_,_,r,hr,_⟩
  ·refine⟨stB_prim h1 h2 h3 h4 h5,?_⟩
   rw[inF,inF,show kidT ts a=0 from by simp only[kidT,h4];rfl,kdN];rfl
  ·cases hr
 |d+1,a,b,h=>by
  obtain⟨h1,h2,h3⟩:=stB_cases h
  rcases h3 with ⟨h3,h4,h5,rfl⟩|⟨h3,h4,h5,r,hr,hk⟩
  ·refine⟨stB_prim h1 h2 h3 h4 h5,?_⟩
   rw[inF,inF,show kidT ts a=0 from by simp only[kidT,h4];rfl,kdN,kdN]
  ·simp only[Option.some.injEq] at hr
   subst hr
   obtain⟨q1,q2⟩:=kd_mono (u:=fun k=>szOf (inF ts d k)) (v:=fun k=>szOf (inF ts (d+1) k)) (fun a b h=>by
    obtain⟨e1,e2⟩:=stF_mono1 d h
    exact⟨e1,by simp only[e2]⟩) _ _ _ hk
   refine⟨?_,?_⟩
   ·show stB ts (some (stF ts (d+1))) a=some b
    rw[stB_inner h1 h2 h3 h4 h5];exact q1
   ·rw[inF,inF,q2]
theorem stF_mono {ts:List Tlv} {d:Nat}: ∀{e:Nat},d≤e→ ∀{a b:Nat},stF ts d a=some b→stF ts e a=some b∧inF ts e a=inF ts d a:=by
 intro e hde
 induction hde with
 |refl=>exact fun h=>⟨h,rfl⟩
 | @step e _ ih=>
  intro a b h
  obtain⟨h1,h2⟩:=ih h
  obtain⟨h3,h4⟩:=stF_mono1 e h1
  exact⟨h3,h4.trans h2⟩
theorem stK_visit {ts:List Tlv} {r:Nat→Option Nat} {Q:Nat→Prop} (hr: ∀a b,r a=some b→a<b∧ ∀x,a≤x→x<b→Q x): ∀n a b,stK r n a=some b→a≤b∧ ∀x,a≤x→x<b→Q x
 |0,a,b,h=>by
  obtain rfl:a=b:=by simpa [stK] using h
  exact⟨Nat.le_refl _,fun x h1 h2=>by omega⟩
 |n+1,a,b,h=>by
  rw[stK] at h
  split at h
  ·rename_i c hc
   obtain⟨h1,h2⟩:=hr a c hc
   obtain⟨h3,h4⟩:=stK_visit (ts:=ts) hr n c b h
   refine⟨by omega,fun x hx hy=> ?_⟩
   rcases Nat.lt_or_ge x c with hl|hl
   ·exact h2 x hx hl
   ·exact h4 x hl hy
  ·cases h
theorem stF_visit {ts:List Tlv}: ∀(d:Nat) {a b:Nat},stF ts d a=some b→ ∀x,a≤x→x<b→ ∃e y,e≤d∧stF ts e x=some y
 |0,a,b,h,x,hx,hy=>by
  obtain⟨h1,h2,h3⟩:=stB_cases h
  rcases h3 with ⟨h3,h4,h5,rfl⟩|⟨_,_,_,r,hr,_⟩
  ·obtain rfl:a=x:=by omega
   exact⟨0,_,Nat.le_refl _,h⟩
  ·cases hr
 |d+1,a,b,h,x,hx,hy=>by
  obtain⟨h1,h2,h3⟩:=stB_cases h
  rcases Nat.lt_or_ge a x with hl|hl
  ·rcases h3 with ⟨h3,h4,h5,rfl⟩|⟨h3,h4,h5,r,hr,hk⟩
   ·omega
   ·simp only[Option.some.injEq] at hr
    subst hr
    obtain⟨_,q⟩:=stK_visit (ts:=ts) (Q:=fun x=> ∃e y,e≤d∧stF ts e x=some y) (fun a b h=>⟨(stF_ok d h).1,fun x h1 h2=>stF_visit d h x h1 h2⟩) _ _ _ hk
    obtain⟨e,y,h6,h7⟩:=q x (by omega) hy
    exact⟨e,y,by omega,h7⟩
  ·obtain rfl:a=x:=by omega
   exact⟨d+1,b,Nat.le_refl _,h⟩
def Shp (ts:List Tlv):Prop:= ∀x,x<ts.length→ ∃e y,e≤32∧stF ts e x=some y
theorem shapedF_shp {ts:List Tlv} (h:shapedF ts=true):stF ts 32 0=some ts.length∧0<ts.length∧Shp ts:=by
 unfold shapedF at h
 simp only[Bool.and_eq_true,decide_eq_true_eq,beq_iff_eq] at h
 exact⟨h.2,h.1,fun x hx=>stF_visit 32 h.2 x (by omega) hx⟩
def nxI (ts:List Tlv) (x:Nat):Nat:=nxG (stF ts 32) x
def inI (ts:List Tlv) (x:Nat):Nat:=inF ts 32 x
def szI (ts:List Tlv) (x:Nat):Nat:=szOf (inI ts x)
theorem Shp.at {ts:List Tlv} (h:Shp ts) {x:Nat} (hx:x<ts.length):stF ts 32 x=some (nxI ts x)∧x<nxI ts x∧nxI ts x≤ts.length:=by
 obtain⟨e,y,h1,h2⟩:=h x hx
 obtain⟨h3,_⟩:=stF_mono h1 h2
 have:nxI ts x=y:=by simp[nxI,nxG,h3]
 rw[this]
 exact⟨h3,stF_ok 32 h3⟩
theorem Shp.step {ts:List Tlv} (h:Shp ts) {x:Nat} (hx:x<ts.length):0≤(ts.getD x default).kids∧tagF (tagT ts x)=true∧stK (stF ts 32) (kidT ts x) (x+1)=some (nxI ts x)∧inI ts x=(datT ts x).length+kdN (nxI ts) (szI ts) (kidT ts x) (x+1):=by
 obtain⟨e,y,h1,h2⟩:=h x hx
 obtain⟨m1,m2⟩:=stF_mono h1 h2
 have hn:nxI ts x=y:=by simp[nxI,nxG,m1]
 have prim: ∀rec,(innerF (tagT ts x)=false∧(ts.getD x default).kids=0∧rightF (tagT ts x) (datT ts x)=true∧y=x+1)→stB ts rec x=some y→inF ts e x=(datT ts x).length→
   0≤(ts.getD x default).kids∧stK (stF ts 32) (kidT ts x) (x+1)=some (nxI ts x)∧inI ts x=(datT ts x).length+kdN (nxI ts) (szI ts) (kidT ts x) (x+1):=fun rec ⟨h3,h4,h5,h6⟩ _ hin=>by
  have hk:kidT ts x=0:=by simp only[kidT,h4];rfl
  rw[hk,hn,h6]
  refine⟨by omega,rfl,?_⟩
  rw[inI,m2,hin,kdN];rfl
 cases e with
 |zero=>
  obtain⟨_,t,h3⟩:=stB_cases h2
  rcases h3 with h3|⟨_,_,_,r,hr,_⟩
  ·obtain⟨q1,q2,q3⟩:=prim _ h3 h2 rfl
   exact⟨q1,t,q2,q3⟩
  ·cases hr
 |succ e=>
  obtain⟨_,t,h3⟩:=stB_cases h2
  rcases h3 with h3|⟨h3,h4,h5,r,hr,hk⟩
  ·obtain⟨q1,q2,q3⟩:=prim _ h3 h2 (by rw[inF,show kidT ts x=0 from by simp only[kidT,h3.2.1];rfl,kdN];rfl)
   exact⟨q1,t,q2,q3⟩
  ·simp only[Option.some.injEq] at hr
   subst hr
   obtain⟨q1,q2⟩:=kd_mono (u:=fun k=>szOf (inF ts e k)) (v:=szI ts) (fun a b h=>by
    obtain⟨e1,e2⟩:=stF_mono (show e≤32 by omega) h
    exact⟨e1,by simp only[szI,inI,e2]⟩) _ _ _ hk
   refine⟨h4,t,by rw[hn];exact q1,?_⟩
   rw[inI,m2,inF,←q2];rfl
def pieceT (ts:List Tlv) (ins:Nat→Nat) (x:Nat):List UInt8:=u8 (tagT ts x)::(lenF (ins x)++datT ts x)
def fl (ts:List Tlv) (ins:Nat→Nat):Nat→Nat→List UInt8
 |_,0=>[]
 |a,n+1=>pieceT ts ins a++fl ts ins (a+1) n
theorem fl_add (ts:List Tlv) (ins:Nat→Nat): ∀n m a,fl ts ins a (n+m)=fl ts ins a n++fl ts ins (a+n) m
 |0,m,a=>by simp[fl]
 |n+1,m,a=>by rw[show n+1+m=(n+m)+1 from by omega,fl,fl,fl_add ts ins n m (a+1),List.append_assoc,show a+1+n=a+(n+1) from by omega]
theorem fl_split (ts:List Tlv) (ins:Nat→Nat) {a b c:Nat} (h1:a≤b) (h2:b≤c):fl ts ins a (c-a)=fl ts ins a (b-a)++fl ts ins b (c-b):=by
 have:=fl_add ts ins (b-a) (c-b) a
 rw[show b-a+(c-b)=c-a from by omega,show a+(b-a)=b from by omega] at this
 exact this
theorem Shp.len {ts:List Tlv} (h:Shp ts): ∀m x,ts.length-x≤m→x<ts.length→(fl ts (inI ts) x (nxI ts x-x)).length=szI ts x
 |0,x,h1,h2=>by omega
 |m+1,x,h1,h2=>by
  obtain⟨_,_,q2,q3⟩:=h.step h2
  obtain⟨_,q4,q5⟩:=h.at h2
  have key: ∀n a b,x<a→stK (stF ts 32) n a=some b→a≤b∧(fl ts (inI ts) a (b-a)).length=kdN (nxI ts) (szI ts) n a:=by
   intro n
   induction n with
   |zero=>
    intro a b _ h0
    obtain rfl:a=b:=by simpa [stK] using h0
    refine⟨Nat.le_refl _,?_⟩
    rw[Nat.sub_self,fl,kdN];rfl
   |succ n ih=>
    intro a b hxa h0
    rw[stK] at h0
    split at h0
    ·rename_i c hc
     have q3:=stF_ok 32 hc
     obtain⟨q1,q2⟩:=ih c b (by omega) h0
     have hn:nxI ts a=c:=by simp[nxI,nxG,hc]
     have:=Shp.len h m a (by omega) (by omega)
     rw[hn] at this
     refine⟨by omega,?_⟩
     rw[fl_split ts (inI ts) (Nat.le_of_lt q3.1) q1,List.length_append,this,q2,kdN,hn]
    ·cases h0
  obtain⟨q6,q7⟩:=key _ _ _ (by omega) q2
  rw[show nxI ts x-x=(nxI ts x-(x+1))+1 from by omega,fl,List.length_append,q7]
  simp only[pieceT,List.length_cons,List.length_append,szI,szOf]
  omega
theorem fl_pre (ts:List Tlv) (ins:Nat→Nat) {a n m:Nat} (h:n≤m):(fl ts ins a n).length≤(fl ts ins a m).length:=by
 rw[show m=n+(m-n) from by omega,fl_add,List.length_append];omega
def bigF (ts:List Tlv):Bool:=(List.range ts.length).any fun x=>decide (65536<szI ts x)
def printF (ts:List Tlv):List UInt8×Int:=if shapedF ts=false then ([],80) else if bigF ts=true then ([],10) else (fl ts (inI ts) 0 ts.length,0)
end Go.Proofs.YtfengpdaocgcnaaGreatDoor
