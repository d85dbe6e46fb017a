/- What reading an element comes to. Plain Lean. Reading an element: the walk. Is it a well shaped element: the walk. -/
import Derived.Test.YtfengpdaocgcnaaGreatDoorQ34
import Derived.Test.YtfengpdaocgcnaaGreatDoorQ17
namespace Go.Proofs.YtfengpdaocgcnaaGreatDoor
structure ER where
 out:List Tlv
 code:Int
 place:Nat
 ret:Nat
def addKid (ts:List Tlv) (me:Nat):List Tlv:=ts.set me ⟨(ts.getD me default).tag,(ts.getD me default).data,(ts.getD me default).kids+1⟩
def kdF (rec:Nat→Nat→List Tlv→ER) (me tq:Nat):Nat→Nat→List Tlv→ER
 |0,_,out=>⟨out,0,0,tq⟩
 |n+1,p,out=>
  if p<tq then
   if (rec p tq out).code=0 then kdF rec me tq n (rec p tq out).ret (addKid (rec p tq out).out me)
   else ⟨(rec p tq out).out,(rec p tq out).code,(rec p tq out).place,0⟩
  else ⟨out,0,0,tq⟩
def tagAt (l:List UInt8) (p q:Nat):Int:=if (headF l p q).2.2=true then byteAt l p else 0
def cutF (l:List UInt8) (p q:Nat):List UInt8:=(l.drop (headF l p q).1).take ((headF l p q).2.1-(headF l p q).1)
def badF (l:List UInt8) (p q:Nat):Bool:= !(headF l p q).2.2|| !tagF (tagAt l p q)||(!innerF (tagAt l p q)&& !rightF (tagAt l p q) (cutF l p q))
def elB (l:List UInt8) (rec:Option (Nat→Nat→List Tlv→ER)) (p q:Nat) (out:List Tlv):ER:=
 if badF l p q=true then ⟨out,80,p,0⟩
 else if innerF (tagAt l p q)=false then ⟨out++[⟨tagAt l p q,cutF l p q,0⟩],0,0,(headF l p q).2.1⟩
 else match rec with
  |none=>⟨out,11,p,0⟩
  |some rec=>kdF rec out.length (headF l p q).2.1 ((headF l p q).2.1-(headF l p q).1+1) (headF l p q).1 (out++[⟨tagAt l p q,[],0⟩])
def elF (l:List UInt8):Nat→Nat→Nat→List Tlv→ER
 |0=>elB l none
 |d+1=>elB l (some (elF l d))
structure RecOk (rec:Nat→Nat→List Tlv→ER):Prop where
 yes: ∀p q out,(rec p q out).code=0→p+2≤(rec p q out).ret∧(rec p q out).ret≤q∧(rec p q out).place=0
 len: ∀p q out,p≤q→(rec p q out).out.length≤out.length+(q-p)∧out.length≤(rec p q out).out.length∧((rec p q out).code=0→(rec p q out).out.length≤out.length+((rec p q out).ret-p))
 ret: ∀p q out,(rec p q out).code=0∨(rec p q out).ret=0
 code: ∀p q out,(rec p q out).code=0∨(rec p q out).code=80∨(rec p q out).code=11
 pre: ∀p q out,∃m,(rec p q out).out=out++m
theorem headF_ok {l:List UInt8} {p q:Nat} (h:(headF l p q).2.2=true):p+2≤(headF l p q).1∧(headF l p q).1≤(headF l p q).2.1∧(headF l p q).2.1≤q:=by
 unfold headF at h⊢
 split
 ·simp_all
 ·split
  ·simp_all
  ·split
   ·simp_all
   ·rename_i h1 h2 h3
    rw[if_neg h1,if_neg h2,if_neg h3] at h
    simp only[decide_eq_true_eq] at h
    refine⟨by simp only;omega,by simp only;omega,h⟩
theorem addKid_at (b:List Tlv) (x:Tlv) (m:List Tlv):addKid (b++x::m) b.length=b++⟨x.tag,x.data,x.kids+1⟩::m:=by
 unfold addKid
 rw[show(b++x::m).getD b.length default=x from by simp[List.getD_eq_getElem?_getD]]
 simp
theorem addKid_len (ts:List Tlv) (me:Nat):(addKid ts me).length=ts.length:=by simp[addKid]
theorem kdF_ok {rec:Nat→Nat→List Tlv→ER} (hr:RecOk rec) (me tq:Nat): ∀(n p:Nat) (out:List Tlv),p≤tq→tq-p<n→
  ((kdF rec me tq n p out).code=0→(kdF rec me tq n p out).ret=tq∧(kdF rec me tq n p out).place=0)∧((kdF rec me tq n p out).code=0∨(kdF rec me tq n p out).ret=0)∧(kdF rec me tq n p out).out.length≤out.length+(tq-p)∧out.length≤(kdF rec me tq n p out).out.length∧
   ((kdF rec me tq n p out).code=0∨(kdF rec me tq n p out).code=80∨(kdF rec me tq n p out).code=11)
 |0,p,out,_,h=>by omega
 |n+1,p,out,hp,hn=>by
  rw[kdF]
  split
  ·rename_i hlt
   obtain⟨h1,h2,h3⟩:=hr.len p tq out hp
   split
   ·rename_i hc
    obtain⟨g1,g2,g3⟩:=hr.yes p tq out hc
    obtain⟨q1,q2,q3,q4,q5⟩:=kdF_ok hr me tq n (rec p tq out).ret (addKid (rec p tq out).out me) g2 (by omega)
    rw[addKid_len] at q3 q4
    have:=h3 hc
    exact⟨q1,q2,by omega,by omega,q5⟩
   ·rename_i hc
    exact⟨fun h=>absurd h hc, .inr rfl,h1,h2,hr.code p tq out⟩
  ·refine⟨fun _=>⟨rfl,rfl⟩, .inl rfl,?_,?_, .inl rfl⟩<;>simp only<;>omega
theorem kdF_pre {rec:Nat→Nat→List Tlv→ER} (hr: ∀p q out,∃m,(rec p q out).out=out++m) (b:List Tlv) (tq:Nat): ∀(n p:Nat) (x:Tlv) (m:List Tlv),∃x' m',(kdF rec b.length tq n p (b++x::m)).out=b++x'::m'
 |0,p,x,m=>⟨x,m,rfl⟩
 |n+1,p,x,m=>by
  rw[kdF]
  obtain⟨k,hk⟩:=hr p tq (b++x::m)
  split
  ·split
   ·rw[hk,List.append_assoc,List.cons_append,addKid_at]
    exact kdF_pre hr b tq n _ _ _
   ·exact⟨x,m++k,by simp only;rw[hk];simp⟩
  ·exact⟨x,m,rfl⟩
theorem elB_ok (l:List UInt8) (rec:Option (Nat→Nat→List Tlv→ER)) (hrec: ∀r,rec=some r→RecOk r):RecOk (elB l rec):=by
 have key: ∀p q out,((elB l rec p q out).code=0→p+2≤(elB l rec p q out).ret∧(elB l rec p q out).ret≤q∧(elB l rec p q out).place=0∧(elB l rec p q out).out.length≤out.length+((elB l rec p q out).ret-p))∧((elB l rec p q out).code=0∨(elB l rec p q out).ret=0)∧
   (p≤q→(elB l rec p q out).out.length≤out.length+(q-p))∧out.length≤(elB l rec p q out).out.length∧((elB l rec p q out).code=0∨(elB l rec p q out).code=80∨(elB l rec p q out).code=11):=by
  intro p q out
  unfold elB
  split
  ·exact⟨fun h=>absurd h (by simp), .inr rfl,fun _=>by simp only;omega,Nat.le_refl _, .inr (.inl rfl)⟩
  ·rename_i hb
   have hh:(headF l p q).2.2=true:=by
    cases h:(headF l p q).2.2
    ·exact absurd (by unfold badF;rw[h];simp) hb
    ·rfl
   obtain⟨a1,a2,a3⟩:=headF_ok hh
   split
   ·refine⟨fun _=>⟨by simp only;omega,a3,rfl,?_⟩, .inl rfl,fun _=> ?_,?_, .inl rfl⟩<;>simp only[List.length_append,List.length_cons,List.length_nil]<;>omega
   ·cases rec with
    |none=>exact⟨fun h=>absurd h (by simp), .inr rfl,fun _=>by simp only;omega,Nat.le_refl _, .inr (.inr rfl)⟩
    |some r=>
     obtain⟨q1,q2,q3,q4,q5⟩:=kdF_ok (hrec r rfl) out.length (headF l p q).2.1 ((headF l p q).2.1-(headF l p q).1+1) (headF l p q).1 (out++[⟨tagAt l p q,[],0⟩]) a2 (by omega)
     simp only[List.length_append,List.length_cons,List.length_nil] at q3 q4
     refine⟨fun h=> ?_,q2,fun _=> ?_,?_,q5⟩
     ·obtain⟨e1,e2⟩:=q1 h
      refine⟨by simp only;omega,by simp only;omega,e2,?_⟩
      simp only
      rw[e1];omega
     ·simp only;omega
     ·simp only;omega
 have pre: ∀p q out,∃m,(elB l rec p q out).out=out++m:=by
  intro p q out
  unfold elB
  split
  ·exact⟨[],by simp⟩
  ·split
   ·exact⟨_,rfl⟩
   ·cases rec with
    |none=>exact⟨[],by simp⟩
    |some r=>
     obtain⟨x,m,h⟩:=kdF_pre (hrec r rfl).pre out (headF l p q).2.1 ((headF l p q).2.1-(headF l p q).1+1) (headF l p q).1 ⟨tagAt l p q,[],0⟩ []
     exact⟨x::m,h⟩
 exact⟨fun p q out h=>⟨((key p q out).1 h).1,((key p q out).1 h).2.1,((key p q out).1 h).2.2.1⟩,fun p q out hpq=>⟨(key p q out).2.2.1 hpq,(key p q out).2.2.2.1,fun h=>((key p q out).1 h).2.2.2⟩,fun p q out=>(key p q out).2.1,fun p q out=>(key p q out).2.2.2.2,pre⟩
theorem elF_ok (l:List UInt8): ∀d,RecOk (elF l d)
 |0=>elB_ok l none fun r h=>by cases h
 |d+1=>elB_ok l _ fun r h=>by simp only[Option.some.injEq] at h;subst h;exact elF_ok l d
open Nat (reduceMul reduceLeDiff reduceEqDiff reduceLT reduceAdd reduceSub reduceDiv)
open Int (reduceToNat reducePow)
open Go.RowKit
set_option linter.unusedSimpArgs false
set_option maxRecDepth 100000
def elPre (l:List UInt8) (k r:Nat) (out:List Tlv):List (Nat×Ob):=[(k, .box 85 (.st [.by l, .ro (.r r), .val (.int .i64 0), .val (.int .i64 0)])),(r, .row 47 (tloV out))]
def elPost (l:List UInt8) (k r:Nat) (e:ER):List (Nat×Ob):=[(k, .box 85 (.st [.by l, .ro (.r r), .val (.int .i64 e.code), .val (.int .i64 e.place)])),(r, .row 47 (tloV e.out))]
def G2f:FuncId→List V→Option (List Prop×Bool×V):=fun f args=>
 if f=86 then match args with
  |[.val (.int .i64 t)]=>some ([],false, .bb (tagF t))
  |_=>none
 else if f=50 then match args with
  |[.val (.int .i64 t), .by l]=>some ([l.length≤140737488355328],false, .bb (rightF t l))
  |_=>none
 else if f=85 then match args with
  |[.by l, .val (.int .i64 p), .val (.int .i64 q)]=>some ([0≤p,0≤q,q≤(l.length:Int),l.length≤140737488355328,p≤140737488355328],false, .tu [.i (headF l p.toNat q.toNat).1, .i (headF l p.toNat q.toNat).2.1, .bb (headF l p.toNat q.toNat).2.2])
  |_=>none
 else none
def G2h (d:Option Nat):FuncId→List V→List (Nat×Ob)→Nat→Option CallH:=fun f args h nx=>
 if f=49 then match args with
  |[.op k 0, .val (.int .i64 p), .val (.int .i64 q), .val (.int .i64 o)]=>match Hroot h k with
   |some (.box _ (.st [.by l, .ro (.r r), .val (.int .i64 _), .val (.int .i64 _)]))=>match Hroot h r with
    |some (.row _ (.sq _ _ L))=>match d with
     |some d=>some ⟨[0≤p,p≤q,q≤(l.length:Int),l.length≤65536,o=32-(d:Int),d≤32,(unT L).length+(q.toNat-p.toNat)≤65536,k<nx,r<nx,k≠r],[],
       elPre l k r (unT L), .i (elF l d p.toNat q.toNat (unT L)).ret,elPost l k nx (elF l d p.toNat q.toNat (unT L)),nx+1⟩
     |none=>none
    |_=>none
   |_=>none
  |_=>none
 else none
def G2 (J:Inv) (d:Option Nat) (b:Nat):Sig:=⟨J,df,G2f,G2h d,b⟩
def ElOk (J:Inv) (d:Nat):Prop:= ∀(l:List UInt8) (p q:Nat) (out:List Tlv) (k r nx:Nat),p≤q→q≤l.length→l.length≤65536→out.length+(q-p)≤65536→k<nx→r<nx→k≠r→
 FnH Tryz.prog J 49 [.op k 0, .i p, .i q, .i (32-(d:Int))] (elPre l k r out) nx (.i (elF l d p q out).ret) (elPost l k nx (elF l d p q out)) (nx+1)
theorem G2_ok (J:Inv) (d:Option Nat) (b:Nat) (hd: ∀e,d=some e→ElOk J e):SigOk Tryz.prog (G2 J d b):=by
 refine⟨fun f args l fr r h hl=> ?_,fun f args h nx c hc hl=> ?_⟩
 ·simp only[G2] at h
  unfold G2f at h
  split at h
  ·rename_i hf;subst hf
   split at h
   ·obtain⟨rfl,rfl,rfl⟩:=some_tri h;exact tagged_fn J _
   ·exact absurd h (by simp)
  ·split at h
   ·rename_i hf;subst hf
    split at h
    ·obtain⟨rfl,rfl,rfl⟩:=some_tri h;exact dright_fn J _ _ (hl _ (List.mem_cons_self ..))
    ·exact absurd h (by simp)
   ·split at h
    ·rename_i hf;subst hf
     split at h
     ·rename_i b p q
      obtain⟨rfl,rfl,rfl⟩:=some_tri h
      have h0:(0:Int)≤p:=hl _ (by simp)
      have h1:(0:Int)≤q:=hl _ (by simp)
      have h2:q≤(b.length:Int):=hl _ (by simp)
      have h3:b.length≤140737488355328:=hl _ (by simp)
      have h4:p≤140737488355328:=hl _ (by simp)
      obtain⟨p,rfl⟩:=Int.eq_ofNat_of_zero_le h0
      obtain⟨q,rfl⟩:=Int.eq_ofNat_of_zero_le h1
      exact head_fn J b p q (by omega) h3 (by omega)
     ·exact absurd h (by simp)
    ·exact absurd h (by simp)
 ·simp only[G2] at hc
  unfold G2h at hc
  split at hc
  ·rename_i hf;subst hf
   split at hc
   ·rename_i k p q o
    split at hc
    ·rename_i ty l1 r c0 p0 hk
     split at hc
     ·rename_i ty2 sz dd L hr
      split at hc
      ·rename_i e
       simp only[Option.some.injEq] at hc
       subst hc
       have h0:(0:Int)≤p:=hl _ (by simp)
       have h1:p≤q:=hl _ (by simp)
       have h2:q≤(l1.length:Int):=hl _ (by simp)
       have h3:l1.length≤65536:=hl _ (by simp)
       have h4:o=32-(e:Int):=hl _ (by simp)
       have h6:(unT L).length+(q.toNat-p.toNat)≤65536:=hl _ (by simp)
       have h7:k<nx:=hl _ (by simp)
       have h8:r<nx:=hl _ (by simp)
       have h9:k≠r:=hl _ (by simp)
       subst h4
       obtain⟨p,rfl⟩:=Int.eq_ofNat_of_zero_le h0
       obtain⟨q,rfl⟩:=Int.eq_ofNat_of_zero_le (show(0:Int)≤q by omega)
       exact hd e rfl l1 p q (unT L) k r nx (by omega) (by omega) h3 h6 h7 h8 h9
      ·exact absurd hc (by simp)
     ·exact absurd hc (by simp)
    ·exact absurd hc (by simp)
   ·exact absurd hc (by simp)
  ·exact absurd hc (by simp)
theorem and32 (t:Int) (h0:0≤t) (h1:t≤255):(!(bt .and .i64 t 32==0))=innerF t:=by
 obtain⟨a,rfl⟩:=Int.eq_ofNat_of_zero_le h0
 have h:=i64_and_nat a 32 (by omega) (by omega)
 rw[show((32:Nat):Int)=32 from rfl] at h
 rw[h]
 have key: ∀b,b<256→(!(((b&&&32:Nat):Int)==0))=innerF (b:Int):=by decide+kernel
 exact key a (by omega)
theorem badF_eq {l:List UInt8} {p q:Nat} (h:(headF l p q).2.2=true):badF l p q=(!tagF (byteAt l p)||(!innerF (byteAt l p)&& !rightF (byteAt l p) (cutF l p q)))∧tagAt l p q=byteAt l p:=by
 have:tagAt l p q=byteAt l p:=by unfold tagAt;rw[if_pos h]
 refine⟨?_,this⟩
 unfold badF
 rw[this,h];simp
theorem badF_no {l:List UInt8} {p q:Nat} (h:(headF l p q).2.2=false):badF l p q=true:=by unfold badF;rw[h];simp
def recOf (l:List UInt8):Option Nat→Option (Nat→Nat→List Tlv→ER)
 |none=>none
 |some e=>some (elF l e)
theorem element_fn (J:Inv) (D:Nat) (dd:Option Nat) (hD:(dd=none∧D=0)∨ ∃e,dd=some e∧D=e+1∧ElOk J e) (hD32:D≤32):ElOk J D:=by
 intro l p q out k r nx hpq hq hl hout hk hr hkr
 have n1: ∀j,(nx+j=k)=False:=fun j=>by simp;omega
 have n2: ∀j,(nx+j=r)=False:=fun j=>by simp;omega
 have n3:(nx=k)=False:=by simp;omega
 have n4:(nx=r)=False:=by simp;omega
 have n5:(k=r)=False:=by simp;exact hkr
 have n6:(r=k)=False:=by simp;exact fun e=>hkr e.symm
 have n7: ∀j,(nx+j<nx)=False:=fun j=>by simp
 have n8:(nx<nx)=False:=by simp
 have n9: ∀j,(k=nx+j)=False:=fun j=>by simp;omega
 have n10:(k=nx)=False:=by simp;omega
 have n11: ∀j,(r=nx+j)=False:=fun j=>by simp;omega
 have n12:(r=nx)=False:=by simp;omega
 have hG:SigOk Tryz.prog (G2 J dd nx):=G2_ok J dd nx fun e he=>by
  rcases hD with ⟨h,_⟩|⟨e',h1,h2,h3⟩
  ·rw[h] at he;cases he
  ·rw[h1] at he
   obtain rfl:e'=e:=by simpa using he
   exact h3
 have b0:=byteAt_lo l p
 have b1:=byteAt_hi l p
 have hE:elF l D=elB l (recOf l dd):=by
  rcases hD with ⟨rfl,rfl⟩|⟨e',rfl,rfl,_⟩<;>rfl
 refine fnJ Tryz.func49 rfl (by kernel_rfl) hG rfl ?_
 unfold Tryz.f49
 simp only[bnA,reduceMul,reduceLeDiff,reduceEqDiff,reduceLT,reduceAdd,↓reduceIte,reduceCtorEq,G2,G2f,elPre,tloV,tlvOD,tlo_len,tlo_get,tlo_app,n1,n3,n4,n5,n6,and32 _ b0 (by omega)]
 rw[hE]
 have bad:badF l p q=true→ ∀e8:En,e8.get 8=some (.val (.int .i64 0))→RenC nx (RetH [ResultVar.tmp 8] (V.val (Value.int IntKind.i64 ↑(elB l (recOf l dd) p q out).ret)) (elPost l k nx (elB l (recOf l dd) p q out)) (nx+1))
   ⟨e8,(k,Ob.box 85 (.st [.by l, .ro (.r r), .val (.int .i64 80), .val (.int .i64 p)]))::(k,Ob.box 85 (.st [.by l, .ro (.r r), .val (.int .i64 80), .val (.int .i64 0)]))::elPre l k r out,nx⟩:=by
  intro hbad e8 he8
  have hE2: ∀rec,elB l rec p q out=⟨out,80,p,0⟩:=fun rec=>by unfold elB;rw[if_pos hbad]
  rw[hE2]
  refine RenC.intro [(nx,r)] ⟨[(8, .val (.int .i64 0))],elPost l k nx ⟨out,80,p,0⟩,nx+1⟩ ?_ ?_
  ·simp only[bnA,↓reduceIte,he8,elPre,elPost,tloV,tlvOD,tlo_ct,n4,n5,n8,hk]
   refine⟨by omega,by omega,by simp⟩
  ·simp only[bnA,reduceLeDiff,↓reduceIte,elPost,tloV,tlvOD,n10]
   simp
 refine⟨by omega,by omega,by omega,by omega,by omega,fun hh=> ?_,fun hh=> ?_⟩
 ·obtain⟨hb,ht⟩:=badF_eq hh
  obtain⟨a1,a2,a3⟩:=headF_ok hh
  have hcutl:(cutF l p q).length≤65536:=by unfold cutF;simp;omega
  rw[hh]
  change _∧_∧_∧_∧_∧(_→(cutF l p q).length≤_)∧_∧Br (_||_&& !rightF _ (cutF l p q)) _ _
  refine⟨by omega,by omega,fun _=>by omega,fun _=>by omega,fun _=>by omega,fun _=>by omega,fun h1 h2=>by simp only[Bool.not_true,Bool.false_or] at h1⊢;rw[h1,h2];rfl,fun hx=> ?_,fun hx=> ?_⟩
  ·exact bad (by rw[hb];simpa using hx) _ rfl
  ·have hbad:badF l p q=false:=by rw[hb];simpa using hx
   refine⟨fun hy=> ?_,fun hy=> ?_⟩
   ·have hin:innerF (byteAt l p)=true:=by simp only[Bool.and_eq_true] at hy;exact hy.1
    have hD0:dd=none:=by
     rcases hD with ⟨h,_⟩|⟨e',h1,h2,h3⟩
     ·exact h
     ·simp only[Bool.and_eq_true,beq_iff_eq] at hy;omega
    have hE2:elB l (recOf l dd) p q out=⟨out,11,p,0⟩:=by
     unfold elB;rw[if_neg (by simp[hbad]),if_neg (by rw[ht];simp[hin]),hD0];rfl
    rw[hE2]
    refine RenC.intro [(nx,r)] ⟨[(8, .val (.int .i64 0))],elPost l k nx ⟨out,11,p,0⟩,nx+1⟩ ?_ ?_
    ·simp only[bnA,↓reduceIte,elPost,tloV,tlvOD,tlo_ct,n4,n5,n8,hk]
     refine⟨by omega,by omega,by simp⟩
    ·simp only[bnA,reduceLeDiff,↓reduceIte,elPost,tloV,tlvOD,n10]
     simp
   ·refine⟨fun hz=> ?_,fun hz=> ?_⟩
    ·have hin:innerF (byteAt l p)=false:=by simpa using hz
     refine DrawC.sch [(0,some []),(1,some []),(2,some []),(3,some []),(4,some []),(5,some []),(6,some []),(7,some []),(8,some []),(9,some []),(10,some []),(11,some []),(12,some []),(13,none),(14,none),(15,none),(16,none),(17,some []),(18,some []),(19,none)] [(19,[1])] (by kernel_rfl) ?_
     simp only[bnA,reduceMul,reduceLeDiff,reduceEqDiff,reduceLT,reduceAdd,↓reduceIte,reduceCtorEq,tlvD,df,tlo_len,tlo_get,tlo_app,n1,n2,n3,n4,n5,n6,n11,n12]
     have hE2:elB l (recOf l dd) p q out=⟨out++[⟨byteAt l p,cutF l p q,0⟩],0,0,(headF l p q).2.1⟩:=by
      unfold elB;rw[if_neg (by simp[hbad]),if_pos (by rw[ht];exact hin),ht]
     rw[hE2]
     change _∧_∧_∧((cutF l p q).length:Int)*_≤_∧_∧_
     refine⟨by omega,by omega,by omega,by omega,by simp;omega,?_⟩
     refine RenC.intro [(nx,nx+2)] ⟨[(8, .val (.int .i64 (headF l p q).2.1))],elPost l k nx ⟨out++[⟨byteAt l p,cutF l p q,0⟩],0,0,(headF l p q).2.1⟩,nx+1⟩ ?_ ?_
     ·simp only[bnA,↓reduceIte,reduceCtorEq,elPost,cutF,tloV,tlvOD,tlo_ct,n8,n9,hk]
      refine⟨by simp,by omega,by omega,by simp⟩
     ·simp only[bnA,reduceLeDiff,↓reduceIte,elPost,tloV,tlvOD,n10]
      simp
    ·have hin:innerF (byteAt l p)=true:=by simpa using hz
     obtain⟨e,rfl,rfl,hrec⟩: ∃e,dd=some e∧D=e+1∧ElOk J e:=by
      rcases hD with ⟨h,rfl⟩|h
      ·rw[hin] at hy;simp at hy
      ·exact h
     have hE2:elB l (recOf l (some e)) p q out=kdF (elF l e) out.length (headF l p q).2.1 ((headF l p q).2.1-(headF l p q).1+1) (headF l p q).1 (out++[⟨byteAt l p,[],0⟩]):=by
      unfold elB;rw[if_neg (by simp[hbad]),if_neg (by rw[ht];simp[hin]),ht];rfl
     rw[hE2]
     generalize hto:(headF l p q).2.1=tq at *
     generalize hfr:(headF l p q).1=fr at *
     generalize hfin:kdF (elF l e) out.length tq (tq-fr+1) fr (out++[⟨byteAt l p,[],0⟩])=E at *
     refine⟨by simp;omega,by omega,?_⟩
     refine LoopC.intro (α:=Nat×List Tlv) (fun y=>y.1≤tq∧fr≤y.1∧out.length<y.2.length∧y.2.length+(tq-y.1)≤65536∧(∃x m,y.2=out++x::m∧0≤x.kids∧x.kids≤((y.1-fr:Nat):Int))∧ ∃n,tq-y.1<n∧kdF (elF l e) out.length tq n y.1 y.2=E)
      (fun y=>⟨[(0, .op k 0),(9, .i y.1),(10, .i tq),(14, .i out.length),(3, .i (32-((e+1:Nat):Int)))],[(k, .box 85 (.st [.by l, .ro (.r (nx+1)), .val (.int .i64 0), .val (.int .i64 0)])),(nx+1, .row 47 (tloV y.2))],nx+2⟩)
      (fun y=>tq-y.1) (fr,out++[⟨byteAt l p,[],0⟩]) ⟨by simp only;omega,by simp only;omega,by simp,by simp;omega,⟨_,[],rfl,by simp,by simp⟩,tq-fr+1,by simp only;omega,hfin⟩ ?_ ?_
     ·simp only[bnA,reduceLeDiff,reduceEqDiff,↓reduceIte,reduceCtorEq,tloV,tlvOD,n9]
      exact Nat.le_refl _
     ·rintro⟨p1,o1⟩ ⟨g1,g2,g3,g4,⟨x,m,g7,g8,g9⟩,n,g5,g6⟩
      simp only at g1 g2 g3 g4 g5 g6 g7 g8 g9
      simp only[bnA,reduceLeDiff,reduceEqDiff,reduceLT,reduceAdd,↓reduceIte,reduceCtorEq,G2h,elPre,elPost,tloV,tlvOD,unT_tlo,tlo_len,tlo_get,tlo_set,tlo_sc,n1,n9]
      have hR:=elF_ok l e
      obtain⟨w1,w2,w3⟩:=hR.len p1 tq o1 g1
      have w4:=hR.yes p1 tq o1
      have w5:=hR.ret p1 tq o1
      obtain⟨m',w6⟩:=hR.pre p1 tq o1
      have w7:(elF l e p1 tq o1).out=out++x::(m++m'):=by rw[w6,g7];simp
      have w8:((elF l e p1 tq o1).out.getD out.length default)=x:=by rw[w7];simp[List.getD_eq_getElem?_getD]
      obtain⟨n,rfl⟩: ∃n',n=n'+1:=⟨n-1,by omega⟩
      rw[kdF] at g6
      refine⟨fun hlt=> ?_,fun hge=> ?_⟩
      ·have hlt:p1<tq:=by simpa using hlt
       rw[if_pos hlt] at g6
       rw[w8]
       refine⟨by constructor<;>omega,by omega,by omega,by omega,by omega,by omega,by omega,by omega,by omega,by omega,fun hc=> ?_,fun hc=> ?_⟩
       ·have hc: ¬(elF l e p1 tq o1).code=0:=by simpa using hc
        rw[if_neg hc] at g6
        subst g6
        refine RenC.intro [(nx,nx+2)] ⟨[(8, .val (.int .i64 0))],elPost l k nx ⟨(elF l e p1 tq o1).out,(elF l e p1 tq o1).code,(elF l e p1 tq o1).place,0⟩,nx+1⟩ ?_ ?_
        ·simp only[bnA,↓reduceIte,reduceCtorEq,elPost,tloV,tlvOD,tlo_ct,n8,n9,hk]
         refine⟨by omega,by omega,by simp⟩
        ·simp only[bnA,reduceLeDiff,↓reduceIte,elPost,tloV,tlvOD,n10]
         simp
       ·have hc:(elF l e p1 tq o1).code=0:=by simpa using hc
        rw[if_pos hc] at g6
        obtain⟨v1,v2,v3⟩:=w4 hc
        refine⟨by omega,by omega,by omega,by constructor<;>omega,by omega,by omega,by omega,?_⟩
        have w9:addKid (elF l e p1 tq o1).out out.length=(elF l e p1 tq o1).out.set out.length ⟨x.tag,x.data,x.kids+1⟩:=by unfold addKid;rw[w8]
        refine Again.introR ((elF l e p1 tq o1).ret,addKid (elF l e p1 tq o1).out out.length) [(nx+1,nx+2)] ⟨by simp only;omega,by simp only;omega,by simp only[addKid_len];omega,by simp only[addKid_len];omega,⟨⟨x.tag,x.data,x.kids+1⟩,m++m',by simp only;rw[w7,addKid_at],by simp only;omega,by simp only;omega⟩,n,by simp only;omega,g6⟩ (by simp only;omega) ?_
        rw[hc,v3]
        simp only[w9,bnA,reduceEqDiff,↓reduceIte,reduceCtorEq,tlo_ct,n1,n7,n9,hk]
        refine⟨by omega,by omega,by simp⟩
      ·have hge: ¬p1<tq:=by simpa using hge
       rw[if_neg hge] at g6
       subst g6
       refine RenC.intro [(nx,nx+1)] ⟨[(8, .val (.int .i64 tq))],elPost l k nx ⟨o1,0,0,tq⟩,nx+1⟩ ?_ ?_
       ·simp only[bnA,↓reduceIte,reduceCtorEq,elPost,tloV,tlvOD,tlo_ct,n8,n9,hk]
        refine⟨by omega,by omega,by simp⟩
       ·simp only[bnA,reduceLeDiff,↓reduceIte,elPost,tloV,tlvOD,n10]
        simp
 ·have hbd:=badF_no hh
  rw[hh]
  refine⟨by simp,by simp,by simp,by simp,by simp,fun _=>bad hbd _ rfl,fun h=>absurd h (by simp)⟩
open Nat (reduceMul reduceLeDiff reduceEqDiff reduceLT reduceAdd reduceSub reduceDiv)
open Int (reduceToNat reducePow)
open Go.RowKit
set_option linter.unusedSimpArgs false
set_option maxRecDepth 100000
def stK (rec:Nat→Option Nat):Nat→Nat→Option Nat
 |0,a=>some a
 |n+1,a=>match rec a with
  |some b=>stK rec n b
  |none=>none
def stB (ts:List Tlv) (rec:Option (Nat→Option Nat)) (a:Nat):Option Nat:=
 if ts.length≤a∨tagF (ts.getD a default).tag=false then none
 else if innerF (ts.getD a default).tag=false then
  if (ts.getD a default).kids≠0∨rightF (ts.getD a default).tag (ts.getD a default).data=false then none else some (a+1)
 else if (ts.getD a default).kids<0∨0<(ts.getD a default).data.length then none
 else match rec with
  |none=>none
  |some rec=>stK rec (ts.getD a default).kids.toNat (a+1)
def stF (ts:List Tlv):Nat→Nat→Option Nat
 |0=>stB ts none
 |d+1=>stB ts (some (stF ts d))
def encO:Option Nat→Int
 |none=> -1
 |some n=>n
theorem stB_ok {ts:List Tlv} {rec:Option (Nat→Option Nat)} (hr: ∀r,rec=some r→ ∀a b,r a=some b→a<b∧b≤ts.length) {a b:Nat} (h:stB ts rec a=some b):a<b∧b≤ts.length:=by
 unfold stB at h
 split at h
 ·cases h
 ·rename_i h1
  split at h
  ·split at h
   ·cases h
   ·obtain rfl:a+1=b:=by simpa using h
    omega
  ·split at h
   ·cases h
   ·cases rec with
    |none=>cases h
    |some r=>
     have key: ∀n a b,a≤ts.length→stK r n a=some b→a≤b∧b≤ts.length:=by
      intro n
      induction n with
      |zero=>
       intro a b ha h;obtain rfl:a=b:=by simpa [stK] using h
       exact⟨Nat.le_refl _,ha⟩
      |succ n ih=>
       intro a b ha h
       rw[stK] at h
       split at h
       ·rename_i c hc
        have h1:=hr r rfl _ _ hc
        have h2:=ih c b h1.2 h
        omega
       ·cases h
     have:=key _ _ _ (by omega) h
     omega
theorem stF_ok {ts:List Tlv}: ∀(d:Nat) {a b:Nat},stF ts d a=some b→a<b∧b≤ts.length
 |0,_,_,h=>stB_ok (fun _ h=>by cases h) h
 |d+1,_,_,h=>stB_ok (fun r h=>by simp only[Option.some.injEq] at h;subst h;exact fun a b=>stF_ok d) h
def G4f (d:Option Nat):FuncId→List V→Option (List Prop×Bool×V):=fun f args=>
 if f=86 then match args with
  |[.val (.int .i64 t)]=>some ([],false, .bb (tagF t))
  |_=>none
 else if f=50 then match args with
  |[.val (.int .i64 t), .by l]=>some ([l.length≤140737488355328],false, .bb (rightF t l))
  |_=>none
 else if f=102 then match args with
  |[.sq sz dd L, .val (.int .i64 a), .val (.int .i64 o)]=>match d with
   |some d=>some ([dd=tlvD,sz=3,L=tls (unT L),Small (unT L),0≤a,a≤((unT L).length:Int),o=32-(d:Int)],false, .i (encO (stF (unT L) d a.toNat)))
   |none=>none
  |_=>none
 else none
def G4 (J:Inv) (d:Option Nat):Sig:=⟨J,df,G4f d,noH,0⟩
def StOk (J:Inv) (d:Nat):Prop:= ∀(ts:List Tlv) (a:Nat),Small ts→a≤ts.length→Fn Tryz.prog J 102 false [tlsV ts, .i a, .i (32-(d:Int))] (.i (encO (stF ts d a)))
theorem G4_ok (J:Inv) (d:Option Nat) (hd: ∀e,d=some e→StOk J e):SigOk Tryz.prog (G4 J d):=by
 refine .plain fun f args l fr r h hl=> ?_
 unfold G4f at h
 split at h
 ·rename_i hf;subst hf
  split at h
  ·obtain⟨rfl,rfl,rfl⟩:=some_tri h;exact tagged_fn J _
  ·exact absurd h (by simp)
 ·split at h
  ·rename_i hf;subst hf
   split at h
   ·obtain⟨rfl,rfl,rfl⟩:=some_tri h;exact dright_fn J _ _ (hl _ (List.mem_cons_self ..))
   ·exact absurd h (by simp)
  ·split at h
   ·rename_i hf;subst hf
    split at h
    ·rename_i sz dd L a o
     cases d with
     |none=>exact absurd h (by simp)
     |some e=>
      obtain⟨rfl,rfl,rfl⟩:=some_tri h
      have h1:dd=tlvD:=hl _ (by simp)
      have h2:sz=3:=hl _ (by simp)
      have h3:L=tls (unT L):=hl _ (by simp)
      have h4:Small (unT L):=hl _ (by simp)
      have h5:(0:Int)≤a:=hl _ (by simp)
      have h6:a≤((unT L).length:Int):=hl _ (by simp)
      have h7:o=32-(e:Int):=hl _ (by simp)
      subst h1 h2 h7
      obtain⟨a,rfl⟩:=Int.eq_ofNat_of_zero_le h5
      have:=hd e rfl (unT L) a h4 (by omega)
      rw[tlsV,←h3] at this
      exact this
    ·exact absurd h (by simp)
   ·exact absurd h (by simp)
theorem tagF_range {t:Int} (h:tagF t=true):0≤t∧t≤255:=by
 unfold tagF at h
 simp only[Bool.and_eq_true,decide_eq_true_eq] at h
 omega
def recS (ts:List Tlv):Option Nat→Option (Nat→Option Nat)
 |none=>none
 |some e=>some (stF ts e)
theorem subtree_fn (J:Inv) (D:Nat) (dd:Option Nat) (hD:(dd=none∧D=0)∨ ∃e,dd=some e∧D=e+1∧StOk J e) (hD32:D≤32):StOk J D:=by
 intro ts a hs ha
 have hG:SigOk Tryz.prog (G4 J dd):=G4_ok J dd fun e he=>by
  rcases hD with ⟨h,_⟩|⟨e',h1,h2,h3⟩
  ·rw[h] at he;cases he
  ·rw[h1] at he
   obtain rfl:e'=e:=by simpa using he
   exact h3
 have hE:stF ts D=stB ts (recS ts dd):=by
  rcases hD with ⟨rfl,rfl⟩|⟨e',rfl,rfl,_⟩<;>rfl
 have hs1:=hs.1
 refine fnI Tryz.func102 rfl (by kernel_rfl) rfl hG ?_
 unfold Tryz.f102
 simp only[bnA,reduceLeDiff,reduceEqDiff,reduceLT,reduceAdd,↓reduceIte,reduceCtorEq,tlsV,tlvD,bnB,G4,G4f]
 rw[hE]
 refine⟨fun h=>by omega,fun h=>by simp only[decide_eq_false_iff_not] at h;omega,fun h=> ?_,fun h=> ?_⟩
 ·rw[show stB ts (recS ts dd) a=none from by unfold stB;rw[if_pos (by simp only[Bool.or_eq_true,decide_eq_true_eq,Bool.not_eq_true'] at h;exact h.imp (fun h=>by omega) id)]]
  rfl
 ·simp only[Bool.or_eq_false_iff,decide_eq_false_iff_not,Bool.not_eq_false'] at h
  obtain⟨h1,h2⟩:=h
  have hlt:a<ts.length:=by omega
  have hsz:=hs.at hlt
  obtain⟨t0,t1⟩:=tagF_range h2
  have hn: ¬(ts.length≤a∨tagF (ts.getD a default).tag=false):=by rw[h2];simp;omega
  have hin:=and32 _ t0 t1
  refine⟨by omega,by omega,fun h3=> ?_,fun h3=> ?_⟩
  ·rw[h3] at hin
   have hin:innerF (ts.getD a default).tag=false:=hin.symm
   refine⟨fun _=>hsz,fun h4=> ?_,fun h4=> ?_⟩
   ·rw[show stB ts (recS ts dd) a=none from by
     unfold stB
     rw[if_neg hn,if_pos hin,if_pos (by simpa using h4)]]
    rfl
   ·refine⟨by constructor<;>omega,?_⟩
    rw[show stB ts (recS ts dd) a=some (a+1) from by
     unfold stB
     rw[if_neg hn,if_pos hin,if_neg (by simpa using h4)]]
    simp[encO]
  ·rw[h3] at hin
   have hin:innerF (ts.getD a default).tag=true:=hin.symm
   refine⟨fun h4=> ?_,fun h4=> ?_⟩
   ·rw[show stB ts (recS ts dd) a=none from by
     unfold stB
     rw[if_neg hn,if_neg (by rw[hin];simp)]
     simp only[Bool.or_eq_true,decide_eq_true_eq,beq_iff_eq] at h4
     split
     ·rfl
     ·rename_i h5
      have:D=0:=by omega
      subst this
      rcases hD with ⟨rfl,_⟩|⟨e',_,h,_⟩
      ·rfl
      ·omega]
    rfl
   ·simp only[Bool.or_eq_false_iff,decide_eq_false_iff_not,beq_eq_false_iff_ne] at h4
    obtain⟨e,rfl,rfl,hrec⟩: ∃e,dd=some e∧D=e+1∧StOk J e:=by
     rcases hD with ⟨h,rfl⟩|h
     ·omega
     ·exact h
    rw[show stB ts (recS ts (some e)) a=stK (stF ts e) (ts.getD a default).kids.toNat (a+1) from by
     unfold stB
     rw[if_neg hn,if_neg (by rw[hin];simp),if_neg (by omega)];rfl]
    generalize hE:stK (stF ts e) (ts.getD a default).kids.toNat (a+1)=E
    refine⟨by constructor<;>omega,?_⟩
    refine LoopC.intro (α:=Nat×Nat) (fun y=>(y.1:Int)≤(ts.getD a default).kids∧a+1+y.1≤y.2∧y.2≤ts.length∧stK (stF ts e) ((ts.getD a default).kids.toNat-y.1) y.2=E)
     (fun y=>⟨[(0,tlsV ts),(60, .i y.1),(59, .i (ts.getD a default).kids),(8, .i y.2),(2, .i (32-((e+1:Nat):Int)))],[],1⟩)
     (fun y=>(ts.getD a default).kids.toNat-y.1) (0,a+1) ⟨by simp only;omega,by simp only;omega,by simp only;omega,by simp only[Nat.sub_zero];exact hE⟩ ?_ ?_
    ·simp only[bnA,reduceLeDiff,reduceEqDiff,↓reduceIte,reduceCtorEq,tlsV,tlvD]
     refine⟨by simp,by simp⟩
    ·rintro⟨i,b⟩ ⟨g1,g2,g3,g4⟩
     simp only at g1 g2 g3 g4
     simp only[bnA,reduceEqDiff,↓reduceIte,reduceCtorEq,tlsV,tlvD,bnB,G4f]
     refine⟨fun hi=> ?_,fun hi=> ?_⟩
     ·simp only[decide_eq_true_eq] at hi
      have hkn:(ts.getD a default).kids.toNat-i=((ts.getD a default).kids.toNat-(i+1))+1:=by omega
      rw[hkn,stK] at g4
      refine⟨by constructor<;>omega,hs,by omega,by omega,by omega,fun h5=> ?_,fun h5=> ?_⟩
      ·simp only[decide_eq_true_eq] at h5
       cases hb:stF ts e b with
       |some c=>rw[hb] at h5;simp only[encO] at h5;omega
       |none=>rw[hb] at g4;subst g4;rfl
      ·simp only[decide_eq_false_iff_not] at h5
       cases hb:stF ts e b with
       |none=>rw[hb] at h5;simp[encO] at h5
       |some c=>
        rw[hb] at g4
        obtain⟨q1,q2⟩:=stF_ok e hb
        refine⟨by constructor<;>omega,?_⟩
        refine Again.intro (i+1,c) ⟨by simp only;omega,by simp only;omega,q2,g4⟩ (by simp only;omega) ?_
        simp only[bnA,reduceLeDiff,reduceEqDiff,↓reduceIte,reduceCtorEq,encO]
        simp
     ·simp only[decide_eq_false_iff_not] at hi
      have hkn:(ts.getD a default).kids.toNat-i=0:=by omega
      rw[hkn,stK] at g4
      subst g4;rfl
theorem stOk_all (J:Inv): ∀d,d≤32→StOk J d
 |0,_=>subtree_fn J 0 none (.inl ⟨rfl,rfl⟩) (by omega)
 |d+1,h=>subtree_fn J (d+1) (some d) (.inr ⟨d,rfl,rfl,stOk_all J d (by omega)⟩) h
def shapedF (ts:List Tlv):Bool:=decide (0<ts.length)&&(stF ts 32 0==some ts.length)
theorem shaped_fn (J:Inv) (ts:List Tlv) (hs:Small ts):Fn Tryz.prog J 59 false [tlsV ts] (.bb (shapedF ts)):=by
 have hG:SigOk Tryz.prog (G4 J (some 32)):=G4_ok J (some 32) fun e he=>by
  simp only[Option.some.injEq] at he
  subst he
  exact stOk_all J 32 (by omega)
 refine fnI Tryz.func59 rfl (by kernel_rfl) rfl hG ?_
 unfold Tryz.f59
 simp only[bnA,reduceEqDiff,↓reduceIte,reduceCtorEq,reduceToNat,tlsV,tlvD,bnB,G4,G4f]
 refine⟨fun _=>hs,fun _=>by omega,fun _=>by omega,fun _=>by omega,?_⟩
 unfold shapedF
 congr 1
 ·simp
 ·cases stF ts 32 0 with
  |none=>simp only[encO];rw[show((-1:Int)==(ts.length:Int))=false from by simp];rfl
  |some b=>simp only[encO];rw[Bool.eq_iff_iff];simp;omega
end Go.Proofs.YtfengpdaocgcnaaGreatDoor
