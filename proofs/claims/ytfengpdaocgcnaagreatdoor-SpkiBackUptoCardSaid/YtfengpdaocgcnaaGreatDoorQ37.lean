/- Reading: the walk. DER there and back. Plain Lean. DER there and back: the laws. Plain Lean. -/
import Derived.Test.YtfengpdaocgcnaaGreatDoorQ35
import Derived.Test.YtfengpdaocgcnaaGreatDoorQ17
import Derived.Test.YtfengpdaocgcnaaGreatDoorQ36
namespace Go.Proofs.YtfengpdaocgcnaaGreatDoor
open Nat (reduceMul reduceLeDiff reduceEqDiff reduceLT reduceAdd reduceSub reduceDiv)
open Int (reduceToNat reducePow)
open Go.RowKit
set_option linter.unusedSimpArgs false
set_option maxRecDepth 100000
theorem elOk_all (J:Inv): ∀d,d≤32→ElOk J d
 |0,_=>element_fn J 0 none (.inl ⟨rfl,rfl⟩) (by omega)
 |d+1,h=>element_fn J (d+1) (some d) (.inr ⟨d,rfl,rfl,elOk_all J d (by omega)⟩) h
def parseF (l:List UInt8):List Tlv×Int×Nat:=
 if 65536<l.length then ([],10,0)
 else if (elF l 32 0 l.length []).code=0 then
  if (elF l 32 0 l.length []).ret<l.length then ([],80,(elF l 32 0 l.length []).ret) else ((elF l 32 0 l.length []).out,0,0)
 else ([],(elF l 32 0 l.length []).code,(elF l 32 0 l.length []).place)
def G3h:FuncId→List V→List (Nat×Ob)→Nat→Option CallH:=fun f args h nx=>
  if f=49 then match args with
    |[.op k 0, .val (.int .i64 p), .val (.int .i64 q), .val (.int .i64 o)]=>match Hroot h k with
      |some (.box _ (.st [.by l, .val (.slice none 0 0), .val (.int .i64 _), .val (.int .i64 _)]))=>
        some ⟨[p=0,q=(l.length:Int),l.length≤65536,o=0,k<nx],[],
              [(k, .box 85 (.st [.by l, .val (.slice none 0 0), .val (.int .i64 0), .val (.int .i64 0)]))], .i (elF l 32 0 l.length []).ret,elPost l k (nx+1) (elF l 32 0 l.length []),nx+2⟩
      |_=>none
    |_=>none
  else none
def G3 (J:Inv):Sig:=⟨J,df,G0f,G3h,0⟩
theorem G3_ok (J:Inv):SigOk Tryz.prog (G3 J):=by
 refine⟨fun f args l fr r h hl=>by simp[G3,G0f] at h,fun f args h nx c hc hl=> ?_⟩
 simp only[G3] at hc
 unfold G3h at hc
 split at hc
 ·rename_i hf;subst hf
  split at hc
  ·rename_i k p q o
   split at hc
   ·rename_i ty l1 c0 p0 hk
    simp only[Option.some.injEq] at hc
    subst hc
    have h0:p=0:=hl _ (by simp)
    have h1:q=(l1.length:Int):=hl _ (by simp)
    have h2:l1.length≤65536:=hl _ (by simp)
    have h3:o=0:=hl _ (by simp)
    have h4:k<nx:=hl _ (by simp)
    subst h0 h1 h3
    refine FnH.adopt [.bx k 1 47 (tloV [])] (elOk_all J 32 (by omega) l1 0 l1.length [] k nx (nx+1) (by omega) (by omega) h2 (by simp;omega) (by omega) (by omega) (by omega)) ?_
    have e1:(nx=k)=False:=by simp;omega
    have e2:(k=nx)=False:=by simp;omega
    simp only[bnA,reduceLeDiff,reduceEqDiff,reduceLT,reduceAdd,↓reduceIte,reduceCtorEq,elPre,tloV,tlvOD,tlo,e2]
    exact Nat.le_refl _
   ·exact absurd hc (by simp)
  ·exact absurd hc (by simp)
 ·exact absurd hc (by simp)
theorem parse_fn (J:Inv) (l:List UInt8) (hl:l.length≤140737488355328):Fn Tryz.prog J 23 false [.by l] (.tu [tlsV (parseF l).1, .i (parseF l).2.1, .i (parseF l).2.2]):=by
 refine Fn.of_plain (nx:=3) (post:=[]) ?_ (by simp[tlsV,V.cl,clL,tls_cl,V.i])
 refine fnJ Tryz.func23 rfl (by kernel_rfl) (G3_ok J) rfl ?_
 unfold Tryz.f23
 simp only[bnA,reduceLeDiff,reduceEqDiff,reduceLT,reduceAdd,↓reduceIte,reduceCtorEq,G3,G3h,elPost]
 have R32:=elF_ok l 32
 refine⟨fun h=> ?_,fun h=> ?_⟩
 ·have h:65536<l.length:=by simp only[decide_eq_true_eq] at h;omega
  have e:parseF l=([],10,0):=by unfold parseF;rw[if_pos h]
  rw[e]
  refine .inl ?_
  simp only[bnA,reduceLeDiff,reduceEqDiff,reduceAdd,↓reduceIte,reduceCtorEq,tlsV,tlvD,tls]
  simp
 ·have h: ¬65536<l.length:=by simp only[decide_eq_false_iff_not] at h;omega
  refine⟨by omega,fun h1=> ?_,fun h1=> ?_⟩
  ·simp only[Bool.and_eq_true,beq_iff_eq,decide_eq_true_eq] at h1
   have e:parseF l=([],80,(elF l 32 0 l.length []).ret):=by unfold parseF;rw[if_neg h,if_pos h1.1,if_pos (by omega)]
   rw[e]
   refine⟨fun _=> .inl ?_,fun h2=>by simp at h2⟩
   simp only[bnA,reduceLeDiff,reduceEqDiff,reduceAdd,↓reduceIte,reduceCtorEq,tlsV,tlvD,tls]
  ·simp only[Bool.and_eq_false_iff,beq_eq_false_iff_ne,decide_eq_false_iff_not] at h1
   refine⟨fun h2=> ?_,fun h2=> ?_⟩
   ·have h2: ¬(elF l 32 0 l.length []).code=0:=by simpa using h2
    have e:parseF l=([],(elF l 32 0 l.length []).code,(elF l 32 0 l.length []).place):=by unfold parseF;rw[if_neg h,if_neg h2]
    rw[e]
    refine .inl ?_
    simp only[bnA,reduceLeDiff,reduceEqDiff,reduceAdd,↓reduceIte,reduceCtorEq,tlsV,tlvD,tls]
   ·have h2:(elF l 32 0 l.length []).code=0:=by simpa using h2
    have e:parseF l=((elF l 32 0 l.length []).out,0,0):=by unfold parseF;rw[if_neg h,if_pos h2,if_neg (by omega)]
    rw[e]
    refine .inl ?_
    simp only[bnA,reduceLeDiff,reduceEqDiff,reduceAdd,↓reduceIte,reduceCtorEq,tlsV,tlvD,tloV,tlvOD,tlo_er,tls_cl,er2,er1]
    rfl
def At (l':List UInt8) (s:Nat) (l:List UInt8):Prop:= ∃pre suf,l'=pre++(l++suf)∧pre.length=s
theorem At.byte {l' l:List UInt8} {s:Nat} (h:At l' s l) {i:Nat} (hi:i<l.length):byteN l' (s+i)=byteN l i:=by
 obtain⟨pre,suf,rfl,rfl⟩:=h
 rw[byteN_eq,byteN_eq,List.getElem?_append_right (by omega),Nat.add_sub_cancel_left,List.getElem?_append_left hi]
theorem At.cut {l' l:List UInt8} {s:Nat} (h:At l' s l) {f n:Nat} (hi:f+n≤l.length):(l'.drop (s+f)).take n=(l.drop f).take n:=by
 obtain⟨pre,suf,rfl,rfl⟩:=h
 rw[←List.drop_drop,List.drop_left,List.drop_append_of_le_length (by omega),List.take_append_of_le_length (by simp;omega)]
theorem At.left {l' a b:List UInt8} {s:Nat} (h:At l' s (a++b)):At l' s a:=by
 obtain⟨pre,suf,rfl,rfl⟩:=h
 exact⟨pre,b++suf,by simp,rfl⟩
theorem At.right {l' a b:List UInt8} {s:Nat} (h:At l' s (a++b)):At l' (s+a.length) b:=by
 obtain⟨pre,suf,rfl,rfl⟩:=h
 exact⟨pre++a,suf,by simp,by simp⟩
theorem beV_ext {a b:List UInt8}: ∀{k:Nat},(∀i,i<k→byteN a i=byteN b i)→beV a k=beV b k
 |0,_=>rfl
 |k+1,h=>by rw[beV,beV,beV_ext (fun i hi=>h i (by omega)),h k (by omega)]
theorem byteN_drop (l:List UInt8) (a i:Nat):byteN (l.drop a) i=byteN l (a+i):=by rw[byteN_eq,byteN_eq,List.getElem?_drop]
theorem headF_at {l l':List UInt8} {s:Nat} (h:At l' s l) {p q:Nat} (hq:q≤l.length):
  (headF l' (s+p) (s+q)).2.2=(headF l p q).2.2∧((headF l p q).2.2=true→(headF l' (s+p) (s+q)).1=s+(headF l p q).1∧(headF l' (s+p) (s+q)).2.1=s+(headF l p q).2.1):=by
 unfold headF
 by_cases h1:q<p+2
 ·rw[if_pos h1,if_pos (by omega)];simp
 ·rw[if_neg h1,if_neg (by omega)]
  have e1:byteN l' (s+p+1)=byteN l (p+1):=h.byte (i:=p+1) (by omega)
  rw[e1]
  by_cases h2:byteN l (p+1)<128
  ·rw[if_pos h2,if_pos h2]
   refine⟨?_,fun _=>⟨?_,?_⟩⟩
   ·simp only[decide_eq_decide];omega
   ·simp only;omega
   ·simp only;omega
  ·rw[if_neg h2,if_neg h2]
   by_cases h3:byteN l (p+1)=128∨132<byteN l (p+1)∨q<p+2+(byteN l (p+1)-128)
   ·rw[if_pos (by omega),if_pos (by omega)];simp
   ·have e2:byteN l' (s+p+2)=byteN l (p+2):=h.byte (i:=p+2) (by omega)
    rw[e2]
    by_cases h4:byteN l (p+2)=0∨(byteN l (p+1)=129∧byteN l (p+2)<128)
    ·rw[if_pos (by omega),if_pos (by omega)];simp
    ·rw[if_neg (by omega),if_neg (by omega)]
     have e3:beV (l'.drop (s+p+2)) (byteN l (p+1)-128)=beV (l.drop (p+2)) (byteN l (p+1)-128):=beV_ext fun i hi=>by
      rw[byteN_drop,byteN_drop,show s+p+2+i=s+(p+2+i) from by omega,h.byte (by omega)]
     rw[e3]
     refine⟨?_,fun _=>⟨?_,?_⟩⟩
     ·simp only[decide_eq_decide];omega
     ·simp only;omega
     ·simp only;omega
theorem headF_q {l:List UInt8} {p q q2:Nat} (h:(headF l p q).2.2=true) (hq:q≤q2):headF l p q2=headF l p q:=by
 unfold headF at h⊢
 by_cases h1:q<p+2
 ·rw[if_pos h1] at h;simp at h
 ·rw[if_neg h1] at h
  rw[if_neg h1,if_neg (show ¬q2<p+2 by omega)]
  by_cases h2:byteN l (p+1)<128
  ·rw[if_pos h2] at h
   rw[if_pos h2,if_pos h2]
   simp only[decide_eq_true_eq] at h
   simp only[Prod.mk.injEq,true_and,decide_eq_decide];omega
  ·rw[if_neg h2] at h
   rw[if_neg h2,if_neg h2]
   by_cases h3:byteN l (p+1)=128∨132<byteN l (p+1)∨q<p+2+(byteN l (p+1)-128)∨byteN l (p+2)=0∨(byteN l (p+1)=129∧byteN l (p+2)<128)
   ·rw[if_pos h3] at h;simp at h
   ·rw[if_neg h3] at h
    rw[if_neg h3,if_neg (by omega)]
    simp only[decide_eq_true_eq] at h
    simp only[Prod.mk.injEq,true_and,decide_eq_decide];omega
theorem byteAt_byte {l l':List UInt8} {i j:Nat} (h:byteN l i=byteN l' j):byteAt l i=byteAt l' j:=by rw[byteAt_N,byteAt_N,h]
theorem headF_lt {l:List UInt8} {p q:Nat} (h:(headF l p q).2.2=true):p+2≤q:=by
 have:=headF_ok h;omega
theorem tag_at {l l':List UInt8} {s:Nat} (h:At l' s l) {p q:Nat} (hq:q≤l.length):tagAt l' (s+p) (s+q)=tagAt l p q:=by
 unfold tagAt
 rw[(headF_at h hq).1]
 split
 ·rename_i h1
  have:=headF_lt h1
  exact byteAt_byte (h.byte (by omega))
 ·rfl
theorem cut_at {l l':List UInt8} {s:Nat} (h:At l' s l) {p q:Nat} (hq:q≤l.length) (ho:(headF l p q).2.2=true):cutF l' (s+p) (s+q)=cutF l p q:=by
 obtain⟨h1,h2⟩:=(headF_at h (p:=p) hq).2 ho
 have h3:=headF_ok ho
 unfold cutF
 rw[h1,h2,show s+(headF l p q).2.1-(s+(headF l p q).1)=(headF l p q).2.1-(headF l p q).1 from by omega]
 exact h.cut (by omega)
theorem bad_at {l l':List UInt8} {s:Nat} (h:At l' s l) {p q:Nat} (hq:q≤l.length):badF l' (s+p) (s+q)=badF l p q:=by
 unfold badF
 rw[tag_at h hq,(headF_at h (p:=p) hq).1]
 cases ho:(headF l p q).2.2
 ·simp
 ·rw[cut_at h hq ho]
theorem bad_ok {l:List UInt8} {p q:Nat} (h: ¬badF l p q=true):(headF l p q).2.2=true:=by
 cases ho:(headF l p q).2.2
 ·exact absurd (badF_no' ho) h
 ·rfl
where badF_no' {l:List UInt8} {p q:Nat} (h:(headF l p q).2.2=false):badF l p q=true:=by unfold badF;rw[h];simp
def sh (s:Nat) (e:ER):ER:=⟨e.out,e.code,if e.code=0 then 0 else s+e.place,if e.code=0 then s+e.ret else 0⟩
theorem kdF_at {s L:Nat} {rec rec':Nat→Nat→List Tlv→ER} (h: ∀p q out,q≤L→rec' (s+p) (s+q) out=sh s (rec p q out)) {me tq:Nat} (ht:tq≤L): ∀n p out,kdF rec' me (s+tq) n (s+p) out=sh s (kdF rec me tq n p out)
 |0,p,out=>by rw[kdF,kdF];rfl
 |n+1,p,out=>by
  rw[kdF,kdF,h p tq out ht]
  by_cases h1:p<tq
  ·rw[if_pos h1,if_pos (by omega)]
   by_cases h2:(rec p tq out).code=0
   ·rw[if_pos h2,if_pos (by simpa [sh] using h2)]
    simp only[sh,if_pos h2]
    exact kdF_at h ht n _ _
   ·rw[if_neg h2,if_neg (by simpa [sh] using h2)]
    simp[sh,h2]
  ·rw[if_neg h1,if_neg (by omega)];rfl
theorem elB_at {l l':List UInt8} {s:Nat} (h:At l' s l) {rec rec':Option (Nat→Nat→List Tlv→ER)} (hr:(rec=none∧rec'=none)∨ ∃r r',rec=some r∧rec'=some r'∧ ∀p q out,q≤l.length→r' (s+p) (s+q) out=sh s (r p q out)) {p q:Nat} {out:List Tlv} (hq:q≤l.length):elB l' rec' (s+p) (s+q) out=sh s (elB l rec p q out):=by
 unfold elB
 rw[bad_at h hq]
 by_cases hb:badF l p q=true
 ·rw[if_pos hb,if_pos hb];rfl
 ·have ho:=bad_ok hb
  rw[if_neg hb,if_neg hb,tag_at h hq,cut_at h hq ho]
  obtain⟨h1,h2⟩:=(headF_at h (p:=p) hq).2 ho
  have h3:=headF_ok ho
  rw[h1,h2]
  by_cases hi:innerF (tagAt l p q)=false
  ·rw[if_pos hi,if_pos hi];rfl
  ·rw[if_neg hi,if_neg hi]
   rcases hr with ⟨rfl,rfl⟩|⟨r,r',rfl,rfl,hr⟩
   ·rfl
   ·simp only
    rw[show s+(headF l p q).2.1-(s+(headF l p q).1)+1=(headF l p q).2.1-(headF l p q).1+1 from by omega]
    exact kdF_at hr (by omega) _ _ _
theorem elF_at {l l':List UInt8} {s:Nat} (h:At l' s l): ∀d {p q:Nat} {out:List Tlv},q≤l.length→elF l' d (s+p) (s+q) out=sh s (elF l d p q out)
 |0,_,_,_,hq=>elB_at h (.inl ⟨rfl,rfl⟩) hq
 |d+1,_,_,_,hq=>elB_at h (.inr ⟨_,_,rfl,rfl,fun _ _ _ hq=>elF_at h d hq⟩) hq
theorem elB_q {l:List UInt8} {rec:Option (Nat→Nat→List Tlv→ER)} {p q q2:Nat} {out:List Tlv} (h:(headF l p q).2.2=true) (hq:q≤q2):elB l rec p q2 out=elB l rec p q out:=by
 unfold elB badF tagAt cutF
 rw[headF_q h hq]
theorem elF_q {l:List UInt8} {d p q q2:Nat} {out:List Tlv} (h:(headF l p q).2.2=true) (hq:q≤q2):elF l d p q2 out=elF l d p q out:=by
 cases d<;>exact elB_q h hq
theorem elB_head {l:List UInt8} {rec:Option (Nat→Nat→List Tlv→ER)} {p q:Nat} {out:List Tlv} (h:(elB l rec p q out).code≠80):(headF l p q).2.2=true:=by
 apply bad_ok
 intro hb
 unfold elB at h
 rw[if_pos hb] at h
 exact h rfl
theorem elF_head {l:List UInt8} {d p q:Nat} {out:List Tlv} (h:(elF l d p q out).code≠80):(headF l p q).2.2=true:=by
 cases d<;>exact elB_head h
theorem byteN_cons (c:UInt8) (l:List UInt8) (i:Nat):byteN (c::l) (i+1)=byteN l i:=by rw[byteN_eq,byteN_eq,List.getElem?_cons_succ]
theorem byteN_zero (c:UInt8) (l:List UInt8):byteN (c::l) 0=c.toNat:=rfl
theorem byteN_left {a b:List UInt8} {i:Nat} (h:i<a.length):byteN (a++b) i=byteN a i:=by rw[byteN_eq,byteN_eq,List.getElem?_append_left h]
theorem byteN_mid (a b:List UInt8):byteN (a++b) a.length=byteN b 0:=by rw[byteN_eq,byteN_eq,List.getElem?_append_right (Nat.le_refl _),Nat.sub_self]
theorem u8_nah {n:Nat} (h:n<256):(u8 (n:Int)).toNat=n:=by
 have:=u8_toNat (n:Int) (by omega) (by omega);omega
theorem beV_left {a b:List UInt8} {k:Nat} (h:k≤a.length):beV (a++b) k=beV a k:=beV_ext fun i hi=>byteN_left (by omega)
theorem beV_beF (n:Nat):beV (beF n) (beF n).length=n:=by
 induction n using Nat.strongRecOn with
 |_ n ih=>
  rw[beF]
  split
  ·rename_i h;simp[beV,h]
  ·rw[List.length_append,List.length_singleton,beV,beV_left (Nat.le_refl _),ih (n/256) (by omega),byteN_mid,byteN_zero,u8_nah (by omega)]
   omega
theorem beF_pos {n:Nat} (h:0<n):0<(beF n).length:=by
 rw[beF,if_neg (by omega)];simp
theorem beF_lead (n:Nat) (h:0<n):byteN (beF n) 0≠0:=by
 induction n using Nat.strongRecOn with
 |_ n ih=>
  rw[beF,if_neg (by omega)]
  by_cases h1:n<256
  ·rw[show n/256=0 from by omega,show beF 0=[] from by rw[beF];simp,List.nil_append,byteN_zero,u8_nah (by omega)]
   omega
  ·rw[byteN_left (beF_pos (by omega))]
   exact ih _ (by omega) (by omega)
theorem headF_len {c:UInt8} {n q:Nat} {r:List UInt8} (hn:n<4294967296) (hq:1+(lenF n).length+n≤q):headF (c::(lenF n++r)) 0 q=(1+(lenF n).length,1+(lenF n).length+n,true):=by
 unfold lenF at hq⊢
 by_cases h1:n<128
 ·rw[if_pos h1] at hq⊢
  simp only[List.length_cons,List.length_nil] at hq⊢
  unfold headF
  have e:byteN (c::([u8 (n:Int)]++r)) (0+1)=n:=by rw[byteN_cons,List.singleton_append,byteN_zero,u8_nah (by omega)]
  rw[if_neg (by omega),e,if_pos h1]
  simp only[Prod.mk.injEq,decide_eq_true_eq,true_and];omega
 ·rw[if_neg h1] at hq⊢
  simp only[List.length_cons] at hq⊢
  have h2:=beF_pos (n:=n) (by omega)
  have h3:=beF_len n 4 (by omega)
  have h4:=beF_lead n (by omega)
  have h5:=beV_beF n
  generalize hK:(beF n).length=K at h2 h3 h5 hq⊢
  have e1:byteN (c::((u8 ((128+K:Nat):Int)::beF n)++r)) (0+1)=128+K:=by rw[byteN_cons,List.cons_append,byteN_zero,u8_nah (by omega)]
  have e2:byteN (c::((u8 ((128+K:Nat):Int)::beF n)++r)) (0+2)=byteN (beF n) 0:=by
   rw[show 0+2=0+1+1 from rfl,byteN_cons,List.cons_append,byteN_cons,byteN_left (by omega)]
  have e3:beV ((c::((u8 ((128+K:Nat):Int)::beF n)++r)).drop (0+2)) (128+K-128)=n:=by
   simp only[List.cons_append,List.drop_succ_cons,List.drop_zero]
   rw[show 128+K-128=K from by omega,beV_left (by omega),h5]
  unfold headF
  rw[if_neg (by omega),e1,if_neg (by omega),e2,e3]
  rw[if_neg]
  ·simp only[Prod.mk.injEq,decide_eq_true_eq];omega
  ·rintro(h|h|h|h|⟨h,h'⟩)
   ·omega
   ·omega
   ·omega
   ·exact h4 h
   ·have:K=1:=by omega
    rw[this] at h5
    simp only[beV] at h5
    omega
theorem stF_nx {ts:List Tlv} {d x y:Nat} (hd:d≤32) (h:stF ts d x=some y):nxI ts x=y∧inI ts x=inF ts d x:=by
 obtain⟨h1,h2⟩:=stF_mono hd h
 exact⟨by simp[nxI,nxG,h1],h2⟩
def sli (ts:List Tlv) (a b:Nat):List Tlv:=(ts.drop a).take (b-a)
theorem sli_add (ts:List Tlv) {a b c:Nat} (h1:a≤b) (h2:b≤c):sli ts a b++sli ts b c=sli ts a c:=by
 unfold sli
 rw[show c-a=(b-a)+(c-b) from by omega,List.take_add,List.drop_drop,show a+(b-a)=b from by omega]
theorem sli_one (ts:List Tlv) {a:Nat} (h:a<ts.length):sli ts a (a+1)=[ts.getD a default]:=by
 unfold sli
 rw[List.drop_eq_getElem_cons h,show a+1-a=1 from by omega,List.getD_eq_getElem?_getD,List.getElem?_eq_getElem h];rfl
def eB (ts:List Tlv) (x:Nat):List UInt8:=fl ts (inI ts) x (nxI ts x-x)
def BackAt (ts:List Tlv) (d:Nat):Prop:= ∀x y,stF ts d x=some y→ ∀out,elF (eB ts x) d 0 (eB ts x).length out=⟨out++sli ts x y,0,0,(eB ts x).length⟩
theorem back_kids {ts:List Tlv} (hs:Shp ts) {d:Nat} (hd:d≤32) (hb:BackAt ts d): ∀n a b,stK (stF ts d) n a=some b→ ∀(l:List UInt8) (p tq:Nat),At l p (fl ts (inI ts) a (b-a))→tq=p+(fl ts (inI ts) a (b-a)).length→tq≤l.length→ ∀fuel,tq-p<fuel→ ∀(O:List Tlv) (t:Tlv) (m:List Tlv),
  kdF (elF l d) O.length tq fuel p (O++t::m)=⟨O++⟨t.tag,t.data,t.kids+n⟩::(m++sli ts a b),0,0,tq⟩
 |0,a,b,h,l,p,tq,hat,hto,htl,fuel,hf,O,t,m=>by
  obtain rfl:a=b:=by simpa [stK] using h
  rw[Nat.sub_self,fl] at hto
  simp only[List.length_nil,Nat.add_zero] at hto
  subst hto
  cases fuel with
  |zero=>omega
  |succ f=>
   rw[kdF,if_neg (by omega)]
   simp[sli]
 |n+1,a,b,h,l,p,tq,hat,hto,htl,fuel,hf,O,t,m=>by
  rw[stK] at h
  split at h
  ·rename_i c hc
   obtain⟨e1,e2⟩:=stF_nx hd hc
   have hac:=stF_ok d hc
   have hcb:c≤b:=by
    have:=(stK_visit (ts:=ts) (Q:=fun _=>True) (r:=stF ts d) (fun a b h=>⟨(stF_ok d h).1,fun _ _ _=>trivial⟩) n c b h).1
    exact this
   have hsp:fl ts (inI ts) a (b-a)=eB ts a++fl ts (inI ts) c (b-c):=by
    rw[fl_split ts (inI ts) (Nat.le_of_lt hac.1) hcb,eB,e1]
   rw[hsp] at hat hto
   rw[List.length_append] at hto
   have h1:elF l d p (p+(eB ts a).length) (O++t::m)=⟨O++t::m++sli ts a c,0,0,p+(eB ts a).length⟩:=by
    have:=elF_at hat.left d (p:=0) (q:=(eB ts a).length) (out:=O++t::m) (Nat.le_refl _)
    rw[Nat.add_zero] at this
    rw[this,hb a c hc];rfl
   have hh:=elF_head (l:=l) (d:=d) (p:=p) (q:=p+(eB ts a).length) (out:=O++t::m) (by rw[h1];simp)
   have hlt:=headF_lt hh
   have h2:elF l d p tq (O++t::m)=⟨O++t::m++sli ts a c,0,0,p+(eB ts a).length⟩:=by rw[elF_q hh (by omega),h1]
   cases fuel with
   |zero=>omega
   |succ f=>
    rw[kdF,if_pos (by omega),h2]
    simp only[if_true]
    rw[List.append_assoc,List.cons_append,addKid_at,back_kids hs hd hb n c b h l (p+(eB ts a).length) tq hat.right (by omega) htl f (by omega)]
    simp only[ER.mk.injEq,and_true,List.append_cancel_left_eq,List.cons.injEq,Tlv.mk.injEq,true_and]
    refine⟨by omega,?_⟩
    rw[List.append_assoc,sli_add ts (by omega) hcb]
  ·cases h
theorem back_all {ts:List Tlv} (hs:Shp ts) (hsz: ∀x,x<ts.length→szI ts x≤65536): ∀d,d≤32→BackAt ts d:=by
 have key: ∀d x y,d≤32→stF ts d x=some y→x<ts.length→x<y∧tagF (tagT ts x)=true→ ∃r,eB ts x=u8 (tagT ts x)::(lenF (inI ts x)++(datT ts x++fl ts (inI ts) (x+1) (y-(x+1))))∧(datT ts x++fl ts (inI ts) (x+1) (y-(x+1))).length=inI ts x∧headF (eB ts x) 0 (eB ts x).length=(1+(lenF (inI ts x)).length,(eB ts x).length,true)∧(eB ts x).length=1+(lenF (inI ts x)).length+inI ts x∧r=0:=by
  intro d x y hd h hx ⟨hxy,ht⟩
  obtain⟨e1,e2⟩:=stF_nx hd h
  have hl:=hs.len ts.length x (by omega) hx
  have h1:eB ts x=u8 (tagT ts x)::(lenF (inI ts x)++(datT ts x++fl ts (inI ts) (x+1) (y-(x+1)))):=by
   unfold eB
   rw[e1,show y-x=(y-(x+1))+1 from by omega,fl,pieceT]
   simp
  have h2:(eB ts x).length=1+(lenF (inI ts x)).length+inI ts x:=hl
  have h3:=hsz x hx
  unfold szI szOf at h3
  refine⟨0,h1,?_,?_,h2,rfl⟩
  ·rw[h1] at h2
   simp only[List.length_cons,List.length_append] at h2⊢
   omega
  ·rw[h2]
   conv=>lhs;arg 1;rw[h1]
   exact headF_len (by omega) (Nat.le_refl _)
 have tagged: ∀x r,tagF (tagT ts x)=true→eB ts x=u8 (tagT ts x)::r→byteAt (eB ts x) 0=tagT ts x:=by
  intro x r ht h
  obtain⟨t0,t1⟩:=tagF_range ht
  rw[h]
  unfold byteAt
  simp only[List.getD_cons_zero]
  exact u8_toNat _ t0 (by omega)
 have prim: ∀d x y (rec:Option (Nat→Nat→List Tlv→ER)),d≤32→stF ts d x=some y→x<ts.length→tagF (tagT ts x)=true→innerF (tagT ts x)=false∧(ts.getD x default).kids=0∧rightF (tagT ts x) (datT ts x)=true∧y=x+1→
   ∀out,elB (eB ts x) rec 0 (eB ts x).length out=⟨out++sli ts x y,0,0,(eB ts x).length⟩:=by
  intro d x y rec hd h hx ht ⟨h3,h4,h5,h6⟩ out
  subst h6
  obtain⟨_,k1,k2,k3,k4,_⟩:=key d x _ hd h hx ⟨by omega,ht⟩
  have k5:=tagged x _ ht k1
  rw[Nat.sub_self,fl,List.append_nil] at k1 k2
  have k6:tagAt (eB ts x) 0 (eB ts x).length=tagT ts x:=by unfold tagAt;rw[k3,if_pos rfl,k5]
  have k7:cutF (eB ts x) 0 (eB ts x).length=datT ts x:=by
   unfold cutF
   rw[k3]
   simp only
   have e:(eB ts x).length-(1+(lenF (inI ts x)).length)=(datT ts x).length:=by omega
   rw[e,k1,show 1+(lenF (inI ts x)).length=(lenF (inI ts x)).length+1 from by omega,List.drop_succ_cons,List.drop_left,List.take_length]
  unfold elB badF
  rw[k6,k7,k3,ht,h3,h5,sli_one ts hx]
  simp only[Bool.not_true,Bool.and_false,Bool.or_self,Bool.false_eq_true,if_false,if_true]
  have:ts.getD x default=⟨tagT ts x,datT ts x,0⟩:=by rw[←h4];rfl
  rw[this]
 intro d
 induction d with
 |zero=>
  intro hd x y h out
  obtain⟨h1,h2,h3⟩:=stB_cases h
  rcases h3 with h3|⟨_,_,_,r,hr,_⟩
  ·exact prim 0 x y none hd h h1 h2 h3 out
  ·cases hr
 |succ d ih=>
  intro hd x y h out
  obtain⟨h1,h2,h3⟩:=stB_cases h
  rcases h3 with h3|⟨h3,h4,h5,r,hr,hk⟩
  ·exact prim (d+1) x y (some (elF (eB ts x) d)) hd h h1 h2 h3 out
  ·simp only[Option.some.injEq] at hr
   subst hr
   obtain⟨_,k1,k2,k3,k4,_⟩:=key (d+1) x _ hd h h1 ⟨(stF_ok _ h).1,h2⟩
   have k5:=tagged x _ h2 k1
   rw[h5,List.nil_append] at k1 k2
   have k6:tagAt (eB ts x) 0 (eB ts x).length=tagT ts x:=by unfold tagAt;rw[k3,if_pos rfl,k5]
   show elB (eB ts x) (some (elF (eB ts x) d)) 0 (eB ts x).length out=_
   unfold elB badF
   rw[k6,k3,h2,h3]
   simp only[Bool.not_true,Bool.false_and,Bool.or_self,Bool.false_eq_true,if_false,Bool.true_eq_false]
   have hat:At (eB ts x) (1+(lenF (inI ts x)).length) (fl ts (inI ts) (x+1) (y-(x+1))):=⟨u8 (tagT ts x)::lenF (inI ts x),[],by rw[List.append_nil,k1];rfl,by simp;omega⟩
   have:=back_kids hs (by omega) (ih (by omega)) (kidT ts x) (x+1) y hk (eB ts x) (1+(lenF (inI ts x)).length) (eB ts x).length hat (by omega) (Nat.le_refl _) ((eB ts x).length-(1+(lenF (inI ts x)).length)+1) (by omega) out ⟨tagT ts x,[],0⟩ []
   rw[this,←sli_add ts (show x≤x+1 by omega) (Nat.succ_le_of_lt (stF_ok _ h).1),sli_one ts h1]
   have e:ts.getD x default=⟨tagT ts x,[],0+(kidT ts x:Int)⟩:=by
    rw[←h5]
    unfold tagT datT kidT
    rw[Int.toNat_of_nonneg h4,Int.zero_add]
   rw[e];rfl
theorem parse_print {ts:List Tlv} (h:(printF ts).2=0):parseF (printF ts).1=(ts,0,0)∧(printF ts).1.length≤65536:=by
 have h1:shapedF ts=true:=by
  cases e:shapedF ts
  ·unfold printF at h;rw[if_pos e] at h;simp at h
  ·rfl
 have h2: ¬bigF ts=true:=fun e=>by unfold printF at h;rw[if_neg (by rw[h1];simp),if_pos e] at h;simp at h
 have e:printF ts=(fl ts (inI ts) 0 ts.length,0):=by unfold printF;rw[if_neg (by rw[h1];simp),if_neg h2]
 obtain⟨s1,s2,s3⟩:=shapedF_shp h1
 have hsz: ∀x,x<ts.length→szI ts x≤65536:=fun x hx=>by
  rcases Nat.lt_or_ge 65536 (szI ts x) with hl|hl
  ·exact absurd (by unfold bigF;rw[List.any_eq_true];exact⟨x,List.mem_range.2 hx,by simpa using hl⟩) h2
  ·exact hl
 have h3:=back_all s3 hsz 32 (Nat.le_refl _) 0 ts.length s1 []
 have h4:eB ts 0=fl ts (inI ts) 0 ts.length:=by unfold eB;rw[(stF_nx (Nat.le_refl _) s1).1];rfl
 have h5:=s3.len ts.length 0 (by omega) s2
 have h6:(eB ts 0).length≤65536:=by
  have:=hsz 0 s2
  unfold eB;omega
 rw[e]
 simp only
 rw[←h4]
 refine⟨?_,h6⟩
 unfold parseF
 rw[if_neg (by omega),h3]
 simp only[if_true,Nat.lt_irrefl,if_false,sli,List.nil_append,List.drop_zero,Nat.sub_zero,List.take_length]
def Ag (ts:List Tlv) (a:Nat) (m:List Tlv):Prop:= ∃rest,ts.drop a=m++rest
theorem Ag.left {ts:List Tlv} {a:Nat} {m n:List Tlv} (h:Ag ts a (m++n)):Ag ts a m:=by
 obtain⟨r,h⟩:=h
 exact⟨n++r,by rw[h];simp⟩
theorem Ag.right {ts:List Tlv} {a:Nat} {m n:List Tlv} (h:Ag ts a (m++n)):Ag ts (a+m.length) n:=by
 obtain⟨r,h⟩:=h
 exact⟨r,by rw[←List.drop_drop,h];simp⟩
theorem Ag.head {ts:List Tlv} {a:Nat} {t:Tlv} {m:List Tlv} (h:Ag ts a (t::m)):a<ts.length∧ts.getD a default=t:=by
 obtain⟨r,h⟩:=h
 have h1:a<ts.length:=by
  rcases Nat.lt_or_ge a ts.length with hl|hl
  ·exact hl
  ·rw[List.drop_eq_nil_of_le hl] at h;simp at h
 refine⟨h1,?_⟩
 rw[List.drop_eq_getElem_cons h1] at h
 simp only[List.cons_append,List.cons.injEq] at h
 rw[List.getD_eq_getElem?_getD,List.getElem?_eq_getElem h1]
 exact h.1
structure Dp (x y:ER):Prop where
 yes:x.code=0→y=x∨(y.code=11∧y.place<x.ret)
 deep:x.code=11→y.code=11∧y.place≤x.place
end Go.Proofs.YtfengpdaocgcnaaGreatDoor
