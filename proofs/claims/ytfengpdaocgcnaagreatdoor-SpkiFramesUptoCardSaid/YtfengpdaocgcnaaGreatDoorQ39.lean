/- DER there and back. Plain Lean. -/
import Derived.Test.YtfengpdaocgcnaaGreatDoorQ37
import Derived.Test.YtfengpdaocgcnaaGreatDoorQ38
namespace Go.Proofs.YtfengpdaocgcnaaGreatDoor
def At (l':List UInt8) (s:Nat) (l:List UInt8):Prop:= ∃pre suf,l'=pre++(l++suf)∧pre.length=s
theorem At.byte {l' l:List UInt8} {s:Nat} (h:At l' s l) {i:Nat} (hi:i<l.length):byteN l' (s+i)=byteN l i:=by
 obtain⟨pre,suf,rfl,rfl⟩:=h
 rw[byteN_eq,byteN_eq,List.getElem?_append_right (by omega),Nat.add_sub_cancel_left,List.getElem?_append_left hi]
theorem At.cut {l' l:List UInt8} {s:Nat} (h:At l' s l) {f n:Nat} (hi:f+n≤l.length):(l'.drop (s+f)).take n=(l.drop f).take n:=by
 obtain⟨pre,suf,rfl,rfl⟩:=h
 rw[←List.drop_drop,List.drop_left,List.drop_append_of_le_length (by omega),List.take_append_of_le_length (by simp;omega)]
theorem At.left {l' a b:List UInt8} {s:Nat} (h:At l' s (a++b)):At l' s a:=by
 obtain⟨pre,suf,rfl,rfl⟩:=h
 exact⟨pre,b++suf,by simp,rfl⟩
theorem At.right {l' a b:List UInt8} {s:Nat} (h:At l' s (a++b)):At l' (s+a.length) b:=by
 obtain⟨pre,suf,rfl,rfl⟩:=h
 exact⟨pre++a,suf,by simp,by simp⟩
theorem beV_ext {a b:List UInt8}: ∀{k:Nat},(∀i,i<k→byteN a i=byteN b i)→beV a k=beV b k
 |0,_=>rfl
 |k+1,h=>by rw[beV,beV,beV_ext (fun i hi=>h i (by omega)),h k (by omega)]
theorem byteN_drop (l:List UInt8) (a i:Nat):byteN (l.drop a) i=byteN l (a+i):=by rw[byteN_eq,byteN_eq,List.getElem?_drop]
theorem headF_at {l l':List UInt8} {s:Nat} (h:At l' s l) {p q:Nat} (hq:q≤l.length):
  (headF l' (s+p) (s+q)).2.2=(headF l p q).2.2∧((headF l p q).2.2=true→(headF l' (s+p) (s+q)).1=s+(headF l p q).1∧(headF l' (s+p) (s+q)).2.1=s+(headF l p q).2.1):=by
 unfold headF
 by_cases h1:q<p+2
 ·rw[if_pos h1,if_pos (by omega)];simp
 ·rw[if_neg h1,if_neg (by omega)]
  have e1:byteN l' (s+p+1)=byteN l (p+1):=h.byte (i:=p+1) (by omega)
  rw[e1]
  by_cases h2:byteN l (p+1)<128
  ·rw[if_pos h2,if_pos h2]
   refine⟨?_,fun _=>⟨?_,?_⟩⟩
   ·simp only[decide_eq_decide];omega
   ·simp only;omega
   ·simp only;omega
  ·rw[if_neg h2,if_neg h2]
   by_cases h3:byteN l (p+1)=128∨132<byteN l (p+1)∨q<p+2+(byteN l (p+1)-128)
   ·rw[if_pos (by omega),if_pos (by omega)];simp
   ·have e2:byteN l' (s+p+2)=byteN l (p+2):=h.byte (i:=p+2) (by omega)
    rw[e2]
    by_cases h4:byteN l (p+2)=0∨(byteN l (p+1)=129∧byteN l (p+2)<128)
    ·rw[if_pos (by omega),if_pos (by omega)];simp
    ·rw[if_neg (by omega),if_neg (by omega)]
     have e3:beV (l'.drop (s+p+2)) (byteN l (p+1)-128)=beV (l.drop (p+2)) (byteN l (p+1)-128):=beV_ext fun i hi=>by
      rw[byteN_drop,byteN_drop,show s+p+2+i=s+(p+2+i) from by omega,h.byte (by omega)]
     rw[e3]
     refine⟨?_,fun _=>⟨?_,?_⟩⟩
     ·simp only[decide_eq_decide];omega
     ·simp only;omega
     ·simp only;omega
theorem headF_q {l:List UInt8} {p q q2:Nat} (h:(headF l p q).2.2=true) (hq:q≤q2):headF l p q2=headF l p q:=by
 unfold headF at h⊢
 by_cases h1:q<p+2
 ·rw[if_pos h1] at h;simp at h
 ·rw[if_neg h1] at h
  rw[if_neg h1,if_neg (show ¬q2<p+2 by omega)]
  by_cases h2:byteN l (p+1)<128
  ·rw[if_pos h2] at h
   rw[if_pos h2,if_pos h2]
   simp only[decide_eq_true_eq] at h
   simp only[Prod.mk.injEq,true_and,decide_eq_decide];omega
  ·rw[if_neg h2] at h
   rw[if_neg h2,if_neg h2]
   by_cases h3:byteN l (p+1)=128∨132<byteN l (p+1)∨q<p+2+(byteN l (p+1)-128)∨byteN l (p+2)=0∨(byteN l (p+1)=129∧byteN l (p+2)<128)
   ·rw[if_pos h3] at h;simp at h
   ·rw[if_neg h3] at h
    rw[if_neg h3,if_neg (by omega)]
    simp only[decide_eq_true_eq] at h
    simp only[Prod.mk.injEq,true_and,decide_eq_decide];omega
theorem byteAt_byte {l l':List UInt8} {i j:Nat} (h:byteN l i=byteN l' j):byteAt l i=byteAt l' j:=by rw[byteAt_N,byteAt_N,h]
theorem headF_lt {l:List UInt8} {p q:Nat} (h:(headF l p q).2.2=true):p+2≤q:=by
 have:=headF_ok h;omega
theorem tag_at {l l':List UInt8} {s:Nat} (h:At l' s l) {p q:Nat} (hq:q≤l.length):tagAt l' (s+p) (s+q)=tagAt l p q:=by
 unfold tagAt
 rw[(headF_at h hq).1]
 split
 ·rename_i h1
  have:=headF_lt h1
  exact byteAt_byte (h.byte (by omega))
 ·rfl
theorem cut_at {l l':List UInt8} {s:Nat} (h:At l' s l) {p q:Nat} (hq:q≤l.length) (ho:(headF l p q).2.2=true):cutF l' (s+p) (s+q)=cutF l p q:=by
 obtain⟨h1,h2⟩:=(headF_at h (p:=p) hq).2 ho
 have h3:=headF_ok ho
 unfold cutF
 rw[h1,h2,show s+(headF l p q).2.1-(s+(headF l p q).1)=(headF l p q).2.1-(headF l p q).1 from by omega]
 exact h.cut (by omega)
theorem bad_at {l l':List UInt8} {s:Nat} (h:At l' s l) {p q:Nat} (hq:q≤l.length):badF l' (s+p) (s+q)=badF l p q:=by
 unfold badF
 rw[tag_at h hq,(headF_at h (p:=p) hq).1]
 cases ho:(headF l p q).2.2
 ·simp
 ·rw[cut_at h hq ho]
theorem bad_ok {l:List UInt8} {p q:Nat} (h: ¬badF l p q=true):(headF l p q).2.2=true:=by
 cases ho:(headF l p q).2.2
 ·exact absurd (badF_no' ho) h
 ·rfl
where badF_no' {l:List UInt8} {p q:Nat} (h:(headF l p q).2.2=false):badF l p q=true:=by unfold badF;rw[h];simp
def sh (s:Nat) (e:ER):ER:=⟨e.out,e.code,if e.code=0 then 0 else s+e.place,if e.code=0 then s+e.ret else 0⟩
theorem kdF_at {s L:Nat} {rec rec':Nat→Nat→List Tlv→ER} (h: ∀p q out,q≤L→rec' (s+p) (s+q) out=sh s (rec p q out)) {me tq:Nat} (ht:tq≤L): ∀n p out,kdF rec' me (s+tq) n (s+p) out=sh s (kdF rec me tq n p out)
 |0,p,out=>by rw[kdF,kdF];rfl
 |n+1,p,out=>by
  rw[kdF,kdF,h p tq out ht]
  by_cases h1:p<tq
  ·rw[if_pos h1,if_pos (by omega)]
   by_cases h2:(rec p tq out).code=0
   ·rw[if_pos h2,if_pos (by simpa [sh] using h2)]
    simp only[sh,if_pos h2]
    exact kdF_at h ht n _ _
   ·rw[if_neg h2,if_neg (by simpa [sh] using h2)]
    simp[sh,h2]
  ·rw[if_neg h1,if_neg (by omega)];rfl
theorem elB_at {l l':List UInt8} {s:Nat} (h:At l' s l) {rec rec':Option (Nat→Nat→List Tlv→ER)} (hr:(rec=none∧rec'=none)∨ ∃r r',rec=some r∧rec'=some r'∧ ∀p q out,q≤l.length→r' (s+p) (s+q) out=sh s (r p q out)) {p q:Nat} {out:List Tlv} (hq:q≤l.length):elB l' rec' (s+p) (s+q) out=sh s (elB l rec p q out):=by
 unfold elB
 rw[bad_at h hq]
 by_cases hb:badF l p q=true
 ·rw[if_pos hb,if_pos hb];rfl
 ·have ho:=bad_ok hb
  rw[if_neg hb,if_neg hb,tag_at h hq,cut_at h hq ho]
  obtain⟨h1,h2⟩:=(headF_at h (p:=p) hq).2 ho
  have h3:=headF_ok ho
  rw[h1,h2]
  by_cases hi:innerF (tagAt l p q)=false
  ·rw[if_pos hi,if_pos hi];rfl
  ·rw[if_neg hi,if_neg hi]
   rcases hr with ⟨rfl,rfl⟩|⟨r,r',rfl,rfl,hr⟩
   ·rfl
   ·simp only
    rw[show s+(headF l p q).2.1-(s+(headF l p q).1)+1=(headF l p q).2.1-(headF l p q).1+1 from by omega]
    exact kdF_at hr (by omega) _ _ _
theorem elF_at {l l':List UInt8} {s:Nat} (h:At l' s l): ∀d {p q:Nat} {out:List Tlv},q≤l.length→elF l' d (s+p) (s+q) out=sh s (elF l d p q out)
 |0,_,_,_,hq=>elB_at h (.inl ⟨rfl,rfl⟩) hq
 |d+1,_,_,_,hq=>elB_at h (.inr ⟨_,_,rfl,rfl,fun _ _ _ hq=>elF_at h d hq⟩) hq
theorem elB_q {l:List UInt8} {rec:Option (Nat→Nat→List Tlv→ER)} {p q q2:Nat} {out:List Tlv} (h:(headF l p q).2.2=true) (hq:q≤q2):elB l rec p q2 out=elB l rec p q out:=by
 unfold elB badF tagAt cutF
 rw[headF_q h hq]
theorem elF_q {l:List UInt8} {d p q q2:Nat} {out:List Tlv} (h:(headF l p q).2.2=true) (hq:q≤q2):elF l d p q2 out=elF l d p q out:=by
 cases d<;>exact elB_q h hq
theorem elB_head {l:List UInt8} {rec:Option (Nat→Nat→List Tlv→ER)} {p q:Nat} {out:List Tlv} (h:(elB l rec p q out).code≠80):(headF l p q).2.2=true:=by
 apply bad_ok
 intro hb
 unfold elB at h
 rw[if_pos hb] at h
 exact h rfl
theorem elF_head {l:List UInt8} {d p q:Nat} {out:List Tlv} (h:(elF l d p q out).code≠80):(headF l p q).2.2=true:=by
 cases d<;>exact elB_head h
def addO (o:List Tlv) (e:ER):ER:={e with out:=o++e.out}
theorem addKid_app (o ts:List Tlv) (me:Nat):addKid (o++ts) (o.length+me)=o++addKid ts me:=by
 unfold addKid
 rw[show(o++ts).getD (o.length+me) default=ts.getD me default from by rw[List.getD_eq_getElem?_getD,List.getD_eq_getElem?_getD,List.getElem?_append_right (by omega),Nat.add_sub_cancel_left],List.set_append_right _ _ (by omega),Nat.add_sub_cancel_left]
theorem kdF_out {rec:Nat→Nat→List Tlv→ER} (h: ∀o p q out,rec p q (o++out)=addO o (rec p q out)) (o:List Tlv) (me tq:Nat): ∀n p out,kdF rec (o.length+me) tq n p (o++out)=addO o (kdF rec me tq n p out)
 |0,p,out=>by rw[kdF,kdF];rfl
 |n+1,p,out=>by
  rw[kdF,kdF,h]
  split
  ·by_cases h2:(rec p tq out).code=0
   ·rw[if_pos h2,if_pos (by simpa [addO] using h2)]
    simp only[addO]
    rw[addKid_app]
    exact kdF_out h o me tq n _ _
   ·rw[if_neg h2,if_neg (by simpa [addO] using h2)]
    simp[addO]
  ·rfl
theorem elB_out {l:List UInt8} {rec:Option (Nat→Nat→List Tlv→ER)} (h: ∀r,rec=some r→ ∀o p q out,r p q (o++out)=addO o (r p q out)) (o:List Tlv) (p q:Nat) (out:List Tlv):elB l rec p q (o++out)=addO o (elB l rec p q out):=by
 unfold elB
 split
 ·rfl
 ·split
  ·simp[addO]
  ·cases rec with
   |none=>rfl
   |some r=>
    simp only
    rw[List.length_append,List.append_assoc]
    exact kdF_out (h r rfl) o _ _ _ _ _
theorem elF_out (l:List UInt8): ∀d o p q out,elF l d p q (o++out)=addO o (elF l d p q out)
 |0,o,p,q,out=>elB_out (fun r h=>by cases h) o p q out
 |d+1,o,p,q,out=>elB_out (fun r h=>by simp only[Option.some.injEq] at h;subst h;exact elF_out l d) o p q out
theorem byteN_cons (c:UInt8) (l:List UInt8) (i:Nat):byteN (c::l) (i+1)=byteN l i:=by rw[byteN_eq,byteN_eq,List.getElem?_cons_succ]
theorem byteN_zero (c:UInt8) (l:List UInt8):byteN (c::l) 0=c.toNat:=rfl
theorem byteN_left {a b:List UInt8} {i:Nat} (h:i<a.length):byteN (a++b) i=byteN a i:=by rw[byteN_eq,byteN_eq,List.getElem?_append_left h]
theorem byteN_mid (a b:List UInt8):byteN (a++b) a.length=byteN b 0:=by rw[byteN_eq,byteN_eq,List.getElem?_append_right (Nat.le_refl _),Nat.sub_self]
theorem u8_nah {n:Nat} (h:n<256):(u8 (n:Int)).toNat=n:=by
 have:=u8_toNat (n:Int) (by omega) (by omega);omega
theorem beV_left {a b:List UInt8} {k:Nat} (h:k≤a.length):beV (a++b) k=beV a k:=beV_ext fun i hi=>byteN_left (by omega)
theorem beV_beF (n:Nat):beV (beF n) (beF n).length=n:=by
 induction n using Nat.strongRecOn with
 |_ n ih=>
  rw[beF]
  split
  ·rename_i h;simp[beV,h]
  ·rw[List.length_append,List.length_singleton,beV,beV_left (Nat.le_refl _),ih (n/256) (by omega),byteN_mid,byteN_zero,u8_nah (by omega)]
   omega
theorem beF_pos {n:Nat} (h:0<n):0<(beF n).length:=by
 rw[beF,if_neg (by omega)];simp
theorem beF_lead (n:Nat) (h:0<n):byteN (beF n) 0≠0:=by
 induction n using Nat.strongRecOn with
 |_ n ih=>
  rw[beF,if_neg (by omega)]
  by_cases h1:n<256
  ·rw[show n/256=0 from by omega,show beF 0=[] from by rw[beF];simp,List.nil_append,byteN_zero,u8_nah (by omega)]
   omega
  ·rw[byteN_left (beF_pos (by omega))]
   exact ih _ (by omega) (by omega)
theorem headF_len {c:UInt8} {n q:Nat} {r:List UInt8} (hn:n<4294967296) (hq:1+(lenF n).length+n≤q):headF (c::(lenF n++r)) 0 q=(1+(lenF n).length,1+(lenF n).length+n,true):=by
 unfold lenF at hq⊢
 by_cases h1:n<128
 ·rw[if_pos h1] at hq⊢
  simp only[List.length_cons,List.length_nil] at hq⊢
  unfold headF
  have e:byteN (c::([u8 (n:Int)]++r)) (0+1)=n:=by rw[byteN_cons,List.singleton_append,byteN_zero,u8_nah (by omega)]
  rw[if_neg (by omega),e,if_pos h1]
  simp only[Prod.mk.injEq,decide_eq_true_eq,true_and];omega
 ·rw[if_neg h1] at hq⊢
  simp only[List.length_cons] at hq⊢
  have h2:=beF_pos (n:=n) (by omega)
  have h3:=beF_len n 4 (by omega)
  have h4:=beF_lead n (by omega)
  have h5:=beV_beF n
  generalize hK:(beF n).length=K at h2 h3 h5 hq⊢
  have e1:byteN (c::((u8 ((128+K:Nat):Int)::beF n)++r)) (0+1)=128+K:=by rw[byteN_cons,List.cons_append,byteN_zero,u8_nah (by omega)]
  have e2:byteN (c::((u8 ((128+K:Nat):Int)::beF n)++r)) (0+2)=byteN (beF n) 0:=by
   rw[show 0+2=0+1+1 from rfl,byteN_cons,List.cons_append,byteN_cons,byteN_left (by omega)]
  have e3:beV ((c::((u8 ((128+K:Nat):Int)::beF n)++r)).drop (0+2)) (128+K-128)=n:=by
   simp only[List.cons_append,List.drop_succ_cons,List.drop_zero]
   rw[show 128+K-128=K from by omega,beV_left (by omega),h5]
  unfold headF
  rw[if_neg (by omega),e1,if_neg (by omega),e2,e3]
  rw[if_neg]
  ·simp only[Prod.mk.injEq,decide_eq_true_eq];omega
  ·rintro(h|h|h|h|⟨h,h'⟩)
   ·omega
   ·omega
   ·omega
   ·exact h4 h
   ·have:K=1:=by omega
    rw[this] at h5
    simp only[beV] at h5
    omega
theorem beV_lead {l:List UInt8} (h:byteN l 0≠0): ∀k,256^k≤beV l (k+1)
 |0=>by rw[beV,beV];simp;omega
 |k+1=>by
  have:=beV_lead h k
  rw[beV,Nat.pow_succ];omega
theorem beF_mul {m x:Nat} (hm:0<m∨0<x) (hx:x<256):beF (m*256+x)=beF m++[u8 x]:=by
 conv=>lhs;rw[beF,if_neg (by omega)]
 rw[show(m*256+x)/256=m from by omega,show(m*256+x)%256=x from by omega]
theorem u8_byteN (l:List UInt8) {i:Nat} (h:i<l.length):u8 (byteN l i:Int)=l[i]:=by
 rw[byteN_eq,List.getElem?_eq_getElem h]
 simp only[Option.getD_some]
 apply UInt8.toNat_inj.1
 rw[u8_nah (l[i]).toNat_lt]
theorem beF_of {l:List UInt8} (h:byteN l 0≠0): ∀k,k+1≤l.length→beF (beV l (k+1))=l.take (k+1)
 |0,hk=>by
  have e:beV l (0+1)=0*256+byteN l 0:=rfl
  have:=byteN_lt l 0
  rw[e,beF_mul (.inr (by omega)) this,show beF 0=[] from by rw[beF];simp,u8_byteN l (by omega)]
  cases l with
  |nil=>simp at hk
  |cons a r=>rfl
 |k+1,hk=>by
  have:=byteN_lt l (k+1)
  have h1:=beV_lead h k
  have:0<256^k:=Nat.pow_pos (by omega)
  rw[beV,beF_mul (.inl (by omega)) (byteN_lt l (k+1)),beF_of h k (by omega),u8_byteN l (by omega),List.take_succ_eq_append_getElem (i:=k+1) (by omega)]
theorem byteAt_u8 {l:List UInt8} {i:Nat} (h:i<l.length):u8 (byteAt l i)=l[i]:=by rw[byteAt_N];exact u8_byteN l h
theorem drop_two {l:List UInt8} {p:Nat} (h:p+2≤l.length):l.drop p=u8 (byteAt l p)::u8 (byteAt l (p+1))::l.drop (p+2):=by
 rw[List.drop_eq_getElem_cons (by omega),List.drop_eq_getElem_cons (i:=p+1) (by omega),byteAt_u8 (by omega),byteAt_u8 (by omega)]
theorem head_inv {l:List UInt8} {p q:Nat} (hq:q≤l.length) (h:(headF l p q).2.2=true):
  szOf ((headF l p q).2.1-(headF l p q).1)=(headF l p q).2.1-p∧(l.drop p).take ((headF l p q).2.1-p)=u8 (byteAt l p)::(lenF ((headF l p q).2.1-(headF l p q).1)++cutF l p q):=by
 have hok:=headF_ok h
 unfold cutF
 unfold headF at h hok⊢
 by_cases h1:q<p+2
 ·rw[if_pos h1] at h;simp at h
 ·rw[if_neg h1] at h hok⊢
  have hd:=drop_two (l:=l) (p:=p) (by omega)
  by_cases h2:byteN l (p+1)<128
  ·rw[if_pos h2] at h hok⊢
   simp only[decide_eq_true_eq] at h hok⊢
   rw[show p+2+byteN l (p+1)-(p+2)=byteN l (p+1) from by omega]
   have e:lenF (byteN l (p+1))=[u8 (byteAt l (p+1))]:=by unfold lenF;rw[if_pos h2,byteAt_N]
   refine⟨?_,?_⟩
   ·unfold szOf;rw[e];simp;omega
   ·rw[hd,show p+2+byteN l (p+1)-p=byteN l (p+1)+1+1 from by omega,List.take_succ_cons,List.take_succ_cons,e];rfl
  ·rw[if_neg h2] at h hok⊢
   by_cases h3:byteN l (p+1)=128∨132<byteN l (p+1)∨q<p+2+(byteN l (p+1)-128)∨byteN l (p+2)=0∨(byteN l (p+1)=129∧byteN l (p+2)<128)
   ·rw[if_pos h3] at h;simp at h
   ·rw[if_neg h3] at h hok⊢
    simp only[decide_eq_true_eq] at h hok⊢
    obtain⟨K,hK⟩: ∃K,byteN l (p+1)=128+(K+1):=⟨byteN l (p+1)-129,by omega⟩
    rw[hK] at h hok h3⊢
    rw[show 128+(K+1)-128=K+1 from by omega] at h hok h3⊢
    have hl:byteN (l.drop (p+2)) 0≠0:=by rw[byteN_drop];simp only[Nat.add_zero];omega
    have hb:=beF_of hl K (by simp;omega)
    generalize hn:beV (l.drop (p+2)) (K+1)=n at h hok hb⊢
    rw[show p+2+(K+1)+n-(p+2+(K+1))=n from by omega]
    have hn128:128≤n:=by
     cases K with
     |zero=>
      rw[←hn,beV,beV,byteN_drop]
      simp only[Nat.add_zero];omega
     |succ K=>
      have:=beV_lead hl (K+1)
      have:256≤256^(K+1):=by rw[Nat.pow_succ];have:0<256^K:=Nat.pow_pos (by omega);omega
      omega
    have hbl:(beF n).length=K+1:=by rw[hb];simp;omega
    have e:lenF n=u8 (byteAt l (p+1))::(l.drop (p+2)).take (K+1):=by
     unfold lenF
     rw[if_neg (by omega),hbl,hb,byteAt_N,hK]
    refine⟨?_,?_⟩
    ·unfold szOf;rw[e];simp;omega
    ·rw[hd,show p+2+(K+1)+n-p=K+1+n+1+1 from by omega,List.take_succ_cons,List.take_succ_cons,e,List.cons_append,List.take_add,List.drop_drop]
end Go.Proofs.YtfengpdaocgcnaaGreatDoor
