/- DER there and back: the laws. Plain Lean. -/
import Derived.Test.YtfengpdaocgcnaaGreatDoorQ39
namespace Go.Proofs.YtfengpdaocgcnaaGreatDoor
theorem stF_nx {ts:List Tlv} {d x y:Nat} (hd:d≤32) (h:stF ts d x=some y):nxI ts x=y∧inI ts x=inF ts d x:=by
 obtain⟨h1,h2⟩:=stF_mono hd h
 exact⟨by simp[nxI,nxG,h1],h2⟩
def sli (ts:List Tlv) (a b:Nat):List Tlv:=(ts.drop a).take (b-a)
theorem sli_add (ts:List Tlv) {a b c:Nat} (h1:a≤b) (h2:b≤c):sli ts a b++sli ts b c=sli ts a c:=by
 unfold sli
 rw[show c-a=(b-a)+(c-b) from by omega,List.take_add,List.drop_drop,show a+(b-a)=b from by omega]
theorem sli_one (ts:List Tlv) {a:Nat} (h:a<ts.length):sli ts a (a+1)=[ts.getD a default]:=by
 unfold sli
 rw[List.drop_eq_getElem_cons h,show a+1-a=1 from by omega,List.getD_eq_getElem?_getD,List.getElem?_eq_getElem h];rfl
def eB (ts:List Tlv) (x:Nat):List UInt8:=fl ts (inI ts) x (nxI ts x-x)
def BackAt (ts:List Tlv) (d:Nat):Prop:= ∀x y,stF ts d x=some y→ ∀out,elF (eB ts x) d 0 (eB ts x).length out=⟨out++sli ts x y,0,0,(eB ts x).length⟩
theorem back_kids {ts:List Tlv} (hs:Shp ts) {d:Nat} (hd:d≤32) (hb:BackAt ts d): ∀n a b,stK (stF ts d) n a=some b→ ∀(l:List UInt8) (p tq:Nat),At l p (fl ts (inI ts) a (b-a))→tq=p+(fl ts (inI ts) a (b-a)).length→tq≤l.length→ ∀fuel,tq-p<fuel→ ∀(O:List Tlv) (t:Tlv) (m:List Tlv),
  kdF (elF l d) O.length tq fuel p (O++t::m)=⟨O++⟨t.tag,t.data,t.kids+n⟩::(m++sli ts a b),0,0,tq⟩
 |0,a,b,h,l,p,tq,hat,hto,htl,fuel,hf,O,t,m=>by
  obtain rfl:a=b:=by simpa [stK] using h
  rw[Nat.sub_self,fl] at hto
  simp only[List.length_nil,Nat.add_zero] at hto
  subst hto
  cases fuel with
  |zero=>omega
  |succ f=>
   rw[kdF,if_neg (by omega)]
   simp[sli]
 |n+1,a,b,h,l,p,tq,hat,hto,htl,fuel,hf,O,t,m=>by
  rw[stK] at h
  split at h
  ·rename_i c hc
   obtain⟨e1,e2⟩:=stF_nx hd hc
   have hac:=stF_ok d hc
   have hcb:c≤b:=by
    have:=(stK_visit (ts:=ts) (Q:=fun _=>True) (r:=stF ts d) (fun a b h=>⟨(stF_ok d h).1,fun _ _ _=>trivial⟩) n c b h).1
    exact this
   have hsp:fl ts (inI ts) a (b-a)=eB ts a++fl ts (inI ts) c (b-c):=by
    rw[fl_split ts (inI ts) (Nat.le_of_lt hac.1) hcb,eB,e1]
   rw[hsp] at hat hto
   rw[List.length_append] at hto
   have h1:elF l d p (p+(eB ts a).length) (O++t::m)=⟨O++t::m++sli ts a c,0,0,p+(eB ts a).length⟩:=by
    have:=elF_at hat.left d (p:=0) (q:=(eB ts a).length) (out:=O++t::m) (Nat.le_refl _)
    rw[Nat.add_zero] at this
    rw[this,hb a c hc];rfl
   have hh:=elF_head (l:=l) (d:=d) (p:=p) (q:=p+(eB ts a).length) (out:=O++t::m) (by rw[h1];simp)
   have hlt:=headF_lt hh
   have h2:elF l d p tq (O++t::m)=⟨O++t::m++sli ts a c,0,0,p+(eB ts a).length⟩:=by rw[elF_q hh (by omega),h1]
   cases fuel with
   |zero=>omega
   |succ f=>
    rw[kdF,if_pos (by omega),h2]
    simp only[if_true]
    rw[List.append_assoc,List.cons_append,addKid_at,back_kids hs hd hb n c b h l (p+(eB ts a).length) tq hat.right (by omega) htl f (by omega)]
    simp only[ER.mk.injEq,and_true,List.append_cancel_left_eq,List.cons.injEq,Tlv.mk.injEq,true_and]
    refine⟨by omega,?_⟩
    rw[List.append_assoc,sli_add ts (by omega) hcb]
  ·cases h
theorem back_all {ts:List Tlv} (hs:Shp ts) (hsz: ∀x,x<ts.length→szI ts x≤65536): ∀d,d≤32→BackAt ts d:=by
 have key: ∀d x y,d≤32→stF ts d x=some y→x<ts.length→x<y∧tagF (tagT ts x)=true→ ∃r,eB ts x=u8 (tagT ts x)::(lenF (inI ts x)++(datT ts x++fl ts (inI ts) (x+1) (y-(x+1))))∧(datT ts x++fl ts (inI ts) (x+1) (y-(x+1))).length=inI ts x∧headF (eB ts x) 0 (eB ts x).length=(1+(lenF (inI ts x)).length,(eB ts x).length,true)∧(eB ts x).length=1+(lenF (inI ts x)).length+inI ts x∧r=0:=by
  intro d x y hd h hx ⟨hxy,ht⟩
  obtain⟨e1,e2⟩:=stF_nx hd h
  have hl:=hs.len ts.length x (by omega) hx
  have h1:eB ts x=u8 (tagT ts x)::(lenF (inI ts x)++(datT ts x++fl ts (inI ts) (x+1) (y-(x+1)))):=by
   unfold eB
   rw[e1,show y-x=(y-(x+1))+1 from by omega,fl,pieceT]
   simp
  have h2:(eB ts x).length=1+(lenF (inI ts x)).length+inI ts x:=hl
  have h3:=hsz x hx
  unfold szI szOf at h3
  refine⟨0,h1,?_,?_,h2,rfl⟩
  ·rw[h1] at h2
   simp only[List.length_cons,List.length_append] at h2⊢
   omega
  ·rw[h2]
   conv=>lhs;arg 1;rw[h1]
   exact headF_len (by omega) (Nat.le_refl _)
 have tagged: ∀x r,tagF (tagT ts x)=true→eB ts x=u8 (tagT ts x)::r→byteAt (eB ts x) 0=tagT ts x:=by
  intro x r ht h
  obtain⟨t0,t1⟩:=tagF_range ht
  rw[h]
  unfold byteAt
  simp only[List.getD_cons_zero]
  exact u8_toNat _ t0 (by omega)
 have prim: ∀d x y (rec:Option (Nat→Nat→List Tlv→ER)),d≤32→stF ts d x=some y→x<ts.length→tagF (tagT ts x)=true→innerF (tagT ts x)=false∧(ts.getD x default).kids=0∧rightF (tagT ts x) (datT ts x)=true∧y=x+1→
   ∀out,elB (eB ts x) rec 0 (eB ts x).length out=⟨out++sli ts x y,0,0,(eB ts x).length⟩:=by
  intro d x y rec hd h hx ht ⟨h3,h4,h5,h6⟩ out
  subst h6
  obtain⟨_,k1,k2,k3,k4,_⟩:=key d x _ hd h hx ⟨by omega,ht⟩
  have k5:=tagged x _ ht k1
  rw[Nat.sub_self,fl,List.append_nil] at k1 k2
  have k6:tagAt (eB ts x) 0 (eB ts x).length=tagT ts x:=by unfold tagAt;rw[k3,if_pos rfl,k5]
  have k7:cutF (eB ts x) 0 (eB ts x).length=datT ts x:=by
   unfold cutF
   rw[k3]
   simp only
   have e:(eB ts x).length-(1+(lenF (inI ts x)).length)=(datT ts x).length:=by omega
   rw[e,k1,show 1+(lenF (inI ts x)).length=(lenF (inI ts x)).length+1 from by omega,List.drop_succ_cons,List.drop_left,List.take_length]
  unfold elB badF
  rw[k6,k7,k3,ht,h3,h5,sli_one ts hx]
  simp only[Bool.not_true,Bool.and_false,Bool.or_self,Bool.false_eq_true,if_false,if_true]
  have:ts.getD x default=⟨tagT ts x,datT ts x,0⟩:=by rw[←h4];rfl
  rw[this]
 intro d
 induction d with
 |zero=>
  intro hd x y h out
  obtain⟨h1,h2,h3⟩:=stB_cases h
  rcases h3 with h3|⟨_,_,_,r,hr,_⟩
  ·exact prim 0 x y none hd h h1 h2 h3 out
  ·cases hr
 |succ d ih=>
  intro hd x y h out
  obtain⟨h1,h2,h3⟩:=stB_cases h
  rcases h3 with h3|⟨h3,h4,h5,r,hr,hk⟩
  ·exact prim (d+1) x y (some (elF (eB ts x) d)) hd h h1 h2 h3 out
  ·simp only[Option.some.injEq] at hr
   subst hr
   obtain⟨_,k1,k2,k3,k4,_⟩:=key (d+1) x _ hd h h1 ⟨(stF_ok _ h).1,h2⟩
   have k5:=tagged x _ h2 k1
   rw[h5,List.nil_append] at k1 k2
   have k6:tagAt (eB ts x) 0 (eB ts x).length=tagT ts x:=by unfold tagAt;rw[k3,if_pos rfl,k5]
   show elB (eB ts x) (some (elF (eB ts x) d)) 0 (eB ts x).length out=_
   unfold elB badF
   rw[k6,k3,h2,h3]
   simp only[Bool.not_true,Bool.false_and,Bool.or_self,Bool.false_eq_true,if_false,Bool.true_eq_false]
   have hat:At (eB ts x) (1+(lenF (inI ts x)).length) (fl ts (inI ts) (x+1) (y-(x+1))):=⟨u8 (tagT ts x)::lenF (inI ts x),[],by rw[List.append_nil,k1];rfl,by simp;omega⟩
   have:=back_kids hs (by omega) (ih (by omega)) (kidT ts x) (x+1) y hk (eB ts x) (1+(lenF (inI ts x)).length) (eB ts x).length hat (by omega) (Nat.le_refl _) ((eB ts x).length-(1+(lenF (inI ts x)).length)+1) (by omega) out ⟨tagT ts x,[],0⟩ []
   rw[this,←sli_add ts (show x≤x+1 by omega) (Nat.succ_le_of_lt (stF_ok _ h).1),sli_one ts h1]
   have e:ts.getD x default=⟨tagT ts x,[],0+(kidT ts x:Int)⟩:=by
    rw[←h5]
    unfold tagT datT kidT
    rw[Int.toNat_of_nonneg h4,Int.zero_add]
   rw[e];rfl
theorem parse_print {ts:List Tlv} (h:(printF ts).2=0):parseF (printF ts).1=(ts,0,0)∧(printF ts).1.length≤65536:=by
 have h1:shapedF ts=true:=by
  cases e:shapedF ts
  ·unfold printF at h;rw[if_pos e] at h;simp at h
  ·rfl
 have h2: ¬bigF ts=true:=fun e=>by unfold printF at h;rw[if_neg (by rw[h1];simp),if_pos e] at h;simp at h
 have e:printF ts=(fl ts (inI ts) 0 ts.length,0):=by unfold printF;rw[if_neg (by rw[h1];simp),if_neg h2]
 obtain⟨s1,s2,s3⟩:=shapedF_shp h1
 have hsz: ∀x,x<ts.length→szI ts x≤65536:=fun x hx=>by
  rcases Nat.lt_or_ge 65536 (szI ts x) with hl|hl
  ·exact absurd (by unfold bigF;rw[List.any_eq_true];exact⟨x,List.mem_range.2 hx,by simpa using hl⟩) h2
  ·exact hl
 have h3:=back_all s3 hsz 32 (Nat.le_refl _) 0 ts.length s1 []
 have h4:eB ts 0=fl ts (inI ts) 0 ts.length:=by unfold eB;rw[(stF_nx (Nat.le_refl _) s1).1];rfl
 have h5:=s3.len ts.length 0 (by omega) s2
 have h6:(eB ts 0).length≤65536:=by
  have:=hsz 0 s2
  unfold eB;omega
 rw[e]
 simp only
 rw[←h4]
 refine⟨?_,h6⟩
 unfold parseF
 rw[if_neg (by omega),h3]
 simp only[if_true,Nat.lt_irrefl,if_false,sli,List.nil_append,List.drop_zero,Nat.sub_zero,List.take_length]
def Ag (ts:List Tlv) (a:Nat) (m:List Tlv):Prop:= ∃rest,ts.drop a=m++rest
theorem Ag.left {ts:List Tlv} {a:Nat} {m n:List Tlv} (h:Ag ts a (m++n)):Ag ts a m:=by
 obtain⟨r,h⟩:=h
 exact⟨n++r,by rw[h];simp⟩
theorem Ag.right {ts:List Tlv} {a:Nat} {m n:List Tlv} (h:Ag ts a (m++n)):Ag ts (a+m.length) n:=by
 obtain⟨r,h⟩:=h
 exact⟨r,by rw[←List.drop_drop,h];simp⟩
theorem Ag.head {ts:List Tlv} {a:Nat} {t:Tlv} {m:List Tlv} (h:Ag ts a (t::m)):a<ts.length∧ts.getD a default=t:=by
 obtain⟨r,h⟩:=h
 have h1:a<ts.length:=by
  rcases Nat.lt_or_ge a ts.length with hl|hl
  ·exact hl
  ·rw[List.drop_eq_nil_of_le hl] at h;simp at h
 refine⟨h1,?_⟩
 rw[List.drop_eq_getElem_cons h1] at h
 simp only[List.cons_append,List.cons.injEq] at h
 rw[List.getD_eq_getElem?_getD,List.getElem?_eq_getElem h1]
 exact h.1
def OneAt (l:List UInt8) (d:Nat):Prop:= ∀p q,p≤q→q≤l.length→(elF l d p q []).code=0→ ∀ts a,Ag ts a (elF l d p q []).out→
 stF ts d a=some (a+(elF l d p q []).out.length)∧szOf (inF ts d a)=(elF l d p q []).ret-p∧fl ts (inI ts) a (elF l d p q []).out.length=(l.drop p).take ((elF l d p q []).ret-p)
theorem one_kids {l:List UInt8} {d:Nat} (hd:d≤32) (hb:OneAt l d) {tq:Nat} (hto:tq≤l.length): ∀fuel p,tq-p<fuel→p≤tq→ ∀(O:List Tlv) (t:Tlv) (m0:List Tlv),(kdF (elF l d) O.length tq fuel p (O++t::m0)).code=0→
  ∃k m',(kdF (elF l d) O.length tq fuel p (O++t::m0)).out=O++⟨t.tag,t.data,t.kids+(k:Nat)⟩::(m0++m')∧ ∀ts a,Ag ts a m'→stK (stF ts d) k a=some (a+m'.length)∧kdN (nxG (stF ts d)) (fun k=>szOf (inF ts d k)) k a=tq-p∧fl ts (inI ts) a m'.length=(l.drop p).take (tq-p)
 |0,p,hf,_,_,_,_,_=>by omega
 |fuel+1,p,hf,hp,O,t,m0,hc=>by
  rw[kdF] at hc⊢
  by_cases h1:p<tq
  ·rw[if_pos h1] at hc⊢
   have hout:elF l d p tq (O++t::m0)=addO (O++t::m0) (elF l d p tq []):=by
    have:=elF_out l d (O++t::m0) p tq []
    rwa [List.append_nil] at this
   rw[hout] at hc⊢
   by_cases h2:(elF l d p tq []).code=0
   ·rw[if_pos (by simpa [addO] using h2)] at hc⊢
    obtain⟨r1,r2,r3⟩:=(elF_ok l d).yes p tq [] h2
    simp only[addO] at hc⊢
    rw[List.append_assoc,List.cons_append,addKid_at] at hc⊢
    obtain⟨k,m',q1,q2⟩:=one_kids hd hb hto fuel (elF l d p tq []).ret (by omega) r2 O ⟨t.tag,t.data,t.kids+1⟩ (m0++(elF l d p tq []).out) hc
    refine⟨k+1,(elF l d p tq []).out++m',?_,fun ts a hag=> ?_⟩
    ·rw[q1,List.append_assoc]
     simp only[List.append_cancel_left_eq,List.cons.injEq,Tlv.mk.injEq,true_and,and_true]
     omega
    ·obtain⟨s1,s2,s3⟩:=hb p tq hp hto h2 ts a hag.left
     obtain⟨u1,u2,u3⟩:=q2 ts _ hag.right
     refine⟨?_,?_,?_⟩
     ·rw[stK,s1]
      simp only
      rw[u1,List.length_append,Nat.add_assoc]
     ·rw[kdN,s2,show nxG (stF ts d) a=a+(elF l d p tq []).out.length from by simp[nxG,s1],u2]
      omega
     ·rw[List.length_append,fl_add,s3,u3,show tq-p=((elF l d p tq []).ret-p)+(tq-(elF l d p tq []).ret) from by omega,List.take_add,List.drop_drop,show p+((elF l d p tq []).ret-p)=(elF l d p tq []).ret from by omega]
   ·rw[if_neg (by simpa [addO] using h2)] at hc
    exact absurd hc (by simpa [addO] using h2)
  ·rw[if_neg h1] at hc⊢
   refine⟨0,[],by simp,fun ts a _=>⟨rfl,?_,?_⟩⟩
   ·rw[kdN];omega
   ·rw[show tq-p=0 from by omega,List.take_zero];rfl
theorem one_all (l:List UInt8): ∀d,d≤32→OneAt l d:=by
 have prim: ∀d (rec:Option (Nat→Nat→List Tlv→ER)) p q,d≤32→p≤q→q≤l.length→ ¬badF l p q=true→innerF (tagAt l p q)=false→ ∀ts a,Ag ts a [⟨tagAt l p q,cutF l p q,0⟩]→
   stF ts d a=some (a+1)∧szOf (inF ts d a)=(headF l p q).2.1-p∧fl ts (inI ts) a 1=(l.drop p).take ((headF l p q).2.1-p):=by
  intro d rec p q hd hpq hq hb hi ts a hag
  have ho:=bad_ok hb
  obtain⟨i1,i2⟩:=head_inv hq ho
  have hok:=headF_ok ho
  obtain⟨g1,g2⟩:=hag.head
  have htag:tagAt l p q=byteAt l p:=by unfold tagAt;rw[if_pos ho]
  have hb2:tagF (tagAt l p q)=true∧rightF (tagAt l p q) (cutF l p q)=true:=by
   unfold badF at hb
   rw[ho,hi] at hb
   simpa using hb
  have ht:tagT ts a=tagAt l p q:=by unfold tagT;rw[g2]
  have hdt:datT ts a=cutF l p q:=by unfold datT;rw[g2]
  have hk:kidT ts a=0:=by unfold kidT;rw[g2];rfl
  have hst: ∀rec,stB ts rec a=some (a+1):=fun rec=>stB_prim g1 (by rw[ht];exact hb2.1) (by rw[ht];exact hi) (by rw[g2]) (by rw[ht,hdt];exact hb2.2)
  have hst':stF ts d a=some (a+1):=by cases d<;>exact hst _
  have hin:inF ts d a=(cutF l p q).length:=by
   cases d with
   |zero=>rw[inF,hdt]
   |succ d=>rw[inF,hk,kdN,hdt,Nat.add_zero]
  have hcl:(cutF l p q).length=(headF l p q).2.1-(headF l p q).1:=by unfold cutF;simp;omega
  refine⟨hst',?_,?_⟩
  ·rw[hin,hcl];exact i1
  ·rw[i2,fl,fl,List.append_nil,pieceT,(stF_nx hd hst').2,hin,hcl,ht,hdt,htag]
 intro d
 induction d with
 |zero=>
  intro hd p q hpq hq hc ts a hag
  change (elB l none p q []).code=0 at hc
  show stF ts 0 a=some (a+(elB l none p q []).out.length)∧_=(elB l none p q []).ret-p∧fl ts (inI ts) a (elB l none p q []).out.length=(l.drop p).take ((elB l none p q []).ret-p)
  change Ag ts a (elB l none p q []).out at hag
  unfold elB at hc hag⊢
  by_cases hb:badF l p q=true
  ·rw[if_pos hb] at hc;simp at hc
  ·rw[if_neg hb] at hc hag⊢
   by_cases hi:innerF (tagAt l p q)=false
   ·rw[if_pos hi] at hag⊢
    exact prim 0 none p q hd hpq hq hb hi ts a hag
   ·rw[if_neg hi] at hc
    simp at hc
 |succ d ih=>
  intro hd p q hpq hq hc ts a hag
  change (elB l (some (elF l d)) p q []).code=0 at hc
  show stF ts (d+1) a=some (a+(elB l (some (elF l d)) p q []).out.length)∧_=(elB l (some (elF l d)) p q []).ret-p∧fl ts (inI ts) a (elB l (some (elF l d)) p q []).out.length=(l.drop p).take ((elB l (some (elF l d)) p q []).ret-p)
  change Ag ts a (elB l (some (elF l d)) p q []).out at hag
  unfold elB at hc hag⊢
  by_cases hb:badF l p q=true
  ·rw[if_pos hb] at hc;simp at hc
  ·rw[if_neg hb] at hc hag⊢
   by_cases hi:innerF (tagAt l p q)=false
   ·rw[if_pos hi] at hag⊢
    exact prim (d+1) (some (elF l d)) p q hd hpq hq hb hi ts a hag
   ·rw[if_neg hi] at hc hag⊢
    simp only[List.length_nil,List.nil_append] at hc hag⊢
    have ho:=bad_ok hb
    obtain⟨i1,i2⟩:=head_inv hq ho
    have hok:=headF_ok ho
    obtain⟨k,m',q1,q2⟩:=one_kids (by omega) (ih (by omega)) (tq:=(headF l p q).2.1) (by omega) ((headF l p q).2.1-(headF l p q).1+1) (headF l p q).1 (by omega) hok.2.1 [] ⟨tagAt l p q,[],0⟩ [] hc
    simp only[List.length_nil,List.nil_append] at q1
    have hret:=((kdF_ok (elF_ok l d) 0 (headF l p q).2.1 ((headF l p q).2.1-(headF l p q).1+1) (headF l p q).1 [⟨tagAt l p q,[],0⟩] hok.2.1 (by omega)).1 hc).1
    rw[q1] at hag⊢
    rw[hret]
    have hag1:Ag ts a ([⟨tagAt l p q,[],0+(k:Int)⟩]++m'):=hag
    obtain⟨g1,g2⟩:=hag.head
    obtain⟨s1,s2,s3⟩:=q2 ts (a+1) hag1.right
    have htag:tagAt l p q=byteAt l p:=by unfold tagAt;rw[if_pos ho]
    have hb2:tagF (tagAt l p q)=true:=by
     unfold badF at hb
     rw[ho] at hb
     cases e:tagF (tagAt l p q)
     ·rw[e] at hb;simp at hb
     ·rfl
    have ht:tagT ts a=tagAt l p q:=by unfold tagT;rw[g2]
    have hdt:datT ts a=[]:=by unfold datT;rw[g2]
    have hk:kidT ts a=k:=by unfold kidT;rw[g2];simp
    have hst:stF ts (d+1) a=some (a+1+m'.length):=by
     show stB ts (some (stF ts d)) a=_
     rw[stB_inner g1 (by rw[ht];exact hb2) (by rw[ht];cases e:innerF (tagAt l p q);exact absurd e hi;rfl) (by rw[g2];simp) hdt,hk,s1]
    have hin:inF ts (d+1) a=(headF l p q).2.1-(headF l p q).1:=by rw[inF,hk,s2,hdt];simp
    have hcl:cutF l p q=(l.drop (headF l p q).1).take ((headF l p q).2.1-(headF l p q).1):=rfl
    refine⟨?_,?_,?_⟩
    ·rw[hst,List.length_cons];congr 1;omega
    ·rw[hin];exact i1
    ·rw[i2,List.length_cons,fl,pieceT,(stF_nx hd hst).2,hin,ht,hdt,htag,s3,List.append_nil,hcl];rfl
theorem print_parse {b:List UInt8} (h:(parseF b).2.1=0):(parseF b).2.2=0∧shapedF (parseF b).1=true∧printF (parseF b).1=(b,0)∧b.length≤65536:=by
 unfold parseF at h⊢
 by_cases h1:65536<b.length
 ·rw[if_pos h1] at h;simp at h
 ·rw[if_neg h1] at h⊢
  by_cases h2:(elF b 32 0 b.length []).code=0
  ·rw[if_pos h2] at h⊢
   by_cases h3:(elF b 32 0 b.length []).ret<b.length
   ·rw[if_pos h3] at h;simp at h
   ·rw[if_neg h3]
    obtain⟨r1,r2,_⟩:=(elF_ok b 32).yes 0 b.length [] h2
    have hr:(elF b 32 0 b.length []).ret=b.length:=by omega
    obtain⟨s1,s2,s3⟩:=one_all b 32 (Nat.le_refl _) 0 b.length (Nat.zero_le _) (Nat.le_refl _) h2 (elF b 32 0 b.length []).out 0 ⟨[],by simp⟩
    simp only
    generalize (elF b 32 0 b.length []).out=ts at s1 s2 s3
    rw[hr,Nat.sub_zero,List.drop_zero,List.take_length] at s3
    rw[Nat.zero_add] at s1
    have hpos:=(stF_ok 32 s1).1
    have hsh:shapedF ts=true:=by unfold shapedF;rw[s1];simp[hpos]
    obtain⟨_,_,hS⟩:=shapedF_shp hsh
    have hbig: ¬bigF ts=true:=fun e=>by
     unfold bigF at e
     rw[List.any_eq_true] at e
     obtain⟨x,hx,hlt⟩:=e
     have hx:=List.mem_range.1 hx
     have hlt:65536<szI ts x:=by simpa using hlt
     have hlen:=hS.len ts.length x (by omega) hx
     obtain⟨_,n1,n2⟩:=hS.at hx
     have e1:=congrArg List.length (fl_split ts (inI ts) (Nat.zero_le x) (show x≤ts.length by omega))
     have e2:=congrArg List.length (fl_split ts (inI ts) (Nat.le_of_lt n1) n2)
     rw[List.length_append,Nat.sub_zero,s3] at e1
     rw[List.length_append] at e2
     omega
    refine⟨trivial,hsh,?_,by omega⟩
    unfold printF
    rw[if_neg (by rw[hsh];simp),if_neg hbig,s3]
  ·rw[if_neg h2] at h
   exact absurd h h2
theorem kdF_place {rec:Nat→Nat→List Tlv→ER} {L:Nat} (hr:RecOk rec) (h: ∀p q out,p≤q→(rec p q out).code≠0→p≤(rec p q out).place∧(rec p q out).place≤q) (me tq:Nat): ∀n p out,p≤tq→(kdF rec me tq n p out).code≠0→p≤(kdF rec me tq n p out).place∧(kdF rec me tq n p out).place≤tq
 |0,p,out,_,hc=>absurd rfl hc
 |n+1,p,out,hp,hc=>by
  rw[kdF] at hc⊢
  split at hc
  ·rename_i h1
   rw[if_pos h1]
   split at hc
   ·rename_i h2
    rw[if_pos h2]
    obtain⟨y1,y2,_⟩:=hr.yes p tq out h2
    have:=kdF_place (L:=L) hr h me tq n _ _ y2 hc
    omega
   ·rename_i h2
    rw[if_neg h2]
    exact h p tq out hp h2
  ·exact absurd rfl hc
theorem elB_place {l:List UInt8} {rec:Option (Nat→Nat→List Tlv→ER)} (hr: ∀r,rec=some r→RecOk r∧ ∀p q out,p≤q→(r p q out).code≠0→p≤(r p q out).place∧(r p q out).place≤q) (p q:Nat) (out:List Tlv) (hpq:p≤q) (hc:(elB l rec p q out).code≠0):p≤(elB l rec p q out).place∧(elB l rec p q out).place≤q:=by
 unfold elB at hc⊢
 split
 ·exact⟨Nat.le_refl _,hpq⟩
 ·rename_i hb
  rw[if_neg hb] at hc
  have hok:=headF_ok (bad_ok hb)
  split
  ·rename_i hi
   rw[if_pos hi] at hc
   exact absurd rfl hc
  ·rename_i hi
   rw[if_neg hi] at hc
   cases rec with
   |none=>exact⟨Nat.le_refl _,hpq⟩
   |some r=>
    simp only at hc⊢
    have:=kdF_place (L:=0) (hr r rfl).1 (hr r rfl).2 out.length (headF l p q).2.1 _ _ _ hok.2.1 hc
    omega
theorem elF_place (l:List UInt8): ∀d p q out,p≤q→(elF l d p q out).code≠0→p≤(elF l d p q out).place∧(elF l d p q out).place≤q
 |0,p,q,out,hpq,hc=>elB_place (fun r h=>by cases h) p q out hpq hc
 |d+1,p,q,out,hpq,hc=>elB_place (fun r h=>by simp only[Option.some.injEq] at h;subst h;exact⟨elF_ok l d,elF_place l d⟩) p q out hpq hc
theorem parse_err {b:List UInt8} (h:(parseF b).2.1≠0):(parseF b).1=[]∧((parseF b).2.1=80∨(parseF b).2.1=11∨(parseF b).2.1=10∧65536<b.length)∧(parseF b).2.2≤b.length:=by
 unfold parseF at h⊢
 split
 ·rename_i h1;exact⟨rfl, .inr (.inr ⟨rfl,h1⟩),Nat.zero_le _⟩
 ·rename_i h1
  rw[if_neg h1] at h
  split
  ·rename_i h2
   rw[if_pos h2] at h
   split
   ·rename_i h3;exact⟨rfl, .inl rfl,Nat.le_of_lt h3⟩
   ·rename_i h3;rw[if_neg h3] at h;exact absurd rfl h
  ·rename_i h2
   refine⟨rfl,?_,(elF_place b 32 0 b.length [] (Nat.zero_le _) h2).2⟩
   rcases(elF_ok b 32).code 0 b.length [] with h3|h3|h3
   ·exact absurd h3 h2
   ·exact .inl h3
   ·exact .inr (.inl h3)
structure Dp (x y:ER):Prop where
 yes:x.code=0→y=x∨(y.code=11∧y.place<x.ret)
 deep:x.code=11→y.code=11∧y.place≤x.place
end Go.Proofs.YtfengpdaocgcnaaGreatDoor
