/- DER there and back: the laws. Plain Lean. Keys as arguments; the bytes of a key. errors.Is at the program's own errors. Results: a key and an error, read-only. -/
import Derived.Test.YtfengpdaocgcnaaGreatDoorT36
import Derived.Test.YtfengpdaocgcnaaGreatDoorT31
import Derived.Test.YtfengpdaocgcnaaGreatDoorQ17
import Derived.LaidEql
import Derived.Stop.Asserts
import Derived.RowKitTokens
namespace Go.Proofs.YtfengpdaocgcnaaGreatDoor
theorem stF_nx {ts:List Tlv} {d x y:Nat} (hd:d≤32) (h:stF ts d x=some y):nxI ts x=y∧inI ts x=inF ts d x:=by
 obtain⟨h1,h2⟩:=stF_mono hd h
 exact⟨by simp[nxI,nxG,h1],h2⟩
def sli (ts:List Tlv) (a b:Nat):List Tlv:=(ts.drop a).take (b-a)
theorem sli_add (ts:List Tlv) {a b c:Nat} (h1:a≤b) (h2:b≤c):sli ts a b++sli ts b c=sli ts a c:=by
 unfold sli
 rw[show c-a=(b-a)+(c-b) from by omega,List.take_add,List.drop_drop,show a+(b-a)=b from by omega]
theorem sli_one (ts:List Tlv) {a:Nat} (h:a<ts.length):sli ts a (a+1)=[ts.getD a default]:=by
 unfold sli
 rw[List.drop_eq_getElem_cons h,show a+1-a=1 from by omega,List.getD_eq_getElem?_getD,List.getElem?_eq_getElem h];rfl
def eB (ts:List Tlv) (x:Nat):List UInt8:=fl ts (inI ts) x (nxI ts x-x)
def BackAt (ts:List Tlv) (d:Nat):Prop:= ∀x y,stF ts d x=some y→ ∀out,elF (eB ts x) d 0 (eB ts x).length out=⟨out++sli ts x y,0,0,(eB ts x).length⟩
theorem back_kids {ts:List Tlv} (hs:Shp ts) {d:Nat} (hd:d≤32) (hb:BackAt ts d): ∀n a b,stK (stF ts d) n a=some b→ ∀(l:List UInt8) (p tq:Nat),At l p (fl ts (inI ts) a (b-a))→tq=p+(fl ts (inI ts) a (b-a)).length→tq≤l.length→ ∀fuel,tq-p<fuel→ ∀(O:List Tlv) (t:Tlv) (m:List Tlv),
  kdF (elF l d) O.length tq fuel p (O++t::m)=⟨O++⟨t.tag,t.data,t.kids+n⟩::(m++sli ts a b),0,0,tq⟩
 |0,a,b,h,l,p,tq,hat,hto,htl,fuel,hf,O,t,m=>by
  obtain rfl:a=b:=by simpa [stK] using h
  rw[Nat.sub_self,fl] at hto
  simp only[List.length_nil,Nat.add_zero] at hto
  subst hto
  cases fuel with
  |zero=>omega
  |succ f=>
   rw[kdF,if_neg (by omega)]
   simp[sli]
 |n+1,a,b,h,l,p,tq,hat,hto,htl,fuel,hf,O,t,m=>by
  rw[stK] at h
  split at h
  ·rename_i c hc
   obtain⟨e1,e2⟩:=stF_nx hd hc
   have hac:=stF_ok d hc
   have hcb:c≤b:=by
    have:=(stK_visit (ts:=ts) (Q:=fun _=>True) (r:=stF ts d) (fun a b h=>⟨(stF_ok d h).1,fun _ _ _=>trivial⟩) n c b h).1
    exact this
   have hsp:fl ts (inI ts) a (b-a)=eB ts a++fl ts (inI ts) c (b-c):=by
    rw[fl_split ts (inI ts) (Nat.le_of_lt hac.1) hcb,eB,e1]
   rw[hsp] at hat hto
   rw[List.length_append] at hto
   have h1:elF l d p (p+(eB ts a).length) (O++t::m)=⟨O++t::m++sli ts a c,0,0,p+(eB ts a).length⟩:=by
    have:=elF_at hat.left d (p:=0) (q:=(eB ts a).length) (out:=O++t::m) (Nat.le_refl _)
    rw[Nat.add_zero] at this
    rw[this,hb a c hc];rfl
   have hh:=elF_head (l:=l) (d:=d) (p:=p) (q:=p+(eB ts a).length) (out:=O++t::m) (by rw[h1];simp)
   have hlt:=headF_lt hh
   have h2:elF l d p tq (O++t::m)=⟨O++t::m++sli ts a c,0,0,p+(eB ts a).length⟩:=by rw[elF_q hh (by omega),h1]
   cases fuel with
   |zero=>omega
   |succ f=>
    rw[kdF,if_pos (by omega),h2]
    simp only[if_true]
    rw[List.append_assoc,List.cons_append,addKid_at,back_kids hs hd hb n c b h l (p+(eB ts a).length) tq hat.right (by omega) htl f (by omega)]
    simp only[ER.mk.injEq,and_true,List.append_cancel_left_eq,List.cons.injEq,Tlv.mk.injEq,true_and]
    refine⟨by omega,?_⟩
    rw[List.append_assoc,sli_add ts (by omega) hcb]
  ·cases h
theorem back_all {ts:List Tlv} (hs:Shp ts) (hsz: ∀x,x<ts.length→szI ts x≤65536): ∀d,d≤32→BackAt ts d:=by
 have key: ∀d x y,d≤32→stF ts d x=some y→x<ts.length→x<y∧tagF (tagT ts x)=true→ ∃r,eB ts x=u8 (tagT ts x)::(lenF (inI ts x)++(datT ts x++fl ts (inI ts) (x+1) (y-(x+1))))∧(datT ts x++fl ts (inI ts) (x+1) (y-(x+1))).length=inI ts x∧headF (eB ts x) 0 (eB ts x).length=(1+(lenF (inI ts x)).length,(eB ts x).length,true)∧(eB ts x).length=1+(lenF (inI ts x)).length+inI ts x∧r=0:=by
  intro d x y hd h hx ⟨hxy,ht⟩
  obtain⟨e1,e2⟩:=stF_nx hd h
  have hl:=hs.len ts.length x (by omega) hx
  have h1:eB ts x=u8 (tagT ts x)::(lenF (inI ts x)++(datT ts x++fl ts (inI ts) (x+1) (y-(x+1)))):=by
   unfold eB
   rw[e1,show y-x=(y-(x+1))+1 from by omega,fl,pieceT]
   simp
  have h2:(eB ts x).length=1+(lenF (inI ts x)).length+inI ts x:=hl
  have h3:=hsz x hx
  unfold szI szOf at h3
  refine⟨0,h1,?_,?_,h2,rfl⟩
  ·rw[h1] at h2
   simp only[List.length_cons,List.length_append] at h2⊢
   omega
  ·rw[h2]
   conv=>lhs;arg 1;rw[h1]
   exact headF_len (by omega) (Nat.le_refl _)
 have tagged: ∀x r,tagF (tagT ts x)=true→eB ts x=u8 (tagT ts x)::r→byteAt (eB ts x) 0=tagT ts x:=by
  intro x r ht h
  obtain⟨t0,t1⟩:=tagF_range ht
  rw[h]
  unfold byteAt
  simp only[List.getD_cons_zero]
  exact u8_toNat _ t0 (by omega)
 have prim: ∀d x y (rec:Option (Nat→Nat→List Tlv→ER)),d≤32→stF ts d x=some y→x<ts.length→tagF (tagT ts x)=true→innerF (tagT ts x)=false∧(ts.getD x default).kids=0∧rightF (tagT ts x) (datT ts x)=true∧y=x+1→
   ∀out,elB (eB ts x) rec 0 (eB ts x).length out=⟨out++sli ts x y,0,0,(eB ts x).length⟩:=by
  intro d x y rec hd h hx ht ⟨h3,h4,h5,h6⟩ out
  subst h6
  obtain⟨_,k1,k2,k3,k4,_⟩:=key d x _ hd h hx ⟨by omega,ht⟩
  have k5:=tagged x _ ht k1
  rw[Nat.sub_self,fl,List.append_nil] at k1 k2
  have k6:tagAt (eB ts x) 0 (eB ts x).length=tagT ts x:=by unfold tagAt;rw[k3,if_pos rfl,k5]
  have k7:cutF (eB ts x) 0 (eB ts x).length=datT ts x:=by
   unfold cutF
   rw[k3]
   simp only
   have e:(eB ts x).length-(1+(lenF (inI ts x)).length)=(datT ts x).length:=by omega
   rw[e,k1,show 1+(lenF (inI ts x)).length=(lenF (inI ts x)).length+1 from by omega,List.drop_succ_cons,List.drop_left,List.take_length]
  unfold elB badF
  rw[k6,k7,k3,ht,h3,h5,sli_one ts hx]
  simp only[Bool.not_true,Bool.and_false,Bool.or_self,Bool.false_eq_true,if_false,if_true]
  have:ts.getD x default=⟨tagT ts x,datT ts x,0⟩:=by rw[←h4];rfl
  rw[this]
 intro d
 induction d with
 |zero=>
  intro hd x y h out
  obtain⟨h1,h2,h3⟩:=stB_cases h
  rcases h3 with h3|⟨_,_,_,r,hr,_⟩
  ·exact prim 0 x y none hd h h1 h2 h3 out
  ·cases hr
 |succ d ih=>
  intro hd x y h out
  obtain⟨h1,h2,h3⟩:=stB_cases h
  rcases h3 with h3|⟨h3,h4,h5,r,hr,hk⟩
  ·exact prim (d+1) x y (some (elF (eB ts x) d)) hd h h1 h2 h3 out
  ·simp only[Option.some.injEq] at hr
   subst hr
   obtain⟨_,k1,k2,k3,k4,_⟩:=key (d+1) x _ hd h h1 ⟨(stF_ok _ h).1,h2⟩
   have k5:=tagged x _ h2 k1
   rw[h5,List.nil_append] at k1 k2
   have k6:tagAt (eB ts x) 0 (eB ts x).length=tagT ts x:=by unfold tagAt;rw[k3,if_pos rfl,k5]
   show elB (eB ts x) (some (elF (eB ts x) d)) 0 (eB ts x).length out=_
   unfold elB badF
   rw[k6,k3,h2,h3]
   simp only[Bool.not_true,Bool.false_and,Bool.or_self,Bool.false_eq_true,if_false,Bool.true_eq_false]
   have hat:At (eB ts x) (1+(lenF (inI ts x)).length) (fl ts (inI ts) (x+1) (y-(x+1))):=⟨u8 (tagT ts x)::lenF (inI ts x),[],by rw[List.append_nil,k1];rfl,by simp;omega⟩
   have:=back_kids hs (by omega) (ih (by omega)) (kidT ts x) (x+1) y hk (eB ts x) (1+(lenF (inI ts x)).length) (eB ts x).length hat (by omega) (Nat.le_refl _) ((eB ts x).length-(1+(lenF (inI ts x)).length)+1) (by omega) out ⟨tagT ts x,[],0⟩ []
   rw[this,←sli_add ts (show x≤x+1 by omega) (Nat.succ_le_of_lt (stF_ok _ h).1),sli_one ts h1]
   have e:ts.getD x default=⟨tagT ts x,[],0+(kidT ts x:Int)⟩:=by
    rw[←h5]
    unfold tagT datT kidT
    rw[Int.toNat_of_nonneg h4,Int.zero_add]
   rw[e];rfl
theorem parse_print {ts:List Tlv} (h:(printF ts).2=0):parseF (printF ts).1=(ts,0,0)∧(printF ts).1.length≤65536:=by
 have h1:shapedF ts=true:=by
  cases e:shapedF ts
  ·unfold printF at h;rw[if_pos e] at h;simp at h
  ·rfl
 have h2: ¬bigF ts=true:=fun e=>by unfold printF at h;rw[if_neg (by rw[h1];simp),if_pos e] at h;simp at h
 have e:printF ts=(fl ts (inI ts) 0 ts.length,0):=by unfold printF;rw[if_neg (by rw[h1];simp),if_neg h2]
 obtain⟨s1,s2,s3⟩:=shapedF_shp h1
 have hsz: ∀x,x<ts.length→szI ts x≤65536:=fun x hx=>by
  rcases Nat.lt_or_ge 65536 (szI ts x) with hl|hl
  ·exact absurd (by unfold bigF;rw[List.any_eq_true];exact⟨x,List.mem_range.2 hx,by simpa using hl⟩) h2
  ·exact hl
 have h3:=back_all s3 hsz 32 (Nat.le_refl _) 0 ts.length s1 []
 have h4:eB ts 0=fl ts (inI ts) 0 ts.length:=by unfold eB;rw[(stF_nx (Nat.le_refl _) s1).1];rfl
 have h5:=s3.len ts.length 0 (by omega) s2
 have h6:(eB ts 0).length≤65536:=by
  have:=hsz 0 s2
  unfold eB;omega
 rw[e]
 simp only
 rw[←h4]
 refine⟨?_,h6⟩
 unfold parseF
 rw[if_neg (by omega),h3]
 simp only[if_true,Nat.lt_irrefl,if_false,sli,List.nil_append,List.drop_zero,Nat.sub_zero,List.take_length]
def Ag (ts:List Tlv) (a:Nat) (m:List Tlv):Prop:= ∃rest,ts.drop a=m++rest
theorem Ag.left {ts:List Tlv} {a:Nat} {m n:List Tlv} (h:Ag ts a (m++n)):Ag ts a m:=by
 obtain⟨r,h⟩:=h
 exact⟨n++r,by rw[h];simp⟩
theorem Ag.right {ts:List Tlv} {a:Nat} {m n:List Tlv} (h:Ag ts a (m++n)):Ag ts (a+m.length) n:=by
 obtain⟨r,h⟩:=h
 exact⟨r,by rw[←List.drop_drop,h];simp⟩
theorem Ag.head {ts:List Tlv} {a:Nat} {t:Tlv} {m:List Tlv} (h:Ag ts a (t::m)):a<ts.length∧ts.getD a default=t:=by
 obtain⟨r,h⟩:=h
 have h1:a<ts.length:=by
  rcases Nat.lt_or_ge a ts.length with hl|hl
  ·exact hl
  ·rw[List.drop_eq_nil_of_le hl] at h;simp at h
 refine⟨h1,?_⟩
 rw[List.drop_eq_getElem_cons h1] at h
 simp only[List.cons_append,List.cons.injEq] at h
 rw[List.getD_eq_getElem?_getD,List.getElem?_eq_getElem h1]
 exact h.1
structure Dp (x y:ER):Prop where
 yes:x.code=0→y=x∨(y.code=11∧y.place<x.ret)
 deep:x.code=11→y.code=11∧y.place≤x.place
open Nat (reduceMul reduceLeDiff reduceEqDiff reduceLT reduceAdd reduceSub reduceDiv)
open Int (reduceToNat reducePow)
open Go.RowKit
set_option linter.unusedSimpArgs false
set_option maxRecDepth 100000
structure Ky where
 kty:Int
 crv:Int
 s:List UInt8
 n:List UInt8
 e:List UInt8
 x:List UInt8
 y:List UInt8
def Ky.V (k:Ky):V:=keyV k.kty k.crv k.s k.n k.e k.x k.y
def Ky.good (k:Ky):Bool:=goodK k.kty k.crv k.s k.n k.e k.x k.y
structure Ky.Ok (k:Ky):Prop where
 s:k.s.length≤16777216
 n:k.n.length≤16777216
 e:k.e.length≤16777216
 x:k.x.length≤16777216
 y:k.y.length≤16777216
def byN:V→Option (List UInt8)
 | .by l=>some l
 | .val (.slice none 0 0)=>some []
 |_=>none
theorem byN_rep {v:V} {l:List UInt8} (h:byN v=some l) {w:World} {F:Cx} {x:Value} (hr:Rep w F v x):Rep w F (.by l) x:=by
 unfold byN at h
 split at h
 ·obtain rfl:=Option.some.inj h;exact hr
 ·obtain rfl:=Option.some.inj h
  exact veq_rep (v:= .val (.slice none 0 0)) (res:= .by []) (by simp[Veq,isNil,V.elems]) hr
 ·cases h
def keyW (k:Ky→CR):V→CR
 | .st [.val (.int .i64 a), .val (.int .i64 b),s,n,e,x,y]=>match byN s with
  |some s=>match byN n with
   |some n=>match byN e with
    |some e=>match byN x with
     |some x=>match byN y with
      |some y=>k ⟨a,b,s,n,e,x,y⟩
      |none=>none
     |none=>none
    |none=>none
   |none=>none
  |none=>none
 |_=>none
theorem keyW_some {k:Ky→CR} {v:V} {c:List Prop×Bool×V} (h:keyW k v=some c): ∃q:Ky,k q=some c∧ ∀w F x,Rep w F v x→Rep w F q.V x:=by
 unfold keyW at h
 split at h
 ·rename_i a b s0 n0 e0 x0 y0
  split at h
  ·rename_i s hs
   split at h
   ·rename_i n hn
    split at h
    ·rename_i e he
     split at h
     ·rename_i x hx
      split at h
      ·rename_i y hy
       refine⟨_,h,fun w F v hr=> ?_⟩
       cases hr with
       |sl _ _ _ _ _ _ _ _ _ he=>simp[V.elems] at he
       |st l cs u h1 h2 h3=>
        refine .st _ cs u h1 h2 fun j hj=> ?_
        have h4:=h3 j hj
        match j,hj with
        |0,_=>exact h4
        |1,_=>exact h4
        |2,_=>exact byN_rep hs h4
        |3,_=>exact byN_rep hn h4
        |4,_=>exact byN_rep he h4
        |5,_=>exact byN_rep hx h4
        |6,_=>exact byN_rep hy h4
      ·cases h
     ·cases h
    ·cases h
   ·cases h
  ·cases h
 ·cases h
def cK (k:Ky→List V→CR):List V→CR
 |v::r=>keyW (fun q=>k q r) v
 |_=>none
def cKK (k:Ky×Ky→List V→CR):List V→CR
 |v::v'::r=>keyW (fun q=>keyW (fun q'=>k (q,q') r) v') v
 |_=>none
section
variable {P:Program} {J:Inv} {f:FuncId}
theorem EntAt.k {k:Ky→List V→CR} (h: ∀x:Ky,EntAt P J f (fun r=>x.V::r) (k x)):EntAt P J f (fun r=>r) (cK k):=fun args l fr r hk hl=>by
 unfold cK at hk
 split at hk
 ·obtain⟨q,h1,h2⟩:=keyW_some hk
  exact(h q _ l fr r h1 hl).wk1 h2
 ·cases hk
theorem Fn.wk2 {fr:Bool} {a b b' res:V} {r:List V} (h:Fn P J f fr (a::b::r) res) (hw: ∀w F x,Rep w F b' x→Rep w F b x):Fn P J f fr (a::b'::r) res:=by
 refine⟨h.1,fun w F vs hI hF hlen hvs=>h.2 w F vs hI hF hlen fun i v x h1 h2=> ?_⟩
 match i with
 |0=>exact hvs 0 v x h1 h2
 |1=>
  obtain rfl:b=v:=by simpa using h1
  exact hw _ _ _ (hvs 1 b' x rfl h2)
 |i+2=>exact hvs (i+2) v x h1 h2
theorem EntAt.kk {k:Ky×Ky→List V→CR} (h: ∀x:Ky×Ky,EntAt P J f (fun r=>x.1.V::x.2.V::r) (k x)):EntAt P J f (fun r=>r) (cKK k):=fun args l fr r hk hl=>by
 unfold cKK at hk
 split at hk
 ·obtain⟨q,h1,h2⟩:=keyW_some hk
  obtain⟨q',h3,h4⟩:=keyW_some h1
  exact((h (q,q') _ l fr r h3 hl).wk2 h4).wk1 h2
 ·cases hk
end
def rsaN:List UInt8:=[49,46,50,46,56,52,48,46,49,49,51,53,52,57,46,49,46,49,46,49]
def ecN:List UInt8:=[49,46,50,46,56,52,48,46,49,48,48,52,53,46,50,46,49]
def edN:List UInt8:=[49,46,51,46,49,48,49,46,49,49,50]
def p384N:List UInt8:=[49,46,51,46,49,51,50,46,48,46,51,52]
def p256N:List UInt8:=[49,46,50,46,56,52,48,46,49,48,48,52,53,46,51,46,49,46,55]
def cvN (c:Int):List UInt8:=if c=2 then p384N else p256N
def BPaf:FuncId→List V→CR:=fun f args=>tab [(30,cT fun ts=>cF [Small ts] false (.tu [.by (printF ts).1, .i (printF ts).2])),
 (32,cT fun ts=>cY fun k=>cF [ts.length≤16,k.length≤67108864] false (tlsV (elemF ts k))),
 (33,cS fun s=>cF [s.length≤268435456,(ooF (spl 46 s)).isSome=true] false (.st [.val (.int .i64 6), .by (oidB s), .val (.int .i64 0)])),
 (34,cI .i64 fun c=>cF [] false (.str (cvN c))),
 (31,cY fun b=>cF [b.length≤140737488350000] false (.st [.val (.int .i64 2), .by (ofuD b), .val (.int .i64 0)])),
 (29,cK fun k=>cF [k.Ok] false (.bb k.good))] noF f args
def BPa (J:Inv):Sig:=⟨J,sdf,BPaf,noH,0⟩
theorem BPa_ok (J:Inv) (hJ: ∀w F,J.I w F→JV.I w F) (hE:EdT J):SigOk Tryz.prog (BPa J):= .plain (tab_ok (.c (.t fun ts=> .z fun⟨c0,_⟩=>print_fn J ts c0)<|
 .c (.t fun ts=> .y fun k=> .z fun⟨c0,c1,_⟩=>selem_fn J ts k c0 c1)<|
 .c (.s fun s=> .z fun⟨c0,c1,_⟩=>named_fn J hJ s c0 c1)<|
 .c (.i fun c=> .z fun _=>curveName_fn J c)<|
 .c (.y fun b=> .z fun⟨c0,_⟩=>(OfUint_fn b c0).weak hJ)<|
 .c (.k fun _=> .z fun⟨c0,_⟩=>good_fn J hE _ _ _ _ _ _ _ c0.s c0.n c0.e c0.x c0.y)<| .n) noF_ok)
theorem printF_len (ts:List Tlv):(printF ts).1.length≤65536:=by
 by_cases h:(printF ts).2=0
 ·exact(parse_print h).2
 ·unfold printF at h⊢
  split
  ·simp
  ·rename_i h1
   rw[if_neg h1] at h
   split
   ·simp
   ·rename_i h2;rw[if_neg h2] at h;exact absurd rfl h
theorem ofuD_len (b:List UInt8):(ofuD b).length≤b.length+1:=by
 have h:=leastF_le b
 unfold ofuD
 split
 ·rw[List.length_cons];omega
 ·omega
def algR:List Tlv:=[⟨6,oidB rsaN,0⟩,⟨5,[],0⟩]
def algE (c:Int):List Tlv:=[⟨6,oidB ecN,0⟩,⟨6,oidB (cvN c),0⟩]
def algO:List Tlv:=[⟨6,oidB edN,0⟩]
def innL (n e:List UInt8):List Tlv:=[⟨48,[],2⟩,⟨2,ofuD n,0⟩,⟨2,ofuD e,0⟩]
def Ky.els (k:Ky):List Tlv:=if k.kty=2 then elemF algR (printF (innL k.n k.e)).1 else if k.kty=3 then elemF (algE k.crv) (4::(k.x++k.y)) else elemF algO k.x
def Ky.pr (k:Ky):List UInt8×Int:=if k.good=true∧k.kty≠1 then printF k.els else ([],90)
theorem small_inn {n e:List UInt8} (hn:n.length≤16777216) (he:e.length≤16777216):Small (innL n e):=by
 have h1:=ofuD_len n
 have h2:=ofuD_len e
 refine⟨by simp[innL],fun t ht=> ?_⟩
 simp only[innL,List.mem_cons,List.not_mem_nil,or_false] at ht
 rcases ht with rfl|rfl|rfl
 ·simp
 ·show(ofuD n).length≤_;omega
 ·show(ofuD e).length≤_;omega
theorem small_elem {A:List Tlv} {key:List UInt8} (hA:A.length≤16) (ha: ∀t∈A,t.data.length≤140737488355328) (hk:key.length≤67108864):Small (elemF A key):=by
 refine⟨by simp[elemF];omega,fun t ht=> ?_⟩
 simp only[elemF,List.mem_cons,List.mem_append,List.not_mem_nil,or_false] at ht
 rcases ht with rfl|rfl|ht|rfl
 ·simp
 ·simp
 ·exact ha t ht
 ·show(0::key).length≤_;simp only[List.length_cons];omega
theorem oid_cat {s:List UInt8} {L:List (List UInt8)} {N:List Int} {d:List UInt8} (h1:spl 46 s=L) (h2:L.map numV=N) (h3:L.all numOk=true) (h4:2≤L.length) (h5:numV (L.getD 0 [])≤2) (h6:numV (L.getD 0 [])<2→numV (L.getD 1 [])≤39) (h7:grpF (40*N.getD 0 0+N.getD 1 0).toNat++((N.drop 2).flatMap fun n=>grpF n.toNat)=d):(ooF (spl 46 s)).isSome=true∧oidB s=d:=by
 have h:=ooF_eq L
 rw[if_pos ⟨h4,h3,h5,h6⟩] at h
 unfold oidB
 rw[h1,h]
 refine⟨rfl,?_⟩
 rw[Option.getD_some,←h7,←h2]
 unfold dOf
 rw[if_neg (by omega),List.take_of_length_le (by simp)]
 rw[List.getD_eq_getElem?_getD,List.getD_eq_getElem?_getD,List.getD_eq_getElem?_getD,List.getD_eq_getElem?_getD,List.getElem?_map,List.getElem?_map,List.getElem?_eq_getElem (by omega),List.getElem?_eq_getElem (by omega),←List.map_drop,List.flatMap_map]
 rfl
theorem nm_rsa:(ooF (spl 46 rsaN)).isSome=true∧oidB rsaN=[42,134,72,134,247,13,1,1,1]:=oid_cat (L:=[[49],[50],[56,52,48],[49,49,51,53,52,57],[49],[49],[49]]) (N:=[1,2,840,113549,1,1,1]) (by decide) (by decide) (by kernel_rfl) (by decide) (by decide) (by decide) (by simp[grpF,hiF_pos,hiF_zero];try decide)
theorem nm_ec:(ooF (spl 46 ecN)).isSome=true∧oidB ecN=[42,134,72,206,61,2,1]:=oid_cat (L:=[[49],[50],[56,52,48],[49,48,48,52,53],[50],[49]]) (N:=[1,2,840,10045,2,1]) (by decide) (by decide) (by kernel_rfl) (by decide) (by decide) (by decide) (by simp[grpF,hiF_pos,hiF_zero];try decide)
theorem nm_ed:(ooF (spl 46 edN)).isSome=true∧oidB edN=[43,101,112]:=oid_cat (L:=[[49],[51],[49,48,49],[49,49,50]]) (N:=[1,3,101,112]) (by decide) (by decide) (by kernel_rfl) (by decide) (by decide) (by decide) (by simp[grpF,hiF_zero];try decide)
theorem nm_384:(ooF (spl 46 p384N)).isSome=true∧oidB p384N=[43,129,4,0,34]:=oid_cat (L:=[[49],[51],[49,51,50],[48],[51,52]]) (N:=[1,3,132,0,34]) (by decide) (by decide) (by kernel_rfl) (by decide) (by decide) (by decide) (by simp[grpF,hiF_pos,hiF_zero];try decide)
theorem nm_256:(ooF (spl 46 p256N)).isSome=true∧oidB p256N=[42,134,72,206,61,3,1,7]:=oid_cat (L:=[[49],[50],[56,52,48],[49,48,48,52,53],[51],[49],[55]]) (N:=[1,2,840,10045,3,1,7]) (by decide) (by decide) (by kernel_rfl) (by decide) (by decide) (by decide) (by simp[grpF,hiF_pos,hiF_zero];try decide)
theorem nm_cv (c:Int):(ooF (spl 46 (cvN c))).isSome=true∧(oidB (cvN c)).length≤16∧(cvN c).length≤268435456:=by
 unfold cvN
 split
 ·exact⟨nm_384.1,by rw[nm_384.2];decide,by decide⟩
 ·exact⟨nm_256.1,by rw[nm_256.2];decide,by decide⟩
theorem un2_cons (v:V) (l:List V):un2 (v::l)=un1 v::un2 l:=rfl
theorem un2_nil:un2 []=[]:=rfl
theorem sprint2_own (J:Inv) (hJ: ∀w F,J.I w F→JV.I w F) (hE:EdT J) (k:Ky) (hk:k.Ok) (ht:k.kty=2) (hg:k.good=true):FnH Tryz.prog J 9 [k.V] [] 0 (.tu [.by (printF (elemF algR (printF (innL k.n k.e)).1)).1, .i (printF (elemF algR (printF (innL k.n k.e)).1)).2]) [] 12:=by
 rcases k with ⟨kty,crv,s,n,e,x,y⟩
 simp only at ht
 subst ht
 have hn:=hk.n
 have he:=hk.e
 have hs1:=small_inn hn he
 have hl:=printF_len (innL n e)
 have hs2:Small (elemF algR (printF (innL n e)).1):=small_elem (by decide) (fun t ht=>by simp only[algR,nm_rsa.2,List.mem_cons,List.not_mem_nil,or_false] at ht;rcases ht with rfl|rfl<;>simp) (by omega)
 simp only at hn he
 simp only[innL,algR,nm_rsa] at hs1 hs2 hl
 refine fnJ Tryz.func9 rfl (by kernel_rfl) (BPa_ok J hJ hE) rfl ?_
 unfold Tryz.f9
 have en:[49,46,50,46,56,52,48,46,49,49,51,53,52,57,46,49,46,49,46,49]=rsaN:=rfl
 simp only[↓bD,bQ,reduceEqDiff,reduceLT,reduceAdd,↓reduceIte,BPa,BPaf,Ky.V,keyV,cK,keyW,byN,hg]
 refine⟨hk,?_⟩
 refine DrawC.tree (.q 1 [] (.q 2 [] (.q 4 [] (.q 5 [] (.two 0 3 (.one 3 (.one 6 (.one 7 (.one 8 (.q 9 [] (.q 10 [] (.q 11 [] (.q 12 [] (.q 13 [] .done))))))))) (.two 0 6 (.one 6 (.one 7 (.one 8 (.q 9 [] (.q 10 [] (.q 11 [] (.q 12 [] (.q 13 [] .done)))))))) (.one 0 (.one 7 (.one 8 (.q 9 [] (.q 10 [] (.q 11 [] (.q 12 [] (.q 13 [] .done)))))))))))))) [] (by kernel_rfl) ?_
 simp only[↓bD,bQ,reduceMul,reduceLeDiff,reduceEqDiff,reduceLT,reduceAdd,↓reduceIte,reduceCtorEq,bnB,BPaf,cT,ok1,un1,un2_cons,un2_nil,tlsV,tlvD,ok_tls,un2_tls,en,nm_rsa]
 repeat' with_reducible apply And.intro
 all_goals first|omega|exact hs1|exact hs2|decide|(refine RenC.skip ?_;simp only[bQ,reduceLeDiff,reduceEqDiff,reduceAdd,↓reduceIte,algR,innL,nm_rsa])
theorem sprint3_own (J:Inv) (hJ: ∀w F,J.I w F→JV.I w F) (hE:EdT J) (k:Ky) (hk:k.Ok) (ht:k.kty=3) (hg:k.good=true):FnH Tryz.prog J 9 [k.V] [] 0 (.tu [.by (printF (elemF (algE k.crv) (4::(k.x++k.y)))).1, .i (printF (elemF (algE k.crv) (4::(k.x++k.y)))).2]) [] 12:=by
 rcases k with ⟨kty,crv,s,n,e,x,y⟩
 simp only at ht
 subst ht
 have hx:=hk.x
 have hy:=hk.y
 simp only at hx hy
 obtain⟨c1,c2,c3⟩:=nm_cv crv
 have hs2:Small (elemF (algE crv) (4::(x++y))):=small_elem (by simp[algE]) (fun t ht=>by simp only[algE,List.mem_cons,List.not_mem_nil,or_false] at ht;rcases ht with rfl|rfl<;>simp only[nm_ec.2]<;>first|(simp;done)|omega) (by simp;omega)
 simp only[algE,nm_ec] at hs2
 refine fnJ Tryz.func9 rfl (by kernel_rfl) (BPa_ok J hJ hE) rfl ?_
 unfold Tryz.f9
 have en:[49,46,50,46,56,52,48,46,49,48,48,52,53,46,50,46,49]=ecN:=rfl
 have e4:u8 4=4:=rfl
 simp only[↓bD,bQ,reduceEqDiff,reduceLT,reduceAdd,↓reduceIte,BPa,BPaf,Ky.V,keyV,k_eq,cK,keyW,byN,hg]
 refine⟨hk,?_⟩
 refine DrawC.tree (.q 1 [] (.q 2 [] (.q 7 [] (.q 8 [] (.q 10 [] (.q 11 [] (.two 0 6 (.two 3 6 (.two 4 6 (.two 5 6 (.one 6 (.one 9 (.one 12 (.one 13 (.one 14 (.q 15 [] (.q 16 [] (.q 17 [] (.q 18 [] .done))))))))) (.two 5 9 (.one 9 (.one 12 (.one 13 (.one 14 (.q 15 [] (.q 16 [] (.q 17 [] (.q 18 [] .done)))))))) (.two 5 12 (.one 12 (.one 13 (.one 14 (.q 15 [] (.q 16 [] (.q 17 [] (.q 18 [] .done))))))) (.one 5 (.one 13 (.one 14 (.q 15 [] (.q 16 [] (.q 17 [] (.q 18 [] .done)))))))))) (.one 4 (.two 5 9 (.one 9 (.one 12 (.one 13 (.one 14 (.q 15 [] (.q 16 [] (.q 17 [] (.q 18 [] .done)))))))) (.two 5 12 (.one 12 (.one 13 (.one 14 (.q 15 [] (.q 16 [] (.q 17 [] (.q 18 [] .done))))))) (.one 5 (.one 13 (.one 14 (.q 15 [] (.q 16 [] (.q 17 [] (.q 18 [] .done))))))))))) (.one 3 (.one 4 (.two 5 9 (.one 9 (.one 12 (.one 13 (.one 14 (.q 15 [] (.q 16 [] (.q 17 [] (.q 18 [] .done)))))))) (.two 5 12 (.one 12 (.one 13 (.one 14 (.q 15 [] (.q 16 [] (.q 17 [] (.q 18 [] .done))))))) (.one 5 (.one 13 (.one 14 (.q 15 [] (.q 16 [] (.q 17 [] (.q 18 [] .done)))))))))))) (.one 0 (.one 3 (.one 4 (.two 5 9 (.one 9 (.one 12 (.one 13 (.one 14 (.q 15 [] (.q 16 [] (.q 17 [] (.q 18 [] .done)))))))) (.two 5 12 (.one 12 (.one 13 (.one 14 (.q 15 [] (.q 16 [] (.q 17 [] (.q 18 [] .done))))))) (.one 5 (.one 13 (.one 14 (.q 15 [] (.q 16 [] (.q 17 [] (.q 18 [] .done))))))))))))))))))) [] (by kernel_rfl) ?_
 simp only[↓bD,bQ,reduceMul,reduceLeDiff,reduceEqDiff,reduceLT,reduceAdd,↓reduceIte,reduceCtorEq,bnB,BPaf,cT,ok1,un1,un2_cons,un2_nil,tlsV,tlvD,ok_tls,un2_tls,en,nm_ec,e4,List.length_append]
 repeat' with_reducible apply And.intro
 all_goals first|omega|exact hs2|assumption|decide|(refine RenC.skip ?_;simp only[bQ,reduceLeDiff,reduceEqDiff,reduceAdd,↓reduceIte,algE,nm_ec])
theorem sprint4_own (J:Inv) (hJ: ∀w F,J.I w F→JV.I w F) (hE:EdT J) (k:Ky) (hk:k.Ok) (ht:k.kty=4) (hg:k.good=true):FnH Tryz.prog J 9 [k.V] [] 0 (.tu [.by (printF (elemF algO k.x)).1, .i (printF (elemF algO k.x)).2]) [] 12:=by
 rcases k with ⟨kty,crv,s,n,e,x,y⟩
 simp only at ht
 subst ht
 have hx:=hk.x
 simp only at hx
 have hs2:Small (elemF algO x):=small_elem (by simp[algO]) (fun t ht=>by simp only[algO,List.mem_cons,List.not_mem_nil,or_false] at ht;subst ht;simp only[nm_ed.2];simp) (by omega)
 simp only[algO,nm_ed] at hs2
 refine fnJ Tryz.func9 rfl (by kernel_rfl) (BPa_ok J hJ hE) rfl ?_
 unfold Tryz.f9
 have en:[49,46,51,46,49,48,49,46,49,49,50]=edN:=rfl
 simp only[↓bD,bQ,reduceEqDiff,reduceLT,reduceAdd,↓reduceIte,BPa,BPaf,Ky.V,keyV,k_eq,cK,keyW,byN,hg]
 refine⟨hk,?_⟩
 refine DrawC.tree (.q 2 [] (.q 3 [] (.one 0 (.one 1 (.one 4 (.one 5 (.q 6 [] (.q 7 [] (.q 8 [] (.q 9 [] .done)))))))))) [] (by kernel_rfl) ?_
 simp only[↓bD,bQ,reduceMul,reduceLeDiff,reduceEqDiff,reduceLT,reduceAdd,↓reduceIte,reduceCtorEq,bnB,BPaf,cT,ok1,un1,un2_cons,un2_nil,tlsV,tlvD,ok_tls,un2_tls,en,nm_ed]
 repeat' with_reducible apply And.intro
 all_goals first|omega|exact hs2|decide|(refine RenC.skip ?_;simp only[bQ,reduceLeDiff,reduceEqDiff,reduceAdd,↓reduceIte,algO,nm_ed])
theorem sprint0_own (J:Inv) (hJ: ∀w F,J.I w F→JV.I w F) (hE:EdT J) (k:Ky) (hk:k.Ok) (hg:k.good=false):FnH Tryz.prog J 9 [k.V] [] 0 (.tu [.by [], .i 90]) [] 12:=by
 rcases k with ⟨kty,crv,s,n,e,x,y⟩
 refine fnJ Tryz.func9 rfl (by kernel_rfl) (BPa_ok J hJ hE) rfl ?_
 unfold Tryz.f9
 simp only[↓bD,bQ,reduceEqDiff,reduceLT,reduceAdd,↓reduceIte,BPa,BPaf,Ky.V,keyV,cK,keyW,byN,hg]
 refine⟨hk,RenC.skip ?_⟩
 simp only[bQ,reduceLeDiff,reduceEqDiff,reduceAdd,↓reduceIte]
theorem sprint1_own (J:Inv) (hJ: ∀w F,J.I w F→JV.I w F) (hE:EdT J) (k:Ky) (hk:k.Ok) (h2:k.kty≠2) (h3:k.kty≠3) (h4:k.kty≠4) (hg:k.good=true):FnH Tryz.prog J 9 [k.V] [] 0 (.tu [.by [], .i 90]) [] 12:=by
 rcases k with ⟨kty,crv,s,n,e,x,y⟩
 have e2:(kty==2)=false:=beq_eq_false_iff_ne.2 h2
 have e3:(kty==3)=false:=beq_eq_false_iff_ne.2 h3
 have e4:(kty==4)=false:=beq_eq_false_iff_ne.2 h4
 refine fnJ Tryz.func9 rfl (by kernel_rfl) (BPa_ok J hJ hE) rfl ?_
 unfold Tryz.f9
 simp only[↓bD,bQ,reduceEqDiff,reduceLT,reduceAdd,↓reduceIte,BPa,BPaf,Ky.V,keyV,cK,keyW,byN,hg,e2,e3,e4]
 refine⟨hk,RenC.skip ?_⟩
 simp only[bQ,reduceLeDiff,reduceEqDiff,reduceAdd,↓reduceIte]
theorem sprint_fn (J:Inv) (hJ: ∀w F,J.I w F→JV.I w F) (hE:EdT J) (k:Ky) (hk:k.Ok):Fn Tryz.prog J 9 false [k.V] (.tu [.by k.pr.1, .i k.pr.2]):=by
 cases hg:k.good
 ·have e:k.pr=([],90):=by unfold Ky.pr;rw[if_neg (by rw[hg];simp)]
  rw[e];exact Fn.of_plain (sprint0_own J hJ hE k hk hg) rfl
 by_cases h2:k.kty=2
 ·have e:k.pr=printF (elemF algR (printF (innL k.n k.e)).1):=by unfold Ky.pr Ky.els;rw[if_pos ⟨hg,by omega⟩,if_pos h2]
  rw[e];exact Fn.of_plain (sprint2_own J hJ hE k hk h2 hg) rfl
 by_cases h3:k.kty=3
 ·have e:k.pr=printF (elemF (algE k.crv) (4::(k.x++k.y))):=by unfold Ky.pr Ky.els;rw[if_pos ⟨hg,by omega⟩,if_neg h2,if_pos h3]
  rw[e];exact Fn.of_plain (sprint3_own J hJ hE k hk h3 hg) rfl
 by_cases h4:k.kty=4
 ·have e:k.pr=printF (elemF algO k.x):=by unfold Ky.pr Ky.els;rw[if_pos ⟨hg,by omega⟩,if_neg h2,if_neg h3]
  rw[e];exact Fn.of_plain (sprint4_own J hJ hE k hk h4 hg) rfl
 have h1:k.kty=1:=Decidable.byContradiction fun h1=>by
  unfold Ky.good goodK at hg
  rw[if_neg h1,if_neg h2,if_neg h3,if_neg h4] at hg
  cases hg
 have e:k.pr=([],90):=by unfold Ky.pr;rw[if_neg (by rw[h1];simp)]
 rw[e];exact Fn.of_plain (sprint1_own J hJ hE k hk h2 h3 h4 hg) rfl
open Go.RowKit Go.Extern.Stop Go.Stop Go.Extern
set_option linter.unusedSimpArgs false
set_option maxRecDepth 100000
open Nat (reduceMul reduceLeDiff reduceEqDiff reduceLT reduceAdd reduceSub reduceDiv)
open Int (reduceToNat reducePow)
open Go.RowKit
set_option linter.unusedSimpArgs false
set_option maxRecDepth 100000
section
variable {P:Program} {G:Sig} {x:Fx} {F:Cx} {w:World} {a:Act} {s:S}
end
end Go.Proofs.YtfengpdaocgcnaaGreatDoor
