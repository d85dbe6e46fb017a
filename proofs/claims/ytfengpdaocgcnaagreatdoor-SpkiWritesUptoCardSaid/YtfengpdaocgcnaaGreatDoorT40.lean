/- The reference's numbers and identifiers (out of dn:NRf). -/
import Derived.Test.YtfengpdaocgcnaaGreatDoorT39
import Derived.Test.YtfengpdaocgcnaaGreatDoorT31
import Derived.Test.YtfengpdaocgcnaaGreatDoorT38
import Derived.Lib.ItoaLen
import Derived.Test.YtfengpdaocgcnaaGreatDoorT33
namespace Go.Proofs.YtfengpdaocgcnaaGreatDoor
open Nat (reduceMul reduceLeDiff reduceEqDiff reduceLT reduceAdd reduceSub reduceDiv)
open Int (reduceToNat reducePow)
open Go.RowKit
set_option linter.unusedSimpArgs false
set_option maxRecDepth 100000
theorem leastF_snoc (c:UInt8): ∀p:List UInt8,leastF (p++[c])=if c=0∧leastF p=[] then [] else leastF p++[c]
 |[]=>by
  by_cases h:c=0
  ·simp[leastF,h]
  ·simp[leastF,h]
 |d::p=>by
  rw[List.cons_append,leastF,leastF]
  by_cases h:d=0
  ·rw[if_pos h,if_pos h,leastF_snoc c p]
  ·rw[if_neg h,if_neg h,if_neg (by simp)];rfl
theorem u8_zero {x:Int} (h0:0≤x) (h1:x<256):u8 x=0↔x=0:=by
 have:=u8_toNat x h0 h1
 constructor
 ·intro h;rw[h] at this;simp at this;omega
 ·rintro rfl;rfl
theorem rLeast_own (J:Inv) (l:List UInt8) (hl:l.length≤140737488351232):FnH Tryz.prog J 223 [.by l] [] 0 (.by (leastF l)) [] 1:=by
 refine fnJ Tryz.func223 rfl (by kernel_rfl) (G0_ok J) rfl ?_
 unfold Tryz.f223
 simp only[bnA,G0]
 refine LoopC.introA (α:=Nat×Nat) (fun y=>y.1≤l.length)
  (fun y=>⟨[(3, .ro (.r y.2)),(4, .i y.1),(0, .by l)],[(y.2, .row 5 (.by (leastF (l.take y.1))))],y.2+1⟩)
  (fun y=>l.length-y.1) (0,0) [.sl 3 5 (.by [])] (Nat.zero_le _) ?_ ?_
 ·simp only[bnA,reduceLeDiff,reduceEqDiff,↓reduceIte,reduceCtorEq,leastF]
  rfl
 ·rintro⟨i,k⟩ q
  simp only at q
  simp only[bnA,reduceMul,reduceLeDiff,reduceEqDiff,reduceLT,reduceAdd,↓reduceIte,reduceCtorEq]
  refine⟨fun hi=> ?_,fun hi=> ?_⟩
  ·simp only[decide_eq_true_eq] at hi
   have hi:i<l.length:=by omega
   have h0:=byteAt_lo l i
   have h1:=byteAt_hi l i
   have hs:=leastF_snoc (u8 (byteAt l i)) (l.take i)
   rw[take_snoc l hi] at hs
   have hle:=leastF_le (l.take i)
   rw[List.length_take] at hle
   refine⟨by omega,by omega,fun hc=> ?_,fun hc=> ?_⟩
   ·have e:leastF (l.take (i+1))=leastF (l.take i)++[u8 (byteAt l i)]:=by
     rw[hs,if_neg]
     rintro⟨c1,c2⟩
     rw[u8_zero h0 h1] at c1
     rw[c1,c2] at hc
     simp at hc
    rw[←e]
    refine⟨by omega,by omega,h0,h1,by rw[e,List.length_append,List.length_singleton];omega,by constructor<;>omega,Again.intro (i+1,k+2) (by simp only;omega) (by simp only;omega) ?_⟩
    simp only[bnA,reduceLeDiff,reduceEqDiff,reduceAdd,↓reduceIte,reduceCtorEq]
    simp
   ·have e:leastF (l.take (i+1))=leastF (l.take i):=by
     simp only[Bool.or_eq_false_iff,Bool.not_eq_false',beq_iff_eq,decide_eq_false_iff_not] at hc
     have hn:leastF (l.take i)=[]:=List.eq_nil_of_length_eq_zero (by omega)
     rw[hs,if_pos ⟨(u8_zero h0 h1).2 hc.1,hn⟩,hn]
    refine⟨by constructor<;>omega,Again.intro (i+1,k) (by simp only;omega) (by simp only;omega) ?_⟩
    simp only[bnA,reduceLeDiff,reduceEqDiff,↓reduceIte,reduceCtorEq,e]
    simp
  ·simp only[decide_eq_false_iff_not] at hi
   obtain rfl:i=l.length:=by omega
   rw[List.take_length]
   refine RenC.intro [(0,k)] ⟨[(2, .ro (.r 0))],[(0, .row 5 (.by (leastF l)))],1⟩ ?_ ?_
   ·simp only[bnA,reduceLeDiff,reduceLT,↓reduceIte]
    simp
   ·simp only[bnA,reduceLeDiff,↓reduceIte]
theorem rLeast_fn (J:Inv) (l:List UInt8) (hl:l.length≤140737488351232):Fn Tryz.prog J 223 false [.by l] (.by (leastF l)):=Fn.of_plain (rLeast_own J l hl) rfl
def GRLf:FuncId→List V→Option (List Prop×Bool×V):=fun f args=>
 if f=223 then match args with
  |[.by l]=>some ([l.length≤140737488351232],false, .by (leastF l))
  |_=>none
 else none
def GRL (J:Inv):Sig:=⟨J,df,GRLf,noH,0⟩
theorem GRL_ok (J:Inv):SigOk Tryz.prog (GRL J):=by
 refine .plain fun f args l fr r h hl=> ?_
 unfold GRLf at h
 split at h
 ·rename_i hf;subst hf
  split at h
  ·obtain⟨rfl,rfl,rfl⟩:=some_tri h;exact rLeast_fn J _ (hl _ (by simp))
  ·exact absurd h (by simp)
 ·exact absurd h (by simp)
noncomputable def ouC:Code:=match Tryz.f181.body with
 |some (.seq _ (.seq _ (.seq _ (.seq (.seq _ (.cond _ a _)) _))))=>a
 |_=> .skip
theorem ou_nil (J:Inv) (E:En) (K:Ko) (e4:E.get 4=some (.val (.slice none 0 0)))
  (hK: ∀E',En.get E' 4=some (.ro (.r 2))→En.get E' 3=E.get 3→En.get E' 2=E.get 2→K.nrm ⟨E',[(2, .row 5 (.by [u8 0])),(1, .row 5 (.by [u8 0])),(0, .box 47 (.st [.val (.int .i64 0), .val (.slice none 0 0), .val (.int .i64 0)]))],3⟩):
  vg Tryz.prog (GRL J) ouC ⟨E,[(0, .box 47 (.st [.val (.int .i64 0), .val (.slice none 0 0), .val (.int .i64 0)]))],1⟩ K:=by
 simp only[ouC,Tryz.f181,bnA,reduceMul,reduceLeDiff,reduceEqDiff,reduceAdd,↓reduceIte,reduceCtorEq,GRL,e4]
 refine⟨by omega,by omega,by omega,hK _ ?_ ?_ ?_⟩<;>simp only[En.get,Nat.reduceEqDiff,if_true,if_false]
theorem rOfUint_own (J:Inv) (l:List UInt8) (h:l.length≤140737488350000):FnH Tryz.prog J 181 [.by l] [] 0 (.st [.val (.int .i64 2), .by (ofuD l), .val (.int .i64 0)]) [] 9:=by
 have hle:=leastF_le l
 refine fnC Tryz.func181 rfl (by kernel_rfl) (GRL_ok J) rfl ?_
 unfold Tryz.f181
 simp only[bnX,↓reduceIte,GRL]
 (rw[Kseq_app];simp only[bnX,↓reduceIte,reduceCtorEq,GRLf])
 refine⟨by omega,?_⟩
 (rw[Kseq_app];simp only[bnX])
 (rw[Kseq_app];simp only[bnX,reduceEqDiff,reduceLT,↓reduceIte,reduceToNat])
 refine⟨fun _=>by omega,fun hz=> ?_,fun hb=> ?_,fun hb=> ?_⟩
 ·have:(leastF l).length≠0:=fun e=>by rw[e] at hz;simp at hz
  omega
 ·have e:ofuD l=u8 0::leastF l:=by
   unfold ofuD;rw[if_pos];simp at hb;rcases hb with hb|hb
   ·exact .inl (by rw[hb];rfl)
   ·exact .inr (by omega)
  rw[e]
  refine ou_nil J _ _ ?_ ?_
  ·simp only[En.get,Nat.reduceEqDiff,if_true,if_false]
  ·simp only[En.get,Nat.reduceEqDiff,if_true,if_false]
   intro E' f4 f3 f2
   (rw[Kseq_app];simp only[bnX,reduceEqDiff,reduceAdd,↓reduceIte,reduceCtorEq,f4,f3])
   refine⟨by omega,?_⟩
   (rw[Kseq_app];simp only[bnX,reduceLeDiff,reduceEqDiff,reduceLT,reduceAdd,↓reduceIte,reduceCtorEq,f2])
   refine .inl ?_
   simp only[bnA,reduceLeDiff,reduceEqDiff,reduceLT,reduceAdd,↓reduceIte,reduceCtorEq,f2]
 ·have e:ofuD l=leastF l:=by
   unfold ofuD;rw[if_neg];simp at hb;rintro(h|h)
   ·exact hb.1 (List.eq_nil_of_length_eq_zero h)
   ·omega
  rw[e]
  simp only[bnX]
  (rw[Kseq_app];simp only[bnX,reduceEqDiff,reduceAdd,↓reduceIte,reduceCtorEq])
  refine⟨by omega,?_⟩
  (rw[Kseq_app];simp only[bnX,reduceLeDiff,reduceEqDiff,reduceLT,reduceAdd,↓reduceIte,reduceCtorEq])
  refine .inl ?_
  simp only[bnA,reduceLeDiff,reduceEqDiff,reduceLT,reduceAdd,↓reduceIte,reduceCtorEq]
theorem rOfUint_fn (J:Inv) (l:List UInt8) (h:l.length≤140737488350000):Fn Tryz.prog J 181 false [.by l] (.st [.val (.int .i64 2), .by (ofuD l), .val (.int .i64 0)]):=Fn.of_plain (rOfUint_own J l h) (by simp[V.cl,clL])
theorem grp_hi {m:Nat} (h:m≠0):(grpF m).set ((grpF m).length-1) (u8 ((byteAt (grpF m) ((grpF m).length-1)+128)%256))=hiF m:=by
 unfold grpF
 rw[hiF_pos h]
 have e:(hiF (m/128)++[u8 ((m%128:Nat):Int)]).length-1=(hiF (m/128)).length:=by simp
 rw[e,List.set_append_right _ _ (Nat.le_refl _),Nat.sub_self,List.set_cons_zero]
 congr 3
 unfold byteAt
 rw[List.getD_eq_getElem?_getD,List.getElem?_append_right (Nat.le_refl _),Nat.sub_self]
 simp only[List.getElem?_cons_zero,Option.getD_some]
 rw[u8_nat (by omega)]
 omega
def GrOk (J:Inv) (n:Nat):Prop:=n≤2147483727→ ∀b,FnH Tryz.prog J 222 [.i n] [] b (.ro (.r b)) [(b, .row 5 (.by (grpF n)))] (b+1)
def GGRh (n:Nat):FuncId→List V→List (Nat×Ob)→Nat→Option CallH:=fun f args _ nx=>
 if f=222 then match args with
  |[.val (.int .i64 m)]=>some ⟨[0≤m,m.toNat<n],[],[], .ro (.r nx),[(nx, .row 5 (.by (grpF m.toNat)))],nx+1⟩
  |_=>none
 else none
def GGR (J:Inv) (n b:Nat):Sig:=⟨J,df,G0f,GGRh n,b⟩
theorem GGR_ok (J:Inv) (n b:Nat) (hn:n≤2147483727) (ih: ∀m,m<n→GrOk J m):SigOk Tryz.prog (GGR J n b):=by
 refine⟨fun f args l fr r h hl=>by simp[GGR,G0f] at h,fun f args h nx c hc hl=> ?_⟩
 change GGRh n f args h nx=some c at hc
 unfold GGRh at hc
 split at hc
 ·rename_i hf;subst hf
  split at hc
  ·rename_i m
   obtain rfl:=Option.some.inj hc
   have h1:0≤m:=hl _ (by simp)
   have h2:m.toNat<n:=hl _ (by simp)
   have:=ih m.toNat h2 (by omega) nx
   rw[V.i,Int.toNat_of_nonneg h1] at this
   exact this
  ·exact absurd hc (by simp)
 ·exact absurd hc (by simp)
theorem group_step (J:Inv) (n b:Nat) (ih: ∀m,m<n→GrOk J m) (hn:n≤2147483727):FnH Tryz.prog J 222 [.i n] [] b (.ro (.r b)) [(b, .row 5 (.by (grpF n)))] (b+1):=by
 refine fnJ Tryz.func222 rfl (by kernel_rfl) (GGR_ok J n b hn ih) rfl ?_
 unfold Tryz.f222
 simp only[bnA,reduceMul,reduceLeDiff,reduceEqDiff,reduceLT,reduceAdd,↓reduceIte,reduceCtorEq,GGR,GGRh,G0f]
 have e1:((n:Int)/128).toNat=n/128:=by omega
 have hgl:=grpF_len (m:=n/128) (by omega)
 have hgn:=grpF_ne (n/128)
 have e2:(((grpF (n/128)).length:Int)-1).toNat=(grpF (n/128)).length-1:=by omega
 have n1: ¬b<b:=Nat.lt_irrefl _
 refine⟨fun hn0=> ?_,fun hn0=> ?_⟩
 ·have hn0:n<128:=by simp at hn0;omega
  have e:grpF n=[u8 ((n:Int)%256)]:=by
   unfold grpF
   rw[show n/128=0 from by omega,hiF_zero,List.nil_append,show((n%128:Nat):Int)=(n:Int)%256 from by omega]
  rw[e]
  refine⟨by omega,by omega, .inl ?_⟩
  simp only[bnA,reduceLeDiff,↓reduceIte]
  exact Nat.le_refl _
 ·have hn0: ¬n<128:=by simp at hn0;omega
  have hb0:=byteAt_lo (grpF (n/128)) ((grpF (n/128)).length-1)
  rw[e1,e2,grp_hi (show n/128≠0 by omega)]
  have e:hiF (n/128)++[u8 ((n:Int)%128%256)]=grpF n:=by
   unfold grpF
   rw[show((n%128:Nat):Int)=(n:Int)%128%256 from by omega]
  rw[e]
  have hgl2:=grpF_len (m:=n) hn
  refine⟨by constructor<;>omega,by omega,by omega,by omega,by omega,by constructor<;>omega,by constructor<;>omega,by omega,by omega,by omega,by omega,by omega,by omega,by omega,by omega,by omega,by omega,by omega,by omega,by omega,?_⟩
  refine RenC.intro [(b,b+2)] ⟨[(2, .ro (.r b))],[(b, .row 5 (.by (grpF n)))],b+1⟩ ?_ ?_
  ·simp only[bnA,↓reduceIte,reduceCtorEq,n1]
   exact⟨by omega,by omega, .inr trivial⟩
  ·simp only[bnA,reduceLeDiff,↓reduceIte]
   exact Nat.le_refl _
theorem rgroup_own (J:Inv) (n:Nat):GrOk J n:=Nat.strongRecOn n fun n ih hn b=>group_step J n b ih hn
def dstep (n k:Nat) (c:UInt8):Option Nat:=if c.toNat<48∨57<c.toNat∨(0<k∧n=0)∨2147483647<10*n+(c.toNat-48) then none else some (10*n+(c.toNat-48))
def runD (n k:Nat):List UInt8→Option Nat
 |[]=>some n
 |c::r=>(dstep n k c).bind fun m=>runD m (k+1) r
def numR:List UInt8→Nat→Nat→List Int→Option (List Int)
 |[],n,k,out=>if k=0 then none else some (out++[(n:Int)])
 |c::r,n,k,out=>if c=46 then (if k=0 then none else numR r 0 0 (out++[(n:Int)])) else (dstep n k c).bind fun m=>numR r m (k+1) out
theorem dec_step {n k m:Nat} {c:UInt8} {q:List UInt8} (hq:(k=0∧q=[]∧n=0)∨(0<k∧q=Lib.decDigits n)) (h:dstep n k c=some m):q++[c]=Lib.decDigits m∧m≤2147483647:=by
 unfold dstep at h
 split at h
 ·cases h
 ·rename_i hc
  obtain rfl:=Option.some.inj h
  have hc8:c=UInt8.ofNat (48+(c.toNat-48)):=by
   rw[show 48+(c.toNat-48)=c.toNat from by omega];simp
  refine⟨?_,by omega⟩
  rcases hq with ⟨rfl,rfl,rfl⟩|⟨hk,rfl⟩
  ·rw[Lib.decDigits,dif_pos (by omega),List.nil_append,show 10*0+(c.toNat-48)=c.toNat-48 from by omega,←hc8]
  ·rw[Lib.decDigits.eq_def (10*n+(c.toNat-48)),dif_neg (by omega),show(10*n+(c.toNat-48))/10=n from by omega,show(10*n+(c.toNat-48))%10=c.toNat-48 from by omega,←hc8]
theorem runD_dec: ∀(r q:List UInt8) (n k v:Nat),(k=0∧q=[]∧n=0)∨(0<k∧q=Lib.decDigits n∧n≤2147483647)→runD n k r=some v→0<k+r.length→q++r=Lib.decDigits v∧v≤2147483647
 |[],q,n,k,v,hq,h,hk=>by
  simp only[runD,Option.some.injEq] at h
  subst h
  rcases hq with ⟨rfl,_⟩|⟨_,h1,h2⟩
  ·simp at hk
  ·rw[List.append_nil];exact⟨h1,h2⟩
 |c::r,q,n,k,v,hq,h,hk=>by
  rw[runD] at h
  cases hd:dstep n k c with
  |none=>rw[hd] at h;cases h
  |some m=>
   rw[hd] at h
   obtain⟨h1,h2⟩:=dec_step (hq.imp id fun h=>⟨h.1,h.2.1⟩) hd
   have:=runD_dec r (q++[c]) m (k+1) v (.inr ⟨by omega,h1,h2⟩) h (by omega)
   rw[List.append_assoc] at this
   exact this
theorem runD_app: ∀(p:List UInt8) (n k:Nat) (r:List UInt8),runD n k (p++r)=(runD n k p).bind fun m=>runD m (k+p.length) r
 |[],n,k,r=>rfl
 |c::p,n,k,r=>by
  rw[List.cons_append,runD,runD]
  cases dstep n k c with
  |none=>rfl
  |some m=>
   simp only[Option.bind_some]
   rw[runD_app p m (k+1) r,List.length_cons,show k+1+p.length=k+(p.length+1) from by omega]
theorem runD_itoa: ∀v:Nat,v≤2147483647→runD 0 0 (Lib.decDigits v)=some v:=by
 intro v
 induction v using Nat.strongRecOn with
 |_ v ih=>
  intro hv
  rw[Lib.decDigits]
  split
  ·rename_i h
   have e:(UInt8.ofNat (48+v)).toNat=48+v:=by rw[UInt8.toNat_ofNat'];omega
   rw[runD,dstep,e,if_neg (by omega)]
   simp only[Option.bind_some,runD,Option.some.injEq]
   omega
  ·rename_i h
   have e:(UInt8.ofNat (48+v%10)).toNat=48+v%10:=by rw[UInt8.toNat_ofNat'];omega
   have hn:=dec_ne (v/10)
   have hl:0<(Lib.decDigits (v/10)).length:=by cases hd:Lib.decDigits (v/10) with
    |nil=>exact absurd hd hn
    |cons=>simp
   rw[runD_app,ih (v/10) (by omega) (by omega)]
   simp only[Option.bind_some,runD]
   rw[dstep,e,if_neg (by omega)]
   simp only[Option.bind_some,Option.some.injEq]
   omega
theorem numOk_run {p:List UInt8}:numOk p=true↔p≠[]∧(runD 0 0 p).isSome=true:=by
 constructor
 ·intro h
  obtain⟨n,h1,rfl,h3⟩:=num_of h
  rw[Lib.itoa_nonneg,runD_itoa n h1]
  exact⟨dec_ne n,rfl⟩
 ·rintro⟨h1,h2⟩
  obtain⟨v,hv⟩:=Option.isSome_iff_exists.1 h2
  have hl:0<0+p.length:=by cases p;exact absurd rfl h1;simp
  obtain⟨h3,h4⟩:=runD_dec p [] 0 0 v (.inl ⟨rfl,rfl,rfl⟩) hv hl
  rw[List.nil_append] at h3
  rw[h3,←Lib.itoa_nonneg]
  exact(num_itoa h4).1
theorem numV_run {p:List UInt8} {v:Nat} (h1:p≠[]) (h:runD 0 0 p=some v):numV p=v:=by
 have hl:0<0+p.length:=by cases p;exact absurd rfl h1;simp
 obtain⟨h3,h4⟩:=runD_dec p [] 0 0 v (.inl ⟨rfl,rfl,rfl⟩) h hl
 rw[List.nil_append] at h3
 rw[h3,←Lib.itoa_nonneg]
 exact(num_itoa h4).2
theorem numR_eq: ∀(r:List UInt8) (n k:Nat) (out:List Int),numR r n k out=match spl 46 r with
  |h::t=>match runD n k h with
   |some m=>if k+h.length=0 then none else if t.all numOk=true then some (out++(m:Int)::t.map numV) else none
   |none=>none
  |[]=>none
 |[],n,k,out=>by simp only[numR,spl,runD,List.length_nil,Nat.add_zero,List.all_nil,if_true,List.map_nil]
 |c::r,n,k,out=>by
  rw[numR,spl]
  by_cases hc:c=46
  ·rw[if_pos hc,if_pos hc]
   simp only[runD,List.length_nil,Nat.add_zero]
   by_cases hk:k=0
   ·rw[if_pos hk,if_pos hk]
   ·rw[if_neg hk,if_neg hk,numR_eq r 0 0]
    cases hs:spl 46 r with
    |nil=>exact absurd hs (spl_ne 46 r)
    |cons h t=>
     simp only[List.all_cons,List.map_cons]
     cases hr:runD 0 0 h with
     |none=>
      have:numOk h=false:=by
       cases ho:numOk h with
       |false=>rfl
       |true=>have:=(numOk_run.1 ho).2;rw[hr] at this;cases this
      rw[this];rfl
     |some m=>
      simp only
      by_cases hh:h=[]
      ·subst hh
       have:numOk []=false:=by cases ho:numOk [] with
        |false=>rfl
        |true=>exact absurd rfl (numOk_run.1 ho).1
       rw[this];rfl
      ·have hl: ¬0+h.length=0:=by cases h;exact absurd rfl hh;simp
       have ho:numOk h=true:=numOk_run.2 ⟨hh,by rw[hr];rfl⟩
       rw[if_neg hl,ho,numV_run hh hr,Bool.true_and]
       simp only[List.append_assoc,List.singleton_append]
  ·rw[if_neg hc,if_neg hc]
   cases hs:spl 46 r with
   |nil=>exact absurd hs (spl_ne 46 r)
   |cons h t=>
    simp only[runD,List.length_cons]
    cases hd:dstep n k c with
    |none=>rfl
    |some m=>
     simp only[Option.bind_some]
     rw[numR_eq r m (k+1),hs]
     simp only
     cases runD m (k+1) h with
     |none=>rfl
     |some v=>
      simp only
      rw[if_neg (show ¬k+1+h.length=0 by omega),if_neg (show ¬k+(h.length+1)=0 by omega)]
theorem numR_spl (s:List UInt8):numR s 0 0 []=if (spl 46 s).all numOk=true then some ((spl 46 s).map numV) else none:=by
 rw[numR_eq]
 cases hs:spl 46 s with
 |nil=>exact absurd hs (spl_ne 46 s)
 |cons h t=>
  simp only[List.all_cons,List.map_cons,List.nil_append]
  cases hr:runD 0 0 h with
  |none=>
   have:numOk h=false:=by
    cases ho:numOk h with
    |false=>rfl
    |true=>have:=(numOk_run.1 ho).2;rw[hr] at this;cases this
   rw[this];rfl
  |some m=>
   simp only
   by_cases hh:h=[]
   ·subst hh
    have:numOk []=false:=by cases ho:numOk [] with
     |false=>rfl
     |true=>exact absurd rfl (numOk_run.1 ho).1
    rw[this];rfl
   ·have hl: ¬0+h.length=0:=by cases h;exact absurd rfl hh;simp
    have ho:numOk h=true:=numOk_run.2 ⟨hh,by rw[hr];rfl⟩
    rw[if_neg hl,ho,numV_run hh hr,Bool.true_and]
theorem numR_step (s:List UInt8) {i:Nat} (h:i<s.length) (n k:Nat) (out:List Int):numR (s.drop i) n k out=if s[i]=46 then (if k=0 then none else numR (s.drop (i+1)) 0 0 (out++[(n:Int)])) else (dstep n k s[i]).bind fun m=>numR (s.drop (i+1)) m (k+1) out:=by
 rw[List.drop_eq_getElem_cons h,numR]
theorem byteAt_at {s:List UInt8} {i:Nat} (h:i<s.length):byteAt s i=(s[i].toNat:Int):=by
 unfold byteAt;rw[List.getD_eq_getElem?_getD,List.getElem?_eq_getElem h];rfl
def numsV (s:List UInt8):V:=match numR s 0 0 [] with
 |some l=> .tu [.sq 1 (.val (.int .i64 0)) (nums .i64 l), .bb true]
 |none=> .tu [.sq 1 (.val (.int .i64 0)) (nums .i64 []), .bb false]
theorem numbers_own (J:Inv) (s:List UInt8) (hs:s.length≤268435456):FnH Tryz.prog J 221 [.str s] [] 0 (numsV s) [] 1:=by
 refine fnJ Tryz.func221 rfl (by kernel_rfl) (G0_ok J) rfl ?_
 unfold Tryz.f221
 simp only[bnA,G0]
 unfold numsV
 generalize hR:numR s 0 0 []=Z
 refine LoopC.introA (α:=Nat×List Int×Nat×Nat×Nat) (fun y=>y.1≤s.length+1∧y.2.1.length≤y.1∧y.2.2.1≤2147483647∧y.2.2.2.1≤y.1∧((y.1≤s.length∧numR (s.drop y.1) y.2.2.1 y.2.2.2.1 y.2.1=Z)∨(y.1=s.length+1∧Z=some y.2.1)))
  (fun y=>⟨[(7, .i y.1),(6, .i y.2.2.2.1),(5, .i y.2.2.1),(4, .ro (.r y.2.2.2.2)),(0, .str s)],[(y.2.2.2.2, .row 3 (.sq 1 (.val (.int .i64 0)) (nums .i64 y.2.1)))],y.2.2.2.2+1⟩)
  (fun y=>s.length+1-y.1) (0,[],0,0,0) [.sl 4 3 (.sq 1 (.val (.int .i64 0)) [])] ⟨Nat.zero_le _,Nat.le_refl _,by simp,by simp, .inl ⟨Nat.zero_le _,hR⟩⟩ ?_ ?_
 ·simp only[bnA,reduceLeDiff,reduceEqDiff,↓reduceIte,reduceCtorEq]
  exact⟨⟨rfl,rfl,rfl⟩,rfl⟩
 ·rintro⟨i,out,n,k,N⟩ ⟨q1,q2,q3,q4,q5⟩
  simp only at q1 q2 q3 q4 q5
  simp only[bnA,reduceMul,reduceLeDiff,reduceEqDiff,reduceAdd,↓reduceIte,reduceCtorEq]
  refine⟨fun hi=> ?_,fun hi=> ?_⟩
  ·simp only[decide_eq_true_eq] at hi
   have hi:i≤s.length:=by omega
   have q5:numR (s.drop i) n k out=Z:=by
    rcases q5 with ⟨_,h⟩|⟨h,_⟩
    ·exact h
    ·omega
   refine⟨fun _=>by omega,fun h=> ?_,fun hc=> ?_,fun hc=> ?_⟩
   ·simp only[beq_eq_false_iff_ne,ne_eq] at h
    omega
   ·have key:Z=if k=0 then none else if i=s.length then some (out++[(n:Int)]) else numR (s.drop (i+1)) 0 0 (out++[(n:Int)]):=by
     rw[←q5]
     by_cases hl:i=s.length
     ·rw[hl,List.drop_length,numR,if_pos rfl]
     ·have hi2:i<s.length:=by omega
      have h46:s[i]=46:=by
       have:byteAt s i=46:=by
        simp only[Bool.or_eq_true,beq_iff_eq] at hc
        rcases hc with h|h
        ·omega
        ·exact h
       rw[byteAt_at hi2] at this
       exact UInt8.toNat_inj.1 (by simp;omega)
      rw[numR_step s hi2,if_pos h46,if_neg hl]
    refine⟨fun hk=> ?_,fun hk=> ?_⟩
    ·have hk:k=0:=by simp at hk;exact hk
     rw[if_pos hk] at key
     rw[key]
     refine RenC.intro [] ⟨[(2, .val (.slice none 0 0)),(3, .bb false)],[],0⟩ ?_ ?_<;>simp only[bnA,reduceLeDiff,reduceEqDiff,reduceAdd,↓reduceIte,reduceCtorEq]
    ·have hk:k≠0:=by simp at hk;exact hk
     rw[if_neg hk] at key
     refine⟨by simp only[List.length_append,List.length_singleton];omega,by constructor<;>omega,Again.intro (i+1,out++[(n:Int)],0,0,N+2) ⟨by simp only;omega,by simp only[List.length_append,List.length_singleton];omega,by simp only;omega,by simp only;omega,?_⟩ (by simp only;omega) ?_⟩
     ·by_cases hl:i=s.length
      ·rw[if_pos hl] at key
       exact .inr ⟨by simp only;omega,key⟩
      ·rw[if_neg hl] at key
       exact .inl ⟨by simp only;omega,key.symm⟩
     ·simp only[bnA,reduceLeDiff,reduceEqDiff,reduceAdd,↓reduceIte,reduceCtorEq]
      refine⟨by omega,?_⟩
      simp
   ·simp only[Bool.or_eq_false_iff,beq_eq_false_iff_ne,ne_eq] at hc
    have hi2:i<s.length:=by omega
    have eb:=byteAt_at hi2
    have h46: ¬s[i]=46:=fun h=>hc.2 (by rw[eb,h];rfl)
    rw[numR_step s hi2,if_neg h46] at q5
    have hlt:=s[i].toNat_lt
    rw[eb]
    generalize hcc:s[i]=c at *
    refine⟨by omega,by omega,fun _=>by omega,fun _=>by omega,fun a b=> ?_,fun hb=> ?_,fun hb=> ?_⟩
    ·rw[a];simp;omega
    ·have hd:dstep n k c=none:=by
      unfold dstep
      rw[if_pos]
      simp only[Bool.or_eq_true,Bool.and_eq_true,beq_iff_eq,decide_eq_true_eq] at hb
      omega
     rw[hd] at q5
     have q5:none=Z:=q5
     rw[←q5]
     refine RenC.intro [] ⟨[(2, .val (.slice none 0 0)),(3, .bb false)],[],0⟩ ?_ ?_<;>simp only[bnA,reduceLeDiff,reduceEqDiff,reduceAdd,↓reduceIte,reduceCtorEq]
    ·simp only[Bool.or_eq_false_iff,Bool.and_eq_false_iff,beq_eq_false_iff_ne,ne_eq,decide_eq_false_iff_not] at hb
     have e0:wr .i64 (((c.toNat:Int)-48)%256)=((c.toNat-48:Nat):Int):=by rw[wr_eq,IntKind.wrap_i64];omega
     have e1:10*(n:Int)+((c.toNat-48:Nat):Int)=((10*n+(c.toNat-48):Nat):Int):=by omega
     rw[e0,e1]
     have hd:dstep n k c=if 2147483647<10*n+(c.toNat-48) then none else some (10*n+(c.toNat-48)):=by
      unfold dstep
      split
      ·rw[if_pos (by omega)]
      ·rw[if_neg (by omega)]
     rw[hd] at q5
     refine⟨by constructor<;>omega,by omega,by omega,by constructor<;>omega,by constructor<;>omega,fun h5=> ?_,fun h5=> ?_⟩
     ·have h5:2147483647<10*n+(c.toNat-48):=by simp at h5;omega
      rw[if_pos h5] at q5
      have q5:none=Z:=q5
      rw[←q5]
      refine RenC.intro [] ⟨[(2, .val (.slice none 0 0)),(3, .bb false)],[],0⟩ ?_ ?_<;>simp only[bnA,reduceLeDiff,reduceEqDiff,reduceAdd,↓reduceIte,reduceCtorEq]
     ·have h5: ¬2147483647<10*n+(c.toNat-48):=by simp at h5;omega
      rw[if_neg h5] at q5
      refine⟨by constructor<;>omega,Again.intro (i+1,out,10*n+(c.toNat-48),k+1,N) ⟨by simp only;omega,by simp only;omega,by simp only;omega,by simp only;omega, .inl ⟨by simp only;omega,q5⟩⟩ (by simp only;omega) ?_⟩
      simp only[bnA,reduceLeDiff,reduceEqDiff,↓reduceIte,reduceCtorEq]
      simp
  ·simp only[decide_eq_false_iff_not] at hi
   have q5:Z=some out:=by
    rcases q5 with ⟨h,_⟩|⟨_,h⟩
    ·omega
    ·exact h
   rw[q5]
   refine RenC.intro [(0,N)] ⟨[(2, .ro (.r 0)),(3, .bb true)],[(0, .row 3 (.sq 1 (.val (.int .i64 0)) (nums .i64 out)))],1⟩ ?_ ?_
   ·simp only[bnA,reduceLeDiff,reduceEqDiff,reduceLT,↓reduceIte]
    simp
   ·simp only[bnA,reduceLeDiff,reduceEqDiff,reduceAdd,↓reduceIte]
theorem numsV_cl (s:List UInt8):(numsV s).cl=true:=by
 unfold numsV;split<;>simp[V.cl,clL,nums_cl]
theorem numbers_fn (J:Inv) (s:List UInt8) (hs:s.length≤268435456):Fn Tryz.prog J 221 false [.str s] (numsV s):=Fn.of_plain (numbers_own J s hs) (numsV_cl s)
def GRof:FuncId→List V→Option (List Prop×Bool×V):=fun f args=>
 if f=221 then match args with
  |[.str s]=>some ([s.length≤268435456],false,numsV s)
  |_=>none
 else none
def GRoh:FuncId→List V→List (Nat×Ob)→Nat→Option CallH:=fun f args _ nx=>
 if f=222 then match args with
  |[.val (.int .i64 m)]=>some ⟨[0≤m,m≤2147483727],[],[], .ro (.r nx),[(nx, .row 5 (.by (grpF m.toNat)))],nx+1⟩
  |_=>none
 else none
def GRo (J:Inv):Sig:=⟨J,df,GRof,GRoh,0⟩
theorem GRo_ok (J:Inv):SigOk Tryz.prog (GRo J):=by
 refine⟨fun f args l fr r h hl=> ?_,fun f args h nx c hc hl=> ?_⟩
 ·change GRof f args=some (l,fr,r) at h
  unfold GRof at h
  split at h
  ·rename_i hf;subst hf
   split at h
   ·obtain⟨rfl,rfl,rfl⟩:=some_tri h;exact numbers_fn J _ (hl _ (by simp))
   ·exact absurd h (by simp)
  ·exact absurd h (by simp)
 ·change GRoh f args h nx=some c at hc
  unfold GRoh at hc
  split at hc
  ·rename_i hf;subst hf
   split at hc
   ·rename_i m
    obtain rfl:=Option.some.inj hc
    have h1:0≤m:=hl _ (by simp)
    have h2:m≤2147483727:=hl _ (by simp)
    have:=rgroup_own J m.toNat (by omega) nx
    rw[V.i,Int.toNat_of_nonneg h1] at this
    exact this
   ·exact absurd hc (by simp)
  ·exact absurd hc (by simp)
theorem mapV_get (L:List (List UInt8)) (i:Nat) (h:i<L.length):(L.map numV).getD i 0=numV (L.getD i []):=by
 rw[List.getD_eq_getElem?_getD,List.getElem?_map,List.getElem?_eq_getElem h,List.getD_eq_getElem?_getD,List.getElem?_eq_getElem h];rfl
theorem rOfOid_own (J:Inv) (s:List UInt8) (h:s.length≤268435456):FnH Tryz.prog J 180 [.str s] [] 0 (ofOidV s) [] 9:=by
 have hlen:(spl 46 s).length≤268435457:=by rw[spl_len];have:=List.count_le_length (a:=46) (l:=s);omega
 have hoo:=ooF_eq (spl 46 s)
 refine fnC Tryz.func180 rfl (by kernel_rfl) (GRo_ok J) rfl ?_
 unfold Tryz.f180
 generalize ho:ofOidV s=o
 unfold ofOidV at ho
 cases hc:(spl 46 s).all numOk with
 |false=>
  have ev:numsV s= .tu [.sq 1 (.val (.int .i64 0)) (nums .i64 []), .bb false]:=by unfold numsV;rw[numR_spl,hc];rfl
  have hno:ooF (spl 46 s)=none:=by rw[hoo,if_neg];rintro⟨_,h,_⟩;rw[hc] at h;cases h
  rw[hno] at ho
  subst ho
  simp only[bnA,reduceLeDiff,reduceEqDiff,reduceLT,reduceAdd,↓reduceIte,reduceCtorEq,reduceToNat,GRo,GRof,ev]
  refine⟨h,fun h=>h.elim,fun h=>h.elim,fun h=>h.elim,fun h=>h.elim,fun h=>h.elim,fun h=>h.elim,fun h=>h.elim,fun _=> .inl ?_,fun h=>by cases h⟩
  simp only[bnA,reduceLeDiff,reduceEqDiff,reduceLT,reduceAdd,↓reduceIte]
 |true=>
  have ev:numsV s= .tu [.sq 1 (.val (.int .i64 0)) (nums .i64 ((spl 46 s).map numV)), .bb true]:=by unfold numsV;rw[numR_spl,hc];rfl
  simp only[bnA,reduceLeDiff,reduceEqDiff,reduceLT,reduceAdd,↓reduceIte,reduceCtorEq,reduceToNat,GRo,GRof,ev]
  generalize spl 46 s=L at *
  have hgd: ∀i,i<L.length→ ∃n:Nat,n≤2147483647∧numV (L.getD i [])=n:=fun i hi=>by
   obtain⟨n,h1,_,h3⟩:=num_of (List.all_eq_true.1 hc (L.getD i []) (by rw[List.getD_eq_getElem?_getD,List.getElem?_eq_getElem hi];exact List.getElem_mem hi))
   exact⟨n,h1,h3⟩
  refine⟨h,fun _=>by omega,fun e=>by simp at e;omega,fun _=>by omega,fun e=>by simp at e;omega,fun _=>by omega,fun e=>by simp at e;omega,fun a b=>by rw[a,decide_eq_true b];rfl,fun hb=> ?_,fun hb=> ?_⟩
  ·have hno:ooF L=none:=by
    rw[hoo,if_neg]
    rintro⟨c1,c2,c3,c4⟩
    rw[mapV_get L 0 (by omega),mapV_get L 1 (by omega)] at hb
    simp only[Bool.or_eq_true,Bool.and_eq_true,decide_eq_true_eq] at hb
    omega
   rw[hno] at ho
   subst ho
   refine .inl ?_
   simp only[bnA,reduceLeDiff,reduceEqDiff,reduceLT,reduceAdd,↓reduceIte]
  ·have h2:2≤L.length:=by
    simp only[Bool.or_eq_false_iff,decide_eq_false_iff_not] at hb
    omega
   rw[mapV_get L 0 (by omega),mapV_get L 1 (by omega)] at hb⊢
   obtain⟨n0,a1,a2⟩:=hgd 0 (by omega)
   obtain⟨n1,b1,b2⟩:=hgd 1 (by omega)
   have hyes:ooF L=some (dOf L L.length):=by
    simp only[Bool.or_eq_false_iff,Bool.and_eq_false_iff,decide_eq_false_iff_not] at hb
    rw[hoo,if_pos ⟨h2,hc,by omega,fun h=>by omega⟩]
   rw[hyes] at ho
   subst ho
   rw[a2,b2] at hb⊢
   clear ev hoo
   simp only[Bool.or_eq_false_iff,Bool.and_eq_false_iff,decide_eq_false_iff_not] at hb
   generalize hK:Kseq _ _ _ _=K2
   have ed:dOf L 2=grpF (40*(n0:Int)+(n1:Int)).toNat:=by
    unfold dOf
    rw[if_neg (by omega),a2,b2];simp
   have hg:=grpF_len (m:=(40*(n0:Int)+(n1:Int)).toNat) (by omega)
   rw[←ed] at hg
   have rest: ∀(B k0:Nat) (E:En) (H:List (Nat×Ob)),(B=2∧k0=1)∨(B=1∧k0=2)→E.get 6=some (.op B 0)→E.get 4=some (.sq 1 (.val (.int .i64 0)) (nums .i64 (L.map numV)))→E.get 2=some (.op 0 0)→
     Hroot H 0=some (.box 47 (.st [.val (.int .i64 0), .val (.slice none 0 0), .val (.int .i64 0)]))→Hroot H B=some (.box 47 (.st [.val (.int .i64 6), .ro (.r k0), .val (.int .i64 0)]))→Hroot H k0=some (.row 5 (.by (dOf L 2)))→K2 ⟨E,H,3⟩:=by
    intro B k0 E H hBk e6 e4 e2 h0 hB hk0
    have B0:B≠0∧B≠k0∧k0≠0∧B<3∧k0<3:=by omega
    have s1:(0=B)=False:=by simp;omega
    have s2:(B=0)=False:=by simp;omega
    have s3:(B=k0)=False:=by simp;omega
    have s4:(k0=B)=False:=by simp;omega
    have s5:(0=k0)=False:=by simp;omega
    have s6:(k0=0)=False:=by simp;omega
    rw[←hK]
    clear hK
    simp only[bnA]
    refine LoopC.intro (α:=Nat×Nat×Nat) (fun y=>2≤y.1∧y.1≤L.length∧(dOf L y.1).length≤6*y.1∧0<y.2.1∧y.2.1≠B∧y.2.1<y.2.2∧3≤y.2.2)
     (fun y=>⟨[(7, .i y.1),(6, .op B 0),(4, .sq 1 (.val (.int .i64 0)) (nums .i64 (L.map numV))),(2, .op 0 0)],
      [(0, .box 47 (.st [.val (.int .i64 0), .val (.slice none 0 0), .val (.int .i64 0)])),(B, .box 47 (.st [.val (.int .i64 6), .ro (.r y.2.1), .val (.int .i64 0)])),(y.2.1, .row 5 (.by (dOf L y.1)))],y.2.2⟩)
     (fun y=>L.length-y.1) (2,k0,3) ⟨Nat.le_refl _,h2,by simp only;omega,by simp only;omega,by simp only;omega,by simp only;omega,by simp only;omega⟩ ?_ ?_
    ·simp only[bnA,reduceLeDiff,reduceEqDiff,↓reduceIte,e6,e4,e2,h0,hB,hk0]
     rfl
    ·rintro⟨i,k,N⟩ ⟨q1,q2,q3,q4,q5,q6,q7⟩
     simp only at q1 q2 q3 q4 q5 q6 q7
     have k0:(0=k)=False:=by simp;omega
     have k1:(B=k)=False:=by simp;omega
     have k2:(k=0)=False:=by simp;omega
     have k3:(k=B)=False:=by simp;omega
     have k4:(N=0)=False:=by simp;omega
     have k5:(N=B)=False:=by simp;omega
     have k6:(N=k)=False:=by simp;omega
     have k7:(0=N)=False:=by simp;omega
     have k8:(B=N)=False:=by simp;omega
     have k9:(k=N)=False:=by simp;omega
     have k10: ∀j,(N+j=0)=False:=fun j=>by simp;omega
     have k11: ∀j,(N+j=B)=False:=fun j=>by simp;omega
     have k12: ∀j,(N+j=k)=False:=fun j=>by simp;omega
     have k13: ∀j,(0=N+j)=False:=fun j=>by simp;omega
     have k14: ∀j,(B=N+j)=False:=fun j=>by simp;omega
     have k15: ∀j,(k=N+j)=False:=fun j=>by simp;omega
     simp only[bnA,reduceLeDiff,reduceEqDiff,reduceLT,reduceAdd,↓reduceIte,reduceCtorEq,s1]
     refine⟨fun hi=> ?_,fun hi=> ?_⟩
     ·simp only[decide_eq_true_eq] at hi
      have hi:i<L.length:=by omega
      obtain⟨n,c1,c2⟩:=hgd i hi
      have ed:dOf L (i+1)=dOf L i++grpF n:=by
       unfold dOf
       rw[if_neg (by omega),if_neg (by omega),List.append_assoc,show i+1-2=(i-2)+1 from by omega,List.take_succ_eq_append_getElem (by simp;omega),List.flatMap_append]
       congr 2
       simp only[List.getElem_drop,List.flatMap_cons,List.flatMap_nil,List.append_nil]
       rw[show L[2+(i-2)]=L.getD i [] from by rw[List.getD_eq_getElem?_getD,show L[i]?=some L[i] from List.getElem?_eq_getElem hi];simp only[Option.getD_some];congr 1;omega,c2]
       rfl
      have hg:=grpF_len (m:=n) (by omega)
      refine DrawC.sch [(0,some []),(1,some []),(2,some []),(3,some []),(4,some []),(5,some []),(6,none),(7,none),(8,some []),(9,none)] [(9,[1])] (by kernel_rfl) ?_
      simp only[bnA,reduceLeDiff,reduceEqDiff,reduceLT,reduceAdd,↓reduceIte,reduceCtorEq,GRof,GRoh,k0,k1,k2,k3,k5,k6,k9,k11,s1]
      rw[mapV_get L i hi,c2]
      have e1:((n:Int)).toNat=n:=by omega
      rw[e1,←ed]
      have hl1:(dOf L (i+1)).length≤6*(i+1):=by rw[ed,List.length_append];omega
      refine⟨by omega,by omega,by omega,by omega,by omega,by omega,by constructor<;>omega,Again.intro (i+1,N+1,N+2) ⟨by simp only;omega,by simp only;omega,hl1,by simp only;omega,by simp only;omega,by simp only;omega,by simp only;omega⟩ (by simp only;omega) ?_⟩
      simp only[bnA,reduceLeDiff,reduceEqDiff,↓reduceIte,k4,k10,k14,s2]
      refine⟨by omega,Nat.le_refl _⟩
     ·simp only[decide_eq_false_iff_not] at hi
      obtain rfl:i=L.length:=by omega
      refine RenC.intro [(0,0),(1,k)] ⟨[(2, .op 0 0),(3, .bb true)],[(0, .box 47 (.st [.val (.int .i64 6), .ro (.r 1), .val (.int .i64 0)])),(1, .row 5 (.by (dOf L L.length)))],2⟩ ?_ ?_
      ·simp only[bnA,reduceLeDiff,reduceEqDiff,reduceLT,↓reduceIte,reduceCtorEq,k0,k1,k2]
       simp
      ·simp only[bnA,reduceLeDiff,reduceEqDiff,reduceLT,reduceAdd,↓reduceIte,reduceCtorEq]
   refine DrawC.tree (.q 0 [] (.q 1 [] (.q 2 [] (.q 3 [] (.q 4 [] (.q 5 [] (.q 6 [] (.q 7 [] (.two 8 10 (.two 9 10 (.one 10 (.one 11 .done)) (.one 9 (.one 11 .done))) (.one 8 (.one 9 (.one 11 .done)))))))))))) [(11,[0,1,2])] (by kernel_rfl) ?_
   simp only[bnA,reduceLeDiff,reduceEqDiff,reduceLT,reduceAdd,↓reduceIte,reduceCtorEq,reduceToNat,Nat.reduceBEq,GRof,GRoh]
   rw[mapV_get L 0 (by omega),mapV_get L 1 (by omega),a2,b2,←ed]
   refine⟨by omega,by omega,by constructor<;>omega,by omega,by omega,by constructor<;>omega,⟨by omega,by omega,rest 2 1 _ _ (.inl ⟨rfl,rfl⟩) ?_ ?_ ?_ ?_ ?_ ?_,rest 2 1 _ _ (.inl ⟨rfl,rfl⟩) ?_ ?_ ?_ ?_ ?_ ?_⟩,by omega,by omega,rest 1 2 _ _ (.inr ⟨rfl,rfl⟩) ?_ ?_ ?_ ?_ ?_ ?_⟩
   all_goals simp only[En.get,Hroot,Nat.reduceEqDiff,if_true,if_false]
end Go.Proofs.YtfengpdaocgcnaaGreatDoor
