/- OfUint, group, number, OfOid: the walks. der.Uint: its answer is memory of one's own (out of dn:NOw). Where an element begins and ends. How lengths are written. -/
import Derived.Test.YtfengpdaocgcnaaGreatDoorQ33
namespace Go.Proofs.YtfengpdaocgcnaaGreatDoor
open Nat (reduceMul reduceLeDiff reduceEqDiff reduceLT reduceAdd reduceSub reduceDiv)
open Int (reduceToNat reducePow)
open Go.RowKit
set_option linter.unusedSimpArgs false
set_option maxRecDepth 100000
def GVf:FuncId→List V→Option (List Prop×Bool×V):=fun f args=>
 if f=53 then match args with
  |[.by l]=>some ([l.length≤140737488355328],true, .by (leastF l))
  |_=>none
 else if f=167 then match args with
  |[.str p]=>some ([p.length≤1073741824],false, .tu [.val (.int .i64 (numV p)),errV p])
  |_=>none
 else if f=51 then match args with
  |[.val (.int .i64 n)]=>some ([I64 n],false, .str (Lib.itoa n))
  |_=>none
 else if f=103 then match args with
  |[.str s, .str p]=>some ([p=[46],s.length≤1073741824],false, .sq 1 (.str []) (strs (spl 46 s)))
  |_=>none
 else none
noncomputable def GV:Sig:=⟨JV,df,GVf,noH,0⟩
theorem GV_ok:SigOk Tryz.prog GV:=by
 refine .plain fun f args l fr r h hl=> ?_
 change GVf f args=some (l,fr,r) at h
 unfold GVf at h
 split at h
 ·rename_i hf;subst hf
  split at h
  ·obtain⟨rfl,rfl,rfl⟩:=some_tri h;exact least_fn JV _ (hl _ (List.mem_cons_self ..))
  ·exact absurd h (by simp)
 ·split at h
  ·rename_i hf;subst hf
   split at h
   ·obtain⟨rfl,rfl,rfl⟩:=some_tri h;exact atoi_fn _ (hl _ (List.mem_cons_self ..))
   ·exact absurd h (by simp)
  ·split at h
   ·rename_i hf;subst hf
    split at h
    ·obtain⟨rfl,rfl,rfl⟩:=some_tri h;exact toJV (itoa_fn _ (hl _ (List.mem_cons_self ..)))
    ·exact absurd h (by simp)
   ·split at h
    ·rename_i hf;subst hf
     split at h
     ·obtain⟨rfl,rfl,rfl⟩:=some_tri h
      have h1:=hl _ (List.mem_cons_self ..)
      have h2:=hl _ (List.mem_cons_of_mem _ (List.mem_cons_self ..))
      subst h1
      exact split_fn _ h2
     ·exact absurd h (by simp)
    ·exact absurd h (by simp)
theorem numV_range (p:List UInt8):I64 (numV p):=by
 unfold numV
 cases hc:Lib.atoiAll p
 ·rename_i v
  simp only
  unfold Lib.atoiAll at hc
  split at hc
  ·cases hc
  ·rename_i c r
   simp only at hc
   split at hc
   ·cases hc
   ·cases hc
   ·rename_i u hu
    split at hc
    ·cases hc
    ·rename_i h1
     split at hc
     ·cases hc
     ·rename_i h2
      injection hc with hc
      by_cases hn:c.toNat=45
      ·rw[if_pos hn] at hc;constructor<;>omega
      ·rw[if_neg hn] at hc;constructor<;>omega
 ·simp only;constructor<;>decide
 ·simp only;unfold Lib.atoiSat;split<;>constructor<;>decide
theorem dnumber_fn (p:List UInt8) (h:p.length≤1073741824):Fn Tryz.prog JV 104 false [.str p] (.tu [.i (numV p), .bb (numOk p)]):=by
 have hr:=numV_range p
 refine fnI Tryz.func104 rfl (by kernel_rfl) rfl GV_ok ?_
 unfold Tryz.f104
 cases hc:Lib.atoiAll p
 ·rename_i v
  have e1:numV p=v:=by unfold numV;rw[hc]
  have e2:errV p= .val .nilIface:=by unfold errV;rw[hc]
  have e3:numOk p=(decide (0≤v)&&decide (v≤2147483647)&&(Lib.itoa v==p)):=by unfold numOk;rw[hc]
  rw[e1] at hr
  simp only[bnA,reduceLeDiff,reduceEqDiff,reduceLT,reduceAdd,↓reduceIte,reduceCtorEq,GV,GVf,e1,e2,e3]
  exact⟨h,fun _=>hr⟩
 ·have e2:errV p= .nn:=by unfold errV;rw[hc]
  have e3:numOk p=false:=by unfold numOk;rw[hc]
  simp only[bnA,reduceLeDiff,reduceEqDiff,reduceLT,reduceAdd,↓reduceIte,reduceCtorEq,GV,GVf,e2,e3]
  exact⟨h,fun e=>e.elim⟩
 ·have e2:errV p= .nn:=by unfold errV;rw[hc]
  have e3:numOk p=false:=by unfold numOk;rw[hc]
  simp only[bnA,reduceLeDiff,reduceEqDiff,reduceLT,reduceAdd,↓reduceIte,reduceCtorEq,GV,GVf,e2,e3]
  exact⟨h,fun e=>e.elim⟩
theorem OfUint_own (b:List UInt8) (h:b.length≤140737488350000):FnH Tryz.prog JV 31 [.by b] [] 0 (.st [.val (.int .i64 2), .by (ofuD b), .val (.int .i64 0)]) [] 9:=by
 have hle:=leastF_le b
 refine fnC Tryz.func31 rfl (by kernel_rfl) GV_ok rfl ?_
 unfold Tryz.f31
 simp only[bnA,reduceMul,reduceLeDiff,reduceEqDiff,reduceLT,reduceAdd,↓reduceIte,reduceCtorEq,reduceToNat,GV,GVf]
 refine⟨by omega,fun _=>by omega,fun hz=> ?_,fun hb=>⟨by omega,by omega,by omega,?_⟩,fun hb=> ?_⟩
 ·have:(leastF b).length≠0:=fun e=>by rw[e] at hz;simp at hz
  omega
 ·have e:ofuD b=u8 0::leastF b:=by
   unfold ofuD;rw[if_pos];simpa using hb
  rw[e]
  refine .inl ?_
  simp only[bnA,reduceLeDiff,reduceEqDiff,reduceLT,reduceAdd,↓reduceIte,reduceCtorEq]
 ·have e:ofuD b=leastF b:=by
   unfold ofuD;rw[if_neg];simpa using hb
  rw[e]
  refine .inl ?_
  simp only[bnA,reduceLeDiff,reduceEqDiff,reduceLT,reduceAdd,↓reduceIte,reduceCtorEq]
theorem u8_or_nat (a b:Nat) (ha:a<256) (hb:b<256):bt .or .u8 (a:Int) (b:Int)=((a|||b:Nat):Int):=by
 have hx:a|||b<2^8:=Nat.or_lt_two_pow (by omega) (by omega)
 have e: ∀a:Nat,a<256→(BitVec.ofInt 8 (a:Int)).toNat=a:=fun a h=>by
  rw[BitVec.ofInt_natCast,BitVec.toNat_ofNat];exact Nat.mod_eq_of_lt (by omega)
 rw[bt_eq]
 show IntKind.u8.wrap ((BitVec.ofInt 8 (a:Int)|||BitVec.ofInt 8 (b:Int)).toNat:Int)=_
 rw[BitVec.toNat_or,e a ha,e b hb,IntKind.wrap_u8]
 omega
theorem dand127 (n:Nat) (h:n<9223372036854775808):bt .and .i64 (n:Int) 127=((n%128:Nat):Int):=by
 have:=i64_and_nat n 127 h (by omega)
 rw[show((127:Nat):Int)=127 from rfl] at this
 rw[this,show(127:Nat)=2^7-1 from rfl,Nat.and_two_pow_sub_one_eq_mod]
theorem or128 (n:Nat) (h:n<128):bt .or .u8 128 (n:Int)=((128+n:Nat):Int):=by
 have:=u8_or_nat 128 n (by omega) (by omega)
 rw[show((128:Nat):Int)=128 from rfl] at this
 rw[this]
 congr 1
 exact(Nat.two_pow_add_eq_or_of_lt (i:=7) h 1).symm
theorem group_own (n:Nat) (h:n≤2147483727):FnH Tryz.prog JV 105 [.i n] [] 0 (.by (grpF n)) [] 1:=by
 refine fnJ Tryz.func105 rfl (by kernel_rfl) GV_ok rfl ?_
 unfold Tryz.f105
 simp only[bnA,↓shr_eq,reduceMul,reduceLeDiff,↓reduceIte,reduceCtorEq,reduceToNat,reducePow,GV]
 rw[dand127 n (by omega)]
 have e0:((n%128:Nat):Int)%256=((n%128:Nat):Int):=by omega
 rw[e0]
 refine⟨by omega,by omega,by omega,?_⟩
 refine LoopC.intro (α:=Nat×List UInt8×Nat) (fun y=>y.1≤n∧hiF y.1++y.2.1=grpF n∧y.2.1.length+y.1≤n+1)
  (fun y=>⟨[(0, .i y.1),(3, .ro (.r y.2.2))],[(y.2.2, .row 5 (.by y.2.1))],y.2.2+1⟩)
  (fun y=>y.1) (n/128,[u8 ((n%128:Nat):Int)],0) ⟨by omega,rfl,by simp only[List.length_cons,List.length_nil];omega⟩ ?_ ?_
 ·simp only[bnA,reduceLeDiff,reduceEqDiff,↓reduceIte,reduceCtorEq]
  omega
 ·rintro⟨m,l,k⟩ ⟨h1,h2,h3⟩
  simp only at h1 h2 h3
  simp only[bnA,↓shr_eq,reduceMul,reduceLeDiff,reduceEqDiff,reduceAdd,↓reduceIte,reduceCtorEq,reduceToNat,reducePow]
  have em:((m%128:Nat):Int)%256=((m%128:Nat):Int):=by omega
  rw[dand127 m (by omega),em,or128 _ (by omega)]
  refine⟨fun hm=> ?_,fun hm=> ?_⟩
  ·have hm:0<m:=by simp at hm;omega
   refine⟨by omega,by omega,by omega,by omega,Again.intro (m/128,u8 ((128+m%128:Nat):Int)::l,k+2) ⟨by simp only;omega,?_,by simp only[List.length_cons];omega⟩ (by simp only;omega) ?_⟩
   ·simp only
    rw[←h2,hiF_pos (n:=m) (by omega),List.append_assoc];rfl
   ·simp only[bnA,reduceLeDiff,reduceEqDiff,reduceAdd,↓reduceIte,reduceCtorEq]
    simp
  ·have hm:m=0:=by simp at hm;omega
   subst hm
   rw[hiF_zero,List.nil_append] at h2
   rw[h2]
   refine RenC.intro [(0,k)] ⟨[(2, .ro (.r 0))],[(0, .row 5 (.by (grpF n)))],1⟩ ?_ ?_
   ·simp only[bnA,reduceLeDiff,reduceLT,↓reduceIte]
    simp
   ·simp only[bnA,reduceLeDiff,↓reduceIte]
def dOf (L:List (List UInt8)) (i:Nat):List UInt8:=if i<2 then [] else grpF (40*numV (L.getD 0 [])+numV (L.getD 1 [])).toNat++((L.drop 2).take (i-2)).flatMap fun p=>grpF (numV p).toNat
theorem ooF_eq (L:List (List UInt8)):ooF L=if 2≤L.length∧L.all numOk=true∧numV (L.getD 0 [])≤2∧(numV (L.getD 0 [])<2→numV (L.getD 1 [])≤39) then some (dOf L L.length) else none:=by
 match L with
 |[]=>simp[ooF]
 |[a]=>simp[ooF]
 |a::b::r=>
  have e:dOf (a::b::r) (a::b::r).length=grpF (40*numV a+numV b).toNat++r.flatMap fun p=>grpF (numV p).toNat:=by
   unfold dOf
   rw[if_neg (by simp)]
   simp
  rw[e]
  unfold ooF
  simp only[List.getD_cons_zero,List.getD_cons_succ]
  by_cases hc:(a::b::r).all numOk=true∧numV a≤2∧(numV a<2→numV b≤39)
  ·rw[if_pos hc,if_pos ⟨by simp,hc⟩]
  ·rw[if_neg hc,if_neg fun h=>hc h.2]
theorem OfUint_fn (b:List UInt8) (h:b.length≤140737488350000):Fn Tryz.prog JV 31 false [.by b] (.st [.val (.int .i64 2), .by (ofuD b), .val (.int .i64 0)]):=
 Fn.of_plain (OfUint_own b h) (by simp[V.cl,clL])
theorem group_fn (n:Nat) (h:n≤2147483727):Fn Tryz.prog JV 105 false [.i n] (.by (grpF n)):=Fn.of_plain (group_own n h) rfl
def GOf:FuncId→List V→Option (List Prop×Bool×V):=fun f args=>
 if f=105 then match args with
  |[.val (.int .i64 n)]=>some ([0≤n,n≤2147483727],false, .by (grpF n.toNat))
  |_=>none
 else if f=104 then match args with
  |[.str p]=>some ([p.length≤1073741824],false, .tu [.i (numV p), .bb (numOk p)])
  |_=>none
 else if f=103 then match args with
  |[.str s, .str p]=>some ([p=[46],s.length≤1073741824],false, .sq 1 (.str []) (strs (spl 46 s)))
  |_=>none
 else none
noncomputable def GO:Sig:=⟨JV,df,GOf,noH,0⟩
theorem GO_ok:SigOk Tryz.prog GO:=by
 refine .plain fun f args l fr r h hl=> ?_
 change GOf f args=some (l,fr,r) at h
 unfold GOf at h
 split at h
 ·rename_i hf;subst hf
  split at h
  ·rename_i n
   obtain⟨rfl,rfl,rfl⟩:=some_tri h
   have h1:0≤n:=hl _ (List.mem_cons_self ..)
   have h2:n≤2147483727:=hl _ (List.mem_cons_of_mem _ (List.mem_cons_self ..))
   have:=group_fn n.toNat (by omega)
   rw[V.i,Int.toNat_of_nonneg h1] at this
   exact this
  ·exact absurd h (by simp)
 ·split at h
  ·rename_i hf;subst hf
   split at h
   ·obtain⟨rfl,rfl,rfl⟩:=some_tri h;exact dnumber_fn _ (hl _ (List.mem_cons_self ..))
   ·exact absurd h (by simp)
  ·split at h
   ·rename_i hf;subst hf
    split at h
    ·obtain⟨rfl,rfl,rfl⟩:=some_tri h
     have h1:=hl _ (List.mem_cons_self ..)
     have h2:=hl _ (List.mem_cons_of_mem _ (List.mem_cons_self ..))
     subst h1
     exact split_fn _ h2
    ·exact absurd h (by simp)
   ·exact absurd h (by simp)
def ofOidV (s:List UInt8):V:=match ooF (spl 46 s) with
 |some d=> .tu [.st [.val (.int .i64 6), .by d, .val (.int .i64 0)], .bb true]
 |none=> .tu [.st [.val (.int .i64 0), .val (.slice none 0 0), .val (.int .i64 0)], .bb false]
theorem hiF_len: ∀(k n:Nat),n<128^k→(hiF n).length≤k
 |0,n,h=>by
  have:n=0:=by simpa using h
  rw[this,hiF_zero];simp
 |k+1,n,h=>by
  by_cases h0:n=0
  ·subst h0;simp[hiF_zero]
  ·rw[hiF_pos h0,List.length_append]
   have:=hiF_len k (n/128) (by rw[Nat.pow_succ] at h;omega)
   simp;omega
theorem grpF_len {m:Nat} (h:m≤2147483727):(grpF m).length≤5:=by
 unfold grpF
 have:=hiF_len 4 (m/128) (by omega)
 simp;omega
def topOf (L:List (List UInt8)) (i:Nat):Int:=if i=0 then 0 else numV (L.getD 0 [])
theorem OfOid_own (s:List UInt8) (h:s.length≤268435456):FnH Tryz.prog JV 61 [.str s] [] 0 (ofOidV s) [] 9:=by
 refine fnC Tryz.func61 rfl (by kernel_rfl) GO_ok rfl ?_
 unfold Tryz.f61
 simp only[bnA,reduceLeDiff,reduceEqDiff,reduceLT,reduceAdd,↓reduceIte,reduceCtorEq,GO,GOf]
 have hlen:(spl 46 s).length≤268435457:=by rw[spl_len];have:=List.count_le_length (a:=46) (l:=s);omega
 have hle: ∀x∈spl 46 s,x.length≤268435456:=fun x hx=>Nat.le_trans (spl_le 46 s x hx) h
 have hoo:=ooF_eq (spl 46 s)
 generalize ho:ofOidV s=o
 unfold ofOidV at ho
 generalize spl 46 s=L at hlen hle hoo ho⊢
 refine⟨by omega,?_⟩
 refine LoopC.introA (α:=Nat×Nat) (fun y=>y.1≤L.length∧2≤y.2∧(L.take y.1).all numOk=true∧(1≤y.1→numV (L.getD 0 [])≤2)∧(2≤y.1→numV (L.getD 0 [])<2→numV (L.getD 1 [])≤39)∧(dOf L y.1).length≤6*y.1)
  (fun y=>⟨[(16, .i y.1),(15, .i L.length),(14, .sq 1 (.str []) (strs L)),(6, .sq 1 (.str []) (strs L)),(5, .i (topOf L y.1)),(4, .op 1 0),(3, .bb false),(2, .op 0 0)],
   [(0, .box 47 (.st [.val (.int .i64 0), .val (.slice none 0 0), .val (.int .i64 0)])),(1, .box 47 (.st [.val (.int .i64 6), .ro (.r y.2), .val (.int .i64 0)])),(y.2, .row 5 (.by (dOf L y.1)))],y.2+1⟩)
  (fun y=>L.length-y.1) (0,2) [.bx 1 1 5 (.by [])] ⟨Nat.zero_le _,Nat.le_refl _,rfl,by simp,by simp,by simp[dOf]⟩ ?_ ?_
 ·simp only[bnA,reduceLeDiff,reduceEqDiff,reduceLT,reduceAdd,↓reduceIte,reduceCtorEq]
  exact⟨⟨rfl,rfl⟩,rfl⟩
 ·rintro⟨i,k⟩ ⟨h1,h2,h3,h4,h5,h6⟩
  simp only at h1 h2 h3 h4 h5 h6
  have k0:(0=k)=False:=by simp;omega
  have k1:(1=k)=False:=by simp;omega
  simp only[bnA,reduceLeDiff,reduceEqDiff,reduceLT,reduceAdd,↓reduceIte,reduceCtorEq,GOf]
  refine⟨fun hi=> ?_,fun hi=> ?_⟩
  ·have hi:i<L.length:=by simp at hi;omega
   have ep:L.getD i []=L[i]:=by rw[List.getD_eq_getElem?_getD,List.getElem?_eq_getElem hi];rfl
   have hm:L.getD i []∈L:=by rw[ep];exact List.getElem_mem hi
   have hpl:=hle _ hm
   have hall:numOk (L.getD i [])=true→(L.take (i+1)).all numOk=true:=fun h=>by
    rw[List.take_succ_eq_append_getElem hi,List.all_append,h3,←ep,List.all_cons,h];rfl
   have hok:L.all numOk=true→numOk (L.getD i [])=true:=fun h=>List.all_eq_true.1 h _ hm
   generalize hp:L.getD i []=p at hm hpl hall hok⊢
   have hr:=numV_range p
   refine⟨by omega,by omega,by omega,fun a b=>by rw[b];revert a;cases numOk p<;>simp,fun a b=>by rw[a,b];rfl,fun a b=>by rw[a,b];rfl,fun hb=> ?_,fun hb=> ?_⟩
   ·have hno:ooF L=none:=by
     rw[hoo,if_neg]
     rintro⟨c1,c2,c3,c4⟩
     rw[hok c2] at hb
     simp only[Bool.not_true,Bool.false_or,Bool.or_eq_true,Bool.and_eq_true,beq_iff_eq,decide_eq_true_eq] at hb
     rcases hb with ⟨b1,b2⟩|⟨⟨b1,b2⟩,b3⟩
     ·obtain rfl:i=0:=by omega
      rw[hp] at c3;omega
     ·obtain rfl:i=1:=by omega
      have:topOf L 1=numV (L.getD 0 []):=rfl
      rw[this] at b2
      have:=c4 b2
      rw[hp] at this;omega
    rw[hno] at ho
    subst ho
    refine RenC.intro [(0,0)] ⟨[(2, .op 0 0),(3, .bb false)],[(0, .box 47 (.st [.val (.int .i64 0), .val (.slice none 0 0), .val (.int .i64 0)]))],1⟩ ?_ ?_
    ·simp only[bnA,reduceLeDiff,reduceEqDiff,reduceLT,↓reduceIte]
    ·simp only[bnA,reduceLeDiff,reduceEqDiff,reduceLT,reduceAdd,↓reduceIte]
   ·have hp1:numOk p=true:=by
     revert hb;cases numOk p<;>simp
    have hb:((i:Int)==0&&decide (2<numV p))=false∧((i:Int)==1&&decide (topOf L i<2)&&decide (39<numV p))=false:=by
     rw[hp1] at hb;simpa only[Bool.not_true,Bool.false_or,Bool.or_eq_false_iff] using hb
    obtain⟨n,n1,n2,n3⟩:=num_of hp1
    have hall:=hall hp1
    refine⟨fun e0=> ?_,fun e0=>⟨fun e1=> ?_,fun e1=> ?_⟩⟩
    ·obtain rfl:i=0:=by simpa using e0
     refine⟨by constructor<;>omega,Again.intro (1,k) ⟨hi,h2,hall,fun _=> ?_,by simp,by simp[dOf]⟩ (by simp only;omega) ?_⟩
     ·have:=hb.1
      rw[hp];simp at this;omega
     ·simp only[bnA,reduceLeDiff,reduceEqDiff,↓reduceIte,reduceCtorEq,hp,topOf,k0,k1]
      simp[dOf]
    ·obtain rfl:i=1:=by simp at e1;omega
     have ht:topOf L 1=numV (L.getD 0 []):=rfl
     have h0:=h4 (Nat.le_refl 1)
     obtain⟨n0,q1,q2,q3⟩: ∃n0:Nat,n0≤2147483647∧L.getD 0 []=Lib.itoa n0∧numV (L.getD 0 [])=n0:=by
      refine num_of ?_
      have:L.getD 0 []=L[0]:=by rw[List.getD_eq_getElem?_getD,List.getElem?_eq_getElem (by omega)];rfl
      rw[this]
      exact List.all_eq_true.1 h3 _ (by rw[List.mem_take_iff_getElem];exact⟨0,by omega,rfl⟩)
     have hb2:=hb.2
     rw[ht] at hb2⊢
     have h39:numV (L.getD 0 [])<2→numV p≤39:=fun h=>by rw[decide_eq_true h] at hb2;simp at hb2;omega
     rw[q3] at h0 h39⊢
     rw[n3] at h39⊢
     have ed:dOf L 2=grpF ((n:Int)+40*(n0:Int)).toNat:=by
      unfold dOf
      rw[if_neg (by omega),q3,hp,n3,Int.add_comm];simp
     have ed1:dOf L 1=[]:=by unfold dOf;rw[if_pos (by omega)]
     have hg:=grpF_len (m:=((n:Int)+40*(n0:Int)).toNat) (by omega)
     refine⟨by constructor<;>omega,by constructor<;>omega,?_⟩
     have k2:(0=k+1)=False:=by simp
     have k4:(k=0)=False:=by simp;omega
     have k5:(k=1)=False:=by simp;omega
     have k6:(k+1=0)=False:=by simp
     have k7:(k+1=1)=False:=by simp;omega
     have k3:(1=k+1)=False:=by simp;omega
     refine DrawC.sch [(0,some []),(1,some []),(2,some []),(3,none),(4,none),(5,some []),(6,none)] [(6,[1])] (by kernel_rfl) ?_
     simp only[bnA,reduceLeDiff,reduceEqDiff,reduceLT,reduceAdd,↓reduceIte,reduceCtorEq,GOf,k0,k1,k4,k5,k7]
     rw[ed1,List.nil_append,←ed]
     have ht2:topOf L 2=(n0:Int):=q3
     refine⟨by omega,by omega,by rw[ed];omega,by constructor<;>omega,Again.intro (2,k+1) ⟨hi,by simp only;omega,hall,fun _=>h0,fun _ h=> ?_,by simp only;rw[ed];omega⟩ (by simp only;omega) ?_⟩
     ·rw[hp,n3];exact h39 h
     ·simp only[bnA,reduceLeDiff,reduceEqDiff,reduceAdd,↓reduceIte,reduceCtorEq,ht2,k3,k6]
      simp
    ·have hi2:2≤i:=by simp at e0 e1;omega
     have ed:dOf L (i+1)=dOf L i++grpF (numV p).toNat:=by
      unfold dOf
      rw[if_neg (by omega),if_neg (by omega),List.append_assoc,show i+1-2=(i-2)+1 from by omega,List.take_succ_eq_append_getElem (by simp;omega),List.flatMap_append]
      congr 2
      simp only[List.getElem_drop,List.flatMap_cons,List.flatMap_nil,List.append_nil]
      rw[←hp,ep]
      congr 4
      omega
     have hg:=grpF_len (m:=(numV p).toNat) (by omega)
     have k2:(0=k+1)=False:=by simp
     have k4:(k=0)=False:=by simp;omega
     have k5:(k=1)=False:=by simp;omega
     have k6:(k+1=0)=False:=by simp
     have k7:(k+1=1)=False:=by simp;omega
     have k3:(1=k+1)=False:=by simp;omega
     refine DrawC.sch [(0,some []),(1,some []),(2,some []),(3,none),(4,none),(5,some []),(6,none)] [(6,[1])] (by kernel_rfl) ?_
     simp only[bnA,reduceLeDiff,reduceEqDiff,reduceLT,reduceAdd,↓reduceIte,reduceCtorEq,GOf,k0,k1,k4,k5,k7]
     rw[←ed]
     have ht2:topOf L (i+1)=topOf L i:=by unfold topOf;rw[if_neg (by omega),if_neg (by omega)]
     refine⟨by omega,by omega,by rw[ed,List.length_append];omega,by constructor<;>omega,Again.intro (i+1,k+1) ⟨hi,by simp only;omega,hall,fun _=>h4 (by omega),fun _ h=>h5 hi2 h,by simp only;rw[ed,List.length_append];omega⟩ (by simp only;omega) ?_⟩
     simp only[bnA,reduceLeDiff,reduceEqDiff,reduceAdd,↓reduceIte,reduceCtorEq,ht2,k3,k6]
     simp
  ·have hi:i=L.length:=by simp at hi;omega
   subst hi
   rw[List.take_length] at h3
   refine⟨fun hs=> ?_,fun hs=> ?_⟩
   ·have hno:ooF L=none:=by
     rw[hoo,if_neg]
     rintro⟨c1,_⟩
     simp at hs;omega
    rw[hno] at ho
    subst ho
    refine RenC.intro [(0,0)] ⟨[(2, .op 0 0),(3, .bb false)],[(0, .box 47 (.st [.val (.int .i64 0), .val (.slice none 0 0), .val (.int .i64 0)]))],1⟩ ?_ ?_
    ·simp only[bnA,reduceLeDiff,reduceEqDiff,reduceLT,↓reduceIte]
    ·simp only[bnA,reduceLeDiff,reduceEqDiff,reduceLT,reduceAdd,↓reduceIte]
   ·have hs:2≤L.length:=by simp at hs;omega
    rw[hoo,if_pos ⟨hs,h3,h4 (by omega),h5 hs⟩] at ho
    simp only at ho
    subst ho
    refine RenC.intro [(0,0),(1,k)] ⟨[(2, .op 0 0),(3, .bb true)],[(0, .box 47 (.st [.val (.int .i64 6), .ro (.r 1), .val (.int .i64 0)])),(1, .row 5 (.by (dOf L L.length)))],2⟩ ?_ ?_
    ·simp only[bnA,reduceLeDiff,reduceEqDiff,reduceLT,↓reduceIte,reduceCtorEq,k0,k1]
     exact⟨.inr trivial,by omega⟩
    ·simp only[bnA,reduceLeDiff,reduceEqDiff,reduceLT,reduceAdd,↓reduceIte,reduceCtorEq]
theorem ofOidV_cl (s:List UInt8):(ofOidV s).cl=true:=by
 unfold ofOidV;split<;>simp[V.cl,clL]
theorem OfOid_fn (s:List UInt8) (h:s.length≤268435456):Fn Tryz.prog JV 61 false [.str s] (ofOidV s):=Fn.of_plain (OfOid_own s h) (ofOidV_cl s)
section
variable {P:Program} {G:Sig}
end
theorem least_at (J:Inv) (l:List UInt8) (nx:Nat) (hl:l.length≤140737488355328):FnH Tryz.prog J 53 [.by l] [] nx (.ro (.r nx)) [(nx, .row 5 (.by (leastF l)))] (nx+1):=by
 refine fnJ Tryz.func53 rfl (by kernel_rfl) (.plain fun _ _ _ _ _ h=>by simp[G0f] at h:SigOk Tryz.prog ⟨J,df,G0f,noH,nx⟩) rfl ?_
 unfold Tryz.f53
 simp only[bnA]
 refine LoopC.intro (α:=List UInt8) (fun b=>b.length≤l.length∧leastF b=leastF l) (fun b=>⟨[(0, .by b)],[],nx⟩) (fun b=>b.length) l ⟨Nat.le_refl _,rfl⟩ ?_ ?_
 ·simp only[bnA,↓reduceIte,reduceCtorEq]
  exact Nat.le_refl _
 ·rintro b ⟨h1,h2⟩
  simp only[bnA,reduceEqDiff,reduceLT,↓reduceIte,reduceCtorEq,reduceToNat]
  refine⟨fun _=>by omega,fun hb=> ?_,fun hb=> ?_⟩
  ·simp only[Bool.and_eq_true,decide_eq_true_eq,beq_iff_eq] at hb
   cases b with
   |nil=>simp at hb
   |cons c r=>
    have hc:c=0:=by
     have:=hb.2
     rw[byteAt_N] at this
     simp only[byteN,List.getD_cons_zero] at this
     exact UInt8.toNat_inj.1 (by simp;omega)
    simp only[List.length_cons] at h1⊢
    refine⟨by omega,by omega,Again.intro r ⟨by omega,?_⟩ (by simp) ?_⟩
    ·rw[←h2,leastF,if_pos hc]
    ·simp only[bnA,↓reduceIte]
     simp
  ·have hb2:leastF b=b:=by
    cases b with
    |nil=>rfl
    |cons c r=>
     have hc: ¬c=0:=fun e=>by subst e;simp[byteAt_N,byteN] at hb
     rw[leastF,if_neg hc]
   refine⟨by omega, .inl ?_⟩
   rw[←h2,hb2]
   simp only[bnA,reduceLeDiff,↓reduceIte]
   exact Nat.le_refl _
def GLh:FuncId→List V→List (Nat×Ob)→Nat→Option CallH:=fun f args _ nx=>
 if f=53 then match args with
  |[.by l]=>some ⟨[l.length≤140737488355328],[],[], .ro (.r nx),[(nx, .row 5 (.by (leastF l)))],nx+1⟩
  |_=>none
 else none
def GRtf:FuncId→List V→Option (List Prop×Bool×V):=fun f args=>
 if f=50 then match args with
  |[.val (.int .i64 t), .by l]=>some ([l.length≤140737488355328],false, .bb (rightF t l))
  |_=>none
 else none
def GL (J:Inv) (b:Nat):Sig:=⟨J,df,GRtf,GLh,b⟩
theorem GL_ok (J:Inv) (b:Nat):SigOk Tryz.prog (GL J b):=by
 constructor
 ·intro f args l fr r h hl
  change GRtf f args=some (l,fr,r) at h
  unfold GRtf at h
  split at h
  ·rename_i hf;subst hf
   split at h
   ·obtain⟨rfl,rfl,rfl⟩:=some_tri h;exact dright_fn J _ _ (hl _ (by simp))
   ·exact absurd h (by simp)
  ·exact absurd h (by simp)
 ·intro f args h nx c hc hl
  change GLh f args h nx=some c at hc
  unfold GLh at hc
  split at hc
  ·rename_i hf;subst hf
   split at hc
   ·obtain rfl:=Option.some.inj hc
    exact least_at J _ nx (hl _ (by simp))
   ·exact absurd hc (by simp)
  ·exact absurd hc (by simp)
theorem Uint_own (J:Inv) (t:Tlv) (b:Nat) (hl:t.data.length≤140737488355328):FnH Tryz.prog J 25 [tlvV t] [] b (.tu [.ro (.r b), .bb (uintF t).2]) [(b, .row 5 (.by (uintF t).1))] (b+1):=by
 refine fnH_introN Tryz.func25 rfl (by kernel_rfl) (Nat.le_of_ble_eq_true (by kernel_rfl)) (by kernel_rfl) (by kernel_rfl) (GL_ok J b) rfl ?_
 unfold Tryz.f25
 simp only[bnA,reduceLeDiff,reduceEqDiff,reduceLT,reduceAdd,↓reduceIte,reduceToNat,GL,GRtf,GLh,tlvV]
 have n1: ¬b<b:=Nat.lt_irrefl _
 have hpos:rightF 2 t.data=true→0<t.data.length:=fun h=>by
  rcases Nat.eq_zero_or_pos t.data.length with h0|h0
  ·rw[List.eq_nil_of_length_eq_zero h0,show rightF 2 []=false from by decide] at h;cases h
  ·exact h0
 refine⟨fun _=>hl,fun _=>by omega,fun h=> ?_,fun h=> ?_,fun h=> ?_⟩
 ·simp only[Bool.or_eq_false_iff,Bool.not_eq_false',beq_iff_eq] at h
  have:=hpos (by rw[←h.1.1];exact h.2)
  omega
 ·have e:uintF t=([],false):=by
   unfold uintF
   rw[if_neg]
   rintro⟨h1,h2,h3,h4⟩
   simp only[h1,h2,h3] at h
   simp at h
   omega
  rw[e]
  refine RenC.intro [] ⟨[(2, .val (.slice none 0 0)),(3, .bb false)],[],b⟩ ?_ ⟨[.sl 2 5 (.by [])],⟨[(2, .ro (.r b)),(3, .bb false)],[(b, .row 5 (.by []))],b+1⟩,?_,?_⟩
  ·simp only[bnA,reduceEqDiff,↓reduceIte]
   first|exact Nat.le_refl _|exact⟨rfl,rfl,Nat.le_refl _⟩|exact⟨rfl,Nat.le_refl _⟩|omega
  ·simp only[bnA,reduceLeDiff,reduceEqDiff,↓reduceIte]
   first|exact Nat.le_refl _|exact⟨rfl,rfl,Nat.le_refl _⟩|exact⟨rfl,Nat.le_refl _⟩|omega
  ·simp only[bnA,reduceLeDiff,reduceEqDiff,↓reduceIte]
   first|exact Nat.le_refl _|exact⟨rfl,rfl,Nat.le_refl _⟩|exact⟨rfl,Nat.le_refl _⟩|omega
 ·simp only[Bool.or_eq_false_iff,Bool.not_eq_false',beq_iff_eq,decide_eq_false_iff_not] at h
  have e:uintF t=(leastF t.data,true):=by
   unfold uintF
   rw[if_pos ⟨h.1.1.1,h.1.1.2,by rw[←h.1.1.1];exact h.1.2,by omega⟩]
  rw[e]
  refine⟨hl,RenC.intro [(b,b+1)] ⟨[(2, .ro (.r b)),(3, .bb true)],[(b, .row 5 (.by (leastF t.data)))],b+1⟩ ?_ ⟨[],⟨[(2, .ro (.r b)),(3, .bb true)],[(b, .row 5 (.by (leastF t.data)))],b+1⟩,?_,?_⟩⟩
  ·simp only[bnA,reduceEqDiff,↓reduceIte,reduceCtorEq,n1]
   first|exact Nat.le_refl _|exact⟨rfl,rfl,Nat.le_refl _⟩|exact⟨rfl,Nat.le_refl _⟩|omega
  ·simp only[bnA,reduceLeDiff,reduceEqDiff,↓reduceIte]
   first|exact Nat.le_refl _|exact⟨rfl,rfl,Nat.le_refl _⟩|exact⟨rfl,Nat.le_refl _⟩|omega
  ·simp only[bnA,reduceLeDiff,reduceEqDiff,↓reduceIte]
   first|exact Nat.le_refl _|exact⟨rfl,rfl,Nat.le_refl _⟩|exact⟨rfl,Nat.le_refl _⟩|omega
theorem beV_lt (l:List UInt8): ∀k,beV l k<256^k
 |0=>by simp[beV]
 |k+1=>by
  have:=beV_lt l k
  have:=byteN_lt l k
  rw[beV,Nat.pow_succ];omega
theorem beV_take (l:List UInt8) (n:Nat): ∀k,k≤n→beV (l.take n) k=beV l k
 |0,_=>rfl
 |k+1,h=>by
  rw[beV,beV,beV_take l n k (by omega)]
  congr 1
  simp only[byteN,List.getD_eq_getElem?_getD,List.getElem?_take]
  rw[if_pos (by omega)]
theorem or_step (x c:Nat) (hx:x<16777216) (hc:c<256):bt .or .i64 (wr .i64 ((x:Int)*256)) (c:Int)=((x*256+c:Nat):Int):=by
 have e:wr .i64 ((x:Int)*256)=((x*256:Nat):Int):=by rw[wr_eq,IntKind.wrap_i64];omega
 rw[e,i64_or_nat _ _ (by omega) (by omega),nat_join 8 _ _ (by omega) (by omega)]
theorem head_fn (J:Inv) (l:List UInt8) (p q:Nat) (hq:q≤l.length) (hm:l.length≤140737488355328) (hp:p≤140737488355328):Fn Tryz.prog J 85 false [.by l, .i p, .i q] (.tu [.i (headF l p q).1, .i (headF l p q).2.1, .bb (headF l p q).2.2]):=by
 have e1:((p:Int)+1).toNat=p+1:=by omega
 have e2:((p:Int)+2).toNat=p+2:=by omega
 refine fnI Tryz.func85 rfl (by kernel_rfl) rfl (G1_ok J) ?_
 unfold Tryz.f85
 simp only[bnA,reduceLeDiff,reduceEqDiff,reduceLT,reduceAdd,↓reduceIte,reduceCtorEq,G1]
 simp only[e1,e2,byteAt_N]
 refine⟨by (constructor<;>omega),fun h=> ?_,fun h=> ?_⟩
 ·simp only[decide_eq_true_eq] at h
  rw[headF,if_pos (by omega)]
  exact⟨rfl,rfl,rfl⟩
 ·simp only[decide_eq_false_iff_not] at h
  refine⟨by (constructor<;>omega),by omega,by omega,by (constructor<;>omega),fun h1=> ?_,fun h1=> ?_⟩
  ·simp only[decide_eq_true_eq] at h1
   have hb:=byteN_lt l (p+1)
   refine⟨by (constructor<;>omega),?_⟩
   by_cases hc:byteN l (p+1)=128∨132<byteN l (p+1)∨q<p+2+(byteN l (p+1)-128)∨byteN l (p+2)=0∨(byteN l (p+1)=129∧byteN l (p+2)<128)
   ·refine⟨?_,?_,?_,?_,?_,?_,fun h2=> ?_,fun h2=> ?_⟩
    rotate_right 2
    ·rw[headF,if_neg (by omega),if_neg (by omega),if_pos hc]
     exact⟨rfl,rfl,rfl⟩
    ·simp only[Bool.and_eq_false_imp,Bool.or_eq_false_iff,decide_eq_false_iff_not,beq_iff_eq,beq_eq_false_iff_ne,ne_eq] at h2
     omega
    all_goals
     intros;simp only[Bool.and_eq_true,Bool.not_eq_true',Bool.or_eq_false_iff,decide_eq_false_iff_not,beq_iff_eq,beq_eq_false_iff_ne,ne_eq,I64_iff] at *;omega
   ·have e3:((p:Int)+2+(byteN l (p+1)-128)).toNat-(p+2)=byteN l (p+1)-128:=by omega
    simp only[e3]
    refine⟨?_,?_,?_,?_,?_,?_,fun h2=> ?_,fun h2=>⟨by (constructor<;>omega),by omega,by omega,by omega,?_⟩⟩
    rotate_right 2
    ·simp only[Bool.and_eq_true,Bool.or_eq_true,decide_eq_true_eq,beq_iff_eq] at h2
     omega
    ·generalize hK:byteN l (p+1)-128=K
     generalize hcut:List.take K (List.drop (p+2) l)=cut
     have hcl:cut.length=K:=by rw[←hcut];simp;omega
     have hhead:headF l p q=(p+2+K,p+2+K+beV cut K,decide (p+2+K+beV cut K≤q)):=by
      rw[headF,if_neg (by omega),if_neg (by omega),if_neg hc,hK,←hcut,beV_take _ _ _ (Nat.le_refl _)]
     have hlt:=beV_lt cut K
     have hK4:256^K≤256^4:=Nat.pow_le_pow_right (by omega) (by omega)
     refine LoopC.intro (fun k=>k≤K) (fun k=>⟨[(68, .i k),(67, .i cut.length),(66, .by cut),(9, .i (beV cut k)),(10, .i ((p:Int)+2)),(11, .i ((byteN l (p+1):Int)-128)),(2, .i q)],[],0⟩) (fun k=>K-k) 0 (Nat.zero_le _) ?_ ?_
     ·simp only[bnA,reduceLeDiff,reduceEqDiff,↓reduceIte,reduceCtorEq]
      simp[beV]
     ·intro k hk
      simp only[bnA,reduceLeDiff,reduceEqDiff,reduceLT,reduceAdd,↓reduceIte,reduceToNat,reducePow]
      refine⟨fun h3=> ?_,fun h3=> ?_⟩
      ·simp only[decide_eq_true_eq] at h3
       have hlt2:=beV_lt cut k
       have hK3:256^k≤256^3:=Nat.pow_le_pow_right (by omega) (by omega)
       refine⟨by omega,by omega,by omega,by (constructor<;>omega),Again.intro (k+1) (by omega) (by omega) ?_⟩
       simp only[bnA,reduceLeDiff,reduceEqDiff,↓reduceIte]
       simp only[byteAt_N]
       rw[or_step _ _ (by omega) (byteN_lt _ _)]
       simp[beV]
      ·simp only[decide_eq_false_iff_not] at h3
       obtain rfl:k=K:=by omega
       rw[hhead]
       refine⟨by (constructor<;>omega),by (constructor<;>omega),by (constructor<;>omega),by simp only;omega,by simp only;omega,?_⟩
       simp only[decide_eq_decide];omega
    all_goals
     intros;simp only[Bool.and_eq_true,Bool.not_eq_true',Bool.or_eq_false_iff,decide_eq_false_iff_not,beq_iff_eq,beq_eq_false_iff_ne,ne_eq,I64_iff] at *;omega
  ·simp only[decide_eq_false_iff_not] at h1
   rw[headF,if_neg (by omega),if_pos (by omega)]
   have hb:=byteN_lt l (p+1)
   refine⟨by (constructor<;>omega),by (constructor<;>omega),by simp only;omega,by simp only;omega,?_⟩
   simp only[decide_eq_decide];omega
def beF (n:Nat):List UInt8:=if n=0 then [] else beF (n/256)++[u8 (n%256:Nat)]
termination_by n
def lenF (n:Nat):List UInt8:=if n<128 then [u8 n] else u8 (128+(beF n).length:Nat)::beF n
theorem beF_step (m:Nat) (h:0<m) (l:List UInt8):beF (m/256)++(u8 (m%256:Nat)::l)=beF m++l:=by
 conv=>rhs;rw[beF,if_neg (by omega)]
 simp
theorem beF_len (n:Nat): ∀k,n<256^k→(beF n).length≤k:=by
 induction n using Nat.strongRecOn with
 |_ n ih=>
  intro k hk
  rw[beF]
  split
  ·simp
  ·cases k with
   |zero=>omega
   |succ k=>
    have:=ih (n/256) (by omega) k (by rw[Nat.pow_succ] at hk;exact Nat.div_lt_of_lt_mul (by omega))
    simp;omega
theorem dlength_fn (J:Inv) (n:Nat) (hn:n<9223372036854775808):Fn Tryz.prog J 60 false [.i n] (.by (lenF n)):=by
 have hlen:=beF_len n 8 (by omega)
 refine fnI Tryz.func60 rfl (by kernel_rfl) rfl (G0_ok J) ?_
 unfold Tryz.f60
 simp only[bnA,reduceMul,reduceLeDiff,↓reduceIte,reduceCtorEq,G0]
 refine⟨fun h=> ?_,fun h0=> ?_⟩
 ·simp only[decide_eq_true_eq] at h
  refine⟨by omega,by omega,?_⟩
  rw[lenF,if_pos (by omega)]
  congr 1
  rw[show(n:Int)%256=n from by omega]
 refine LoopC.introA (α:=Nat×List UInt8×Nat) (fun⟨m,l,_⟩=>m≤n∧beF m++l=beF n) (fun⟨m,l,k⟩=>⟨[(3, .ro (.r k)),(0, .i m)],[(k, .row 5 (.by l))],k+1⟩) (fun⟨m,_,_⟩=>m) (n,[],0) [.sl 3 5 (.by [])] ⟨Nat.le_refl _,by simp⟩ ?_ ?_
 ·simp only[bnA,reduceLeDiff,↓reduceIte,reduceCtorEq]
 ·rintro⟨m,l,k⟩ ⟨hm,hl⟩
  have hll:l.length≤8:=by rw[←hl,List.length_append] at hlen;omega
  simp only[bnA,↓shr_eq,reduceMul,reduceLeDiff,reduceEqDiff,reduceAdd,↓reduceIte,reduceCtorEq,reduceToNat,reducePow]
  refine⟨fun h=> ?_,fun h=> ?_⟩
  ·simp only[decide_eq_true_eq] at h
   refine⟨by omega,by omega,by omega,by omega,Again.intro (m/256,u8 (m%256:Nat)::l,k+2) ⟨by omega,by rw[beF_step m (by omega)];exact hl⟩ (by simp only;omega) ?_⟩
   simp only[bnA,reduceLeDiff,reduceEqDiff,reduceAdd,↓reduceIte,reduceCtorEq]
   simp
  ·simp only[decide_eq_false_iff_not] at h h0
   obtain rfl:m=0:=by omega
   have hl:l=beF n:=by rw[←hl,beF];simp
   subst hl
   refine⟨by omega,by omega,by omega,?_⟩
   rw[lenF,if_neg (by omega)]
   congr 2
   omega
end Go.Proofs.YtfengpdaocgcnaaGreatDoor
