/- OfUint, group, number, OfOid: the walks. Where an element begins and ends. How lengths are written. What reading an element comes to. Plain Lean. Reading an element: the walk. -/
import Derived.Test.YtfengpdaocgcnaaGreatDoorT33
import Derived.Test.YtfengpdaocgcnaaGreatDoorT32
namespace Go.Proofs.YtfengpdaocgcnaaGreatDoor
open Nat (reduceMul reduceLeDiff reduceEqDiff reduceLT reduceAdd reduceSub reduceDiv)
open Int (reduceToNat reducePow)
open Go.RowKit
set_option linter.unusedSimpArgs false
set_option maxRecDepth 100000
def GVf:FuncId→List V→Option (List Prop×Bool×V):=fun f args=>
 if f=53 then match args with
  |[.by l]=>some ([l.length≤140737488355328],true, .by (leastF l))
  |_=>none
 else if f=167 then match args with
  |[.str p]=>some ([p.length≤1073741824],false, .tu [.val (.int .i64 (numV p)),errV p])
  |_=>none
 else if f=51 then match args with
  |[.val (.int .i64 n)]=>some ([I64 n],false, .str (Lib.itoa n))
  |_=>none
 else if f=103 then match args with
  |[.str s, .str p]=>some ([p=[46],s.length≤1073741824],false, .sq 1 (.str []) (strs (spl 46 s)))
  |_=>none
 else none
noncomputable def GV:Sig:=⟨JV,df,GVf,noH,0⟩
theorem GV_ok:SigOk Tryz.prog GV:=by
 refine .plain fun f args l fr r h hl=> ?_
 change GVf f args=some (l,fr,r) at h
 unfold GVf at h
 split at h
 ·rename_i hf;subst hf
  split at h
  ·obtain⟨rfl,rfl,rfl⟩:=some_tri h;exact least_fn JV _ (hl _ (List.mem_cons_self ..))
  ·exact absurd h (by simp)
 ·split at h
  ·rename_i hf;subst hf
   split at h
   ·obtain⟨rfl,rfl,rfl⟩:=some_tri h;exact atoi_fn _ (hl _ (List.mem_cons_self ..))
   ·exact absurd h (by simp)
  ·split at h
   ·rename_i hf;subst hf
    split at h
    ·obtain⟨rfl,rfl,rfl⟩:=some_tri h;exact toJV (itoa_fn _ (hl _ (List.mem_cons_self ..)))
    ·exact absurd h (by simp)
   ·split at h
    ·rename_i hf;subst hf
     split at h
     ·obtain⟨rfl,rfl,rfl⟩:=some_tri h
      have h1:=hl _ (List.mem_cons_self ..)
      have h2:=hl _ (List.mem_cons_of_mem _ (List.mem_cons_self ..))
      subst h1
      exact split_fn _ h2
     ·exact absurd h (by simp)
    ·exact absurd h (by simp)
theorem numV_range (p:List UInt8):I64 (numV p):=by
 unfold numV
 cases hc:Lib.atoiAll p
 ·rename_i v
  simp only
  unfold Lib.atoiAll at hc
  split at hc
  ·cases hc
  ·rename_i c r
   simp only at hc
   split at hc
   ·cases hc
   ·cases hc
   ·rename_i u hu
    split at hc
    ·cases hc
    ·rename_i h1
     split at hc
     ·cases hc
     ·rename_i h2
      injection hc with hc
      by_cases hn:c.toNat=45
      ·rw[if_pos hn] at hc;constructor<;>omega
      ·rw[if_neg hn] at hc;constructor<;>omega
 ·simp only;constructor<;>decide
 ·simp only;unfold Lib.atoiSat;split<;>constructor<;>decide
theorem dnumber_fn (p:List UInt8) (h:p.length≤1073741824):Fn Tryz.prog JV 104 false [.str p] (.tu [.i (numV p), .bb (numOk p)]):=by
 have hr:=numV_range p
 refine fnI Tryz.func104 rfl (by kernel_rfl) rfl GV_ok ?_
 unfold Tryz.f104
 cases hc:Lib.atoiAll p
 ·rename_i v
  have e1:numV p=v:=by unfold numV;rw[hc]
  have e2:errV p= .val .nilIface:=by unfold errV;rw[hc]
  have e3:numOk p=(decide (0≤v)&&decide (v≤2147483647)&&(Lib.itoa v==p)):=by unfold numOk;rw[hc]
  rw[e1] at hr
  simp only[bnA,reduceLeDiff,reduceEqDiff,reduceLT,reduceAdd,↓reduceIte,reduceCtorEq,GV,GVf,e1,e2,e3]
  exact⟨h,fun _=>hr⟩
 ·have e2:errV p= .nn:=by unfold errV;rw[hc]
  have e3:numOk p=false:=by unfold numOk;rw[hc]
  simp only[bnA,reduceLeDiff,reduceEqDiff,reduceLT,reduceAdd,↓reduceIte,reduceCtorEq,GV,GVf,e2,e3]
  exact⟨h,fun e=>e.elim⟩
 ·have e2:errV p= .nn:=by unfold errV;rw[hc]
  have e3:numOk p=false:=by unfold numOk;rw[hc]
  simp only[bnA,reduceLeDiff,reduceEqDiff,reduceLT,reduceAdd,↓reduceIte,reduceCtorEq,GV,GVf,e2,e3]
  exact⟨h,fun e=>e.elim⟩
theorem OfUint_own (b:List UInt8) (h:b.length≤140737488350000):FnH Tryz.prog JV 31 [.by b] [] 0 (.st [.val (.int .i64 2), .by (ofuD b), .val (.int .i64 0)]) [] 9:=by
 have hle:=leastF_le b
 refine fnC Tryz.func31 rfl (by kernel_rfl) GV_ok rfl ?_
 unfold Tryz.f31
 simp only[bnA,reduceMul,reduceLeDiff,reduceEqDiff,reduceLT,reduceAdd,↓reduceIte,reduceCtorEq,reduceToNat,GV,GVf]
 refine⟨by omega,fun _=>by omega,fun hz=> ?_,fun hb=>⟨by omega,by omega,by omega,?_⟩,fun hb=> ?_⟩
 ·have:(leastF b).length≠0:=fun e=>by rw[e] at hz;simp at hz
  omega
 ·have e:ofuD b=u8 0::leastF b:=by
   unfold ofuD;rw[if_pos];simpa using hb
  rw[e]
  refine .inl ?_
  simp only[bnA,reduceLeDiff,reduceEqDiff,reduceLT,reduceAdd,↓reduceIte,reduceCtorEq]
 ·have e:ofuD b=leastF b:=by
   unfold ofuD;rw[if_neg];simpa using hb
  rw[e]
  refine .inl ?_
  simp only[bnA,reduceLeDiff,reduceEqDiff,reduceLT,reduceAdd,↓reduceIte,reduceCtorEq]
theorem u8_or_nat (a b:Nat) (ha:a<256) (hb:b<256):bt .or .u8 (a:Int) (b:Int)=((a|||b:Nat):Int):=by
 have hx:a|||b<2^8:=Nat.or_lt_two_pow (by omega) (by omega)
 have e: ∀a:Nat,a<256→(BitVec.ofInt 8 (a:Int)).toNat=a:=fun a h=>by
  rw[BitVec.ofInt_natCast,BitVec.toNat_ofNat];exact Nat.mod_eq_of_lt (by omega)
 rw[bt_eq]
 show IntKind.u8.wrap ((BitVec.ofInt 8 (a:Int)|||BitVec.ofInt 8 (b:Int)).toNat:Int)=_
 rw[BitVec.toNat_or,e a ha,e b hb,IntKind.wrap_u8]
 omega
theorem dand127 (n:Nat) (h:n<9223372036854775808):bt .and .i64 (n:Int) 127=((n%128:Nat):Int):=by
 have:=i64_and_nat n 127 h (by omega)
 rw[show((127:Nat):Int)=127 from rfl] at this
 rw[this,show(127:Nat)=2^7-1 from rfl,Nat.and_two_pow_sub_one_eq_mod]
theorem or128 (n:Nat) (h:n<128):bt .or .u8 128 (n:Int)=((128+n:Nat):Int):=by
 have:=u8_or_nat 128 n (by omega) (by omega)
 rw[show((128:Nat):Int)=128 from rfl] at this
 rw[this]
 congr 1
 exact(Nat.two_pow_add_eq_or_of_lt (i:=7) h 1).symm
theorem group_own (n:Nat) (h:n≤2147483727):FnH Tryz.prog JV 105 [.i n] [] 0 (.by (grpF n)) [] 1:=by
 refine fnJ Tryz.func105 rfl (by kernel_rfl) GV_ok rfl ?_
 unfold Tryz.f105
 simp only[bnA,↓shr_eq,reduceMul,reduceLeDiff,↓reduceIte,reduceCtorEq,reduceToNat,reducePow,GV]
 rw[dand127 n (by omega)]
 have e0:((n%128:Nat):Int)%256=((n%128:Nat):Int):=by omega
 rw[e0]
 refine⟨by omega,by omega,by omega,?_⟩
 refine LoopC.intro (α:=Nat×List UInt8×Nat) (fun y=>y.1≤n∧hiF y.1++y.2.1=grpF n∧y.2.1.length+y.1≤n+1)
  (fun y=>⟨[(0, .i y.1),(3, .ro (.r y.2.2))],[(y.2.2, .row 5 (.by y.2.1))],y.2.2+1⟩)
  (fun y=>y.1) (n/128,[u8 ((n%128:Nat):Int)],0) ⟨by omega,rfl,by simp only[List.length_cons,List.length_nil];omega⟩ ?_ ?_
 ·simp only[bnA,reduceLeDiff,reduceEqDiff,↓reduceIte,reduceCtorEq]
  omega
 ·rintro⟨m,l,k⟩ ⟨h1,h2,h3⟩
  simp only at h1 h2 h3
  simp only[bnA,↓shr_eq,reduceMul,reduceLeDiff,reduceEqDiff,reduceAdd,↓reduceIte,reduceCtorEq,reduceToNat,reducePow]
  have em:((m%128:Nat):Int)%256=((m%128:Nat):Int):=by omega
  rw[dand127 m (by omega),em,or128 _ (by omega)]
  refine⟨fun hm=> ?_,fun hm=> ?_⟩
  ·have hm:0<m:=by simp at hm;omega
   refine⟨by omega,by omega,by omega,by omega,Again.intro (m/128,u8 ((128+m%128:Nat):Int)::l,k+2) ⟨by simp only;omega,?_,by simp only[List.length_cons];omega⟩ (by simp only;omega) ?_⟩
   ·simp only
    rw[←h2,hiF_pos (n:=m) (by omega),List.append_assoc];rfl
   ·simp only[bnA,reduceLeDiff,reduceEqDiff,reduceAdd,↓reduceIte,reduceCtorEq]
    simp
  ·have hm:m=0:=by simp at hm;omega
   subst hm
   rw[hiF_zero,List.nil_append] at h2
   rw[h2]
   refine RenC.intro [(0,k)] ⟨[(2, .ro (.r 0))],[(0, .row 5 (.by (grpF n)))],1⟩ ?_ ?_
   ·simp only[bnA,reduceLeDiff,reduceLT,↓reduceIte]
    simp
   ·simp only[bnA,reduceLeDiff,↓reduceIte]
def dOf (L:List (List UInt8)) (i:Nat):List UInt8:=if i<2 then [] else grpF (40*numV (L.getD 0 [])+numV (L.getD 1 [])).toNat++((L.drop 2).take (i-2)).flatMap fun p=>grpF (numV p).toNat
theorem ooF_eq (L:List (List UInt8)):ooF L=if 2≤L.length∧L.all numOk=true∧numV (L.getD 0 [])≤2∧(numV (L.getD 0 [])<2→numV (L.getD 1 [])≤39) then some (dOf L L.length) else none:=by
 match L with
 |[]=>simp[ooF]
 |[a]=>simp[ooF]
 |a::b::r=>
  have e:dOf (a::b::r) (a::b::r).length=grpF (40*numV a+numV b).toNat++r.flatMap fun p=>grpF (numV p).toNat:=by
   unfold dOf
   rw[if_neg (by simp)]
   simp
  rw[e]
  unfold ooF
  simp only[List.getD_cons_zero,List.getD_cons_succ]
  by_cases hc:(a::b::r).all numOk=true∧numV a≤2∧(numV a<2→numV b≤39)
  ·rw[if_pos hc,if_pos ⟨by simp,hc⟩]
  ·rw[if_neg hc,if_neg fun h=>hc h.2]
theorem OfUint_fn (b:List UInt8) (h:b.length≤140737488350000):Fn Tryz.prog JV 31 false [.by b] (.st [.val (.int .i64 2), .by (ofuD b), .val (.int .i64 0)]):=
 Fn.of_plain (OfUint_own b h) (by simp[V.cl,clL])
theorem group_fn (n:Nat) (h:n≤2147483727):Fn Tryz.prog JV 105 false [.i n] (.by (grpF n)):=Fn.of_plain (group_own n h) rfl
def GOf:FuncId→List V→Option (List Prop×Bool×V):=fun f args=>
 if f=105 then match args with
  |[.val (.int .i64 n)]=>some ([0≤n,n≤2147483727],false, .by (grpF n.toNat))
  |_=>none
 else if f=104 then match args with
  |[.str p]=>some ([p.length≤1073741824],false, .tu [.i (numV p), .bb (numOk p)])
  |_=>none
 else if f=103 then match args with
  |[.str s, .str p]=>some ([p=[46],s.length≤1073741824],false, .sq 1 (.str []) (strs (spl 46 s)))
  |_=>none
 else none
noncomputable def GO:Sig:=⟨JV,df,GOf,noH,0⟩
theorem GO_ok:SigOk Tryz.prog GO:=by
 refine .plain fun f args l fr r h hl=> ?_
 change GOf f args=some (l,fr,r) at h
 unfold GOf at h
 split at h
 ·rename_i hf;subst hf
  split at h
  ·rename_i n
   obtain⟨rfl,rfl,rfl⟩:=some_tri h
   have h1:0≤n:=hl _ (List.mem_cons_self ..)
   have h2:n≤2147483727:=hl _ (List.mem_cons_of_mem _ (List.mem_cons_self ..))
   have:=group_fn n.toNat (by omega)
   rw[V.i,Int.toNat_of_nonneg h1] at this
   exact this
  ·exact absurd h (by simp)
 ·split at h
  ·rename_i hf;subst hf
   split at h
   ·obtain⟨rfl,rfl,rfl⟩:=some_tri h;exact dnumber_fn _ (hl _ (List.mem_cons_self ..))
   ·exact absurd h (by simp)
  ·split at h
   ·rename_i hf;subst hf
    split at h
    ·obtain⟨rfl,rfl,rfl⟩:=some_tri h
     have h1:=hl _ (List.mem_cons_self ..)
     have h2:=hl _ (List.mem_cons_of_mem _ (List.mem_cons_self ..))
     subst h1
     exact split_fn _ h2
    ·exact absurd h (by simp)
   ·exact absurd h (by simp)
def ofOidV (s:List UInt8):V:=match ooF (spl 46 s) with
 |some d=> .tu [.st [.val (.int .i64 6), .by d, .val (.int .i64 0)], .bb true]
 |none=> .tu [.st [.val (.int .i64 0), .val (.slice none 0 0), .val (.int .i64 0)], .bb false]
theorem hiF_len: ∀(k n:Nat),n<128^k→(hiF n).length≤k
 |0,n,h=>by
  have:n=0:=by simpa using h
  rw[this,hiF_zero];simp
 |k+1,n,h=>by
  by_cases h0:n=0
  ·subst h0;simp[hiF_zero]
  ·rw[hiF_pos h0,List.length_append]
   have:=hiF_len k (n/128) (by rw[Nat.pow_succ] at h;omega)
   simp;omega
theorem grpF_len {m:Nat} (h:m≤2147483727):(grpF m).length≤5:=by
 unfold grpF
 have:=hiF_len 4 (m/128) (by omega)
 simp;omega
def topOf (L:List (List UInt8)) (i:Nat):Int:=if i=0 then 0 else numV (L.getD 0 [])
theorem OfOid_own (s:List UInt8) (h:s.length≤268435456):FnH Tryz.prog JV 61 [.str s] [] 0 (ofOidV s) [] 9:=by
 refine fnC Tryz.func61 rfl (by kernel_rfl) GO_ok rfl ?_
 unfold Tryz.f61
 simp only[bnA,reduceLeDiff,reduceEqDiff,reduceLT,reduceAdd,↓reduceIte,reduceCtorEq,GO,GOf]
 have hlen:(spl 46 s).length≤268435457:=by rw[spl_len];have:=List.count_le_length (a:=46) (l:=s);omega
 have hle: ∀x∈spl 46 s,x.length≤268435456:=fun x hx=>Nat.le_trans (spl_le 46 s x hx) h
 have hoo:=ooF_eq (spl 46 s)
 generalize ho:ofOidV s=o
 unfold ofOidV at ho
 generalize spl 46 s=L at hlen hle hoo ho⊢
 refine⟨by omega,?_⟩
 refine LoopC.introA (α:=Nat×Nat) (fun y=>y.1≤L.length∧2≤y.2∧(L.take y.1).all numOk=true∧(1≤y.1→numV (L.getD 0 [])≤2)∧(2≤y.1→numV (L.getD 0 [])<2→numV (L.getD 1 [])≤39)∧(dOf L y.1).length≤6*y.1)
  (fun y=>⟨[(16, .i y.1),(15, .i L.length),(14, .sq 1 (.str []) (strs L)),(6, .sq 1 (.str []) (strs L)),(5, .i (topOf L y.1)),(4, .op 1 0),(3, .bb false),(2, .op 0 0)],
   [(0, .box 47 (.st [.val (.int .i64 0), .val (.slice none 0 0), .val (.int .i64 0)])),(1, .box 47 (.st [.val (.int .i64 6), .ro (.r y.2), .val (.int .i64 0)])),(y.2, .row 5 (.by (dOf L y.1)))],y.2+1⟩)
  (fun y=>L.length-y.1) (0,2) [.bx 1 1 5 (.by [])] ⟨Nat.zero_le _,Nat.le_refl _,rfl,by simp,by simp,by simp[dOf]⟩ ?_ ?_
 ·simp only[bnA,reduceLeDiff,reduceEqDiff,reduceLT,reduceAdd,↓reduceIte,reduceCtorEq]
  exact⟨⟨rfl,rfl⟩,rfl⟩
 ·rintro⟨i,k⟩ ⟨h1,h2,h3,h4,h5,h6⟩
  simp only at h1 h2 h3 h4 h5 h6
  have k0:(0=k)=False:=by simp;omega
  have k1:(1=k)=False:=by simp;omega
  simp only[bnA,reduceLeDiff,reduceEqDiff,reduceLT,reduceAdd,↓reduceIte,reduceCtorEq,GOf]
  refine⟨fun hi=> ?_,fun hi=> ?_⟩
  ·have hi:i<L.length:=by simp at hi;omega
   have ep:L.getD i []=L[i]:=by rw[List.getD_eq_getElem?_getD,List.getElem?_eq_getElem hi];rfl
   have hm:L.getD i []∈L:=by rw[ep];exact List.getElem_mem hi
   have hpl:=hle _ hm
   have hall:numOk (L.getD i [])=true→(L.take (i+1)).all numOk=true:=fun h=>by
    rw[List.take_succ_eq_append_getElem hi,List.all_append,h3,←ep,List.all_cons,h];rfl
   have hok:L.all numOk=true→numOk (L.getD i [])=true:=fun h=>List.all_eq_true.1 h _ hm
   generalize hp:L.getD i []=p at hm hpl hall hok⊢
   have hr:=numV_range p
   refine⟨by omega,by omega,by omega,fun a b=>by rw[b];revert a;cases numOk p<;>simp,fun a b=>by rw[a,b];rfl,fun a b=>by rw[a,b];rfl,fun hb=> ?_,fun hb=> ?_⟩
   ·have hno:ooF L=none:=by
     rw[hoo,if_neg]
     rintro⟨c1,c2,c3,c4⟩
     rw[hok c2] at hb
     simp only[Bool.not_true,Bool.false_or,Bool.or_eq_true,Bool.and_eq_true,beq_iff_eq,decide_eq_true_eq] at hb
     rcases hb with ⟨b1,b2⟩|⟨⟨b1,b2⟩,b3⟩
     ·obtain rfl:i=0:=by omega
      rw[hp] at c3;omega
     ·obtain rfl:i=1:=by omega
      have:topOf L 1=numV (L.getD 0 []):=rfl
      rw[this] at b2
      have:=c4 b2
      rw[hp] at this;omega
    rw[hno] at ho
    subst ho
    refine RenC.intro [(0,0)] ⟨[(2, .op 0 0),(3, .bb false)],[(0, .box 47 (.st [.val (.int .i64 0), .val (.slice none 0 0), .val (.int .i64 0)]))],1⟩ ?_ ?_
    ·simp only[bnA,reduceLeDiff,reduceEqDiff,reduceLT,↓reduceIte]
    ·simp only[bnA,reduceLeDiff,reduceEqDiff,reduceLT,reduceAdd,↓reduceIte]
   ·have hp1:numOk p=true:=by
     revert hb;cases numOk p<;>simp
    have hb:((i:Int)==0&&decide (2<numV p))=false∧((i:Int)==1&&decide (topOf L i<2)&&decide (39<numV p))=false:=by
     rw[hp1] at hb;simpa only[Bool.not_true,Bool.false_or,Bool.or_eq_false_iff] using hb
    obtain⟨n,n1,n2,n3⟩:=num_of hp1
    have hall:=hall hp1
    refine⟨fun e0=> ?_,fun e0=>⟨fun e1=> ?_,fun e1=> ?_⟩⟩
    ·obtain rfl:i=0:=by simpa using e0
     refine⟨by constructor<;>omega,Again.intro (1,k) ⟨hi,h2,hall,fun _=> ?_,by simp,by simp[dOf]⟩ (by simp only;omega) ?_⟩
     ·have:=hb.1
      rw[hp];simp at this;omega
     ·simp only[bnA,reduceLeDiff,reduceEqDiff,↓reduceIte,reduceCtorEq,hp,topOf,k0,k1]
      simp[dOf]
    ·obtain rfl:i=1:=by simp at e1;omega
     have ht:topOf L 1=numV (L.getD 0 []):=rfl
     have h0:=h4 (Nat.le_refl 1)
     obtain⟨n0,q1,q2,q3⟩: ∃n0:Nat,n0≤2147483647∧L.getD 0 []=Lib.itoa n0∧numV (L.getD 0 [])=n0:=by
      refine num_of ?_
      have:L.getD 0 []=L[0]:=by rw[List.getD_eq_getElem?_getD,List.getElem?_eq_getElem (by omega)];rfl
      rw[this]
      exact List.all_eq_true.1 h3 _ (by rw[List.mem_take_iff_getElem];exact⟨0,by omega,rfl⟩)
     have hb2:=hb.2
     rw[ht] at hb2⊢
     have h39:numV (L.getD 0 [])<2→numV p≤39:=fun h=>by rw[decide_eq_true h] at hb2;simp at hb2;omega
     rw[q3] at h0 h39⊢
     rw[n3] at h39⊢
     have ed:dOf L 2=grpF ((n:Int)+40*(n0:Int)).toNat:=by
      unfold dOf
      rw[if_neg (by omega),q3,hp,n3,Int.add_comm];simp
     have ed1:dOf L 1=[]:=by unfold dOf;rw[if_pos (by omega)]
     have hg:=grpF_len (m:=((n:Int)+40*(n0:Int)).toNat) (by omega)
     refine⟨by constructor<;>omega,by constructor<;>omega,?_⟩
     have k2:(0=k+1)=False:=by simp
     have k4:(k=0)=False:=by simp;omega
     have k5:(k=1)=False:=by simp;omega
     have k6:(k+1=0)=False:=by simp
     have k7:(k+1=1)=False:=by simp;omega
     have k3:(1=k+1)=False:=by simp;omega
     refine DrawC.sch [(0,some []),(1,some []),(2,some []),(3,none),(4,none),(5,some []),(6,none)] [(6,[1])] (by kernel_rfl) ?_
     simp only[bnA,reduceLeDiff,reduceEqDiff,reduceLT,reduceAdd,↓reduceIte,reduceCtorEq,GOf,k0,k1,k4,k5,k7]
     rw[ed1,List.nil_append,←ed]
     have ht2:topOf L 2=(n0:Int):=q3
     refine⟨by omega,by omega,by rw[ed];omega,by constructor<;>omega,Again.intro (2,k+1) ⟨hi,by simp only;omega,hall,fun _=>h0,fun _ h=> ?_,by simp only;rw[ed];omega⟩ (by simp only;omega) ?_⟩
     ·rw[hp,n3];exact h39 h
     ·simp only[bnA,reduceLeDiff,reduceEqDiff,reduceAdd,↓reduceIte,reduceCtorEq,ht2,k3,k6]
      simp
    ·have hi2:2≤i:=by simp at e0 e1;omega
     have ed:dOf L (i+1)=dOf L i++grpF (numV p).toNat:=by
      unfold dOf
      rw[if_neg (by omega),if_neg (by omega),List.append_assoc,show i+1-2=(i-2)+1 from by omega,List.take_succ_eq_append_getElem (by simp;omega),List.flatMap_append]
      congr 2
      simp only[List.getElem_drop,List.flatMap_cons,List.flatMap_nil,List.append_nil]
      rw[←hp,ep]
      congr 4
      omega
     have hg:=grpF_len (m:=(numV p).toNat) (by omega)
     have k2:(0=k+1)=False:=by simp
     have k4:(k=0)=False:=by simp;omega
     have k5:(k=1)=False:=by simp;omega
     have k6:(k+1=0)=False:=by simp
     have k7:(k+1=1)=False:=by simp;omega
     have k3:(1=k+1)=False:=by simp;omega
     refine DrawC.sch [(0,some []),(1,some []),(2,some []),(3,none),(4,none),(5,some []),(6,none)] [(6,[1])] (by kernel_rfl) ?_
     simp only[bnA,reduceLeDiff,reduceEqDiff,reduceLT,reduceAdd,↓reduceIte,reduceCtorEq,GOf,k0,k1,k4,k5,k7]
     rw[←ed]
     have ht2:topOf L (i+1)=topOf L i:=by unfold topOf;rw[if_neg (by omega),if_neg (by omega)]
     refine⟨by omega,by omega,by rw[ed,List.length_append];omega,by constructor<;>omega,Again.intro (i+1,k+1) ⟨hi,by simp only;omega,hall,fun _=>h4 (by omega),fun _ h=>h5 hi2 h,by simp only;rw[ed,List.length_append];omega⟩ (by simp only;omega) ?_⟩
     simp only[bnA,reduceLeDiff,reduceEqDiff,reduceAdd,↓reduceIte,reduceCtorEq,ht2,k3,k6]
     simp
  ·have hi:i=L.length:=by simp at hi;omega
   subst hi
   rw[List.take_length] at h3
   refine⟨fun hs=> ?_,fun hs=> ?_⟩
   ·have hno:ooF L=none:=by
     rw[hoo,if_neg]
     rintro⟨c1,_⟩
     simp at hs;omega
    rw[hno] at ho
    subst ho
    refine RenC.intro [(0,0)] ⟨[(2, .op 0 0),(3, .bb false)],[(0, .box 47 (.st [.val (.int .i64 0), .val (.slice none 0 0), .val (.int .i64 0)]))],1⟩ ?_ ?_
    ·simp only[bnA,reduceLeDiff,reduceEqDiff,reduceLT,↓reduceIte]
    ·simp only[bnA,reduceLeDiff,reduceEqDiff,reduceLT,reduceAdd,↓reduceIte]
   ·have hs:2≤L.length:=by simp at hs;omega
    rw[hoo,if_pos ⟨hs,h3,h4 (by omega),h5 hs⟩] at ho
    simp only at ho
    subst ho
    refine RenC.intro [(0,0),(1,k)] ⟨[(2, .op 0 0),(3, .bb true)],[(0, .box 47 (.st [.val (.int .i64 6), .ro (.r 1), .val (.int .i64 0)])),(1, .row 5 (.by (dOf L L.length)))],2⟩ ?_ ?_
    ·simp only[bnA,reduceLeDiff,reduceEqDiff,reduceLT,↓reduceIte,reduceCtorEq,k0,k1]
     exact⟨.inr trivial,by omega⟩
    ·simp only[bnA,reduceLeDiff,reduceEqDiff,reduceLT,reduceAdd,↓reduceIte,reduceCtorEq]
theorem ofOidV_cl (s:List UInt8):(ofOidV s).cl=true:=by
 unfold ofOidV;split<;>simp[V.cl,clL]
theorem OfOid_fn (s:List UInt8) (h:s.length≤268435456):Fn Tryz.prog JV 61 false [.str s] (ofOidV s):=Fn.of_plain (OfOid_own s h) (ofOidV_cl s)
def beF (n:Nat):List UInt8:=if n=0 then [] else beF (n/256)++[u8 (n%256:Nat)]
termination_by n
def lenF (n:Nat):List UInt8:=if n<128 then [u8 n] else u8 (128+(beF n).length:Nat)::beF n
theorem beF_step (m:Nat) (h:0<m) (l:List UInt8):beF (m/256)++(u8 (m%256:Nat)::l)=beF m++l:=by
 conv=>rhs;rw[beF,if_neg (by omega)]
 simp
theorem beF_len (n:Nat): ∀k,n<256^k→(beF n).length≤k:=by
 induction n using Nat.strongRecOn with
 |_ n ih=>
  intro k hk
  rw[beF]
  split
  ·simp
  ·cases k with
   |zero=>omega
   |succ k=>
    have:=ih (n/256) (by omega) k (by rw[Nat.pow_succ] at hk;exact Nat.div_lt_of_lt_mul (by omega))
    simp;omega
theorem dlength_fn (J:Inv) (n:Nat) (hn:n<9223372036854775808):Fn Tryz.prog J 60 false [.i n] (.by (lenF n)):=by
 have hlen:=beF_len n 8 (by omega)
 refine fnI Tryz.func60 rfl (by kernel_rfl) rfl (G0_ok J) ?_
 unfold Tryz.f60
 simp only[bnA,reduceMul,reduceLeDiff,↓reduceIte,reduceCtorEq,G0]
 refine⟨fun h=> ?_,fun h0=> ?_⟩
 ·simp only[decide_eq_true_eq] at h
  refine⟨by omega,by omega,?_⟩
  rw[lenF,if_pos (by omega)]
  congr 1
  rw[show(n:Int)%256=n from by omega]
 refine LoopC.introA (α:=Nat×List UInt8×Nat) (fun⟨m,l,_⟩=>m≤n∧beF m++l=beF n) (fun⟨m,l,k⟩=>⟨[(3, .ro (.r k)),(0, .i m)],[(k, .row 5 (.by l))],k+1⟩) (fun⟨m,_,_⟩=>m) (n,[],0) [.sl 3 5 (.by [])] ⟨Nat.le_refl _,by simp⟩ ?_ ?_
 ·simp only[bnA,reduceLeDiff,↓reduceIte,reduceCtorEq]
 ·rintro⟨m,l,k⟩ ⟨hm,hl⟩
  have hll:l.length≤8:=by rw[←hl,List.length_append] at hlen;omega
  simp only[bnA,↓shr_eq,reduceMul,reduceLeDiff,reduceEqDiff,reduceAdd,↓reduceIte,reduceCtorEq,reduceToNat,reducePow]
  refine⟨fun h=> ?_,fun h=> ?_⟩
  ·simp only[decide_eq_true_eq] at h
   refine⟨by omega,by omega,by omega,by omega,Again.intro (m/256,u8 (m%256:Nat)::l,k+2) ⟨by omega,by rw[beF_step m (by omega)];exact hl⟩ (by simp only;omega) ?_⟩
   simp only[bnA,reduceLeDiff,reduceEqDiff,reduceAdd,↓reduceIte,reduceCtorEq]
   simp
  ·simp only[decide_eq_false_iff_not] at h h0
   obtain rfl:m=0:=by omega
   have hl:l=beF n:=by rw[←hl,beF];simp
   subst hl
   refine⟨by omega,by omega,by omega,?_⟩
   rw[lenF,if_neg (by omega)]
   congr 2
   omega
structure ER where
 out:List Tlv
 code:Int
 place:Nat
 ret:Nat
def addKid (ts:List Tlv) (me:Nat):List Tlv:=ts.set me ⟨(ts.getD me default).tag,(ts.getD me default).data,(ts.getD me default).kids+1⟩
def kdF (rec:Nat→Nat→List Tlv→ER) (me tq:Nat):Nat→Nat→List Tlv→ER
 |0,_,out=>⟨out,0,0,tq⟩
 |n+1,p,out=>
  if p<tq then
   if (rec p tq out).code=0 then kdF rec me tq n (rec p tq out).ret (addKid (rec p tq out).out me)
   else ⟨(rec p tq out).out,(rec p tq out).code,(rec p tq out).place,0⟩
  else ⟨out,0,0,tq⟩
def tagAt (l:List UInt8) (p q:Nat):Int:=if (headF l p q).2.2=true then byteAt l p else 0
def cutF (l:List UInt8) (p q:Nat):List UInt8:=(l.drop (headF l p q).1).take ((headF l p q).2.1-(headF l p q).1)
def badF (l:List UInt8) (p q:Nat):Bool:= !(headF l p q).2.2|| !tagF (tagAt l p q)||(!innerF (tagAt l p q)&& !rightF (tagAt l p q) (cutF l p q))
def elB (l:List UInt8) (rec:Option (Nat→Nat→List Tlv→ER)) (p q:Nat) (out:List Tlv):ER:=
 if badF l p q=true then ⟨out,80,p,0⟩
 else if innerF (tagAt l p q)=false then ⟨out++[⟨tagAt l p q,cutF l p q,0⟩],0,0,(headF l p q).2.1⟩
 else match rec with
  |none=>⟨out,11,p,0⟩
  |some rec=>kdF rec out.length (headF l p q).2.1 ((headF l p q).2.1-(headF l p q).1+1) (headF l p q).1 (out++[⟨tagAt l p q,[],0⟩])
def elF (l:List UInt8):Nat→Nat→Nat→List Tlv→ER
 |0=>elB l none
 |d+1=>elB l (some (elF l d))
structure RecOk (rec:Nat→Nat→List Tlv→ER):Prop where
 yes: ∀p q out,(rec p q out).code=0→p+2≤(rec p q out).ret∧(rec p q out).ret≤q∧(rec p q out).place=0
 len: ∀p q out,p≤q→(rec p q out).out.length≤out.length+(q-p)∧out.length≤(rec p q out).out.length∧((rec p q out).code=0→(rec p q out).out.length≤out.length+((rec p q out).ret-p))
 ret: ∀p q out,(rec p q out).code=0∨(rec p q out).ret=0
 code: ∀p q out,(rec p q out).code=0∨(rec p q out).code=80∨(rec p q out).code=11
 pre: ∀p q out,∃m,(rec p q out).out=out++m
theorem headF_ok {l:List UInt8} {p q:Nat} (h:(headF l p q).2.2=true):p+2≤(headF l p q).1∧(headF l p q).1≤(headF l p q).2.1∧(headF l p q).2.1≤q:=by
 unfold headF at h⊢
 split
 ·simp_all
 ·split
  ·simp_all
  ·split
   ·simp_all
   ·rename_i h1 h2 h3
    rw[if_neg h1,if_neg h2,if_neg h3] at h
    simp only[decide_eq_true_eq] at h
    refine⟨by simp only;omega,by simp only;omega,h⟩
theorem addKid_at (b:List Tlv) (x:Tlv) (m:List Tlv):addKid (b++x::m) b.length=b++⟨x.tag,x.data,x.kids+1⟩::m:=by
 unfold addKid
 rw[show(b++x::m).getD b.length default=x from by simp[List.getD_eq_getElem?_getD]]
 simp
def elPre (l:List UInt8) (k r:Nat) (out:List Tlv):List (Nat×Ob):=[(k, .box 85 (.st [.by l, .ro (.r r), .val (.int .i64 0), .val (.int .i64 0)])),(r, .row 47 (tloV out))]
def elPost (l:List UInt8) (k r:Nat) (e:ER):List (Nat×Ob):=[(k, .box 85 (.st [.by l, .ro (.r r), .val (.int .i64 e.code), .val (.int .i64 e.place)])),(r, .row 47 (tloV e.out))]
def G2f:FuncId→List V→Option (List Prop×Bool×V):=fun f args=>
 if f=86 then match args with
  |[.val (.int .i64 t)]=>some ([],false, .bb (tagF t))
  |_=>none
 else if f=50 then match args with
  |[.val (.int .i64 t), .by l]=>some ([l.length≤140737488355328],false, .bb (rightF t l))
  |_=>none
 else if f=85 then match args with
  |[.by l, .val (.int .i64 p), .val (.int .i64 q)]=>some ([0≤p,0≤q,q≤(l.length:Int),l.length≤140737488355328,p≤140737488355328],false, .tu [.i (headF l p.toNat q.toNat).1, .i (headF l p.toNat q.toNat).2.1, .bb (headF l p.toNat q.toNat).2.2])
  |_=>none
 else none
def G2h (d:Option Nat):FuncId→List V→List (Nat×Ob)→Nat→Option CallH:=fun f args h nx=>
 if f=49 then match args with
  |[.op k 0, .val (.int .i64 p), .val (.int .i64 q), .val (.int .i64 o)]=>match Hroot h k with
   |some (.box _ (.st [.by l, .ro (.r r), .val (.int .i64 _), .val (.int .i64 _)]))=>match Hroot h r with
    |some (.row _ (.sq _ _ L))=>match d with
     |some d=>some ⟨[0≤p,p≤q,q≤(l.length:Int),l.length≤65536,o=32-(d:Int),d≤32,(unT L).length+(q.toNat-p.toNat)≤65536,k<nx,r<nx,k≠r],[],
       elPre l k r (unT L), .i (elF l d p.toNat q.toNat (unT L)).ret,elPost l k nx (elF l d p.toNat q.toNat (unT L)),nx+1⟩
     |none=>none
    |_=>none
   |_=>none
  |_=>none
 else none
def G2 (J:Inv) (d:Option Nat) (b:Nat):Sig:=⟨J,df,G2f,G2h d,b⟩
theorem and32 (t:Int) (h0:0≤t) (h1:t≤255):(!(bt .and .i64 t 32==0))=innerF t:=by
 obtain⟨a,rfl⟩:=Int.eq_ofNat_of_zero_le h0
 have h:=i64_and_nat a 32 (by omega) (by omega)
 rw[show((32:Nat):Int)=32 from rfl] at h
 rw[h]
 have key: ∀b,b<256→(!(((b&&&32:Nat):Int)==0))=innerF (b:Int):=by decide+kernel
 exact key a (by omega)
end Go.Proofs.YtfengpdaocgcnaaGreatDoor
