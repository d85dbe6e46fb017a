/- Contents; where an element begins and ends. Tables of the library's as what is taken for granted of the world. Numbers as texts, texts joined: the library's, by its shelf. Uint, Oid: the walks. Texts cut at one byte. Plain Lean. Numbers and identifiers, there and back: what is reckoned. Plain Lean. The world for numbers and identifiers; the library's Atoi and Split at this program. -/
import Derived.Test.YtfengpdaocgcnaaGreatDoorT32
import Derived.Test.YtfengpdaocgcnaaGreatDoorQ17
import Derived.Lib.LaidTab
import Derived.Test.YtfengpdaocgcnaaGreatDoorT18
import Derived.Lib.AppendIntMem
import Derived.Test.YtfengpdaocgcnaaGreatDoorQ16
import Derived.Lib.SplitLaws
import Derived.Lib.AtoiAll
import Derived.Lib.ItoaMem
namespace Go.Proofs.YtfengpdaocgcnaaGreatDoor
open Nat (reduceMul reduceLeDiff reduceEqDiff reduceLT reduceAdd reduceSub reduceDiv)
open Int (reduceToNat reducePow)
open Go.RowKit
set_option linter.unusedSimpArgs false
set_option maxRecDepth 100000
def G1f:FuncId→List V→Option (List Prop×Bool×V):=fun f args=>
 if f=86 then match args with
  |[.val (.int .i64 t)]=>some ([],false, .bb (tagF t))
  |_=>none
 else if f=87 then match args with
  |[.by l]=>some ([l.length≤140737488355328],false, .bb (groupsF l))
  |_=>none
 else none
def G1 (J:Inv):Sig:=⟨J,df,G1f,noH,0⟩
theorem some_tri {α β γ:Type} {a d:α} {b e:β} {c f:γ} (h:some (a,b,c)=some (d,e,f)):a=d∧b=e∧c=f:=by simpa using h
theorem G1_ok (J:Inv):SigOk Tryz.prog (G1 J):=by
 refine .plain fun f args l fr r h hl=> ?_
 unfold G1f at h
 split at h
 ·rename_i hf;subst hf
  split at h
  ·obtain⟨rfl,rfl,rfl⟩:=some_tri h;exact tagged_fn J _
  ·exact absurd h (by simp)
 ·split at h
  ·rename_i hf;subst hf
   split at h
   ·obtain⟨rfl,rfl,rfl⟩:=some_tri h;exact groups_fn J _ (hl _ (List.mem_cons_self ..))
   ·exact absurd h (by simp)
  ·exact absurd h (by simp)
theorem mask_u8 (a k:Int) (h0:0≤a) (h1:a<256) (k0:0≤k) (k1:k<8):bt .and .u8 a (((1*2^(if k.toNat≤8 then k.toNat else 8))%256-1)%256)=a%2^k.toNat:=by
 obtain⟨m,rfl⟩:=Int.eq_ofNat_of_zero_le k0
 obtain⟨n,rfl⟩:=Int.eq_ofNat_of_zero_le h0
 have hm:m<8:=by omega
 rw[Int.toNat_natCast,if_pos (by omega)]
 have e:(((1*2^m)%256-1)%256:Int)=((2^m-1:Nat):Int)∧2^m≤256∧1≤2^m:=by
  have:m=0∨m=1∨m=2∨m=3∨m=4∨m=5∨m=6∨m=7:=by omega
  rcases this with rfl|rfl|rfl|rfl|rfl|rfl|rfl|rfl<;>decide
 rw[e.1,bt_eq,u8_and_nat n _ (by omega) (by omega),Nat.and_two_pow_sub_one_eq_mod]
 simp
theorem right_1 (l:List UInt8):rightF 1 l=((l.length:Int)==1&&(byteAt l 0==0||byteAt l 0==255)):=by unfold rightF;rw[if_pos rfl]
theorem right_2 (l:List UInt8):rightF 2 l=((l.length:Int)==1||(decide (1<(l.length:Int))&& !(byteAt l 0==0&&decide (byteAt l 1<128))&& !(byteAt l 0==255&&decide (128≤byteAt l 1)))):=by
 unfold rightF;rw[if_neg (by omega),if_pos rfl]
theorem right_3 (l:List UInt8):rightF 3 l=((l.length:Int)==1&&byteAt l 0==0||decide (1<(l.length:Int))&&decide (byteAt l 0<8)&&(byteAt l (l.length-1)%2^(byteAt l 0).toNat==0)):=by
 unfold rightF;rw[if_neg (by omega),if_neg (by omega),if_pos rfl]
theorem dright_fn (J:Inv) (t:Int) (l:List UInt8) (hm:l.length≤140737488355328):Fn Tryz.prog J 50 false [.i t, .by l] (.bb (rightF t l)):=by
 have b0:=byteAt_lo l 0
 have b1:=byteAt_hi l 0
 refine fnI Tryz.func50 rfl (by kernel_rfl) rfl (G1_ok J) ?_
 unfold Tryz.f50
 simp only[bnA,reduceEqDiff,reduceLT,reduceAdd,↓reduceIte,reduceCtorEq,reduceToNat,G1,G1f]
 refine⟨fun h=> ?_,fun h1=>⟨fun h=> ?_,fun h2=>⟨fun h=> ?_,fun h3=>⟨fun h=> ?_,fun h5=>⟨fun h=> ?_,fun h6=> ?_⟩⟩⟩⟩⟩
 ·obtain rfl:t=1:=by simpa using h
  rw[right_1]
  repeat' apply And.intro
  all_goals first|rfl|(intros;simp only[Bool.and_eq_true,Bool.not_eq_true',beq_iff_eq,beq_eq_false_iff_ne,ne_eq] at *;omega)
 ·obtain rfl:t=2:=by simpa using h
  rw[right_2]
  repeat' apply And.intro
  all_goals first|rfl|(intros;simp only[Bool.and_eq_true,Bool.not_eq_true',Bool.and_eq_false_imp,decide_eq_true_eq,decide_eq_false_iff_not,beq_iff_eq,beq_eq_false_iff_ne,ne_eq] at *;omega)
 ·obtain rfl:t=3:=by simpa using h
  rw[right_3]
  by_cases hk:byteAt l 0<8
  ·rw[mask_u8 _ _ (byteAt_lo _ _) (byteAt_hi _ _) b0 hk]
   by_cases hl:l.length=0
   ·simp[hl]
   ·rw[show((l.length:Int)-1).toNat=l.length-1 from by omega]
    repeat' apply And.intro
    all_goals first|rfl|(intros;simp only[Bool.and_eq_true,Bool.not_eq_true',Bool.and_eq_false_imp,decide_eq_true_eq,beq_iff_eq,beq_eq_false_iff_ne,ne_eq,I64_iff] at *;omega)
  ·have hk':decide (byteAt l 0<8)=false:=by simpa using hk
   rw[hk']
   simp only[Bool.and_false,Bool.false_and,Bool.or_false]
   repeat' apply And.intro
   all_goals first|rfl|(intros;simp_all;done)|(intros;simp_all;omega)
 ·obtain rfl:t=5:=by simpa using h
  unfold rightF;rw[if_neg (by omega),if_neg (by omega),if_neg (by omega),if_pos rfl]
 ·obtain rfl:t=6:=by simpa using h
  refine⟨hm,?_⟩
  unfold rightF;rw[if_neg (by omega),if_neg (by omega),if_neg (by omega),if_neg (by omega),if_pos rfl]
 ·unfold rightF;rw[if_neg (by simpa using h1),if_neg (by simpa using h2),if_neg (by simpa using h3),if_neg (by simpa using h5),if_neg (by simpa using h6)]
theorem byteN_eq (l:List UInt8) (i:Nat):byteN l i=((l[i]?).getD 0).toNat:=by unfold byteN;rw[List.getD_eq_getElem?_getD]
def tabInv (P:Program) (l:List (String×IntKind×List Int)):Inv where
 I:=fun w F=> ∀t∈l,Lib.TabIs P w t.1 t.2.1 t.2.2∧ ∃g,P.globalNamed t.1=some g∧g<w.heap.size∧ ¬F g
 out:=fun{w w' F F'} h hs hb hF t ht=>by
  obtain⟨h1,g,h2,h3,h4⟩:=h t ht
  refine⟨?_,g,h2,Nat.lt_of_lt_of_le h3 hs,fun hg=>(hF g hg).elim h4 fun h=>by omega⟩
  unfold Lib.TabIs World.var? at h1⊢
  rw[h2] at h1⊢
  simp only[Option.bind_some] at h1⊢
  rw[hb g h3 h4]
  exact h1
 gl:=⟨fun _=>none,none,fun _ _ _=>none⟩
 lkOk:=fun _ _ _ _ _ h=>by cases h
 glOk:=fun _ _ h=>by cases h
noncomputable def JD:Inv:=tabInv Tryz.prog [("internal/strconv.uint64pow10", .u64,Lib.pow10Tab)]
theorem itoa_fn (n:Int) (h:I64 n):Fn Tryz.prog JD 51 false [.i n] (.str (Lib.itoa n)):=by
 refine⟨⟨_,Tryz.func51,by kernel_rfl,by kernel_rfl⟩,fun w F vs hI hF hlen hvs=> ?_⟩
 obtain⟨x,rfl⟩: ∃x,vs=[x]:=List.length_eq_one_iff.1 hlen
 obtain rfl:=rep_val (hvs 0 _ x rfl rfl)
 refine(Tryz.strconv_Itoa n h.lo h.hi w (hI _ (List.mem_singleton.2 rfl)).1).mono fun e w' he=> ?_
 obtain⟨rfl,k,os,rfl⟩:=he
 exact⟨_,rfl,Lib.below_grow _ w (Nat.le_refl _) k os, .str _⟩
def leastF:List UInt8→List UInt8
 |[]=>[]
 |c::r=>if c=0 then leastF r else c::r
theorem leastF_le: ∀l:List UInt8,(leastF l).length≤l.length
 |[]=>by simp[leastF]
 |c::r=>by
  rw[leastF]
  split
  ·have:=leastF_le r;simp;omega
  ·simp
theorem least_own (J:Inv) (l:List UInt8) (hl:l.length≤140737488355328):FnH Tryz.prog J 53 [.by l] [] 0 (.ro (.r 0)) [(0, .row 5 (.by (leastF l)))] 1:=by
 refine fnJ Tryz.func53 rfl (by kernel_rfl) (G0_ok J) rfl ?_
 unfold Tryz.f53
 simp only[bnA,G0]
 refine LoopC.intro (α:=List UInt8) (fun b=>b.length≤l.length∧leastF b=leastF l) (fun b=>⟨[(0, .by b)],[],0⟩) (fun b=>b.length) l ⟨Nat.le_refl _,rfl⟩ ?_ ?_
 ·simp only[bnA,reduceLeDiff,↓reduceIte,reduceCtorEq]
 ·rintro b ⟨h1,h2⟩
  simp only[bnA,reduceEqDiff,reduceLT,↓reduceIte,reduceCtorEq,reduceToNat]
  refine⟨fun _=>by omega,fun hb=> ?_,fun hb=> ?_⟩
  ·simp only[Bool.and_eq_true,decide_eq_true_eq,beq_iff_eq] at hb
   cases b with
   |nil=>simp at hb
   |cons c r=>
    have hc:c=0:=by
     have:=hb.2
     rw[byteAt_N] at this
     simp only[byteN,List.getD_cons_zero] at this
     exact UInt8.toNat_inj.1 (by simp;omega)
    simp only[List.length_cons] at h1⊢
    refine⟨by omega,by omega,Again.intro r ⟨by omega,?_⟩ (by simp) ?_⟩
    ·rw[←h2,leastF,if_pos hc]
    ·simp only[bnA,reduceLeDiff,↓reduceIte]
     simp
  ·have hb2:leastF b=b:=by
    cases b with
    |nil=>rfl
    |cons c r=>
     have hc: ¬c=0:=fun e=>by subst e;simp[byteAt_N,byteN] at hb
     rw[leastF,if_neg hc]
   refine⟨by omega, .inl ?_⟩
   rw[←h2,hb2]
   simp only[bnA,reduceLeDiff,↓reduceIte]
theorem least_fn (J:Inv) (l:List UInt8) (hl:l.length≤140737488355328):Fn Tryz.prog J 53 true [.by l] (.by (leastF l)):=by
 refine Fn.of_H (least_own J l hl) ?_ ?_ ?_ ?_ ?_
 ·simp only[bnA,↓reduceIte]
 ·exact fun p hp=>by simp[fz,fz1,Hpk,Hroot] at hp
 ·simp only[bnA]
 ·simp only[bnA]
 ·simp only[bnA,scH,scO]
def uintF (t:Tlv):List UInt8×Bool:=if t.tag=2∧t.kids=0∧rightF 2 t.data=true∧byteAt t.data 0<128 then (leastF t.data,true) else ([],false)
def oidS:List UInt8→List (List UInt8)→Nat→Option (List (List UInt8))
 |[],out,_=>some out
 |c::r,out,n=>
  if 2147483727<n*128+c.toNat%128 then none
  else if 128≤c.toNat then oidS r out (n*128+c.toNat%128)
  else if out.length=0 then
   if 2147483647<n*128+c.toNat%128-40*min ((n*128+c.toNat%128)/40) 2 then none
   else oidS r [Lib.itoa (min ((n*128+c.toNat%128)/40) 2:Nat),Lib.itoa (n*128+c.toNat%128-40*min ((n*128+c.toNat%128)/40) 2:Nat)] 0
  else if 2147483647<n*128+c.toNat%128 then none
  else oidS r (out++[Lib.itoa (n*128+c.toNat%128:Nat)]) 0
def oidF (t:Tlv):List UInt8×Bool:=
 if t.tag=6∧t.kids=0∧rightF 6 t.data=true then match oidS t.data [] 0 with
  |some l=>(Lib.join l [46],true)
  |none=>([],false)
 else ([],false)
def spl (c:UInt8):List UInt8→List (List UInt8)
 |[]=>[[]]
 |b::l=>if b=c then []::spl c l else match spl c l with
  |h::t=>(b::h)::t
  |[]=>[[b]]
theorem spl_ne (c:UInt8) (l:List UInt8):spl c l≠[]:=by
 cases l with
 |nil=>simp[spl]
 |cons b r=>
  unfold spl
  split
  ·simp
  split<;>simp
theorem index_one (b c:UInt8) (l:List UInt8):Lib.index (b::l) [c]=if b=c then 0 else if Lib.index l [c]= -1 then-1 else Lib.index l [c]+1:=by
 rw[Lib.index]
 by_cases h:b=c
 ·subst h;simp[List.isPrefixOf]
 ·have hp:([c]:List UInt8).isPrefixOf (b::l)=false:=by simp[List.isPrefixOf,Ne.symm h]
  rw[hp,if_neg h]
  simp
theorem splitK_cons {b c:UInt8} (h:b≠c) (k:Nat) (l:List UInt8): ∃x r,Lib.splitK [c] 0 k l=x::r∧Lib.splitK [c] 0 k (b::l)=(b::x)::r:=by
 cases k with
 |zero=>exact⟨l,[],rfl,rfl⟩
 |succ k=>
  have hx:=index_one b c l
  rw[if_neg h] at hx
  by_cases hm:Lib.index l [c]= -1
  ·rw[if_pos hm] at hx
   exact⟨l,[],by rw[Lib.splitK,hm];rfl,by rw[Lib.splitK,hx];rfl⟩
  ·have hge:=Lib.index_ge l [c]
   obtain⟨j,hj⟩: ∃j:Nat,Lib.index l [c]=j:=⟨(Lib.index l [c]).toNat,by omega⟩
   rw[if_neg hm,hj] at hx
   refine⟨l.take j,Lib.splitK [c] 0 k (l.drop (j+1)),?_,?_⟩
   ·rw[Lib.splitK,hj,if_neg (by simp)];simp
   ·rw[Lib.splitK,hx,if_neg (by simp;omega)]
    have e:((j:Int)+1).toNat=j+1:=by omega
    simp[e]
theorem splitK_spl (c:UInt8): ∀l:List UInt8,Lib.splitK [c] 0 (l.count c) l=spl c l
 |[]=>rfl
 |b::l=>by
  by_cases h:b=c
  ·subst h
   rw[List.count_cons_self,Lib.splitK,index_one,if_pos rfl,spl,if_pos rfl,←splitK_spl b l]
   simp
  ·obtain⟨x,r,e1,e2⟩:=splitK_cons h (l.count c) l
   rw[List.count_cons_of_ne (by simpa using h),e2,spl,if_neg h,←splitK_spl c l,e1]
theorem splitB_spl (c:UInt8) (s:ByteArray):(Lib.splitB ⟨#[c]⟩ 0 (Lib.countB s ⟨#[c]⟩) s).map (·.data.toList)=spl c s.data.toList:=by
 rw[Lib.splitB_data,←splitK_spl]
 congr 1
 exact Lib.count_one c _
theorem spl_len (c:UInt8): ∀l:List UInt8,(spl c l).length=l.count c+1
 |[]=>rfl
 |b::l=>by
  have ih:=spl_len c l
  unfold spl
  by_cases h:b=c
  ·subst h;rw[if_pos rfl,List.count_cons_self,List.length_cons,ih]
  ·rw[if_neg h,List.count_cons_of_ne (by simpa using h),←ih]
   split
   ·rename_i e;rw[e];rfl
   ·rename_i e;exact absurd e (spl_ne c l)
theorem spl_le (c:UInt8): ∀(l:List UInt8),∀x∈spl c l,x.length≤l.length
 |[],x,hx=>by simp[spl] at hx;subst hx;simp
 |b::l,x,hx=>by
  have ih:=spl_le c l
  rw[spl] at hx
  split at hx
  ·rcases List.mem_cons.1 hx with rfl|hx
   ·simp
   ·have:=ih x hx;simp;omega
  ·split at hx
   ·rename_i a r e
    rw[e] at ih
    rcases List.mem_cons.1 hx with rfl|hx
    ·have:=ih a (List.mem_cons_self ..);simp;omega
    ·have:=ih x (List.mem_cons_of_mem _ hx);simp;omega
   ·rename_i e;exact absurd e (spl_ne c l)
theorem byteAt_cons (c:UInt8) (r:List UInt8):byteAt (c::r) 0=(c.toNat:Int):=rfl
theorem byteAt_cons1 (c d:UInt8) (r:List UInt8):byteAt (c::d::r) 1=(d.toNat:Int):=rfl
theorem leastF_head: ∀l:List UInt8,leastF l=[]∨ ∃c r,leastF l=c::r∧c≠0∧leastF (c::r)=c::r
 |[]=> .inl rfl
 |c::r=>by
  by_cases h:c=0
  ·rw[leastF,if_pos h];exact leastF_head r
  ·rw[leastF,if_neg h];exact .inr ⟨c,r,rfl,h,by rw[leastF,if_neg h]⟩
def ofuD (b:List UInt8):List UInt8:=if (leastF b).length=0∨128≤byteAt (leastF b) 0 then u8 0::leastF b else leastF b
theorem ne0 {c:UInt8} (h:c≠0):c.toNat≠0:=fun e=>h (UInt8.toNat_inj.1 (by rw[e];rfl))
def hiF (n:Nat):List UInt8:=if _h:n=0 then [] else hiF (n/128)++[u8 ((128+n%128:Nat):Int)]
termination_by n
decreasing_by omega
def grpF (n:Nat):List UInt8:=hiF (n/128)++[u8 ((n%128:Nat):Int)]
theorem hiF_zero:hiF 0=[]:=by rw[hiF,dif_pos rfl]
theorem hiF_pos {n:Nat} (h:n≠0):hiF n=hiF (n/128)++[u8 ((128+n%128:Nat):Int)]:=by rw[hiF,dif_neg h]
theorem u8_nat {n:Nat} (h:n<256):(u8 (n:Int)).toNat=n:=by
 have:=u8_toNat (n:Int) (by omega) (by omega)
 omega
theorem grpF_ne (m:Nat):0<(grpF m).length:=by unfold grpF;simp
theorem dec_digits: ∀n:Nat,∀b∈Lib.decDigits n,48≤b.toNat∧b.toNat≤57:=by
 intro n
 induction n using Nat.strongRecOn with
 |_ n ih=>
  intro b hb
  rw[Lib.decDigits] at hb
  split at hb
  ·obtain rfl:=List.mem_singleton.1 hb
   rw[UInt8.toNat_ofNat'];omega
  ·rcases List.mem_append.1 hb with h|h
   ·exact ih (n/10) (by omega) b h
   ·obtain rfl:=List.mem_singleton.1 h
    rw[UInt8.toNat_ofNat'];omega
theorem dec_ne (n:Nat):Lib.decDigits n≠[]:=by
 rw[Lib.decDigits];split<;>simp
theorem parse_snoc (c:UInt8) (h48:48≤c.toNat) (h57:c.toNat≤57): ∀(l:List UInt8) (a u:Nat),Lib.parseUint10 a l= .ok u→u<1000000000000→Lib.parseUint10 a (l++[c])= .ok (u*10+(c.toNat-48))
 |[],a,u,h,hu=>by
  simp only[Lib.parseUint10] at h
  injection h with h
  subst h
  rw[List.nil_append,Lib.parseUint10,if_pos ⟨h48,h57⟩,if_neg (by omega),if_neg (by omega)]
  rfl
 |b::r,a,u,h,hu=>by
  rw[Lib.parseUint10] at h
  rw[List.cons_append,Lib.parseUint10]
  split at h
  ·rename_i hd
   rw[if_pos hd]
   split at h
   ·cases h
   ·rename_i h1
    rw[if_neg h1]
    split at h
    ·cases h
    ·rename_i h2
     rw[if_neg h2]
     exact parse_snoc c h48 h57 r _ u h hu
  ·cases h
theorem parse_dec: ∀n:Nat,n<1000000000000→Lib.parseUint10 0 (Lib.decDigits n)= .ok n:=by
 intro n
 induction n using Nat.strongRecOn with
 |_ n ih=>
  intro hn
  rw[Lib.decDigits]
  split
  ·rename_i h
   rw[Lib.parseUint10]
   have e:(UInt8.ofNat (48+n)).toNat=48+n:=by rw[UInt8.toNat_ofNat'];omega
   rw[e,if_pos (by omega),if_neg (by omega),if_neg (by omega),Lib.parseUint10]
   congr 1;omega
  ·rename_i h
   have e:(UInt8.ofNat (48+n%10)).toNat=48+n%10:=by rw[UInt8.toNat_ofNat'];omega
   rw[parse_snoc _ (by rw[e];omega) (by rw[e];omega) _ 0 (n/10) (ih (n/10) (by omega) (by omega)) (by omega),e]
   congr 1;omega
theorem atoi_dec (n:Nat) (h:n<1000000000000):Lib.atoiAll (Lib.decDigits n)= .ok (n:Int):=by
 have hp:=parse_dec n h
 cases hd:Lib.decDigits n with
 |nil=>exact absurd hd (dec_ne n)
 |cons c r=>
  have hc:=dec_digits n c (by rw[hd];simp)
  rw[hd] at hp
  unfold Lib.atoiAll
  simp only
  rw[if_neg (by omega)]
  unfold Lib.parseMag
  rw[if_neg (by simp),hp]
  simp only
  rw[if_neg (by omega),if_neg (by omega),if_neg (by omega)]
def numV (p:List UInt8):Int:=match Lib.atoiAll p with
 | .ok v=>v
 | .range=>Lib.atoiSat p
 |_=>0
def numOk (p:List UInt8):Bool:=match Lib.atoiAll p with
 | .ok v=>decide (0≤v)&&decide (v≤2147483647)&&(Lib.itoa v==p)
 |_=>false
theorem num_itoa {n:Nat} (h:n≤2147483647):numOk (Lib.itoa n)=true∧numV (Lib.itoa n)=n:=by
 have e:=atoi_dec n (by omega)
 rw[←Lib.itoa_nonneg] at e
 unfold numOk numV
 rw[e]
 simp only
 have:(n:Int)≤2147483647:=by omega
 simp[this]
theorem num_of {p:List UInt8} (h:numOk p=true): ∃n:Nat,n≤2147483647∧p=Lib.itoa n∧numV p=n:=by
 unfold numOk at h
 unfold numV
 split at h
 ·rename_i v hv
  rw[hv]
  simp only[Bool.and_eq_true,decide_eq_true_eq,beq_iff_eq] at h
  obtain⟨⟨h1,h2⟩,h3⟩:=h
  refine⟨v.toNat,by omega,?_,by simp only;omega⟩
  rw[Int.toNat_of_nonneg h1];exact h3.symm
 ·cases h
def ooF (l:List (List UInt8)):Option (List UInt8):=
 match l with
 |a::b::r=>if (a::b::r).all numOk=true∧numV a≤2∧(numV a<2→numV b≤39) then some (grpF (40*numV a+numV b).toNat++r.flatMap fun p=>grpF (numV p).toNat) else none
 |_=>none
theorem join_cons2 (x y:List UInt8) (r:List (List UInt8)) (c:UInt8):Lib.join (x::y::r) [c]=x++c::Lib.join (y::r) [c]:=by
 rw[Lib.join_cons,Lib.join_cons];simp[Lib.joinTail]
theorem join_spl (c:UInt8): ∀l:List UInt8,Lib.join (spl c l) [c]=l
 |[]=>by simp[spl,Lib.join_one]
 |b::r=>by
  have ih:=join_spl c r
  rw[spl]
  cases hs:spl c r with
  |nil=>exact absurd hs (spl_ne c r)
  |cons x t=>
   rw[hs] at ih
   split
   ·rename_i h
    subst h
    rw[join_cons2,ih];rfl
   ·simp only
    cases t with
    |nil=>rw[Lib.join_one] at ih⊢;rw[ih]
    |cons y t=>rw[join_cons2] at ih⊢;rw[←ih];rfl
theorem cell_same {w w':World} {b:Nat} (e:w'.heap[b]?=w.heap[b]?) (o:Nat):w'.cell? ⟨b,o,none⟩=w.cell? ⟨b,o,none⟩:=by
 simp only[World.cell?,e]
def ErrAt (w:World) (g:Nat):Prop:= ∃ev,w.cell? ⟨g,0,none⟩=some ev∧(ev= .nilIface∨ ∃te pe,ev= .iface te pe)
noncomputable def JV:Inv where
 I:=fun w F=>JD.I w F∧(∃m,w.cell? ⟨1,0,none⟩=some (.int .i64 m))∧ErrAt w 5∧ErrAt w 6∧7≤w.heap.size∧ ∀g,g<7→ ¬F g
 out:=fun{w w' F F'} h hs hb hF=>by
  obtain⟨h0,⟨m,h1⟩,⟨e2,h2,k2⟩,⟨e3,h3,k3⟩,h4,h5⟩:=h
  have e: ∀g,g<7→w'.heap[g]?=w.heap[g]?:=fun g hg=>hb g (by omega) (h5 g hg)
  exact⟨JD.out h0 hs hb hF,⟨m,(cell_same (e _ (by decide)) _).trans h1⟩,⟨e2,(cell_same (e _ (by decide)) _).trans h2,k2⟩,⟨e3,(cell_same (e _ (by decide)) _).trans h3,k3⟩,by omega,fun g hg hf=>(hF g hf).elim (h5 g hg) fun h=>by omega⟩
 gl:=⟨fun _=>none,none,fun _ _ _=>none⟩
 lkOk:=fun _ _ _ _ _ h=>by cases h
 glOk:=fun _ _ h=>by cases h
theorem Fn.weak {P:Program} {J J':Inv} {f:FuncId} {fr:Bool} {args:List V} {res:V} (h:Fn P J f fr args res) (hJ: ∀w F,J'.I w F→J.I w F):Fn P J' f fr args res:=
 ⟨h.1,fun w F vs hI=>h.2 w F vs (hJ w F hI)⟩
theorem toJV {f:FuncId} {fr:Bool} {args:List V} {res:V} (h:Fn Tryz.prog JD f fr args res):Fn Tryz.prog JV f fr args res:=h.weak fun _ _ h=>h.1
theorem mk_size (l:List UInt8):(⟨l.toArray⟩:ByteArray).size=l.length:=by simp[ByteArray.size]
def errV (p:List UInt8):V:=match Lib.atoiAll p with
 | .ok _=> .val .nilIface
 |_=> .nn
theorem atoi_fn (p:List UInt8) (h:p.length≤1073741824):Fn Tryz.prog JV 167 false [.str p] (.tu [.val (.int .i64 (numV p)),errV p]):=by
 refine⟨⟨_,Tryz.func167,by kernel_rfl,by kernel_rfl⟩,fun w F vs hI hF hlen hvs=> ?_⟩
 obtain⟨x,rfl⟩: ∃x,vs=[x]:=List.length_eq_one_iff.1 hlen
 obtain rfl:=rep_str (hvs 0 _ x rfl rfl)
 obtain⟨-, -,⟨e2,h2,k2⟩,⟨e3,h3,k3⟩, -⟩:=hI
 have two: ∀(w':World) (n:Int) (v:V) (y:Value),Rep w' (.bare fun b=>F b∨(false=true∧b<w.heap.size)) v y→Rep w' (.bare fun b=>F b∨(false=true∧b<w.heap.size)) (.tu [.val (.int .i64 n),v]) (.tuple #[.int .i64 n,y]):=fun w' n v y hv=>by
  refine .tu _ _ (fun j=>if j=0 then .int .i64 n else y) rfl (fun j hj=> ?_) (fun j hj=> ?_)
  ·have:j=0∨j=1:=by simp at hj;omega
   rcases this with rfl|rfl<;>rfl
  ·have:j=0∨j=1:=by simp at hj;omega
   rcases this with rfl|rfl
   ·exact .val _
   ·exact hv
 unfold numV errV
 cases hc:Lib.atoiAll p
 ·rename_i v
  refine(Tryz.strconv_Atoi_ok ⟨p.toArray⟩ (by rw[mk_size];omega) v hc w).mono fun e w' ⟨he,hw⟩=> ?_
  subst he
  refine⟨_,rfl,?_,two _ _ _ _ (.val _)⟩
  rcases hw with rfl|⟨t,rfl⟩
  ·exact Ext.refl _
  ·exact Lib.bytesWorld_below _ _ _
 ·refine(Tryz.strconv_Atoi_syntax ⟨p.toArray⟩ (by rw[mk_size];omega) hc e2 w h2 k2).mono fun e w' ⟨N,he,_,_,hb⟩=> ?_
  subst he
  exact⟨_,rfl,hb,two _ _ _ _ (.nn _ _)⟩
 ·refine(Tryz.strconv_Atoi_range ⟨p.toArray⟩ (by rw[mk_size];omega) hc e3 w h3 k3).mono fun e w' ⟨N,he,_,_,hb⟩=> ?_
  subst he
  exact⟨_,rfl,hb,two _ _ _ _ (.nn _ _)⟩
theorem split_fn (s:List UInt8) (h:s.length≤1073741824):Fn Tryz.prog JV 103 false [.str s, .str [46]] (.sq 1 (.str []) (strs (spl 46 s))):=by
 refine⟨⟨_,Tryz.func103,by kernel_rfl,by kernel_rfl⟩,fun w F vs hI hF hlen hvs=> ?_⟩
 obtain⟨x,y,rfl⟩: ∃x y,vs=[x,y]:=by
  match vs,hlen with
  |[x,y],_=>exact⟨x,y,rfl⟩
 obtain rfl:=rep_str (hvs 0 _ x rfl rfl)
 obtain rfl:=rep_str (hvs 1 _ y rfl rfl)
 obtain⟨_,⟨m,hm⟩,_⟩:=hI
 refine(Tryz.strings_Split ⟨s.toArray⟩ ⟨#[46]⟩ m w (by rw[mk_size];omega) hm (by decide)).mono fun e w' he=> ?_
 obtain⟨rfl,rfl⟩:=he
 have hsp:=splitB_spl 46 ⟨s.toArray⟩
 have hc:Lib.countB ⟨s.toArray⟩ ⟨#[46]⟩+1=(spl 46 s).length:=by
  rw[spl_len];congr 1;exact Lib.count_one 46 s
 generalize Lib.splitB ⟨#[46]⟩ 0 (Lib.countB ⟨s.toArray⟩ ⟨#[46]⟩) ⟨s.toArray⟩=L at hsp⊢
 rw[hc]
 have hL:L.length=(spl 46 s).length:=by rw[show spl 46 s=L.map (·.data.toList) from hsp.symm];simp
 have hget: ∀i,i<(spl 46 s).length→(L.map Value.string).toArray[i]?=some (.string ⟨((spl 46 s).getD i []).toArray⟩):=by
  intro i hi
  rw[show spl 46 s=L.map (·.data.toList) from hsp.symm]
  rw[List.getD_eq_getElem?_getD,List.getElem?_toArray,List.getElem?_map,List.getElem?_map,List.getElem?_eq_getElem (by omega)]
  rfl
 refine⟨_,rfl,(Below.refl _ w).alloc (Nat.le_refl _) _, .sl _ 1 (spl 46 s).length (fun i=>(strs (spl 46 s)).getD i (.str [])) _ _ w.heap.size 0 (fun i _=> .string ⟨((spl 46 s).getD i []).toArray⟩) (by simp[V.elems,strs_len]) (Nat.le_refl _) (fun _=>⟨rfl,by simp,fun hf=> ?_⟩) (fun i hi j hj=> ?_) (fun i hi j hj=> ?_)⟩
 ·rcases hf with hf|⟨hf,_⟩
  ·exact absurd (hF _ hf) (by omega)
  ·cases hf
 ·obtain rfl:j=0:=by omega
  refine⟨?_,rfl⟩
  rw[World.cell?_alloc_new]
  rw[show 0+(i*1+0)=i from by omega]
  exact hget i hi
 ·rw[strs_get]
  exact .str _
end Go.Proofs.YtfengpdaocgcnaaGreatDoor
