/- The reference's numbers: quotients and rests. The reference's curves and keys: plain laws. The reference's curves: numbers out of letters. -/
import Derived.Test.YtfengpdaocgcnaaGreatDoorT43
namespace Go.Proofs.YtfengpdaocgcnaaGreatDoor
open Nat (reduceMul reduceLeDiff reduceEqDiff reduceLT reduceAdd reduceSub reduceDiv)
open Int (reduceToNat reducePow)
open Go.RowKit
set_option linter.unusedSimpArgs false
set_option maxRecDepth 100000
def RLef:FuncId→List V→CR:=fun f args=>tab [(122,cW fun l=>cI .i64 fun n=>cF [0≤n,n<4294967296,W32 l] false (.bb (tb (vl l) n.toNat))),
 (111,cW fun a=>cW fun b=>cF [a.length≤67108864,b.length≤67108864,W32 a,W32 b] false (.i (cmp3 (vl a) (vl b))))] RLdf f args
def RLe (J:Inv):Sig:=⟨J,sdf,RLef,noH,0⟩
theorem RLe_ok (J:Inv):SigOk Tryz.prog (RLe J):= .plain (tab_ok (.c (.w fun l=> .i fun n=> .z fun⟨c0,_,c2,_⟩=>(by have h:=bit7_fn J l n.toNat (by omega) c2;rwa [show V.i (n.toNat:Int)= .val (.int .i64 n) by unfold V.i;rw[Int.toNat_of_nonneg c0]] at h))<|
 .c (.w fun a=> .w fun b=> .z fun⟨c0,c1,c2,c3,_⟩=>cmp7_fn J a b c0 c1 c2 c3)<| .n) (RLd_ok J).1)
theorem tb_nat (n i:Nat):n/2^i%2=if tb n i=true then 1 else 0:=by
 unfold tb
 have:=Nat.mod_lt (n/2^i) (show 0<2 by omega)
 generalize n/2^i%2=u at *
 rcases(show u=0∨u=1 by omega) with rfl|rfl<;>rfl
theorem dbl_32 {u c:Nat} (hc:c≤1):w32 (bt .or .u32 (wr .u32 ((u:Int)*2)) (c:Int))=(c+2*u)%4294967296:=by
 rw[show(u:Int)*2=((2*u:Nat):Int) by omega,wr32m,bt_eq,bits_or32 (by omega) (by omega),dbl_or hc,w32_nat]
 omega
theorem dbl_at (L:List Nat) (c k:Nat):(2*vl L+c)/4294967296^k%4294967296=(cyD L c k+2*L.getD k 0)%4294967296:=by
 have h:=vl_split L (k+1)
 have e:2*vl L+c=(2*vl (L.take (k+1))+c)+4294967296^k*(4294967296*(2*vl (L.drop (k+1)))):=by
  rw[h,Nat.pow_succ,Nat.mul_add,Nat.mul_assoc,Nat.mul_left_comm 2,Nat.mul_left_comm 2]
  omega
 rw[e,Nat.add_mul_div_left _ _ (Nat.pow_pos (by omega)),dbl_sum,Nat.add_mul_mod_self_left]
theorem or_set {n X j:Nat} (hqn:j/32<n):(fw n (X*2^(j+1))).set (j/32) (w32 (bt .or .u32 (((fw n (X*2^(j+1))).getD (j/32) 0:Nat):Int) (wr .u32 (1*2^if j%32≤32 then j%32 else 32))))=fw n ((2*X+1)*2^j):=by
 have hs2:2^(j%32)<4294967296:=Nat.pow_lt_pow_right (a:=2) (n:=32) (by omega) (by omega)
 have hg:=W32.get (fw_w n (X*2^(j+1))) (j/32)
 have hlt:(fw n (X*2^(j+1))).getD (j/32) 0|||2^(j%32)<4294967296:=Nat.or_lt_two_pow (n:=32) hg hs2
 have hc:(1:Int)*2^(j%32)=((2^(j%32):Nat):Int):=by rw[Int.one_mul];push_cast;rfl
 rw[if_pos (by omega),hc,wr32n hs2,bt_eq,bits_or32 hg hs2,w32_nat,Nat.mod_eq_of_lt hlt]
 exact q_word hqn
set_option maxHeartbeats 1000000 in
theorem divide7_fn (J:Inv) (a d:List Nat) (ha:a.length≤1048576) (hd:d.length≤1048576) (wa:W32 a) (wd:W32 d) (h0:vl d≠0):Fn Tryz.prog J 118 false [wV a,wV d] (.tu [wV (dg (vl a/vl d)),wV (dg (vl a%vl d))]):=by
 refine fnI Tryz.func118 rfl (by kernel_rfl) (by simp[V.cl,clL,wV,wds_cl]) (RLe_ok J) ?_
 unfold Tryz.f118
 have t1:(((dg (vl d)).length:Int)+1).toNat=(dg (vl d)).length+1:=by omega
 simp only[↓bE,bQ,reduceEqDiff,reduceAdd,↓reduceIte,reduceCtorEq,RLe,RLef,RLdf,t1]
 have la:=trim_len a
 have ld:=trim_len d
 rw[trim_dg wa] at la
 rw[trim_dg wd] at ld
 have hAlt:=dg_hi (vl a)
 have hDlt:=dg_hi (vl d)
 refine⟨by omega,wa,by omega,wd,by omega,by omega,by omega,by constructor<;>omega,by omega,by omega,by omega,by constructor<;>omega,by constructor<;>omega,?_⟩
 generalize vl a=A at *
 generalize vl d=D at *
 generalize hn:(dg A).length=n at *
 generalize hm:(dg D).length=m at *
 refine LoopC.intro (α:=Nat) (fun k=>k≤32*n) (fun k=>⟨[(0,wV (dg A)),(1,wV (dg D)),(6, .ro (.r 0)),(7, .ro (.r 1)),(8, .i ((k:Int)-1))],[(0, .row 156 (wV (fw n (A/2^k/D*2^k)))),(1, .row 156 (wV (fw (m+1) (A/2^k%D))))],2⟩) (fun k=>k) (32*n) (Nat.le_refl _) ?_ ?_
 ·have e:A/2^(32*n)=0:=by rw[←B_pow];exact Nat.div_eq_of_lt hAlt
  simp only[bQ,reduceLeDiff,reduceEqDiff,↓reduceIte,reduceCtorEq,e,Nat.zero_div,Nat.zero_mod,Nat.zero_mul,fw_zero]
  omega
 ·intro k hk
  cases k with
  |zero=>
   simp only[↓bE,bQ,reduceLeDiff,reduceEqDiff,reduceAdd,↓reduceIte,reduceCtorEq,RLef,RLdf,fw_len]
   refine⟨fun h=>absurd h (by simp),fun _=> ?_⟩
   have hq1:A/2^0/D*2^0=A/D:=by rw[Nat.pow_zero,Nat.div_one,Nat.mul_one]
   have hr1:A/2^0%D=A%D:=by rw[Nat.pow_zero,Nat.div_one]
   rw[hq1,hr1]
   have hq2:A/D<4294967296^n:=Nat.lt_of_le_of_lt (Nat.div_le_self _ _) hAlt
   have hr2:A%D<4294967296^(m+1):=by
    have:=Nat.mod_lt A (show 0<D by omega)
    rw[Nat.pow_succ]
    omega
   rw[fw_vl,fw_vl,Nat.mod_eq_of_lt hq2,Nat.mod_eq_of_lt hr2]
   exact⟨by omega,fw_w _ _,by omega,fw_w _ _,rfl,rfl⟩
  |succ j=>
   have hD:0<D:=by omega
   have u1:(((j+1:Nat):Int)-1)=(j:Int):=by omega
   have hb2:=bit_step A j
   have hRlt:=Nat.mod_lt (A/2^(j+1)) hD
   rw[tb_nat] at hb2
   have hqn:j/32<n:=by omega
   simp only[↓bE,bQ,reduceLeDiff,reduceEqDiff,reduceAdd,↓reduceIte,reduceCtorEq,RLef,RLdf,fw_len,u1]
   refine⟨fun _=>⟨by omega,by omega,fun hb=> ?_,fun hb=> ?_⟩,fun h=>absurd h (by simp)⟩
   case' refine_1=>
    obtain⟨c,hc⟩: ∃c,c=1:=⟨_,rfl⟩
    rw[hb,show(if true=true then 1 else 0)=c from hc.symm] at hb2
   case' refine_2=>
    obtain⟨c,hc⟩: ∃c,c=0:=⟨_,rfl⟩
    rw[hb,show(if false=true then 1 else 0)=c from hc.symm] at hb2
   all_goals
    have hc1:c≤1:=by omega
    have hds:=div_step (D:=D) (b:=c) (X:=2*(A/2^(j+1)%D)+c) rfl rfl rfl
    rw[←hb2] at hds
    generalize hR:A/2^(j+1)%D=R at hds hRlt⊢
    have hPm:4294967296^(m+1)=4294967296^m*4294967296:=Nat.pow_succ ..
    have hXlt:2*R+c<4294967296^(m+1):=by omega
    have hRB:R<4294967296^(m+1):=by omega
    have hX2:2*R+c<2*D:=by omega
    have hLv:vl (fw (m+1) R)=R:=by rw[fw_vl,Nat.mod_eq_of_lt hRB]
    have hLl:(fw (m+1) R).length=m+1:=fw_len _ _
    have hLw:W32 (fw (m+1) R):=fw_w _ _
    generalize hX:2*R+c=X at hds hXlt hX2
    have hat:=fun k=>dbl_at (fw (m+1) R) c k
    simp only[hLv,hX] at hat
    generalize fw (m+1) R=L at hLv hLl hLw hat⊢
    refine LoopC.intro (α:=Nat) (fun k=>k≤m+1) (fun k=>⟨[(0,wV (dg A)),(1,wV (dg D)),(6, .ro (.r 0)),(7, .ro (.r 1)),(8, .i j),(9, .val (.int .u32 ((cyD L c k:Nat):Int))),(10, .i k)],[(0, .row 156 (wV (fw n (A/2^(j+1)/D*2^(j+1))))),(1, .row 156 (wV (fw k X++L.drop k)))],2⟩) (fun k=>m+1-k) 0 (Nat.zero_le _) ?_ ?_
    ·simp only[bQ,reduceLeDiff,reduceEqDiff,↓reduceIte,reduceCtorEq,cyD_zero,fw]
     omega
    ·intro k hk2
     obtain⟨hl1,hl2⟩:=fw_drop_get (v:=X) hk2 hLl
     have hl2:=hl2 k (Nat.le_refl _)
     simp only[↓bE,bQ,reduceLeDiff,reduceEqDiff,reduceLT,↓reduceIte,reduceCtorEq,reduceToNat,reducePow,RLef,hl1,hl2]
     refine⟨fun hk3=> ?_,fun hk3=> ?_⟩
     ·have hk3:k<m+1:=by have hk3:=of_decide_eq_true hk3;omega
      have g:=hLw.get k
      have hcy:=cyD_le hLw hc1 k
      have htop:=cyD_top hLw hc1 k
      have hst:=fw_drop_set (l:=L) (i:=k) (v:=X) (x:=(cyD L c k+2*L.getD k 0)%4294967296) (by omega) (hat k).symm
      refine⟨by omega,by omega,hk3,by omega,by omega,by omega,hk3,by omega,by omega,by omega,hk3,by constructor<;>omega,Again.intro (k+1) hk3 (by omega) ?_⟩
      simp only[bQ,reduceLeDiff,reduceEqDiff,↓reduceIte,reduceCtorEq]
      rw[dbl_32 hcy,hst]
      exact⟨⟨by omega,by omega⟩,rfl⟩
     ·have hk3:k=m+1:=by have hk3:=of_decide_eq_false hk3;omega
      subst hk3
      have e1:fw (m+1) X++L.drop (m+1)=fw (m+1) X:=by rw[List.drop_eq_nil_of_le (by omega),List.append_nil]
      have hXv:vl (fw (m+1) X)=X:=by rw[fw_vl,Nat.mod_eq_of_lt hXlt]
      rw[e1,hXv,cmp3_ge]
      refine⟨by omega,by omega,fw_w _ _,fun h=> ?_,fun h=> ?_⟩
      ·have h:=of_decide_eq_true h
       obtain⟨d1,d2⟩:=hds.1 h hX2
       clear hds hat hl1 hl2 e1
       have hMl:(fw (m+1) X).length=m+1:=fw_len _ _
       have hMw:W32 (fw (m+1) X):=fw_w _ _
       generalize fw (m+1) X=M at hXv hMl hMw⊢
       refine LoopC.intro (α:=List Nat×Nat) (fun p=>SubI M (dg D) p.1 p.1.length p.2∧p.1.length≤m+1) (fun p=>⟨[(0,wV (dg A)),(1,wV (dg D)),(6, .ro (.r 0)),(7, .ro (.r 1)),(8, .i j),(12, .val (.int .u64 ((p.2:Nat):Int))),(13, .i p.1.length)],[(0, .row 156 (wV (fw n (A/2^(j+1)/D*2^(j+1))))),(1, .row 156 (wV (p.1++M.drop p.1.length)))],2⟩) (fun p=>m+1-p.1.length) ([],0) ⟨SubI.zero M (dg D),Nat.zero_le _⟩ ?_ ?_
       ·simp only[bQ,reduceLeDiff,reduceEqDiff,↓reduceIte,reduceCtorEq]
        exact⟨rfl,rfl⟩
       ·rintro⟨o,b⟩ ⟨h1,h2⟩
        simp only at h1 h2
        have hpl:=part_len (o:=o) (M:=M) (by omega)
        have hpg:=part_get (o:=o) (M:=M)
        have ps:=fun z (hz:o.length<m+1)=>part_set (o:=o) (M:=M) (by omega) z
        have hc2:=h1.b1
        have g1:=hMw.get o.length
        have g2:=(W32_dg D).get o.length
        have hst2:=h1.step hMw (W32_dg D)
        have e32:((j:Int)/32).toNat=j/32:=by omega
        have em32:(wr .u64 ((j:Int)%32)).toNat=j%32:=by
         rw[show(j:Int)%32=((j%32:Nat):Int) by omega,wr64n (by omega),Int.toNat_natCast]
        simp only[↓bE,bQ,reduceEqDiff,reduceLT,↓reduceIte,reduceCtorEq,RLef,RLdf,fw_len,hpl,hpg,hMl,e32,em32]
        generalize M.getD o.length 0=p at *
        generalize (dg D).getD o.length 0=q at *
        have e1:wr .u64 ((q:Int)+b)=((q+b:Nat):Int):=by rw[←Int.natCast_add];exact wr64n (by omega)
        have e0:wr .u64 (p:Int)=(p:Int):=wr64n (by omega)
        rw[e1,e0]
        have lo: ∀z,(o++[z]).length=o.length+1:=fun z=>by simp
        refine⟨fun hi=> ?_,fun hi=> ?_⟩
        ·have hi:o.length<m+1:=by have hi:=of_decide_eq_true hi;omega
         refine⟨by omega,by omega,by omega,hi,fun h3=> ?_,fun h3=> ?_⟩
         ·have h3:p<q+b:=by have h3:=of_decide_eq_true h3;omega
          rw[show brw p (q+b)=1 from if_pos h3] at hst2
          refine⟨by omega,by omega,hi,by constructor<;>omega,Again.intro (o++[(p+8589934592-q-b)%4294967296],1) ⟨by simp only[lo];exact hst2,by simp only[lo];omega⟩ (by simp only[lo];omega) ?_⟩
          simp only[bQ,reduceLeDiff,reduceEqDiff,↓reduceIte,reduceCtorEq,lo]
          have e2:w32 (wr .u64 (wr .u64 ((p:Int)+4294967296)-((q+b:Nat):Int)))=(p+8589934592-q-b)%4294967296:=by
           rw[wr64 (n:=(p:Int)+4294967296) (by omega) (by omega),show(p:Int)+4294967296-((q+b:Nat):Int)=((p+4294967296-(q+b):Nat):Int) by omega,wr64n (by omega),w32_nat]
           omega
          rw[e2,ps _ hi]
          exact⟨⟨rfl,by omega⟩,rfl⟩
         ·have h3: ¬p<q+b:=by have h3:=of_decide_eq_false h3;omega
          rw[show brw p (q+b)=0 from if_neg h3] at hst2
          refine⟨by omega,by omega,hi,by constructor<;>omega,Again.intro (o++[(p+8589934592-q-b)%4294967296],0) ⟨by simp only[lo];exact hst2,by simp only[lo];omega⟩ (by simp only[lo];omega) ?_⟩
          simp only[bQ,reduceLeDiff,reduceEqDiff,↓reduceIte,reduceCtorEq,lo]
          have e2:w32 (wr .u64 ((p:Int)-((q+b:Nat):Int)))=(p+8589934592-q-b)%4294967296:=by
           rw[show(p:Int)-((q+b:Nat):Int)=((p-(q+b):Nat):Int) by omega,wr64n (by omega),w32_nat]
           omega
          rw[e2,ps _ hi]
          exact⟨⟨rfl,by omega⟩,rfl⟩
        ·have hol:o.length=m+1:=by have hi:=of_decide_eq_false hi;omega
         have ho1:o++M.drop o.length=o:=by rw[List.drop_eq_nil_of_le (by omega),List.append_nil]
         rw[hol,←hMl] at h1
         have hdone:=h1.done hMw (W32_dg D) (by omega) (by rw[vl_dg,hXv];exact h)
         rw[vl_dg,hXv] at hdone
         have hof:=fw_of (X-D) h1.w
         rw[hol] at hof
         have hof:=hof (by rw[hdone,Nat.mod_eq_of_lt (by omega)])
         have hqw:=q_word (X:=A/2^(j+1)/D) hqn
         rw[ho1]
         have em0:0≤wr .u64 ((j:Int)%32):=by rw[show(j:Int)%32=((j%32:Nat):Int) by omega,wr64n (by omega)];omega
         repeat (with_reducible refine And.intro ?_ ?_; · first|omega|(constructor<;>omega))
         refine Again.intro j (by omega) (by omega) ?_
         simp only[bQ,reduceLeDiff,reduceEqDiff,↓reduceIte,reduceCtorEq]
         rw[or_set hqn,d1,d2,hof]
         exact⟨rfl,rfl⟩
      ·have h:=of_decide_eq_false h
       obtain⟨d1,d2⟩:=hds.2 (by omega)
       refine⟨by constructor<;>omega,Again.intro j (by omega) (by omega) ?_⟩
       simp only[bQ,reduceLeDiff,reduceEqDiff,↓reduceIte,reduceCtorEq]
       rw[d1,d2,Nat.pow_succ,Nat.mul_comm (2^j) 2,←Nat.mul_assoc,Nat.mul_comm _ 2]
       exact⟨rfl,rfl⟩
theorem hexN_app (a c:List UInt8):hexN (a++c)=hexN a*16^c.length+hexN c:=by
 suffices h: ∀n,∀c:List UInt8,c.length=n→hexN (a++c)=hexN a*16^n+hexN c from h _ c rfl
 intro n
 induction n with
 |zero=>intro c h;rw[List.length_eq_zero_iff.1 h,List.append_nil];simp[hexN]
 |succ n ih=>
  intro c h
  rcases List.eq_nil_or_concat c with rfl|⟨c,d,rfl⟩
  ·simp at h
  ·rw[List.concat_eq_append] at *
   rw[←List.append_assoc,hexN_snoc,hexN_snoc,ih c (by simpa using h),Nat.pow_succ,Nat.mul_add,←Nat.mul_assoc (hexN a),Nat.mul_comm 16 (hexN a*16^n)]
   omega
def uh (s:List UInt8) (lo k:Nat):Nat:=hexN ((s.drop lo).take k)
theorem uh_zero (s:List UInt8) (lo:Nat):uh s lo 0=0:=by unfold uh;rw[List.take_zero];rfl
theorem uh_step {s:List UInt8} {lo k:Nat} (h:lo+k<s.length):uh s lo (k+1)=16*uh s lo k+hd (s.getD (lo+k) 0).toNat:=by
 unfold uh
 have e2:(s.drop lo).take (k+1)=(s.drop lo).take k++[s.getD (lo+k) 0]:=by
  rw[List.take_succ_eq_append_getElem (by rw[List.length_drop];omega),List.getElem_drop,List.getD_eq_getElem?_getD,List.getElem?_eq_getElem h];rfl
 rw[e2,hexN_snoc]
theorem HexOk.get {s:List UInt8} (h:HexOk s) {i:Nat} (hi:i<s.length):(48≤(s.getD i 0).toNat∧(s.getD i 0).toNat≤57)∨(97≤(s.getD i 0).toNat∧(s.getD i 0).toNat≤102):=by
 rw[List.getD_eq_getElem?_getD,List.getElem?_eq_getElem hi]
 exact h _ (List.getElem_mem hi)
theorem hexN_lt {s:List UInt8} (h:HexOk s):hexN s<16^s.length:=by
 have h1:=hex_aux s 0 fun c hc=>hd_lt h hc
 rw[Nat.zero_add,Nat.one_mul] at h1
 exact h1
theorem HexOk.drop {s:List UInt8} (h:HexOk s) (k:Nat):HexOk (s.drop k):=fun c hc=>h c (List.mem_of_mem_drop hc)
theorem HexOk.take {s:List UInt8} (h:HexOk s) (k:Nat):HexOk (s.take k):=fun c hc=>h c (List.mem_of_mem_take hc)
theorem uh_lt {s:List UInt8} (h:HexOk s) (lo k:Nat):uh s lo k<16^k:=by
 unfold uh
 refine Nat.lt_of_lt_of_le (hexN_lt ((h.drop lo).take k)) (Nat.pow_le_pow_right (by omega) ?_)
 rw[List.length_take]
 omega
theorem uh_join {s:List UInt8} {n t:Nat} (hs:s.length=8*n) (h:t<n):hexN (s.drop (8*n-8*t-8))=uh s (8*n-8*t-8) 8*4294967296^t+hexN (s.drop (8*n-8*t)):=by
 unfold uh
 have e:s.drop (8*n-8*t)=(s.drop (8*n-8*t-8)).drop 8:=by rw[List.drop_drop];congr 1;omega
 have e2:(s.drop (8*n-8*t)).length=8*t:=by rw[List.length_drop];omega
 have h1:=hexN_app ((s.drop (8*n-8*t-8)).take 8) ((s.drop (8*n-8*t-8)).drop 8)
 rw[List.take_append_drop,←e,e2,Nat.pow_mul] at h1
 exact h1
theorem fw_dg {n v:Nat} (h1:v<4294967296^n) (h2:n=0∨4294967296^(n-1)≤v):fw n v=dg v:=by
 have hl:(dg v).length=n:=by
  have h3:=dg_len h1
  rcases h2 with rfl|h2
  ·omega
  ·have h4:=dg_hi v
   rcases Nat.lt_or_ge (dg v).length n with h5|h5
   ·exact absurd (Nat.lt_of_le_of_lt h2 h4) (Nat.not_lt.2 (Nat.pow_le_pow_right (by omega) (by omega)))
   ·omega
 have h3:=fw_of (o:=dg v) v (W32_dg v) (by rw[vl_dg,hl,Nat.mod_eq_of_lt h1])
 rw[h3,hl]
theorem subM_gsub {u v p:Nat} (hv:v<p):subM u v p=gsub u v p:=by
 unfold subM gsub modS
 by_cases h:u<v
 ·rw[decide_eq_true h,if_neg (show ¬v≤u by omega),Nat.mod_eq_of_lt (show u+p-v<p by omega),Nat.mod_eq_of_lt (show v-u<p by omega),if_pos ⟨rfl,by omega⟩]
  omega
 ·rw[decide_eq_false h,if_pos (show v≤u by omega),show u+p-v=u-v+p by omega,Nat.add_mod_right,if_neg (by simp)]
theorem fold_mod (hi lo:Nat):(lo+hi*38)%p25519=(lo+4294967296^8*hi)%p25519:=by
 have e:(4294967296:Nat)^8=p25519*2+38:=by rw[p25519_eq]
 rw[e,Nat.add_mul,Nat.mul_assoc,show lo+(p25519*(2*hi)+38*hi)=lo+hi*38+p25519*(2*hi) by rw[Nat.mul_comm 38];omega,Nat.add_mul_mod_self_left]
theorem fold_eq (v:Nat):(v%4294967296^8+v/4294967296^8*38)%p25519=v%p25519:=by
 rw[fold_mod,Nat.mod_add_div]
theorem fold_lt {v:Nat} (h:4294967296^8≤v):v%4294967296^8+v/4294967296^8*38<v:=by
 have h1:=Nat.mod_add_div v (4294967296^8)
 have h2:0<v/4294967296^8:=Nat.div_pos h (Nat.pow_pos (by omega))
 have h3:=(Nat.mul_lt_mul_right h2).2 (show 38<4294967296^8 by decide)
 rw[Nat.mul_comm 38] at h3
 omega
theorem dg_lo_take (v k:Nat):vl ((dg v).take k)=v%4294967296^k:=by
 have h1:=vl_split (dg v) k
 have h2:=vl_take_lt (W32_dg v) k
 rw[vl_dg] at h1
 conv=>rhs;rw[h1]
 rw[Nat.add_mul_mod_self_left,Nat.mod_eq_of_lt h2]
theorem dg_hi_drop (v k:Nat):vl ((dg v).drop k)=v/4294967296^k:=by
 rw[←vl_div (W32_dg v),vl_dg]
theorem dg_long {v k:Nat} (h:k<(dg v).length):4294967296^k≤v:=by
 have h0:v≠0:=fun e=>by rw[e,dg_zero] at h;exact absurd h (by simp)
 exact Nat.le_trans (Nat.pow_le_pow_right (by omega) (by omega)) (dg_lo h0)
theorem leN_succ {b:List UInt8} {i:Nat} (h:i<b.length):leN (b.take (i+1))=leN (b.take i)+(b.getD i 0).toNat*256^i:=by
 have e2:b.take (i+1)=b.take i++[b.getD i 0]:=by rw[List.take_succ_eq_append_getElem h,List.getD_eq_getElem?_getD,List.getElem?_eq_getElem h];rfl
 have e3:nb [b.getD i 0]=(b.getD i 0).toNat:=by simp[nb]
 unfold leN
 rw[e2,List.reverse_append,nb_app2,List.reverse_singleton,e3,List.length_reverse,List.length_take,Nat.min_eq_left (by omega),Nat.add_comm]
theorem byte_le {n V i c:Nat} (hc:c<256) (hV:V<256^i) (hi:i/4<n):
  (fw n V).set (i/4) ((fw n V).getD (i/4) 0|||c*2^(8*(i%4)))=fw n (V+c*256^i)∧(fw n V).getD (i/4) 0|||c*2^(8*(i%4))<4294967296:=by
 obtain⟨q,r,hr,hq⟩: ∃q r,r<4∧i=4*q+r:=⟨i/4,i%4,Nat.mod_lt _ (by omega),by omega⟩
 have e1:i/4=q:=by omega
 have e2:i%4=r:=by omega
 rw[e1,e2]
 rw[e1] at hi
 have h256:(256:Nat)^r=2^(8*r):=by rw[Nat.pow_mul]
 have hq1:V/4294967296^q<2^(8*r):=by
  refine Nat.div_lt_of_lt_mul ?_
  rw[B_256,←h256,←Nat.pow_add,←hq]
  exact hV
 have hp8:(2:Nat)^(8*r)*256≤2^32:=by
  rw[show(256:Nat)=2^8 from rfl,←Nat.pow_add]
  exact Nat.pow_le_pow_right (by omega) (by omega)
 have hw:(fw n V).getD q 0=V/4294967296^q:=by rw[fw_get _ _ _ hi,Nat.mod_eq_of_lt (by omega)]
 have hc32:c*2^(8*r)+2^(8*r)≤2^32:=by
  have:=Nat.mul_le_mul_right (2^(8*r)) (show c+1≤256 from hc)
  rw[Nat.add_mul,Nat.one_mul] at this
  omega
 have hor:(fw n V).getD q 0|||c*2^(8*r)=(fw n V).getD q 0+c*2^(8*r):=by
  rw[hw,Nat.mul_comm c,or_add hq1]
 have hlt:(fw n V).getD q 0|||c*2^(8*r)<4294967296:=by rw[hor,hw];omega
 refine⟨?_,hlt⟩
 have hs:=vl_set (fw n V) q ((fw n V).getD q 0+c*2^(8*r)) (by rw[fw_len];exact hi)
 have hq2:4294967296^q*(c*2^(8*r))=c*256^i:=by rw[B_256,hq,Nat.pow_add,Nat.mul_left_comm,h256]
 rw[hor] at hlt⊢
 have hW:=(fw_w n V).set (i:=q) hlt
 have hlt2:=vl_lt hW
 have hof:=fw_of (V+c*256^i) hW
 rw[List.length_set,fw_len] at hof hlt2
 refine hof ?_
 refine mod_bit ?_ hlt2
 rw[←fw_vl,←hq2]
 rw[Nat.mul_add] at hs
 omega
def nkA (n:List UInt8):Bool:=decide ((n.length:Int)<256)||decide (512<(n.length:Int))||byteAt n 0==0||byteAt n ((n.length:Int)-1).toNat%2==0
def nkB (n:List UInt8):Bool:=(n.length:Int)==256&&decide (byteAt n 0<128)
def nkC (e:List UInt8):Bool:=decide ((e.length:Int)<1)||decide (4<(e.length:Int))||byteAt e 0==0||byteAt e ((e.length:Int)-1).toNat%2==0
def nkD (e:List UInt8):Bool:=decide (1<(e.length:Int))||decide (3≤byteAt e 0)
def numKy (n e:List UInt8):Bool:= !nkA n&&(!nkB n&&(!nkC e&&nkD e))
theorem nb_cons (c:UInt8) (r:List UInt8):nb (c::r)=c.toNat*256^r.length+nb r:=by
 have h:=nb_app2 [c] r
 rw[show nb [c]=c.toNat by simp[nb]] at h
 exact h
theorem nb_odd {b:List UInt8} (h:0<b.length):byteAt b (b.length-1)%2=((nb b%2:Nat):Int):=by
 rcases List.eq_nil_or_concat b with rfl|⟨c,d,rfl⟩
 ·simp at h
 ·rw[List.concat_eq_append,nb_snoc]
  unfold byteAt
  rw[show(c++[d]).length-1=c.length by simp,List.getD_eq_getElem?_getD,List.getElem?_append_right (Nat.le_refl _),Nat.sub_self]
  show((d.toNat:Nat):Int)%2=_
  omega
theorem nb_bounds {b:List UInt8} (h:byteAt b 0≠0) (h0:0<b.length):(byteAt b 0).toNat*256^(b.length-1)≤nb b∧nb b<((byteAt b 0).toNat+1)*256^(b.length-1)∧256^(b.length-1)≤nb b:=by
 match b with
 |c::r=>
  have e:byteAt (c::r) 0=((c.toNat:Nat):Int):=rfl
  rw[e] at h⊢
  have h1:=nb_lt r
  rw[nb_cons,List.length_cons,Nat.add_sub_cancel,Int.toNat_natCast,Nat.add_mul,Nat.one_mul]
  have h2:=Nat.mul_le_mul_right (256^r.length) (show 1≤c.toNat by omega)
  rw[Nat.one_mul] at h2
  omega
theorem nb_len_le {b:List UInt8} (h:byteAt b 0≠0) (h0:0<b.length) (k:Nat):nb b<256^k↔b.length≤k:=by
 have h3:=(nb_bounds h h0).2.2
 refine⟨fun h1=> ?_,fun h1=>Nat.lt_of_lt_of_le (nb_lt b) (Nat.pow_le_pow_right (by omega) h1)⟩
 have h2:=(Nat.pow_lt_pow_iff_right (show 1<256 by omega)).1 (Nat.lt_of_le_of_lt h3 h1)
 omega
theorem nb_top {b:List UInt8} (h:byteAt b 0≠0) (h0:0<b.length):nb b<128*256^255↔(b.length≤255∨(b.length=256∧byteAt b 0<128)):=by
 obtain⟨h1,h2,h3⟩:=nb_bounds h h0
 have hb:0≤byteAt b 0:=by unfold byteAt;omega
 have hlt:=nb_len_le h h0
 have hP:(256:Nat)^256=256*256^255:=by rw[Nat.pow_succ,Nat.mul_comm]
 have h255:=hlt 255
 have h256:=hlt 256
 rw[hP] at h256
 have hPos:0<(256:Nat)^255:=Nat.pow_pos (by omega)
 by_cases h4:b.length=256
 ·rw[h4,show 256-1=255 from rfl] at h1 h2
  generalize (256:Nat)^255=P at *
  generalize hu:(byteAt b 0).toNat=u at *
  have h5:byteAt b 0=(u:Int):=by omega
  rw[h5]
  refine⟨fun h6=> .inr ⟨h4,?_⟩,fun h6=> ?_⟩
  ·have:=Nat.lt_of_le_of_lt h1 h6
   have:=Nat.lt_of_mul_lt_mul_right this
   omega
  ·have h7:u+1≤128:=by omega
   have:=Nat.mul_le_mul_right P h7
   omega
 ·generalize (256:Nat)^255=P at *
  omega
theorem pow_g1 (b:Nat):(2:Nat)^(7+8*b)=128*256^b:=by rw[Nat.pow_add,Nat.pow_mul]
theorem pow_g2 (b:Nat):(2:Nat)^(8*b)=256^b:=by rw[Nat.pow_mul]
theorem pow_top (k:Nat) (h:k=7+8*255):(2:Nat)^k=128*256^255:=by subst h;exact pow_g1 255
theorem pow_all (k:Nat) (h:k=8*512):(2:Nat)^k=256^512:=by subst h;exact pow_g2 512
theorem numKy_eq (n e:List UInt8):numKy n e=decide (rsC n e=0):=by
 have hr:decide (rsC n e=0)= !(rsA n e||rsB n e):=by unfold rsC;cases (rsA n e||rsB n e)<;>rfl
 rw[hr]
 by_cases n0:n.length=0
 ·unfold numKy nkA nkC rsA
  simp[n0]
 by_cases e0:e.length=0
 ·unfold numKy nkA nkC rsA
  simp[e0]
 by_cases nz:byteAt n 0=0
 ·unfold numKy nkA nkC rsA
  simp[nz]
 by_cases ez:byteAt e 0=0
 ·unfold numKy nkA nkC rsA
  simp[ez]
 have a1:=bl_le_iff (n:=nb n) (k:=2047)
 have a2:=bl_le_iff (n:=nb n) (k:=4096)
 have a3:=nb_top nz (by omega)
 have a4:=nb_len_le nz (by omega) 512
 have a5:=nb_len_le ez (by omega) 4
 have a6:=nb_len_le ez (by omega) 8
 have a7:=nb_odd (b:=n) (by omega)
 have a8:=nb_odd (b:=e) (by omega)
 obtain⟨c1,c2,c3⟩:=nb_bounds ez (by omega)
 have hb:0≤byteAt e 0:=by unfold byteAt;omega
 rw[pow_top 2047 rfl] at a1
 rw[pow_all 4096 rfl] at a2
 rw[←a1] at a3
 rw[←a2] at a4
 clear a1 a2
 rw[show(256:Nat)^4=4294967296 by decide] at a5
 rw[show(256:Nat)^8=18446744073709551616 by decide] at a6
 have d1:e.length=1→(nb e:Int)=byteAt e 0:=fun h=>by
  rw[h,show 1-1=0 from rfl,Nat.pow_zero,Nat.mul_one] at c1
  rw[h,show 1-1=0 from rfl,Nat.pow_zero,Nat.mul_one] at c2
  omega
 have d2:1<e.length→256≤nb e:=fun h=>Nat.le_trans (show 256^1≤256^(e.length-1) from Nat.pow_le_pow_right (by omega) (by omega)) c3
 clear c1 c2 c3
 have hU:rsU e=if nb e<18446744073709551616 then nb e else 0:=rfl
 have t1:((n.length:Int)-1).toNat=n.length-1:=by omega
 have t2:((e.length:Int)-1).toNat=e.length-1:=by omega
 unfold numKy nkA nkB nkC nkD rsA rsB
 rw[t1,t2,hU,a7,a8,Bool.eq_iff_iff]
 generalize nb e=u at *
 generalize bl (nb n)=w at *
 generalize nb n=v at *
 generalize byteAt n 0=x at *
 generalize byteAt e 0=y at *
 simp only[Bool.and_eq_true,Bool.or_eq_true,decide_eq_true_eq,Bool.not_eq_true',beq_eq_false_iff_ne,decide_eq_false_iff_not,Bool.or_eq_false_iff,Bool.and_eq_false_iff,Bool.not_eq_false']
 split<;>omega
def RNaf:FuncId→List V→CR:=fun f args=>tab [(251,cI .u8 fun c=>cF [(48≤c∧c≤57)∨(97≤c∧c≤102)] false (.val (.int .u32 ((hd c.toNat:Nat):Int))))] noF f args
def RNa (J:Inv):Sig:=⟨J,sdf,RNaf,noH,0⟩
theorem RNa_ok (J:Inv):SigOk Tryz.prog (RNa J):= .plain (tab_ok (.c (.i fun c=> .z fun⟨_,_⟩=>(by have h:=digit11_fn J c.toNat (by omega);rwa [Int.toNat_of_nonneg (show 0≤c by omega)] at h))<| .n) noF_ok)
theorem number11_fn (J:Inv) (s:List UInt8) (n:Nat) (hs:s.length=8*n) (hn:n≤100) (hx:HexOk s):Fn Tryz.prog J 217 false [.str s] (wV (fw n (hexN s))):=by
 refine fnI Tryz.func217 rfl (by kernel_rfl) (wV_cl _) (RNa_ok J) ?_
 unfold Tryz.f217
 simp only[bQ,↓reduceIte,reduceCtorEq,RNa,hs]
 refine LoopC.introA (α:=List Nat×Nat) (fun y=>y.1.length≤n∧W32 y.1∧vl y.1=hexN (s.drop (8*n-8*y.1.length))) (fun y=>⟨[(0, .str s),(3, .ro (.r y.2)),(4, .i ((8*n:Nat)-8*y.1.length))],[(y.2, .row 156 (wV y.1))],y.2+1⟩) (fun y=>n-y.1.length) ([],0) [.sl 3 156 (wV [])] ⟨Nat.zero_le _,W32.nil,?_⟩ ?_ ?_
 ·simp only[List.length_nil]
  rw[show 8*n-8*0=s.length by omega,List.drop_length];rfl
 ·simp only[bQ,reduceLeDiff,reduceEqDiff,↓reduceIte,reduceCtorEq]
  omega
 ·rintro⟨o,r⟩ ⟨h1,h2,h3⟩
  simp only at h1 h2 h3
  simp only[bQ,reduceEqDiff,↓reduceIte,reduceCtorEq]
  refine⟨fun h=>⟨by constructor<;>omega,?_⟩,fun h=> ?_⟩
  ·have h4:o.length<n:=by have h:=of_decide_eq_true h;omega
   have hj:=uh_join hs h4
   have hlo:((8*n:Nat):Int)-8*o.length-8=((8*n-8*o.length-8:Nat):Int):=by omega
   rw[hlo]
   obtain⟨lo,hld⟩: ∃lo,lo=8*n-8*o.length-8:=⟨_,rfl⟩
   rw[←hld] at hj⊢
   have hlt:lo+8≤8*n:=by omega
   have hfin:lo+8=8*n-8*o.length:=by omega
   have hl2:8*n-8*(o.length+1)=lo:=by omega
   clear hlo
   refine LoopC.intro (α:=Nat) (fun k=>k≤8) (fun k=>⟨[(0, .str s),(3, .ro (.r r)),(4, .i ((8*n:Nat)-8*o.length)),(5, .val (.int .u32 ((uh s lo k:Nat):Int))),(6, .i ((lo+k:Nat):Int))],[(r, .row 156 (wV o))],r+1⟩) (fun k=>8-k) 0 (Nat.zero_le _) ?_ ?_
   ·simp only[bQ,reduceLeDiff,reduceEqDiff,↓reduceIte,reduceCtorEq,uh_zero]
    omega
   ·intro k h5
    simp only[↓bE,bQ,reduceMul,reduceLeDiff,reduceEqDiff,reduceAdd,↓reduceIte,reduceCtorEq,RNaf,hs]
    refine⟨fun h6=> ?_,fun h6=> ?_⟩
    ·have h6:k<8:=by have h6:=of_decide_eq_true h6;omega
     have h8:=uh_lt hx lo k
     have h9:(16:Nat)^k≤268435456:=Nat.le_trans (Nat.pow_le_pow_right (by omega) (show k≤7 by omega)) (by decide)
     have h10:=uh_step (s:=s) (lo:=lo) (k:=k) (by omega)
     have hg:=hx.get (i:=lo+k) (by omega)
     have h12:hd (s.getD (lo+k) 0).toNat<16:=by unfold hd;split<;>omega
     have e:byteAt s (lo+k)=(((s.getD (lo+k) 0).toNat:Nat):Int):=rfl
     have et:((lo:Int)+k).toNat=lo+k:=by omega
     simp only[e]
     rw[Int.toNat_natCast] at *
     generalize (s.getD (lo+k) 0).toNat=b at *
     refine⟨by omega,by omega,by omega,by constructor<;>omega,Again.intro (k+1) (by omega) (by omega) ?_⟩
     simp only[bQ,reduceLeDiff,reduceEqDiff,↓reduceIte,reduceCtorEq,h10]
     rw[wr32,wr32]
     exact⟨⟨by omega,by omega⟩,Nat.le_refl _⟩
    ·have h6:k=8:=by have h6:=of_decide_eq_false h6;omega
     subst h6
     have hl8:uh s lo 8<4294967296:=uh_lt hx lo 8
     have lo1:(o++[uh s lo 8]).length=o.length+1:=by simp
     have hrow:vl (o++[uh s lo 8])=hexN (s.drop (8*n-8*(o++[uh s lo 8]).length)):=by
      rw[vl_snoc,lo1,hl2,hj,h3,Nat.mul_comm (4294967296^o.length)];omega
     refine⟨by rw[lo1];omega,by constructor<;>omega,Again.intro (o++[uh s lo 8],r+2) ⟨by rw[lo1];omega,h2.app (W32.one (by omega)),hrow⟩ (by simp only[lo1];omega) ?_⟩
     simp only[bQ,reduceLeDiff,reduceEqDiff,reduceAdd,↓reduceIte,reduceCtorEq,lo1]
     exact⟨by omega,Nat.le_refl _⟩
  ·have h:=of_decide_eq_false h
   have hol:o.length=n:=by omega
   have hw:=fw_of (o:=o) (hexN s) h2
   rw[hol] at hw h3
   rw[show 8*n-8*n=0 by omega,List.drop_zero] at h3
   have hlt:=hexN_lt hx
   rw[hs,Nat.pow_mul,show(16:Nat)^8=4294967296 by decide] at hlt
   rw[hw (by rw[h3,Nat.mod_eq_of_lt hlt])]
def crvP (c:Int):Nat:=if c=1 then hexN hp256 else hexN hp384
def crvB (c:Int):Nat:=if c=1 then hexN hb256 else hexN hb384
def RNbf:FuncId→List V→CR:=fun f args=>tab [(217,cS fun t=>cF [t.length=8*(t.length/8),t.length≤800,hexB t=true] false (wV (fw (t.length/8) (hexN t))))] noF f args
def RNb (J:Inv):Sig:=⟨J,sdf,RNbf,noH,0⟩
theorem RNb_ok (J:Inv):SigOk Tryz.prog (RNb J):= .plain (tab_ok (.c (.s fun t=> .z fun⟨c0,_,c2,_⟩=>number11_fn J t (t.length/8) c0 (by omega) (hexB_ok c2))<| .n) noF_ok)
theorem fw_p256:fw 8 (hexN hp256)=dg (hexN hp256):=fw_dg (Nat.le_of_ble_eq_true (by kernel_rfl)) (.inr (Nat.le_of_ble_eq_true (by kernel_rfl)))
theorem fw_b256:fw 8 (hexN hb256)=dg (hexN hb256):=fw_dg (Nat.le_of_ble_eq_true (by kernel_rfl)) (.inr (Nat.le_of_ble_eq_true (by kernel_rfl)))
theorem fw_p384:fw 12 (hexN hp384)=dg (hexN hp384):=fw_dg (Nat.le_of_ble_eq_true (by kernel_rfl)) (.inr (Nat.le_of_ble_eq_true (by kernel_rfl)))
theorem fw_b384:fw 12 (hexN hb384)=dg (hexN hb384):=fw_dg (Nat.le_of_ble_eq_true (by kernel_rfl)) (.inr (Nat.le_of_ble_eq_true (by kernel_rfl)))
theorem field1_fn (J:Inv):Fn Tryz.prog J 171 false [.i 1] (wV (dg (hexN hp256))):=by
 rw[←fw_p256]
 refine fnI Tryz.func171 rfl (by kernel_rfl) (wV_cl _) (RNb_ok J) ?_
 unfold Tryz.f171
 simp only[↓bD,bQ,reduceMul,reduceLeDiff,reduceAdd,↓reduceIte,reduceCtorEq,reduceDiv,RNb,RNbf]
 exact⟨by kernel_rfl,rfl⟩
theorem field2_fn (J:Inv):Fn Tryz.prog J 171 false [.i 2] (wV (dg (hexN hp384))):=by
 rw[←fw_p384]
 refine fnI Tryz.func171 rfl (by kernel_rfl) (wV_cl _) (RNb_ok J) ?_
 unfold Tryz.f171
 simp only[↓bD,bQ,reduceMul,reduceLeDiff,reduceEqDiff,reduceAdd,↓reduceIte,reduceCtorEq,reduceDiv,RNb,RNbf,two_one,List.append_eq]
 exact⟨by kernel_rfl,rfl⟩
theorem b1_fn (J:Inv):Fn Tryz.prog J 175 false [.i 1] (wV (dg (hexN hb256))):=by
 rw[←fw_b256]
 refine fnI Tryz.func175 rfl (by kernel_rfl) (wV_cl _) (RNb_ok J) ?_
 unfold Tryz.f175
 simp only[↓bD,bQ,reduceMul,reduceLeDiff,reduceAdd,↓reduceIte,reduceCtorEq,reduceDiv,RNb,RNbf]
 exact⟨by kernel_rfl,rfl⟩
theorem b2_fn (J:Inv):Fn Tryz.prog J 175 false [.i 2] (wV (dg (hexN hb384))):=by
 rw[←fw_b384]
 refine fnI Tryz.func175 rfl (by kernel_rfl) (wV_cl _) (RNb_ok J) ?_
 unfold Tryz.f175
 simp only[↓bD,bQ,reduceMul,reduceLeDiff,reduceAdd,↓reduceIte,reduceCtorEq,reduceDiv,RNb,RNbf,two_one,List.append_eq]
 exact⟨by kernel_rfl,rfl⟩
def crvS (c:Int):Int:=if c=1 then 32 else if c=2 then 48 else 0
theorem size11_fn (J:Inv) (c:Int):Fn Tryz.prog J 107 false [.val (.int .i64 c)] (.val (.int .i64 (crvS c))):=by
 refine fnI Tryz.func107 rfl (by kernel_rfl) rfl (RNb_ok J) ?_
 unfold Tryz.f107
 unfold crvS
 by_cases h1:c=1
 ·subst h1
  simp only[↓bD,bQ,↓reduceIte,reduceCtorEq,RNb]
  skip
 ·have e1:(c==1)=false:=by rw[beq_eq_false_iff_ne];exact h1
  rw[if_neg h1]
  by_cases h2:c=2
  ·subst h2
   simp only[↓bD,bQ,reduceEqDiff,↓reduceIte,reduceCtorEq,RNb,two_one]
   skip
  ·have e2:(c==2)=false:=by rw[beq_eq_false_iff_ne];exact h2
   rw[if_neg h2]
   simp only[↓bD,bQ,reduceEqDiff,↓reduceIte,reduceCtorEq,RNb,e1,e2]
theorem crv_field_fn (J:Inv) (c:Int) (h:c=1∨c=2):Fn Tryz.prog J 171 false [.i c] (wV (dg (crvP c))):=by
 rcases h with rfl|rfl
 ·exact field1_fn J
 ·exact field2_fn J
theorem crv_b_fn (J:Inv) (c:Int) (h:c=1∨c=2):Fn Tryz.prog J 175 false [.i c] (wV (dg (crvB c))):=by
 rcases h with rfl|rfl
 ·exact b1_fn J
 ·exact b2_fn J
end Go.Proofs.YtfengpdaocgcnaaGreatDoor
