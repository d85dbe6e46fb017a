/- Whole numbers of any size (bignum): the walks of lists of words: cut, compared, added, taken away. The program's products. The program's numbers: shifted down; of bytes; small ones. Shifting up, dividing by one word, comparing word by word. Plain Lean. -/
import Derived.Test.YtfengpdaocgcnaaGreatDoorT19
namespace Go.Proofs.YtfengpdaocgcnaaGreatDoor
open Nat (reduceMul reduceLeDiff reduceEqDiff reduceLT reduceAdd reduceSub reduceDiv)
open Int (reduceToNat reducePow)
open Go.RowKit
set_option linter.unusedSimpArgs false
set_option maxRecDepth 100000
theorem btrim_fn (J:Inv) (l:List Nat) (hl:l.length≤1073741824):Fn Tryz.prog J 204 false [wV l] (wV (trim l)):=by
 refine fnI Tryz.func204 rfl (by kernel_rfl) (wV_cl _) (S0_ok J) ?_
 unfold Tryz.f204
 simp only[bQ,↓reduceIte,reduceCtorEq,S0]
 refine LoopC.intro (α:=Nat) (fun k=>k≤l.length∧trim (l.take k)=trim l) (fun k=>⟨[(0,wV l),(3, .i k)],[],0⟩) (fun k=>k) l.length ⟨Nat.le_refl _,by rw[List.take_length]⟩ ?_ ?_
 ·simp only[bQ,reduceLeDiff,↓reduceIte,reduceCtorEq]
 ·rintro k ⟨h1,h2⟩
  simp only[bQ,reduceEqDiff,reduceLT,↓reduceIte,reduceCtorEq]
  have e:((k:Int)-1).toNat=k-1:=by omega
  rw[e]
  refine⟨fun _=>by constructor<;>omega,fun hb=>by omega,fun _=>by omega,fun hb=> ?_,fun hb=> ?_⟩
  ·simp only[Bool.and_eq_true,decide_eq_true_eq,beq_iff_eq] at hb
   obtain⟨k,rfl⟩: ∃j,k=j+1:=⟨k-1,by omega⟩
   have h3:l.getD k 0=0:=by have:=hb.2;rw[Nat.add_sub_cancel] at this;omega
   refine⟨by constructor<;>omega,Again.intro k ⟨by omega,by rw[←h2,trim_take (by omega) h3]⟩ (by omega) ?_⟩
   simp only[bQ,reduceLeDiff,↓reduceIte,reduceCtorEq]
   omega
  ·refine⟨by omega,by omega,?_⟩
   congr 1
   rw[←h2]
   cases k with
   |zero=>rfl
   |succ k=>
    rw[trim_take_last (by omega)]
    intro h0
    rw[Nat.add_sub_cancel,h0] at hb
    simp at hb
structure Pr (a:List Nat):Prop where
 eq:a=dg (vl a)
 len:a.length≤1048576
theorem Pr.w {a:List Nat} (h:Pr a):W32 a:=by rw[h.eq];exact W32_dg _
theorem Pr.of {n:Nat} (h:(dg n).length≤1048576):Pr (dg n):=⟨by rw[vl_dg],h⟩
theorem Pr.nil:Pr []:=⟨by rw[show vl []=0 from rfl,dg_zero],by simp⟩
def SBtf:FuncId→List V→CR:=fun f args=>tab [(204,cW fun a=>cF [a.length≤1073741824,W32 a] false (wV (dg (vl a))))] noF f args
def SBt (J:Inv):Sig:=⟨J,sdf,SBtf,noH,0⟩
theorem SBt_ok (J:Inv):SigOk Tryz.prog (SBt J):= .plain (tab_ok (.c (.w fun a=> .z fun⟨c0,c1,_⟩=>(by have h:=btrim_fn J a c0;rwa [trim_dg c1] at h))<| .n) noF_ok)
theorem words_pair (n:Nat) (h:n<18446744073709551616):[V.val (.int .u32 (wr .u32 (n:Int))),V.val (.int .u32 (wr .u32 ((n:Int)/4294967296)))]=wds [n%4294967296,n/4294967296]:=by
 rw[wr32m,show(n:Int)/4294967296=((n/4294967296:Nat):Int) by omega,wr32n (by omega)]
 rfl
theorem words_fn (J:Inv) (n:Nat) (h:n<18446744073709551616):Fn Tryz.prog J 152 false [.val (.int .u64 n)] (wV (dg n)):=by
 refine fnI Tryz.func152 rfl (by kernel_rfl) (wV_cl _) (SBt_ok J) ?_
 unfold Tryz.f152
 have e1:=words_pair n h
 have e2:unW [V.val (.int .u32 (wr .u32 (n:Int))),V.val (.int .u32 (wr .u32 ((n:Int)/4294967296)))]=[n%4294967296,n/4294967296]:=by rw[e1,unW_wds]
 simp only[↓bD,bQ,reduceMul,reduceLeDiff,reduceEqDiff,reduceAdd,↓reduceIte,reduceCtorEq,reduceToNat,reducePow,SBt,SBtf,e2]
 have hv:vl [n%4294967296,n/4294967296]=n:=by show n%4294967296+4294967296*(n/4294967296+4294967296*0)=n;omega
 rw[hv]
 refine⟨by omega,e1,fun x hx=> ?_,rfl⟩
 simp only[List.mem_cons,List.not_mem_nil,or_false] at hx
 rcases hx with rfl|rfl<;>omega
theorem bcmp_fn (J:Inv) (a b:List Nat) (ha:Pr a) (hb:Pr b):Fn Tryz.prog J 203 false [wV a,wV b] (.i (cmp3 (vl a) (vl b))):=by
 refine fnI Tryz.func203 rfl (by kernel_rfl) rfl (SBt_ok J) ?_
 unfold Tryz.f203
 simp only[bQ,reduceEqDiff,reduceAdd,↓reduceIte,reduceCtorEq,SBt]
 have wx:=ha.w
 have wy:=hb.w
 have la:=ha.len
 have lb:=hb.len
 have ea:=ha.eq
 have eb:=hb.eq
 refine⟨fun h=>⟨fun h2=> ?_,fun h2=> ?_⟩,fun h=>⟨by constructor<;>omega,?_⟩⟩
 ·rw[cmp3_lt (dg_lt (by rw[←ea,←eb];simpa using h2))]
 ·rw[cmp3_gt (dg_lt (by rw[←ea,←eb];simp at h h2;omega))]
 ·have hab:a.length=b.length:=by simp at h;omega
  refine LoopC.intro (α:=Nat) (fun k=>k≤a.length∧cmp3 (vl a) (vl b)=cmp3 (vl (a.take k)) (vl (b.take k))) (fun k=>⟨[(0,wV a),(1,wV b),(5, .i ((k:Int)-1))],[],0⟩) (fun k=>k) a.length ⟨Nat.le_refl _,by rw[List.take_length,hab,List.take_length]⟩ ?_ ?_
  ·simp only[bQ,reduceLeDiff,reduceEqDiff,↓reduceIte,reduceCtorEq]
  ·rintro k ⟨h3,h4⟩
   simp only[bQ,reduceEqDiff,reduceLT,↓reduceIte,reduceCtorEq]
   refine⟨fun h5=> ?_,fun h5=> ?_⟩
   ·obtain⟨k,rfl⟩: ∃j,k=j+1:=⟨k-1,by simp at h5;omega⟩
    rw[show(((k+1:Nat):Int)-1).toNat=k by omega]
    refine⟨by omega,by omega,by omega,by omega,fun h6=>⟨by omega,by omega,by omega,by omega,fun h7=> ?_,fun h7=> ?_⟩,fun h6=>⟨by constructor<;>omega,Again.intro k ⟨by omega,?_⟩ (by omega) ?_⟩⟩
    ·rw[h4,cmp3_lt (word_lt wx (by simpa using h7))]
    ·rw[h4,cmp3_gt (word_lt wy (by rw[decide_eq_false_iff_not] at h7;rw[Bool.not_eq_true',beq_eq_false_iff_ne] at h6;omega))]
    ·rw[h4,word_eq (by rw[Bool.not_eq_false',beq_iff_eq] at h6;omega)]
    ·simp only[bQ,reduceLeDiff,reduceEqDiff,↓reduceIte,reduceCtorEq]
     omega
   ·obtain rfl:k=0:=by simp at h5;omega
    rw[h4]
    rfl
theorem badd_fn (J:Inv) (a b:List Nat) (ha:a.length≤67108864) (hb:b.length≤67108864) (wa:W32 a) (wb:W32 b):Fn Tryz.prog J 150 false [wV a,wV b] (wV (dg (vl a+vl b))):=by
 refine fnI Tryz.func150 rfl (by kernel_rfl) (wV_cl _) (SBt_ok J) ?_
 unfold Tryz.f150
 simp only[bQ,reduceEqDiff,reduceAdd,↓reduceIte,reduceCtorEq,SBt]
 refine⟨fun h=> ?_,fun h=> ?_⟩
 case' refine_1=>
  rw[Nat.add_comm (vl a)]
  have hxy:a.length≤b.length:=by simp at h;omega
  clear h
  generalize b=u at *
  generalize a=v at *
  refine⟨by constructor<;>omega,by omega,by omega,by omega,?_⟩
  rw[show((u.length:Int)+1).toNat=u.length+1 by omega]
  have lu:u.length≤67108864:=by omega
  have wu:W32 u:=wb
  have wv:W32 v:=wa
 case' refine_2=>
  have hxy:b.length≤a.length:=by simp at h;omega
  clear h
  generalize a=u at *
  generalize b=v at *
  refine⟨by constructor<;>omega,by omega,by omega,by omega,?_⟩
  rw[show((u.length:Int)+1).toNat=u.length+1 by omega]
  have lu:u.length≤67108864:=by omega
  have wu:W32 u:=wa
  have wv:W32 v:=wb
 all_goals
  refine LoopC.intro (α:=Nat×List Nat×Nat) (fun p=>p.1≤u.length∧AddI u v p.2.1 p.1 p.2.2) (fun p=>⟨[(0,wV u),(1,wV v),(5, .ro (.r 0)),(6, .val (.int .u64 p.2.2)),(7, .i p.1)],[(0, .row 156 (wV (p.2.1++List.replicate (u.length+1-p.1) 0)))],1⟩) (fun p=>u.length-p.1) (0,[],0) ⟨by omega, .zero u v⟩ ?_ ?_
  ·simp only[bQ,reduceLeDiff,reduceEqDiff,↓reduceIte,reduceCtorEq]
   exact⟨rfl,rfl⟩
  ·rintro⟨i,o,c⟩ ⟨h3,h4⟩
   have h4:AddI u v o i c:=h4
   have hst:=h4.step wu wv
   have h5:=h4.len
   have h6:=h4.c1
   have h7:=wu.get i
   have h8:=wv.get i
   have h9:=h4.w
   simp only at h3 h5
   have e0:(o++List.replicate (u.length+1-i) 0).length=u.length+1:=by rw[List.length_append,List.length_replicate];omega
   simp only[↓bD,bQ,reduceLeDiff,reduceEqDiff,reduceLT,↓reduceIte,reduceCtorEq,reduceToNat,reducePow,SBtf,e0]
   refine⟨fun hi=> ?_,fun hi=> ?_⟩
   ·have hi:i<u.length:=by simpa using hi
    have e1: ∀z,(o++List.replicate (u.length+1-i) 0).set i z=o++[z]++List.replicate (u.length+1-(i+1)) 0:=fun z=>by
     rw[←h5,show u.length+1-o.length=(u.length-o.length)+1 by omega,set_zeros]
     congr 2;omega
    simp only[e1]
    refine⟨by omega,by omega,fun hj=>⟨by omega,by simpa using hj,by omega,by omega,by omega,by omega,by constructor<;>omega,?_⟩,fun hj=>⟨by omega,by omega,by omega,by omega,by constructor<;>omega,?_⟩⟩
    ·refine Again.intro (i+1,o++[(c+u.getD i 0+v.getD i 0)%4294967296],(c+u.getD i 0+v.getD i 0)/4294967296) ⟨hi,hst⟩ (by simp only;omega) ?_
     simp only[bQ,reduceLeDiff,reduceEqDiff,↓reduceIte,reduceCtorEq]
     simp(disch:=omega) only[wr64n,←Int.natCast_add,w32_nat]
     exact⟨⟨by omega,by omega⟩,by rw[Nat.add_assoc]⟩
    ·have h10:v.getD i 0=0:=getD_ge (by simp at hj;omega)
     rw[h10,Nat.add_zero] at hst
     refine Again.intro (i+1,o++[(c+u.getD i 0)%4294967296],(c+u.getD i 0)/4294967296) ⟨hi,hst⟩ (by simp only;omega) ?_
     simp only[bQ,reduceLeDiff,reduceEqDiff,↓reduceIte,reduceCtorEq]
     simp(disch:=omega) only[wr64n,←Int.natCast_add,w32_nat]
     exact⟨⟨by omega,by omega⟩,trivial⟩
   ·obtain rfl:i=u.length:=by simp at hi;omega
    have e1: ∀z,(o++List.replicate (u.length+1-u.length) 0).set u.length z=o++[z]:=fun z=>by
     rw[show u.length+1-u.length=0+1 by omega]
     rw[←h5,set_zeros,List.replicate_zero,List.append_nil]
    simp only[e1,w32_nat,Nat.mod_eq_of_lt (show c<4294967296 by omega),h4.fin hxy]
    refine⟨by omega,by omega,by omega,?_,h4.w.app (W32.one (by omega)),trivial⟩
    rw[List.length_append,h5,List.length_singleton];omega
theorem bsub_fn (J:Inv) (a b:List Nat) (ha:a.length≤67108864) (hb:b.length≤a.length) (wa:W32 a) (wb:W32 b) (hle:vl b≤vl a):Fn Tryz.prog J 236 false [wV a,wV b] (wV (dg (vl a-vl b))):=by
 refine fnI Tryz.func236 rfl (by kernel_rfl) (wV_cl _) (SBt_ok J) ?_
 unfold Tryz.f236
 simp only[bQ,reduceAdd,↓reduceIte,reduceCtorEq,SBt]
 refine⟨by omega,by omega,by omega,?_⟩
 refine LoopC.intro (α:=Nat×List Nat×Nat) (fun p=>p.1≤a.length∧SubI a b p.2.1 p.1 p.2.2) (fun p=>⟨[(0,wV a),(1,wV b),(5, .ro (.r 0)),(6, .val (.int .u64 p.2.2)),(7, .i p.1)],[(0, .row 156 (wV (p.2.1++List.replicate (a.length-p.1) 0)))],1⟩) (fun p=>a.length-p.1) (0,[],0) ⟨by omega, .zero a b⟩ ?_ ?_
 ·simp only[bQ,reduceLeDiff,reduceEqDiff,↓reduceIte,reduceCtorEq]
  exact⟨rfl,rfl⟩
 ·rintro⟨i,o,c⟩ ⟨h3,h4⟩
  have h4:SubI a b o i c:=h4
  have hst:=h4.step wa wb
  have h5:=h4.len
  have h6:=h4.b1
  have h7:=wa.get i
  have h8:=wb.get i
  have h9:=h4.w
  simp only at h3 h5
  have e0:(o++List.replicate (a.length-i) 0).length=a.length:=by rw[List.length_append,List.length_replicate];omega
  simp only[↓bD,bQ,reduceLeDiff,reduceEqDiff,reduceLT,↓reduceIte,reduceCtorEq,reduceToNat,reducePow,SBtf,e0]
  refine⟨fun hi=> ?_,fun hi=> ?_⟩
  ·have hi:i<a.length:=by simpa using hi
   have e1: ∀z,(o++List.replicate (a.length-i) 0).set i z=o++[z]++List.replicate (a.length-(i+1)) 0:=fun z=>by
    rw[←h5,show a.length-o.length=(a.length-(o.length+1))+1 by omega,set_zeros]
   simp only[e1]
   have key: ∀y:Nat,y<4294967296→w32 (wr .u64 (wr .u64 ((a.getD i 0:Nat)-(c:Int))-(y:Int)))=(a.getD i 0+8589934592-y-c)%4294967296∧wr .u64 (wr .u64 ((a.getD i 0:Nat)-(c:Int))-(y:Int))/9223372036854775808=(brw (a.getD i 0) (y+c):Nat):=fun y hy=>by
    have e2:wr .u64 (wr .u64 ((a.getD i 0:Nat)-(c:Int))-(y:Int))=((a.getD i 0:Nat)-(c:Int)-y)%18446744073709551616:=by
     rw[wr_eq,wr_eq]
     show(((a.getD i 0:Nat)-(c:Int))%18446744073709551616-(y:Int))%18446744073709551616=_
     omega
    rw[e2]
    unfold w32 brw
    refine⟨by omega,?_⟩
    split<;>omega
   refine⟨by omega,by omega,fun hj=>⟨by omega,by simpa using hj,by omega,by omega,hi,by omega,by constructor<;>omega,?_⟩,fun hj=>⟨by omega,by omega,hi,by omega,by constructor<;>omega,?_⟩⟩
   ·obtain⟨k1,k2⟩:=key _ h8
    refine Again.intro (i+1,o++[(a.getD i 0+8589934592-b.getD i 0-c)%4294967296],brw (a.getD i 0) (b.getD i 0+c)) ⟨hi,hst⟩ (by simp only;omega) ?_
    simp only[bQ,reduceLeDiff,reduceEqDiff,↓reduceIte,reduceCtorEq]
    rw[wr64n (show a.getD i 0<18446744073709551616 by omega),wr64n (show b.getD i 0<18446744073709551616 by omega),k1]
    exact⟨⟨k2,by omega⟩,rfl⟩
   ·have h10:b.getD i 0=0:=getD_ge (by simp at hj;omega)
    rw[h10] at hst
    have k3:wr .u64 ((a.getD i 0:Nat)-(c:Int))=((a.getD i 0:Nat)-(c:Int))%18446744073709551616:=by rw[wr_eq];rfl
    have k1:w32 (wr .u64 ((a.getD i 0:Nat)-(c:Int)))=(a.getD i 0+8589934592-c)%4294967296:=by rw[k3];unfold w32;omega
    have k2:wr .u64 ((a.getD i 0:Nat)-(c:Int))/9223372036854775808=(brw (a.getD i 0) c:Nat):=by rw[k3];unfold brw;split<;>omega
    refine Again.intro (i+1,o++[(a.getD i 0+8589934592-0-c)%4294967296],brw (a.getD i 0) (0+c)) ⟨hi,hst⟩ (by simp only;omega) ?_
    simp only[bQ,reduceLeDiff,reduceEqDiff,↓reduceIte,reduceCtorEq]
    rw[wr64n (show a.getD i 0<18446744073709551616 by omega),k1]
    exact⟨⟨k2,by omega⟩,rfl⟩
  ·obtain rfl:i=a.length:=by simp at hi;omega
   obtain⟨f1,f2⟩:=SubI.fin (x:=a) (y:=b) (o:=o) (b:=c) h4 wa wb hb
   have e3:vl o=vl a-vl b:=by
    have h10:=vl_lt wa
    rw[f1,fw_vl,show vl a+4294967296^a.length-vl b=vl a-vl b+4294967296^a.length by omega,Nat.add_mod_right,Nat.mod_eq_of_lt (by omega)]
   rw[Nat.sub_self,List.replicate_zero,List.append_nil,e3]
   exact⟨by omega,h9,rfl⟩
theorem mul_fn (J:Inv) (a b:List Nat) (ha:a.length≤67108864) (hb:b.length≤67108864) (wa:W32 a) (wb:W32 b):Fn Tryz.prog J 239 false [wV a,wV b] (wV (dg (vl a*vl b))):=by
 refine fnI Tryz.func239 rfl (by kernel_rfl) (wV_cl _) (SGa_ok J) ?_
 unfold Tryz.f239
 simp only[↓bE,bR,reduceEqDiff,reduceAdd,↓reduceIte,reduceCtorEq,SGa,SGaf,sdf,wV,unW_wds]
 have la:=trim_len a
 have lb:=trim_len b
 rw[trim_dg wa] at la
 rw[trim_dg wb] at lb
 have wx:=W32_dg (vl a)
 have wy:=W32_dg (vl b)
 rw[show vl a*vl b=vl (dg (vl a))*vl (dg (vl b)) by rw[vl_dg,vl_dg]]
 generalize dg (vl a)=x at *
 generalize dg (vl b)=y at *
 refine⟨by omega,wa,by omega,wb,by constructor<;>omega,by omega,by omega,by omega,?_⟩
 rw[show((x.length:Int)+y.length).toNat=x.length+y.length by omega]
 refine LoopC.intro (α:=Nat×List Nat) (fun p=>p.1≤x.length∧MulI x y p.2 p.1 0 0) (fun p=>⟨[(5,wV x),(6,wV y),(7, .ro (.r 0)),(23,wV x),(24, .i x.length),(25, .i p.1)],[(0, .row 156 (wV p.2))],1⟩) (fun p=>x.length-p.1) (0,_) ⟨by omega, .zero x y⟩ ?_ ?_
 ·simp only[bR,reduceLeDiff,reduceEqDiff,↓reduceIte,wV]
  exact rfl
 ·rintro⟨i,L⟩ ⟨h1,h2⟩
  have h2:MulI x y L i 0 0:=h2
  simp only at h1
  have e0:=h2.len
  simp only[↓bE,bR,reduceEqDiff,reduceLT,↓reduceIte,reduceCtorEq,SGaf,wV,e0,unW_wds]
  refine⟨fun hi=> ?_,fun hi=> ?_⟩
  ·have hi:i<x.length:=by simpa using hi
   refine⟨by omega,by omega,?_⟩
   refine LoopC.intro (α:=Nat×List Nat×Nat) (fun p=>p.1≤y.length∧MulI x y p.2.1 i p.1 p.2.2) (fun p=>⟨[(5,wV x),(6,wV y),(7, .ro (.r 0)),(8, .i i),(9, .val (.int .u32 (x.getD i 0:Nat))),(10, .val (.int .u64 p.2.2)),(23,wV x),(24, .i x.length),(25, .i i),(30,wV y),(31, .i y.length),(32, .i p.1)],[(0, .row 156 (wV p.2.1))],1⟩) (fun p=>y.length-p.1) (0,L,0) ⟨by omega,h2⟩ ?_ ?_
   ·simp only[bR,reduceLeDiff,reduceEqDiff,↓reduceIte,wV]
    exact⟨rfl,rfl⟩
   ·rintro⟨j,M,c⟩ ⟨h3,h4⟩
    have h4:MulI x y M i j c:=h4
    simp only at h3
    have e1:=h4.len
    have t1:((i:Int)+j).toNat=i+j:=by omega
    have t2:((i:Int)+y.length).toNat=i+y.length:=by omega
    simp only[↓bE,bR,reduceLeDiff,reduceEqDiff,reduceLT,↓reduceIte,reduceCtorEq,reduceToNat,reducePow,wV,e1,t1,t2]
    refine⟨fun hj=> ?_,fun hj=> ?_⟩
    ·have hj:j<y.length:=by simpa using hj
     have hb:=mul_bound h4.c1 (wx.get i) (wy.get j) (h4.w.get (i+j))
     have b1:=wx.get i
     have b2:=wy.get j
     have b3:=h4.w.get (i+j)
     have hst:=h4.step wx wy hi hj
     refine⟨by omega,by omega,by constructor<;>omega,by omega,by omega,by omega,by constructor<;>omega,by omega,by omega,by omega,by omega,by constructor<;>omega,?_⟩
     refine Again.intro (j+1,M.set (i+j) ((c+(x.getD i 0*y.getD j 0+M.getD (i+j) 0))%4294967296),(c+(x.getD i 0*y.getD j 0+M.getD (i+j) 0))/4294967296) ⟨hj,hst⟩ (by simp only;omega) ?_
     simp only[bR,reduceLeDiff,reduceEqDiff,↓reduceIte]
     rw[wr64n (n:=x.getD i 0) (by omega),wr64n (n:=y.getD j 0) (by omega),wr64n (n:=M.getD (i+j) 0) (by omega)]
     simp only[←Int.natCast_mul]
     generalize x.getD i 0*y.getD j 0=u at *
     simp(disch:=omega) only[wr64n,←Int.natCast_add,w32_nat]
     exact⟨by omega,trivial⟩
    ·obtain rfl:j=y.length:=by simp at hj;omega
     refine⟨by constructor<;>omega,by omega,by omega,by omega,by constructor<;>omega,?_⟩
     refine Again.intro (i+1,M.set (i+y.length) c) ⟨hi,h4.next hi⟩ (by simp only;omega) ?_
     simp only[bR,reduceLeDiff,reduceEqDiff,↓reduceIte]
     rw[w32_nat,Nat.mod_eq_of_lt h4.c1]
     exact⟨by omega,rfl⟩
  ·obtain rfl:i=x.length:=by simp at hi;omega
   rw[h2.fin]
   exact⟨by omega,h2.w,rfl⟩
theorem fw_drop_get {l:List Nat} {i n v:Nat} (hi:i≤n) (h:l.length=n):(fw i v++l.drop i).length=n∧(∀j,i≤j→(fw i v++l.drop i).getD j 0=l.getD j 0):=by
 have h1:=fw_len i v
 refine⟨by rw[List.length_append,h1,List.length_drop];omega,fun j hj=> ?_⟩
 rw[List.getD_eq_getElem?_getD,List.getElem?_append_right (by omega),List.getElem?_drop,List.getD_eq_getElem?_getD]
 congr 2;omega
theorem fw_drop_set {l:List Nat} {i v x:Nat} (hi:i<l.length) (hx:x=v/4294967296^i%4294967296):(fw i v++l.drop i).set i x=fw (i+1) v++l.drop (i+1):=by
 have h1:=fw_len i v
 rw[List.set_append_right _ _ (by omega),h1,Nat.sub_self,List.drop_eq_getElem_cons hi,List.set_cons_zero,fw_succ,hx,List.append_assoc]
 rfl
theorem down_fn (J:Inv) (k nx:Nat) (l:List Nat) (s:Nat) (hs:s<32) (hl:l.length≤1073741824) (wl:W32 l):FnH Tryz.prog J 210 [.ro (.r k), .i s] [(k, .row 156 (wV l))] nx (.tu []) [(k, .row 156 (wV (fw l.length (vl l/2^s))))] nx:=by
 refine fnJ Tryz.func210 rfl (by kernel_rfl) (SGbb_ok J nx) rfl ?_
 unfold Tryz.f210
 simp only[bR,reduceAdd,↓reduceIte,reduceCtorEq,SGbb,wV]
 refine LoopC.intro (α:=Nat) (fun i=>i≤l.length) (fun i=>⟨[(0, .ro (.r k)),(1, .i s),(7, .i l.length),(8, .i i)],[(k, .row 156 (wV (fw i (vl l/2^s)++l.drop i)))],nx⟩) (fun i=>l.length-i) 0 (Nat.zero_le _) ?_ ?_
 ·simp only[bR,reduceEqDiff,↓reduceIte,reduceCtorEq,wV,fw]
  exact⟨rfl,Nat.le_refl _⟩
 ·intro i h3
  obtain⟨e0,e1⟩:=fw_drop_get (v:=vl l/2^s) h3 rfl
  have t1:((i:Int)+1).toNat=i+1:=by omega
  have t2:((s:Int)).toNat=s:=by omega
  simp only[↓bE,bR,reduceLeDiff,reduceEqDiff,reduceLT,↓reduceIte,reduceCtorEq,reduceToNat,reducePow,wV,e0,t1,t2]
  rw[e1 i (Nat.le_refl _),e1 (i+1) (by omega)]
  refine⟨fun hi=> ?_,fun hi=> ?_⟩
  ·have hi:i<l.length:=by simpa using hi
   have hw:=down_word wl i s (by omega)
   have b1:=wl.get i
   have b2:=wl.get (i+1)
   have key: ∀y:Int,y=((l.getD i 0+4294967296*l.getD (i+1) 0:Nat):Int)→wds ((fw i (vl l/2^s)++l.drop i).set i (w32 (y/2^s)))=wds (fw (i+1) (vl l/2^s)++l.drop (i+1)):=fun y hy=>by
    rw[fw_drop_set hi]
    rw[hy,show((2:Int)^s)=((2^s:Nat):Int) by simp,←Int.natCast_ediv,w32_nat,hw]
   refine⟨by omega,by omega,hi,by constructor<;>omega,fun hj=> ?_,fun hj=> ?_⟩
   ·have hj:i+1<l.length:=by simp at hj;omega
    refine⟨by constructor<;>omega,by omega,by omega,hj,by omega,by omega,by omega,by omega,hi,by constructor<;>omega,Again.intro (i+1) hi (by omega) ?_⟩
    simp only[bR,reduceEqDiff,↓reduceIte,reduceCtorEq]
    rw[if_pos (by omega),key _ ?_]
    ·exact⟨by omega,rfl,Nat.le_refl _⟩
    ·rw[wr64n (by omega),wr64n (by omega),show((l.getD (i+1) 0:Nat):Int)*4294967296=((2^32*l.getD (i+1) 0:Nat):Int) by omega,wr64n (by omega),bt_eq,bits_or64 (by omega) (by omega),or_add (by omega)]
   ·have hz:l.getD (i+1) 0=0:=getD_ge (by simp at hj;omega)
    refine⟨by omega,by omega,by omega,hi,by constructor<;>omega,Again.intro (i+1) hi (by omega) ?_⟩
    simp only[bR,reduceEqDiff,↓reduceIte,reduceCtorEq]
    rw[if_pos (by omega),key _ ?_]
    ·exact⟨by omega,rfl,Nat.le_refl _⟩
    ·rw[wr64n (by omega),hz]
     rfl
  ·obtain rfl:i=l.length:=by simp at hi;omega
   refine .inl ?_
   simp only[bR,reduceLeDiff,↓reduceIte,List.drop_length,List.append_nil]
   exact Nat.le_refl _
theorem wds_pair (a b:Int):[V.val (.int .u32 (wr .u32 a)),V.val (.int .u32 (wr .u32 b))]=wds [w32 a,w32 b]:=by rw[wr_w32,wr_w32];rfl
theorem fromUint_fn (J:Inv) (u:Nat) (hu:u<18446744073709551616):Fn Tryz.prog J 272 false [.val (.int .u64 u)] (wV (dg u)):=by
 refine fnI Tryz.func272 rfl (by kernel_rfl) (wV_cl _) (SGa_ok J) ?_
 unfold Tryz.f272
 simp only[↓bE,bR,reduceMul,reduceLeDiff,reduceEqDiff,reduceAdd,↓reduceIte,reduceCtorEq,reduceToNat,reducePow,SGa,SGaf,sdf,wV]
 simp only[wds_pair,unW_wds]
 have e:vl [w32 (u:Int),w32 ((u:Int)/4294967296)]=u:=by
  rw[w32_nat,show(u:Int)/4294967296=((u/4294967296:Nat):Int) by omega,w32_nat]
  simp only[vl]
  omega
 rw[e]
 exact⟨by omega,trivial,by simp,fun x hx=>by simp at hx;rcases hx with rfl|rfl<;>exact w32_lt _,rfl⟩
def SGdh:FuncId→List V→List (Nat×Ob)→Nat→Option CallH:=fun f args h nx=>
 if f=210 then match args with
  |[.ro (.r k), .val (.int .i64 s)]=>match Hroot h k with
   |some (.row ty (.sq 1 d L))=>some ⟨[ty=156,d= .val (.int .u32 0),L=wds (unW L),0≤s,s<32,(unW L).length≤1073741824,W32 (unW L)],[false,true],[(k, .row 156 (wV (unW L)))], .tu [],[(k, .row 156 (wV (fw (unW L).length (vl (unW L)/2^s.toNat))))],nx⟩
   |_=>none
  |_=>none
 else none
def SGd (J:Inv):Sig:=⟨J,sdf,SGaf,SGdh,0⟩
theorem SGd_ok (J:Inv):SigOk Tryz.prog (SGd J):=by
 refine⟨(SGa_ok J).1,fun f args h nx c hc hl=> ?_⟩
 change SGdh f args h nx=some c at hc
 unfold SGdh at hc
 split at hc
 ·rename_i hf;subst hf
  split at hc
  ·rename_i k s
   split at hc
   ·rename_i ty d L hk
    obtain rfl:=Option.some.inj hc
    have q1:ty=156:=hl _ (by simp)
    have q2:d= .val (.int .u32 0):=hl _ (by simp)
    have q4:0≤s:=hl _ (by simp)
    have q5:s<32:=hl _ (by simp)
    subst q1 q2
    have hp:=down_fn J k nx (unW L) s.toNat (by omega) (hl _ (by simp)) (hl _ (by simp))
    rw[Int.toNat_of_nonneg q4] at hp
    exact hp
   ·exact absurd hc (by simp)
  ·exact absurd hc (by simp)
 ·exact absurd hc (by simp)
theorem shr_fn (J:Inv) (a:List Nat) (k:Nat) (hk:k<32) (ha:a.length≤67108864) (wa:W32 a):Fn Tryz.prog J 162 false [wV a, .i k] (wV (dg (vl a/2^k))):=by
 refine fnI Tryz.func162 rfl (by kernel_rfl) (wV_cl _) (SGd_ok J) ?_
 unfold Tryz.f162
 have t1:imax (k:Int) 0=k:=by unfold imax;split<;>omega
 have t2:(k:Int)/32=0:=by omega
 have t3:(k:Int)%32=k:=by omega
 simp only[↓bE,bR,reduceEqDiff,reduceAdd,↓reduceIte,reduceCtorEq,reduceToNat,SGaf,SGd,SGdh,wV,unW_wds,t1,t2,t3]
 have la:=trim_len a
 rw[trim_dg wa] at la
 have wx:=W32_dg (vl a)
 have h1:=dg_hi (vl a)
 have h2:=vl_dg (vl a)
 generalize vl a=v at *
 have h3:v/2^k≤v:=Nat.div_le_self _ _
 rw[List.take_length]
 have e:vl (fw (dg v).length (vl (dg v)/2^k))=v/2^k:=by rw[fw_vl,h2,Nat.mod_eq_of_lt (by omega)]
 rw[e]
 refine⟨by omega,wa,by constructor<;>omega,by omega,by omega,fun h=> ?_,fun h=> ?_⟩
 ·have h4:(dg v).length=0:=by have h:=of_decide_eq_true h;omega
  have h5:v=0:=dg_eq_nil.1 (List.length_eq_zero_iff.1 h4)
  rw[h5,Nat.zero_div,dg_zero];rfl
 ·refine⟨by constructor<;>omega,by omega,by omega,by omega,by omega,by omega,by omega,by omega,by omega,by omega,by omega,wx,by rw[fw_len];omega,fw_w _ _,rfl⟩
def nb (b:List UInt8):Nat:=b.foldl (fun a c=>256*a+c.toNat) 0
theorem nb_snoc (b:List UInt8) (c:UInt8):nb (b++[c])=256*nb b+c.toNat:=by unfold nb;rw[List.foldl_append];rfl
theorem nb_lt (b:List UInt8):nb b<256^b.length:=by
 suffices h: ∀n,∀b:List UInt8,b.length=n→nb b<256^n from h _ b rfl
 intro n
 induction n with
 |zero=>intro b h;rw[List.length_eq_zero_iff.1 h];simp[nb]
 |succ n ih=>
  intro b h
  rcases List.eq_nil_or_concat b with rfl|⟨b,c,rfl⟩
  ·simp at h
  ·rw[List.concat_eq_append] at *
   rw[nb_snoc,Nat.pow_succ]
   have h1:=ih b (by simpa using h)
   have:=c.toNat_lt
   omega
theorem fromBytes_fn (J:Inv) (b:List UInt8) (hb:b.length≤67108864):Fn Tryz.prog J 93 false [.by b] (wV (dg (nb b))):=by
 refine fnI Tryz.func93 rfl (by kernel_rfl) (wV_cl _) (SGa_ok J) ?_
 unfold Tryz.f93
 simp only[bR,↓reduceIte,reduceCtorEq,SGa,sdf,wV]
 refine⟨by constructor<;>omega,by constructor<;>omega,by omega,by omega,by omega,by omega,by omega,?_⟩
 rw[show(((b.length:Int)+3)/4).toNat=(b.length+3)/4 by omega]
 refine LoopC.intro (α:=Nat) (fun i=>i≤b.length) (fun i=>⟨[(0, .by b),(3, .ro (.r 0)),(12, .by b),(13, .i b.length),(14, .i i)],[(0, .row 156 (wV (fw ((b.length+3)/4) (nb (b.take i)*256^(b.length-i)))))],1⟩) (fun i=>b.length-i) 0 (Nat.zero_le _) ?_ ?_
 ·simp only[bR,reduceLeDiff,reduceEqDiff,↓reduceIte,reduceCtorEq,wV]
  rw[show nb []=0 from rfl,Nat.zero_mul,fw_zero]
  exact⟨rfl,rfl⟩
 ·intro i h3
  simp only[↓bE,bR,reduceEqDiff,reduceLT,↓reduceIte,reduceCtorEq,SGaf,wV,fw_len,unW_wds]
  refine⟨fun hi=> ?_,fun hi=> ?_⟩
  ·have hi:i<b.length:=by simpa using hi
   refine⟨by omega,by omega,by constructor<;>omega,by constructor<;>omega,?_⟩
   refine DrawC.rows [(0,some (true,[])),(1,some (true,[])),(2,some (true,[])),(3,some (true,[])),(4,some (true,[])),
 (5,some (true,[])),(6,some (true,[])),(7,some (true,[])),(8,some (true,[])),(9,some (true,[])),
 (10,some (true,[])),(11,some (true,[])),(12,some (true,[])),(13,none)] [] [13] (by kernel_rfl) ?_
   simp only[bR,reduceEqDiff,reduceLT,↓reduceIte,reduceCtorEq,fw_len]
   obtain⟨at',hat⟩: ∃at',b.length=at'+1+i:=⟨b.length-1-i,by omega⟩
   have t1:((b.length:Int)-1-i)=(at':Int):=by omega
   have t2:((at':Int)/4).toNat=at'/4:=by omega
   have t3:((at':Int)%4)=((at'%4:Nat):Int):=by omega
   have t4:(8*((at'%4:Nat):Int)).toNat=8*(at'%4):=by omega
   rw[t1,t2]
   refine⟨by constructor<;>omega,by omega,by omega,by omega,by omega,by omega,by omega,by omega,by constructor<;>omega,by omega,by omega,by omega,by omega,by constructor<;>omega,Again.intro (i+1) hi (by omega) ?_⟩
   simp only[bR,reduceLeDiff,reduceEqDiff,↓reduceIte,reduceCtorEq,t3,t4]
   have hc:=(b.getD i 0).toNat_lt
   have e1:byteAt b i=(((b.getD i 0).toNat:Nat):Int):=rfl
   have e2:b.take (i+1)=b.take i++[b.getD i 0]:=by rw[List.take_succ_eq_append_getElem hi,List.getD_eq_getElem?_getD,List.getElem?_eq_getElem hi];rfl
   have hr:at'%4<4:=Nat.mod_lt _ (by omega)
   have hp:(b.getD i 0).toNat*2^(8*(at'%4))<4294967296:=by
    have h1:=Nat.pow_le_pow_right (n:=2) (by omega) (show 8*(at'%4)≤24 by omega)
    have h2:=Nat.mul_le_mul (show(b.getD i 0).toNat≤255 by omega) h1
    omega
   have hwl:(fw ((b.length+3)/4) (nb (b.take i)*256^(b.length-i))).getD (at'/4) 0<4294967296:=(fw_w _ _).get _
   rw[if_pos (by omega),e1,wr32n (by omega),show((2:Int)^(8*(at'%4)))=((2^(8*(at'%4)):Nat):Int) by simp,←Int.natCast_mul,wr32n hp,bt_eq,bits_or32 hwl hp,w32_nat,Nat.mod_eq_of_lt (Nat.or_lt_two_pow (n:=32) hwl hp)]
   have hnb:(256*nb (b.take i)+(b.getD i 0).toNat)*256^at'<4294967296^((b.length+3)/4):=by
    have h1:=nb_lt (b.take (i+1))
    rw[e2,nb_snoc,←e2,List.length_take,Nat.min_eq_left (by omega)] at h1
    rw[B_256]
    refine Nat.lt_of_lt_of_le ((Nat.mul_lt_mul_right (Nat.pow_pos (by omega))).2 h1) ?_
    rw[←Nat.pow_add]
    exact Nat.pow_le_pow_right (by omega) (by omega)
   have hput:=byte_put (n:=(b.length+3)/4) (N:=nb (b.take i)) (at':=at') (c:=(b.getD i 0).toNat) (by omega) hnb (by omega)
   rw[show b.length-i=at'+1 by omega,hput,show b.length-(i+1)=at' by omega,e2,nb_snoc]
   exact⟨by omega,rfl⟩
  ·obtain rfl:i=b.length:=by simp at hi;omega
   have h1:=nb_lt b
   have h2:nb b<4294967296^((b.length+3)/4):=by
    rw[B_256]
    exact Nat.lt_of_lt_of_le h1 (Nat.pow_le_pow_right (by omega) (by omega))
   rw[List.take_length,Nat.sub_self,Nat.pow_zero,Nat.mul_one,fw_vl,Nat.mod_eq_of_lt h2]
   exact⟨by omega,fw_w _ _,rfl⟩
theorem fw_add (n v t:Nat):fw n (v+4294967296^n*t)=fw n v:=
 vl_inj (fw_w _ _) (fw_w _ _) (by rw[fw_len,fw_len]) (by rw[fw_vl,fw_vl,Nat.add_mul_mod_self_left])
def cyU (x:List Nat) (s i:Nat):Nat:=vl (x.take i)*2^s/4294967296^i
theorem cyU_lt {x:List Nat} (h:W32 x) (s i:Nat):cyU x s i<2^s:=by
 unfold cyU
 have h1:=vl_take_lt h i
 exact Nat.div_lt_of_lt_mul ((Nat.mul_lt_mul_right (Nat.pow_pos (by omega))).2 h1)
theorem up_sum (x:List Nat) (s i:Nat):vl (x.take (i+1))*2^s/4294967296^i=cyU x s i+x.getD i 0*2^s:=by
 unfold cyU
 rw[vl_take_succ,Nat.add_mul,Nat.mul_assoc,Nat.add_mul_div_left _ _ (Nat.pow_pos (by omega))]
theorem cyU_succ (x:List Nat) (s i:Nat):cyU x s (i+1)=(cyU x s i+x.getD i 0*2^s)/4294967296:=by
 rw[←up_sum,Nat.div_div_eq_div_mul,←Nat.pow_succ];rfl
theorem up_low {c u s:Nat} (hs:s<32) (hc:c<2^s):(u*2^s%4294967296)|||c=(c+u*2^s)%4294967296∧u*2^s/4294967296=(c+u*2^s)/4294967296:=by
 obtain⟨t,ht⟩: ∃t,s+t=32:=⟨32-s,by omega⟩
 have e2:(4294967296:Nat)=2^s*2^t:=by rw[←Nat.pow_add,ht]
 have e3:u*2^s%4294967296=2^s*(u%2^t):=by rw[e2,Nat.mul_comm u,Nat.mul_mod_mul_left]
 have h1:u%2^t<2^t:=Nat.mod_lt _ (Nat.pow_pos (by omega))
 have h2:2^s*(u%2^t)+2^s≤4294967296:=by
  rw[e2,←Nat.mul_succ];exact Nat.mul_le_mul_left _ h1
 rw[e3,Nat.or_comm,or_add hc]
 have h3:=Nat.mod_add_div (u*2^s) 4294967296
 rw[e3] at h3
 omega
theorem up_word {x:List Nat} (h:W32 x) {s:Nat} (hs:s<32) (i:Nat):fw i (vl (x.take i)*2^s)++[(x.getD i 0*2^s%4294967296)|||cyU x s i]=fw (i+1) (vl (x.take (i+1))*2^s):=by
 rw[fw_succ,up_sum,(up_low hs (cyU_lt h s i)).1]
 congr 1
 rw[vl_take_succ,Nat.add_mul,Nat.mul_assoc,fw_add]
theorem cyU_step {x:List Nat} (h:W32 x) {s:Nat} (hs:s<32) (i:Nat):cyU x s (i+1)=x.getD i 0*2^s/4294967296:=by
 rw[cyU_succ,(up_low hs (cyU_lt h s i)).2]
theorem short_step {x:List Nat} {d k:Nat} (hk:k<x.length) (h:W32 x) (hd:0<d):
  fw (x.length-k) (vl (x.drop k)/d)=((4294967296*(vl (x.drop (k+1))%d)+x.getD k 0)/d)::fw (x.length-(k+1)) (vl (x.drop (k+1))/d)∧
  (4294967296*(vl (x.drop (k+1))%d)+x.getD k 0)%d=vl (x.drop k)%d:=by
 have e1:vl (x.drop k)=x.getD k 0+4294967296*vl (x.drop (k+1)):=by rw[List.drop_eq_getElem_cons hk,vl,getD_lt hk]
 have hx:=h.get k
 generalize vl (x.drop (k+1))=v at *
 generalize x.getD k 0=u at *
 have e2:=Nat.mod_add_div v d
 have hr:=Nat.mod_lt v hd
 have e3:u+4294967296*v=(4294967296*(v%d)+u)+d*(4294967296*(v/d)):=by
  have:4294967296*v=4294967296*(v%d)+d*(4294967296*(v/d)):=by
   rw[Nat.mul_left_comm d,←Nat.mul_add,e2]
  omega
 have hq:(4294967296*(v%d)+u)/d<4294967296:=Nat.div_lt_of_lt_mul (by
  have:=Nat.mul_le_mul_left 4294967296 hr
  rw[Nat.mul_succ] at this
  rw[Nat.mul_comm];omega)
 rw[e1,e3,Nat.add_mul_div_left _ _ hd,Nat.add_mul_mod_self_left]
 refine⟨?_,rfl⟩
 clear e3 e2
 generalize (4294967296*(v%d)+u)/d=q at *
 generalize v/d=Q at *
 rw[show x.length-k=(x.length-(k+1))+1 by omega,fw]
 congr 1
 ·omega
 ·congr 1;omega
theorem rep_set (k:Nat) (L:List Nat) (q:Nat):(List.replicate (k+1) 0++L).set k q=List.replicate k 0++q::L:=by
 rw[List.replicate_succ',List.append_assoc,List.set_append_right _ _ (by simp),List.length_replicate,Nat.sub_self]
 rfl
theorem cmp3_neg {x y:Nat}:cmp3 x y= -1↔x<y:=by
 unfold cmp3
 by_cases h:x<y
 ·simp[h]
 ·by_cases h2:y<x
  ·simp[h,h2]
  ·simp[h,h2]
end Go.Proofs.YtfengpdaocgcnaaGreatDoor
