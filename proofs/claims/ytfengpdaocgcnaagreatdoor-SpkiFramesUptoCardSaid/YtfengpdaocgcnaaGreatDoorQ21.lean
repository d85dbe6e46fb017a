/- The library's Sub32 and Div32; take. Whole numbers of any size (bignum): the walks of lists of words: cut, compared, added, taken away. The program's products. -/
import Derived.Test.YtfengpdaocgcnaaGreatDoorQ20
namespace Go.Proofs.YtfengpdaocgcnaaGreatDoor
open Nat (reduceMul reduceLeDiff reduceEqDiff reduceLT reduceAdd reduceSub reduceDiv)
open Int (reduceToNat reducePow)
open Go.RowKit
set_option linter.unusedSimpArgs false
set_option maxRecDepth 100000
theorem sub32_fn (J:Inv) (x y b:Nat) (hx:x<4294967296) (hy:y<4294967296) (hb:b≤1):Fn Tryz.prog J 285 false [.val (.int .u32 x), .val (.int .u32 y), .val (.int .u32 b)] (.tu [.val (.int .u32 ((x+8589934592-y-b:Nat)%4294967296:Nat)), .val (.int .u32 (brw x (y+b):Nat))]):=by
 refine fnI Tryz.func285 rfl (by kernel_rfl) rfl (S0_ok J) ?_
 unfold Tryz.f285
 simp only[↓bE,bR,reduceMul,reduceLeDiff,reduceEqDiff,reduceLT,reduceAdd,reduceSub,↓reduceIte,reduceCtorEq,reduceToNat,reducePow,Nat.reduceBEq,reduceDiv,S0,S0f,sdf,wV,unW_wds]
 have e:wr .u32 (wr .u32 ((x:Int)-y)-b)=(((x+8589934592-y-b)%4294967296:Nat):Int):=by rw[wr32,wr32];omega
 have hd:(x+8589934592-y-b)%4294967296<4294967296:=Nat.mod_lt _ (by omega)
 have h1:4294967295^^^x<2^32:=Nat.xor_lt_two_pow (by omega) (by omega)
 have h2:x^^^y<2^32:=Nat.xor_lt_two_pow (by omega) (by omega)
 have h3:4294967295^^^(x^^^y)<2^32:=Nat.xor_lt_two_pow (by omega) (by omega)
 have h4:(4294967295^^^x)&&&y<2^32:=Nat.and_lt_two_pow _ (by omega)
 have h5:(4294967295^^^(x^^^y))&&&((x+8589934592-y-b)%4294967296)<2^32:=Nat.and_lt_two_pow _ (by omega)
 rw[e]
 simp only[bt_eq,show(4294967295:Int)=((4294967295:Nat):Int) from rfl]
 rw[bits_xor32 (by omega) hx,bits_xor32 hx hy,bits_xor32 (by omega) (by omega),bits_and32 (by omega) hy,bits_and32 (by omega) hd,bits_or32 (by omega) (by omega)]
 have hb:=borrow_bit hx hy hb
 refine⟨by omega,trivial,?_⟩
 rw[show(2147483648:Int)=((2147483648:Nat):Int) from rfl,←Int.natCast_ediv,hb]
 rfl
theorem div32_fn (J:Inv) (x y d:Nat) (hx:x<d) (hy:y<4294967296) (hd:d<4294967296):Fn Tryz.prog J 280 false [.val (.int .u32 x), .val (.int .u32 y), .val (.int .u32 d)] (.tu [.val (.int .u32 ((4294967296*x+y)/d:Nat)), .val (.int .u32 ((4294967296*x+y)%d:Nat))]):=by
 refine fnI Tryz.func280 rfl (by kernel_rfl) rfl (S0_ok J) ?_
 unfold Tryz.f280
 simp only[↓bE,bR,reduceMul,reduceLeDiff,reduceEqDiff,reduceLT,reduceAdd,reduceSub,↓reduceIte,reduceCtorEq,reduceToNat,reducePow,Nat.reduceBEq,reduceDiv,S0,S0f,sdf,wV,unW_wds]
 refine⟨fun h=> ?_,fun _=> ?_⟩
 ·exfalso
  simp at h
  omega
 ·have hd0:0<d:=by omega
  have hq:(4294967296*x+y)/d<4294967296:=Nat.div_lt_of_lt_mul (by
   have:=Nat.mul_le_mul_left 4294967296 hx
   rw[Nat.mul_succ] at this
   rw[Nat.mul_comm];omega)
  have hr:(4294967296*x+y)%d<d:=Nat.mod_lt _ hd0
  have e1:bt BinOp.or IntKind.u64 (wr IntKind.u64 (wr IntKind.u64 (x:Int)*4294967296)) (wr IntKind.u64 (y:Int))=((4294967296*x+y:Nat):Int):=by
   rw[wr64n (by omega),wr64n (by omega),show(x:Int)*4294967296=((x*4294967296:Nat):Int) by omega,wr64n (by omega),bt_eq,bits_or64 (by omega) (by omega)]
   congr 1
   rw[Nat.or_comm,show x*4294967296=2^32*x by omega,or_add (by omega)]
   omega
  rw[e1,wr64n (show d<18446744073709551616 by omega)]
  simp only[←Int.natCast_ediv,←Int.natCast_emod]
  rw[wr64n (by omega),wr32n hq,wr32n (by omega)]
  exact⟨by omega,by omega,by omega,by omega,by omega,rfl,rfl⟩
def SGbf:FuncId→List V→CR:=fun f args=>tab [(285,cI .u32 fun x=>cI .u32 fun y=>cI .u32 fun b=>cF [0≤x,x<4294967296,0≤y,y<4294967296,0≤b,b≤1] false (.tu [.val (.int .u32 ((x.toNat+8589934592-y.toNat-b.toNat:Nat)%4294967296:Nat)), .val (.int .u32 (brw x.toNat (y.toNat+b.toNat):Nat))]))] noF f args
def SGb (J:Inv):Sig:=⟨J,sdf,SGbf,noH,0⟩
theorem SGb_ok (J:Inv):SigOk Tryz.prog (SGb J):= .plain (tab_ok (.c (.i fun x=> .i fun y=> .i fun b=> .z fun⟨c0,_,c2,_,c4,_,_⟩=>(by have h:=sub32_fn J x.toNat y.toNat b.toNat (by omega) (by omega) (by omega);rwa [Int.toNat_of_nonneg c0,Int.toNat_of_nonneg c2,Int.toNat_of_nonneg c4] at h))<| .n) noF_ok)
def SGbb (J:Inv) (b:Nat):Sig:=⟨J,sdf,SGbf,noH,b⟩
theorem SGbb_ok (J:Inv) (b:Nat):SigOk Tryz.prog (SGbb J b):=⟨(SGb_ok J).1,(SGb_ok J).2⟩
theorem take_fn (J:Inv) (k nx a n:Nat) (l y:List Nat) (hl:l.length≤1073741824) (hn:a+n≤l.length) (hy:y.length≤n) (wl:W32 l) (wy:W32 y):FnH Tryz.prog J 274 [.vw (.r k) 1 a n,wV y] [(k, .row 156 (wV l))] nx (.val (.int .u32 (brw (vl (seg l a n)) (vl y):Nat))) [(k, .row 156 (wV (taken l a n y)))] nx:=by
 refine fnJ Tryz.func274 rfl (by kernel_rfl) (SGbb_ok J nx) rfl ?_
 unfold Tryz.f274
 simp only[↓bE,bR,reduceMul,reduceLeDiff,reduceEqDiff,reduceLT,reduceAdd,reduceSub,↓reduceIte,reduceCtorEq,reduceToNat,reducePow,Nat.reduceBEq,reduceDiv,SGbb,SGbf,sdf,wV,unW_wds]
 have hsl:=seg_len hn
 refine LoopC.intro (α:=Nat×List Nat×Nat) (fun p=>p.1≤n∧SubI (seg l a n) y p.2.1 p.1 p.2.2) (fun p=>⟨[(0, .vw (.r k) 1 a n),(1,wV y),(4, .val (.int .u32 0)),(5, .val (.int .u32 p.2.2)),(9, .i n),(10, .i p.1)],[(k, .row 156 (wV (putS l a p.2.1)))],nx⟩) (fun p=>n-p.1) (0,[],0) ⟨by omega, .zero _ _⟩ ?_ ?_
 ·simp only[↓bE,bR,reduceMul,reduceLeDiff,reduceEqDiff,reduceLT,reduceAdd,reduceSub,↓reduceIte,reduceCtorEq,reduceToNat,reducePow,Nat.reduceBEq,reduceDiv,wV,putS_nil]
  exact⟨⟨rfl,rfl⟩,Nat.le_refl _⟩
 ·rintro⟨i,o,c⟩ ⟨h3,h4⟩
  have h4:SubI (seg l a n) y o i c:=h4
  have hst:=h4.step (seg_w wl a n) wy
  have h5:=h4.len
  have h6:=h4.b1
  have h7:=wl.get (a+i)
  have h8:=wy.get i
  simp only at h3 h5
  have e0:(putS l a o).length=l.length:=putS_len (by omega)
  have e2:(putS l a o).getD (a+i) 0=l.getD (a+i) 0:=putS_get (by omega) (by omega)
  simp only[↓bE,bR,reduceMul,reduceLeDiff,reduceEqDiff,reduceLT,reduceAdd,reduceSub,↓reduceIte,reduceCtorEq,reduceToNat,reducePow,Nat.reduceBEq,reduceDiv,SGbb,SGbf,sdf,wV,e0,e2,unW_wds]
  refine⟨fun hi=> ?_,fun hi=> ?_⟩
  ·have hi:i<n:=by simpa using hi
   have e3: ∀z,(putS l a o).set (a+i) z=putS l a (o++[z]):=fun z=>by rw[←h5];exact putS_set (by omega) z
   simp only[e3]
   rw[seg_get hi] at hst
   refine⟨fun hj=>⟨by omega,by simpa using hj,by omega,by omega,by omega,by omega,by omega,by omega,by omega,by omega,by omega,by omega,by omega,by omega,by constructor<;>omega,Again.intro (i+1,o++[(l.getD (a+i) 0+8589934592-y.getD i 0-c)%4294967296],brw (l.getD (a+i) 0) (y.getD i 0+c)) ⟨hi,hst⟩ (by simp only;omega) ?_⟩,fun hj=>⟨by omega,by omega,by omega,by omega,by omega,by omega,by omega,by omega,by omega,by omega,by omega,by omega,by constructor<;>omega,?_⟩⟩
   ·simp only[↓bE,bR,reduceMul,reduceLeDiff,reduceEqDiff,reduceLT,reduceAdd,reduceSub,↓reduceIte,reduceCtorEq,reduceToNat,reducePow,Nat.reduceBEq,reduceDiv,wV]
    exact⟨by omega,Nat.le_refl _⟩
   ·have h10:y.getD i 0=0:=getD_ge (by simp at hj;omega)
    rw[h10] at hst
    refine Again.intro (i+1,o++[(l.getD (a+i) 0+8589934592-0-c)%4294967296],brw (l.getD (a+i) 0) (0+c)) ⟨hi,hst⟩ (by simp only;omega) ?_
    simp only[↓bE,bR,reduceMul,reduceLeDiff,reduceEqDiff,reduceLT,reduceAdd,reduceSub,↓reduceIte,reduceCtorEq,reduceToNat,reducePow,Nat.reduceBEq,reduceDiv,wV]
    exact⟨by omega,Nat.le_refl _⟩
  ·obtain rfl:i=n:=by simp at hi;omega
   obtain⟨f1,f2⟩:=SubI.fin (x:=seg l a i) (y:=y) (o:=o) (b:=c) (by rw[hsl];exact h4) (seg_w wl a _) wy (by omega)
   subst f2
   refine .inl ?_
   simp only[↓bE,bR,reduceMul,reduceLeDiff,reduceEqDiff,reduceLT,reduceAdd,reduceSub,↓reduceIte,reduceCtorEq,reduceToNat,reducePow,Nat.reduceBEq,reduceDiv,wV]
   rw[hsl] at f1
   rw[f1]
   exact⟨rfl,Nat.le_refl _⟩
theorem FnH.ro_vw {P:Program} {J:Inv} {f:FuncId} {k nx nx':Nat} {ty:TypeId} {dd:V} {L args:List V} {pre post:List (Nat×Ob)} {res:V} (h:FnH P J f (.vw (.r k) 1 0 L.length::args) pre nx res post nx') (hk:Hroot pre k=some (.row ty (.sq 1 dd L))):FnH P J f (.ro (.r k)::args) pre nx res post nx':=by
 refine⟨h.1,fun w F vs hM hlen hvs=>h.2 w F vs hM hlen fun i v x h1 h2=> ?_⟩
 match i with
 |i+1=>exact hvs (i+1) v x h1 h2
 |0=>
  obtain rfl:V.vw (.r k) 1 0 L.length=v:=by simpa using h1
  have hr:=rep_ro (hvs 0 _ x rfl h2)
  obtain⟨x1,szr,nr,cc,u,xs,hW,he,hown,_⟩:=hM.own (.r k) _ hk
  obtain⟨rfl,rfl,rfl⟩:1=szr∧L.length=nr∧(fun i=>L.getD i dd)=cc:=by simpa [V.elems] using he
  rw[hr] at hW
  obtain rfl:x=x1:=by simpa using hW
  rcases hown.2 with ⟨rfl,h0⟩|⟨g,cap,cur,rfl,_,_,hcap,_⟩
  ·rw[h0]
   exact .vw (.r k) 1 0 0 0 0 none none hr ⟨⟨by omega,by omega,fun h=>by omega⟩,fun h=>by omega⟩
  ·have:=Rep.vw (w:=w) (.r k) 1 0 L.length L.length cap (some ⟨g,0,none⟩) (some ⟨g,0,none⟩) hr ⟨⟨by omega,hcap,fun _=>⟨g,rfl⟩⟩,fun _=>by rw[Option.map_some,addr_at0]⟩
   rwa [Nat.sub_zero] at this
theorem seg_all (l:List Nat):seg l 0 l.length=l:=by unfold seg;rw[List.drop_zero,List.take_length]
theorem taken_all (l y:List Nat):taken l 0 l.length y=fw l.length (vl l+4294967296^l.length-vl y):=by
 unfold taken putS
 rw[seg_all,fw_len,Nat.zero_add,List.drop_length,List.take_zero,List.append_nil,List.nil_append]
theorem take_all (J:Inv) (k nx:Nat) (l y:List Nat) (hl:l.length≤1073741824) (hy:y.length≤l.length) (wl:W32 l) (wy:W32 y):FnH Tryz.prog J 274 [.ro (.r k),wV y] [(k, .row 156 (wV l))] nx (.val (.int .u32 (brw (vl l) (vl y):Nat))) [(k, .row 156 (wV (fw l.length (vl l+4294967296^l.length-vl y))))] nx:=by
 have h:=take_fn J k nx 0 l.length l y hl (by omega) hy wl wy
 rw[seg_all,taken_all] at h
 have e:=wds_len l
 generalize l.length=n at *
 subst e
 exact FnH.ro_vw (ty:=156) (dd:= .val (.int .u32 0)) (L:=wds l) h (by simp[Hroot,wV])
def SGcf:FuncId→List V→Option (List Prop×Bool×V):=fun f args=>
 if f=99 then match args with
  |[.sq 1 da La, .sq 1 db Lb]=>some ([da= .val (.int .u32 0),La=wds (unW La),db= .val (.int .u32 0),Lb=wds (unW Lb),(unW La).length≤1073741824,(unW Lb).length≤1073741824,W32 (unW La),W32 (unW Lb)],false, .i (cmp3 (vl (unW La)) (vl (unW Lb))))
  |_=>none
 else SGaf f args
def SGch:FuncId→List V→List (Nat×Ob)→Nat→Option CallH:=fun f args h nx=>
 if f=274 then match args with
  |[.ro (.r k), .sq 1 dy Ly]=>match Hroot h k with
   |some (.row ty (.sq 1 d L))=>some ⟨[ty=156,d= .val (.int .u32 0),L=wds (unW L),dy= .val (.int .u32 0),Ly=wds (unW Ly),(unW L).length≤1073741824,(unW Ly).length≤(unW L).length,W32 (unW L),W32 (unW Ly)],[false,true],[(k, .row 156 (wV (unW L)))], .val (.int .u32 (brw (vl (unW L)) (vl (unW Ly)):Nat)),[(k, .row 156 (wV (fw (unW L).length (vl (unW L)+4294967296^(unW L).length-vl (unW Ly)))))],nx⟩
   |_=>none
  |_=>none
 else none
def SGc (J:Inv):Sig:=⟨J,sdf,SGcf,SGch,0⟩
theorem SGc_ok (J:Inv):SigOk Tryz.prog (SGc J):=by
 refine⟨fun f args l fr r h hl=> ?_,fun f args h nx c hc hl=> ?_⟩
 ·change SGcf f args=some (l,fr,r) at h
  unfold SGcf at h
  split at h
  ·rename_i hf;subst hf
   split at h
   ·obtain⟨rfl,rfl,rfl⟩:=jsome_tri h
    rename_i da La db Lb
    have q1:da= .val (.int .u32 0):=hl _ (by simp)
    have q2:La=wds (unW La):=hl _ (by simp)
    have q3:db= .val (.int .u32 0):=hl _ (by simp)
    have q4:Lb=wds (unW Lb):=hl _ (by simp)
    subst q1 q3
    have hp:=cmp_fn J (unW La) (unW Lb) (hl _ (by simp)) (hl _ (by simp)) (hl _ (by simp)) (hl _ (by simp))
    unfold wV at hp
    rw[←q2,←q4] at hp
    exact hp
   ·exact absurd h (by simp)
  ·exact(SGa_ok J).1 f args l fr r h hl
 ·change SGch f args h nx=some c at hc
  unfold SGch at hc
  split at hc
  ·rename_i hf;subst hf
   split at hc
   ·rename_i k dy Ly
    split at hc
    ·rename_i ty d L hk
     obtain rfl:=Option.some.inj hc
     have q1:ty=156:=hl _ (by simp)
     have q2:d= .val (.int .u32 0):=hl _ (by simp)
     have q3:L=wds (unW L):=hl _ (by simp)
     have q4:dy= .val (.int .u32 0):=hl _ (by simp)
     have q5:Ly=wds (unW Ly):=hl _ (by simp)
     subst q1 q2 q4
     have hp:=take_all J k nx (unW L) (unW Ly) (hl _ (by simp)) (hl _ (by simp)) (hl _ (by simp)) (hl _ (by simp))
     rw[show wV (unW Ly)= .sq 1 (.val (.int .u32 0)) Ly by unfold wV;rw[←q5]] at hp
     exact hp
    ·exact absurd hc (by simp)
   ·exact absurd hc (by simp)
  ·exact absurd hc (by simp)
theorem sub_fn (J:Inv) (a b:List Nat) (ha:a.length≤67108864) (hb:b.length≤67108864) (wa:W32 a) (wb:W32 b):Fn Tryz.prog J 261 false [wV a,wV b] (.tu [wV (dg (vl a-vl b)), .bb (decide (vl b≤vl a))]):=by
 refine fnI Tryz.func261 rfl (by kernel_rfl) (by simp[V.cl,clL,wV,wds_cl]) (SGc_ok J) ?_
 unfold Tryz.f261
 simp only[↓bE,bR,reduceMul,reduceLeDiff,reduceEqDiff,reduceLT,reduceAdd,reduceSub,↓reduceIte,reduceCtorEq,reduceToNat,reducePow,Nat.reduceBEq,reduceDiv,SGa,SGaf,SGc,SGcf,SGch,sdf,wV,unW_wds]
 have la:=trim_len a
 have lb:=trim_len b
 rw[trim_dg wa] at la
 rw[trim_dg wb] at lb
 have wx:=W32_dg (vl a)
 have wy:=W32_dg (vl b)
 have hlx:=vl_dg (vl a)
 have hly:=vl_dg (vl b)
 generalize vl a=m at *
 generalize vl b=n at *
 rw[cpN_full (by rw[List.length_replicate]),List.take_length,setMany_full (by rw[List.length_replicate])]
 refine⟨by omega,by omega,wa,wb,fun h=> ?_,fun h=> ?_⟩
 ·have hmn:m<n:=by
   rcases Nat.lt_or_ge m n with h1|h1
   ·exact h1
   ·rcases Nat.eq_or_lt_of_le h1 with h2|h2
    ·rw[h2,cmp3_eq] at h;cases h
    ·rw[cmp3_gt h2] at h;cases h
  rw[show m-n=0 by omega,dg_zero]
  refine⟨rfl,?_⟩
  simp;omega
 ·have hmn:n≤m:=by
   rcases Nat.lt_or_ge m n with h1|h1
   ·rw[cmp3_lt h1] at h;cases h
   ·exact h1
  have h1:=dg_hi m
  have h2:(dg n).length≤(dg m).length:=dg_len (by omega)
  have e:vl (fw (dg m).length (vl (dg m)+4294967296^(dg m).length-vl (dg n)))=m-n:=by
   rw[fw_vl,hlx,hly,show m+4294967296^(dg m).length-n=m-n+4294967296^(dg m).length by omega,Nat.add_mod_right,Nat.mod_eq_of_lt (by omega)]
  rw[e]
  refine⟨by omega,wa,by omega,wb,by omega,by omega,by omega,by omega,h2,wx,wy,by rw[fw_len];omega,fw_w _ _,rfl,by simp;omega⟩
theorem btrim_fn (J:Inv) (l:List Nat) (hl:l.length≤1073741824):Fn Tryz.prog J 204 false [wV l] (wV (trim l)):=by
 refine fnI Tryz.func204 rfl (by kernel_rfl) (wV_cl _) (S0_ok J) ?_
 unfold Tryz.f204
 simp only[↓bD,bQ,reduceMul,reduceLeDiff,reduceEqDiff,reduceLT,reduceAdd,reduceSub,↓reduceIte,reduceCtorEq,reduceToNat,reducePow,Nat.reduceBEq,reduceDiv,S0,S0f]
 refine LoopC.intro (α:=Nat) (fun k=>k≤l.length∧trim (l.take k)=trim l) (fun k=>⟨[(0,wV l),(3, .i k)],[],0⟩) (fun k=>k) l.length ⟨Nat.le_refl _,by rw[List.take_length]⟩ ?_ ?_
 ·simp only[↓bD,bQ,reduceMul,reduceLeDiff,reduceEqDiff,reduceLT,reduceAdd,reduceSub,↓reduceIte,reduceCtorEq,reduceToNat,reducePow,Nat.reduceBEq,reduceDiv]
 ·rintro k ⟨h1,h2⟩
  simp only[↓bD,bQ,reduceMul,reduceLeDiff,reduceEqDiff,reduceLT,reduceAdd,reduceSub,↓reduceIte,reduceCtorEq,reduceToNat,reducePow,Nat.reduceBEq,reduceDiv,S0,S0f]
  have e:((k:Int)-1).toNat=k-1:=by omega
  rw[e]
  refine⟨fun _=>by constructor<;>omega,fun hb=>by omega,fun _=>by omega,fun hb=> ?_,fun hb=> ?_⟩
  ·simp only[Bool.and_eq_true,decide_eq_true_eq,beq_iff_eq] at hb
   obtain⟨k,rfl⟩: ∃j,k=j+1:=⟨k-1,by omega⟩
   have h3:l.getD k 0=0:=by have:=hb.2;rw[Nat.add_sub_cancel] at this;omega
   refine⟨by constructor<;>omega,Again.intro k ⟨by omega,by rw[←h2,trim_take (by omega) h3]⟩ (by omega) ?_⟩
   simp only[↓bD,bQ,reduceMul,reduceLeDiff,reduceEqDiff,reduceLT,reduceAdd,reduceSub,↓reduceIte,reduceCtorEq,reduceToNat,reducePow,Nat.reduceBEq,reduceDiv]
   omega
  ·refine⟨by omega,by omega,?_⟩
   congr 1
   rw[←h2]
   cases k with
   |zero=>rfl
   |succ k=>
    rw[trim_take_last (by omega)]
    intro h0
    rw[Nat.add_sub_cancel,h0] at hb
    simp at hb
structure Pr (a:List Nat):Prop where
 eq:a=dg (vl a)
 len:a.length≤1048576
theorem Pr.w {a:List Nat} (h:Pr a):W32 a:=by rw[h.eq];exact W32_dg _
theorem Pr.of {n:Nat} (h:(dg n).length≤1048576):Pr (dg n):=⟨by rw[vl_dg],h⟩
theorem Pr.nil:Pr []:=⟨by rw[show vl []=0 from rfl,dg_zero],by simp⟩
def SBtf:FuncId→List V→CR:=fun f args=>tab [(204,cW fun a=>cF [a.length≤1073741824,W32 a] false (wV (dg (vl a))))] noF f args
def SBt (J:Inv):Sig:=⟨J,sdf,SBtf,noH,0⟩
theorem SBt_ok (J:Inv):SigOk Tryz.prog (SBt J):= .plain (tab_ok (.c (.w fun a=> .z fun⟨c0,c1,_⟩=>(by have h:=btrim_fn J a c0;rwa [trim_dg c1] at h))<| .n) noF_ok)
theorem words_pair (n:Nat) (h:n<18446744073709551616):[V.val (.int .u32 (wr .u32 (n:Int))),V.val (.int .u32 (wr .u32 ((n:Int)/4294967296)))]=wds [n%4294967296,n/4294967296]:=by
 rw[wr32m,show(n:Int)/4294967296=((n/4294967296:Nat):Int) by omega,wr32n (by omega)]
 rfl
theorem words_fn (J:Inv) (n:Nat) (h:n<18446744073709551616):Fn Tryz.prog J 152 false [.val (.int .u64 n)] (wV (dg n)):=by
 refine fnI Tryz.func152 rfl (by kernel_rfl) (wV_cl _) (SBt_ok J) ?_
 unfold Tryz.f152
 have e1:=words_pair n h
 have e2:unW [V.val (.int .u32 (wr .u32 (n:Int))),V.val (.int .u32 (wr .u32 ((n:Int)/4294967296)))]=[n%4294967296,n/4294967296]:=by rw[e1,unW_wds]
 simp only[↓bD,bQ,reduceMul,reduceLeDiff,reduceEqDiff,reduceLT,reduceAdd,reduceSub,↓reduceIte,reduceCtorEq,reduceToNat,reducePow,Nat.reduceBEq,reduceDiv,SBt,SBtf,e2]
 have hv:vl [n%4294967296,n/4294967296]=n:=by show n%4294967296+4294967296*(n/4294967296+4294967296*0)=n;omega
 rw[hv]
 refine⟨by omega,e1,fun x hx=> ?_,rfl⟩
 simp only[List.mem_cons,List.not_mem_nil,or_false] at hx
 rcases hx with rfl|rfl<;>omega
theorem bcmp_fn (J:Inv) (a b:List Nat) (ha:Pr a) (hb:Pr b):Fn Tryz.prog J 203 false [wV a,wV b] (.i (cmp3 (vl a) (vl b))):=by
 refine fnI Tryz.func203 rfl (by kernel_rfl) rfl (SBt_ok J) ?_
 unfold Tryz.f203
 simp only[↓bD,bQ,reduceMul,reduceLeDiff,reduceEqDiff,reduceLT,reduceAdd,reduceSub,↓reduceIte,reduceCtorEq,reduceToNat,reducePow,Nat.reduceBEq,reduceDiv,SBt,SBtf]
 have wx:=ha.w
 have wy:=hb.w
 have la:=ha.len
 have lb:=hb.len
 have ea:=ha.eq
 have eb:=hb.eq
 refine⟨fun h=>⟨fun h2=> ?_,fun h2=> ?_⟩,fun h=>⟨by constructor<;>omega,?_⟩⟩
 ·rw[cmp3_lt (dg_lt (by rw[←ea,←eb];simpa using h2))]
 ·rw[cmp3_gt (dg_lt (by rw[←ea,←eb];simp at h h2;omega))]
 ·have hab:a.length=b.length:=by simp at h;omega
  refine LoopC.intro (α:=Nat) (fun k=>k≤a.length∧cmp3 (vl a) (vl b)=cmp3 (vl (a.take k)) (vl (b.take k))) (fun k=>⟨[(0,wV a),(1,wV b),(5, .i ((k:Int)-1))],[],0⟩) (fun k=>k) a.length ⟨Nat.le_refl _,by rw[List.take_length,hab,List.take_length]⟩ ?_ ?_
  ·simp only[↓bD,bQ,reduceMul,reduceLeDiff,reduceEqDiff,reduceLT,reduceAdd,reduceSub,↓reduceIte,reduceCtorEq,reduceToNat,reducePow,Nat.reduceBEq,reduceDiv]
  ·rintro k ⟨h3,h4⟩
   simp only[↓bD,bQ,reduceMul,reduceLeDiff,reduceEqDiff,reduceLT,reduceAdd,reduceSub,↓reduceIte,reduceCtorEq,reduceToNat,reducePow,Nat.reduceBEq,reduceDiv,SBt,SBtf]
   refine⟨fun h5=> ?_,fun h5=> ?_⟩
   ·obtain⟨k,rfl⟩: ∃j,k=j+1:=⟨k-1,by simp at h5;omega⟩
    rw[show(((k+1:Nat):Int)-1).toNat=k by omega]
    refine⟨by omega,by omega,by omega,by omega,fun h6=>⟨by omega,by omega,by omega,by omega,fun h7=> ?_,fun h7=> ?_⟩,fun h6=>⟨by constructor<;>omega,Again.intro k ⟨by omega,?_⟩ (by omega) ?_⟩⟩
    ·rw[h4,cmp3_lt (word_lt wx (by simpa using h7))]
    ·rw[h4,cmp3_gt (word_lt wy (by rw[decide_eq_false_iff_not] at h7;rw[Bool.not_eq_true',beq_eq_false_iff_ne] at h6;omega))]
    ·rw[h4,word_eq (by rw[Bool.not_eq_false',beq_iff_eq] at h6;omega)]
    ·simp only[↓bD,bQ,reduceMul,reduceLeDiff,reduceEqDiff,reduceLT,reduceAdd,reduceSub,↓reduceIte,reduceCtorEq,reduceToNat,reducePow,Nat.reduceBEq,reduceDiv]
     omega
   ·obtain rfl:k=0:=by simp at h5;omega
    rw[h4]
    rfl
theorem badd_fn (J:Inv) (a b:List Nat) (ha:a.length≤67108864) (hb:b.length≤67108864) (wa:W32 a) (wb:W32 b):Fn Tryz.prog J 150 false [wV a,wV b] (wV (dg (vl a+vl b))):=by
 refine fnI Tryz.func150 rfl (by kernel_rfl) (wV_cl _) (SBt_ok J) ?_
 unfold Tryz.f150
 simp only[↓bD,bQ,reduceMul,reduceLeDiff,reduceEqDiff,reduceLT,reduceAdd,reduceSub,↓reduceIte,reduceCtorEq,reduceToNat,reducePow,Nat.reduceBEq,reduceDiv,SBt,SBtf]
 refine⟨fun h=> ?_,fun h=> ?_⟩
 case' refine_1=>
  rw[Nat.add_comm (vl a)]
  have hxy:a.length≤b.length:=by simp at h;omega
  clear h
  generalize b=u at *
  generalize a=v at *
  refine⟨by constructor<;>omega,by omega,by omega,by omega,?_⟩
  rw[show((u.length:Int)+1).toNat=u.length+1 by omega]
  have lu:u.length≤67108864:=by omega
  have wu:W32 u:=wb
  have wv:W32 v:=wa
 case' refine_2=>
  have hxy:b.length≤a.length:=by simp at h;omega
  clear h
  generalize a=u at *
  generalize b=v at *
  refine⟨by constructor<;>omega,by omega,by omega,by omega,?_⟩
  rw[show((u.length:Int)+1).toNat=u.length+1 by omega]
  have lu:u.length≤67108864:=by omega
  have wu:W32 u:=wa
  have wv:W32 v:=wb
 all_goals
  refine LoopC.intro (α:=Nat×List Nat×Nat) (fun p=>p.1≤u.length∧AddI u v p.2.1 p.1 p.2.2) (fun p=>⟨[(0,wV u),(1,wV v),(5, .ro (.r 0)),(6, .val (.int .u64 p.2.2)),(7, .i p.1)],[(0, .row 156 (wV (p.2.1++List.replicate (u.length+1-p.1) 0)))],1⟩) (fun p=>u.length-p.1) (0,[],0) ⟨by omega, .zero u v⟩ ?_ ?_
  ·simp only[↓bD,bQ,reduceMul,reduceLeDiff,reduceEqDiff,reduceLT,reduceAdd,reduceSub,↓reduceIte,reduceCtorEq,reduceToNat,reducePow,Nat.reduceBEq,reduceDiv]
   exact⟨rfl,rfl⟩
  ·rintro⟨i,o,c⟩ ⟨h3,h4⟩
   have h4:AddI u v o i c:=h4
   have hst:=h4.step wu wv
   have h5:=h4.len
   have h6:=h4.c1
   have h7:=wu.get i
   have h8:=wv.get i
   have h9:=h4.w
   simp only at h3 h5
   have e0:(o++List.replicate (u.length+1-i) 0).length=u.length+1:=by rw[List.length_append,List.length_replicate];omega
   simp only[↓bD,bQ,reduceMul,reduceLeDiff,reduceEqDiff,reduceLT,reduceAdd,reduceSub,↓reduceIte,reduceCtorEq,reduceToNat,reducePow,Nat.reduceBEq,reduceDiv,SBt,SBtf,e0]
   refine⟨fun hi=> ?_,fun hi=> ?_⟩
   ·have hi:i<u.length:=by simpa using hi
    have e1: ∀z,(o++List.replicate (u.length+1-i) 0).set i z=o++[z]++List.replicate (u.length+1-(i+1)) 0:=fun z=>by
     rw[←h5,show u.length+1-o.length=(u.length-o.length)+1 by omega,set_zeros]
     congr 2;omega
    simp only[e1]
    refine⟨by omega,by omega,fun hj=>⟨by omega,by simpa using hj,by omega,by omega,by omega,by omega,by constructor<;>omega,?_⟩,fun hj=>⟨by omega,by omega,by omega,by omega,by constructor<;>omega,?_⟩⟩
    ·refine Again.intro (i+1,o++[(c+u.getD i 0+v.getD i 0)%4294967296],(c+u.getD i 0+v.getD i 0)/4294967296) ⟨hi,hst⟩ (by simp only;omega) ?_
     simp only[↓bD,bQ,reduceMul,reduceLeDiff,reduceEqDiff,reduceLT,reduceAdd,reduceSub,↓reduceIte,reduceCtorEq,reduceToNat,reducePow,Nat.reduceBEq,reduceDiv]
     simp(disch:=omega) only[wr64n,←Int.natCast_add,w32_nat]
     exact⟨⟨by omega,by omega⟩,by rw[Nat.add_assoc]⟩
    ·have h10:v.getD i 0=0:=getD_ge (by simp at hj;omega)
     rw[h10,Nat.add_zero] at hst
     refine Again.intro (i+1,o++[(c+u.getD i 0)%4294967296],(c+u.getD i 0)/4294967296) ⟨hi,hst⟩ (by simp only;omega) ?_
     simp only[↓bD,bQ,reduceMul,reduceLeDiff,reduceEqDiff,reduceLT,reduceAdd,reduceSub,↓reduceIte,reduceCtorEq,reduceToNat,reducePow,Nat.reduceBEq,reduceDiv]
     simp(disch:=omega) only[wr64n,←Int.natCast_add,w32_nat]
     exact⟨⟨by omega,by omega⟩,trivial⟩
   ·obtain rfl:i=u.length:=by simp at hi;omega
    have e1: ∀z,(o++List.replicate (u.length+1-u.length) 0).set u.length z=o++[z]:=fun z=>by
     rw[show u.length+1-u.length=0+1 by omega]
     rw[←h5,set_zeros,List.replicate_zero,List.append_nil]
    simp only[e1,w32_nat,Nat.mod_eq_of_lt (show c<4294967296 by omega),h4.fin hxy]
    refine⟨by omega,by omega,by omega,?_,h4.w.app (W32.one (by omega)),trivial⟩
    rw[List.length_append,h5,List.length_singleton];omega
theorem bsub_fn (J:Inv) (a b:List Nat) (ha:a.length≤67108864) (hb:b.length≤a.length) (wa:W32 a) (wb:W32 b) (hle:vl b≤vl a):Fn Tryz.prog J 236 false [wV a,wV b] (wV (dg (vl a-vl b))):=by
 refine fnI Tryz.func236 rfl (by kernel_rfl) (wV_cl _) (SBt_ok J) ?_
 unfold Tryz.f236
 simp only[↓bD,bQ,reduceMul,reduceLeDiff,reduceEqDiff,reduceLT,reduceAdd,reduceSub,↓reduceIte,reduceCtorEq,reduceToNat,reducePow,Nat.reduceBEq,reduceDiv,SBt,SBtf]
 refine⟨by omega,by omega,by omega,?_⟩
 refine LoopC.intro (α:=Nat×List Nat×Nat) (fun p=>p.1≤a.length∧SubI a b p.2.1 p.1 p.2.2) (fun p=>⟨[(0,wV a),(1,wV b),(5, .ro (.r 0)),(6, .val (.int .u64 p.2.2)),(7, .i p.1)],[(0, .row 156 (wV (p.2.1++List.replicate (a.length-p.1) 0)))],1⟩) (fun p=>a.length-p.1) (0,[],0) ⟨by omega, .zero a b⟩ ?_ ?_
 ·simp only[↓bD,bQ,reduceMul,reduceLeDiff,reduceEqDiff,reduceLT,reduceAdd,reduceSub,↓reduceIte,reduceCtorEq,reduceToNat,reducePow,Nat.reduceBEq,reduceDiv]
  exact⟨rfl,rfl⟩
 ·rintro⟨i,o,c⟩ ⟨h3,h4⟩
  have h4:SubI a b o i c:=h4
  have hst:=h4.step wa wb
  have h5:=h4.len
  have h6:=h4.b1
  have h7:=wa.get i
  have h8:=wb.get i
  have h9:=h4.w
  simp only at h3 h5
  have e0:(o++List.replicate (a.length-i) 0).length=a.length:=by rw[List.length_append,List.length_replicate];omega
  simp only[↓bD,bQ,reduceMul,reduceLeDiff,reduceEqDiff,reduceLT,reduceAdd,reduceSub,↓reduceIte,reduceCtorEq,reduceToNat,reducePow,Nat.reduceBEq,reduceDiv,SBt,SBtf,e0]
  refine⟨fun hi=> ?_,fun hi=> ?_⟩
  ·have hi:i<a.length:=by simpa using hi
   have e1: ∀z,(o++List.replicate (a.length-i) 0).set i z=o++[z]++List.replicate (a.length-(i+1)) 0:=fun z=>by
    rw[←h5,show a.length-o.length=(a.length-(o.length+1))+1 by omega,set_zeros]
   simp only[e1]
   have key: ∀y:Nat,y<4294967296→w32 (wr .u64 (wr .u64 ((a.getD i 0:Nat)-(c:Int))-(y:Int)))=(a.getD i 0+8589934592-y-c)%4294967296∧wr .u64 (wr .u64 ((a.getD i 0:Nat)-(c:Int))-(y:Int))/9223372036854775808=(brw (a.getD i 0) (y+c):Nat):=fun y hy=>by
    have e2:wr .u64 (wr .u64 ((a.getD i 0:Nat)-(c:Int))-(y:Int))=((a.getD i 0:Nat)-(c:Int)-y)%18446744073709551616:=by
     rw[wr_eq,wr_eq]
     show(((a.getD i 0:Nat)-(c:Int))%18446744073709551616-(y:Int))%18446744073709551616=_
     omega
    rw[e2]
    unfold w32 brw
    refine⟨by omega,?_⟩
    split<;>omega
   refine⟨by omega,by omega,fun hj=>⟨by omega,by simpa using hj,by omega,by omega,hi,by omega,by constructor<;>omega,?_⟩,fun hj=>⟨by omega,by omega,hi,by omega,by constructor<;>omega,?_⟩⟩
   ·obtain⟨k1,k2⟩:=key _ h8
    refine Again.intro (i+1,o++[(a.getD i 0+8589934592-b.getD i 0-c)%4294967296],brw (a.getD i 0) (b.getD i 0+c)) ⟨hi,hst⟩ (by simp only;omega) ?_
    simp only[↓bD,bQ,reduceMul,reduceLeDiff,reduceEqDiff,reduceLT,reduceAdd,reduceSub,↓reduceIte,reduceCtorEq,reduceToNat,reducePow,Nat.reduceBEq,reduceDiv]
    rw[wr64n (show a.getD i 0<18446744073709551616 by omega),wr64n (show b.getD i 0<18446744073709551616 by omega),k1]
    exact⟨⟨k2,by omega⟩,rfl⟩
   ·have h10:b.getD i 0=0:=getD_ge (by simp at hj;omega)
    rw[h10] at hst
    have k3:wr .u64 ((a.getD i 0:Nat)-(c:Int))=((a.getD i 0:Nat)-(c:Int))%18446744073709551616:=by rw[wr_eq];rfl
    have k1:w32 (wr .u64 ((a.getD i 0:Nat)-(c:Int)))=(a.getD i 0+8589934592-c)%4294967296:=by rw[k3];unfold w32;omega
    have k2:wr .u64 ((a.getD i 0:Nat)-(c:Int))/9223372036854775808=(brw (a.getD i 0) c:Nat):=by rw[k3];unfold brw;split<;>omega
    refine Again.intro (i+1,o++[(a.getD i 0+8589934592-0-c)%4294967296],brw (a.getD i 0) (0+c)) ⟨hi,hst⟩ (by simp only;omega) ?_
    simp only[↓bD,bQ,reduceMul,reduceLeDiff,reduceEqDiff,reduceLT,reduceAdd,reduceSub,↓reduceIte,reduceCtorEq,reduceToNat,reducePow,Nat.reduceBEq,reduceDiv]
    rw[wr64n (show a.getD i 0<18446744073709551616 by omega),k1]
    exact⟨⟨k2,by omega⟩,rfl⟩
  ·obtain rfl:i=a.length:=by simp at hi;omega
   obtain⟨f1,f2⟩:=SubI.fin (x:=a) (y:=b) (o:=o) (b:=c) h4 wa wb hb
   have e3:vl o=vl a-vl b:=by
    have h10:=vl_lt wa
    rw[f1,fw_vl,show vl a+4294967296^a.length-vl b=vl a-vl b+4294967296^a.length by omega,Nat.add_mod_right,Nat.mod_eq_of_lt (by omega)]
   rw[Nat.sub_self,List.replicate_zero,List.append_nil,e3]
   exact⟨by omega,h9,rfl⟩
theorem mul_fn (J:Inv) (a b:List Nat) (ha:a.length≤67108864) (hb:b.length≤67108864) (wa:W32 a) (wb:W32 b):Fn Tryz.prog J 239 false [wV a,wV b] (wV (dg (vl a*vl b))):=by
 refine fnI Tryz.func239 rfl (by kernel_rfl) (wV_cl _) (SGa_ok J) ?_
 unfold Tryz.f239
 simp only[↓bE,bR,reduceMul,reduceLeDiff,reduceEqDiff,reduceLT,reduceAdd,reduceSub,↓reduceIte,reduceCtorEq,reduceToNat,reducePow,Nat.reduceBEq,reduceDiv,SGa,SGaf,sdf,wV,unW_wds]
 have la:=trim_len a
 have lb:=trim_len b
 rw[trim_dg wa] at la
 rw[trim_dg wb] at lb
 have wx:=W32_dg (vl a)
 have wy:=W32_dg (vl b)
 rw[show vl a*vl b=vl (dg (vl a))*vl (dg (vl b)) by rw[vl_dg,vl_dg]]
 generalize dg (vl a)=x at *
 generalize dg (vl b)=y at *
 refine⟨by omega,wa,by omega,wb,by constructor<;>omega,by omega,by omega,by omega,?_⟩
 rw[show((x.length:Int)+y.length).toNat=x.length+y.length by omega]
 refine LoopC.intro (α:=Nat×List Nat) (fun p=>p.1≤x.length∧MulI x y p.2 p.1 0 0) (fun p=>⟨[(5,wV x),(6,wV y),(7, .ro (.r 0)),(23,wV x),(24, .i x.length),(25, .i p.1)],[(0, .row 156 (wV p.2))],1⟩) (fun p=>x.length-p.1) (0,_) ⟨by omega, .zero x y⟩ ?_ ?_
 ·simp only[↓bE,bR,reduceMul,reduceLeDiff,reduceEqDiff,reduceLT,reduceAdd,reduceSub,↓reduceIte,reduceCtorEq,reduceToNat,reducePow,Nat.reduceBEq,reduceDiv,wV]
  exact rfl
 ·rintro⟨i,L⟩ ⟨h1,h2⟩
  have h2:MulI x y L i 0 0:=h2
  simp only at h1
  have e0:=h2.len
  simp only[↓bE,bR,reduceMul,reduceLeDiff,reduceEqDiff,reduceLT,reduceAdd,reduceSub,↓reduceIte,reduceCtorEq,reduceToNat,reducePow,Nat.reduceBEq,reduceDiv,SGa,SGaf,sdf,wV,e0,unW_wds]
  refine⟨fun hi=> ?_,fun hi=> ?_⟩
  ·have hi:i<x.length:=by simpa using hi
   refine⟨by omega,by omega,?_⟩
   refine LoopC.intro (α:=Nat×List Nat×Nat) (fun p=>p.1≤y.length∧MulI x y p.2.1 i p.1 p.2.2) (fun p=>⟨[(5,wV x),(6,wV y),(7, .ro (.r 0)),(8, .i i),(9, .val (.int .u32 (x.getD i 0:Nat))),(10, .val (.int .u64 p.2.2)),(23,wV x),(24, .i x.length),(25, .i i),(30,wV y),(31, .i y.length),(32, .i p.1)],[(0, .row 156 (wV p.2.1))],1⟩) (fun p=>y.length-p.1) (0,L,0) ⟨by omega,h2⟩ ?_ ?_
   ·simp only[↓bE,bR,reduceMul,reduceLeDiff,reduceEqDiff,reduceLT,reduceAdd,reduceSub,↓reduceIte,reduceCtorEq,reduceToNat,reducePow,Nat.reduceBEq,reduceDiv,wV]
    exact⟨rfl,rfl⟩
   ·rintro⟨j,M,c⟩ ⟨h3,h4⟩
    have h4:MulI x y M i j c:=h4
    simp only at h3
    have e1:=h4.len
    have t1:((i:Int)+j).toNat=i+j:=by omega
    have t2:((i:Int)+y.length).toNat=i+y.length:=by omega
    simp only[↓bE,bR,reduceMul,reduceLeDiff,reduceEqDiff,reduceLT,reduceAdd,reduceSub,↓reduceIte,reduceCtorEq,reduceToNat,reducePow,Nat.reduceBEq,reduceDiv,SGa,SGaf,sdf,wV,e1,t1,t2,unW_wds]
    refine⟨fun hj=> ?_,fun hj=> ?_⟩
    ·have hj:j<y.length:=by simpa using hj
     have hb:=mul_bound h4.c1 (wx.get i) (wy.get j) (h4.w.get (i+j))
     have b1:=wx.get i
     have b2:=wy.get j
     have b3:=h4.w.get (i+j)
     have hst:=h4.step wx wy hi hj
     refine⟨by omega,by omega,by constructor<;>omega,by omega,by omega,by omega,by constructor<;>omega,by omega,by omega,by omega,by omega,by constructor<;>omega,?_⟩
     refine Again.intro (j+1,M.set (i+j) ((c+(x.getD i 0*y.getD j 0+M.getD (i+j) 0))%4294967296),(c+(x.getD i 0*y.getD j 0+M.getD (i+j) 0))/4294967296) ⟨hj,hst⟩ (by simp only;omega) ?_
     simp only[↓bE,bR,reduceMul,reduceLeDiff,reduceEqDiff,reduceLT,reduceAdd,reduceSub,↓reduceIte,reduceCtorEq,reduceToNat,reducePow,Nat.reduceBEq,reduceDiv,wV,t1]
     rw[wr64n (n:=x.getD i 0) (by omega),wr64n (n:=y.getD j 0) (by omega),wr64n (n:=M.getD (i+j) 0) (by omega)]
     simp only[←Int.natCast_mul]
     generalize x.getD i 0*y.getD j 0=u at *
     simp(disch:=omega) only[wr64n,←Int.natCast_add,w32_nat]
     exact⟨by omega,trivial⟩
    ·obtain rfl:j=y.length:=by simp at hj;omega
     refine⟨by constructor<;>omega,by omega,by omega,by omega,by constructor<;>omega,?_⟩
     refine Again.intro (i+1,M.set (i+y.length) c) ⟨hi,h4.next hi⟩ (by simp only;omega) ?_
     simp only[↓bE,bR,reduceMul,reduceLeDiff,reduceEqDiff,reduceLT,reduceAdd,reduceSub,↓reduceIte,reduceCtorEq,reduceToNat,reducePow,Nat.reduceBEq,reduceDiv,wV,t2]
     rw[w32_nat,Nat.mod_eq_of_lt h4.c1]
     exact⟨by omega,rfl⟩
  ·obtain rfl:i=x.length:=by simp at hi;omega
   rw[h2.fin]
   exact⟨by omega,h2.w,rfl⟩
end Go.Proofs.YtfengpdaocgcnaaGreatDoor
