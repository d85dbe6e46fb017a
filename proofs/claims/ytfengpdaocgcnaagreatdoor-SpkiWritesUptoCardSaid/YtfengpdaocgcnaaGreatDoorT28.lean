/- Ed25519's field: sums, products, powers, inverses modulo p. Ed25519: the number of bytes; the x of a y. Ed25519: the point of 32 bytes. -/
import Derived.Test.YtfengpdaocgcnaaGreatDoorT27
namespace Go.Proofs.YtfengpdaocgcnaaGreatDoor
open Nat (reduceMul reduceLeDiff reduceEqDiff reduceLT reduceAdd reduceSub reduceDiv)
open Int (reduceToNat reducePow)
open Go.RowKit
set_option linter.unusedSimpArgs false
set_option maxRecDepth 100000
def primeL:List Nat:=[4294967277,4294967295,4294967295,4294967295,4294967295,4294967295,4294967295,2147483647]
def curveL:List Nat:=[324630691,1978355146,1094834347,7342669,2004478104,2361868409,728759923,1375956206]
def rootL:List Nat:=[3052494653,991028440,1389370247,3502041081,3255052376,3568500582,2956861684,1417468799]
def curveN:Nat:=vl curveL
def rootN:Nat:=vl rootL
theorem prime_dg:primeL=dg p25519:=by
 have h:trim primeL=dg (vl primeL):=trim_dg (by unfold W32 primeL;decide)
 rw[show trim primeL=primeL by decide,show vl primeL=p25519 by rw[p25519_eq];decide] at h
 exact h
theorem curve_dg:curveL=dg curveN:=by
 have h:trim curveL=dg (vl curveL):=trim_dg (by unfold W32 curveL;decide)
 rw[show trim curveL=curveL by decide] at h
 exact h
theorem root_dg:rootL=dg rootN:=by
 have h:trim rootL=dg (vl rootL):=trim_dg (by unfold W32 rootL;decide)
 rw[show trim rootL=rootL by decide] at h
 exact h
theorem curve_lt:curveN<p25519:=by rw[p25519_eq];decide
theorem root_lt:rootN<p25519:=by rw[p25519_eq];decide
theorem fzL_nums (h:List (Nat×Ob)) (k:IntKind): ∀l:List Int,fzL h (nums k l)=(nums k l,[])
 |[]=>rfl
 |x::r=>by
  have:=fzL_nums h k r
  simp only[nums,List.map_cons,fzL,fz1] at this⊢
  rw[this]
  rfl
theorem fzL_wds (h:List (Nat×Ob)) (l:List Nat):fzL h (wds l)=(wds l,[]):=fzL_nums h _ _
theorem rt_wds (l:List Nat):(wds l).flatMap rt1=[]:=by simp[wds,nums,rt1]
structure EdT (J:Inv):Prop where
 p:J.gl.g 0=some (.pe (.sq 8 .any [.st (wds primeL)]) 0 0)
 c:J.gl.g 2=some (.pe (.sq 8 .any [.st (wds curveL)]) 0 0)
 r:J.gl.g 3=some (.pe (.sq 8 .any [.st (wds rootL)]) 0 0)
def SGlmf:FuncId→List V→Option (List Prop×Bool×V):=fun f args=>
 if f=155 then match args with
  |[.st L]=>some ([L=wds (unW L),(unW L).length=8],false,wV (unW L))
  |_=>none
 else none
def SGlm (J:Inv):Sig:=⟨J,sdf,SGlmf,noH,0⟩
theorem SGlm_ok (J:Inv):SigOk Tryz.prog (SGlm J):=by
 refine .plain fun f args l fr r h hl=> ?_
 change SGlmf f args=some (l,fr,r) at h
 unfold SGlmf at h
 split at h
 ·rename_i hf;subst hf
  split at h
  ·obtain⟨rfl,rfl,rfl⟩:=jsome_tri h
   rename_i L
   have q1:L=wds (unW L):=hl _ (by simp)
   have hp:=limbs_fn J (unW L) (hl _ (by simp))
   rw[←q1] at hp
   exact hp
  ·exact absurd h (by simp)
 ·exact absurd h (by simp)
section
variable (J:Inv) (hJ:EdT J)
include hJ
theorem prime_fn:Fn Tryz.prog J 100 false [] (wV (dg p25519)):=by
 rw[←prime_dg]
 refine fnI Tryz.func100 rfl (by kernel_rfl) (wV_cl _) (SGlm_ok J) ?_
 unfold Tryz.f100
 have h:=hJ.p
 have h8:primeL.length=8:=rfl
 simp only[bQ,↓reduceIte,reduceCtorEq,SGlm,SGlmf,h,h8,fzL_wds,rt_wds]
theorem curve_fn:Fn Tryz.prog J 160 false [] (wV (dg curveN)):=by
 rw[←curve_dg]
 refine fnI Tryz.func160 rfl (by kernel_rfl) (wV_cl _) (SGlm_ok J) ?_
 unfold Tryz.f160
 have h:=hJ.c
 have h8:curveL.length=8:=rfl
 simp only[bQ,↓reduceIte,reduceCtorEq,SGlm,SGlmf,h,h8,fzL_wds,rt_wds]
theorem root_fn:Fn Tryz.prog J 164 false [] (wV (dg rootN)):=by
 rw[←root_dg]
 refine fnI Tryz.func164 rfl (by kernel_rfl) (wV_cl _) (SGlm_ok J) ?_
 unfold Tryz.f164
 have h:=hJ.r
 have h8:rootL.length=8:=rfl
 simp only[bQ,↓reduceIte,reduceCtorEq,SGlm,SGlmf,h,h8,fzL_wds,rt_wds]
end
structure Sm (a:List Nat):Prop where
 len:a.length≤33554432
 w:W32 a
 n:(dg (vl a)).length≤128
theorem p_len:(dg p25519).length≤8:=by rw[←prime_dg];decide
theorem Sm.of_lt {n:Nat} (h:n<p25519):Sm (dg n):=by
 have h1:=dg_mono (Nat.le_of_lt h)
 have h2:=p_len
 exact⟨by omega,W32_dg _,by rw[vl_dg];omega⟩
theorem Sm_curve:Sm (dg curveN):= .of_lt curve_lt
theorem Sm_root:Sm (dg rootN):= .of_lt root_lt
theorem Sm_nil:Sm []:=⟨by simp,W32.nil,by simp[vl,dg_zero]⟩
theorem Sm_one:Sm [1]:=⟨by simp,W32.one (by omega),by rw[vl_one,dg_one];simp⟩
theorem Sm_p:Sm (dg p25519):=⟨by have:=p_len;omega,W32_dg _,by rw[vl_dg];have:=p_len;omega⟩
theorem Sm.mods {a b:List Nat} (ha:Sm a) (hb:Sm b):Mods [a,b,dg p25519]:=
 ⟨fun x hx=>by
  have:=Sm_p
  simp only[List.mem_cons,List.not_mem_nil,or_false] at hx
  rcases hx with rfl|rfl|rfl
  ·exact⟨ha.len,ha.w,ha.n⟩
  ·exact⟨hb.len,hb.w,hb.n⟩
  ·exact⟨this.len,this.w,this.n⟩,by simp,by show 2≤vl (dg p25519);rw[vl_dg];have:=p_big;omega⟩
theorem Sm.mods2 {a:List Nat} (ha:Sm a):Mods [a,dg p25519]:=
 ⟨fun x hx=>by
  have:=Sm_p
  simp only[List.mem_cons,List.not_mem_nil,or_false] at hx
  rcases hx with rfl|rfl
  ·exact⟨ha.len,ha.w,ha.n⟩
  ·exact⟨this.len,this.w,this.n⟩,by simp,by show 2≤vl (dg p25519);rw[vl_dg];have:=p_big;omega⟩
def addP:Nat→Nat→Nat:=sealed _ fun x y=>(x+y)%p25519
def mulP:Nat→Nat→Nat:=sealed _ fun x y=>x*y%p25519
def powP:Nat→Nat→Nat:=sealed _ fun x y=>x^y%p25519
theorem addP_eq (x y:Nat):addP x y=(x+y)%p25519:=by unfold addP;rw[sealed_id]
theorem mulP_eq (x y:Nat):mulP x y=x*y%p25519:=by unfold mulP;rw[sealed_id]
theorem powP_eq (x y:Nat):powP x y=x^y%p25519:=by unfold powP;rw[sealed_id]
def invP:Nat→Nat:=sealed _ pinv
theorem invP_eq (x:Nat):invP x=pinv x:=by unfold invP;rw[sealed_id]
def subP:Nat→Nat→Nat:=sealed _ fun x y=>subM (x%p25519) (y%p25519) p25519
theorem subP_eq (x y:Nat):subP x y=subM (x%p25519) (y%p25519) p25519:=by unfold subP;rw[sealed_id]
theorem addP_lt (x y:Nat):addP x y<p25519:=by rw[addP_eq];exact Nat.mod_lt _ p_pos
theorem mulP_lt (x y:Nat):mulP x y<p25519:=by rw[mulP_eq];exact Nat.mod_lt _ p_pos
theorem powP_lt (x y:Nat):powP x y<p25519:=by rw[powP_eq];exact Nat.mod_lt _ p_pos
theorem subP_lt (x y:Nat):subP x y<p25519:=by rw[subP_eq];exact Nat.mod_lt _ p_pos
theorem invP_lt (x:Nat):invP x<p25519:=by rw[invP_eq];exact Nat.mod_lt _ p_pos
def SGe0f:FuncId→List V→CR:=fun f args=>tab [(100,cF [] false (wV (dg p25519))),
 (160,cF [] false (wV (dg curveN))),
 (164,cF [] false (wV (dg rootN))),
 (208,cW fun a=>cW fun b=>cW fun m=>cF [Mods [a,b,m]] false (.tu [wV (dg ((vl a+vl b)%vl m)), .i 0])),
 (206,cW fun a=>cW fun b=>cW fun m=>cF [Mods [a,b,m]] false (.tu [wV (dg (subM (vl a%vl m) (vl b%vl m) (vl m))), .i 0])),
 (205,cW fun a=>cW fun b=>cW fun m=>cF [Mods [a,b,m]] false (.tu [wV (dg ((vl a*vl b)%vl m)), .i 0])),
 (209,cW fun a=>cW fun b=>cW fun m=>cF [Mods [a,b,m]] false (.tu [wV (dg (vl a^vl b%vl m)), .i 0]))] noF f args
def SGe0 (J:Inv):Sig:=⟨J,sdf,SGe0f,noH,0⟩
theorem SGe0_ok (J:Inv) (hJ:EdT J):SigOk Tryz.prog (SGe0 J):= .plain (tab_ok (.c (.z fun _=>prime_fn J hJ)<|
 .c (.z fun _=>curve_fn J hJ)<|
 .c (.z fun _=>root_fn J hJ)<|
 .c (.w fun a=> .w fun b=> .w fun m=> .z fun⟨c0,_⟩=>addm_fn J a b m c0)<|
 .c (.w fun a=> .w fun b=> .w fun m=> .z fun⟨c0,_⟩=>subm_fn J a b m c0)<|
 .c (.w fun a=> .w fun b=> .w fun m=> .z fun⟨c0,_⟩=>mulm_fn J a b m c0)<|
 .c (.w fun a=> .w fun b=> .w fun m=> .z fun⟨c0,_⟩=>expm_fn J a b m c0)<| .n) noF_ok)
section
variable (J:Inv) (hJ:EdT J) (a b:List Nat) (ha:Sm a) (hb:Sm b)
include hJ ha
theorem eadd_fn (hb:Sm b):Fn Tryz.prog J 159 false [wV a,wV b] (wV (dg (addP (vl a) (vl b)))):=by
 refine fnI Tryz.func159 rfl (by kernel_rfl) (wV_cl _) (SGe0_ok J hJ) ?_
 unfold Tryz.f159
 simp only[↓bD,bQ,reduceEqDiff,reduceLT,reduceAdd,↓reduceIte,reduceCtorEq,SGe0,SGe0f,addP_eq]
 exact ha.mods hb
theorem esub_fn (hb:Sm b):Fn Tryz.prog J 157 false [wV a,wV b] (wV (dg (subP (vl a) (vl b)))):=by
 refine fnI Tryz.func157 rfl (by kernel_rfl) (wV_cl _) (SGe0_ok J hJ) ?_
 unfold Tryz.f157
 simp only[↓bD,bQ,reduceEqDiff,reduceLT,reduceAdd,↓reduceIte,reduceCtorEq,SGe0,SGe0f,subP_eq]
 exact ha.mods hb
theorem emul_fn (hb:Sm b):Fn Tryz.prog J 156 false [wV a,wV b] (wV (dg (mulP (vl a) (vl b)))):=by
 refine fnI Tryz.func156 rfl (by kernel_rfl) (wV_cl _) (SGe0_ok J hJ) ?_
 unfold Tryz.f156
 simp only[↓bD,bQ,reduceEqDiff,reduceLT,reduceAdd,↓reduceIte,reduceCtorEq,SGe0,SGe0f,mulP_eq]
 exact ha.mods hb
theorem epow_fn (hb:Sm b):Fn Tryz.prog J 161 false [wV a,wV b] (wV (dg (powP (vl a) (vl b)))):=by
 refine fnI Tryz.func161 rfl (by kernel_rfl) (wV_cl _) (SGe0_ok J hJ) ?_
 unfold Tryz.f161
 simp only[↓bD,bQ,reduceEqDiff,reduceLT,reduceAdd,↓reduceIte,reduceCtorEq,SGe0,SGe0f,powP_eq]
 exact ha.mods hb
omit hJ in
theorem invp_fn:Fn Tryz.prog J 207 false [wV a,wV (dg p25519)] (.tu [wV (dg (pinv (vl a))), .i (if vl a%p25519=0 then 61 else 0:Nat)]):=by
 have hm:=ha.mods2
 have h2:p25519%2=1:=by rw[p25519_eq]
 have hp:=p_big
 by_cases h0:vl a%p25519=0
 ·refine inv_gen J a p25519 p25519 0 hm h2 (Nat.le_refl _) p_pos ?_ _ _ (by rw[pinv_zero h0,if_neg (by omega)]) (by rw[if_pos h0,if_neg (by omega)])
  rw[h0]
  exact odd0_fn J p25519
 ·refine inv_gen J a p25519 1 (pinv (vl a)) hm h2 (by omega) (Nat.mod_lt _ p_pos) ?_ _ _ (by rw[if_pos rfl]) (by rw[if_neg h0,if_pos rfl])
  exact odd_fn J (vl a%p25519) p25519 (pinv (vl a)) (by omega) h2 (by have:=p_len;omega) (Nat.mod_lt _ p_pos) (Nat.mod_lt _ p_pos) (pinv_mul h0)
end
def SGe1f:FuncId→List V→CR:=fun f args=>tab [(207,cW fun a=>cW fun m=>cF [Sm a,m=dg p25519] false (.tu [wV (dg (pinv (vl a))), .i (if vl a%p25519=0 then 61 else 0:Nat)]))] SGe0f f args
def SGe1 (J:Inv):Sig:=⟨J,sdf,SGe1f,noH,0⟩
theorem SGe1_ok (J:Inv) (hJ:EdT J):SigOk Tryz.prog (SGe1 J):= .plain (tab_ok (.c (.w fun a=> .w fun _=> .z fun⟨c0,c1,_⟩=>(by have h:=invp_fn J a c0;rwa [←c1] at h))<| .n) (SGe0_ok J hJ).1)
theorem einv_fn (J:Inv) (hJ:EdT J) (a:List Nat) (ha:Sm a):Fn Tryz.prog J 158 false [wV a] (wV (dg (invP (vl a)))):=by
 refine fnI Tryz.func158 rfl (by kernel_rfl) (wV_cl _) (SGe1_ok J hJ) ?_
 unfold Tryz.f158
 simp only[↓bD,bQ,reduceEqDiff,reduceLT,reduceAdd,↓reduceIte,reduceCtorEq,SGe1,SGe1f,SGe0f,invP_eq]
 exact ha
def leN (b:List UInt8):Nat:=nb b.reverse
theorem leN_lt (b:List UInt8):leN b<256^b.length:=by have:=nb_lt b.reverse;rwa [List.length_reverse] at this
def SGn0f:FuncId→List V→CR:=fun f args=>tab [(93,cY fun b=>cF [b.length≤67108864] false (wV (dg (nb b))))] noF f args
def SGn0 (J:Inv):Sig:=⟨J,sdf,SGn0f,noH,0⟩
theorem SGn0_ok (J:Inv):SigOk Tryz.prog (SGn0 J):= .plain (tab_ok (.c (.y fun b=> .z fun⟨c0,_⟩=>fromBytes_fn J b c0)<| .n) noF_ok)
def SGnh:FuncId→List V→List (Nat×Ob)→Nat→Option CallH:=fun f args h nx=>
 if f=97 then match args with
  |[.by b]=>some ⟨[0<b.length,b.length≤67108864],[false],[], .ro (.r (nx+1)),[(nx+1, .row 5 (.by b))],nx+2⟩
  |_=>none
 else if f=154 then match args with
  |[.ro (.r k)]=>match Hroot h k with
   |some (.row ty (.by l))=>some ⟨[ty=5,l.length≤67108864],[false],[(k, .row 5 (.by l))], .tu [],[(k, .row 5 (.by l.reverse))],nx⟩
   |_=>none
  |_=>none
 else none
theorem SGnh_ok (J:Inv) (f:FuncId) (args:List V) (h:List (Nat×Ob)) (nx:Nat) (c:CallH) (hc:SGnh f args h nx=some c) (hl:AllP c.l):FnH Tryz.prog J f (mixA h c.bw args).1 c.pre nx c.res c.post c.nx:=by
 unfold SGnh at hc
 split at hc
 ·rename_i hf;subst hf
  split at hc
  ·rename_i b
   obtain rfl:=Option.some.inj hc
   have q1:0<b.length:=hl _ (by simp)
   have q2:b.length≤67108864:=hl _ (by simp)
   exact clone_fn J nx b q1 (by omega)
  ·exact absurd hc (by simp)
 ·split at hc
  ·rename_i hf;subst hf
   split at hc
   ·rename_i k
    split at hc
    ·rename_i ty l hk
     obtain rfl:=Option.some.inj hc
     have q1:ty=5:=hl _ (by simp)
     have q2:l.length≤67108864:=hl _ (by simp)
     exact reverse_fn J k nx l (by omega)
    ·exact absurd hc (by simp)
   ·exact absurd hc (by simp)
  ·exact absurd hc (by simp)
def SGn (J:Inv):Sig:=⟨J,sdf,SGn0f,SGnh,0⟩
theorem SGn_ok (J:Inv):SigOk Tryz.prog (SGn J):=⟨(SGn0_ok J).1,SGnh_ok J⟩
theorem number_fn (J:Inv) (b:List UInt8) (h0:0<b.length) (h1:b.length≤67108864):Fn Tryz.prog J 98 false [.by b] (wV (dg (leN b))):=by
 refine fnI Tryz.func98 rfl (by kernel_rfl) (wV_cl _) (SGn_ok J) ?_
 unfold Tryz.f98
 simp only[↓bD,bQ,reduceEqDiff,↓reduceIte,reduceCtorEq,SGn,SGn0f,SGnh,List.length_reverse,leN]
 exact⟨h0,h1,h1,h1⟩
def edXX (y:Nat):Nat:=mulP (subP (mulP y y) 1) (invP (addP (mulP curveN (mulP y y)) 1))
def edX0 (y:Nat):Nat:=powP (edXX y) ((p25519+3)/2^3)
def edX1 (y:Nat):Nat:=if mulP (edX0 y) (edX0 y)=edXX y then edX0 y else mulP (edX0 y) rootN
def edBad (y:Nat) (odd:Bool):Bool:= !decide (mulP (edX1 y) (edX1 y)=edXX y)||(decide (edX1 y=0)&&odd)
def edX2 (y:Nat) (odd:Bool):Nat:=if (edX1 y%2==1)=odd then edX1 y else subP 0 (edX1 y)
theorem unW_one (k:IntKind) (n:Int):unW [.val (.int k n)]=[n.toNat]:=rfl
theorem Fn.nil1 {P:Program} {J:Inv} {f:FuncId} {fr:Bool} {r:List V} {res:V} (h:Fn P J f fr (wV []::r) res):Fn P J f fr (.val (.slice none 0 0)::r) res:=by
 refine⟨h.1,fun w F vs hI hF hlen hvs=>h.2 w F vs hI hF hlen fun i v x h1 h2=> ?_⟩
 match i with
 |i+1=>exact hvs (i+1) v x h1 h2
 |0=>
  obtain rfl:wV []=v:=by simpa using h1
  obtain rfl:=rep_val (hvs 0 _ x rfl h2)
  exact rep_empty 1 _ (by omega)
def SGe2af:FuncId→List V→CR:=fun f args=>tab [(100,cF [] false (wV (dg p25519))),
 (160,cF [] false (wV (dg curveN))),
 (164,cF [] false (wV (dg rootN))),
 (159,cW fun a=>cW fun b=>cF [Sm a,Sm b] false (wV (dg (addP (vl a) (vl b))))),
 (156,cW fun a=>cW fun b=>cF [Sm a,Sm b] false (wV (dg (mulP (vl a) (vl b))))),
 (161,cW fun a=>cW fun b=>cF [Sm a,Sm b] false (wV (dg (powP (vl a) (vl b))))),
 (158,cW fun a=>cF [Sm a] false (wV (dg (invP (vl a)))))] noF f args
def SGe2a (J:Inv):Sig:=⟨J,sdf,SGe2af,noH,0⟩
theorem SGe2a_ok (J:Inv) (hJ:EdT J):SigOk Tryz.prog (SGe2a J):= .plain (tab_ok (.c (.z fun _=>prime_fn J hJ)<|
 .c (.z fun _=>curve_fn J hJ)<|
 .c (.z fun _=>root_fn J hJ)<|
 .c (.w fun a=> .w fun b=> .z fun⟨c0,c1,_⟩=>eadd_fn J hJ a b c0 c1)<|
 .c (.w fun a=> .w fun b=> .z fun⟨c0,c1,_⟩=>emul_fn J hJ a b c0 c1)<|
 .c (.w fun a=> .w fun b=> .z fun⟨c0,c1,_⟩=>epow_fn J hJ a b c0 c1)<|
 .c (.w fun a=> .z fun⟨c0,_⟩=>einv_fn J hJ a c0)<| .n) noF_ok)
def SGe2f:FuncId→List V→CR:=fun f args=>tab [(162,cW fun a=>cI .i64 fun k=>cF [0≤k,k<32,a.length≤67108864,W32 a] false (wV (dg (vl a/2^k.toNat)))),
 (163,cW fun a=>cW fun b=>cF [a.length≤67108864,b.length≤67108864,W32 a,W32 b] false (wV (dg (vl a+vl b)))),
 (99,cW fun a=>cW fun b=>cF [a.length≤1073741824,b.length≤1073741824,W32 a,W32 b] false (.i (cmp3 (vl a) (vl b)))),
 (92,cW fun a=>cF [a.length≤67108864,W32 a] false (.i (bl (vl a)))),
 (165,cW fun a=>cI .i64 fun i=>cF [I64 i,W32 a] false (.bb (decide (0≤i)&&tb (vl a) i.toNat))),
 (98,cY fun b=>cF [0<b.length,b.length≤67108864] false (wV (dg (leN b))))] SGe2af f args
def SGe2 (J:Inv):Sig:=⟨J,sdf,SGe2f,noH,0⟩
theorem SGe2_ok (J:Inv) (hJ:EdT J):SigOk Tryz.prog (SGe2 J):= .plain (tab_ok (.c (.w fun a=> .i fun k=> .z fun⟨c0,_,c2,c3,_⟩=>(by have h:=shr_fn J a k.toNat (by omega) c2 c3;rwa [Int.toNat_of_nonneg c0] at h))<|
 .c (.w fun a=> .w fun b=> .z fun⟨c0,c1,c2,c3,_⟩=>add_fn J a b c0 c1 c2 c3)<|
 .c (.w fun a=> .w fun b=> .z fun⟨c0,c1,c2,c3,_⟩=>cmp_fn J a b c0 c1 c2 c3)<|
 .c (.w fun a=> .z fun⟨c0,c1,_⟩=>bits_fn J a c0 c1)<|
 .c (.w fun a=> .i fun i=> .z fun⟨c0,c1,_⟩=>bit_fn J a i c0 c1)<|
 .c (.y fun b=> .z fun⟨c0,c1,_⟩=>number_fn J b c0 c1)<| .n) (SGe2a_ok J hJ).1)
def SGe3f:FuncId→List V→Option (List Prop×Bool×V):=fun f args=>
 if f=157 then match args with
  |[.sq 1 da La, .sq 1 db Lb]=>some ([da= .val (.int .u32 0),La=wds (unW La),db= .val (.int .u32 0),Lb=wds (unW Lb),Sm (unW La),Sm (unW Lb)],false,wV (dg (subP (vl (unW La)) (vl (unW Lb)))))
  |[.val (.slice none 0 0), .sq 1 db Lb]=>some ([db= .val (.int .u32 0),Lb=wds (unW Lb),Sm (unW Lb)],false,wV (dg (subP 0 (vl (unW Lb)))))
  |_=>none
 else SGe2f f args
def SGe3 (J:Inv):Sig:=⟨J,sdf,SGe3f,noH,0⟩
theorem SGe3f_ok (J:Inv) (hJ:EdT J) (f:FuncId) (args:List V) (l:List Prop) (fr:Bool) (r:V) (h:SGe3f f args=some (l,fr,r)) (hl:AllP l):Fn Tryz.prog J f fr args r:=by
 unfold SGe3f at h
 split at h
 ·rename_i hf;subst hf
  split at h
  ·obtain⟨rfl,rfl,rfl⟩:=jsome_tri h
   rename_i da La db Lb
   have q1:da= .val (.int .u32 0):=hl _ (by simp)
   have q2:La=wds (unW La):=hl _ (by simp)
   have q3:db= .val (.int .u32 0):=hl _ (by simp)
   have q4:Lb=wds (unW Lb):=hl _ (by simp)
   have hp:=esub_fn J hJ (unW La) (unW Lb) (hl _ (by simp)) (hl _ (by simp))
   subst q1 q3
   unfold wV at hp
   rw[←q2,←q4] at hp
   exact hp
  ·obtain⟨rfl,rfl,rfl⟩:=jsome_tri h
   rename_i db Lb
   have q3:db= .val (.int .u32 0):=hl _ (by simp)
   have q4:Lb=wds (unW Lb):=hl _ (by simp)
   have hp:=Fn.nil1 (esub_fn J hJ [] (unW Lb) Sm_nil (hl _ (by simp)))
   subst q3
   rw[show wV (unW Lb)= .sq 1 (.val (.int .u32 0)) Lb by unfold wV;rw[←q4]] at hp
   exact hp
  ·exact absurd h (by simp)
 ·exact(SGe2_ok J hJ).1 f args l fr r h hl
theorem SGe3_ok (J:Inv) (hJ:EdT J):SigOk Tryz.prog (SGe3 J):= .plain (SGe3f_ok J hJ)
theorem cmp3_zero {x y:Nat}:(cmp3 x y==0)=decide (x=y):=by
 unfold cmp3
 by_cases h:x<y
 ·rw[if_pos h,decide_eq_false (by omega)];rfl
 ·rw[if_neg h]
  by_cases h2:y<x
  ·rw[if_pos h2,decide_eq_false (by omega)];rfl
  ·rw[if_neg h2,decide_eq_true (by omega)];rfl
theorem dgp {n:Nat} (h:n<p25519):(dg n).length≤128:=by have:=(Sm.of_lt h).n;rwa [vl_dg] at this
noncomputable def abA:Code:=(Tryz.f101).body.getD .skip
noncomputable def abT:Code:=iR (iR (iR (iR (iR abA))))
theorem abA_eq:(Tryz.f101).body=some (.seq (iL abA) (.seq (iL (iR abA)) (.seq (iL (iR (iR abA))) (.seq (iL (iR (iR (iR abA)))) (.seq (iL (iR (iR (iR (iR abA))))) abT))))):=by kernel_rfl
theorem ab_tail (J:Inv) (E:En) (H:List (Nat×Ob)) (nx x1 xx:Nat) (odd:Bool) (hx:x1<p25519) (hxx:xx<p25519) (e8:E.get 8=some (wV (dg x1))) (e7:E.get 7=some (wV (dg xx))) (e1:E.get 1=some (.bb odd)) (n:Nat) (ok:Bool)
  (hok:ok= !(!decide (mulP x1 x1=xx)||(decide (x1=0)&&odd))) (hn:n=if ok=true then (if (x1%2==1)=odd then x1 else subP 0 x1) else 0) (nrm:S→Prop) (ex:List (Nat×(S→Prop))):
  Kseq Tryz.prog (SGe3 J) abT ⟨nrm,RetP (Tryz.f101).results.toList (.tu [wV (dg n), .bb ok]),ex⟩ ⟨E,H,nx⟩:=by
 simp only[abT,abA,iR,Tryz.f101,Option.getD_some]
 simp only[wV] at e7 e8
 simp only[↓bD,bQ,reduceLeDiff,reduceEqDiff,reduceAdd,↓reduceIte,reduceCtorEq,reduceToNat,SGe3,SGe3f,SGe2f,SGe2af,e8,e7,e1,cmp3_zero,tb_zero]
 have hb:((bl x1:Int)==0)=decide (x1=0):=by
  by_cases h:x1=0
  ·subst h;rw[bl_zero];rfl
  ·have h2:bl x1≠0:=fun e=>h (bl_eq_zero.1 e)
   rw[decide_eq_false h,beq_eq_false_iff_ne]
   omega
 rw[hb]
 have l1:=dgp hx
 have l2:=dgp hxx
 have l3:=dgp (mulP_lt x1 x1)
 refine⟨.of_lt hx, .of_lt hx,by omega,by omega,fun _=>by omega,fun h h2=> ?_,fun h=> ?_,fun h=>⟨by constructor<;>omega,fun h2=>⟨.of_lt hx,?_,?_⟩,fun h2=>⟨?_,?_⟩⟩⟩
 ·rw[h,h2];rfl
 ·rw[h] at hok
  have hok:ok=false:=hok
  subst hok
  rw[if_neg (by simp)] at hn
  rw[hn,dg_zero]
  exact⟨rfl,rfl⟩
 ·rw[h] at hok
  have hok:ok=true:=hok
  subst hok
  rw[if_pos rfl,if_neg (fun e=>by rw[e] at h2;simp at h2)] at hn
  rw[hn]
 ·rw[h] at hok
  exact hok.symm
 ·rw[h] at hok
  have hok:ok=true:=hok
  subst hok
  rw[if_pos rfl,if_pos (by simpa using h2)] at hn
  rw[hn]
 ·rw[h] at hok
  exact hok.symm
theorem abscissa_fn (J:Inv) (hJ:EdT J) (y:Nat) (odd:Bool) (hy:y<p25519):Fn Tryz.prog J 101 false [wV (dg y), .bb odd] (.tu [wV (dg (if edBad y odd then 0 else edX2 y odd)), .bb (!edBad y odd)]):=by
 refine fn_intro Tryz.func101 abA_eq (by kernel_rfl) (Nat.le_of_ble_eq_true (by kernel_rfl)) (by kernel_rfl) (by kernel_rfl) (by simp[V.cl,clL,wV,wds_cl]) (SGe3_ok J hJ) ?_
 simp only[abA,iR,iL,Tryz.f101,Option.getD_some]
 simp only[↓bD,bQ,reduceMul,reduceLeDiff,reduceEqDiff,reduceAdd,↓reduceIte,reduceCtorEq,reduceToNat,SGe3,SGe3f,SGe2f,SGe2af,unW_one,cmp3_zero]
 rw[vl_one,show vl [3]=3 from rfl]
 have l1:=p_len
 have l2:=dg_sum_len (x:=p25519) (y:=3) (k:=8) l1 (by rw[dg,dif_neg (by omega),show 3/4294967296=0 from rfl,dg_zero];simp)
 have l3:=dg_mono (Nat.div_le_self (p25519+3) (2^3))
 have l4:=dgp (mulP_lt (subP (mulP y y) 1) (invP (addP (mulP curveN (mulP y y)) 1)))
 have hq:Sm (dg ((p25519+3)/2^3)):=⟨by omega,W32_dg _,by rw[vl_dg];omega⟩
 have hS: ∀{n:Nat},n<p25519→Sm (dg n):=fun h=> .of_lt h
 have hX1:edX1 y<p25519:=by unfold edX1;split<;>first|exact powP_lt _ _|exact mulP_lt _ _
 have hXX:edXX y<p25519:=mulP_lt _ _
 have hnn:(if edBad y odd=true then 0 else edX2 y odd)=if (!edBad y odd)=true then (if (edX1 y%2==1)=odd then edX1 y else subP 0 (edX1 y)) else 0:=by
  cases edBad y odd<;>rfl
 refine⟨hS hy,hS hy,rfl,hS (mulP_lt _ _),Sm_one,Sm_curve,hS (mulP_lt _ _),rfl,hS (mulP_lt _ _),Sm_one,hS (addP_lt _ _),hS (subP_lt _ _),hS (invP_lt _),rfl,by omega,W32.one (by omega),by omega,by omega,by omega,hS (mulP_lt _ _),hq,hS (powP_lt _ _),hS (powP_lt _ _),by have:=dgp (mulP_lt (edX0 y) (edX0 y));unfold edX0 edXX at this;omega,by omega,fun h=>⟨hS (powP_lt _ _),Sm_root,?_⟩,fun h=> ?_⟩
 ·refine ab_tail J _ _ _ (edX1 y) (edXX y) odd hX1 hXX ?_ ?_ ?_ _ _ rfl hnn _ _
  ·have h2: ¬mulP (edX0 y) (edX0 y)=edXX y:=by rw[Bool.not_eq_true',decide_eq_false_iff_not] at h;exact h
   simp only[bQ,↓reduceIte]
   rw[edX1,if_neg h2]
   rfl
  ·simp only[bQ,reduceEqDiff,↓reduceIte]
   rfl
  ·simp only[bQ,reduceEqDiff,↓reduceIte,reduceCtorEq]
 ·refine ab_tail J _ _ _ (edX1 y) (edXX y) odd hX1 hXX ?_ ?_ ?_ _ _ rfl hnn _ _
  ·have h2:mulP (edX0 y) (edX0 y)=edXX y:=by rw[Bool.not_eq_false',decide_eq_true_eq] at h;exact h
   simp only[bQ,reduceEqDiff,↓reduceIte]
   rw[edX1,if_pos h2]
   rfl
  ·simp only[bQ,reduceEqDiff,↓reduceIte]
   rfl
  ·simp only[bQ,reduceEqDiff,↓reduceIte,reduceCtorEq]
def edYb (b:List UInt8):Nat:=leN (b.set 31 (u8 (bt .and .u8 (byteAt b 31) 127)))
def edOdd (b:List UInt8):Bool:= !(bt .and .u8 (byteAt b 31) 128==0)
def edOk (b:List UInt8):Bool:=decide (b.length=32)&&(decide (edYb b<p25519)&& !edBad (edYb b) (edOdd b))
def edPt (b:List UInt8):V:=if edOk b=true then .st [wV (dg (edX2 (edYb b) (edOdd b))),wV (dg (edYb b)), .bb false] else .st [.val (.slice none 0 0), .val (.slice none 0 0), .bb false]
def edCo (b:List UInt8):Int:=if edOk b=true then 0 else 93
theorem edPt_cl (b:List UInt8):(edPt b).cl=true:=by unfold edPt;split<;>simp[V.cl,clL,wV,wds_cl]
def SGe4f:FuncId→List V→CR:=fun f args=>tab [(101,cW fun y=>cB fun odd=>cF [y=dg (vl y),vl y<p25519] false (.tu [wV (dg (if edBad (vl y) odd then 0 else edX2 (vl y) odd)), .bb (!edBad (vl y) odd)]))] SGe3f f args
def SGe4 (J:Inv):Sig:=⟨J,sdf,SGe4f,noH,0⟩
theorem SGe4_ok (J:Inv) (hJ:EdT J):SigOk Tryz.prog (SGe4 J):= .plain (tab_ok (.c (.w fun y=> .b fun odd=> .z fun⟨c0,c1,_⟩=>(by have h:=abscissa_fn J hJ (vl y) odd c1;rwa [←c0] at h))<| .n) (SGe3_ok J hJ).1)
def SGe5 (J:Inv):Sig:=⟨J,sdf,SGe4f,SGnh,0⟩
theorem SGe5_ok (J:Inv) (hJ:EdT J):SigOk Tryz.prog (SGe5 J):=⟨(SGe4_ok J hJ).1,SGnh_ok J⟩
theorem and_u8 {a b:Nat} (ha:a<256) (hb:b<256):bt .and .u8 (a:Int) (b:Int)=((a&&&b:Nat):Int):=by
 rw[bt_eq]
 have hx:a&&&b<2^8:=Nat.and_lt_two_pow _ (by omega)
 have h1:(BitVec.ofInt 8 (a:Int)).toNat=a:=by rw[BitVec.ofInt_natCast,BitVec.toNat_ofNat];exact Nat.mod_eq_of_lt (by omega)
 have h2:(BitVec.ofInt 8 (b:Int)).toNat=b:=by rw[BitVec.ofInt_natCast,BitVec.toNat_ofNat];exact Nat.mod_eq_of_lt (by omega)
 show IntKind.u8.wrap ((BitVec.ofInt 8 (a:Int)&&&BitVec.ofInt 8 (b:Int)).toNat:Int)=_
 rw[BitVec.toNat_and,h1,h2,show∀n:Int,IntKind.u8.wrap n=n%256 from fun n=>rfl]
 omega
theorem and127 (l:List UInt8) (i:Nat):0≤bt .and .u8 (byteAt l i) 127∧bt .and .u8 (byteAt l i) 127<256:=by
 have h:=and_u8 (a:=(l.getD i 0).toNat) (b:=127) (l.getD i 0).toNat_lt (by omega)
 have h2:(l.getD i 0).toNat&&&127<2^8:=Nat.and_lt_two_pow _ (by omega)
 have e:byteAt l i=(((l.getD i 0).toNat:Nat):Int):=rfl
 rw[e,show(127:Int)=((127:Nat):Int) from rfl,h]
 omega
theorem cmp3_ge {x y:Nat}:decide (0≤cmp3 x y)=decide (y≤x):=by
 unfold cmp3
 by_cases h:x<y
 ·rw[if_pos h,decide_eq_false (by omega),decide_eq_false (by omega)]
 ·rw[if_neg h]
  by_cases h2:y<x
  ·rw[if_pos h2,decide_eq_true (by omega),decide_eq_true (by omega)]
  ·rw[if_neg h2,decide_eq_true (by omega),decide_eq_true (by omega)]
theorem decode_fn (J:Inv) (hJ:EdT J) (b:List UInt8):Fn Tryz.prog J 58 false [.by b] (.tu [edPt b, .i (edCo b)]):=by
 refine Fn.of_plain (nx:=10) (post:=[]) ?_ (by have:=edPt_cl b;simp[V.cl,clL,V.i,this])
 refine fnC Tryz.func58 rfl (by kernel_rfl) (SGe5_ok J hJ) rfl ?_
 unfold Tryz.f58
 simp only[↓bD,bQ,reduceLeDiff,reduceEqDiff,reduceLT,reduceAdd,↓reduceIte,reduceCtorEq,reduceToNat,SGe5,SGe4f,SGe3f,SGe2f,SGe2af,SGnh,List.length_set,cmp3_ge]
 have hY:leN (b.set 31 (u8 (bt .and .u8 (byteAt b 31) 127)))=edYb b:=rfl
 have hO:(!bt .and .u8 (byteAt b 31) 128==0)=edOdd b:=rfl
 rw[hY,hO]
 have hbad: ∀{c:Bool},edOk b=c→c=false→edPt b= .st [.val (.slice none 0 0), .val (.slice none 0 0), .bb false]∧edCo b=93:=fun h1 h2=>by
  subst h2
  unfold edPt edCo
  rw[h1]
  exact⟨rfl,rfl⟩
 refine⟨fun h=> ?_,fun h=> ?_⟩
 ·have h1:b.length≠32:=by
   rw[Bool.not_eq_true',beq_eq_false_iff_ne] at h;omega
  obtain⟨e1,e2⟩:=hbad (c:=false) (by unfold edOk;rw[decide_eq_false h1];rfl) rfl
  rw[e1,e2]
  refine .inl ?_
  simp only[bQ,reduceLeDiff,reduceEqDiff,reduceLT,reduceAdd,↓reduceIte]
 ·have h1:b.length=32:=by
   rw[Bool.not_eq_false',beq_iff_eq] at h;omega
  have hk:=and127 b 31
  have hlt:(dg (edYb b)).length≤1073741824:=by
   have h2:=leN_lt (b.set 31 (u8 (bt .and .u8 (byteAt b 31) 127)))
   rw[hY,List.length_set,h1,show(256:Nat)^32=4294967296^8 by decide] at h2
   have:=dg_len h2
   omega
  have hpl:=p_len
  refine⟨by omega,by omega,by omega,by omega,by omega,by omega,by omega,by omega,by omega,by omega,by omega,hk.1,hk.2,by omega,by omega,hlt,by omega,fun h2=> ?_,fun h2=>⟨by rw[decide_eq_false_iff_not] at h2;omega,fun h3=> ?_,fun h3=> ?_⟩⟩
  ·rw[decide_eq_true_eq] at h2
   obtain⟨e1,e2⟩:=hbad (c:=false) (by unfold edOk;rw[decide_eq_false (show ¬edYb b<p25519 by omega)];simp) rfl
   rw[e1,e2]
   refine .inl ?_
   simp only[bQ,reduceLeDiff,reduceEqDiff,reduceLT,reduceAdd,↓reduceIte]
  ·rw[Bool.not_not] at h3
   obtain⟨e1,e2⟩:=hbad (c:=false) (by unfold edOk;rw[h3];simp) rfl
   rw[e1,e2]
   refine .inl ?_
   simp only[bQ,reduceLeDiff,reduceEqDiff,reduceLT,reduceAdd,↓reduceIte]
  ·rw[Bool.not_not] at h3
   rw[decide_eq_false_iff_not] at h2
   have hok:edOk b=true:=by unfold edOk;rw[h3,decide_eq_true h1,decide_eq_true (show edYb b<p25519 by omega)];rfl
   have e1:edPt b= .st [wV (dg (edX2 (edYb b) (edOdd b))),wV (dg (edYb b)), .bb false]:=by unfold edPt;rw[hok];rfl
   have e2:edCo b=0:=by unfold edCo;rw[hok];rfl
   rw[e1,e2,h3,if_neg (by simp)]
   refine .inl ?_
   simp only[bQ,reduceLeDiff,reduceEqDiff,reduceLT,reduceAdd,↓reduceIte]
end Go.Proofs.YtfengpdaocgcnaaGreatDoor
