/- Numbers modulo another one: the walk of the program's inverse (with its goto). -/
import Derived.Test.YtfengpdaocgcnaaGreatDoorT24
import Derived.ScopeJumps
namespace Go.Proofs.YtfengpdaocgcnaaGreatDoor
open Nat (reduceMul reduceLeDiff reduceEqDiff reduceLT reduceAdd reduceSub reduceDiv)
open Int (reduceToNat reducePow)
open Go.RowKit
set_option linter.unusedSimpArgs false
set_option maxRecDepth 100000
theorem odd0_fn (J:Inv) (m:Nat):Fn Tryz.prog J 241 false [wV (dg 0),wV (dg m)] (.tu [wV (dg m),wV (dg 0)]):=by
 refine fnI Tryz.func241 rfl (by kernel_rfl) (by simp[V.cl,clL,wV,wds_cl]) (SGm4_ok J) ?_
 unfold Tryz.f241
 simp only[bQ,reduceMul,reduceLeDiff,reduceEqDiff,reduceAdd,↓reduceIte,reduceCtorEq,SGm4]
 refine LoopC.introA (α:=Unit) (fun _=>True) (fun _=>⟨[(1,wV (dg m)),(6,wV (dg 0)),(7,wV (dg m)),(8,wV (dg 1)),(9,wV (dg 0))],[],2⟩) (fun _=>0) () [.fzs 0, .fzs 1] trivial ?_ ?_
 ·simp only[bQ,reduceLeDiff,reduceEqDiff,↓reduceIte,reduceCtorEq,dg_one,dg_zero]
  rfl
 ·rintro⟨⟩ _
  simp only[↓bE,bQ,reduceLeDiff,reduceEqDiff,reduceAdd,↓reduceIte,SGm4f,SGm3f,SGwf,SGm2f,SGm1f,bl_zero]
  refine⟨by rw[dg_zero];exact Nat.zero_le _,fun h=>absurd h (by simp),fun _=>trivial⟩
def SGof (a m g x:Nat):FuncId→List V→Option (List Prop×Bool×V):=fun f args=>
 if f=241 then match args with
  |[.sq 1 da La, .sq 1 dm Lm]=>some ([da= .val (.int .u32 0),La=wds (dg a),dm= .val (.int .u32 0),Lm=wds (dg m)],false, .tu [wV (dg g),wV (dg x)])
  |_=>none
 else SGm4f f args
def SGo (J:Inv) (a m g x:Nat):Sig:=⟨J,sdf,SGof a m g x,noH,0⟩
theorem SGo_ok (J:Inv) (a m g x:Nat) (ho:Fn Tryz.prog J 241 false [wV (dg a),wV (dg m)] (.tu [wV (dg g),wV (dg x)])):SigOk Tryz.prog (SGo J a m g x):=by
 refine .plain fun f args l fr r h hl=> ?_
 change SGof a m g x f args=some (l,fr,r) at h
 unfold SGof at h
 split at h
 ·rename_i hf;subst hf
  split at h
  ·obtain⟨rfl,rfl,rfl⟩:=jsome_tri h
   rename_i da La dm Lm
   have q1:da= .val (.int .u32 0):=hl _ (by simp)
   have q2:La=wds (dg a):=hl _ (by simp)
   have q3:dm= .val (.int .u32 0):=hl _ (by simp)
   have q4:Lm=wds (dg m):=hl _ (by simp)
   subst q1 q2 q3 q4
   exact ho
  ·exact absurd h (by simp)
 ·exact(SGm4_ok J).1 f args l fr r h hl
def iL:Code→Code| .seq a _=>a|c=>c
def iR:Code→Code| .seq _ b=>b|c=>c
def iS:Code→Code| .scope c=>c|c=>c
def iC:Code→Code| .cond _ a _=>a|c=>c
noncomputable def vA:Code:=(Tryz.f207).body.getD .skip
noncomputable def vB:Code:=iS (iR vA)
noncomputable def vP:Code:= .seq (iL vA) (.seq (iL vB) (.seq (iL (iR vB)) (.seq (iL (iR (iR vB))) (iL (iL (iR (iR (iR vB))))))))
noncomputable def vX:Code:=iL (iC (iR (iL (iR (iR (iR vB))))))
noncomputable def vT:Code:=iR (iR (iR (iR vB)))
noncomputable def vD:Code:=iR (iR vT)
theorem vA_eq:(Tryz.f207).body=some (.seq (iL vA) (.scope (.seq (iL vB) (.seq (iL (iR vB)) (.seq (iL (iR (iR vB))) (.seq (.seq (iL (iL (iR (iR (iR vB))))) (.cond (.tmp 20) (.seq vX (.goto 0)) .skip)) vT)))))):=by kernel_rfl
theorem vT_eq:findLabel (.seq (iL vB) (.seq (iL (iR vB)) (.seq (iL (iR (iR vB))) (.seq (.seq (iL (iL (iR (iR (iR vB))))) (.cond (.tmp 20) (.seq vX (.goto 0)) .skip)) vT)))) 0=some (.seq .skip vD):=by kernel_rfl
theorem inv_gen (J:Inv) (a:List Nat) (m g x:Nat) (h:Mods [a,dg m]) (h2:m%2=1) (hg:g≤m) (hx:x<m) (ho:Fn Tryz.prog J 241 false [wV (dg (vl a%m)),wV (dg m)] (.tu [wV (dg g),wV (dg x)])) (n e:Nat)
  (hn:n=if g=1 then x else 0) (he:e=if g=1 then 0 else 61):Fn Tryz.prog J 207 false [wV a,wV (dg m)] (.tu [wV (dg n), .i e]):=by
 obtain⟨⟨a1,a2,a3⟩,⟨m1,m2,m3⟩,m4⟩:=h.two
 rw[vl_dg] at m3 m4
 refine Fn.of_plain (nx:=10) (post:=[]) (fnH_wp Tryz.func207 vA_eq (by kernel_rfl) (Nat.le_of_ble_eq_true (by kernel_rfl)) fun w F ac Q hM hs hK=> ?_) (by simp[V.cl,clL,wV,wds_cl,V.i])
 have hG:=SGo_ok J (vl a%m) m g x ho
 have hb: ∀m:Nm,0≤m.root→(fx0 J w F [] (Tryz.f207).ntmps).C.O m=none∧(fx0 J w F [] (Tryz.f207).ntmps).C.W m=none:=fun m hm=>hM.nx m hm
 have hm:Tryz.prog.follows .mixedOrders=true:=rfl
 have hgm:(dg g).length≤1024:=Nat.le_trans (dg_mono hg) (by omega)
 have hxm:(dg x).length≤1024:=Nat.le_trans (dg_mono (Nat.le_of_lt hx)) (by omega)
 have htail: ∀ex s,s.e.get 6=some (wV (dg g))→s.e.get 7=some (wV (dg x))→s.e.get 1=some (wV (dg m))→s.nx≤3→vg Tryz.prog (SGo J (vl a%m) m g x) vD s ⟨fun _=>False,RetH (Tryz.f207).results.toList (.tu [wV (dg n), .i e]) [] 10,ex⟩:=by
  intro ex s e6 e7 e1 hnx
  obtain⟨E,H,nx⟩:=s
  simp only at e6 e7 e1 hnx
  simp only[vD,vT,vB,vA,iR,iS,Tryz.f207,Option.getD_some]
  simp only[↓bE,bQ,reduceMul,reduceLeDiff,reduceEqDiff,reduceAdd,↓reduceIte,reduceCtorEq,SGo,SGof,SGm4f,SGm3f,SGwf,SGm2f,unW_lit,e6,e7,e1]
  refine⟨rfl,by omega,W32.one (by omega),fun hc=> ?_,fun hc=> ?_⟩
  ·have hg1:g≠1:=by rintro rfl;rw[vl_one,cmp3_eq] at hc;simp at hc
   rw[hn,he,if_neg hg1,if_neg hg1,dg_zero]
   exact⟨rfl,rfl,by omega⟩
  ·have hg1:g=1:=by
    rw[vl_one] at hc
    rcases Nat.lt_trichotomy g 1 with h|h|h
    ·rw[cmp3_lt h] at hc;simp at hc
    ·exact h
    ·rw[cmp3_gt h] at hc;simp at hc
   rw[hn,he,if_pos hg1,if_pos hg1,Nat.mod_eq_of_lt hx]
   exact⟨by omega,by omega,by omega,rfl,rfl,by omega⟩
 have hpre:vg Tryz.prog (SGo J (vl a%m) m g x) vP ⟨enOf 0 [wV a,wV (dg m)],[],0⟩ ⟨fun s=>s.e.get 20=some (.bb true)∧vg Tryz.prog (SGo J (vl a%m) m g x) vX s ⟨fun s=>s.e.get 6=some (wV (dg g))∧s.e.get 7=some (wV (dg x))∧s.e.get 1=some (wV (dg m))∧s.nx≤3,fun _=>False,[]⟩,fun _=>False,[]⟩:=by
  simp only[vP,vX,vB,vA,iR,iL,iS,iC,Tryz.f207,Option.getD_some]
  simp only[↓bE,bQ,reduceMul,reduceLeDiff,reduceEqDiff,reduceLT,reduceAdd,↓reduceIte,reduceCtorEq,reduceToNat,SGo,SGof,SGm4f,SGm3f,SGwf,SGm2f,unL,tb_zero]
  exact⟨h,fun h=>absurd h (by simp),fun _=>⟨a1,m1,a2,by omega,by constructor<;>omega,by rw[h2];simp⟩⟩
 let X0:=fx0 J w F [] (Tryz.f207).ntmps
 refine wp_pc (c:=iL vA) (x:=X0) hG rfl hb hm (by kernel_rfl) hpre hs (fun s F a w hR hs=> ?_) (fun _ _ _ _ h _=>h.elim) (fun id k hk=>by simp[exGet] at hk)
 refine wp_scope_jumps 0 (fun a w=> ∃s F,s.e.get 6=some (wV (dg g))∧s.e.get 7=some (wV (dg x))∧s.e.get 1=some (wV (dg m))∧s.nx≤3∧Sat X0 s F a w) (fun _ _=>0) vT_eq ?_ ?_
 ·refine wp_pc (c:=iL vB) hG rfl hb hm (by kernel_rfl) hR hs (fun s F a w hR hs=> ?_) (fun _ _ _ _ h _=>h.elim) (fun id k hk=>by simp[exGet] at hk)
  refine wp_pc (c:=iL (iR vB)) hG rfl hb hm (by kernel_rfl) hR hs (fun s F a w hR hs=> ?_) (fun _ _ _ _ h _=>h.elim) (fun id k hk=>by simp[exGet] at hk)
  refine wp_pc (c:=iL (iR (iR vB))) hG rfl hb hm (by kernel_rfl) hR hs (fun s F a w hR hs=> ?_) (fun _ _ _ _ h _=>h.elim) (fun id k hk=>by simp[exGet] at hk)
  refine wp_seq (wp_pc (c:=iL (iL (iR (iR (iR vB))))) hG rfl hb hm (by kernel_rfl) hR hs (fun s F a w hR hs=> ?_) (fun _ _ _ _ h _=>h.elim) (fun id k hk=>by simp[exGet] at hk))
  refine wp_cond_true (rep_bb (hs.env 20 _ hR.1).2) ?_
  refine wp_pc (c:=vX) hG rfl hb hm (by kernel_rfl) hR.2 hs (fun s F a w hR hs=> ?_) (fun _ _ _ _ h _=>h.elim) (fun id k hk=>by simp[exGet] at hk)
  exact wp_goto ⟨rfl,s,F,hR.1,hR.2.1,hR.2.2.1,hR.2.2.2,hs⟩
 ·rintro a w ⟨s,F,h6,h7,h1,h3,hs⟩
  exact wp_seq (wp_skip (vg_ok hG rfl hb hm vD s _ _ F a w (by kernel_rfl) (htail [] s h6 h7 h1 h3) ⟨fun _ _ _ _ h _=>h.elim,fun s F a w h hs=>hK.ret s F a w h hs,fun id k hk=>by simp[exGet] at hk⟩ hs))
end Go.Proofs.YtfengpdaocgcnaaGreatDoor
