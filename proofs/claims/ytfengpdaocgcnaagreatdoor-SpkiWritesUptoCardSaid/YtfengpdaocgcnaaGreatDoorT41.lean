/- strings.Builder: a variable of one's own with bytes of one's own. strings.Builder: its text. Base64: plain law. Base64: the walks of what writes signs. Base64: the walks of what reads signs. -/
import Derived.Test.YtfengpdaocgcnaaGreatDoorT18
import Derived.Test.YtfengpdaocgcnaaGreatDoorT24
import Derived.Test.YtfengpdaocgcnaaGreatDoorQ01
namespace Go.Proofs.YtfengpdaocgcnaaGreatDoor
open Nat (reduceMul reduceLeDiff reduceEqDiff reduceLT reduceAdd reduceSub reduceDiv)
open Int (reduceToNat reducePow)
open Go.RowKit
set_option linter.unusedSimpArgs false
set_option maxRecDepth 100000
def S0b (J:Inv) (b:Nat):Sig:=⟨J,sdf,S0f,noH,b⟩
theorem S0b_ok (J:Inv) (b:Nat):SigOk Tryz.prog (S0b J b):=⟨(S0_ok J).1,(S0_ok J).2⟩
def hU (h:List (Nat×Ob)) (j:Nat) (k0:HR) (k1:Nat→List UInt8→HR):HR:=match Hroot h j with
 |some (.box ty (.st [b, .ro (.r m)]))=>match Hroot h m with
  |some (.row tr (.by l))=>hpre [ty=63,tr=5,b= .op j 0] (k1 m l)
  |_=>none
 |some (.box ty (.st [b, .val v]))=>hpre [ty=63,b= .val (.pointer none),v= .slice none 0 0] k0
 |_=>none
section
variable {P:Program} {J:Inv} {f:FuncId} {h:List (Nat×Ob)} {nx:Nat}
theorem EntC.U {vs:List V} {j:Nat} {k0:HR} {k1:Nat→List UInt8→HR} (h0:EntC P J f nx vs k0) (h1: ∀m l,EntC P J f nx vs (k1 m l)):EntC P J f nx vs (hU h j k0 k1):=by
 unfold hU
 split
 ·split
  ·exact .un fun _=>h1 _ _
  ·exact .no
 ·exact .un fun _=>h0
 ·exact .no
end
def bu0:V:= .st [.val (.pointer none), .val (.slice none 0 0)]
def bu1 (k m:Nat):V:= .st [.op k 0, .ro (.r m)]
def cL1:Code→Code| .seq a _=>a|c=>c
def cR1:Code→Code| .seq _ b=>b|c=>c
def cA1:Code→Code| .cond _ a _=>a|c=>c
def cB1:Code→Code| .cond _ _ b=>b|c=>c
def oL1:Code→List Oper| .region _ ops _=>ops.toList|_=>[]
noncomputable def cpA:Code:=(Tryz.f62).body.getD .skip
noncomputable def cpO:List Oper:=oL1 (cA1 (cR1 cpA))
theorem cpA_eq:(Tryz.f62).body=some (.seq (cL1 cpA) (.cond (.tmp 6) (.region 1 ⟨cpO⟩ false) (cB1 (cR1 cpA)))):=by kernel_rfl
theorem cpO_ls:cpO=cpO.take 2++((cpO.drop 2).head!::(cpO.drop 3).head!::(cpO.drop 4).head!::cpO.drop 5):=by kernel_rfl
theorem cp9_op:(cpO.drop 2).head!.op= .convert 61 152 (.tmp 8):=by kernel_rfl
theorem cp11_op:(cpO.drop 4).head!.op= .convert 152 61 (.tmp 10):=by kernel_rfl
theorem cp10_op: ∃c,(cpO.drop 3).head!.op= .call c∧c.callee= .value (.func 106)∧c.args= #[.tmp 9]:=⟨_,rfl,by kernel_rfl,by kernel_rfl⟩
theorem wp_convB {P:Program} {a:Act} {w:World} {o:Oper} {T U:TypeId} {X:Operand} {y:Value} {K:Act→World→Prop} {Q:Exit→Act→World→Prop} (hop:o.op= .convert T U X) (hrun:(convert T U (a.eval X)).run P w= .ok y w) (h:K (a.put o.dst y) w):o.wp P a w K Q:=by
 unfold Oper.wp execOp
 simp only[hop,Sem.run_bind,Sem.run_pure,Result.andThen_ok,hrun]
 exact h
theorem cp9_ds:(cpO.drop 2).head!.dst=some 9:=by kernel_rfl
theorem cp10_ds:(cpO.drop 3).head!.dst=some 10:=by kernel_rfl
theorem cp11_ds:(cpO.drop 4).head!.dst=some 11:=by kernel_rfl
theorem wp_extB {P:Program} {a:Act} {w:World} {o:Oper} {c:Call} {f:FuncId} {X:Operand} {y:Value} {K:Act→World→Prop} {Q:Exit→Act→World→Prop} (hop:o.op= .call c) (hc:c.callee= .value (.func f)) (ha:c.args= #[X]) (hrun:(callFunc f #[a.eval X]).run P w= .ok (.value y) w) (h:K (a.put o.dst y) w):o.wp P a w K Q:=by
 have e:(execOp a.eval o).run P w= .ok (.value y) w:=by
  simp only[execOp,hop,resolve,hc,ha,show a.eval (.func f)= .func (.func f) #[] #[] from rfl,Deferred.ofValue,Sem.run_bind,Sem.run_pure,Result.andThen_ok,invoke]
  simpa using hrun
 unfold Oper.wp
 rw[e]
 exact h
theorem copy0_fn (J:Inv) (nx k:Nat):FnH Tryz.prog J 62 [.op k 0] [(k, .box 63 bu0)] nx (.tu []) [(k, .box 63 (.st [.op k 0, .val (.slice none 0 0)]))] nx:=by
 refine fnH_wp Tryz.func62 cpA_eq (by kernel_rfl) (Nat.le_of_ble_eq_true (by kernel_rfl)) fun w F ac Q hM hs hK=> ?_
 have hG:=S0b_ok J nx
 have hm:Tryz.prog.follows .mixedOrders=true:=rfl
 have hb: ∀m:Nm,nx≤m.root→(fx0 J w F [(k, .box 63 bu0)] (Tryz.f62).ntmps).C.O m=none∧(fx0 J w F [(k, .box 63 bu0)] (Tryz.f62).ntmps).C.W m=none:=fun m hm=>hM.nx m hm
 let X0:=fx0 J w F [(k, .box 63 bu0)] (Tryz.f62).ntmps
 have hpre:vg Tryz.prog (S0b J nx) (cL1 cpA) ⟨enOf 0 [.op k 0],[(k, .box 63 bu0)],nx⟩ ⟨fun s=>s.e.get 6=some (.bb true)∧s.e.get 0=some (.op k 0)∧s.h=[(k, .box 63 bu0)]∧s.nx=nx,fun _=>False,[]⟩:=by
  simp only[cpA,cL1,Tryz.f62,Option.getD_some]
  simp only[bQ,reduceLT,reduceAdd,↓reduceIte,reduceCtorEq,S0b,bu0]
  skip
 refine wp_pc (c:=cL1 cpA) (x:=X0) hG rfl hb hm (by kernel_rfl) hpre hs (fun s1 F1 a1 w1 hR hs1=> ?_) (fun _ _ _ _ h _=>h.elim) (fun id k hk=>by simp[exGet] at hk)
 obtain⟨h6,h0,hh,hnx⟩:=hR
 have hc6:a1.eval (.tmp 6)= .bool true:=rep_bb (hs1.env 6 _ h6).2
 refine wp_cond_true hc6 ?_
 refine wp_region_list ?_
 rw[cpO_ls]
 refine vopsL_ok (G:=S0b J nx) (K:=fun s=>s.e.get 7=some (.op k 0)∧s.e.get 8=some (.op k 0)∧s.h=[(k, .box 63 bu0)]∧s.nx=nx) hG rfl _ (fun s2 F2 a2 w2 hR2 hs2=> ?_) _ s1 F1 a1 w1 (dsts_of (by kernel_rfl)) ?_ hs1
 ·obtain⟨h7,h8,hh2,hn2⟩:=hR2
  obtain⟨b,hO,hv8⟩:=rep_op (hs2.env 8 _ h8).2
  obtain⟨b',cells,uu,hO',hheap,hsz,h1,h2,hF⟩:=hs2.own (.r k) (.box 63 bu0) (by rw[hh2];simp[Hget,Hroot])
  rw[hO] at hO'
  obtain rfl:b=b':=by simpa using hO'
  have hsh:w2.shape? b=some (63,cells.size):=by simp[World.shape?,hheap]
  have hcs:cells.size=2:=hsz
  have e8:a2.eval (.tmp 8)= .pointer (some ⟨b,0,none⟩):=hv8
  have rop: ∀{v:Value},v= .pointer (some ⟨b,0,none⟩)→Rep w2 F2 (.op k 0) v:=fun e=>by subst e;exact .op k 0 b hO
  obtain⟨j,hj⟩:=Option.isSome_iff_exists.1 (show(Tryz.prog.info? 63).isSome=true by kernel_rfl)
  have hjs:j.size=2:=by
   have h:(Tryz.prog.info? 63).map (·.size)=some 2:=by kernel_rfl
   rw[hj] at h
   exact Option.some.inj h
  refine wpList_plain (by kernel_rfl) fun K1 hK1=> ?_
  refine wp_convB cp9_op (by rw[e8];exact Lib.run_to_unsafe w2 ⟨b,0,none⟩ (t:=63) (j:=j) Tryz.underlying61 Tryz.underlying152 hj (by omega) hsh (by show 0<cells.size;omega)) (hK1 _ _ ?_)
  rw[cp9_ds]
  have hs3:=hs2.put (d:=some 9) (v:= .op k 0) (fun d hd=>by obtain rfl:=Option.some.inj hd;exact show 10≤_ from Nat.le_of_ble_eq_true (by kernel_rfl)) (rop rfl)
  refine wpList_plain (by kernel_rfl) fun K2 hK2=> ?_
  obtain⟨c,hc1,hc2,hc3⟩:=cp10_op
  have e9:(a2.put (some 9) (.pointer (some ⟨b,0,none⟩))).eval (.tmp 9)= .pointer (some ⟨b,0,none⟩):=by
   obtain⟨b2,hO2,hv⟩:=rep_op (hs3.env 9 (.op k 0) (by simp[En.get,En.put])).2
   rw[hO] at hO2
   obtain rfl:=Option.some.inj hO2
   exact hv
  refine wp_extB hc1 hc2 hc3 (y:= .pointer (some ⟨b,0,none⟩)) (by rw[run_callFunc_extern Tryz.func106 (by kernel_rfl) (by kernel_rfl) (by kernel_rfl) (e:=Extern.AbiNoEscape.same) (by kernel_rfl),Lib.run_noEscape,e9];rfl) (hK2 _ _ ?_)
  rw[cp10_ds]
  have hs4:=hs3.put (d:=some 10) (v:= .op k 0) (fun d hd=>by obtain rfl:=Option.some.inj hd;exact show 11≤_ from Nat.le_of_ble_eq_true (by kernel_rfl)) (rop rfl)
  have e10:((a2.put (some 9) (.pointer (some ⟨b,0,none⟩))).put (some 10) (.pointer (some ⟨b,0,none⟩))).eval (.tmp 10)= .pointer (some ⟨b,0,none⟩):=by
   obtain⟨b2,hO2,hv⟩:=rep_op (hs4.env 10 (.op k 0) (by simp[En.get,En.put])).2
   rw[hO] at hO2
   obtain rfl:=Option.some.inj hO2
   exact hv
  refine wpList_plain (by kernel_rfl) fun K3 hK3=> ?_
  refine wp_convB cp11_op (by rw[e10];exact Lib.run_from_unsafe w2 ⟨b,0,none⟩ (u:=63) (j:=j) Tryz.underlying152 Tryz.underlying61 hj hsh (by rw[hcs];kernel_rfl)) (hK3 _ _ ?_)
  rw[cp11_ds]
  have hs5:=hs4.put (d:=some 11) (v:= .op k 0) (fun d hd=>by obtain rfl:=Option.some.inj hd;exact show 12≤_ from Nat.le_of_ble_eq_true (by kernel_rfl)) (rop rfl)
  refine vops_ok (G:=S0b J nx) (K:=fun s=>s.h=(k, .box 63 (.st [.op k 0, .val (.slice none 0 0)]))::[(k, .box 63 bu0)]∧s.nx=nx) hG rfl (fun s F a w hR hs=>hK.nrm s F a w ?_ hs) _ _ _ _ _ (dsts_of (by kernel_rfl)) ?_ hs5
  ·obtain⟨E,H,n⟩:=s
   obtain⟨e1,e2⟩:=hR
   simp only at e1 e2
   subst e1 e2
   simp only[Tryz.f62]
   simp only[bQ,reduceLeDiff,↓reduceIte,bu0]
   exact Nat.le_refl _
  ·obtain⟨E,H,n⟩:=s2
   simp only at h7 hh2 hn2
   subst hh2 hn2
   rw[←cpO_ls]
   simp only[cpO,cpA,cA1,cR1,oL1,Tryz.f62,Option.getD_some,List.drop]
   simp only[bQ,reduceLeDiff,reduceEqDiff,reduceLT,reduceAdd,↓reduceIte,S0b,h7,bu0]
   skip
 ·simp only[cpO,cpA,cA1,cR1,oL1,Tryz.f62,Option.getD_some,List.take]
  obtain⟨E,H,n⟩:=s1
  simp only at h6 h0 hh hnx
  subst hh hnx
  simp only[bQ,reduceEqDiff,↓reduceIte,reduceCtorEq,S0b,h0]
theorem copy1_fn (J:Inv) (nx k m:Nat) (l:List UInt8) (hkm:k≠m):FnH Tryz.prog J 62 [.op k 0] [(k, .box 63 (bu1 k m)),(m, .row 5 (.by l))] nx (.tu []) [(k, .box 63 (bu1 k m)),(m, .row 5 (.by l))] nx:=by
 have h1:(k=m)=False:=eq_false hkm
 have h2:(m=k)=False:=eq_false fun e=>hkm e.symm
 refine fnJ Tryz.func62 rfl (by kernel_rfl) (S0b_ok J nx) rfl ?_
 unfold Tryz.f62
 simp only[↓bD,bQ,reduceEqDiff,reduceLT,reduceAdd,↓reduceIte,reduceCtorEq,S0b,bu1,vptrS.eq_def]
 refine⟨by kernel_rfl, .inl ?_⟩
 simp only[bQ,reduceLeDiff,↓reduceIte,h1]
 exact Nat.le_refl _
def SBUh:FuncId→List V→List (Nat×Ob)→Nat→HR:=fun f args h nx=>tabH [(62,fun h nx=>hO fun k=>hD (hU h k (hF [] [(k, .box 63 bu0)] (.tu []) [(k, .box 63 (.st [.op k 0, .val (.slice none 0 0)]))] nx) fun m l=>hF [k≠m] [(k, .box 63 (bu1 k m)),(m, .row 5 (.by l))] (.tu []) [(k, .box 63 (bu1 k m)),(m, .row 5 (.by l))] nx))] noH f args h nx
theorem SBUh_ok (J:Inv):HTab Tryz.prog J SBUh:=tabH_ok (.c (fun _ nx=> .o fun k=> .d (.U (.F fun _=>copy0_fn J nx k) fun m l=> .F fun⟨c0,_⟩=>copy1_fn J nx k m l c0)) .n) noH_ok
def SBU (J:Inv) (b:Nat):Sig:=⟨J,sdf,S0f,SBUh,b⟩
theorem SBU_ok (J:Inv) (b:Nat):SigOk Tryz.prog (SBU J b):=⟨(S0_ok J).1,SBUh_ok J⟩
theorem write1_fn (J:Inv) (nx k m:Nat) (l s:List UInt8) (hkm:k≠m) (hk:k<nx) (hm:m<nx) (hl:l.length+s.length≤140737488355328):FnH Tryz.prog J 35 [.op k 0, .str s] [(k, .box 63 (bu1 k m)),(m, .row 5 (.by l))] nx (.tu [.i s.length, .val .nilIface]) [(k, .box 63 (bu1 k nx)),(nx, .row 5 (.by (l++s)))] (nx+1):=by
 have h1:(k=m)=False:=eq_false hkm
 have h2:(m=k)=False:=eq_false fun e=>hkm e.symm
 have h3:(nx=k)=False:=eq_false (by omega)
 have h4:(k=nx)=False:=eq_false (by omega)
 have h5:(nx=m)=False:=eq_false (by omega)
 have h6:(m=nx)=False:=eq_false (by omega)
 refine fnJ Tryz.func35 rfl (by kernel_rfl) (SBU_ok J nx) rfl ?_
 unfold Tryz.f35
 simp only[↓bD,bQ,reduceLeDiff,reduceEqDiff,reduceLT,reduceAdd,↓reduceIte,reduceCtorEq,SBU,SBUh,hU.eq_1,bu1,h1,h2,h3,vappS.eq_def]
 refine⟨by unfold zeroU;kernel_rfl,by rw[List.length_append];omega, .inl ?_⟩
 simp only[bQ,reduceLeDiff,reduceEqDiff,reduceAdd,↓reduceIte,h4]
 exact Nat.le_refl _
theorem write0_fn (J:Inv) (nx k:Nat) (s:List UInt8) (hk:k<nx) (hl:s.length≤140737488355328):FnH Tryz.prog J 35 [.op k 0, .str s] [(k, .box 63 bu0)] nx (.tu [.i s.length, .val .nilIface]) [(k, .box 63 (bu1 k nx)),(nx, .row 5 (.by s))] (nx+1):=by
 have h3:(nx=k)=False:=eq_false (by omega)
 have h4:(k=nx)=False:=eq_false (by omega)
 refine fnJ Tryz.func35 rfl (by kernel_rfl) (SBU_ok J nx) rfl ?_
 unfold Tryz.f35
 simp only[↓bD,bQ,reduceLeDiff,reduceEqDiff,reduceLT,reduceAdd,↓reduceIte,reduceCtorEq,SBU,SBUh,hU.eq_1,bu1,bu0,h3,vappS.eq_def]
 refine⟨by unfold zeroU;kernel_rfl,by omega, .inl ?_⟩
 simp only[bQ,reduceLeDiff,reduceEqDiff,reduceAdd,↓reduceIte,h4]
 exact Nat.le_refl _
open Go.RowKit Go.Shelf
set_option linter.unusedVariables false
set_option maxHeartbeats 2000000
theorem str_run (w:World) (b g cap:Nat) (p:Value) (cur:Array Value) (l:List UInt8) (h0:l≠[]) (hbk:w.heap[b]?=some (.cells #[p, .slice (some ⟨g,0,none⟩) l.length cap] 63 (0,0))) (hg:w.heap[g]?=some (.cells cur 5 (0,0))) (hn:l.length≤cap) (hcs:cur.size=cap) (hcm:cap≤maxLen) (hcell: ∀j x,l[j]?=some x→w.cell? ⟨g,j,none⟩=some (.int .u8 x.toNat)):
  Calls Tryz.prog 37 #[.pointer (some ⟨b,0,none⟩)] w fun e w'=>e= .returned (.string ⟨l.toArray⟩)∧w'=w.drew.freeze ⟨g,0,none⟩ l.length:=by
 have hl0:l.length≠0:=by simpa using h0
 have c1:w.drew.cell? ⟨b,1,none⟩=some (.slice (some ⟨g,0,none⟩) l.length cap):=by
  have:w.drew.heap[b]?=some (.cells #[p, .slice (some ⟨g,0,none⟩) l.length cap] 63 (0,0)):=hbk
  rw[Lib.cell_of_heap this];rfl
 have hSD:=Lib.run_unsafeSliceData_row (P:=Tryz.prog) w.drew #[24] 113 ⟨g,0,none⟩ l.length cap (by omega)
 have hUS:=Lib.run_unsafeString_row (P:=Tryz.prog) w.drew 113 3 9 5 Tryz.underlying113 Tryz.co5 g cur.size (by have hg':w.drew.heap[g]?=some (.cells cur 5 (0,0)):=hg;simp[World.shape?,hg']) l h0 (by omega) (by unfold maxLen at hcm;omega) (fun j x hx=>by have:=hcell j x hx;rw[addr_add,Nat.zero_add];exact this)
 have mixed:Tryz.prog.follows .mixedOrders=true:=rfl
 go_enter Tryz.func37,Tryz.ntmps37
 go_wp2
 go_region_o
 all_goals (go_wp2;go_ret;exact⟨rfl,rfl⟩)
theorem freeze_other (w:World) (g n k:Nat) (h:k≠g):(w.freeze ⟨g,0,none⟩ n).heap[k]?=w.heap[k]?:=by
 unfold World.freeze
 split
 ·rfl
 ·simp only[Array.getElem?_modify]
  rw[if_neg (fun e=>h e.symm)]
theorem freeze_size (w:World) (g n:Nat):(w.freeze ⟨g,0,none⟩ n).heap.size=w.heap.size:=by
 unfold World.freeze
 split
 ·rfl
 ·simp
theorem str_fn (J:Inv) (nx k m:Nat) (l:List UInt8) (h0:l≠[]) (hkm:k≠m):FnH Tryz.prog J 37 [.op k 0] [(k, .box 63 (bu1 k m)),(m, .row 5 (.by l))] nx (.str l) [] nx:=by
 refine⟨⟨_,Tryz.func37,by kernel_rfl,by kernel_rfl⟩,fun w F vs hM hlen hvs=> ?_⟩
 obtain⟨y,rfl⟩: ∃y,vs=[y]:=List.length_eq_one_iff.1 hlen
 obtain⟨b,hO,rfl⟩:=rep_op (hvs 0 _ y rfl rfl)
 obtain⟨b',cells,uu,hO',hheap,hsz,h1,h2,hF⟩:=hM.own (.r k) (.box 63 (bu1 k m)) (by simp[Hget,Hroot])
 rw[hO] at hO'
 obtain rfl:b=b':=by simpa using hO'
 obtain⟨x1,sz',n,cc1,u1,xs,hW,he,hown,hc1,hr1,hone,hFr⟩:=hM.own (.r m) (.row 5 (.by l)) (by simp[Hget,Hroot,hkm])
 obtain⟨rfl,rfl,rfl⟩:1=sz'∧l.length=n∧_:=by simpa [V.elems] using he
 have hblkk:F.blk (.r m) (.row 5 (.by l))=x1.ownBlock:=by simp[Cx.blk,hW]
 rcases hown.2 with ⟨rfl,hz⟩|⟨g,cap,cur,rfl,_,hg,hnc,hcm,hcs,htake⟩
 ·exact absurd (List.length_eq_zero_iff.1 hz) h0
 have hcz:(bu1 k m).csize=2:=rfl
 rw[hcz] at hsz h1 h2
 have hu1:uu 1= .slice (some ⟨g,0,none⟩) l.length cap:=by
  have h:=rep_ro (h2 1 (by omega))
  rw[hW] at h
  exact(Option.some.inj h).symm
 have hbk:w.heap[b]?=some (.cells #[uu 0, .slice (some ⟨g,0,none⟩) l.length cap] 63 (0,0)):=by
  rw[hheap]
  have e:cells= #[uu 0,uu 1]:=by
   apply Array.ext (by simpa using hsz)
   intro i hi hi2
   have hi3:i=0∨i=1:=by omega
   rcases hi3 with rfl|rfl
   ·have h:=(h1 0 (by omega)).1
    rw[Array.getElem?_eq_getElem hi] at h
    exact Option.some.inj h
   ·have h:=(h1 1 (by omega)).1
    rw[Array.getElem?_eq_getElem hi] at h
    exact Option.some.inj h
  rw[e,hu1]
 refine(str_run w b g cap (uu 0) cur l h0 hbk hg hnc (by simpa using hcs) hcm fun j x hx=> ?_).mono fun e w' he'=> ?_
 ·have hj:j<l.length:=(List.getElem?_eq_some_iff.1 hx).1
  have h3:=hc1 j hj 0 (by omega)
  rw[Nat.mul_one,Nat.add_zero] at h3
  rw[row_cell hown (fun _ _=>rfl) h3,rep_val (hr1 j hj 0 (by omega))]
  simp[byteAt,List.getD_eq_getElem?_getD,hx]
 ·obtain⟨rfl,rfl⟩:=he'
  have hgF:F.F g:=hFr g rfl
  have hgB:Blk F [(k, .box 63 (bu1 k m)),(m, .row 5 (.by l))] g:=⟨.r m, .row 5 (.by l),by simp[Hget,Hroot,hkm],hblkk⟩
  have hsz2:(w.drew.freeze ⟨g,0,none⟩ l.length).heap.size=w.heap.size:=freeze_size _ _ _
  have hoth: ∀c,c≠g→(w.drew.freeze ⟨g,0,none⟩ l.length).heap[c]?=w.heap[c]?:=fun c hc=>freeze_other _ _ _ _ hc
  refine⟨_,⟨fun c=>F.F c∧ ¬Blk F [(k, .box 63 (bu1 k m)),(m, .row 5 (.by l))] c,F.O,F.W⟩,rfl,⟨?_,?_,?_,by rw[hsz2];exact Nat.le_refl _,fun c _ hc=>hoth c fun e=>hc (e▸hgB)⟩,⟨fun c hc=> .inl hc.1,fun _ _ h=>h,fun _ _ h=>h⟩,fun c h3 h4=>⟨h3,h4⟩,⟨fun c hc=>by rw[hsz2];exact hM.flt c hc.1,hM.nx,?_,?_,hM.wsl,J.out hM.inv (by rw[hsz2];exact Nat.le_refl _) (fun c _ hc=>hoth c fun e=>hc (e▸hgF)) fun c hc=> .inl hc.1⟩,?_, .str l⟩
  ·unfold World.freeze;split<;>rfl
  ·unfold World.freeze;split<;>rfl
  ·unfold World.freeze;split<;>rfl
  ·exact fun m o hm=>by cases m<;>simp[Hget,Hroot,Hchild] at hm
  ·exact fun m m' o o' g hm=>by cases m<;>simp[Hget,Hroot,Hchild] at hm
  ·exact fun m o g hm=>by cases m<;>simp[Hget,Hroot,Hchild] at hm
def b6 (S:List UInt8) (n:Nat):UInt8:=S.getD n 0
def spellF (S:List UInt8):List UInt8→List UInt8
 |a::b::c::r=>b6 S (a.toNat/4)::b6 S (a.toNat%4*16+b.toNat/16)::b6 S (b.toNat%16*4+c.toNat/64)::b6 S (c.toNat%64)::spellF S r
 |[a,b]=>[b6 S (a.toNat/4),b6 S (a.toNat%4*16+b.toNat/16),b6 S (b.toNat%16*4)]
 |[a]=>[b6 S (a.toNat/4),b6 S (a.toNat%4*16)]
 |[]=>[]
def i6 (S:List UInt8) (c:UInt8):Nat:=S.idxOf c
structure Al (S:List UInt8):Prop where
 len:S.length=64
 inv: ∀n,n<64→i6 S (b6 S n)=n
theorem spell_len (S:List UInt8): ∀b:List UInt8,(spellF S b).length=b.length/3*4+(if b.length%3=0 then 0 else b.length%3+1)
 |a::b::c::r=>by
  have:=spell_len S r
  simp only[spellF,List.length_cons,this]
  rw[show(r.length+1+1+1)/3=r.length/3+1 by omega,show(r.length+1+1+1)%3=r.length%3 by omega]
  omega
 |[a,b]=>by simp[spellF]
 |[a]=>by simp[spellF]
 |[]=>by simp[spellF]
theorem spell_app (S:List UInt8): ∀(a b:List UInt8),a.length%3=0→spellF S (a++b)=spellF S a++spellF S b
 |x::y::z::r,b,h=>by
  have:=spell_app S r b (by simp only[List.length_cons] at h;omega)
  simp only[List.cons_append,spellF,this]
 |[x,y],b,h=>by simp at h
 |[x],b,h=>by simp at h
 |[],b,h=>rfl
def stdS:List UInt8:=[65,66,67,68,69,70,71,72,73,74,75,76,77,78,79,80,81,82,83,84,85,86,87,88,89,90,97,98,99,100,101,102,103,104,105,106,107,108,109,110,111,112,113,114,115,116,117,118,119,120,121,122,48,49,50,51,52,53,54,55,56,57,43,47]
theorem and_u64b {a b:Nat} (ha:a<18446744073709551616) (hb:b<18446744073709551616):bt .and .u64 (a:Int) (b:Int)=((a&&&b:Nat):Int):=by
 rw[bt_eq]
 have hx:a&&&b<2^64:=Nat.and_lt_two_pow _ (by omega)
 have h1:(BitVec.ofInt 64 (a:Int)).toNat=a:=by rw[BitVec.ofInt_natCast,BitVec.toNat_ofNat];exact Nat.mod_eq_of_lt (by omega)
 have h2:(BitVec.ofInt 64 (b:Int)).toNat=b:=by rw[BitVec.ofInt_natCast,BitVec.toNat_ofNat];exact Nat.mod_eq_of_lt (by omega)
 show IntKind.u64.wrap ((BitVec.ofInt 64 (a:Int)&&&BitVec.ofInt 64 (b:Int)).toNat:Int)=_
 rw[BitVec.toNat_and,h1,h2,show∀n:Int,IntKind.u64.wrap n=n%18446744073709551616 from fun n=>rfl]
 omega
theorem and63 {n:Nat} (h:n<18446744073709551616):bt .and .u64 (n:Int) 63=((n%64:Nat):Int):=by
 rw[show(63:Int)=((63:Nat):Int) from rfl,and_u64b h (by omega)]
 have:=Nat.and_two_pow_sub_one_eq_mod n 6
 rw[show(2:Nat)^6-1=63 from rfl,show(2:Nat)^6=64 from rfl] at this
 rw[this]
theorem or3 {a b c:Nat} (ha:a<256) (hb:b<256) (hc:c<256):bt .or .u64 (bt .or .u64 (wr .u64 (wr .u64 (a:Int)*65536)) (wr .u64 (wr .u64 (b:Int)*256))) (wr .u64 (c:Int))=((a*65536+b*256+c:Nat):Int):=by
 rw[wr64n (n:=a) (by omega),wr64n (n:=b) (by omega),wr64n (n:=c) (by omega),show(a:Int)*65536=((a*65536:Nat):Int) by omega,show(b:Int)*256=((b*256:Nat):Int) by omega,wr64n (by omega),wr64n (by omega),bt_eq,bt_eq,bits_or64 (by omega) (by omega)]
 have h1:a*65536|||b*256=a*65536+b*256:=by
  have:=or_add (a:=b*256) (b:=a) (k:=16) (by omega)
  rw[Nat.or_comm,show a*65536=2^16*a by omega,this];omega
 rw[h1,bits_or64 (by omega) (by omega)]
 have h2:a*65536+b*256|||c=a*65536+b*256+c:=by
  have:=or_add (a:=c) (b:=a*256+b) (k:=8) (by omega)
  rw[Nat.or_comm,show a*65536+b*256=2^8*(a*256+b) by omega,this];omega
 rw[h2]
theorem byteAt_get (l:List UInt8) (i:Nat):byteAt l i=(((l.getD i 0).toNat:Nat):Int):=rfl
theorem u8_get (l:List UInt8) (i:Nat):u8 (byteAt l i)=l.getD i 0:=by
 unfold u8 byteAt
 exact UInt8.toNat_inj.1 (by rw[Int.toNat_natCast,UInt8.toNat_ofNat',Nat.mod_eq_of_lt (l.getD i 0).toNat_lt])
theorem and3: ∀x:Fin 256,bits .and .u8 (x.val:Int) 3*16%256=((x.val%4*16:Nat):Int):=by decide
theorem and15: ∀x:Fin 256,bits .and .u8 (x.val:Int) 15*4%256=((x.val%16*4:Nat):Int):=by decide
theorem or8: ∀(a:Fin 4) (b:Fin 16),bits .or .u8 ((a.val*16:Nat):Int) (b.val:Int)=((a.val*16+b.val:Nat):Int):=by decide
theorem byte_at (l:List UInt8) (n:Nat):0≤byteAt l n∧byteAt l n<256:=by
 have:=(l.getD n 0).toNat_lt
 rw[byteAt_get];omega
theorem byteAt0 (x:UInt8) (l:List UInt8):byteAt (x::l) 0=((x.toNat:Nat):Int):=rfl
theorem byteAt1 (x y:UInt8) (l:List UInt8):byteAt (x::y::l) 1=((y.toNat:Nat):Int):=rfl
theorem byteAt2 (x y z:UInt8) (l:List UInt8):byteAt (x::y::z::l) 2=((z.toNat:Nat):Int):=rfl
theorem spell_own (J:Inv) (nx:Nat) (S b:List UInt8) (hS:S.length=64) (hb:b.length≤16777216):FnH Tryz.prog J 63 [.by b, .str S] [] nx (.ro (.r nx)) [(nx, .row 5 (.by (spellF S b)))] (nx+1):=by
 refine fnJ Tryz.func63 rfl (by kernel_rfl) (S0b_ok J nx) rfl ?_
 unfold Tryz.f63
 simp only[bQ,reduceAdd,↓reduceIte,reduceCtorEq,reduceToNat,S0b]
 refine⟨by constructor<;>omega,by constructor<;>omega,by omega,by omega,by constructor<;>omega,by omega,by omega,by omega,by omega,?_⟩
 refine LoopC.intro (α:=List UInt8×List UInt8×Nat) (fun y=>y.1++y.2.1=b∧y.1.length%3=0∧nx≤y.2.2) (fun y=>⟨[(0, .by y.2.1),(1, .str S),(5, .ro (.r y.2.2))],[(y.2.2, .row 5 (.by (spellF S y.1)))],y.2.2+1⟩) (fun y=>y.2.1.length) ([],b,nx) ⟨rfl,rfl,Nat.le_refl _⟩ ?_ ?_
 ·simp only[bQ,reduceLeDiff,reduceEqDiff,↓reduceIte,reduceCtorEq,spellF]
  exact⟨rfl,Nat.le_refl _⟩
 ·rintro⟨p,d,r⟩ ⟨hp,hi,hr⟩
  simp only at hp hi hr
  have n1: ¬nx<nx:=Nat.lt_irrefl _
  have a0:(r=r+1)=False:=eq_false (by omega)
  have a1:(r+1=r)=False:=eq_false (by omega)
  have hl:=spell_len S p
  have hd:=congrArg List.length hp
  rw[List.length_append] at hd
  subst hp
  rcases d with _|⟨x,_|⟨y,_|⟨z,t⟩⟩⟩
  ·have c0:decide ((3:Int)≤((0:Nat):Int))=false:=rfl
   have c1:(((0:Nat):Int)==2)=false:=rfl
   have c2:(((0:Nat):Int)==1)=false:=rfl
   simp only[↓bD,bQ,reduceEqDiff,↓reduceIte,reduceCtorEq,List.append_nil,c0,c1,c2]
   refine RenC.intro [(nx,r)] ⟨[(4, .ro (.r nx))],[(nx, .row 5 (.by (spellF S p)))],nx+1⟩ ?_ ?_<;>simp only[bQ,reduceLeDiff,↓reduceIte,n1]
   ·omega
   ·exact Nat.le_refl _
  ·have c0:decide ((3:Int)≤((1:Nat):Int))=false:=rfl
   have c1:(((1:Nat):Int)==2)=false:=rfl
   have c2:(((1:Nat):Int)==1)=true:=rfl
   simp only[↓bD,bQ,reduceEqDiff,↓reduceIte,reduceCtorEq,spell_app S p _ hi,c0,c1,c2]
   refine DrawC.sch [(0,some []),(1,some []),(2,some []),(3,some []),(4,some []),(5,some []),(6,some []),(7,some []),(8,some []),(9,some []),(10,some []),(11,some []),(12,some []),(13,some []),(14,none),(15,none),(16,some [])] [] (by kernel_rfl) ?_
   have hx:=x.toNat_lt
   have q0:((x.toNat:Nat):Int)/4=((x.toNat/4:Nat):Int):=by omega
   have q1:bt .and .u8 ((x.toNat:Nat):Int) 3*16%256=((x.toNat%4*16:Nat):Int):=by rw[bt_eq];exact and3 ⟨x.toNat,hx⟩
   simp only[↓bD,bQ,reduceMul,reduceLeDiff,reduceEqDiff,reduceLT,reduceAdd,↓reduceIte,reduceCtorEq,reduceToNat,reducePow,a0,a1,byteAt0,q0,q1,u8_get,hS]
   have s0:=byte_at S (x.toNat/4)
   have s1:=byte_at S (x.toNat%4*16)
   simp only[List.length_append,List.length_cons,List.length_nil]
   refine⟨by omega,by omega,by omega,by omega,by omega,by omega,by omega,by omega,by omega,by omega,s0.1,s0.2,s1.1,s1.2,by simp only[List.length_cons,List.length_nil] at hd;rw[hl,if_pos hi];omega,?_⟩
   refine RenC.intro [(nx,r+2)] ⟨[(4, .ro (.r nx))],[(nx, .row 5 (.by (spellF S p++spellF S [x])))],nx+1⟩ ?_ ?_<;>simp only[bQ,reduceLeDiff,↓reduceIte,n1]
   ·exact⟨rfl,by omega⟩
   ·exact Nat.le_refl _
  ·have c0:decide ((3:Int)≤((2:Nat):Int))=false:=rfl
   have c1:(((2:Nat):Int)==2)=true:=rfl
   simp only[↓bD,bQ,reduceAdd,↓reduceIte,reduceCtorEq,spell_app S p _ hi,c0,c1]
   refine DrawC.sch [(0,some []),(1,some []),(2,some []),(3,some []),(4,some []),(5,some []),(6,some []),(7,some []),(8,some []),(9,some []),(10,some []),(11,some []),(12,some []),(13,some []),(14,some []),(15,some []),(16,some []),(17,some []),(18,some []),(19,some []),(20,some []),(21,some []),(22,some []),(23,some []),(24,some []),(25,some []),(26,none),(27,none),(28,some [])] [] (by kernel_rfl) ?_
   have hx:=x.toNat_lt
   have hy:=y.toNat_lt
   have q0:((x.toNat:Nat):Int)/4=((x.toNat/4:Nat):Int):=by omega
   have q1:bt .and .u8 ((x.toNat:Nat):Int) 3*16%256=((x.toNat%4*16:Nat):Int):=by rw[bt_eq];exact and3 ⟨x.toNat,hx⟩
   have q2:((y.toNat:Nat):Int)/16=((y.toNat/16:Nat):Int):=by omega
   have q3:bt .or .u8 ((x.toNat%4*16:Nat):Int) ((y.toNat/16:Nat):Int)=((x.toNat%4*16+y.toNat/16:Nat):Int):=by rw[bt_eq];exact or8 ⟨x.toNat%4,by omega⟩ ⟨y.toNat/16,by omega⟩
   have q4:bt .and .u8 ((y.toNat:Nat):Int) 15*4%256=((y.toNat%16*4:Nat):Int):=by rw[bt_eq];exact and15 ⟨y.toNat,hy⟩
   simp only[↓bD,bQ,reduceMul,reduceLeDiff,reduceEqDiff,reduceLT,reduceAdd,↓reduceIte,reduceCtorEq,reduceToNat,reducePow,a0,a1,byteAt0,byteAt1,q0,q1,q2,q3,q4,u8_get,hS]
   have s0:=byte_at S (x.toNat/4)
   have s1:=byte_at S (x.toNat%4*16+y.toNat/16)
   have s2:=byte_at S (y.toNat%16*4)
   simp only[List.length_append,List.length_cons,List.length_nil] at hb⊢
   rw[hl,if_pos hi]
   refine⟨by omega,by omega,by omega,by omega,by omega,by omega,by omega,by omega,by omega,by omega,by omega,by omega,by omega,by omega,by omega,by omega,by omega,by omega,s0.1,s0.2,s1.1,s1.2,s2.1,s2.2,by omega,?_⟩
   refine RenC.intro [(nx,r+2)] ⟨[(4, .ro (.r nx))],[(nx, .row 5 (.by (spellF S p++spellF S [x,y])))],nx+1⟩ ?_ ?_<;>simp only[bQ,reduceLeDiff,↓reduceIte,n1]
   ·exact⟨rfl,by omega⟩
   ·exact Nat.le_refl _
  ·have hx:=x.toNat_lt
   have hy:=y.toNat_lt
   have hz:=z.toNat_lt
   have hc:decide ((3:Int)≤((t.length+3:Nat):Int))=true:=decide_eq_true (by omega)
   obtain⟨N,hN,ho⟩: ∃N,x.toNat*65536+y.toNat*256+z.toNat=N∧bt .or .u64 (bt .or .u64 (wr .u64 (wr .u64 ((x.toNat:Nat):Int)*65536)) (wr .u64 (wr .u64 ((y.toNat:Nat):Int)*256))) (wr .u64 ((z.toNat:Nat):Int))=((N:Nat):Int):=⟨_,rfl,or3 hx hy hz⟩
   simp only[↓bD,bQ,reduceLeDiff,reduceEqDiff,reduceLT,reduceAdd,↓reduceIte,reduceCtorEq,reduceToNat,reducePow,hc,byteAt0,byteAt1,byteAt2,ho]
   refine⟨by omega,by omega,by omega,by omega,by omega,by omega,by omega,by omega,?_⟩
   refine DrawC.sch [(0,some []),(1,some []),(2,some []),(3,some []),(4,some []),(5,some []),(6,some []),(7,some []),(8,some []),(9,some []),(10,some []),(11,some []),(12,some []),(13,some []),(14,some []),(15,some []),(16,some []),(17,some []),(18,some []),(19,none),(20,none),(21,some [])] [] (by kernel_rfl) ?_
   have e0:((N:Nat):Int)/262144=((N/262144:Nat):Int):=by omega
   have e1:bt .and .u64 (((N:Nat):Int)/4096) 63=((N/4096%64:Nat):Int):=by rw[show((N:Nat):Int)/4096=((N/4096:Nat):Int) by omega];exact and63 (by omega)
   have e2:bt .and .u64 (((N:Nat):Int)/64) 63=((N/64%64:Nat):Int):=by rw[show((N:Nat):Int)/64=((N/64:Nat):Int) by omega];exact and63 (by omega)
   have e3:=and63 (n:=N) (by omega)
   have e4:(((t.length+3:Nat):Int)-3)=t.length:=by omega
   simp only[↓bD,bQ,reduceMul,reduceLeDiff,reduceEqDiff,reduceAdd,↓reduceIte,reduceCtorEq,reduceToNat,reducePow,a0,a1,e0,e1,e2,e3,u8_get,hS]
   have s0:=byte_at S (N/262144)
   have s1:=byte_at S (N/4096%64)
   have s2:=byte_at S (N/64%64)
   have s3:=byte_at S (N%64)
   simp only[List.length_append,List.length_cons,List.length_nil]
   refine⟨by omega,by omega,by omega,by omega,by omega,by omega,by omega,by omega,by omega,by omega,by omega,s0.1,s0.2,s1.1,s1.2,s2.1,s2.2,s3.1,s3.2,?_,by omega,by omega,Again.intro (p++[x,y,z],t,r+2) ⟨by simp,by simp[hi],by simp only;omega⟩ (by simp only[List.length_cons];omega) ?_⟩
   ·rw[hl,if_pos hi]
    simp only[List.length_cons] at hd
    omega
   ·have b0:(r+2=r+1)=False:=eq_false (by omega)
    have b1:(r+1=r+2)=False:=eq_false (by omega)
    have b2:(r=r+2)=False:=eq_false (by omega)
    have b3:(r+2=r)=False:=eq_false (by omega)
    have f0:N/262144=x.toNat/4:=by omega
    have f1:N/4096%64=x.toNat%4*16+y.toNat/16:=by omega
    have f2:N/64%64=y.toNat%16*4+z.toNat/64:=by omega
    have f3:N%64=z.toNat%64:=by omega
    simp only[bQ,reduceLeDiff,reduceEqDiff,reduceAdd,↓reduceIte,reduceCtorEq,spell_app S p _ hi,spellF,f0,f1,f2,f3,Nat.add_sub_cancel,List.take_length]
    exact⟨rfl,Nat.le_refl _⟩
def SPlh:FuncId→List V→List (Nat×Ob)→Nat→HR:=fun f args h nx=>tabH [(63,fun _ nx=>hY fun b=>hS fun S=>hD (hF [S.length=64,b.length≤16777216] [] (.ro (.r nx)) [(nx, .row 5 (.by (spellF S b)))] (nx+1)))] noH f args h nx
theorem SPlh_ok (J:Inv):HTab Tryz.prog J SPlh:=tabH_ok (.c (fun _ nx=> .y fun b=> .s fun S=> .d (.F fun⟨c0,c1,_⟩=>spell_own J nx S b c0 c1))<| .n) noH_ok
def SPl (J:Inv) (b:Nat):Sig:=⟨J,sdf,S0f,SPlh,b⟩
theorem SPl_ok (J:Inv) (b:Nat):SigOk Tryz.prog (SPl J b):=⟨(S0_ok J).1,SPlh_ok J⟩
def encF (S b:List UInt8):List UInt8:=spellF S b++List.replicate ((4-(spellF S b).length%4)%4) 61
theorem encodeStd_fn (J:Inv) (b:List UInt8) (hb:b.length≤16777216):Fn Tryz.prog J 36 false [.by b] (.str (encF stdS b)):=by
 refine fnI Tryz.func36 rfl (by kernel_rfl) rfl (SPl_ok J 0) ?_
 unfold Tryz.f36
 have e0:[65,66,67,68,69,70,71,72,73,74,75,76,77,78,79,80,81,82,83,84,85,86,87,88,89,90,97,98,99,100,101,102,103,104,105,106,107,108,109,110,111,112,113,114,115,116,117,118,119,120,121,122,48,49,50,51,52,53,54,55,56,57,43,47]=stdS:=rfl
 simp only[↓bD,bQ,reduceMul,reduceLeDiff,reduceEqDiff,reduceAdd,↓reduceIte,reduceCtorEq,SPl,S0f,SPlh,e0]
 generalize hL:spellF stdS b=L
 have hl:=spell_len stdS b
 rw[hL] at hl
 have h64:stdS.length=64:=rfl
 have hlo:L.length≤33554432:=by
  rw[hl]
  split<;>omega
 have e1:encF stdS b=L++List.replicate ((4-L.length%4)%4) 61:=by rw[←hL];rfl
 rw[e1]
 simp only[List.length_append,List.length_cons,List.length_nil]
 refine⟨h64,hb,by omega,by omega,fun h=> ?_,fun h=>⟨fun h2=> ?_,fun h2=> ?_⟩⟩
 ·have h:=eq_of_beq h
  rw[show L.length%4=2 by omega,List.append_assoc]
  exact⟨by omega,by omega,by omega,by omega,by omega,by omega,rfl⟩
 ·have h2:=eq_of_beq h2
  rw[show L.length%4=3 by omega]
  exact⟨by omega,by omega,by omega,rfl⟩
 ·have h3:L.length%4≠1:=by
   rw[hl]
   split<;>omega
  have h:=beq_eq_false_iff_ne.1 h
  have h2:=beq_eq_false_iff_ne.1 h2
  rw[show L.length%4=0 by omega]
  exact(List.append_nil L).symm
end Go.Proofs.YtfengpdaocgcnaaGreatDoor
