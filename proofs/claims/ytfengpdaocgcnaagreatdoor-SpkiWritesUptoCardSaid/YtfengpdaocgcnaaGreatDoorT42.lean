/- The PEM text of a key. Base64: what DecodeStd answers of any text. The key of a PEM text. A PEM text is read as it was written. Plain Lean. The document's bytes of a key: heads, joined bytes. The reference's numbers: a word, order, without noughts on top. -/
import Derived.Test.YtfengpdaocgcnaaGreatDoorT37
import Derived.Test.YtfengpdaocgcnaaGreatDoorT41
import Derived.Test.YtfengpdaocgcnaaGreatDoorT38
import Derived.Test.YtfengpdaocgcnaaGreatDoorT39
import Derived.Test.YtfengpdaocgcnaaGreatDoorT40
import Derived.Test.YtfengpdaocgcnaaGreatDoorT31
namespace Go.Proofs.YtfengpdaocgcnaaGreatDoor
open Nat (reduceMul reduceLeDiff reduceEqDiff reduceLT reduceAdd reduceSub reduceDiv)
open Int (reduceToNat reducePow)
open Go.RowKit
set_option linter.unusedSimpArgs false
set_option maxRecDepth 100000
def beginN:List UInt8:=[45,45,45,45,45,66,69,71,73,78,32,80,85,66,76,73,67,32,75,69,89,45,45,45,45,45,10]
def endN:List UInt8:=[45,45,45,45,45,69,78,68,32,80,85,66,76,73,67,32,75,69,89,45,45,45,45,45,10]
def pemL (s:List UInt8):List UInt8:=if _h:s=[] then [] else s.take 64++10::pemL (s.drop 64)
termination_by s.length
decreasing_by have:=List.length_pos_iff.2 _h;simp only[List.length_drop];omega
theorem pemL_nil:pemL []=[]:=by rw[pemL,dif_pos rfl]
theorem pemL_ne {s:List UInt8} (h:s≠[]):pemL s=s.take 64++10::pemL (s.drop 64):=by rw[pemL,dif_neg h]
def pemF (b:List UInt8):List UInt8:=beginN++(pemL (encF stdS b)++endN)
def Ky.pem (k:Ky):List UInt8×Int:=if k.pr.2=0 then (pemF k.pr.1,0) else ([],k.pr.2)
def BMh:FuncId→List V→List (Nat×Ob)→Nat→HR:=fun f args h nx=>tabH [(35,fun h nx=>hO fun k=>hS fun s=>hD (hU h k
  (hF [k<nx,s.length≤140737488355328] [(k, .box 63 bu0)] (.tu [.i s.length, .val .nilIface]) [(k, .box 63 (bu1 k nx)),(nx, .row 5 (.by s))] (nx+1))
  fun m l=>hF [k≠m,k<nx,m<nx,l.length+s.length≤140737488355328] [(k, .box 63 (bu1 k m)),(m, .row 5 (.by l))] (.tu [.i s.length, .val .nilIface]) [(k, .box 63 (bu1 k nx)),(nx, .row 5 (.by (l++s)))] (nx+1))),
 (37,fun h nx=>hO fun k=>hD (hU h k none
  fun m l=>hF [l≠[],k≠m] [(k, .box 63 (bu1 k m)),(m, .row 5 (.by l))] (.str l) [] nx))] noH f args h nx
theorem BMh_ok (J:Inv):HTab Tryz.prog J BMh:=tabH_ok (.c (fun _ nx=> .o fun k=> .s fun s=> .d (.U (.F fun⟨c0,c1,_⟩=>write0_fn J nx k s c0 c1) fun m l=> .F fun⟨c0,c1,c2,c3,_⟩=>write1_fn J nx k m l s c0 c1 c2 c3)) (.c (fun _ nx=> .o fun k=> .d (.U .no fun m l=> .F fun⟨c0,c1,_⟩=>str_fn J nx k m l c0 c1)) .n)) noH_ok
def BMaf:FuncId→List V→CR:=fun f args=>tab [(9,cK fun k=>cF [k.Ok] false (.tu [.by k.pr.1, .i k.pr.2])),
 (36,cY fun b=>cF [b.length≤16777216] false (.str (encF stdS b)))] noF f args
def BMa (J:Inv):Sig:=⟨J,sdf,BMaf,noH,0⟩
theorem BMa_ok (J:Inv) (hJ: ∀w F,J.I w F→JV.I w F) (hE:EdT J):SigOk Tryz.prog (BMa J):= .plain (tab_ok (.c (.k fun k=> .z fun⟨c0,_⟩=>sprint_fn J hJ hE k c0)<|
 .c (.y fun b=> .z fun⟨c0,_⟩=>encodeStd_fn J b c0)<| .n) noF_ok)
def BM (J:Inv):Sig:=⟨J,sdf,BMaf,BMh,0⟩
theorem BM_ok (J:Inv) (hJ: ∀w F,J.I w F→JV.I w F) (hE:EdT J):SigOk Tryz.prog (BM J):=⟨(BMa_ok J hJ hE).1,BMh_ok J⟩
theorem pr_len (k:Ky):k.pr.1.length≤65536:=by
 unfold Ky.pr
 split
 ·exact printF_len _
 ·exact Nat.zero_le _
theorem enc_len {b:List UInt8} (h:b.length≤65536):(encF stdS b).length≤100000:=by
 have hl:=spell_len stdS b
 unfold encF
 rw[List.length_append,List.length_replicate,hl]
 split<;>omega
theorem pem0_own (J:Inv) (hJ: ∀w F,J.I w F→JV.I w F) (hE:EdT J) (k:Ky) (hk:k.Ok) (h:k.pr.2≠0):FnH Tryz.prog J 10 [k.V] [] 0 (.tu [.str [], .i k.pr.2]) [] 12:=by
 rcases k with ⟨kty,crv,s,n,e,x,y⟩
 refine fnJ Tryz.func10 rfl (by kernel_rfl) (BM_ok J hJ hE) rfl ?_
 unfold Tryz.f10
 have e1:((Ky.mk kty crv s n e x y).pr.2==0)=false:=beq_eq_false_iff_ne.2 h
 simp only[↓bD,bQ,reduceEqDiff,reduceLT,reduceAdd,↓reduceIte,BM,BMaf,Ky.V,keyV,cK,keyW,byN,e1]
 refine⟨hk,RenC.skip ?_⟩
 simp only[bQ,reduceLeDiff,reduceEqDiff,reduceAdd,↓reduceIte]
theorem pem1_own (J:Inv) (hJ: ∀w F,J.I w F→JV.I w F) (hE:EdT J) (k:Ky) (hk:k.Ok) (h:k.pr.2=0):FnH Tryz.prog J 10 [k.V] [] 0 (.tu [.str (pemF k.pr.1), .i 0]) [] 3:=by
 have hp:=pr_len k
 have hel:=enc_len hp
 have hfin:pemF k.pr.1=beginN++pemL (encF stdS k.pr.1)++endN:=by unfold pemF;rw[List.append_assoc]
 rcases k with ⟨kty,crv,s,n,e,x,y⟩
 refine fnJ Tryz.func10 rfl (by kernel_rfl) (BM_ok J hJ hE) rfl ?_
 unfold Tryz.f10
 have n1:[45,45,45,45,45,66,69,71,73,78,32,80,85,66,76,73,67,32,75,69,89,45,45,45,45,45,10]=beginN:=rfl
 have n2:[45,45,45,45,45,69,78,68,32,80,85,66,76,73,67,32,75,69,89,45,45,45,45,45,10]=endN:=rfl
 simp only[↓bD,bQ,reduceEqDiff,reduceLT,reduceAdd,↓reduceIte,reduceCtorEq,BM,BMaf,BMh,hU.eq_1,bu0,bu1,Ky.V,keyV,cK,keyW,byN,h,n1]
 generalize (Ky.mk kty crv s n e x y).pr.1=b at hp hel hfin⊢
 refine⟨hk,by decide,by omega,?_⟩
 refine LoopC.intro (α:=List UInt8×List UInt8×Nat) (fun y=>y.1++pemL y.2.1=beginN++pemL (encF stdS b)∧y.1.length+2*y.2.1.length≤300000∧1<y.2.2) (fun y=>⟨[(7, .str y.2.1),(6, .op 1 0)],[(1, .box 63 (.st [.op 1 0, .ro (.r y.2.2)])),(y.2.2, .row 5 (.by y.1))],y.2.2+1⟩) (fun y=>y.2.1.length) (beginN,encF stdS b,2) ⟨rfl,by show beginN.length+2*(encF stdS b).length≤300000;have:beginN.length=27:=rfl;omega,by show 1<2;omega⟩ ?_ ?_
 ·simp only[bQ,reduceLeDiff,reduceEqDiff,reduceAdd,↓reduceIte]
  skip
 ·rintro⟨acc,rest,r⟩ ⟨h1,h2,h3⟩
  simp only at h1 h2 h3
  have r1:(r=1)=False:=eq_false (by omega)
  have r2:(1=r)=False:=eq_false (by omega)
  have r3:(r+1=1)=False:=eq_false (by omega)
  have r4:(1=r+1)=False:=eq_false (by omega)
  have r5:(r=0)=False:=eq_false (by omega)
  simp only[↓bD,bQ,reduceEqDiff,reduceAdd,↓reduceIte,BMh,hU.eq_1,bu0,bu1,n2,r1,r2,r3,r4]
  have em:imin 64 (rest.length:Int)=((min 64 rest.length:Nat):Int):=by rw[imin_eq];omega
  have hcl:(cutL rest 0 (min 64 rest.length)).length=min 64 rest.length:=by rw[cutL_eq];simp
  rw[em,Int.toNat_natCast]
  refine⟨fun h=> ?_,fun h=> ?_⟩
  ·have hne:rest≠[]:=by simpa using h
   have hpos:=List.length_pos_iff.2 hne
   refine⟨by omega,by omega,by omega,by omega,by omega,by rw[List.length_append,hcl];simp only[List.length_cons,List.length_nil];omega,by omega,by omega,Again.intro (acc++(cutL rest 0 (min 64 rest.length)++[10]),rest.drop 64,r+1) ⟨?_,?_,by show 1<r+1;omega⟩ (by show(rest.drop 64).length<rest.length;rw[List.length_drop];omega) ?_⟩
   ·show acc++(cutL rest 0 (min 64 rest.length)++[10])++pemL (rest.drop 64)=_
    rw[←h1,pemL_ne hne,cutL_eq,List.drop_zero]
    have:rest.take (min 64 rest.length)=rest.take 64:=by rw[Nat.min_comm,←List.take_take];exact List.take_of_length_le (by rw[List.length_take];omega)
    rw[this]
    simp
   ·show(acc++(cutL rest 0 (min 64 rest.length)++[10])).length+2*(rest.drop 64).length≤300000
    rw[List.length_append,List.length_append,hcl,List.length_drop]
    simp only[List.length_cons,List.length_nil]
    omega
   ·simp only[bQ,reduceLeDiff,reduceEqDiff,reduceAdd,↓reduceIte,r4]
    refine⟨?_,Nat.le_refl _⟩
    rw[cutL_eq]
    split
    ·exact List.take_of_length_le (by rw[List.length_drop];omega)
    ·rw[Nat.sub_self,List.take_zero,List.drop_eq_nil_iff.2 (by omega)]
  ·obtain rfl:rest=[]:=by simpa using h
   rw[pemL_nil,List.append_nil] at h1
   subst h1
   refine⟨by omega,by omega,by have:endN.length=25:=rfl;omega,by simp[endN],RenC.intro [] ⟨[(2, .str (pemF b)),(3, .i 0)],[],0⟩ ?_ ?_⟩
   ·rw[hfin]
    simp only[bQ,reduceLeDiff,reduceEqDiff,↓reduceIte]
    skip
   ·simp only[bQ,reduceLeDiff,reduceEqDiff,reduceAdd,↓reduceIte]
    skip
theorem spem_fn (J:Inv) (hJ: ∀w F,J.I w F→JV.I w F) (hE:EdT J) (k:Ky) (hk:k.Ok):Fn Tryz.prog J 10 false [k.V] (.tu [.str k.pem.1, .i k.pem.2]):=by
 by_cases h:k.pr.2=0
 ·have e:k.pem=(pemF k.pr.1,0):=by unfold Ky.pem;rw[if_pos h]
  rw[e];exact Fn.of_plain (pem1_own J hJ hE k hk h) rfl
 ·have e:k.pem=([],k.pr.2):=by unfold Ky.pem;rw[if_neg h]
  rw[e];exact Fn.of_plain (pem0_own J hJ hE k hk h) rfl
section
variable (J:Inv) (s p:List UInt8)
end
def headB (t:Int) (n:Nat):List UInt8:=
 if n<128 then [u8 t,u8 n] else if n<256 then [u8 t,u8 129,u8 n] else if n<65536 then [u8 t,u8 130,u8 ((n/256:Nat):Int),u8 ((n%256:Nat):Int)]
 else [u8 t,u8 131,u8 ((n/65536:Nat):Int),u8 ((n/256%256:Nat):Int),u8 ((n%256:Nat):Int)]
theorem headB_eq (t:Int) (n:Nat) (h:n<16777216):headB t n=u8 t::lenF n:=by
 unfold headB lenF
 split
 ·rfl
 ·rename_i h1
  have e0:beF 0=[]:=by rw[beF,if_pos rfl]
  split
  ·rename_i h2
   rw[beF,if_neg (by omega),show n/256=0 from by omega,e0,Nat.mod_eq_of_lt h2];rfl
  ·rename_i h2
   split
   ·rename_i h3
    rw[beF,if_neg (by omega),beF,if_neg (by omega),show n/256/256=0 from by omega,e0,Nat.mod_eq_of_lt (show n/256<256 by omega)];rfl
   ·rename_i h3
    rw[beF,if_neg (by omega),beF,if_neg (by omega),beF,if_neg (by omega),show n/256/256/256=0 from by omega,e0,Nat.mod_eq_of_lt (show n/256/256<256 by omega),show n/65536=n/256/256 from by omega];rfl
theorem rHead_own (J:Inv) (t:Int) (n:Nat) (t0:0≤t) (t1:t≤255) (hn:n<16777216):FnH Tryz.prog J 124 [.i t, .i n] [] 0 (.by (u8 t::lenF n)) [] 9:=by
 rw[←headB_eq t n hn]
 refine fnJ Tryz.func124 rfl (by kernel_rfl) (S0_ok J) rfl ?_
 unfold Tryz.f124
 simp only[bQ,reduceMul,reduceLeDiff,reduceEqDiff,reduceAdd,↓reduceIte,reduceCtorEq,S0]
 have e1:t%256=t:=Int.emod_eq_of_lt t0 (by omega)
 rw[e1]
 have fin: ∀l:List UInt8,l=headB t n→ ∀e,RenC 0 (RetH [.tmp 4] (.by (headB t n)) [] 9) ⟨(4, .ro (.r 0))::e,[(0, .row 5 (.by l))],1⟩:=fun l hl e=>by
  subst hl
  refine RenC.skip ?_
  simp only[bQ,reduceLeDiff,↓reduceIte]
 refine⟨fun h=> ?_,fun h=>⟨fun h2=> ?_,fun h2=>⟨fun h3=> ?_,fun h3=> ?_⟩⟩⟩
 all_goals
  simp only[decide_eq_true_eq,decide_eq_false_iff_not] at *
  repeat (with_reducible refine And.intro ?_ ?_; · first|omega|(constructor<;>omega))
  refine fin _ ?_ _
  unfold headB
 ·rw[if_pos (by omega),show(n:Int)%256=n from by omega]
 ·rw[if_neg (by omega),if_pos (by omega),show(n:Int)%256=n from by omega]
 ·rw[if_neg (by omega),if_neg (by omega),if_pos (by omega),show(n:Int)/256%256=((n/256:Nat):Int) from by omega,show(n:Int)%256%256=((n%256:Nat):Int) from by omega]
 ·rw[if_neg (by omega),if_neg (by omega),if_neg (by omega),show(n:Int)/65536%256=((n/65536:Nat):Int) from by omega,show(n:Int)/256%256%256=((n/256%256:Nat):Int) from by omega,show(n:Int)%256%256=((n%256:Nat):Int) from by omega]
theorem rHead_fn (J:Inv) (t:Int) (n:Int) (t0:0≤t) (t1:t≤255) (h0:0≤n) (hn:n<16777216):Fn Tryz.prog J 124 false [.i t, .i n] (.by (u8 t::lenF n.toNat)):=by
 obtain⟨n,rfl⟩:=Int.eq_ofNat_of_zero_le h0
 exact Fn.of_plain (rHead_own J t n t0 t1 (by omega)) rfl
theorem rjoin_own (J:Inv) (a b:List UInt8) (h:a.length+b.length≤16777216):FnH Tryz.prog J 68 [.by a, .by b] [] 0 (.by (a++b)) [] 1:=by
 refine fnJ Tryz.func68 rfl (by kernel_rfl) (S0_ok J) rfl ?_
 unfold Tryz.f68
 simp only[bQ,reduceAdd,S0]
 generalize hK:Kseq _ _ _ _=K2
 refine LoopC.introA (α:=Nat×Nat) (fun y=>y.1≤a.length) (fun y=>⟨[(5, .ro (.r y.2)),(6, .i y.1),(0, .by a),(1, .by b)],[(y.2, .row 5 (.by (a.take y.1)))],y.2+1⟩) (fun y=>a.length-y.1) (0,0) [.sl 5 5 (.by [])] (Nat.zero_le _) ?_ ?_
 ·simp only[bQ,reduceLeDiff,reduceEqDiff,↓reduceIte,reduceCtorEq]
  rfl
 ·rintro⟨i,k⟩ q
  simp only at q
  simp only[bQ,reduceMul,reduceLeDiff,reduceEqDiff,reduceLT,reduceAdd,↓reduceIte,reduceCtorEq]
  refine⟨fun hi=> ?_,fun hi=> ?_⟩
  ·have hi:i<a.length:=by have:=of_decide_eq_true hi;omega
   have h0:=byteAt_lo a i
   have h1:=byteAt_hi a i
   simp only[take_snoc a hi]
   refine⟨by omega,by omega,by omega,by omega,by rw[List.length_take];omega,by constructor<;>omega,Again.intro (i+1,k+2) (by simp only;omega) (by simp only;omega) ?_⟩
   simp only[bQ,reduceLeDiff,reduceEqDiff,reduceAdd,↓reduceIte,reduceCtorEq]
   exact⟨rfl,Nat.le_refl _⟩
  ·have hi:i=a.length:=by have:=of_decide_eq_false hi;omega
   subst hi
   rw[←hK,List.take_length]
   simp only[bQ]
   refine LoopC.intro (α:=Nat×Nat) (fun y=>y.1≤b.length) (fun y=>⟨[(5, .ro (.r y.2)),(7, .i y.1),(1, .by b)],[(y.2, .row 5 (.by (a++b.take y.1)))],y.2+1⟩) (fun y=>b.length-y.1) (0,k) (Nat.zero_le _) ?_ ?_
   ·simp only[bQ,reduceLeDiff,reduceEqDiff,↓reduceIte,reduceCtorEq,List.append_nil]
    exact⟨rfl,Nat.le_refl _⟩
   ·rintro⟨i,k⟩ q
    simp only at q
    simp only[bQ,reduceMul,reduceLeDiff,reduceEqDiff,reduceLT,reduceAdd,↓reduceIte,reduceCtorEq]
    refine⟨fun hi=> ?_,fun hi=> ?_⟩
    ·have hi:i<b.length:=by have:=of_decide_eq_true hi;omega
     have h0:=byteAt_lo b i
     have h1:=byteAt_hi b i
     simp only[List.append_assoc,take_snoc b hi]
     refine⟨by omega,by omega,by omega,by omega,by rw[List.length_append,List.length_take];omega,by constructor<;>omega,Again.intro (i+1,k+2) (by simp only;omega) (by simp only;omega) ?_⟩
     simp only[bQ,reduceLeDiff,reduceEqDiff,reduceAdd,↓reduceIte]
     exact⟨rfl,Nat.le_refl _⟩
    ·have hi:i=b.length:=by have:=of_decide_eq_false hi;omega
     subst hi
     rw[List.take_length]
     refine RenC.intro [(0,k)] ⟨[(4, .ro (.r 0))],[(0, .row 5 (.by (a++b)))],1⟩ ?_ ?_
     ·simp only[bQ,reduceLeDiff,reduceLT,↓reduceIte]
      exact .inl (Nat.zero_le _)
     ·simp only[bQ,reduceLeDiff,↓reduceIte]
theorem rjoin_fn (J:Inv) (a b:List UInt8) (h:a.length+b.length≤16777216):Fn Tryz.prog J 68 false [.by a, .by b] (.by (a++b)):=Fn.of_plain (rjoin_own J a b h) rfl
theorem joinN_fn (J:Inv) (a:List UInt8) (h:a.length≤16777216):Fn Tryz.prog J 68 false [.by a, .val (.slice none 0 0)] (.by a):=by
 have h0:=rjoin_fn J a [] h
 rw[List.append_nil] at h0
 refine⟨h0.1,fun w F vs hI hF hlen hvs=>h0.2 w F vs hI hF hlen fun i v x hi hx=> ?_⟩
 match i,hi with
 |0,hi=>exact hvs 0 _ x hi hx
 |1,hi=>
  obtain rfl:V.by []=v:=by simpa using hi
  exact byN_rep (v:= .val (.slice none 0 0)) rfl (hvs 1 _ x rfl hx)
 |j+2,hi=>simp at hi
def cJn:List V→CR
 |[.by a, .by b]=>some ([a.length+b.length≤16777216],false, .by (a++b))
 |[.by a, .val (.slice none 0 0)]=>some ([a.length≤16777216],false, .by a)
 |_=>none
theorem cJn_ok (J:Inv):EntAt Tryz.prog J 68 (fun r=>r) cJn:=fun args l fr r hk hl=>by
 unfold cJn at hk
 split at hk
 ·obtain⟨rfl,rfl,rfl⟩:=jsome_tri hk
  exact rjoin_fn J _ _ (hl _ (by simp))
 ·obtain⟨rfl,rfl,rfl⟩:=jsome_tri hk
  exact joinN_fn J _ (hl _ (by simp))
 ·cases hk
def RPaf:FuncId→List V→CR:=fun f args=>tab [(124,cI .i64 fun t=>cI .i64 fun n=>cF [0≤t,t≤255,0≤n,n<16777216] false (.by (u8 t::lenF n.toNat)))] noF f args
def RPa (J:Inv):Sig:=⟨J,sdf,RPaf,noH,0⟩
theorem RPa_ok (J:Inv):SigOk Tryz.prog (RPa J):= .plain (tab_ok (.c (.i fun t=> .i fun n=> .z fun⟨c0,c1,c2,c3,_⟩=>rHead_fn J t n c0 c1 c2 c3)<| .n) noF_ok)
def RPf:FuncId→List V→CR:=fun f args=>tab [(68,cJn)] RPaf f args
def RP (J:Inv):Sig:=⟨J,sdf,RPf,noH,0⟩
theorem RP_ok (J:Inv):SigOk Tryz.prog (RP J):=⟨tab_ok (.c (cJn_ok J) .n) (RPa_ok J).1,fun _ _ _ _ _ h=>by cases h⟩
theorem wrap_fn (J:Inv) (t:Int) (b:List UInt8) (t0:0≤t) (t1:t≤255) (h:b.length≤16000000):Fn Tryz.prog J 67 false [.i t, .by b] (.by (wrapB t b)):=by
 have hl:=lenF_len b.length (by omega)
 refine fnI Tryz.func67 rfl (by kernel_rfl) rfl (RP_ok J) ?_
 unfold Tryz.f67
 simp only[↓bD,bQ,reduceEqDiff,reduceAdd,↓reduceIte,reduceCtorEq,RP,RPf,RPaf,cJn,wrapB]
 exact⟨t0,t1,by omega,by omega,by omega⟩
theorem rOfOid_at (J:Inv) (s:List UInt8) (h:s.length≤268435456) (hs:(ooF (spl 46 s)).isSome=true):Fn Tryz.prog J 180 false [.str s] (.tu [.st [.val (.int .i64 6), .by (oidB s), .val (.int .i64 0)], .bb true]):=by
 have h1:=Fn.of_plain (rOfOid_own J s h) (ofOidV_cl s)
 rw[ofOidV,oidB_some hs] at h1
 exact h1
def RPbf:FuncId→List V→CR:=fun f args=>tab [(67,cI .i64 fun t=>cY fun b=>cF [0≤t,t≤255,b.length≤16000000] false (.by (wrapB t b))),
 (180,cS fun s=>cF [s.length≤268435456,(ooF (spl 46 s)).isSome=true] false (.tu [.st [.val (.int .i64 6), .by (oidB s), .val (.int .i64 0)], .bb true])),
 (181,cY fun l=>cF [l.length≤140737488350000] false (.st [.val (.int .i64 2), .by (ofuD l), .val (.int .i64 0)]))] RPaf f args
def RPb (J:Inv):Sig:=⟨J,sdf,RPbf,noH,0⟩
theorem RPb_ok (J:Inv):SigOk Tryz.prog (RPb J):= .plain (tab_ok (.c (.i fun t=> .y fun b=> .z fun⟨c0,c1,c2,_⟩=>wrap_fn J t b c0 c1 c2)<|
 .c (.s fun s=> .z fun⟨c0,c1,_⟩=>rOfOid_at J s c0 c1)<|
 .c (.y fun l=> .z fun⟨c0,_⟩=>rOfUint_fn J l c0)<| .n) (RPa_ok J).1)
theorem roid_fn (J:Inv) (s:List UInt8) (h:s.length≤268435456) (hs:(ooF (spl 46 s)).isSome=true) (hl:(oidB s).length≤16000):Fn Tryz.prog J 125 false [.str s] (.by (wrapB 6 (oidB s))):=by
 refine fnI Tryz.func125 rfl (by kernel_rfl) rfl (RPb_ok J) ?_
 unfold Tryz.f125
 simp only[↓bD,bQ,reduceLeDiff,reduceEqDiff,reduceLT,reduceAdd,↓reduceIte,reduceCtorEq,RPb,RPbf]
 exact⟨h,hs,by omega,by omega,by omega⟩
theorem ruint_fn (J:Inv) (b:List UInt8) (h:b.length≤1600000):Fn Tryz.prog J 126 false [.by b] (.by (wrapB 2 (ofuD b))):=by
 have hl:=ofuD_len b
 refine fnI Tryz.func126 rfl (by kernel_rfl) rfl (RPb_ok J) ?_
 unfold Tryz.f126
 simp only[↓bD,bQ,reduceLeDiff,reduceEqDiff,reduceLT,reduceAdd,↓reduceIte,reduceCtorEq,RPb,RPbf]
 exact⟨by omega,by omega,by omega,by omega⟩
def algB (k:Ky):List UInt8:=wrapB 48 (if k.kty=2 then wrapB 6 (oidB rsaN)++[5,0] else if k.kty=3 then wrapB 6 (oidB ecN)++wrapB 6 (oidB (cvN k.crv)) else wrapB 6 (oidB edN))
def bodB (k:Ky):List UInt8:=if k.kty=2 then wrapB 48 (wrapB 2 (ofuD k.n)++wrapB 2 (ofuD k.e)) else if k.kty=3 then 4::(k.x++k.y) else k.x
def bysB (k:Ky):List UInt8:=wrapB 48 (algB k++wrapB 3 (0::bodB k))
def RPcf:FuncId→List V→CR:=fun f args=>tab [(125,cS fun s=>cF [s.length≤268435456,(ooF (spl 46 s)).isSome=true,(oidB s).length≤16000] false (.by (wrapB 6 (oidB s)))),
 (126,cY fun b=>cF [b.length≤1600000] false (.by (wrapB 2 (ofuD b))))] RPbf f args
def RPc (J:Inv):Sig:=⟨J,sdf,RPcf,noH,0⟩
theorem RPc_ok (J:Inv):SigOk Tryz.prog (RPc J):= .plain (tab_ok (.c (.s fun s=> .z fun⟨c0,c1,c2,_⟩=>roid_fn J s c0 c1 c2)<|
 .c (.y fun b=> .z fun⟨c0,_⟩=>ruint_fn J b c0)<| .n) (RPb_ok J).1)
def RPd (J:Inv):Sig:=⟨J,sdf,fun f args=>tab [(68,cJn)] RPcf f args,noH,0⟩
theorem RPd_ok (J:Inv):SigOk Tryz.prog (RPd J):=⟨tab_ok (.c (cJn_ok J) .n) (RPc_ok J).1,fun _ _ _ _ _ h=>by cases h⟩
theorem ralg_fn (J:Inv) (k:Ky) (hk:k.kty=2∨k.kty=3∨k.kty=4):Fn Tryz.prog J 69 false [k.V] (.by (algB k)):=by
 rcases k with ⟨kty,crv,s,n,e,x,y⟩
 have en:[49,46,50,46,56,52,48,46,49,49,51,53,52,57,46,49,46,49,46,49]=rsaN:=rfl
 have ee:[49,46,50,46,56,52,48,46,49,48,48,52,53,46,50,46,49]=ecN:=rfl
 have ed:[49,46,51,46,49,48,49,46,49,49,50]=edN:=rfl
 have e2:[49,46,50,46,56,52,48,46,49,48,48,52,53,46,51,46,49,46,55]=p256N:=rfl
 have e3:[49,46,51,46,49,51,50,46,48,46,51,52]=p384N:=rfl
 refine fnI Tryz.func69 rfl (by kernel_rfl) rfl (RPd_ok J) ?_
 unfold Tryz.f69
 have wl: ∀t b,b.length≤16→(wrapB t b).length≤18:=fun t b h=>by
  rw[wrapB_len];unfold szOf lenF;rw[if_pos (by omega)];simp only[List.length_cons,List.length_nil];omega
 have w1:=wl 6 _ (show(oidB rsaN).length≤16 by rw[nm_rsa.2];decide)
 have w2:=wl 6 _ (show(oidB ecN).length≤16 by rw[nm_ec.2];decide)
 have w3:=wl 6 _ (show(oidB p256N).length≤16 by rw[nm_256.2];decide)
 have w4:=wl 6 _ (show(oidB p384N).length≤16 by rw[nm_384.2];decide)
 have w5:=wl 6 _ (show(oidB edN).length≤16 by rw[nm_ed.2];decide)
 rw[nm_rsa.2] at w1
 rw[nm_ec.2] at w2
 rw[nm_256.2] at w3
 rw[nm_384.2] at w4
 rw[nm_ed.2] at w5
 simp only at hk
 rcases hk with rfl|rfl|rfl
 ·simp only[↓bD,bQ,reduceMul,reduceLeDiff,reduceEqDiff,reduceLT,reduceAdd,↓reduceIte,reduceCtorEq,RPd,RPcf,RPbf,RPaf,cJn,Ky.V,keyV,en,nm_rsa,List.length_append]
  refine⟨by decide,by omega,by omega,by omega,by omega,by omega,by omega,by omega,by omega,?_⟩
  unfold algB
  rw[if_pos rfl,nm_rsa.2];rfl
 ·have b1:((3:Int)==2)=false:=rfl
  by_cases hc:crv=2
  ·have b2:(crv==2)=true:=beq_iff_eq.2 hc
   simp only[↓bD,bQ,reduceLeDiff,reduceEqDiff,reduceLT,reduceAdd,↓reduceIte,RPd,RPcf,RPbf,RPaf,cJn,Ky.V,keyV,b1,b2,ee,e3,nm_ec,nm_384,List.length_append]
   refine⟨by decide,by decide,by omega,by omega,by omega,by omega,?_⟩
   unfold algB cvN
   rw[if_neg (by show ¬(3:Int)=2;decide),if_pos rfl,if_pos hc,nm_ec.2,nm_384.2]
  ·have b2:(crv==2)=false:=beq_eq_false_iff_ne.2 hc
   simp only[↓bD,bQ,reduceLeDiff,reduceEqDiff,reduceLT,reduceAdd,↓reduceIte,RPd,RPcf,RPbf,RPaf,cJn,Ky.V,keyV,b1,b2,ee,e2,nm_ec,nm_256,List.length_append]
   refine⟨by decide,by decide,by omega,by omega,by omega,by omega,?_⟩
   unfold algB cvN
   rw[if_neg (by show ¬(3:Int)=2;decide),if_pos rfl,if_neg hc,nm_ec.2,nm_256.2]
 ·have b1:((4:Int)==2)=false:=rfl
  have b2:((4:Int)==3)=false:=rfl
  simp only[↓bD,bQ,reduceLeDiff,reduceEqDiff,reduceLT,reduceAdd,↓reduceIte,RPd,RPcf,RPbf,RPaf,cJn,Ky.V,keyV,b1,b2,ed,nm_ed]
  refine⟨by decide,by omega,by omega,by omega,?_⟩
  unfold algB
  rw[if_neg (by show ¬(4:Int)=2;decide),if_neg (by show ¬(4:Int)=3;decide),nm_ed.2]
theorem rbody_fn (J:Inv) (k:Ky) (hk:k.kty=2∨k.kty=3∨k.kty=4) (hn:k.n.length≤65536) (he:k.e.length≤65536) (hx:k.x.length≤65536) (hy:k.y.length≤65536):Fn Tryz.prog J 70 false [k.V] (.by (bodB k)):=by
 rcases k with ⟨kty,crv,s,n,e,x,y⟩
 have on:=ofuD_len n
 have oe:=ofuD_len e
 have ln:=lenF_len (ofuD n).length (by simp only at hn;omega)
 have le:=lenF_len (ofuD e).length (by simp only at he;omega)
 have wn:=wrapB_len 2 (ofuD n)
 have we:=wrapB_len 2 (ofuD e)
 unfold szOf at wn we
 refine fnI Tryz.func70 rfl (by kernel_rfl) rfl (RPd_ok J) ?_
 unfold Tryz.f70
 simp only at hk hn he hx hy
 rcases hk with rfl|rfl|rfl
 ·simp only[↓bD,bQ,reduceEqDiff,reduceLT,reduceAdd,↓reduceIte,RPd,RPcf,RPbf,RPaf,cJn,Ky.V,keyV]
  refine DrawC.sch [(0,some []),(1,some []),(3,some []),(4,some []),(2,none),(5,none),(6,none),(7,none),(8,some [])] [] (by kernel_rfl) ?_
  simp only[↓bD,bQ,reduceEqDiff,reduceLT,reduceAdd,↓reduceIte,List.length_append]
  refine⟨by omega,by omega,by omega,by omega,by omega,by omega,?_⟩
  unfold bodB
  rw[if_pos rfl]
 ·have b1:((3:Int)==2)=false:=rfl
  simp only[↓bD,bQ,reduceMul,reduceLeDiff,reduceEqDiff,reduceLT,reduceAdd,↓reduceIte,reduceCtorEq,RPd,RPcf,RPbf,RPaf,cJn,Ky.V,keyV,b1,List.length_append]
  refine⟨by omega,by omega,by omega,by omega,?_⟩
  unfold bodB
  rw[if_neg (by show ¬(3:Int)=2;decide),if_pos rfl];rfl
 ·have b1:((4:Int)==2)=false:=rfl
  have b2:((4:Int)==3)=false:=rfl
  simp only[↓bD,bQ,reduceEqDiff,reduceLT,reduceAdd,↓reduceIte,RPd,RPcf,RPbf,RPaf,cJn,Ky.V,keyV,b1,b2]
  refine⟨by omega,?_⟩
  unfold bodB
  rw[if_neg (by show ¬(4:Int)=2;decide),if_neg (by show ¬(4:Int)=3;decide)]
structure Ky.Sm (k:Ky):Prop where
 t:k.kty=2∨k.kty=3∨k.kty=4
 n:k.n.length≤65536
 e:k.e.length≤65536
 x:k.x.length≤65536
 y:k.y.length≤65536
theorem algB_len (k:Ky):(algB k).length≤200:=by
 have wl: ∀t b,b.length≤100→(wrapB t b).length≤102:=fun t b h=>by
  rw[wrapB_len];unfold szOf lenF;rw[if_pos (by omega)];simp only[List.length_cons,List.length_nil];omega
 have ws: ∀t b,b.length≤16→(wrapB t b).length≤18:=fun t b h=>by
  rw[wrapB_len];unfold szOf lenF;rw[if_pos (by omega)];simp only[List.length_cons,List.length_nil];omega
 have w1:=ws 6 _ (show(oidB rsaN).length≤16 by rw[nm_rsa.2];decide)
 have w2:=ws 6 _ (show(oidB ecN).length≤16 by rw[nm_ec.2];decide)
 have w3:=ws 6 _ (nm_cv k.crv).2.1
 have w5:=ws 6 _ (show(oidB edN).length≤16 by rw[nm_ed.2];decide)
 unfold algB
 refine Nat.le_trans (wl 48 _ ?_) (by omega)
 split
 ·rw[List.length_append];simp only[List.length_cons,List.length_nil];omega
 split
 ·rw[List.length_append];omega
 ·omega
theorem bodB_len (k:Ky) (h:k.Sm):(bodB k).length≤200000:=by
 obtain⟨h0,h1,h2,h3,h4⟩:=h
 have on:=ofuD_len k.n
 have oe:=ofuD_len k.e
 have ln:=lenF_len (ofuD k.n).length (by omega)
 have le:=lenF_len (ofuD k.e).length (by omega)
 have wn:=wrapB_len 2 (ofuD k.n)
 have we:=wrapB_len 2 (ofuD k.e)
 unfold szOf at wn we
 unfold bodB
 split
 ·have l3:=lenF_len (wrapB 2 (ofuD k.n)++wrapB 2 (ofuD k.e)).length (by rw[List.length_append];omega)
  rw[wrapB_len]
  unfold szOf
  rw[List.length_append] at l3⊢
  omega
 split
 ·simp only[List.length_cons,List.length_append];omega
 ·omega
def RPef:FuncId→List V→CR:=fun f args=>tab [(69,cK fun k=>cF [k.kty=2∨k.kty=3∨k.kty=4] false (.by (algB k))),
 (70,cK fun k=>cF [k.Sm] false (.by (bodB k)))] RPcf f args
def RPe (J:Inv):Sig:=⟨J,sdf,RPef,noH,0⟩
theorem RPe_ok (J:Inv):SigOk Tryz.prog (RPe J):= .plain (tab_ok (.c (.k fun k=> .z fun⟨c0,_⟩=>ralg_fn J k c0)<|
 .c (.k fun k=> .z fun⟨c0,_⟩=>rbody_fn J k c0.t c0.n c0.e c0.x c0.y)<| .n) (RPc_ok J).1)
def RPg (J:Inv):Sig:=⟨J,sdf,fun f args=>tab [(68,cJn)] RPef f args,noH,0⟩
theorem RPg_ok (J:Inv):SigOk Tryz.prog (RPg J):=⟨tab_ok (.c (cJn_ok J) .n) (RPe_ok J).1,fun _ _ _ _ _ h=>by cases h⟩
theorem rbytes_fn (J:Inv) (k:Ky) (hk:k.Sm):Fn Tryz.prog J 39 false [k.V] (.by (bysB k)):=by
 have h1:=algB_len k
 have h2:=bodB_len k hk
 have l3:=lenF_len (0::bodB k).length (by simp only[List.length_cons];omega)
 have w3:=wrapB_len 3 (0::bodB k)
 unfold szOf at w3
 simp only[List.length_cons] at l3 w3
 have ht:=hk.t
 have hb:bysB k=wrapB 48 (algB k++wrapB 3 (0::bodB k)):=rfl
 have e0:u8 0=0:=rfl
 generalize hA:algB k=A at *
 generalize hB:bodB k=B at *
 rcases k with ⟨kty,crv,s,n,e,x,y⟩
 refine fnI Tryz.func39 rfl (by kernel_rfl) rfl (RPg_ok J) ?_
 unfold Tryz.f39
 simp only at ht
 simp only[↓bD,bQ,↓reduceIte,RPg,RPef,RPcf,RPbf,RPaf,cJn,Ky.V,keyV,cK,keyW,byN]
 refine DrawC.tree (.q 0 [] (.q 3 [] (.two 1 2 (.two 2 4 (.one 4 (.one 5 (.one 6 (.one 7 (.one 8 (.q 9 [] .done)))))) (.one 2 (.one 5 (.one 6 (.one 7 (.one 8 (.q 9 [] .done))))))) (.one 1 (.one 4 (.one 5 (.one 6 (.one 7 (.one 8 (.q 9 [] .done)))))))))) [] (by kernel_rfl) ?_
 simp only[↓bD,bQ,reduceMul,reduceLeDiff,reduceEqDiff,reduceLT,reduceAdd,↓reduceIte,reduceCtorEq,hA,hB,List.length_append,e0]
 repeat' with_reducible apply And.intro
 all_goals first|exact ht|exact hk|exact hb.symm|omega
theorem limb6_fn (J:Inv) (l:List Nat) (i:Nat) (hw:W32 l):Fn Tryz.prog J 216 false [wV l, .i i] (.val (.int .u64 ((l.getD i 0:Nat):Int))):=by
 refine fnI Tryz.func216 rfl (by kernel_rfl) rfl (SGa_ok J) ?_
 unfold Tryz.f216
 simp only[bQ,reduceEqDiff,reduceLT,reduceAdd,↓reduceIte,reduceCtorEq,SGa]
 have h1:=hw.get i
 refine⟨fun h=> ?_,fun h=> ?_⟩
 ·rw[getD_ge (by simpa using h)];rfl
 ·have h2:i<l.length:=by simpa using h
  exact⟨by omega,by omega,wr64n (by omega)⟩
def RLaf:FuncId→List V→CR:=fun f args=>tab [(216,cW fun l=>cI .i64 fun n=>cF [0≤n,W32 l] false (.val (.int .u64 ((l.getD n.toNat 0:Nat):Int))))] noF f args
def RLa (J:Inv):Sig:=⟨J,sdf,RLaf,noH,0⟩
theorem RLa_ok (J:Inv):SigOk Tryz.prog (RLa J):= .plain (tab_ok (.c (.w fun l=> .i fun n=> .z fun⟨c0,c1,_⟩=>(by have h:=limb6_fn J l n.toNat c1;rwa [show V.i (n.toNat:Int)= .val (.int .i64 n) by unfold V.i;rw[Int.toNat_of_nonneg c0]] at h))<| .n) noF_ok)
theorem cmp6_fn (J:Inv) (a b:List Nat) (ha:a.length≤67108864) (hb:b.length≤67108864) (wa:W32 a) (wb:W32 b):Fn Tryz.prog J 170 false [wV a,wV b] (.i (cmp3 (vl a) (vl b))):=by
 refine fnI Tryz.func170 rfl (by kernel_rfl) rfl (RLa_ok J) ?_
 unfold Tryz.f170
 simp only[bQ,reduceEqDiff,reduceAdd,↓reduceIte,reduceCtorEq,RLa]
 have e1:a.take (max a.length b.length)=a:=List.take_of_length_le (Nat.le_max_left ..)
 have e2:b.take (max a.length b.length)=b:=List.take_of_length_le (Nat.le_max_right ..)
 have e3: ∀N,N=max a.length b.length→cmp3 (vl a) (vl b)=cmp3 (vl (a.take N)) (vl (b.take N)):=fun N h=>by rw[h,e1,e2]
 refine⟨fun h=>⟨by constructor<;>omega,?_⟩,fun h=>⟨by constructor<;>omega,?_⟩⟩
 case' refine_1=>
  have hN:=e3 b.length (by have h:a.length<b.length:=(by simpa using h);omega)
  have hb2:b.length≤67108864:=hb
  generalize hn:b.length=N at hN hb2⊢
 case' refine_2=>
  have hN:=e3 a.length (by have h:b.length≤a.length:=(by simpa using h);omega)
  have hb2:a.length≤67108864:=ha
  generalize hn:a.length=N at hN hb2⊢
 all_goals
  clear h e1 e2 e3 hn
  refine LoopC.intro (α:=Nat) (fun k=>k≤N∧cmp3 (vl a) (vl b)=cmp3 (vl (a.take k)) (vl (b.take k))) (fun k=>⟨[(0,wV a),(1,wV b),(6, .i ((k:Int)-1))],[],0⟩) (fun k=>k) N ⟨Nat.le_refl _,hN⟩ ?_ ?_
  ·simp only[bQ,reduceLeDiff,reduceEqDiff,↓reduceIte,reduceCtorEq]
  ·rintro k ⟨h3,h4⟩
   simp only[↓bE,bQ,reduceEqDiff,↓reduceIte,reduceCtorEq,RLaf]
   refine⟨fun h5=> ?_,fun h5=> ?_⟩
   ·obtain⟨k,rfl⟩: ∃j,k=j+1:=⟨k-1,by simp at h5;omega⟩
    rw[show(((k+1:Nat):Int)-1).toNat=k by omega]
    refine⟨by omega,wa,by omega,wb,fun h6=> ?_,fun h6=>⟨fun h7=> ?_,fun h7=>⟨by constructor<;>omega,Again.intro k ⟨by omega,?_⟩ (by omega) ?_⟩⟩⟩
    ·rw[h4,cmp3_lt (word_lt wa (by simpa using h6))]
    ·rw[h4,cmp3_gt (word_lt wb (by simpa using h7))]
    ·rw[h4,word_eq (by simp only[decide_eq_false_iff_not] at h6 h7;omega)]
    ·simp only[bQ,reduceLeDiff,reduceEqDiff,↓reduceIte,reduceCtorEq]
     omega
   ·obtain rfl:k=0:=by simp at h5;omega
    rw[h4]
    rfl
theorem limb7_fn (J:Inv) (l:List Nat) (i:Nat) (hw:W32 l):Fn Tryz.prog J 177 false [wV l, .i i] (.val (.int .u64 ((l.getD i 0:Nat):Int))):=by
 refine fnI Tryz.func177 rfl (by kernel_rfl) rfl (SGa_ok J) ?_
 unfold Tryz.f177
 simp only[bQ,reduceEqDiff,reduceLT,reduceAdd,↓reduceIte,reduceCtorEq,SGa]
 have h1:=hw.get i
 refine⟨fun h=> ?_,fun h=> ?_⟩
 ·rw[getD_ge (by simpa using h)];rfl
 ·have h2:i<l.length:=by simpa using h
  exact⟨by omega,by omega,wr64n (by omega)⟩
def RLbf:FuncId→List V→CR:=fun f args=>tab [(177,cW fun l=>cI .i64 fun n=>cF [0≤n,W32 l] false (.val (.int .u64 ((l.getD n.toNat 0:Nat):Int))))] noF f args
def RLb (J:Inv):Sig:=⟨J,sdf,RLbf,noH,0⟩
theorem RLb_ok (J:Inv):SigOk Tryz.prog (RLb J):= .plain (tab_ok (.c (.w fun l=> .i fun n=> .z fun⟨c0,c1,_⟩=>(by have h:=limb7_fn J l n.toNat c1;rwa [show V.i (n.toNat:Int)= .val (.int .i64 n) by unfold V.i;rw[Int.toNat_of_nonneg c0]] at h))<| .n) noF_ok)
theorem cmp7_fn (J:Inv) (a b:List Nat) (ha:a.length≤67108864) (hb:b.length≤67108864) (wa:W32 a) (wb:W32 b):Fn Tryz.prog J 111 false [wV a,wV b] (.i (cmp3 (vl a) (vl b))):=by
 refine fnI Tryz.func111 rfl (by kernel_rfl) rfl (RLb_ok J) ?_
 unfold Tryz.f111
 simp only[bQ,reduceEqDiff,reduceAdd,↓reduceIte,reduceCtorEq,RLb]
 have e1:a.take (max a.length b.length)=a:=List.take_of_length_le (Nat.le_max_left ..)
 have e2:b.take (max a.length b.length)=b:=List.take_of_length_le (Nat.le_max_right ..)
 have hN: ∀N,N=max a.length b.length→cmp3 (vl a) (vl b)=cmp3 (vl (a.take N)) (vl (b.take N)):=fun N h=>by rw[h,e1,e2]
 rw[show imax (a.length:Int) b.length=((max a.length b.length:Nat):Int) by unfold imax;omega]
 have hN:=hN _ rfl
 have hb2:max a.length b.length≤67108864:=by omega
 generalize max a.length b.length=N at hN hb2⊢
 refine⟨by constructor<;>omega,?_⟩
 refine LoopC.intro (α:=Nat) (fun k=>k≤N∧cmp3 (vl a) (vl b)=cmp3 (vl (a.take k)) (vl (b.take k))) (fun k=>⟨[(0,wV a),(1,wV b),(5, .i ((k:Int)-1))],[],0⟩) (fun k=>k) N ⟨Nat.le_refl _,hN⟩ ?_ ?_
 ·simp only[bQ,reduceLeDiff,reduceEqDiff,↓reduceIte,reduceCtorEq]
 ·rintro k ⟨h3,h4⟩
  simp only[↓bE,bQ,reduceEqDiff,↓reduceIte,reduceCtorEq,RLbf]
  refine⟨fun h5=> ?_,fun h5=> ?_⟩
  ·obtain⟨k,rfl⟩: ∃j,k=j+1:=⟨k-1,by simp at h5;omega⟩
   rw[show(((k+1:Nat):Int)-1).toNat=k by omega]
   refine⟨by omega,wa,by omega,wb,fun h6=> ?_,fun h6=>⟨by omega,wa,by omega,wb,fun h7=> ?_,fun h7=>⟨by constructor<;>omega,Again.intro k ⟨by omega,?_⟩ (by omega) ?_⟩⟩⟩
   ·rw[h4,cmp3_lt (word_lt wa (by simpa using h6))]
   ·rw[h4,cmp3_gt (word_lt wb (by simpa using h7))]
   ·rw[h4,word_eq (by simp only[decide_eq_false_iff_not] at h6 h7;omega)]
   ·simp only[bQ,reduceLeDiff,reduceEqDiff,↓reduceIte,reduceCtorEq]
    omega
  ·obtain rfl:k=0:=by simp at h5;omega
   rw[h4]
   rfl
end Go.Proofs.YtfengpdaocgcnaaGreatDoor
