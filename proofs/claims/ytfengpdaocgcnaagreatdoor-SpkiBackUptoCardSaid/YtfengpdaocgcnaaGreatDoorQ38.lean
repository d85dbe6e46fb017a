/- Keys as arguments; the bytes of a key. strings.Builder: a variable of one's own with bytes of one's own. strings.Builder: its text. -/
import Derived.Test.YtfengpdaocgcnaaGreatDoorQ36
import Derived.Test.YtfengpdaocgcnaaGreatDoorQ32
import Derived.Test.YtfengpdaocgcnaaGreatDoorQ37
import Derived.Test.YtfengpdaocgcnaaGreatDoorQ19
import Derived.Test.YtfengpdaocgcnaaGreatDoorQ25
namespace Go.Proofs.YtfengpdaocgcnaaGreatDoor
open Nat (reduceMul reduceLeDiff reduceEqDiff reduceLT reduceAdd reduceSub reduceDiv)
open Int (reduceToNat reducePow)
open Go.RowKit
set_option linter.unusedSimpArgs false
set_option maxRecDepth 100000
structure Ky where
 kty:Int
 crv:Int
 s:List UInt8
 n:List UInt8
 e:List UInt8
 x:List UInt8
 y:List UInt8
def Ky.V (k:Ky):V:=keyV k.kty k.crv k.s k.n k.e k.x k.y
def Ky.good (k:Ky):Bool:=goodK k.kty k.crv k.s k.n k.e k.x k.y
structure Ky.Ok (k:Ky):Prop where
 s:k.s.length≤16777216
 n:k.n.length≤16777216
 e:k.e.length≤16777216
 x:k.x.length≤16777216
 y:k.y.length≤16777216
def byN:V→Option (List UInt8)
 | .by l=>some l
 | .val (.slice none 0 0)=>some []
 |_=>none
theorem byN_rep {v:V} {l:List UInt8} (h:byN v=some l) {w:World} {F:Cx} {x:Value} (hr:Rep w F v x):Rep w F (.by l) x:=by
 unfold byN at h
 split at h
 ·obtain rfl:=Option.some.inj h;exact hr
 ·obtain rfl:=Option.some.inj h
  exact veq_rep (v:= .val (.slice none 0 0)) (res:= .by []) (by simp[Veq,isNil,V.elems]) hr
 ·cases h
def keyW (k:Ky→CR):V→CR
 | .st [.val (.int .i64 a), .val (.int .i64 b),s,n,e,x,y]=>match byN s with
  |some s=>match byN n with
   |some n=>match byN e with
    |some e=>match byN x with
     |some x=>match byN y with
      |some y=>k ⟨a,b,s,n,e,x,y⟩
      |none=>none
     |none=>none
    |none=>none
   |none=>none
  |none=>none
 |_=>none
theorem keyW_some {k:Ky→CR} {v:V} {c:List Prop×Bool×V} (h:keyW k v=some c): ∃q:Ky,k q=some c∧ ∀w F x,Rep w F v x→Rep w F q.V x:=by
 unfold keyW at h
 split at h
 ·rename_i a b s0 n0 e0 x0 y0
  split at h
  ·rename_i s hs
   split at h
   ·rename_i n hn
    split at h
    ·rename_i e he
     split at h
     ·rename_i x hx
      split at h
      ·rename_i y hy
       refine⟨_,h,fun w F v hr=> ?_⟩
       cases hr with
       |sl _ _ _ _ _ _ _ _ _ he=>simp[V.elems] at he
       |st l cs u h1 h2 h3=>
        refine .st _ cs u h1 h2 fun j hj=> ?_
        have h4:=h3 j hj
        match j,hj with
        |0,_=>exact h4
        |1,_=>exact h4
        |2,_=>exact byN_rep hs h4
        |3,_=>exact byN_rep hn h4
        |4,_=>exact byN_rep he h4
        |5,_=>exact byN_rep hx h4
        |6,_=>exact byN_rep hy h4
      ·cases h
     ·cases h
    ·cases h
   ·cases h
  ·cases h
 ·cases h
def cK (k:Ky→List V→CR):List V→CR
 |v::r=>keyW (fun q=>k q r) v
 |_=>none
def cKK (k:Ky×Ky→List V→CR):List V→CR
 |v::v'::r=>keyW (fun q=>keyW (fun q'=>k (q,q') r) v') v
 |_=>none
section
variable {P:Program} {J:Inv} {f:FuncId}
theorem EntAt.k {k:Ky→List V→CR} (h: ∀x:Ky,EntAt P J f (fun r=>x.V::r) (k x)):EntAt P J f (fun r=>r) (cK k):=fun args l fr r hk hl=>by
 unfold cK at hk
 split at hk
 ·obtain⟨q,h1,h2⟩:=keyW_some hk
  exact(h q _ l fr r h1 hl).wk1 h2
 ·cases hk
theorem Fn.wk2 {fr:Bool} {a b b' res:V} {r:List V} (h:Fn P J f fr (a::b::r) res) (hw: ∀w F x,Rep w F b' x→Rep w F b x):Fn P J f fr (a::b'::r) res:=by
 refine⟨h.1,fun w F vs hI hF hlen hvs=>h.2 w F vs hI hF hlen fun i v x h1 h2=> ?_⟩
 match i with
 |0=>exact hvs 0 v x h1 h2
 |1=>
  obtain rfl:b=v:=by simpa using h1
  exact hw _ _ _ (hvs 1 b' x rfl h2)
 |i+2=>exact hvs (i+2) v x h1 h2
theorem EntAt.kk {k:Ky×Ky→List V→CR} (h: ∀x:Ky×Ky,EntAt P J f (fun r=>x.1.V::x.2.V::r) (k x)):EntAt P J f (fun r=>r) (cKK k):=fun args l fr r hk hl=>by
 unfold cKK at hk
 split at hk
 ·obtain⟨q,h1,h2⟩:=keyW_some hk
  obtain⟨q',h3,h4⟩:=keyW_some h1
  exact((h (q,q') _ l fr r h3 hl).wk2 h4).wk1 h2
 ·cases hk
end
def rsaN:List UInt8:=[49,46,50,46,56,52,48,46,49,49,51,53,52,57,46,49,46,49,46,49]
def ecN:List UInt8:=[49,46,50,46,56,52,48,46,49,48,48,52,53,46,50,46,49]
def edN:List UInt8:=[49,46,51,46,49,48,49,46,49,49,50]
def p384N:List UInt8:=[49,46,51,46,49,51,50,46,48,46,51,52]
def p256N:List UInt8:=[49,46,50,46,56,52,48,46,49,48,48,52,53,46,51,46,49,46,55]
def cvN (c:Int):List UInt8:=if c=2 then p384N else p256N
def BPaf:FuncId→List V→CR:=fun f args=>tab [(30,cT fun ts=>cF [Small ts] false (.tu [.by (printF ts).1, .i (printF ts).2])),
 (32,cT fun ts=>cY fun k=>cF [ts.length≤16,k.length≤67108864] false (tlsV (elemF ts k))),
 (33,cS fun s=>cF [s.length≤268435456,(ooF (spl 46 s)).isSome=true] false (.st [.val (.int .i64 6), .by (oidB s), .val (.int .i64 0)])),
 (34,cI .i64 fun c=>cF [] false (.str (cvN c))),
 (31,cY fun b=>cF [b.length≤140737488350000] false (.st [.val (.int .i64 2), .by (ofuD b), .val (.int .i64 0)])),
 (29,cK fun k=>cF [k.Ok] false (.bb k.good))] noF f args
def BPa (J:Inv):Sig:=⟨J,sdf,BPaf,noH,0⟩
theorem BPa_ok (J:Inv) (hJ: ∀w F,J.I w F→JV.I w F) (hE:EdT J):SigOk Tryz.prog (BPa J):= .plain (tab_ok (.c (.t fun ts=> .z fun⟨c0,_⟩=>print_fn J ts c0)<|
 .c (.t fun ts=> .y fun k=> .z fun⟨c0,c1,_⟩=>selem_fn J ts k c0 c1)<|
 .c (.s fun s=> .z fun⟨c0,c1,_⟩=>named_fn J hJ s c0 c1)<|
 .c (.i fun c=> .z fun _=>curveName_fn J c)<|
 .c (.y fun b=> .z fun⟨c0,_⟩=>(OfUint_fn b c0).weak hJ)<|
 .c (.k fun _=> .z fun⟨c0,_⟩=>good_fn J hE _ _ _ _ _ _ _ c0.s c0.n c0.e c0.x c0.y)<| .n) noF_ok)
theorem printF_len (ts:List Tlv):(printF ts).1.length≤65536:=by
 by_cases h:(printF ts).2=0
 ·exact(parse_print h).2
 ·unfold printF at h⊢
  split
  ·simp
  ·rename_i h1
   rw[if_neg h1] at h
   split
   ·simp
   ·rename_i h2;rw[if_neg h2] at h;exact absurd rfl h
theorem ofuD_len (b:List UInt8):(ofuD b).length≤b.length+1:=by
 have h:=leastF_le b
 unfold ofuD
 split
 ·rw[List.length_cons];omega
 ·omega
def algR:List Tlv:=[⟨6,oidB rsaN,0⟩,⟨5,[],0⟩]
def algE (c:Int):List Tlv:=[⟨6,oidB ecN,0⟩,⟨6,oidB (cvN c),0⟩]
def algO:List Tlv:=[⟨6,oidB edN,0⟩]
def innL (n e:List UInt8):List Tlv:=[⟨48,[],2⟩,⟨2,ofuD n,0⟩,⟨2,ofuD e,0⟩]
def Ky.els (k:Ky):List Tlv:=if k.kty=2 then elemF algR (printF (innL k.n k.e)).1 else if k.kty=3 then elemF (algE k.crv) (4::(k.x++k.y)) else elemF algO k.x
def Ky.pr (k:Ky):List UInt8×Int:=if k.good=true∧k.kty≠1 then printF k.els else ([],90)
theorem small_inn {n e:List UInt8} (hn:n.length≤16777216) (he:e.length≤16777216):Small (innL n e):=by
 have h1:=ofuD_len n
 have h2:=ofuD_len e
 refine⟨by simp[innL],fun t ht=> ?_⟩
 simp only[innL,List.mem_cons,List.not_mem_nil,or_false] at ht
 rcases ht with rfl|rfl|rfl
 ·simp
 ·show(ofuD n).length≤_;omega
 ·show(ofuD e).length≤_;omega
theorem small_elem {A:List Tlv} {key:List UInt8} (hA:A.length≤16) (ha: ∀t∈A,t.data.length≤140737488355328) (hk:key.length≤67108864):Small (elemF A key):=by
 refine⟨by simp[elemF];omega,fun t ht=> ?_⟩
 simp only[elemF,List.mem_cons,List.mem_append,List.not_mem_nil,or_false] at ht
 rcases ht with rfl|rfl|ht|rfl
 ·simp
 ·simp
 ·exact ha t ht
 ·show(0::key).length≤_;simp only[List.length_cons];omega
theorem oid_cat {s:List UInt8} {L:List (List UInt8)} {N:List Int} {d:List UInt8} (h1:spl 46 s=L) (h2:L.map numV=N) (h3:L.all numOk=true) (h4:2≤L.length) (h5:numV (L.getD 0 [])≤2) (h6:numV (L.getD 0 [])<2→numV (L.getD 1 [])≤39) (h7:grpF (40*N.getD 0 0+N.getD 1 0).toNat++((N.drop 2).flatMap fun n=>grpF n.toNat)=d):(ooF (spl 46 s)).isSome=true∧oidB s=d:=by
 have h:=ooF_eq L
 rw[if_pos ⟨h4,h3,h5,h6⟩] at h
 unfold oidB
 rw[h1,h]
 refine⟨rfl,?_⟩
 rw[Option.getD_some,←h7,←h2]
 unfold dOf
 rw[if_neg (by omega),List.take_of_length_le (by simp)]
 rw[List.getD_eq_getElem?_getD,List.getD_eq_getElem?_getD,List.getD_eq_getElem?_getD,List.getD_eq_getElem?_getD,List.getElem?_map,List.getElem?_map,List.getElem?_eq_getElem (by omega),List.getElem?_eq_getElem (by omega),←List.map_drop,List.flatMap_map]
 rfl
theorem nm_rsa:(ooF (spl 46 rsaN)).isSome=true∧oidB rsaN=[42,134,72,134,247,13,1,1,1]:=oid_cat (L:=[[49],[50],[56,52,48],[49,49,51,53,52,57],[49],[49],[49]]) (N:=[1,2,840,113549,1,1,1]) (by decide) (by decide) (by kernel_rfl) (by decide) (by decide) (by decide) (by simp[grpF,hiF_pos,hiF_zero];try decide)
theorem nm_ec:(ooF (spl 46 ecN)).isSome=true∧oidB ecN=[42,134,72,206,61,2,1]:=oid_cat (L:=[[49],[50],[56,52,48],[49,48,48,52,53],[50],[49]]) (N:=[1,2,840,10045,2,1]) (by decide) (by decide) (by kernel_rfl) (by decide) (by decide) (by decide) (by simp[grpF,hiF_pos,hiF_zero];try decide)
theorem nm_ed:(ooF (spl 46 edN)).isSome=true∧oidB edN=[43,101,112]:=oid_cat (L:=[[49],[51],[49,48,49],[49,49,50]]) (N:=[1,3,101,112]) (by decide) (by decide) (by kernel_rfl) (by decide) (by decide) (by decide) (by simp[grpF,hiF_zero];try decide)
theorem nm_384:(ooF (spl 46 p384N)).isSome=true∧oidB p384N=[43,129,4,0,34]:=oid_cat (L:=[[49],[51],[49,51,50],[48],[51,52]]) (N:=[1,3,132,0,34]) (by decide) (by decide) (by kernel_rfl) (by decide) (by decide) (by decide) (by simp[grpF,hiF_pos,hiF_zero];try decide)
theorem nm_256:(ooF (spl 46 p256N)).isSome=true∧oidB p256N=[42,134,72,206,61,3,1,7]:=oid_cat (L:=[[49],[50],[56,52,48],[49,48,48,52,53],[51],[49],[55]]) (N:=[1,2,840,10045,3,1,7]) (by decide) (by decide) (by kernel_rfl) (by decide) (by decide) (by decide) (by simp[grpF,hiF_pos,hiF_zero];try decide)
theorem nm_cv (c:Int):(ooF (spl 46 (cvN c))).isSome=true∧(oidB (cvN c)).length≤16∧(cvN c).length≤268435456:=by
 unfold cvN
 split
 ·exact⟨nm_384.1,by rw[nm_384.2];decide,by decide⟩
 ·exact⟨nm_256.1,by rw[nm_256.2];decide,by decide⟩
theorem un2_cons (v:V) (l:List V):un2 (v::l)=un1 v::un2 l:=rfl
theorem un2_nil:un2 []=[]:=rfl
theorem sprint2_own (J:Inv) (hJ: ∀w F,J.I w F→JV.I w F) (hE:EdT J) (k:Ky) (hk:k.Ok) (ht:k.kty=2) (hg:k.good=true):FnH Tryz.prog J 9 [k.V] [] 0 (.tu [.by (printF (elemF algR (printF (innL k.n k.e)).1)).1, .i (printF (elemF algR (printF (innL k.n k.e)).1)).2]) [] 12:=by
 rcases k with ⟨kty,crv,s,n,e,x,y⟩
 simp only at ht
 subst ht
 have hn:=hk.n
 have he:=hk.e
 have hs1:=small_inn hn he
 have hl:=printF_len (innL n e)
 have hs2:Small (elemF algR (printF (innL n e)).1):=small_elem (by decide) (fun t ht=>by simp only[algR,nm_rsa.2,List.mem_cons,List.not_mem_nil,or_false] at ht;rcases ht with rfl|rfl<;>simp) (by omega)
 simp only at hn he
 simp only[innL,algR,nm_rsa] at hs1 hs2 hl
 refine fnJ Tryz.func9 rfl (by kernel_rfl) (BPa_ok J hJ hE) rfl ?_
 unfold Tryz.f9
 have en:[49,46,50,46,56,52,48,46,49,49,51,53,52,57,46,49,46,49,46,49]=rsaN:=rfl
 simp only[↓bD,bQ,reduceEqDiff,reduceLT,reduceAdd,↓reduceIte,BPa,BPaf,Ky.V,keyV,cK,keyW,byN,hg]
 refine⟨hk,?_⟩
 refine DrawC.tree (.q 1 [] (.q 2 [] (.q 4 [] (.q 5 [] (.two 0 3 (.one 3 (.one 6 (.one 7 (.one 8 (.q 9 [] (.q 10 [] (.q 11 [] (.q 12 [] (.q 13 [] .done))))))))) (.two 0 6 (.one 6 (.one 7 (.one 8 (.q 9 [] (.q 10 [] (.q 11 [] (.q 12 [] (.q 13 [] .done)))))))) (.one 0 (.one 7 (.one 8 (.q 9 [] (.q 10 [] (.q 11 [] (.q 12 [] (.q 13 [] .done)))))))))))))) [] (by kernel_rfl) ?_
 simp only[↓bD,bQ,reduceMul,reduceLeDiff,reduceEqDiff,reduceLT,reduceAdd,↓reduceIte,reduceCtorEq,bnB,BPaf,cT,ok1,un1,un2_cons,un2_nil,tlsV,tlvD,ok_tls,un2_tls,en,nm_rsa]
 repeat' with_reducible apply And.intro
 all_goals first|omega|exact hs1|exact hs2|decide|(refine RenC.skip ?_;simp only[bQ,reduceLeDiff,reduceEqDiff,reduceAdd,↓reduceIte,algR,innL,nm_rsa])
theorem sprint3_own (J:Inv) (hJ: ∀w F,J.I w F→JV.I w F) (hE:EdT J) (k:Ky) (hk:k.Ok) (ht:k.kty=3) (hg:k.good=true):FnH Tryz.prog J 9 [k.V] [] 0 (.tu [.by (printF (elemF (algE k.crv) (4::(k.x++k.y)))).1, .i (printF (elemF (algE k.crv) (4::(k.x++k.y)))).2]) [] 12:=by
 rcases k with ⟨kty,crv,s,n,e,x,y⟩
 simp only at ht
 subst ht
 have hx:=hk.x
 have hy:=hk.y
 simp only at hx hy
 obtain⟨c1,c2,c3⟩:=nm_cv crv
 have hs2:Small (elemF (algE crv) (4::(x++y))):=small_elem (by simp[algE]) (fun t ht=>by simp only[algE,List.mem_cons,List.not_mem_nil,or_false] at ht;rcases ht with rfl|rfl<;>simp only[nm_ec.2]<;>first|(simp;done)|omega) (by simp;omega)
 simp only[algE,nm_ec] at hs2
 refine fnJ Tryz.func9 rfl (by kernel_rfl) (BPa_ok J hJ hE) rfl ?_
 unfold Tryz.f9
 have en:[49,46,50,46,56,52,48,46,49,48,48,52,53,46,50,46,49]=ecN:=rfl
 have e4:u8 4=4:=rfl
 simp only[↓bD,bQ,reduceEqDiff,reduceLT,reduceAdd,↓reduceIte,BPa,BPaf,Ky.V,keyV,k_eq,cK,keyW,byN,hg]
 refine⟨hk,?_⟩
 refine DrawC.tree (.q 1 [] (.q 2 [] (.q 7 [] (.q 8 [] (.q 10 [] (.q 11 [] (.two 0 6 (.two 3 6 (.two 4 6 (.two 5 6 (.one 6 (.one 9 (.one 12 (.one 13 (.one 14 (.q 15 [] (.q 16 [] (.q 17 [] (.q 18 [] .done))))))))) (.two 5 9 (.one 9 (.one 12 (.one 13 (.one 14 (.q 15 [] (.q 16 [] (.q 17 [] (.q 18 [] .done)))))))) (.two 5 12 (.one 12 (.one 13 (.one 14 (.q 15 [] (.q 16 [] (.q 17 [] (.q 18 [] .done))))))) (.one 5 (.one 13 (.one 14 (.q 15 [] (.q 16 [] (.q 17 [] (.q 18 [] .done)))))))))) (.one 4 (.two 5 9 (.one 9 (.one 12 (.one 13 (.one 14 (.q 15 [] (.q 16 [] (.q 17 [] (.q 18 [] .done)))))))) (.two 5 12 (.one 12 (.one 13 (.one 14 (.q 15 [] (.q 16 [] (.q 17 [] (.q 18 [] .done))))))) (.one 5 (.one 13 (.one 14 (.q 15 [] (.q 16 [] (.q 17 [] (.q 18 [] .done))))))))))) (.one 3 (.one 4 (.two 5 9 (.one 9 (.one 12 (.one 13 (.one 14 (.q 15 [] (.q 16 [] (.q 17 [] (.q 18 [] .done)))))))) (.two 5 12 (.one 12 (.one 13 (.one 14 (.q 15 [] (.q 16 [] (.q 17 [] (.q 18 [] .done))))))) (.one 5 (.one 13 (.one 14 (.q 15 [] (.q 16 [] (.q 17 [] (.q 18 [] .done)))))))))))) (.one 0 (.one 3 (.one 4 (.two 5 9 (.one 9 (.one 12 (.one 13 (.one 14 (.q 15 [] (.q 16 [] (.q 17 [] (.q 18 [] .done)))))))) (.two 5 12 (.one 12 (.one 13 (.one 14 (.q 15 [] (.q 16 [] (.q 17 [] (.q 18 [] .done))))))) (.one 5 (.one 13 (.one 14 (.q 15 [] (.q 16 [] (.q 17 [] (.q 18 [] .done))))))))))))))))))) [] (by kernel_rfl) ?_
 simp only[↓bD,bQ,reduceMul,reduceLeDiff,reduceEqDiff,reduceLT,reduceAdd,↓reduceIte,reduceCtorEq,bnB,BPaf,cT,ok1,un1,un2_cons,un2_nil,tlsV,tlvD,ok_tls,un2_tls,en,nm_ec,e4,List.length_append]
 repeat' with_reducible apply And.intro
 all_goals first|omega|exact hs2|assumption|decide|(refine RenC.skip ?_;simp only[bQ,reduceLeDiff,reduceEqDiff,reduceAdd,↓reduceIte,algE,nm_ec])
theorem sprint4_own (J:Inv) (hJ: ∀w F,J.I w F→JV.I w F) (hE:EdT J) (k:Ky) (hk:k.Ok) (ht:k.kty=4) (hg:k.good=true):FnH Tryz.prog J 9 [k.V] [] 0 (.tu [.by (printF (elemF algO k.x)).1, .i (printF (elemF algO k.x)).2]) [] 12:=by
 rcases k with ⟨kty,crv,s,n,e,x,y⟩
 simp only at ht
 subst ht
 have hx:=hk.x
 simp only at hx
 have hs2:Small (elemF algO x):=small_elem (by simp[algO]) (fun t ht=>by simp only[algO,List.mem_cons,List.not_mem_nil,or_false] at ht;subst ht;simp only[nm_ed.2];simp) (by omega)
 simp only[algO,nm_ed] at hs2
 refine fnJ Tryz.func9 rfl (by kernel_rfl) (BPa_ok J hJ hE) rfl ?_
 unfold Tryz.f9
 have en:[49,46,51,46,49,48,49,46,49,49,50]=edN:=rfl
 simp only[↓bD,bQ,reduceEqDiff,reduceLT,reduceAdd,↓reduceIte,BPa,BPaf,Ky.V,keyV,k_eq,cK,keyW,byN,hg]
 refine⟨hk,?_⟩
 refine DrawC.tree (.q 2 [] (.q 3 [] (.one 0 (.one 1 (.one 4 (.one 5 (.q 6 [] (.q 7 [] (.q 8 [] (.q 9 [] .done)))))))))) [] (by kernel_rfl) ?_
 simp only[↓bD,bQ,reduceMul,reduceLeDiff,reduceEqDiff,reduceLT,reduceAdd,↓reduceIte,reduceCtorEq,bnB,BPaf,cT,ok1,un1,un2_cons,un2_nil,tlsV,tlvD,ok_tls,un2_tls,en,nm_ed]
 repeat' with_reducible apply And.intro
 all_goals first|omega|exact hs2|decide|(refine RenC.skip ?_;simp only[bQ,reduceLeDiff,reduceEqDiff,reduceAdd,↓reduceIte,algO,nm_ed])
theorem sprint0_own (J:Inv) (hJ: ∀w F,J.I w F→JV.I w F) (hE:EdT J) (k:Ky) (hk:k.Ok) (hg:k.good=false):FnH Tryz.prog J 9 [k.V] [] 0 (.tu [.by [], .i 90]) [] 12:=by
 rcases k with ⟨kty,crv,s,n,e,x,y⟩
 refine fnJ Tryz.func9 rfl (by kernel_rfl) (BPa_ok J hJ hE) rfl ?_
 unfold Tryz.f9
 simp only[↓bD,bQ,reduceEqDiff,reduceLT,reduceAdd,↓reduceIte,BPa,BPaf,Ky.V,keyV,cK,keyW,byN,hg]
 refine⟨hk,RenC.skip ?_⟩
 simp only[bQ,reduceLeDiff,reduceEqDiff,reduceAdd,↓reduceIte]
theorem sprint1_own (J:Inv) (hJ: ∀w F,J.I w F→JV.I w F) (hE:EdT J) (k:Ky) (hk:k.Ok) (h2:k.kty≠2) (h3:k.kty≠3) (h4:k.kty≠4) (hg:k.good=true):FnH Tryz.prog J 9 [k.V] [] 0 (.tu [.by [], .i 90]) [] 12:=by
 rcases k with ⟨kty,crv,s,n,e,x,y⟩
 have e2:(kty==2)=false:=beq_eq_false_iff_ne.2 h2
 have e3:(kty==3)=false:=beq_eq_false_iff_ne.2 h3
 have e4:(kty==4)=false:=beq_eq_false_iff_ne.2 h4
 refine fnJ Tryz.func9 rfl (by kernel_rfl) (BPa_ok J hJ hE) rfl ?_
 unfold Tryz.f9
 simp only[↓bD,bQ,reduceEqDiff,reduceLT,reduceAdd,↓reduceIte,BPa,BPaf,Ky.V,keyV,cK,keyW,byN,hg,e2,e3,e4]
 refine⟨hk,RenC.skip ?_⟩
 simp only[bQ,reduceLeDiff,reduceEqDiff,reduceAdd,↓reduceIte]
theorem sprint_fn (J:Inv) (hJ: ∀w F,J.I w F→JV.I w F) (hE:EdT J) (k:Ky) (hk:k.Ok):Fn Tryz.prog J 9 false [k.V] (.tu [.by k.pr.1, .i k.pr.2]):=by
 cases hg:k.good
 ·have e:k.pr=([],90):=by unfold Ky.pr;rw[if_neg (by rw[hg];simp)]
  rw[e];exact Fn.of_plain (sprint0_own J hJ hE k hk hg) rfl
 by_cases h2:k.kty=2
 ·have e:k.pr=printF (elemF algR (printF (innL k.n k.e)).1):=by unfold Ky.pr Ky.els;rw[if_pos ⟨hg,by omega⟩,if_pos h2]
  rw[e];exact Fn.of_plain (sprint2_own J hJ hE k hk h2 hg) rfl
 by_cases h3:k.kty=3
 ·have e:k.pr=printF (elemF (algE k.crv) (4::(k.x++k.y))):=by unfold Ky.pr Ky.els;rw[if_pos ⟨hg,by omega⟩,if_neg h2,if_pos h3]
  rw[e];exact Fn.of_plain (sprint3_own J hJ hE k hk h3 hg) rfl
 by_cases h4:k.kty=4
 ·have e:k.pr=printF (elemF algO k.x):=by unfold Ky.pr Ky.els;rw[if_pos ⟨hg,by omega⟩,if_neg h2,if_neg h3]
  rw[e];exact Fn.of_plain (sprint4_own J hJ hE k hk h4 hg) rfl
 have h1:k.kty=1:=Decidable.byContradiction fun h1=>by
  unfold Ky.good goodK at hg
  rw[if_neg h1,if_neg h2,if_neg h3,if_neg h4] at hg
  cases hg
 have e:k.pr=([],90):=by unfold Ky.pr;rw[if_neg (by rw[h1];simp)]
 rw[e];exact Fn.of_plain (sprint1_own J hJ hE k hk h2 h3 h4 hg) rfl
def S0b (J:Inv) (b:Nat):Sig:=⟨J,sdf,S0f,noH,b⟩
theorem S0b_ok (J:Inv) (b:Nat):SigOk Tryz.prog (S0b J b):=⟨(S0_ok J).1,(S0_ok J).2⟩
def hU (h:List (Nat×Ob)) (j:Nat) (k0:HR) (k1:Nat→List UInt8→HR):HR:=match Hroot h j with
 |some (.box ty (.st [b, .ro (.r m)]))=>match Hroot h m with
  |some (.row tr (.by l))=>hpre [ty=63,tr=5,b= .op j 0] (k1 m l)
  |_=>none
 |some (.box ty (.st [b, .val v]))=>hpre [ty=63,b= .val (.pointer none),v= .slice none 0 0] k0
 |_=>none
section
variable {P:Program} {J:Inv} {f:FuncId} {h:List (Nat×Ob)} {nx:Nat}
theorem EntC.U {vs:List V} {j:Nat} {k0:HR} {k1:Nat→List UInt8→HR} (h0:EntC P J f nx vs k0) (h1: ∀m l,EntC P J f nx vs (k1 m l)):EntC P J f nx vs (hU h j k0 k1):=by
 unfold hU
 split
 ·split
  ·exact .un fun _=>h1 _ _
  ·exact .no
 ·exact .un fun _=>h0
 ·exact .no
end
def bu0:V:= .st [.val (.pointer none), .val (.slice none 0 0)]
def bu1 (k m:Nat):V:= .st [.op k 0, .ro (.r m)]
def cL1:Code→Code| .seq a _=>a|c=>c
def cR1:Code→Code| .seq _ b=>b|c=>c
def cA1:Code→Code| .cond _ a _=>a|c=>c
def cB1:Code→Code| .cond _ _ b=>b|c=>c
def oL1:Code→List Oper| .region _ ops _=>ops.toList|_=>[]
noncomputable def cpA:Code:=(Tryz.f62).body.getD .skip
noncomputable def cpO:List Oper:=oL1 (cA1 (cR1 cpA))
theorem cpA_eq:(Tryz.f62).body=some (.seq (cL1 cpA) (.cond (.tmp 6) (.region 1 ⟨cpO⟩ false) (cB1 (cR1 cpA)))):=by kernel_rfl
theorem cpO_ls:cpO=cpO.take 2++((cpO.drop 2).head!::(cpO.drop 3).head!::(cpO.drop 4).head!::cpO.drop 5):=by kernel_rfl
theorem cp9_op:(cpO.drop 2).head!.op= .convert 61 152 (.tmp 8):=by kernel_rfl
theorem cp11_op:(cpO.drop 4).head!.op= .convert 152 61 (.tmp 10):=by kernel_rfl
theorem cp10_op: ∃c,(cpO.drop 3).head!.op= .call c∧c.callee= .value (.func 106)∧c.args= #[.tmp 9]:=⟨_,rfl,by kernel_rfl,by kernel_rfl⟩
theorem wp_convB {P:Program} {a:Act} {w:World} {o:Oper} {T U:TypeId} {X:Operand} {y:Value} {K:Act→World→Prop} {Q:Exit→Act→World→Prop} (hop:o.op= .convert T U X) (hrun:(convert T U (a.eval X)).run P w= .ok y w) (h:K (a.put o.dst y) w):o.wp P a w K Q:=by
 unfold Oper.wp execOp
 simp only[hop,Sem.run_bind,Sem.run_pure,Result.andThen_ok,hrun]
 exact h
theorem cp9_ds:(cpO.drop 2).head!.dst=some 9:=by kernel_rfl
theorem cp10_ds:(cpO.drop 3).head!.dst=some 10:=by kernel_rfl
theorem cp11_ds:(cpO.drop 4).head!.dst=some 11:=by kernel_rfl
theorem wp_extB {P:Program} {a:Act} {w:World} {o:Oper} {c:Call} {f:FuncId} {X:Operand} {y:Value} {K:Act→World→Prop} {Q:Exit→Act→World→Prop} (hop:o.op= .call c) (hc:c.callee= .value (.func f)) (ha:c.args= #[X]) (hrun:(callFunc f #[a.eval X]).run P w= .ok (.value y) w) (h:K (a.put o.dst y) w):o.wp P a w K Q:=by
 have e:(execOp a.eval o).run P w= .ok (.value y) w:=by
  simp only[execOp,hop,resolve,hc,ha,show a.eval (.func f)= .func (.func f) #[] #[] from rfl,Deferred.ofValue,Sem.run_bind,Sem.run_pure,Result.andThen_ok,invoke]
  simpa using hrun
 unfold Oper.wp
 rw[e]
 exact h
theorem copy0_fn (J:Inv) (nx k:Nat):FnH Tryz.prog J 62 [.op k 0] [(k, .box 63 bu0)] nx (.tu []) [(k, .box 63 (.st [.op k 0, .val (.slice none 0 0)]))] nx:=by
 refine fnH_wp Tryz.func62 cpA_eq (by kernel_rfl) (Nat.le_of_ble_eq_true (by kernel_rfl)) fun w F ac Q hM hs hK=> ?_
 have hG:=S0b_ok J nx
 have hm:Tryz.prog.follows .mixedOrders=true:=rfl
 have hb: ∀m:Nm,nx≤m.root→(fx0 J w F [(k, .box 63 bu0)] (Tryz.f62).ntmps).C.O m=none∧(fx0 J w F [(k, .box 63 bu0)] (Tryz.f62).ntmps).C.W m=none:=fun m hm=>hM.nx m hm
 let X0:=fx0 J w F [(k, .box 63 bu0)] (Tryz.f62).ntmps
 have hpre:vg Tryz.prog (S0b J nx) (cL1 cpA) ⟨enOf 0 [.op k 0],[(k, .box 63 bu0)],nx⟩ ⟨fun s=>s.e.get 6=some (.bb true)∧s.e.get 0=some (.op k 0)∧s.h=[(k, .box 63 bu0)]∧s.nx=nx,fun _=>False,[]⟩:=by
  simp only[cpA,cL1,Tryz.f62,Option.getD_some]
  simp only[bQ,reduceLT,reduceAdd,↓reduceIte,reduceCtorEq,S0b,bu0]
  skip
 refine wp_pc (c:=cL1 cpA) (x:=X0) hG rfl hb hm (by kernel_rfl) hpre hs (fun s1 F1 a1 w1 hR hs1=> ?_) (fun _ _ _ _ h _=>h.elim) (fun id k hk=>by simp[exGet] at hk)
 obtain⟨h6,h0,hh,hnx⟩:=hR
 have hc6:a1.eval (.tmp 6)= .bool true:=rep_bb (hs1.env 6 _ h6).2
 refine wp_cond_true hc6 ?_
 refine wp_region_list ?_
 rw[cpO_ls]
 refine vopsL_ok (G:=S0b J nx) (K:=fun s=>s.e.get 7=some (.op k 0)∧s.e.get 8=some (.op k 0)∧s.h=[(k, .box 63 bu0)]∧s.nx=nx) hG rfl _ (fun s2 F2 a2 w2 hR2 hs2=> ?_) _ s1 F1 a1 w1 (dsts_of (by kernel_rfl)) ?_ hs1
 ·obtain⟨h7,h8,hh2,hn2⟩:=hR2
  obtain⟨b,hO,hv8⟩:=rep_op (hs2.env 8 _ h8).2
  obtain⟨b',cells,uu,hO',hheap,hsz,h1,h2,hF⟩:=hs2.own (.r k) (.box 63 bu0) (by rw[hh2];simp[Hget,Hroot])
  rw[hO] at hO'
  obtain rfl:b=b':=by simpa using hO'
  have hsh:w2.shape? b=some (63,cells.size):=by simp[World.shape?,hheap]
  have hcs:cells.size=2:=hsz
  have e8:a2.eval (.tmp 8)= .pointer (some ⟨b,0,none⟩):=hv8
  have rop: ∀{v:Value},v= .pointer (some ⟨b,0,none⟩)→Rep w2 F2 (.op k 0) v:=fun e=>by subst e;exact .op k 0 b hO
  obtain⟨j,hj⟩:=Option.isSome_iff_exists.1 (show(Tryz.prog.info? 63).isSome=true by kernel_rfl)
  have hjs:j.size=2:=by
   have h:(Tryz.prog.info? 63).map (·.size)=some 2:=by kernel_rfl
   rw[hj] at h
   exact Option.some.inj h
  refine wpList_plain (by kernel_rfl) fun K1 hK1=> ?_
  refine wp_convB cp9_op (by rw[e8];exact Lib.run_to_unsafe w2 ⟨b,0,none⟩ (t:=63) (j:=j) Tryz.underlying61 Tryz.underlying152 hj (by omega) hsh (by show 0<cells.size;omega)) (hK1 _ _ ?_)
  rw[cp9_ds]
  have hs3:=hs2.put (d:=some 9) (v:= .op k 0) (fun d hd=>by obtain rfl:=Option.some.inj hd;exact show 10≤_ from Nat.le_of_ble_eq_true (by kernel_rfl)) (rop rfl)
  refine wpList_plain (by kernel_rfl) fun K2 hK2=> ?_
  obtain⟨c,hc1,hc2,hc3⟩:=cp10_op
  have e9:(a2.put (some 9) (.pointer (some ⟨b,0,none⟩))).eval (.tmp 9)= .pointer (some ⟨b,0,none⟩):=by
   obtain⟨b2,hO2,hv⟩:=rep_op (hs3.env 9 (.op k 0) (by simp[En.get,En.put])).2
   rw[hO] at hO2
   obtain rfl:=Option.some.inj hO2
   exact hv
  refine wp_extB hc1 hc2 hc3 (y:= .pointer (some ⟨b,0,none⟩)) (by rw[run_callFunc_extern Tryz.func106 (by kernel_rfl) (by kernel_rfl) (by kernel_rfl) (e:=Extern.AbiNoEscape.same) (by kernel_rfl),Lib.run_noEscape,e9];rfl) (hK2 _ _ ?_)
  rw[cp10_ds]
  have hs4:=hs3.put (d:=some 10) (v:= .op k 0) (fun d hd=>by obtain rfl:=Option.some.inj hd;exact show 11≤_ from Nat.le_of_ble_eq_true (by kernel_rfl)) (rop rfl)
  have e10:((a2.put (some 9) (.pointer (some ⟨b,0,none⟩))).put (some 10) (.pointer (some ⟨b,0,none⟩))).eval (.tmp 10)= .pointer (some ⟨b,0,none⟩):=by
   obtain⟨b2,hO2,hv⟩:=rep_op (hs4.env 10 (.op k 0) (by simp[En.get,En.put])).2
   rw[hO] at hO2
   obtain rfl:=Option.some.inj hO2
   exact hv
  refine wpList_plain (by kernel_rfl) fun K3 hK3=> ?_
  refine wp_convB cp11_op (by rw[e10];exact Lib.run_from_unsafe w2 ⟨b,0,none⟩ (u:=63) (j:=j) Tryz.underlying152 Tryz.underlying61 hj hsh (by rw[hcs];kernel_rfl)) (hK3 _ _ ?_)
  rw[cp11_ds]
  have hs5:=hs4.put (d:=some 11) (v:= .op k 0) (fun d hd=>by obtain rfl:=Option.some.inj hd;exact show 12≤_ from Nat.le_of_ble_eq_true (by kernel_rfl)) (rop rfl)
  refine vops_ok (G:=S0b J nx) (K:=fun s=>s.h=(k, .box 63 (.st [.op k 0, .val (.slice none 0 0)]))::[(k, .box 63 bu0)]∧s.nx=nx) hG rfl (fun s F a w hR hs=>hK.nrm s F a w ?_ hs) _ _ _ _ _ (dsts_of (by kernel_rfl)) ?_ hs5
  ·obtain⟨E,H,n⟩:=s
   obtain⟨e1,e2⟩:=hR
   simp only at e1 e2
   subst e1 e2
   simp only[Tryz.f62]
   simp only[bQ,reduceLeDiff,↓reduceIte,bu0]
   exact Nat.le_refl _
  ·obtain⟨E,H,n⟩:=s2
   simp only at h7 hh2 hn2
   subst hh2 hn2
   rw[←cpO_ls]
   simp only[cpO,cpA,cA1,cR1,oL1,Tryz.f62,Option.getD_some,List.drop]
   simp only[bQ,reduceLeDiff,reduceEqDiff,reduceLT,reduceAdd,↓reduceIte,S0b,h7,bu0]
   skip
 ·simp only[cpO,cpA,cA1,cR1,oL1,Tryz.f62,Option.getD_some,List.take]
  obtain⟨E,H,n⟩:=s1
  simp only at h6 h0 hh hnx
  subst hh hnx
  simp only[bQ,reduceEqDiff,↓reduceIte,reduceCtorEq,S0b,h0]
theorem copy1_fn (J:Inv) (nx k m:Nat) (l:List UInt8) (hkm:k≠m):FnH Tryz.prog J 62 [.op k 0] [(k, .box 63 (bu1 k m)),(m, .row 5 (.by l))] nx (.tu []) [(k, .box 63 (bu1 k m)),(m, .row 5 (.by l))] nx:=by
 have h1:(k=m)=False:=eq_false hkm
 have h2:(m=k)=False:=eq_false fun e=>hkm e.symm
 refine fnJ Tryz.func62 rfl (by kernel_rfl) (S0b_ok J nx) rfl ?_
 unfold Tryz.f62
 simp only[↓bD,bQ,reduceEqDiff,reduceLT,reduceAdd,↓reduceIte,reduceCtorEq,S0b,bu1,vptrS.eq_def]
 refine⟨by kernel_rfl, .inl ?_⟩
 simp only[bQ,reduceLeDiff,↓reduceIte,h1]
 exact Nat.le_refl _
def SBUh:FuncId→List V→List (Nat×Ob)→Nat→HR:=fun f args h nx=>tabH [(62,fun h nx=>hO fun k=>hD (hU h k (hF [] [(k, .box 63 bu0)] (.tu []) [(k, .box 63 (.st [.op k 0, .val (.slice none 0 0)]))] nx) fun m l=>hF [k≠m] [(k, .box 63 (bu1 k m)),(m, .row 5 (.by l))] (.tu []) [(k, .box 63 (bu1 k m)),(m, .row 5 (.by l))] nx))] noH f args h nx
theorem SBUh_ok (J:Inv):HTab Tryz.prog J SBUh:=tabH_ok (.c (fun _ nx=> .o fun k=> .d (.U (.F fun _=>copy0_fn J nx k) fun m l=> .F fun⟨c0,_⟩=>copy1_fn J nx k m l c0)) .n) noH_ok
def SBU (J:Inv) (b:Nat):Sig:=⟨J,sdf,S0f,SBUh,b⟩
theorem SBU_ok (J:Inv) (b:Nat):SigOk Tryz.prog (SBU J b):=⟨(S0_ok J).1,SBUh_ok J⟩
theorem write1_fn (J:Inv) (nx k m:Nat) (l s:List UInt8) (hkm:k≠m) (hk:k<nx) (hm:m<nx) (hl:l.length+s.length≤140737488355328):FnH Tryz.prog J 35 [.op k 0, .str s] [(k, .box 63 (bu1 k m)),(m, .row 5 (.by l))] nx (.tu [.i s.length, .val .nilIface]) [(k, .box 63 (bu1 k nx)),(nx, .row 5 (.by (l++s)))] (nx+1):=by
 have h1:(k=m)=False:=eq_false hkm
 have h2:(m=k)=False:=eq_false fun e=>hkm e.symm
 have h3:(nx=k)=False:=eq_false (by omega)
 have h4:(k=nx)=False:=eq_false (by omega)
 have h5:(nx=m)=False:=eq_false (by omega)
 have h6:(m=nx)=False:=eq_false (by omega)
 refine fnJ Tryz.func35 rfl (by kernel_rfl) (SBU_ok J nx) rfl ?_
 unfold Tryz.f35
 simp only[↓bD,bQ,reduceLeDiff,reduceEqDiff,reduceLT,reduceAdd,↓reduceIte,reduceCtorEq,SBU,SBUh,hU.eq_1,bu1,h1,h2,h3,vappS.eq_def]
 refine⟨by unfold zeroU;kernel_rfl,by rw[List.length_append];omega, .inl ?_⟩
 simp only[bQ,reduceLeDiff,reduceEqDiff,reduceAdd,↓reduceIte,h4]
 exact Nat.le_refl _
theorem write0_fn (J:Inv) (nx k:Nat) (s:List UInt8) (hk:k<nx) (hl:s.length≤140737488355328):FnH Tryz.prog J 35 [.op k 0, .str s] [(k, .box 63 bu0)] nx (.tu [.i s.length, .val .nilIface]) [(k, .box 63 (bu1 k nx)),(nx, .row 5 (.by s))] (nx+1):=by
 have h3:(nx=k)=False:=eq_false (by omega)
 have h4:(k=nx)=False:=eq_false (by omega)
 refine fnJ Tryz.func35 rfl (by kernel_rfl) (SBU_ok J nx) rfl ?_
 unfold Tryz.f35
 simp only[↓bD,bQ,reduceLeDiff,reduceEqDiff,reduceLT,reduceAdd,↓reduceIte,reduceCtorEq,SBU,SBUh,hU.eq_1,bu1,bu0,h3,vappS.eq_def]
 refine⟨by unfold zeroU;kernel_rfl,by omega, .inl ?_⟩
 simp only[bQ,reduceLeDiff,reduceEqDiff,reduceAdd,↓reduceIte,h4]
 exact Nat.le_refl _
open Go.RowKit Go.Shelf
set_option linter.unusedVariables false
set_option maxHeartbeats 2000000
theorem str_run (w:World) (b g cap:Nat) (p:Value) (cur:Array Value) (l:List UInt8) (h0:l≠[]) (hbk:w.heap[b]?=some (.cells #[p, .slice (some ⟨g,0,none⟩) l.length cap] 63 (0,0))) (hg:w.heap[g]?=some (.cells cur 5 (0,0))) (hn:l.length≤cap) (hcs:cur.size=cap) (hcm:cap≤maxLen) (hcell: ∀j x,l[j]?=some x→w.cell? ⟨g,j,none⟩=some (.int .u8 x.toNat)):
  Calls Tryz.prog 37 #[.pointer (some ⟨b,0,none⟩)] w fun e w'=>e= .returned (.string ⟨l.toArray⟩)∧w'=w.drew.freeze ⟨g,0,none⟩ l.length:=by
 have hl0:l.length≠0:=by simpa using h0
 have c1:w.drew.cell? ⟨b,1,none⟩=some (.slice (some ⟨g,0,none⟩) l.length cap):=by
  have:w.drew.heap[b]?=some (.cells #[p, .slice (some ⟨g,0,none⟩) l.length cap] 63 (0,0)):=hbk
  rw[Lib.cell_of_heap this];rfl
 have hSD:=Lib.run_unsafeSliceData_row (P:=Tryz.prog) w.drew #[24] 113 ⟨g,0,none⟩ l.length cap (by omega)
 have hUS:=Lib.run_unsafeString_row (P:=Tryz.prog) w.drew 113 3 9 5 Tryz.underlying113 Tryz.co5 g cur.size (by have hg':w.drew.heap[g]?=some (.cells cur 5 (0,0)):=hg;simp[World.shape?,hg']) l h0 (by omega) (by unfold maxLen at hcm;omega) (fun j x hx=>by have:=hcell j x hx;rw[addr_add,Nat.zero_add];exact this)
 have mixed:Tryz.prog.follows .mixedOrders=true:=rfl
 go_enter Tryz.func37,Tryz.ntmps37
 go_wp2
 go_region_o
 all_goals (go_wp2;go_ret;exact⟨rfl,rfl⟩)
theorem freeze_other (w:World) (g n k:Nat) (h:k≠g):(w.freeze ⟨g,0,none⟩ n).heap[k]?=w.heap[k]?:=by
 unfold World.freeze
 split
 ·rfl
 ·simp only[Array.getElem?_modify]
  rw[if_neg (fun e=>h e.symm)]
theorem freeze_size (w:World) (g n:Nat):(w.freeze ⟨g,0,none⟩ n).heap.size=w.heap.size:=by
 unfold World.freeze
 split
 ·rfl
 ·simp
theorem str_fn (J:Inv) (nx k m:Nat) (l:List UInt8) (h0:l≠[]) (hkm:k≠m):FnH Tryz.prog J 37 [.op k 0] [(k, .box 63 (bu1 k m)),(m, .row 5 (.by l))] nx (.str l) [] nx:=by
 refine⟨⟨_,Tryz.func37,by kernel_rfl,by kernel_rfl⟩,fun w F vs hM hlen hvs=> ?_⟩
 obtain⟨y,rfl⟩: ∃y,vs=[y]:=List.length_eq_one_iff.1 hlen
 obtain⟨b,hO,rfl⟩:=rep_op (hvs 0 _ y rfl rfl)
 obtain⟨b',cells,uu,hO',hheap,hsz,h1,h2,hF⟩:=hM.own (.r k) (.box 63 (bu1 k m)) (by simp[Hget,Hroot])
 rw[hO] at hO'
 obtain rfl:b=b':=by simpa using hO'
 obtain⟨x1,sz',n,cc1,u1,xs,hW,he,hown,hc1,hr1,hone,hFr⟩:=hM.own (.r m) (.row 5 (.by l)) (by simp[Hget,Hroot,hkm])
 obtain⟨rfl,rfl,rfl⟩:1=sz'∧l.length=n∧_:=by simpa [V.elems] using he
 have hblkk:F.blk (.r m) (.row 5 (.by l))=x1.ownBlock:=by simp[Cx.blk,hW]
 rcases hown.2 with ⟨rfl,hz⟩|⟨g,cap,cur,rfl,_,hg,hnc,hcm,hcs,htake⟩
 ·exact absurd (List.length_eq_zero_iff.1 hz) h0
 have hcz:(bu1 k m).csize=2:=rfl
 rw[hcz] at hsz h1 h2
 have hu1:uu 1= .slice (some ⟨g,0,none⟩) l.length cap:=by
  have h:=rep_ro (h2 1 (by omega))
  rw[hW] at h
  exact(Option.some.inj h).symm
 have hbk:w.heap[b]?=some (.cells #[uu 0, .slice (some ⟨g,0,none⟩) l.length cap] 63 (0,0)):=by
  rw[hheap]
  have e:cells= #[uu 0,uu 1]:=by
   apply Array.ext (by simpa using hsz)
   intro i hi hi2
   have hi3:i=0∨i=1:=by omega
   rcases hi3 with rfl|rfl
   ·have h:=(h1 0 (by omega)).1
    rw[Array.getElem?_eq_getElem hi] at h
    exact Option.some.inj h
   ·have h:=(h1 1 (by omega)).1
    rw[Array.getElem?_eq_getElem hi] at h
    exact Option.some.inj h
  rw[e,hu1]
 refine(str_run w b g cap (uu 0) cur l h0 hbk hg hnc (by simpa using hcs) hcm fun j x hx=> ?_).mono fun e w' he'=> ?_
 ·have hj:j<l.length:=(List.getElem?_eq_some_iff.1 hx).1
  have h3:=hc1 j hj 0 (by omega)
  rw[Nat.mul_one,Nat.add_zero] at h3
  rw[row_cell hown (fun _ _=>rfl) h3,rep_val (hr1 j hj 0 (by omega))]
  simp[byteAt,List.getD_eq_getElem?_getD,hx]
 ·obtain⟨rfl,rfl⟩:=he'
  have hgF:F.F g:=hFr g rfl
  have hgB:Blk F [(k, .box 63 (bu1 k m)),(m, .row 5 (.by l))] g:=⟨.r m, .row 5 (.by l),by simp[Hget,Hroot,hkm],hblkk⟩
  have hsz2:(w.drew.freeze ⟨g,0,none⟩ l.length).heap.size=w.heap.size:=freeze_size _ _ _
  have hoth: ∀c,c≠g→(w.drew.freeze ⟨g,0,none⟩ l.length).heap[c]?=w.heap[c]?:=fun c hc=>freeze_other _ _ _ _ hc
  refine⟨_,⟨fun c=>F.F c∧ ¬Blk F [(k, .box 63 (bu1 k m)),(m, .row 5 (.by l))] c,F.O,F.W⟩,rfl,⟨?_,?_,?_,by rw[hsz2];exact Nat.le_refl _,fun c _ hc=>hoth c fun e=>hc (e▸hgB)⟩,⟨fun c hc=> .inl hc.1,fun _ _ h=>h,fun _ _ h=>h⟩,fun c h3 h4=>⟨h3,h4⟩,⟨fun c hc=>by rw[hsz2];exact hM.flt c hc.1,hM.nx,?_,?_,hM.wsl,J.out hM.inv (by rw[hsz2];exact Nat.le_refl _) (fun c _ hc=>hoth c fun e=>hc (e▸hgF)) fun c hc=> .inl hc.1⟩,?_, .str l⟩
  ·unfold World.freeze;split<;>rfl
  ·unfold World.freeze;split<;>rfl
  ·unfold World.freeze;split<;>rfl
  ·exact fun m o hm=>by cases m<;>simp[Hget,Hroot,Hchild] at hm
  ·exact fun m m' o o' g hm=>by cases m<;>simp[Hget,Hroot,Hchild] at hm
  ·exact fun m o g hm=>by cases m<;>simp[Hget,Hroot,Hchild] at hm
end Go.Proofs.YtfengpdaocgcnaaGreatDoor
