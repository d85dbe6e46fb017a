/- Memory that nobody reads or writes for a while (a slice that is appended to while its old header lives on). spoil: a key's parts are written full, grown, and read again. -/
import Derived.Test.YtfengpdaocgcnaaGreatDoorQ25
import Derived.Test.YtfengpdaocgcnaaGreatDoorQ33
import Derived.Test.YtfengpdaocgcnaaGreatDoorQ17
namespace Go.Proofs.YtfengpdaocgcnaaGreatDoor
open Go.RowKit
set_option linter.unusedSimpArgs false
section
variable {P:Program} {x x0 x1:Fx} {F F':Cx} {w w':World} {a a':Act} {s s':S}
theorem ownsRow_at {ty:TypeId} {sz n:Nat} {h:Value} {xs:List Value} (hk:w.ownsRow 0 ty sz h n xs) (hb: ∀g,h.ownBlock=some g→w'.heap[g]?=w.heap[g]?):w'.ownsRow 0 ty sz h n xs:=by
 refine⟨hk.1,?_⟩
 rcases hk.2 with h|⟨g,cap,cur,e1,e2,e3,e4⟩
 ·exact .inl h
 ·exact .inr ⟨g,cap,cur,e1,e2,(hb g (by rw[e1];rfl)).trans e3,e4⟩
def bV (l:List UInt8):List Value:=(List.range l.length).map fun i=> .int .u8 (byteAt l i)
theorem bV_len (l:List UInt8):(bV l).length=l.length:=by simp[bV]
theorem bV_get (l:List UInt8) {i:Nat} (h:i<l.length):(bV l)[i]?=some (.int .u8 (byteAt l i)):=by simp[bV,h]
def Kid (w:World) (h:Value) (l:List UInt8):Prop:=w.ownsRow 0 5 1 h l.length (bV l)
theorem kid_of {m:Nm} {l:List UInt8} (h:ObOk w F m (.row 5 (.by l))): ∃y,F.W m=some y∧Kid w y l∧ ∀g,y.ownBlock=some g→F.F g:=by
 obtain⟨y,sz,n,c,u,xs,hW,he,hown,hc,hr,h1,hF⟩:=h
 obtain⟨rfl,rfl,rfl⟩:1=sz∧l.length=n∧_=c:=by simpa [V.elems] using he
 refine⟨y,hW,?_,hF⟩
 have hx:xs=bV l:=by
  refine List.ext_getElem? fun i=> ?_
  have hl:=hown.1
  rcases Nat.lt_or_ge i l.length with hi|hi
  ·have h2:=hc i hi 0 (by omega)
   have h3:=rep_val (hr i hi 0 (by omega))
   rw[bV_get l hi,←h3]
   simpa using h2
  ·rw[List.getElem?_eq_none (by omega),List.getElem?_eq_none (by rw[bV_len];exact hi)]
 rw[hx] at hown;exact hown
theorem kid_read {y:Value} {l:List UInt8} (hk:Kid w y l) (hF: ∀g,y.ownBlock=some g→ ¬F.F g):Rep w F (.by l) y:=by
 obtain⟨A,cap,rfl,hcap,hA⟩:=row_val hk
 by_cases hn:0<l.length
 ·obtain⟨g,rfl⟩:=hA hn
  refine .sl _ 1 l.length _ _ cap g 0 (fun i _=> .int .u8 (byteAt l i)) rfl hcap (fun _=>⟨rfl,(hk.lt g rfl).2,hF g rfl⟩) (fun i hi j hj=>⟨?_,rfl⟩) (fun i hi j hj=> .val _)
  obtain rfl:j=0:=by omega
  rw[Nat.zero_add]
  exact row_cell hk (fun _ _=>rfl) (by simpa using bV_get l hi)
 ·exact .sl _ 1 l.length _ A cap 0 0 (fun _ _=>undef) rfl hcap (fun h=>absurd h hn) (fun i hi=>by omega) (fun i hi=>by omega)
theorem append_keep {t ty el:TypeId} {sz bs n m cap b off:Nat} {v:Value} {xs:List Value} {A:Option Addr} {u:Nat→Nat→Value}
  (ht:P.underlying t=some (.slice el)) (hri:rowInfo P el=some (sz,bs)) (hown:w.ownsRow 0 el sz v n xs) (hA:A=some ⟨b,off,none⟩)
  (hc: ∀i,i<m→ ∀j,j<sz→w.cell? ⟨b,off+(i*sz+j),none⟩=some (u i j)∧(u i j).oneCell'=true) (hb':(n+m)*bs≤140737488355328) (hbp:0<bs):
  ∃v' w' news,(Builtin.append_ #[t,t] ty #[v, .slice A m cap]).run P w= .ok v' w'∧w'.ownsRow 0 el sz v' (n+m) (xs++news)∧w.grownBy w' v.ownBlock∧(v'.ownBlock=v.ownBlock∨v'.ownBlock=some w.heap.size)∧
   news.length=m*sz∧(∀i,i<m→ ∀j,j<sz→news[i*sz+j]?=some (u i j))∧
   ∀h nh ms,w.ownsRow 0 el sz h nh ms→(h.ownBlock=v.ownBlock→nh≤n)→w'.ownsRow 0 el sz h nh ms:=by
 obtain⟨v',w',news,h1,h2,h3,h4,h5,h6,h7⟩:=append_run (P:=P) (ty:=ty) (cap:=cap) ht hri hown (fun _=>hA) hc hb' hbp
 refine⟨v',w',news,h1,h2,h3,h4,h5,h6,fun h nh ms hh hn=> ?_⟩
 subst hA
 by_cases he:h.ownBlock=v.ownBlock
 ·replace hn:=hn he
  refine⟨hh.1,?_⟩
  rcases hh.2 with hnil|⟨g,cap2,cur2,rfl,_,hg,hnc,hcm,hcs,htk⟩
  ·exact .inl hnil
  ·refine .inr ?_
   rcases hown.2 with ⟨rfl,rfl⟩|⟨g',cap',cur',rfl,_,hg',hnc',hcm',hcs',htk'⟩
   ·simp[Value.ownBlock] at he
   ·obtain rfl:g=g':=by simpa [Value.ownBlock] using he
    rw[hg] at hg'
    obtain rfl:cur2=cur':=by simpa using hg'
    obtain⟨i,z,hi,hz,hsz,hby,hzs,hszp⟩:=rowInfo_ok hri
    have hone: ∀y∈news,y.oneCell'=true:=h7
    have hcell: ∀j y,news[j]?=some y→w.cell? ((⟨b,off,none⟩:Addr).add j)=some y:=by
     intro k y hk
     have hlt:k<m*sz:=by rw[←h5];exact(List.getElem?_eq_some_iff.1 hk).1
     have h1:k/sz<m:=Nat.div_lt_of_lt_mul (by rw[Nat.mul_comm];exact hlt)
     have h2:k%sz<sz:=Nat.mod_lt _ hszp
     have h3:k/sz*sz+k%sz=k:=by rw[Nat.mul_comm];exact Nat.div_add_mod k sz
     have q1:=h6 _ h1 _ h2
     have q2:=hc _ h1 _ h2
     rw[h3] at q1 q2
     rw[hk] at q1
     rw[addr_add,q2.1,←q1]
    by_cases hroom:n+m≤cap'
    ·subst hsz
     have hfit:n*i.size+news.length≤cur2.size:=by rw[h5,hcs',←Nat.add_mul];exact Nat.mul_le_mul_right _ hroom
     have hr:=run_append_room (P:=P) w t ty el i ht hi g n cap' cur2 hg ⟨b,off,none⟩ m cap news h5 hcell hone hroom hfit
     rw[hr] at h1
     have hw:w'=w.setRow g (cur2.toList.take (n*i.size)++news++cur2.toList.drop (n*i.size+news.length)).toArray:=by
      simp only[Result.ok.injEq] at h1;exact h1.2.symm
     subst hw
     have hle:nh*i.size≤n*i.size:=Nat.mul_le_mul_right _ hn
     have hle2:n*i.size≤cur2.toList.length:=by rw[Array.length_toList];omega
     refine⟨g,cap2,_,rfl,Nat.zero_le _,setRow_heap w g cur2 _ el _ hg,hnc,hcm,?_,?_⟩
     ·rw[←hcs]
      simp only[List.size_toArray,List.length_append,List.length_take,List.length_drop,Array.length_toList]
      omega
     ·simp only[List.append_assoc]
      rw[List.take_append_of_le_length (by rw[List.length_take];omega),List.take_take,Nat.min_eq_left hle]
      exact htk
    ·subst hsz
     have holds: ∀j u,xs[j]?=some u→w.cell? ((⟨g,0,none⟩:Addr).add j)=some u:=hown.cells (g:=g) rfl
     have hnm:n+m≤140737488355328:=Nat.le_trans (Nat.le_mul_of_pos_right _ hbp) hb'
     subst hby
     have hr:=run_append_grow (P:=P) w t ty el i z ht hi hz ⟨g,0,none⟩ n cap' xs hown.1 holds ⟨b,off,none⟩ m cap news h5 hcell (by omega) (by omega) (growslice_fits (by omega) hb')
     rw[hr] at h1
     have hw:=h1
     simp only[Result.ok.injEq] at hw
     refine⟨g,cap2,cur2,rfl,Nat.zero_le _,?_,hnc,hcm,hcs,htk⟩
     rw[←hw.2]
     exact(heap_alloc_old w.drew _ (heap_lt hg)).trans hg
 ·refine ownsRow_at hh fun g hg=>h3.block g (hh.lt g hg).2 fun e=>he (hg.trans e)
theorem Sat.limbo {B:Option Nat} {v':Value} {t:Nat} (r:Root x0 x) (hs:Sat x s F a w) (ht:t<x.n) (hg:w.grownBy w' B) (hB: ∀b,B=some b→x.F b∧(x0.w.heap.size≤b∨x0.X b)) (hv: ∀b,v'.ownBlock=some b→b<w'.heap.size∧(B=some b∨b=w.heap.size)):
  ∃x1 F1,Root x0 x1∧Sat x1 ⟨(t, .val v')::s.e,s.h,s.nx⟩ F1 (a.put (some t) v') w'∧F1.W=F.W∧(∀b,F1.F b→F.F b∨w.heap.size≤b)∧(∀b,x.F b→x1.F b)∧(∀b,v'.ownBlock=some b→x1.F b):=by
 have h0:=r.sat hs
 have hBF: ∀b,B=some b→F.F b:=fun b hb=>hs.fold b (hB b hb).1
 let F1:Cx:=⟨fun b=>F.F b∨v'.ownBlock=some b,F.O,F.W⟩
 have hle:Cx.Le w F F1:=⟨fun b hb=>by
  rcases hb with hb|hb
  ·exact .inl hb
  ·rcases(hv b hb).2 with h|h
   ·exact .inl (hBF b h)
   ·exact .inr (by omega),fun _ _ h=>h,fun _ _ h=>h⟩
 have hblk: ∀b,w.grownBy w' B→b<w.heap.size→B≠some b→w'.heap[b]?=w.heap[b]?:=fun b hg hb hne=>hg.block b hb fun e=>hne e.symm
 have hout:Out F w w':=⟨hg.size,fun b hb hn=>hblk b hg hb fun e=>hn (hBF b e)⟩
 have hout1:Out F1 w w':=⟨hg.size,fun b hb hn=>hout.block b hb fun h=>hn (.inl h)⟩
 have hnB: ∀k ob g,Hget s.h k=some ob→F.blk k ob=some g→B≠some g:=fun k ob g hk hgk e=>hs.own3 k ob g hk hgk (hB g e).1
 have hnb: ∀b,v'.ownBlock=some b→ ¬Blk F s.h b:=fun b hb ⟨k,ob,hk,hgk⟩=>by
  rcases(hv b hb).2 with h|h
  ·exact hnB k ob b hk hgk h
  ·have:=blk_lt hs hk hgk;omega
 have hx: ∀b,x.F b→F1.F b∧ ¬Blk F s.h b:=fun b hb=>⟨.inl (hs.fold b hb),fun⟨k,ob,hk,hgk⟩=>hs.own3 k ob b hk hgk hb⟩
 have hsat:Sat ⟨x.J,w',fun b=>F1.F b∧ ¬Blk F s.h b,x.n,Blk F s.h,F1⟩ s F1 a w':=by
  refine⟨Ev.refl _ _,fun t v hv=>⟨(hs.env t v hv).1,(((hs.env t v hv).2.le hle).out hout1)⟩,hs.df,hs.sz,fun b hb=>hb.1,fun b hb=> ?_,hs.nx,fun k ob hk=> ?_,fun k ob g hk hg=> .inr ⟨k,ob,hk,hg⟩,fun k ob g hk hg hF=>hF.2 ⟨k,ob,hk,hg⟩,hs.sep,hs.wsl,Cx.Le.refl _ _,?_⟩
  ·rcases hb with hb|hb
   ·exact Nat.lt_of_lt_of_le (hs.flt b hb) hg.size
   ·exact(hv b hb).1
  ·exact(hs.own k ob hk).keep hout hle (fun b hb=> .inl hb) fun g hgk=>hblk g hg (blk_lt hs hk hgk) (hnB k ob g hk hgk)
  ·exact x.J.out hs.inv hg.size (fun b hb hn=>hout.block b hb hn) hle.le1
 refine⟨⟨x.J,w',fun b=>F1.F b∧ ¬Blk F s.h b,x.n,Blk F s.h,F1⟩,F1,⟨r.j,r.n,?_,fun b ⟨k,ob,hk,hgk⟩=>h0.own2 k ob b hk hgk,fun b hb=>hx b (r.F b hb),?_⟩,hsat.put (d:=some t) (fun k hk=>by obtain rfl:=Option.some.inj hk;exact ht) (.val v'),rfl,hle.le1,hx,fun b hb=>⟨.inr hb,hnb b hb⟩⟩
 ·refine⟨hg.os.trans h0.ev.os,hg.tape.trans h0.ev.tape,hg.output.trans h0.ev.output,Nat.le_trans h0.ev.size hg.size,fun b hb hX=>(hblk b hg (Nat.lt_of_lt_of_le hb h0.ev.size) fun e=> ?_).trans (h0.ev.block b hb hX)⟩
  rcases(hB b e).2 with h|h
  ·omega
  ·exact hX h
 ·exact h0.le.trans hle h0.ev.size
theorem Sat.drop (r:Root x0 x) (hs:Sat x s F a w) (D:Nat→Prop) (hD: ∀b,D b→ ¬Blk F s.h b∧ ¬x0.F b):
  ∃x1 F1,Root x0 x1∧Sat x1 s F1 a w∧F1.W=F.W∧(∀b,F1.F b↔F.F b∧ ¬D b)∧(∀b,x.F b→ ¬D b→x1.F b):=by
 have h0:=r.sat hs
 let F1:Cx:=⟨fun b=>F.F b∧ ¬D b,F.O,F.W⟩
 have hle:Cx.Le w F F1:=⟨fun b hb=> .inl hb.1,fun _ _ h=>h,fun _ _ h=>h⟩
 have hne: ∀k ob g,Hget s.h k=some ob→F.blk k ob=some g→F1.F g:=fun k ob g hk hg=>⟨blk_F hs hk hg,fun h=>(hD g h).1 ⟨k,ob,hk,hg⟩⟩
 have hx: ∀b,x.F b→ ¬D b→F1.F b∧ ¬Blk F s.h b:=fun b hb hd=>⟨⟨hs.fold b hb,hd⟩,fun⟨k,ob,hk,hgk⟩=>hs.own3 k ob b hk hgk hb⟩
 refine⟨⟨x.J,w,fun b=>F1.F b∧ ¬Blk F s.h b,x.n,Blk F s.h,F1⟩,F1,⟨r.j,r.n,h0.ev,fun b ⟨k,ob,hk,hgk⟩=>h0.own2 k ob b hk hgk,fun b hb=>hx b (r.F b hb) fun hd=>(hD b hd).2 hb,h0.le.trans hle h0.ev.size⟩,?_,rfl,fun b=>Iff.rfl,hx⟩
 refine⟨Ev.refl _ _,fun t v ht=>⟨(hs.env t v ht).1,(hs.env t v ht).2.le hle⟩,hs.df,hs.sz,fun b hb=>hb.1,fun b hb=>hs.flt b hb.1,hs.nx,fun k ob hk=> ?_,fun k ob g hk hg=> .inr ⟨k,ob,hk,hg⟩,fun k ob g hk hg hF=>hF.2 ⟨k,ob,hk,hg⟩,hs.sep,hs.wsl,Cx.Le.refl _ _,x.J.out hs.inv (Nat.le_refl _) (fun _ _ _=>rfl) fun b hb=> .inl hb.1⟩
 have hok:=hs.own k ob hk
 have hn:=hne k ob
 cases ob with
 |box ty v=>
  obtain⟨b,cs,u,q1,q2,q3,q4,q5,q6⟩:=hok
  exact⟨b,cs,u,q1,q2,q3,q4,fun j hj=>(q5 j hj).le hle,hn b hk q1⟩
 |row ty v=>
  obtain⟨z',sz',n',c',u',xs',q1,q2,q3,q4,q5,q6,q7⟩:=hok
  exact⟨z',sz',n',c',u',xs',q1,q2,q3,q4,fun i hi j hj=>(q5 i hi j hj).le hle,q6,fun g hg=>hn g hk (by simp[Cx.blk,q1,hg])⟩
theorem bV_snoc (l:List UInt8) (c:UInt8):bV (l++[c])=bV l++[.int .u8 (byteAt [c] 0)]:=by
 refine List.ext_getElem? fun i=> ?_
 rcases Nat.lt_trichotomy i l.length with h|h|h
 ·rw[bV_get _ (by simp;omega),List.getElem?_append_left (by rw[bV_len];exact h),bV_get _ h]
  congr 2
  unfold byteAt
  rw[List.getD_eq_getElem?_getD,List.getElem?_append_left h,List.getD_eq_getElem?_getD]
 ·subst h
  rw[bV_get _ (by simp),List.getElem?_append_right (by rw[bV_len];exact Nat.le_refl _),bV_len,Nat.sub_self]
  simp only[List.getElem?_cons_zero]
  congr 2
  unfold byteAt
  rw[List.getD_eq_getElem?_getD,List.getElem?_append_right (Nat.le_refl _),Nat.sub_self];rfl
 ·rw[List.getElem?_eq_none (by rw[bV_len];simp;omega),List.getElem?_eq_none (by simp[bV_len];omega)]
theorem some3 {α β γ:Type} {a a':α} {b b':β} {c c':γ} (h:some (a,b,c)=some (a',b',c')):a=a'∧b=b'∧c=c':=by
 cases h;exact⟨rfl,rfl,rfl⟩
theorem Hget_boxC {h:List (Nat×Ob)} {k:Nat} {ty:TypeId} {vs us:List V} (hk:Hroot h k=some (.box ty (.st vs))) {m:Nm} {ob:Ob} (hm:Hget ((k, .box ty (.st us))::h) m=some ob):
  (m= .r k∧ob= .box ty (.st us)∧Hget h m=some (.box ty (.st vs)))∨(m≠ .r k∧Hget h m=some ob):=by
 cases m with
 |r q=>
  simp only[Hget,Hroot] at hm⊢
  split at hm
  ·rename_i e;subst e
   exact .inl ⟨rfl,(Option.some.inj hm).symm,hk⟩
  ·rename_i e
   exact .inr ⟨fun e2=>e (by cases e2;rfl),hm⟩
 |c q i j=>
  simp only[Hget,Hroot] at hm⊢
  split at hm
  ·rename_i e;subst e
   simp[Hchild] at hm
  ·exact .inr ⟨by simp,hm⟩
theorem Sat.cells {k:Nat} {ty:TypeId} {vs us:List V} (hs:Sat x s F a w) (hk:Hroot s.h k=some (.box ty (.st vs))) (hl:us.length=vs.length) (hr: ∀j y,j<vs.length→Rep w F (vs.getD j .any) y→Rep w F (us.getD j .any) y):
  Sat x ⟨s.e,(k, .box ty (.st us))::s.h,s.nx⟩ F a w:=by
 have hb: ∀m ob,Hget ((k, .box ty (.st us))::s.h) m=some ob→ ∃ob',Hget s.h m=some ob'∧F.blk m ob'=F.blk m ob:=fun m ob hm=>by
  rcases Hget_boxC hk hm with ⟨rfl,rfl,h⟩|⟨_,h⟩
  ·exact⟨_,h,rfl⟩
  ·exact⟨ob,h,rfl⟩
 refine⟨hs.ev,hs.env,hs.df,hs.sz,hs.fold,hs.flt,hs.nx,fun m ob hm=> ?_,fun m ob g hm hg=> ?_,fun m ob g hm hg=> ?_,fun m m' ob ob' g hm hm' hg hg'=> ?_,hs.wsl,hs.le,hs.inv⟩
 ·rcases Hget_boxC hk hm with ⟨rfl,rfl,h⟩|⟨_,h⟩
  ·obtain⟨b,cs,u,h1,h2,h3,h4,h5,h6⟩:=hs.own _ _ h
   have hc:(V.st us).csize=(V.st vs).csize:=hl
   exact⟨b,cs,u,h1,h2,by rw[hc];exact h3,fun j hj=>h4 j (by rw[hc] at hj;exact hj),fun j hj=>hr j _ (by rw[hc] at hj;exact hj) (h5 j (by rw[hc] at hj;exact hj)),h6⟩
  ·exact hs.own _ _ h
 ·obtain⟨o,h1,h2⟩:=hb m ob hm
  exact hs.own2 m o g h1 (h2.trans hg)
 ·obtain⟨o,h1,h2⟩:=hb m ob hm
  exact hs.own3 m o g h1 (h2.trans hg)
 ·obtain⟨o,h1,h2⟩:=hb m ob hm
  obtain⟨o',h1',h2'⟩:=hb m' ob' hm'
  exact hs.sep m m' o o' g h1 h1' (h2.trans hg) (h2'.trans hg')
structure Lmb (x0:Fx) (Z:List (Value×List UInt8)) (x:Fx) (F:Cx) (w:World):Prop where
 root:Root x0 x
 f: ∀b,x0.F b→b<x0.w.heap.size
 kid: ∀z∈Z,Kid w z.1 z.2
 lim: ∀z∈Z,∀b,z.1.ownBlock=some b→x.F b∧(x0.w.heap.size≤b∨x0.X b)∧ ¬x0.F b
theorem Lmb.sub {Z Z':List (Value×List UInt8)} (h:Lmb x0 Z x F w) (hz: ∀z∈Z',z∈Z):Lmb x0 Z' x F w:=⟨h.root,h.f,fun z hm=>h.kid z (hz z hm),fun z hm=>h.lim z (hz z hm)⟩
theorem Lmb.step {Z:List (Value×List UInt8)} (h:Lmb x0 Z x F w) (hs:Sat x s F a w) (r1:Root x0 x1) (hw:x1.w=w) (hX:x1.X=Blk F s.h) (hF: ∀b,F.F b→ ¬Blk F s.h b→x1.F b) (hs':Sat x1 s' F' a' w'):Lmb x0 Z x1 F' w':=by
 have hev: ∀b,b<w.heap.size→ ¬Blk F s.h b→w'.heap[b]?=w.heap[b]?:=fun b hb hn=>by
  have:=hs'.ev.block b (by rw[hw];exact hb) (by rw[hX];exact hn)
  rwa [hw] at this
 have n2: ∀b,x.F b→ ¬Blk F s.h b:=fun b hb ⟨k,ob,hk,hg⟩=>hs.own3 k ob b hk hg hb
 exact⟨r1,h.f,fun z hz=>ownsRow_at (h.kid z hz) fun g hg=>hev g ((h.kid z hz).lt g hg).2 (n2 g (h.lim z hz g hg).1),fun z hz b hb=>⟨hF b (hs.fold b (h.lim z hz b hb).1) (n2 b (h.lim z hz b hb).1),(h.lim z hz b hb).2⟩⟩
theorem row_head {k:Nat} {l:List UInt8} (hs:Sat x s F a w) (hk:Hroot s.h k=some (.row 5 (.by l))): ∃y,F.W (.r k)=some y∧Kid w y l∧ ∀g,y.ownBlock=some g→Blk F s.h g∧g<w.heap.size:=by
 obtain⟨y,h1,h2,h3⟩:=kid_of (hs.own (.r k) _ hk)
 exact⟨y,h1,h2,fun g hg=>⟨⟨.r k,_,hk,by simp[Cx.blk,h1,hg]⟩,(h2.lt g hg).2⟩⟩
theorem row_sep {k k':Nat} {l l':List UInt8} {y y':Value} {b:Nat} (hs:Sat x s F a w) (hk:Hroot s.h k=some (.row 5 (.by l))) (hk':Hroot s.h k'=some (.row 5 (.by l'))) (hy:F.W (.r k)=some y) (hy':F.W (.r k')=some y') (hb:y.ownBlock=some b) (hb':y'.ownBlock=some b):k=k':=by
 have:=hs.sep (.r k) (.r k') _ _ b hk hk' (by simp[Cx.blk,hy,hb]) (by simp[Cx.blk,hy',hb'])
 injection this
theorem Lmb.enter {Z:List (Value×List UInt8)} {h':List (Nat×Ob)} (hs:Sat x s F a w) (hsub:subH s.h h') (hz: ∀z∈Z,∃k,Hroot s.h k=some (.row 5 (.by z.2))∧Hroot h' k=none∧F.W (.r k)=some z.1):
  Root x (x.at s.h F w)∧ ∃x2,Sat x2 ⟨s.e,h',s.nx⟩ F a w∧Lmb (x.at s.h F w) Z x2 F w:=by
 obtain⟨r1,hs1⟩:=hs.root (Root.refl _)
 have hg:=subH_get hsub
 have hs2:Sat (x.at s.h F w) ⟨s.e,h',s.nx⟩ F a w:=⟨hs1.ev,hs1.env,hs1.df,hs1.sz,hs1.fold,hs1.flt,hs1.nx,fun m ob hm=>hs1.own m ob (hg m ob hm),fun m ob g hm=>hs1.own2 m ob g (hg m ob hm),fun m ob g hm=>hs1.own3 m ob g (hg m ob hm),fun m m' ob ob' g hm hm'=>hs1.sep m m' ob ob' g (hg m ob hm) (hg m' ob' hm'),hs1.wsl,hs1.le,hs1.inv⟩
 obtain⟨r2,hs3⟩:=hs2.root (Root.refl _)
 refine⟨r1,_,hs3,r2,fun b hb=>hs.flt b hb.1,fun z hm=> ?_,fun z hm b hb=> ?_⟩
 ·obtain⟨k,h1,_,h3⟩:=hz z hm
  obtain⟨y,e1,e2,_⟩:=row_head hs h1
  rw[h3] at e1
  obtain rfl:=Option.some.inj e1
  exact e2
 ·obtain⟨k,h1,h2,h3⟩:=hz z hm
  have hblk:F.blk (.r k) (.row 5 (.by z.2))=some b:=by simp[Cx.blk,h3,hb]
  have hB:Blk F s.h b:=⟨.r k,_,h1,hblk⟩
  refine⟨⟨blk_F hs (k:= .r k) h1 hblk,fun⟨m,ob,q1,q2⟩=> ?_⟩, .inr hB,fun hx=>hx.2 hB⟩
  obtain rfl:=hs.sep m (.r k) _ _ b (hg m ob q1) h1 q2 hblk
  simp only[Hget,h2] at q1
  cases q1
theorem Lmb.app {y z:Value} {l:List UInt8} {c:UInt8} {vz:V} {t:Nat} {T ty:TypeId} {Z:List (Value×List UInt8)} (h:Lmb x0 ((y,l)::Z) x F w) (hs:Sat x s F a w) (hsep: ∀z∈Z,∀b,z.1.ownBlock=some b→y.ownBlock=some b→z.2.length≤l.length)
  (hz:Rep w F vz z) (hsrc:vsrc s.h vz=some ([],some (.by [c],none))) (hsz:l.length+1≤140737488355328) (ht:t<x.n)
  (hT:P.underlying T=some (.slice 5)) (hri:rowInfo P 5=some (1,1)):
  ∃v' w',(Builtin.append_ #[T,T] ty #[y,z]).run P w= .ok v' w'∧ ∃x1 F1,Sat x1 ⟨(t, .val v')::s.e,s.h,s.nx⟩ F1 (a.put (some t) v') w'∧Lmb x0 ((v',l++[c])::Z) x1 F1 w'∧
   (∀b,v'.ownBlock=some b→y.ownBlock=some b∨w.heap.size≤b):=by
 have hk:=h.kid _ (List.mem_cons_self ..)
 have hyX:=h.lim _ (List.mem_cons_self ..)
 simp only at hk hyX
 obtain⟨A,sz,m,cap,b,off,cc,u,rfl,he,hA,hc,hsr⟩:=vsrc_ok hs hsrc (by simp[AllP]) hz
 obtain⟨rfl,rfl,rfl⟩:1=sz∧1=m∧_=cc:=some3 he
 obtain⟨v',w',news,r1,r2,r3,r4,r5,r6,r7⟩:=append_keep (P:=P) (ty:=ty) (cap:=cap) hT hri hk (hA (by omega)) hc (by omega) (by omega)
 have hu:u 0 0= .int .u8 (byteAt [c] 0):=rep_val (hsr 0 (by omega) 0 (by omega))
 have hnews:news=[.int .u8 (byteAt [c] 0)]:=by
  match news,r5 with
  |[q],_=>
   have:=r6 0 (by omega) 0 (by omega)
   simp only[Nat.zero_mul,Nat.add_zero,List.getElem?_cons_zero,Option.some.injEq] at this
   rw[this,hu]
 have hkid':Kid w' v' (l++[c]):=by
  unfold Kid
  rw[bV_snoc,List.length_append,←hnews]
  exact r2
 have h0:=h.root.sat hs
 have hv': ∀b,v'.ownBlock=some b→b<w'.heap.size∧(y.ownBlock=some b∨b=w.heap.size):=fun b hb'=>⟨(r2.lt b hb').2,by
  rcases r4 with h|h
  ·exact .inl (by rw[←h];exact hb')
  ·rw[h] at hb';exact .inr (Option.some.inj hb').symm⟩
 obtain⟨x1,F1,q1,q2,q3,q4,q5,q6⟩:=hs.limbo h.root ht r3 (fun b hb=>⟨(hyX b hb).1,(hyX b hb).2.1⟩) hv'
 have hws:x0.w.heap.size≤w.heap.size:=h0.ev.size
 refine⟨v',w',r1,x1,F1,q2,⟨q1,h.f,fun z hz=> ?_,fun z hz b hb=> ?_⟩,fun b hb=> ?_⟩
 ·rcases List.mem_cons.1 hz with rfl|hz
  ·exact hkid'
  ·have hkz:=h.kid z (List.mem_cons_of_mem _ hz)
   refine r7 _ _ _ hkz fun e=> ?_
   cases hb2:z.1.ownBlock with
   |none=>
    obtain⟨A2,cap2,e2,_,hA2⟩:=row_val hkz
    rcases Nat.eq_zero_or_pos z.2.length with h0|h0
    ·omega
    ·obtain⟨g,rfl⟩:=hA2 h0
     rw[e2] at hb2;simp[Value.ownBlock] at hb2
   |some g=>exact hsep z hz g hb2 (by rw[←e,hb2])
 ·rcases List.mem_cons.1 hz with rfl|hz
  ·refine⟨q6 b hb,?_⟩
   rcases(hv' b hb).2 with h1|h1
   ·exact(hyX b h1).2
   ·exact⟨.inl (by omega),fun hx=>by have:=h.f b hx;omega⟩
  ·obtain⟨h1,h2⟩:=h.lim z (List.mem_cons_of_mem _ hz) b hb
   exact⟨q5 b h1,h2⟩
 ·rcases(hv' b hb).2 with h1|h1
  ·exact .inl h1
  ·exact .inr (by omega)
theorem Lmb.read {Z:List (Value×List UInt8)} (h:Lmb x0 Z x F w) (hs:Sat x s F a w): ∃x1 F1,Root x0 x1∧Sat x1 s F1 a w∧ ∀z∈Z,Rep w F1 (.by z.2) z.1:=by
 obtain⟨x1,F1,q1,q2,q3,q4,q5⟩:=hs.drop h.root (fun b=> ∃z∈Z,z.1.ownBlock=some b) (fun b ⟨z,hz,hb'⟩=>⟨fun⟨k,ob,hk',hg⟩=>hs.own3 k ob b hk' hg (h.lim z hz b hb').1,(h.lim z hz b hb').2.2⟩)
 exact⟨x1,F1,q1,q2,fun z hz=>kid_read (h.kid z hz) fun g hg hF=>((q4 g).1 hF).2 ⟨z,hz,hg⟩⟩
abbrev fxB (J:Inv) (w:World) (F:Cx) (pre:List (Nat×Ob)) (n:Nat):Fx:=⟨J,w,fun b=>F.F b∧ ¬Blk F pre b,n,Blk F pre, .bare F.F⟩
theorem fnB_wp {J:Inv} {f:FuncId} {fn:Func} {c:Code} {args:List V} {pre:List (Nat×Ob)} {nx:Nat} (hf:P.funcs[f]?=some fn) (hb:fn.body=some c) (hname:(fn.name== "runtime.NumGoroutine")=false) (hn:args.length≤fn.ntmps)
  (h: ∀(w:World) (F:Cx) (a:Act) (Q:Exit→Act→World→Prop),Sat (fxB J w F pre fn.ntmps) ⟨enOf 0 args,pre,nx⟩ F a w→(∀s F' a' w',RetK fn.results.toList (.bb true) (fun _=>True) s→Sat (fxB J w F pre fn.ntmps) s F' a' w'→Q .ret a' w')→c.wp P Q a w):FnH P J f args pre nx (.bb true) [] nx:=by
 refine⟨⟨fn,hf,by simp[hb],hname⟩,fun w F vs hM hlen hvs=> ?_⟩
 refine calls_of_wp hf hb ?_
 refine h w F _ _ ?_ fun s F' a w' h hs=> ?_
 ·refine⟨Ev.refl _ w,fun t v ht=> ?_,rfl,by simp;omega,fun b hb=>hb.1,hM.flt,hM.nx,hM.own,fun k ob g hk hg=> .inr ⟨k,ob,hk,hg⟩,fun k ob g hk hg hF=>hF.2 ⟨k,ob,hk,hg⟩,hM.sep,hM.wsl,⟨fun _ h=> .inl h,fun _ _ h=>(by cases h),fun _ _ h=>(by cases h)⟩,hM.inv⟩
  obtain⟨_,h1⟩:=enOf_get args 0 t v ht
  simp only[Nat.sub_zero] at h1
  have hlt:t<args.length:=(List.getElem?_eq_some_iff.1 h1).1
  have hlt':t<vs.length:=by omega
  refine⟨by simp;omega,?_⟩
  have hg:vs[t]?=some vs[t]:=List.getElem?_eq_getElem hlt'
  have:=hvs t v _ h1 hg
  simpa [Array.getD_eq_getD_getElem?,Array.getElem?_append,hlt'] using this
 ·obtain⟨s',G',v,hs', -,hrun,hv⟩:=RetK_ok (P:=P) h hs
  refine⟨hs.df,v,hrun,v,⟨G'.F,F.O,F.W⟩,rfl,hs'.ev,⟨hs'.le.le1,fun _ _ h=>h,fun _ _ h=>h⟩,fun b h1 h2=>hs'.fold b ⟨h1,h2⟩,⟨hs'.flt,hM.nx,fun m o ho=> ?_,fun m m' o o' g ho=> ?_,hM.wsl,hs'.inv⟩,fun k ob g hk=> ?_,?_⟩
  ·cases m<;>simp[Hget,Hroot,Hchild] at ho
  ·cases m<;>simp[Hget,Hroot,Hchild] at ho
  ·cases k<;>simp[Hget,Hroot,Hchild] at hk
  ·rw[rep_bb hv];exact .bb _
theorem FnH.to {J:Inv} {f:FuncId} {args args':List V} {pre pre':List (Nat×Ob)} {nx nx' n2:Nat} (σ:List (Nat×Nat)) (h:FnH P J f args' pre' nx' (.bb true) [] n2) (ha:SubR 0 σ ⟨enOf 0 args,pre,nx⟩ ⟨enOf 0 args',pre',nx'⟩) (hl:args'.length=args.length):FnH P J f args pre nx (.bb true) [] nx:=by
 refine⟨h.1,fun w F vs hM hlen hvs=> ?_⟩
 have hs0:Sat (fxB J w F pre vs.length) ⟨enOf 0 args,pre,nx⟩ F {tmps:=vs.toArray,defers:=[]} w:=by
  refine⟨Ev.refl _ w,fun t v ht=> ?_,rfl,by simp,fun b hb=>hb.1,hM.flt,hM.nx,hM.own,fun k ob g hk hg=> .inr ⟨k,ob,hk,hg⟩,fun k ob g hk hg hF=>hF.2 ⟨k,ob,hk,hg⟩,hM.sep,hM.wsl,⟨fun _ h=> .inl h,fun _ _ h=>(by cases h),fun _ _ h=>(by cases h)⟩,hM.inv⟩
  obtain⟨_,h1⟩:=enOf_get args 0 t v ht
  simp only[Nat.sub_zero] at h1
  have hlt:t<args.length:=(List.getElem?_eq_some_iff.1 h1).1
  have hlt':t<vs.length:=by omega
  refine⟨by simp;omega,?_⟩
  have hg:vs[t]?=some vs[t]:=List.getElem?_eq_getElem hlt'
  have:=hvs t v _ h1 hg
  simpa [Array.getD_eq_getD_getElem?,hlt'] using this
 obtain⟨G,hG⟩:=hs0.ren (b:=0) (fun m _=>⟨rfl,rfl⟩) ha
 have hB: ∀g,Blk G pre' g→Blk F pre g∨w.heap.size≤g:=fun g ⟨k,ob,h1,h2⟩=>(hG.own2 k ob g h1 h2).symm
 have hB2: ∀b,F.F b→ ¬Blk F pre b→ ¬Blk G pre' b:=fun b h1 h2 ⟨k,ob,h3,h4⟩=>hG.own3 k ob b h3 h4 ⟨h1,h2⟩
 refine(h.2 w G vs ⟨hG.flt,hG.nx,hG.own,hG.sep,hG.wsl,hG.inv⟩ (by omega) fun i v y h1 h2=> ?_).mono fun e w' ⟨v,G1,he,hev,hle,hkeep,hmem,hown,hrep⟩=> ?_
 ·have hlt:i<vs.length:=(List.getElem?_eq_some_iff.1 h2).1
  have h3:(enOf 0 args').get i=some v:=by
   have key: ∀(l:List V) (k j:Nat),(enOf k l).get (k+j)=l[j]?:=by
    intro l
    induction l with
    |nil=>intro k j;simp[enOf,En.get]
    |cons u r ih=>
     intro k j
     cases j with
     |zero=>simp[enOf,En.get]
     |succ j=>
      simp only[enOf,En.get]
      rw[if_neg (by omega),show k+(j+1)=k+1+j from by omega,ih];simp
   have:=key args' 0 i
   simp only[Nat.zero_add] at this
   rw[this,h1]
  have:=(hG.env i v h3).2
  have e:vs[i]?=some vs[i]:=List.getElem?_eq_getElem hlt
  rw[e] at h2
  obtain rfl:vs[i]=y:=by simpa using h2
  simpa [Array.getD_eq_getD_getElem?,hlt] using this
 ·refine⟨v,⟨G1.F,F.O,F.W⟩,he,⟨hev.os,hev.tape,hev.output,hev.size,fun b hb hn=>hev.block b hb fun hx=>(hB b hx).elim hn fun h=>by omega⟩,⟨fun b hb=> ?_,fun _ _ h=>h,fun _ _ h=>h⟩,fun b h1 h2=>hkeep b (hG.fold b ⟨h1,h2⟩) (hB2 b h1 h2),⟨hmem.flt,hM.nx,fun m o ho=> ?_,fun m m' o o' g ho=> ?_,hM.wsl,hmem.inv⟩,fun k ob g hk=> ?_,?_⟩
  ·rcases hle.le1 b hb with h1|h1
   ·exact hG.le.le1 b h1
   ·exact .inr h1
  ·cases m<;>simp[Hget,Hroot,Hchild] at ho
  ·cases m<;>simp[Hget,Hroot,Hchild] at ho
  ·cases k<;>simp[Hget,Hroot,Hchild] at hk
  ·rw[rep_bb hrep];exact .bb _
end
open Nat (reduceMul reduceLeDiff reduceEqDiff reduceLT reduceAdd reduceSub reduceDiv)
open Int (reduceToNat reducePow)
set_option maxRecDepth 100000
def sL:Code→Code
 | .seq a _=>a
 |c=>c
def sR:Code→Code
 | .seq _ b=>b
 | .block _ c=>c
 | .loop c=>c
 |c=>c
noncomputable def pB:Code:=Tryz.f22.body.getD .skip
noncomputable def pA1:Code:=sL (sR (sR (sR pB)))
noncomputable def pA2:Code:=sL (sR (sR (sR (sR pB))))
noncomputable def pA3:Code:=sR (sR (sR (sR (sR pB))))
theorem pB_eq:Tryz.f22.body=some (.seq (sL pB) (.seq (sL (sR pB)) (.seq (sL (sR (sR pB))) (.seq pA1 (.seq pA2 pA3))))):=by kernel_rfl
def SG (J:Inv) (nx:Nat):Sig:=⟨J,sdf,S0f,noH,nx⟩
theorem SG_ok (J:Inv) (nx:Nat):SigOk Tryz.prog (SG J nx):= .plain fun _ _ _ _ _ h=>by simp[S0f] at h
def mkC (i:Nat) (l:List UInt8):List UInt8:=List.replicate l.length (u8 (10+(i:Int)))
abbrev spS (a b c d e:V) (H:List (Nat×Ob)) (N:Nat):S:=⟨[(3, .op 0 0),(4, .op 1 0)],(0, .box 70 (.st [a,b,c,d,e]))::(1, .box 70 (.st [.val (.slice none 0 0), .val (.slice none 0 0), .val (.slice none 0 0), .val (.slice none 0 0), .val (.slice none 0 0)]))::H,N⟩
abbrev spH (s n e x y:List UInt8):List (Nat×Ob):=[(2, .row 5 (.by s)),(3, .row 5 (.by n)),(4, .row 5 (.by e)),(5, .row 5 (.by x)),(6, .row 5 (.by y))]
abbrev spS1 (s n e x y:List UInt8):S:=spS (.ro (.r 2)) (.ro (.r 3)) (.ro (.r 4)) (.ro (.r 5)) (.ro (.r 6)) (spH s n e x y) 7
def mkQ (i q:Nat) (l:List UInt8):List UInt8:=List.replicate q (u8 (10+(i:Int)))++l.drop q
theorem mkQ_len {i q:Nat} {l:List UInt8} (h:q≤l.length):(mkQ i q l).length=l.length:=by unfold mkQ;simp;omega
theorem mkQ_0 (i:Nat) (l:List UInt8):mkQ i 0 l=l:=by unfold mkQ;simp
theorem mkQ_all (i:Nat) (l:List UInt8):mkQ i l.length l=mkC i l:=by unfold mkQ mkC;simp
theorem mkQ_set {i q:Nat} {l:List UInt8} (h:q<l.length):(mkQ i q l).set q (u8 (10+(i:Int)))=mkQ i (q+1) l:=by
 unfold mkQ
 rw[List.set_append_right _ _ (by simp),List.length_replicate,Nat.sub_self,List.drop_eq_getElem_cons h,List.set_cons_zero,List.replicate_succ',List.append_assoc]
 rfl
def five {α:Type} (a b c d e:α):Nat→α
 |0=>a
 |1=>b
 |2=>c
 |3=>d
 |_=>e
def mkS (l:Nat→List UInt8) (i q j:Nat):List UInt8:=if j<i then mkC j (l j) else if j=i then mkQ i q (l j) else l j
theorem sp_l1 (J:Inv) (l:Nat→List UInt8) (hl: ∀i,(l i).length≤1073741824):
  vg Tryz.prog (SG J 7) pA1 (spS1 (l 0) (l 1) (l 2) (l 3) (l 4)) ⟨fun s'=>Sub s' (spS1 (mkC 0 (l 0)) (mkC 1 (l 1)) (mkC 2 (l 2)) (mkC 3 (l 3)) (mkC 4 (l 4))),fun _=>False,[]⟩:=by
 simp only[pA1,pB,sL,sR,Tryz.f22,Option.getD_some]
 simp only[bQ,SG,spS1,spS,spH]
 refine LoopC.intro (α:=Nat) (fun i=>i≤5) (fun i=>⟨[(5, .i i),(3, .op 0 0),(4, .op 1 0)],(spS1 (mkS l i 0 0) (mkS l i 0 1) (mkS l i 0 2) (mkS l i 0 3) (mkS l i 0 4)).h,7⟩) (fun i=>5-i) 0 (Nat.zero_le _) ?_ ?_
 ·simp only[bQ,reduceLeDiff,reduceEqDiff,↓reduceIte,reduceCtorEq,spH,mkS,mkQ_0,Nat.not_lt_zero]
  rfl
 ·intro i hi
  have q0:((0:Nat):Int)=0:=rfl
  have q1:((1:Nat):Int)=1:=rfl
  have q2:((2:Nat):Int)=2:=rfl
  have q3:((3:Nat):Int)=3:=rfl
  have q4:((4:Nat):Int)=4:=rfl
  have q5:((5:Nat):Int)=5:=rfl
  obtain⟨j,hj⟩: ∃j:Int,j=(i:Int):=⟨_,rfl⟩
  obtain⟨k,hk⟩: ∃k,k=i:=⟨_,rfl⟩
  have hli:=hl i
  have hi:i=5∨i=0∨i=1∨i=2∨i=3∨i=4:=by omega
  rcases hi with rfl|hi
  ·simp only[bQ,reduceLeDiff,reduceEqDiff,reduceLT,↓reduceIte,reduceCtorEq,spH,mkS,Nat.reduceLT,q5]
   exact⟨fun h=>absurd h (by simp),fun _=>trivial⟩
  rcases hi with rfl|rfl|rfl|rfl|rfl
  all_goals
   simp only[bQ,reduceLeDiff,reduceEqDiff,reduceLT,↓reduceIte,reduceCtorEq,spH,mkS,mkQ_0,Nat.reduceLT,q0,q1,q2,q3,q4]
   refine⟨fun _=> ?_,fun h=>absurd h (by simp)⟩
   generalize hK:Kseq _ _ _ _=K2
   refine LoopC.intro (α:=Nat) (fun q=>q≤(l k).length) (fun q=>⟨[(6, .i q),(5, .i j),(3, .op 0 0),(4, .op 1 0)],(spS1 (mkS l k q 0) (mkS l k q 1) (mkS l k q 2) (mkS l k q 3) (mkS l k q 4)).h,7⟩) (fun q=>(l k).length-q) 0 (Nat.zero_le _) ?_ ?_
   ·simp only[bQ,reduceLeDiff,reduceEqDiff,reduceLT,↓reduceIte,reduceCtorEq,spH,mkS,hk,mkQ_0,Nat.reduceLT]
    exact⟨rfl,hj.symm⟩
   ·intro q hq
    have hset:q<(l k).length→(mkQ k q (l k)).set q (u8 ((10+(k:Int))%256))=mkQ k (q+1) (l k):=fun h=>by
     rw[Int.emod_eq_of_lt (by omega) (by omega)];exact mkQ_set h
    have hm:=mkQ_len (i:=k) hq
    simp only[hk,q0,q1,q2,q3,q4] at hset hm hq
    simp only[bQ,reduceEqDiff,reduceLT,reduceAdd,↓reduceIte,reduceCtorEq,reduceToNat,spH,mkS,hk,hj,hm,Nat.reduceLT,q0,q1,q2,q3,q4,q5]
    refine⟨by omega,by omega,fun h=> ?_,fun h=> ?_⟩
    ·have hq2:=of_decide_eq_true h
     refine⟨by omega,by omega,by constructor<;>omega,by omega,by omega,by omega,by omega,by omega,by constructor<;>omega,Again.intro (q+1) (by omega) (by omega) ?_⟩
     simp only[bQ,reduceLeDiff,reduceEqDiff,↓reduceIte,reduceCtorEq,hset (by omega)]
     rfl
    ·have hq2:=of_decide_eq_false h
     obtain rfl:q=(l _).length:=Nat.le_antisymm hq (by omega)
     rw[←hK,mkQ_all]
     simp only[bQ,reduceEqDiff,↓reduceIte]
     refine⟨by constructor<;>omega,Again.intro (k+1) (by omega) (by omega) ?_⟩
     simp only[bQ,reduceLeDiff,reduceEqDiff,reduceLT,reduceAdd,↓reduceIte,reduceCtorEq,hk,Nat.reduceLT,Nat.reduceAdd,q1,q2,q3,q4,q5]
     rfl
end Go.Proofs.YtfengpdaocgcnaaGreatDoor
