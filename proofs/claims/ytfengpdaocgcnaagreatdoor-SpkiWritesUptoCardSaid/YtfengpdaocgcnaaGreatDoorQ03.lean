/- Operations that leave the world alone: memory that is read; vop_ok. -/
import Derived.Test.YtfengpdaocgcnaaGreatDoorQ02
namespace Go.Proofs.YtfengpdaocgcnaaGreatDoor
open Go.RowKit
section
variable {P:Program} {w:World} {F:Cx}
theorem rep_ro {m:Nm} {p:Value} (h:Rep w F (.ro m) p):F.W m=some p:=by
 cases h with
 |ro _ _ h=>exact h
 |sl _ _ _ _ _ _ _ _ _ he=>simp[V.elems] at he
theorem rep_op {k j:Nat} {p:Value} (h:Rep w F (.op k j) p): ∃b,F.O (.r k)=some b∧p= .pointer (some ⟨b,j,none⟩):=by
 cases h with
 |op _ _ b h=>exact⟨b,h,rfl⟩
 |sl _ _ _ _ _ _ _ _ _ he=>simp[V.elems] at he
theorem rep_rp {k:Nm} {sz i j:Nat} {p:Value} (h:Rep w F (.rp k sz i j) p): ∃g n cap,F.W k=some (.slice (some ⟨g,0,none⟩) n cap)∧p= .pointer (some ⟨g,i*sz+j,none⟩):=by
 cases h with
 |rp _ _ _ _ g n cap h=>exact⟨g,n,cap,h,rfl⟩
 |sl _ _ _ _ _ _ _ _ _ he=>simp[V.elems] at he
theorem rep_vw {m:Nm} {sz a n:Nat} {p:Value} (h:Rep w F (.vw m sz a n) p): ∃A N cap B,F.W m=some (.slice A N cap)∧(a+n≤N∧N≤cap∧(0<N→ ∃g,A=some ⟨g,0,none⟩))∧(a<cap→B=A.map (·.add (a*sz)))∧p= .slice B n (cap-a):=by
 cases h with
 |vw _ _ _ _ N cap A B h1 h2=>exact⟨A,N,cap,B,h1,h2.1,h2.2,rfl⟩
 |sl _ _ _ _ _ _ _ _ _ he=>simp[V.elems] at he
theorem rep_pe {s:V} {i j:Nat} {p:Value} (h:Rep w F (.pe s i j) p): ∃(sz n:Nat) (c:Nat→V) (b off:Nat) (u:Nat→Nat→Value),p= .pointer (some ⟨b,off+(i*sz+j),none⟩)∧s.elems=some (sz,n,c)∧i<n∧b<w.heap.size∧ ¬F.F b∧
      (∀i,i<n→ ∀j,j<sz→w.cell? ⟨b,off+(i*sz+j),none⟩=some (u i j)∧(u i j).oneCell'=true)∧(∀i,i<n→ ∀j,j<sz→Rep w F ((c i).cell j) (u i j)):=by
  cases h with
  |pe _ sz n c _ _ b off u h1 h2 h3 h4 h5 h6=>exact⟨sz,n,c,b,off,u,rfl,h1,h2,h3,h4,h5,h6⟩
  |sl _ _ _ _ _ _ _ _ _ he=>simp[V.elems] at he
theorem row_val {w:World} {e:TypeId} {sz n:Nat} {x:Value} {xs:List Value} (h:w.ownsRow 0 e sz x n xs): ∃A cap,x= .slice A n cap∧n≤cap∧(0<n→ ∃g,A=some ⟨g,0,none⟩):=by
 rcases h.2 with ⟨rfl,rfl⟩|⟨g,cap,cur,rfl,_,_,hc,_⟩
 ·exact⟨none,0,rfl,Nat.le_refl _,fun h=>by omega⟩
 ·exact⟨_,cap,rfl,hc,fun _=>⟨g,rfl⟩⟩
theorem row_of {h0:List (Nat×Ob)} (hh:HOk w F h0) {m:Nm} {l:List Prop} {ty:TypeId} {s:V} {sz n:Nat} {c:Nat→V} (hk:Hpk h0 m=some (l, .row ty s)) (hl:AllP l) (he:s.elems=some (sz,n,c)):
  ∃(A:Option Addr) (cap:Nat) (u:Nat→Nat→Value) (xs:List Value),F.W m=some (.slice A n cap)∧n≤cap∧(0<n→ ∃g,A=some ⟨g,0,none⟩)∧w.ownsRow 0 ty sz (.slice A n cap) n xs∧
   (∀i,i<n→ ∀j,j<sz→xs[i*sz+j]?=some (u i j))∧(∀i,i<n→ ∀j,j<sz→Rep w F (refV m i j ((c i).cell j)) (u i j))∧(∀y,y∈xs→y.oneCell'=true):=by
 obtain⟨x,sz',n',c',u,xs,hW,he',hown,h1,h2,h3,_⟩:=hh m _ (Hpk_ok hk hl)
 rw[he] at he'
 obtain⟨rfl,rfl,rfl⟩:sz=sz'∧n=n'∧c=c':=by simpa using he'
 obtain⟨A,cap,rfl,hcap,hA⟩:=row_val hown
 exact⟨A,cap,u,xs,hW,hcap,hA,hown,h1,h2,h3⟩
theorem vlen_ok {h0:List (Nat×Ob)} (hh:HOk w F h0) {t ty:TypeId} {x r:V} {l:List Prop} {p:Value} (h:vlen P h0 t x=some (r,l)) (hl:AllP l) (hp:Rep w F x p):
  ∃z,Rep w F r z∧ ∀w',(Builtin.len_ #[t] ty #[p]).run P w'= .ok z w':=by
 unfold vlen at h
 split at h
 ·rename_i e ht
  have key: ∀(A:Option Addr) (n cap:Nat) (w':World),(Builtin.len_ #[t] ty #[.slice A n cap]).run P w'= .ok (.int .i64 n) w':=fun A n cap w'=>by simp[Builtin.len_,run_underlying ht,goInt]
  split at h
  ·rename_i m
   split at h
   ·rename_i l0 ty' s hk
    split at h
    ·rename_i sz n c he
     obtain⟨rfl,rfl⟩:=some_pair h
     obtain⟨A,cap,u,xs,hW,_⟩:=row_of hh hk hl he
     have:=rep_ro hp
     rw[hW] at this
     obtain rfl:_=p:=by simpa using this
     exact⟨_, .val _,key _ _ _⟩
    ·exact absurd h (by simp)
   ·exact absurd h (by simp)
  ·obtain⟨rfl,rfl⟩:=some_pair h
   obtain⟨A,N,cap,B,_,_,_,rfl⟩:=rep_vw hp
   exact⟨_, .val _,key _ _ _⟩
  ·obtain⟨rfl,rfl⟩:=some_pair h
   obtain rfl:=rep_val hp
   exact⟨_, .val _,key _ _ _⟩
  ·split at h
   ·rename_i sz n c he
    obtain⟨rfl,rfl⟩:=some_pair h
    obtain⟨A,cap,b,off,u,rfl,_⟩:=rep_sl he hp
    exact⟨_, .val _,key _ _ _⟩
   ·exact absurd h (by simp)
 ·rename_i ht
  split at h
  ·rename_i s
   obtain⟨rfl,rfl⟩:=some_pair h
   obtain rfl:=rep_str hp
   exact⟨_, .val _,fun w'=>by rw[run_len_string w' t ty _ ht];simp[goInt,ByteArray.size]⟩
  ·exact absurd h (by simp)
 ·exact absurd h (by simp)
theorem run_sizeOf' {t:TypeId} {n:Nat} (h:P.cellsOf t=n) (hn:0<n) (w':World):(sizeOf t).run P w'= .ok n w':=by
 unfold Program.cellsOf at h
 cases hi:P.info? t with
 |none=>simp[hi] at h;omega
 |some i=>
  rw[hi] at h
  simp only[Option.map_some,Option.getD_some] at h
  simp[sizeOf,typeInfo,hi,h]
theorem vnil_ok {x r:V} {l:List Prop} {p:Value} {o:Oper} {a:Act} {X:Operand} (ho:o.op= .nilCheck X) (ha:a.eval X=p) (h:vnil x=some (r,l)) (hp:Rep w F x p):
  ∃z,Rep w F r z∧ ∀w',(execOp a.eval o).run P w'= .ok (.value z) w':=by
 unfold vnil at h
 split at h
 ·obtain⟨rfl,rfl⟩:=some_pair h
  refine⟨p,hp,fun w'=> ?_⟩
  obtain⟨sz,n,c,b,off,u,rfl,_⟩:=rep_pe hp
  simp[execOp,ho,ha]
 ·obtain⟨rfl,rfl⟩:=some_pair h
  refine⟨p,hp,fun w'=> ?_⟩
  obtain⟨b,_,rfl⟩:=rep_op hp
  simp[execOp,ho,ha]
 ·obtain⟨rfl,rfl⟩:=some_pair h
  refine⟨p,hp,fun w'=> ?_⟩
  obtain⟨g,n,cap,_,rfl⟩:=rep_rp hp
  simp[execOp,ho,ha]
 ·exact absurd h (by simp)
theorem vindexAddr_ok {h0:List (Nat×Ob)} (hh:HOk w F h0) {t:TypeId} {x i r:V} {l:List Prop} {p q:Value} (h:vindexAddr P h0 t x i=some (r,l)) (hl:AllP l) (hp:Rep w F x p) (hq:Rep w F i q):
  ∃z,Rep w F r z∧ ∀w',(Instr.indexAt t p q).run P w'= .ok z w':=by
 unfold vindexAddr at h
 split at h
 ·rename_i el kk qq ht
  obtain rfl:=rep_val hq
  split at h
  ·rename_i m
   split at h
   ·rename_i l0 ty' s hk
    split at h
    ·rename_i sz n c he
     split at h
     ·rename_i hsz
      obtain⟨rfl,rfl⟩:=some_pair h
      have h0:(0:Int)≤qq:=hl _ (by simp)
      have h1:qq<n:=hl _ (by simp)
      obtain⟨A,cap,u,xs,hW,hcap,hA,_⟩:=row_of hh hk (allP_tail (allP_tail hl)) he
      have:=rep_ro hp
      rw[hW] at this
      obtain rfl:_=p:=by simpa using this
      obtain⟨g,rfl⟩:=hA (by omega)
      refine⟨_, .rp m sz qq.toNat 0 g n cap hW,fun w'=> ?_⟩
      simp[Instr.indexAt,asIntOf,run_underlying ht,h0,h1,run_sizeOf' hsz (elems_pos he),addr_add]
     ·exact absurd h (by simp)
    ·exact absurd h (by simp)
   ·exact absurd h (by simp)
  ·rename_i m sz a n
   split at h
   ·rename_i hsz
    obtain⟨hsz,hpos⟩:=hsz
    obtain⟨rfl,rfl⟩:=some_pair h
    have h0:(0:Int)≤qq:=hl _ (by simp)
    have h1:qq<n:=hl _ (by simp)
    obtain⟨A,N,cap,B,hW,⟨hn,hNc,hA⟩,hB,rfl⟩:=rep_vw hp
    obtain⟨g,rfl⟩:=hA (by omega)
    obtain rfl:=hB (by omega)
    refine⟨_, .rp m sz (a+qq.toNat) 0 g N cap hW,fun w'=> ?_⟩
    have e:a*sz+qq.toNat*sz=(a+qq.toNat)*sz:=by rw[Nat.add_mul]
    simp[Instr.indexAt,asIntOf,run_underlying ht,h0,h1,run_sizeOf' hsz hpos,addr_add,e]
   ·exact absurd h (by simp)
  ·split at h
   ·obtain⟨rfl,rfl⟩:=some_pair h
    exact(hl False (by simp)).elim
   ·exact absurd h (by simp)
  ·split at h
   ·rename_i sz n c he
    split at h
    ·rename_i hsz
     obtain⟨rfl,rfl⟩:=some_pair h
     have h0:(0:Int)≤qq:=hl _ (by simp)
     have h1:qq<n:=hl _ (by simp)
     obtain⟨A,cap,b,off,u,rfl,hcap,hA,hc,hr⟩:=rep_sl he hp
     obtain⟨rfl,hb,hF⟩:=hA (by omega)
     refine⟨_, .pe _ sz n c qq.toNat 0 b off u he (by omega) hb hF hc hr,fun w'=> ?_⟩
     simp[Instr.indexAt,asIntOf,run_underlying ht,h0,h1,run_sizeOf' hsz (elems_pos he),addr_add]
    ·exact absurd h (by simp)
   ·exact absurd h (by simp)
 ·rename_i n el kk qq ht
  obtain rfl:=rep_val hq
  split at h
  ·rename_i k0
   split at h
   ·rename_i hc1
    obtain⟨rfl,rfl⟩:=some_pair h
    have h0:(0:Int)≤qq:=hl _ (by simp)
    have h1:qq<n:=hl (qq<n) (by simp)
    obtain⟨b,hb,rfl⟩:=rep_op hp
    refine⟨_, .op k0 qq.toNat b hb,fun w'=> ?_⟩
    simp[Instr.indexAt,Instr.sureAddr,asIntOf,run_underlying ht,h0,h1,run_sizeOf' hc1 (by omega),addr_add]
   ·exact absurd h (by simp)
  ·exact absurd h (by simp)
 ·exact absurd h (by simp)
theorem vfieldAddr_ok {t:TypeId} {f:Nat} {x r:V} {l:List Prop} {p:Value} (h:vfieldAddr P t f x=some (r,l)) (hp:Rep w F x p):
  ∃z,Rep w F r z∧ ∀w',(Instr.fieldAt t p f).run P w'= .ok z w':=by
 unfold vfieldAddr at h
 split at h
 ·rename_i fs v i j ht
  split at h
  ·rename_i fd hf
   split at h
   ·rename_i hsz
    obtain⟨rfl,rfl⟩:=some_pair h
    obtain⟨sz,n,c,b,off,u,rfl,he,hi,hb,hF,hc,hr⟩:=rep_pe hp
    have e:off+(i*sz+j)+fd.offset=off+(i*sz+(j+fd.offset)):=by omega
    refine⟨_, .pe v sz n c i (j+fd.offset) b off u he hi hb hF hc hr,fun w'=> ?_⟩
    have hn: ¬P.cellsOf fd.type=0:=by omega
    simp[Instr.fieldAt,run_underlying ht,hf,Instr.sureAddr,fieldPlace,run_sizeOf' rfl hsz,hn,addr_add,e]
   ·exact absurd h (by simp)
  ·exact absurd h (by simp)
 ·rename_i fs k j ht
  split at h
  ·rename_i fd hf
   split at h
   ·rename_i hsz
    obtain⟨rfl,rfl⟩:=some_pair h
    obtain⟨b,hb,rfl⟩:=rep_op hp
    have hn: ¬P.cellsOf fd.type=0:=by omega
    exact⟨_, .op k _ b hb,fun w'=>by simp[Instr.fieldAt,run_underlying ht,hf,Instr.sureAddr,fieldPlace,run_sizeOf' rfl hsz,hn,addr_add]⟩
   ·exact absurd h (by simp)
  ·exact absurd h (by simp)
 ·rename_i fs k sz i j ht
  split at h
  ·rename_i fd hf
   split at h
   ·rename_i hsz
    obtain⟨rfl,rfl⟩:=some_pair h
    obtain⟨g,n,cap,hW,rfl⟩:=rep_rp hp
    have hn: ¬P.cellsOf fd.type=0:=by omega
    exact⟨_, .rp k sz i _ g n cap hW,fun w'=>by simp[Instr.fieldAt,run_underlying ht,hf,Instr.sureAddr,fieldPlace,run_sizeOf' rfl hsz,hn,addr_add,Nat.add_assoc]⟩
   ·exact absurd h (by simp)
  ·exact absurd h (by simp)
 ·exact absurd h (by simp)
theorem run_isAgg_of {t:TypeId} {b:Bool} (h:(P.underlying t).bind aggD=some b) (w':World):(isAgg t).run P w'= .ok b w':=by
 cases hu:P.underlying t with
 |none=>simp[hu] at h
 |some d=>
  rw[hu] at h
  cases d<;>simp only[Option.bind_some,aggD,Option.some.injEq] at h<;>subst h<;>simp[isAgg,run_underlying hu]
theorem getD_drop_take {α:Type} (l:List α) (a n j:Nat) (d:α) (h:j<n):((l.drop a).take n).getD j d=l.getD (a+j) d:=by
 simp[List.getD_eq_getElem?_getD,h]
theorem vindex_ok {t:TypeId} {x i r:V} {l:List Prop} {p q:Value} (h:vindex P t x i=some (r,l)) (hl:AllP l) (hp:Rep w F x p) (hq:Rep w F i q):
  ∃z,Rep w F r z∧ ∀w',(Instr.index t p q).run P w'= .ok z w':=by
 unfold vindex at h
 split at h
 ·rename_i s k n ht
  obtain⟨rfl,rfl⟩:=some_pair h
  obtain rfl:=rep_str hp
  obtain rfl:=rep_val hq
  have h0:(0:Int)≤n:=hl _ (by simp)
  have h1:n<s.length:=hl _ (by simp)
  refine⟨_, .val _,fun w'=> ?_⟩
  have hlt:n.toNat<s.length:=by omega
  have hc:0≤n∧n<((⟨s.toArray⟩:ByteArray).size:Int):=⟨h0,by simpa [ByteArray.size] using h1⟩
  rw[run_index_string w' t _ k n ht,dif_pos hc]
  simp[byteAt,List.getD_eq_getElem?_getD,hlt,ByteArray.getElem_eq_getElem_data]
 ·rename_i n el l0 k q0 ht
  split at h
  ·rename_i hcond
   obtain⟨ha,hc1,hlen⟩:=hcond
   obtain⟨rfl,rfl⟩:=some_pair h
   obtain rfl:=rep_val hq
   obtain⟨cs,u,rfl,hs,hc,hr⟩:=rep_st hp
   have h0:(0:Int)≤q0:=hl _ (by simp)
   have h1:q0<n:=hl (q0<n) (by simp)
   have hlt:q0.toNat<l0.length:=by omega
   refine⟨_,hr _ hlt,fun w'=> ?_⟩
   have hsz:=run_sizeOf' (P:=P) hc1 (by omega) w'
   simp[Instr.index,asIntOf,run_underlying ht,h0,h1,hsz,part,run_isAgg_of ha,(hc _ hlt).1]
  ·exact absurd h (by simp)
 ·exact absurd h (by simp)
theorem vfield_ok {t:TypeId} {f:Nat} {x r:V} {l:List Prop} {p:Value} (h:vfield P t f x=some (r,l)) (hp:Rep w F x p):
  ∃z,Rep w F r z∧ ∀w',(Instr.field t p f).run P w'= .ok z w':=by
 unfold vfield at h
 split at h
 ·rename_i fs l0 ht
  obtain⟨cs,u,rfl,hs,hc,hr⟩:=rep_st hp
  split at h
  ·rename_i fd hf
   split at h
   ·rename_i ha
    split at h
    ·rename_i hsz
     obtain⟨hpos,hle⟩:=hsz
     obtain⟨rfl,rfl⟩:=some_pair h
     have hlen:((l0.drop fd.offset).take (P.cellsOf fd.type)).length=P.cellsOf fd.type:=by simp;omega
     refine⟨.agg (cs.extract fd.offset (fd.offset+P.cellsOf fd.type)), .st _ _ (fun j=>u (fd.offset+j)) ?_ (fun j hj=> ?_) (fun j hj=> ?_),fun w'=> ?_⟩
     ·rw[hlen];simp;omega
     ·rw[hlen] at hj
      have:=hc (fd.offset+j) (by omega)
      refine⟨?_,this.2⟩
      rw[Array.getElem?_extract,if_pos (by omega)];exact this.1
     ·rw[hlen] at hj
      rw[getD_drop_take _ _ _ _ _ hj];exact hr _ (by omega)
     ·simp[Instr.field,run_underlying ht,hf,asAgg,part,run_isAgg_of ha,run_sizeOf' rfl hpos]
    ·exact absurd h (by simp)
   ·rename_i ha
    split at h
    ·rename_i hsz
     obtain⟨_,hle⟩:=hsz
     obtain⟨rfl,rfl⟩:=some_pair h
     exact⟨_,hr _ hle,fun w'=>by simp[Instr.field,run_underlying ht,hf,asAgg,part,run_isAgg_of ha,(hc _ hle).1]⟩
    ·exact absurd h (by simp)
   ·exact absurd h (by simp)
  ·exact absurd h (by simp)
 ·exact absurd h (by simp)
theorem cell_of_block {w w':World} {b:Nat} {cs:Array Value} {ty:TypeId} {fr:Nat×Nat} (h:w.heap[b]?=some (.cells cs ty fr)) (hx: ∀b,b<w.heap.size→w'.heap[b]?=w.heap[b]?) (o:Nat):w'.cell? ⟨b,o,none⟩=cs[o]?:=by
 have hb:b<w.heap.size:=heap_lt h
 have:=(hx b hb).trans h
 simp[World.cell?,this]
theorem row_cell {w w':World} {e:TypeId} {sz n g cap:Nat} {xs:List Value} (h:w.ownsRow 0 e sz (.slice (some ⟨g,0,none⟩) n cap) n xs) (hx: ∀b,b<w.heap.size→w'.heap[b]?=w.heap[b]?) {o:Nat} {y:Value} (ho:xs[o]?=some y):w'.cell? ⟨g,o,none⟩=some y:=by
 rcases h.2 with ⟨h,_⟩|⟨g',cap',cur,e1,_,e2,_,_,_,e3⟩
 ·cases h
 ·injection e1 with e1 _ _
  injection e1 with e1
  injection e1 with e1
  subst e1
  rw[cell_of_block e2 hx]
  rw[←e3] at ho
  have:o<(List.take (n*sz) cur.toList).length:=(List.getElem?_eq_some_iff.1 ho).1
  rw[←Array.getElem?_toList,←ho,List.getElem?_take,if_pos (by simp at this;omega)]
theorem cell0 {w:World} {b:Nat} {cs:Array Value} {ty:TypeId} {fr:Nat×Nat} (h:w.heap[b]?=some (.cells cs ty fr)) (o:Nat):w.cell? ⟨b,o,none⟩=cs[o]?:=by
 simp[World.cell?,h]
theorem vload_ok {h0:List (Nat×Ob)} (hh:HOk w F h0) {rw:Bool} {js:List Nat} {t:TypeId} {x r:V} {l:List Prop} {p:Value} (h:vload P h0 t x=some (r,l)) (hl:AllP l) (hq:ldOk P rw js t x=true) (hp:Rep w F x p):
  ∃z,Rep w F r z∧ ∀w',Kp rw js h0 F w w'→(Instr.loadAt t p).run P w'= .ok z w':=by
 unfold vload at h
 split at h
 ·rename_i s i ht
  split at h
  ·rename_i sz n c he
   split at h
   ·rename_i hsz
    split at h
    ·rename_i l0 hst
     split at h
     ·rename_i hlen
      obtain⟨rfl,rfl⟩:=some_pair h
      obtain⟨sz',n',c',b,off,u,rfl,he',hi,hb,hF,hc,hr⟩:=rep_pe hp
      rw[he] at he'
      obtain⟨rfl,rfl,rfl⟩:sz=sz'∧n=n'∧c=c':=by simpa using he'
      refine⟨.agg ((List.range sz).map (u i)).toArray, .st _ _ (u i) (by simp[hlen]) (fun j hj=>⟨by simp[hlen▸hj],(hc i hi j (hlen▸hj)).2⟩) (fun j hj=> ?_),fun w' hx=> ?_⟩
      ·have:=hr i hi j (hlen▸hj)
       rw[hst] at this;exact this
      have hcell: ∀j,j<sz→w'.cell? ((⟨b,off+(i*sz+0),none⟩:Addr).add j)=some (u i j):=fun j hj=>by
       rw[addr_add,Nat.add_assoc]
       exact(hx.cell _ hb hF).trans (hc i hi j hj).1
      have hld:=run_loadCells (P:=P) (w:=w') _ sz (u i) hcell
      rw[Nat.add_zero] at hld
      simp[Instr.loadAt,Instr.sureAddr,loadVar,run_isAgg_of ht,run_sizeOf' hsz (elems_pos he),hld]
     ·exact absurd h (by simp)
    ·exact absurd h (by simp)
   ·exact absurd h (by simp)
  ·exact absurd h (by simp)
 ·rename_i s i j ht
  split at h
  ·rename_i sz n c he
   split at h
   ·rename_i hj
    obtain⟨rfl,rfl⟩:=some_pair h
    obtain⟨sz',n',c',b,off,u,rfl,he',hi,hb,hF,hc,hr⟩:=rep_pe hp
    rw[he] at he'
    obtain⟨rfl,rfl,rfl⟩:sz=sz'∧n=n'∧c=c':=by simpa using he'
    refine⟨_,hr i hi j hj,fun w' hx=> ?_⟩
    have hcell:=(hx.cell (off+(i*sz+j)) hb hF).trans (hc i hi j hj).1
    simp[Instr.loadAt,Instr.sureAddr,loadVar,run_isAgg_of ht,hcell]
   ·exact absurd h (by simp)
  ·exact absurd h (by simp)
 ·rename_i k ht
  split at h
  ·rename_i ty l0 hk
   split at h
   ·rename_i hlen
    obtain⟨hlen,hpos⟩:=hlen
    obtain⟨rfl,rfl⟩:=some_pair h
    obtain⟨b,hO,rfl⟩:=rep_op hp
    obtain⟨b',cs,u,hO',hb,hcs,hc,hr,_⟩:=hh (.r k) _ hk
    rw[hO] at hO'
    obtain rfl:b=b':=by simpa using hO'
    have hcz:(V.st l0).csize=l0.length:=rfl
    rw[hcz] at hcs hc hr
    refine⟨.agg ((List.range l0.length).map u).toArray, .st _ _ u (by simp) (fun j hj=>⟨by simp[hj],(hc j hj).2⟩) (fun j hj=>hr j hj),fun w' hx=> ?_⟩
    have hcell: ∀j,j<P.cellsOf t→w'.cell? ((⟨b,0,none⟩:Addr).add j)=some (u j):=fun j hj=>by
     rw[addr_add,Nat.zero_add]
     have hj':js.contains j=false:=by
      simp only[ldOk,ht] at hq
      have:=List.all_eq_true.1 hq j (by simpa using hj)
      simpa using this
     exact(hx.bx k ty _ b hk hO j hj').trans ((cell0 hb j).trans (hc j (by omega)).1)
    have hld:=run_loadCells (P:=P) (w:=w') _ (P.cellsOf t) u hcell
    simp[Instr.loadAt,Instr.sureAddr,loadVar,run_isAgg_of ht,run_sizeOf' rfl hpos,hld,hlen]
   ·exact absurd h (by simp)
  ·exact absurd h (by simp)
 ·rename_i k j ht
  split at h
  ·rename_i ty v hk
   split at h
   ·rename_i hj
    obtain⟨rfl,rfl⟩:=some_pair h
    obtain⟨b,hO,rfl⟩:=rep_op hp
    obtain⟨b',cs,u,hO',hb,hcs,hc,hr,_⟩:=hh (.r k) _ hk
    rw[hO] at hO'
    obtain rfl:b=b':=by simpa using hO'
    refine⟨_,hr j hj,fun w' hx=> ?_⟩
    have hj':js.contains j=false:=by
     simp only[ldOk,ht] at hq
     simpa using hq
    have hcell:=(hx.bx k ty _ b hk hO j hj').trans ((cell0 hb j).trans (hc j hj).1)
    simp[Instr.loadAt,Instr.sureAddr,loadVar,run_isAgg_of ht,hcell]
   ·exact absurd h (by simp)
  ·exact absurd h (by simp)
 ·rename_i m sz i ht
  split at h
  ·rename_i l0 ty s hk
   split at h
   ·rename_i sz' n c he
    split at h
    ·rename_i hc3
     obtain⟨rfl,hsz⟩:=hc3
     split at h
     ·rename_i l1 hst
      split at h
      ·rename_i hlen
       obtain⟨rfl,rfl⟩:=some_pair h
       have hi:i<n:=allP_head hl
       obtain⟨A,cap,u,xs,hW,hcap,hA,hown,hc,hr,h1⟩:=row_of hh hk (allP_tail hl) he
       obtain⟨g,n1,cap1,hW1,rfl⟩:=rep_rp hp
       rw[hW] at hW1
       obtain⟨rfl,rfl,rfl⟩:A=some ⟨g,0,none⟩∧n=n1∧cap=cap1:=by simpa using hW1
       refine⟨.agg ((List.range sz).map (u i)).toArray, .st _ _ (u i) (by simp) (fun j hj=> ?_) (fun j hj=> ?_),fun w' hx=> ?_⟩
       ·have hj':j<sz:=by simpa using hj
        exact⟨by simp[hj'],h1 _ (List.mem_of_getElem? (hc i hi j hj'))⟩
       ·have hj':j<sz:=by simpa using hj
        have:=hr i hi j hj'
        rw[hst] at this
        simpa [V.cell,List.getD_eq_getElem?_getD,hj'] using this
       have hcell: ∀j,j<sz→w'.cell? ((⟨g,i*sz+0,none⟩:Addr).add j)=some (u i j):=fun j hj=>by
        rw[addr_add,Nat.add_zero]
        exact row_cell hown (hx.row hq) (hc i hi j hj)
       have hld:=run_loadCells (P:=P) (w:=w') _ sz (u i) hcell
       rw[Nat.add_zero] at hld
       simp[Instr.loadAt,Instr.sureAddr,loadVar,run_isAgg_of ht,run_sizeOf' hsz (elems_pos he),hld]
      ·exact absurd h (by simp)
     ·exact absurd h (by simp)
    ·exact absurd h (by simp)
   ·exact absurd h (by simp)
  ·exact absurd h (by simp)
 ·rename_i m sz i j ht
  split at h
  ·rename_i l0 ty s hk
   split at h
   ·rename_i sz' n c he
    split at h
    ·rename_i hc3
     obtain⟨rfl,hj⟩:=hc3
     obtain⟨rfl,rfl⟩:=some_pair h
     have hi:i<n:=allP_head hl
     obtain⟨A,cap,u,xs,hW,hcap,hA,hown,hc,hr,h1⟩:=row_of hh hk (allP_tail hl) he
     obtain⟨g,n1,cap1,hW1,rfl⟩:=rep_rp hp
     rw[hW] at hW1
     obtain⟨rfl,rfl,rfl⟩:A=some ⟨g,0,none⟩∧n=n1∧cap=cap1:=by simpa using hW1
     refine⟨_,hr i hi j hj,fun w' hx=> ?_⟩
     have hcell:=row_cell hown (hx.row hq) (hc i hi j hj)
     simp[Instr.loadAt,Instr.sureAddr,loadVar,run_isAgg_of ht,hcell]
    ·exact absurd h (by simp)
   ·exact absurd h (by simp)
  ·exact absurd h (by simp)
 ·exact absurd h (by simp)
theorem rep_gd {g:Bool} {v:V} {y:Value} (h:Rep w F (.gd g v) y) (hg:g=true):Rep w F v y:=by
 cases h with
 |gd _ _ _ h _=>exact h hg
 |sl _ _ _ _ _ _ _ _ _ he=>simp[V.elems] at he
theorem vpick_ok {c r:V} {x y:Option V} {l:List Prop} {pc px py:Value} (h:vpick c x y=some (r,l)) (hl:AllP l) (hc:Rep w F c pc) (hx: ∀v,x=some v→Rep w F v px) (hy: ∀v,y=some v→Rep w F v py):
  ∃b,pc= .bool b∧Rep w F r (if b then px else py):=by
 unfold vpick at h
 have key: ∀(b:Bool) (x y:V) (l0:List Prop),vpick1 b x y l0=some (r,l)→(b=true→Rep w F x px)→(b=false→Rep w F y py)→Rep w F r (if b then px else py):=by
  intro b x y l0 h h1 h2
  unfold vpick1 at h
  split at h
  ·rename_i p q hp hq
   obtain⟨rfl,_⟩:=some_pair h
   cases b
   ·rw[rep_vbool hq (h2 rfl)];exact .bb _
   ·rw[rep_vbool hp (h1 rfl)];exact .bb _
  ·rename_i p hp _
   obtain⟨rfl,rfl⟩:=some_pair h
   have hb:b=true:=hl _ (List.mem_cons_self ..)
   subst hb
   rw[rep_vbool hp (h1 rfl)];exact .bb _
  ·rename_i q _ hq
   obtain⟨rfl,rfl⟩:=some_pair h
   have hb:b=false:=hl _ (List.mem_cons_self ..)
   subst hb
   rw[rep_vbool hq (h2 rfl)];exact .bb _
  ·exact absurd h (by simp)
 have key2: ∀(b:Bool) (x y:V) (l0:List Prop),vpick1 b x y l0=some (r,l)→ ∀p,p∈l0→p∈l:=by
  intro b x y l0 h p hp
  unfold vpick1 at h
  split at h
  ·rw[←(some_pair h).2];exact hp
  ·rw[←(some_pair h).2];exact List.mem_cons_of_mem _ hp
  ·rw[←(some_pair h).2];exact List.mem_cons_of_mem _ hp
  ·exact absurd h (by simp)
 split at h
 ·rename_i b g x k y _
  have h1:b=true→g=true:=hl _ (key2 _ _ _ _ h _ (by simp))
  have h2:b=false→k=true:=hl _ (key2 _ _ _ _ h _ (by simp))
  exact⟨b,rep_vbool (by assumption) hc,key b x y _ h (fun e=>rep_gd (hx _ rfl) (h1 e)) (fun e=>rep_gd (hy _ rfl) (h2 e))⟩
 ·rename_i b g x y _ _
  have h1:b=true→g=true:=hl _ (key2 _ _ _ _ h _ (by simp))
  exact⟨b,rep_vbool (by assumption) hc,key b x y _ h (fun e=>rep_gd (hx _ rfl) (h1 e)) (fun _=>hy _ rfl)⟩
 ·rename_i b x k y _ _
  have h2:b=false→k=true:=hl _ (key2 _ _ _ _ h _ (by simp))
  exact⟨b,rep_vbool (by assumption) hc,key b x y _ h (fun _=>hx _ rfl) (fun e=>rep_gd (hy _ rfl) (h2 e))⟩
 ·rename_i b x y _ _ _ _
  exact⟨b,rep_vbool (by assumption) hc,key b x y _ h (fun _=>hx _ rfl) (fun _=>hy _ rfl)⟩
 ·exact absurd h (by simp)
theorem bnd_ok {lo hi:Option V} {n N a b:Nat} {l:List Prop} {plo phi:Option Value} (h:bnd lo hi n N=some (a,b,l)) (hl:AllP l) (hnN:n≤N)
  (h1:lo=none∧plo=none∨ ∃v q,lo=some v∧plo=some q∧Rep w F v q) (h2:hi=none∧phi=none∨ ∃v q,hi=some v∧phi=some q∧Rep w F v q):
  a≤b∧b≤N∧ ∀(isS:Bool) (cap:Nat) (w':World),N≤cap→(Instr.sliceBounds isS n cap plo phi none).run P w'= .ok (a,b,cap) w':=by
 unfold bnd at h
 split at h
 ·rename_i k1 x k2 y
  rcases h1 with ⟨h1,_⟩|⟨v,q,h1,rfl,hv⟩
  ·exact absurd h1 (by simp)
  rcases h2 with ⟨h2,_⟩|⟨v',q',h2,rfl,hv'⟩
  ·exact absurd h2 (by simp)
  simp only[Option.some.injEq] at h1 h2
  subst h1 h2
  obtain rfl:=rep_val hv
  obtain rfl:=rep_val hv'
  obtain⟨rfl,rfl,rfl⟩:x.toNat=a∧y.toNat=b∧_=l:=by simpa using h
  have g0:(0:Int)≤x:=hl _ (by simp)
  have g1:x≤y:=hl _ (by simp)
  have g2:y≤N:=hl _ (by simp)
  refine⟨by omega,by omega,fun isS cap w' hc=> ?_⟩
  have e1:(y.toNat:Int)=y:=Int.toNat_of_nonneg (by omega)
  have e2:y≤(cap:Int):=by omega
  have e3:(0:Int)≤y:=by omega
  simp[Instr.sliceBounds,run_sliceBound_if,g0,g1,e1,e2,e3]
 ·rename_i k2 y
  obtain⟨_,rfl⟩:True∧plo=none:=by rcases h1 with ⟨_,h1⟩|⟨v,q,h1,_⟩<;>simp_all
  rcases h2 with ⟨h2,_⟩|⟨v',q',h2,rfl,hv'⟩
  ·exact absurd h2 (by simp)
  simp only[Option.some.injEq] at h2
  subst h2
  obtain rfl:=rep_val hv'
  obtain⟨rfl,rfl,rfl⟩:0=a∧y.toNat=b∧_=l:=by simpa using h
  have g1:0≤y:=hl _ (by simp)
  have g2:y≤N:=hl _ (by simp)
  refine⟨by omega,by omega,fun isS cap w' hc=> ?_⟩
  have e2:y≤(cap:Int):=by omega
  simp[Instr.sliceBounds,run_sliceBound_if,g1,e2]
 ·rename_i k1 x
  obtain⟨_,rfl⟩:True∧phi=none:=by rcases h2 with ⟨_,h2⟩|⟨v,q,h2,_⟩<;>simp_all
  rcases h1 with ⟨h1,_⟩|⟨v,q,h1,rfl,hv⟩
  ·exact absurd h1 (by simp)
  simp only[Option.some.injEq] at h1
  subst h1
  obtain rfl:=rep_val hv
  obtain⟨rfl,rfl,rfl⟩:x.toNat=a∧n=b∧_=l:=by simpa using h
  have g0:(0:Int)≤x:=hl _ (by simp)
  have g1:x≤n:=hl _ (by simp)
  exact⟨by omega,hnN,fun isS cap w' hc=>by simp[Instr.sliceBounds,run_sliceBound_if,g0,g1]⟩
 ·obtain⟨_,rfl⟩:True∧phi=none:=by rcases h2 with ⟨_,h2⟩|⟨v,q,h2,_⟩<;>simp_all
  obtain⟨_,rfl⟩:True∧plo=none:=by rcases h1 with ⟨_,h1⟩|⟨v,q,h1,_⟩<;>simp_all
  obtain⟨rfl,rfl,_⟩:0=a∧n=b∧[]=l:=by simpa using h
  exact⟨by omega,hnN,fun isS cap w' hc=>by simp[Instr.sliceBounds]⟩
 ·exact absurd h (by simp)
theorem cut_elems {x r:V} {sz n a b:Nat} {c:Nat→V} (h:x.cut a b=some r) (he:x.elems=some (sz,n,c)) (hab:a≤b) (hbn:b≤n):
  ∃c',r.elems=some (sz,b-a,c')∧ ∀i,i<b-a→c' i=c (a+i):=by
 cases x<;>simp only[V.cut,Option.some.injEq,reduceCtorEq] at h<;>subst h<;>simp only[V.elems] at he
 ·obtain⟨rfl,rfl,rfl⟩:1=sz∧_=n∧_=c:=by simpa using he
  refine⟨_,by simp only[V.elems];congr 3;simp;omega,fun i hi=> ?_⟩
  simp[byteAt,List.getD_eq_getElem?_getD,hi]
 ·split at he
  ·cases he
  ·rename_i hsz
   obtain⟨rfl,rfl,rfl⟩:_=sz∧_=n∧_=c:=by simpa using he
   refine⟨_,by simp only[V.elems];rw[if_neg hsz];congr 3;simp;omega,fun i hi=> ?_⟩
   simp[List.getD_eq_getElem?_getD,hi]
theorem cut_rep {x r:V} {sz n a b:Nat} {c:Nat→V} {A:Option Addr} {cap:Nat} (h:x.cut a b=some r) (he:x.elems=some (sz,n,c)) (hab:a≤b) (hbn:b≤n) (hp:Rep w F x (.slice A n cap)):
  Rep w F r (.slice (if cap=a then A else A.map (·.add (a*sz))) (b-a) (cap-a)):=by
 obtain⟨A',cap',g,off,u,e,hcap,hA,hc,hr⟩:=rep_sl he hp
 obtain⟨rfl,rfl⟩:A=A'∧cap=cap':=by simpa using e
 obtain⟨c',he',hc'⟩:=cut_elems h he hab hbn
 refine .sl r sz (b-a) c' _ _ g (off+a*sz) (fun i j=>u (a+i) j) he' (by omega) (fun hn=> ?_) (fun i hi j hj=> ?_) (fun i hi j hj=> ?_)
 ·obtain⟨rfl,h2,h3⟩:=hA (by omega)
  rw[if_neg (by omega)]
  exact⟨by simp[addr_add],h2,h3⟩
 ·have:=hc (a+i) (by omega) j hj
  rw[Nat.add_mul] at this
  rw[show off+a*sz+(i*sz+j)=off+(a*sz+i*sz+j) from by omega]
  exact this
 ·rw[hc' i hi];exact hr (a+i) (by omega) j hj
theorem cut_rep3 {x r:V} {sz n a b m:Nat} {c:Nat→V} {A:Option Addr} {cap:Nat} (h:x.cut a b=some r) (he:x.elems=some (sz,n,c)) (hab:a≤b) (hbn:b≤n) (hm:b≤m) (hp:Rep w F x (.slice A n cap)):
  Rep w F r (.slice (if m=a then A else A.map (·.add (a*sz))) (b-a) (m-a)):=by
 obtain⟨A',cap',g,off,u,e,hcap,hA,hc,hr⟩:=rep_sl he hp
 obtain⟨rfl,rfl⟩:A=A'∧cap=cap':=by simpa using e
 obtain⟨c',he',hc'⟩:=cut_elems h he hab hbn
 refine .sl r sz (b-a) c' _ _ g (off+a*sz) (fun i j=>u (a+i) j) he' (by omega) (fun hn=> ?_) (fun i hi j hj=> ?_) (fun i hi j hj=> ?_)
 ·obtain⟨rfl,h2,h3⟩:=hA (by omega)
  rw[if_neg (by omega)]
  exact⟨by simp[addr_add],h2,h3⟩
 ·have:=hc (a+i) (by omega) j hj
  rw[Nat.add_mul] at this
  rw[show off+a*sz+(i*sz+j)=off+(a*sz+i*sz+j) from by omega]
  exact this
 ·rw[hc' i hi];exact hr (a+i) (by omega) j hj
theorem vslice3_ok {t:TypeId} {x hi mx r:V} {l:List Prop} {p ph pm:Value} (h:vslice3 P t x hi mx=some (r,l)) (hl:AllP l) (hp:Rep w F x p) (h2:Rep w F hi ph) (h3:Rep w F mx pm):
  ∃z,Rep w F r z∧ ∀w',(Instr.sliceAt t p none (some ph) (some pm)).run P w'= .ok z w':=by
 unfold vslice3 at h
 split at h
 ·rename_i el ht
  split at h
  ·rename_i sz n c he
   split at h
   ·rename_i hsz
    split at h
    ·rename_i k1 y k2 z
     split at h
     ·rename_i r' hcut
      obtain⟨rfl,rfl⟩:=some_pair h
      have g0:(0:Int)≤y:=hl _ (by simp)
      have g1:y≤z:=hl _ (by simp)
      have g2:z≤n:=hl _ (by simp)
      obtain rfl:=rep_val h2
      obtain rfl:=rep_val h3
      obtain⟨A,cap,g,off,u,rfl,hcap,hA,hc,hr⟩:=rep_sl he hp
      have e2:(z.toNat:Int)=z:=Int.toNat_of_nonneg (by omega)
      have e3:z≤(cap:Int):=by omega
      have e4:(0:Int)≤z:=by omega
      refine⟨_,cut_rep3 (m:=z.toNat) hcut he (Nat.zero_le _) (by omega) (by omega) hp,fun w'=> ?_⟩
      simp[Instr.sliceAt,Instr.slice,run_underlying ht,Instr.sliceBounds,run_sliceBound_if,g0,g1,e2,e3,e4,run_sizeOf' hsz (elems_pos he)]
     ·exact absurd h (by simp)
    ·exact absurd h (by simp)
   ·exact absurd h (by simp)
  ·exact absurd h (by simp)
 ·exact absurd h (by simp)
theorem vslice_ok {h0:List (Nat×Ob)} (hh:HOk w F h0) {t:TypeId} {x r:V} {lo hi:Option V} {l:List Prop} {p:Value} {plo phi:Option Value} (h:vslice P h0 t x lo hi=some (r,l)) (hl:AllP l) (hp:Rep w F x p)
  (h1:lo=none∧plo=none∨ ∃v q,lo=some v∧plo=some q∧Rep w F v q) (h2:hi=none∧phi=none∨ ∃v q,hi=some v∧phi=some q∧Rep w F v q):
  ∃z,Rep w F r z∧ ∀w',(Instr.sliceAt t p plo phi none).run P w'= .ok z w':=by
 unfold vslice at h
 split at h
 ·rename_i el ht
  have key: ∀(A:Option Addr) (n cap N a b sz:Nat) (l2:List Prop),P.cellsOf el=sz→0<sz→bnd lo hi n N=some (a,b,l2)→AllP l2→n≤N→N≤cap→
    a≤b∧b≤N∧ ∀w',(Instr.sliceAt t (.slice A n cap) plo phi none).run P w'= .ok (.slice (if cap=a then A else A.map (·.add (a*sz))) (b-a) (cap-a)) w':=by
   intro A n cap N a b sz l2 hsz hpos hb hl2 hn hN
   obtain⟨q1,q2,q3⟩:=bnd_ok (P:=P) hb hl2 hn h1 h2
   refine⟨q1,q2,fun w'=> ?_⟩
   simp[Instr.sliceAt,Instr.slice,run_underlying ht,q3 true cap w' hN,run_sizeOf' hsz hpos]
  split at h
  ·rename_i m
   split at h
   ·rename_i l0 ty s hk
    split at h
    ·rename_i sz n c he
     split at h
     ·rename_i hsz
      split at h
      ·rename_i a b l2 hb
       obtain⟨rfl,rfl⟩:=some_pair h
       obtain⟨hl0,hl2⟩:=allP_app hl
       obtain⟨A,cap,u,xs,hW,hcap,hA,_⟩:=row_of hh hk hl0 he
       have:=rep_ro hp
       rw[hW] at this
       obtain rfl:_=p:=by simpa using this
       obtain⟨q1,q2,q3⟩:=key A n cap n a b sz l2 hsz (elems_pos he) hb hl2 (Nat.le_refl _) hcap
       exact⟨_, .vw m sz a (b-a) n cap A _ hW ⟨⟨by omega,hcap,hA⟩,fun hc=>by rw[if_neg (by omega)]⟩,q3⟩
      ·exact absurd h (by simp)
     ·exact absurd h (by simp)
    ·exact absurd h (by simp)
   ·exact absurd h (by simp)
  ·rename_i m sz a0 n
   split at h
   ·rename_i l0 ty s hk
    split at h
    ·rename_i sz' N c he
     split at h
     ·rename_i hsz
      obtain⟨hsz,rfl⟩:=hsz
      split at h
      ·rename_i a b l2 hb
       obtain⟨rfl,rfl⟩:=some_pair h
       obtain⟨hl0,hl2⟩:=allP_app hl
       have hn:a0+n≤N:=allP_head hl2
       obtain⟨A,cap,u,xs,hW,hcap,hA,_⟩:=row_of hh hk hl0 he
       obtain⟨A',N',cap',B,hW',hn',hB,rfl⟩:=rep_vw hp
       rw[hW] at hW'
       obtain⟨rfl,rfl,rfl⟩:A=A'∧N=N'∧cap=cap':=by simpa using hW'
       obtain⟨q1,q2,q3⟩:=key B n (cap-a0) (N-a0) a b sz' l2 hsz (elems_pos he) hb (allP_tail hl2) (by omega) (by omega)
       rw[Nat.sub_sub] at q3
       refine⟨_, .vw m sz' (a0+a) (b-a) N cap A _ hW ⟨⟨by omega,hcap,hA⟩,fun hc=> ?_⟩,q3⟩
       rw[if_neg (by omega),hB (by omega)]
       cases A with
       |none=>rfl
       |some x=>
        by_cases hN:0<N
        ·obtain⟨g,hg⟩:=hA hN
         obtain rfl:x=⟨g,0,none⟩:=by simpa using hg
         simp[addr_add,Nat.add_mul]
        ·obtain rfl:a0=0:=by omega
         obtain rfl:a=0:=by omega
         simp[Addr.add]
      ·exact absurd h (by simp)
     ·exact absurd h (by simp)
    ·exact absurd h (by simp)
   ·exact absurd h (by simp)
  ·split at h
   ·rename_i sz n c he
    split at h
    ·rename_i hsz
     split at h
     ·rename_i a b l2 hb
      split at h
      ·rename_i r' hcut
       obtain⟨rfl,rfl⟩:=some_pair h
       obtain⟨A,cap,g,off,u,rfl,hcap,_⟩:=rep_sl he hp
       obtain⟨q1,q2,q3⟩:=key A n cap n a b sz l2 hsz (elems_pos he) hb hl (Nat.le_refl _) hcap
       exact⟨_,cut_rep hcut he q1 q2 hp,q3⟩
      ·exact absurd h (by simp)
     ·exact absurd h (by simp)
    ·exact absurd h (by simp)
   ·exact absurd h (by simp)
 ·rename_i ht
  split at h
  ·rename_i s
   split at h
   ·rename_i a b l2 hb
    obtain⟨rfl,rfl⟩:=some_pair h
    obtain rfl:=rep_str hp
    obtain⟨q1,q2,q3⟩:=bnd_ok (P:=P) hb hl (Nat.le_refl _) h1 h2
    refine⟨_, .str _,fun w'=> ?_⟩
    have:=q3 false s.length w' (Nat.le_refl _)
    have e:(⟨s.toArray⟩:ByteArray).size=s.length:=by simp[ByteArray.size]
    have e2:(⟨s.toArray⟩:ByteArray).extract a b=⟨((s.drop a).take (b-a)).toArray⟩:=by
     apply ByteArray.ext
     simp[ByteArray.data_extract,List.take_drop]
    simp[Instr.sliceAt,Instr.slice,run_underlying ht,e,this,e2,cutL_eq]
   ·exact absurd h (by simp)
  ·exact absurd h (by simp)
 ·exact absurd h (by simp)
theorem uopt_ok {J:Inv} {e:En} {a:Act} {x:Option Operand} {f:Option V→R} {r:V} {l:List Prop} (he:EnvOk w F e a) (hi:J.I w F.F) (h:uopt J.gl e x f=some (r,l)) (hl:AllP l):
  ∃v l',f v=some (r,l')∧AllP l'∧(v=none∧x.map a.eval=none∨ ∃v' q,v=some v'∧x.map a.eval=some q∧Rep w F v' q):=by
 cases x with
 |none=>exact⟨none,l,h,hl, .inl ⟨rfl,rfl⟩⟩
 |some x=>
  obtain⟨v,l',h1,h2,h3⟩:=u1_ok h hl (fun v hv=>he.ev hi hv)
  exact⟨some v,l',h1,h2, .inr ⟨v,_,rfl,rfl,h3⟩⟩
theorem vconvH_ok {h0:List (Nat×Ob)} (hh:HOk w F h0) {rw:Bool} {js:List Nat} {src dst:TypeId} {x r:V} {l:List Prop} {p:Value} (h:vconvH P h0 src dst x=some (r,l)) (hl:AllP l) (hq:cvOk rw x=true) (hp:Rep w F x p):
  ∃z,Rep w F r z∧ ∀w',Kp rw js h0 F w w'→(convert src dst p).run P w'= .ok z w':=by
 unfold vconvH at h
 split at h
 ·rename_i m
  unfold vconvO at h
  split at h
  ·rename_i e l0 ty b hs hd hk
   split at h
   ·rename_i hE
    obtain⟨rfl,rfl⟩:=some_pair h
    obtain⟨A,cap,u,xs,hW,hcap,hA,hown,hc,hr,_⟩:=row_of hh hk hl (s:= .by b) rfl
    have hp:=rep_ro hp
    rw[hW] at hp
    obtain rfl:_=p:=by simpa using hp
    refine⟨_, .str _,fun w' hx=> ?_⟩
    by_cases hn:b=[]
    ·subst hn
     exact run_bytes_nil A cap hs hE hd w'
    ·have hpos:0<b.length:=List.length_pos_iff.2 hn
     obtain⟨g,rfl⟩:=hA hpos
     refine run_convert_bytes_back w' src dst e ⟨g,0,none⟩ cap b hs hE hd fun i hi=> ?_
     have h1:=row_cell hown (hx.row hq) (hc i hi 0 (by omega))
     have h2:=hr i hi 0 (by omega)
     rw[Nat.mul_one,Nat.add_zero] at h1
     have h3:=rep_val h2
     rw[addr_add,Nat.zero_add,h1,h3]
     simp[byteAt,List.getD_eq_getElem?_getD,hi]
   ·exact absurd h (by simp)
  ·exact absurd h (by simp)
 ·obtain⟨z,hz,hr⟩:=vconv_ok (P:=P) h hp
  exact⟨z,hz,fun w' hk=>hr w' fun b o hb hF=>hk.cell o hb hF⟩
theorem vop_ok {J:Inv} {h0:List (Nat×Ob)} (hh:HOk w F h0) {rw:Bool} {js:List Nat} {o:Oper} {e:En} {a:Act} {r:V} {l:List Prop} (h:vop P J.gl e h0 o.op=some (r,l)) (hl:AllP l) (hq:ldq P J.gl rw js e o.op=true) (he:EnvOk w F e a) (hi:J.I w F.F):
  ∃z,Rep w F r z∧ ∀w',Kp rw js h0 F w w'→(execOp a.eval o).run P w'= .ok (.value z) w':=by
 cases ho:o.op<;>rw[ho] at h hq<;>simp only[vop] at h
 case move x=>
  obtain⟨v,l',h,_,hv⟩:=u1_ok h hl (fun v hv=>he.ev hi hv)
  obtain⟨rfl,rfl⟩:=some_pair h
  exact⟨_,hv,fun w' _=>by simp[execOp,ho]⟩
 case assign x=>
  obtain⟨v,l',h,_,hv⟩:=u1_ok h hl (fun v hv=>he.ev hi hv)
  obtain⟨rfl,rfl⟩:=some_pair h
  exact⟨_,hv,fun w' _=>by simp[execOp,ho]⟩
 case nilCheck x=>
  obtain⟨v,l',h,_,hv⟩:=u1_ok h hl (fun v hv=>he.ev hi hv)
  obtain⟨z,hz,hr⟩:=vnil_ok (P:=P) ho rfl h hv
  exact⟨z,hz,fun w' _=>hr w'⟩
 case pick c x y=>
  obtain⟨v,l',h,hl,hv⟩:=u1_ok h hl (fun v hv=>he.ev hi hv)
  obtain⟨b,hb,hr⟩:=vpick_ok h hl hv (fun v hv=>he.ev hi hv) (fun v hv=>he.ev hi hv)
  exact⟨_,hr,fun w' _=>by simp[execOp,ho,hb,asBool]⟩
 case binOp op t x y yt=>
  obtain⟨v,l',h,hl,hv⟩:=u1_ok h hl (fun v hv=>he.ev hi hv)
  obtain⟨v2,l',h,hl,hv2⟩:=u1_ok h hl (fun v hv=>he.ev hi hv)
  obtain⟨z,hz,hr⟩:=vbinN_ok (P:=P) t x y h hl hv hv2 (fun c hc=>by subst hc;rfl)
  refine⟨z,hz,fun w' _=> ?_⟩
  have:=hr w'
  simp only[execOp,ho]
  rw[Sem.run_bind,this]
  simp
 case makeInterface t x=>
  obtain⟨v,l',h,hl,hv⟩:=u1_ok h hl (fun v hv=>he.ev hi hv)
  obtain⟨z,hz,hr⟩:=vmkI_ok (P:=P) h hv
  exact⟨z,hz,fun w' _=>by simp[execOp,ho,hr w']⟩
 case unOp op t x=>
  obtain⟨v,l',h,hl,hv⟩:=u1_ok h hl (fun v hv=>he.ev hi hv)
  obtain⟨z,hz,hr⟩:=vun_ok (P:=P) h hl hv
  exact⟨z,hz,fun w' _=>by simp[execOp,ho,hr w']⟩
 case convert src dst x=>
  have hq': ∃v l',vconvH P h0 src dst v=some (r,l')∧AllP l'∧Rep w F v (a.eval x)∧cvOk rw v=true:=by
   unfold u1 at h
   split at h
   ·rename_i g v hev
    rw[ldq,hev] at hq
    cases hf:vconvH P h0 src dst v with
    |none=>rw[hf] at h;simp[R.add] at h
    |some q=>
     obtain⟨r',l'⟩:=q
     rw[hf] at h
     simp only[R.add,Option.some.injEq,Prod.mk.injEq] at h
     obtain⟨rfl,rfl⟩:=h
     exact⟨v,l',hf,fun p hp=>hl p (List.mem_cons_of_mem _ hp),rep_gd (he.ev hi hev) (hl _ (List.mem_cons_self ..)),hq⟩
   ·rename_i v hne hev
    refine⟨v,l,h,hl,he.ev hi hev,?_⟩
    rw[ldq,hev] at hq
    cases v<;>first|exact hq|exact absurd rfl (hne _ _)
   ·exact absurd h (by simp)
  obtain⟨v,l',h,hl,hv,hq'⟩:=hq'
  obtain⟨z,hz,hr⟩:=vconvH_ok (P:=P) hh (rw:=rw) (js:=js) h hl hq' hv
  exact⟨z,hz,fun w' hk=>by simp[execOp,ho,hr w' hk]⟩
 case lookup t m k q=>
  cases q with
  |true=>simp at h
  |false=>
   simp only at h
   obtain⟨v,l',h,hl,hv⟩:=u1_ok h hl (fun v hv=>he.ev hi hv)
   obtain⟨v2,l',h,hl,hv2⟩:=u1_ok h hl (fun v hv=>he.ev hi hv)
   unfold vlook at h
   split at h
   ·split at h
    ·rename_i z hz
     obtain⟨rfl,rfl⟩:=some_pair h
     have e1:=rep_val hv
     have e2:=rep_str hv2
     refine⟨_, .val _,fun w' hk=> ?_⟩
     have:=J.lkOk P _ _ _ _ (hl _ (by simp)) hz (J.out hi hk.size hk.ro fun b hb=> .inl hb)
     simp only[execOp,ho,e1,e2]
     simp[this]
    ·exact absurd h (by simp)
   ·exact absurd h (by simp)
 case fieldAddr t x f=>
  obtain⟨v,l',h,hl,hv⟩:=u1_ok h hl (fun v hv=>he.ev hi hv)
  obtain⟨z,hz,hr⟩:=vfieldAddr_ok (P:=P) h hv
  exact⟨z,hz,fun w' _=>by simp[execOp,ho,hr w']⟩
 case field t x f=>
  obtain⟨v,l',h,hl,hv⟩:=u1_ok h hl (fun v hv=>he.ev hi hv)
  obtain⟨z,hz,hr⟩:=vfield_ok (P:=P) h hv
  exact⟨z,hz,fun w' _=>by simp[execOp,ho,hr w']⟩
 case indexAddr t x i=>
  obtain⟨v,l',h,hl,hv⟩:=u1_ok h hl (fun v hv=>he.ev hi hv)
  obtain⟨v2,l',h,hl,hv2⟩:=u1_ok h hl (fun v hv=>he.ev hi hv)
  obtain⟨z,hz,hr⟩:=vindexAddr_ok (P:=P) hh h hl hv hv2
  exact⟨z,hz,fun w' _=>by simp[execOp,ho,hr w']⟩
 case index t x i=>
  obtain⟨v,l',h,hl,hv⟩:=u1_ok h hl (fun v hv=>he.ev hi hv)
  obtain⟨v2,l',h,hl,hv2⟩:=u1_ok h hl (fun v hv=>he.ev hi hv)
  obtain⟨z,hz,hr⟩:=vindex_ok (P:=P) h hl hv hv2
  exact⟨z,hz,fun w' _=>by simp[execOp,ho,hr w']⟩
 case load t x=>
  have hq': ∃v l',vload P h0 t v=some (r,l')∧AllP l'∧Rep w F v (a.eval x)∧ldOk P rw js t v=true:=by
   unfold u1 at h
   split at h
   ·rename_i g v hev
    rw[ldq,hev] at hq
    cases hf:vload P h0 t v with
    |none=>rw[hf] at h;simp[R.add] at h
    |some q=>
     obtain⟨r',l'⟩:=q
     rw[hf] at h
     simp only[R.add,Option.some.injEq,Prod.mk.injEq] at h
     obtain⟨rfl,rfl⟩:=h
     exact⟨v,l',hf,fun p hp=>hl p (List.mem_cons_of_mem _ hp),rep_gd (he.ev hi hev) (hl _ (List.mem_cons_self ..)),hq⟩
   ·rename_i v hne hev
    refine⟨v,l,h,hl,he.ev hi hev,?_⟩
    rw[ldq,hev] at hq
    cases v<;>first|exact hq|exact absurd rfl (hne _ _)
   ·exact absurd h (by simp)
  obtain⟨v,l',h,hl,hv,hq'⟩:=hq'
  obtain⟨z,hz,hr⟩:=vload_ok (P:=P) hh h hl hq' hv
  exact⟨z,hz,fun w' hx=>by simp[execOp,ho,hr w' hx]⟩
 case slice t x lo hi' mx=>
  cases mx with
  |some m=>
   cases lo with
   |some _=>exact absurd h (by simp)
   |none=>cases hi' with
    |none=>exact absurd h (by simp)
    |some hi2=>
     simp only at h
     obtain⟨v,l',h,hl,hv⟩:=u1_ok h hl (fun v hv=>he.ev hi hv)
     obtain⟨v2,l',h,hl,hv2⟩:=u1_ok h hl (fun v hv=>he.ev hi hv)
     obtain⟨v3,l',h,hl,hv3⟩:=u1_ok h hl (fun v hv=>he.ev hi hv)
     obtain⟨z,hz,hr⟩:=vslice3_ok (P:=P) h hl hv hv2 hv3
     exact⟨z,hz,fun w' _=>by simp[execOp,ho,hr w']⟩
  |none=>
   simp only at h
   obtain⟨v,l',h,hl,hv⟩:=u1_ok h hl (fun v hv=>he.ev hi hv)
   obtain⟨v2,l',h,hl,hv2⟩:=uopt_ok he hi h hl
   obtain⟨v3,l',h,hl,hv3⟩:=uopt_ok he hi h hl
   obtain⟨z,hz,hr⟩:=vslice_ok (P:=P) hh h hl hv hv2 hv3
   exact⟨z,hz,fun w' _=>by simp[execOp,ho,hr w']⟩
 case extract x k=>
  obtain⟨v,l',h,hl,hv⟩:=u1_ok h hl (fun v hv=>he.ev hi hv)
  obtain⟨z,hz,hr⟩:=vextract_ok (P:=P) h hv
  exact⟨z,hz,fun w' _=>by simp[execOp,ho,hr w']⟩
 case call c=>
  split at h
  ·rename_i hcal
   split at h
   ·rename_i x hargs
    split at h
    ·rename_i t htys
     obtain⟨v,l',h,hl,hv⟩:=u1_ok h hl (fun v hv=>he.ev hi hv)
     obtain⟨z,hz,hr⟩:=vlen_ok (P:=P) hh (ty:=o.type) h hl hv
     refine⟨z,hz,fun w' _=> ?_⟩
     have ha:c.args= #[x]:=by simpa using congrArg List.toArray hargs
     have ht:c.argTypes= #[t]:=by simpa using congrArg List.toArray htys
     simp[execOp,ho,resolve,hcal,ha,ht,invoke,builtin,hr w']
    ·exact absurd h (by simp)
   ·exact absurd h (by simp)
  ·rename_i hcal
   split at h
   ·rename_i x y hargs
    obtain⟨v,l',h,hl,hv⟩:=u1_ok h hl (fun v hv=>he.ev hi hv)
    obtain⟨v2,l',h,hl,hv2⟩:=u1_ok h hl (fun v hv=>he.ev hi hv)
    have ha:c.args= #[x,y]:=by simpa using congrArg List.toArray hargs
    unfold vmin at h
    split at h
    ·rename_i k n k' m _
     split at h
     ·rename_i hk
      subst hk
      obtain⟨rfl,rfl⟩:=some_pair h
      refine⟨_, .val _,fun w' _=> ?_⟩
      have h1:=rep_val hv
      have h2:=rep_val hv2
      have hr:(Builtin.min_ c.argTypes o.type #[a.eval x,a.eval y]).run P w'= .ok (.int k' (if m<n then m else n)) w':=by
       rw[h1,h2];simp[Builtin.min_,Builtin.min2]
      simp[execOp,ho,resolve,hcal,ha,invoke,builtin,hr,imin]
     ·exact absurd h (by simp)
    ·exact absurd h (by simp)
   ·exact absurd h (by simp)
  ·rename_i hcal
   split at h
   ·rename_i x y hargs
    obtain⟨v,l',h,hl,hv⟩:=u1_ok h hl (fun v hv=>he.ev hi hv)
    obtain⟨v2,l',h,hl,hv2⟩:=u1_ok h hl (fun v hv=>he.ev hi hv)
    have ha:c.args= #[x,y]:=by simpa using congrArg List.toArray hargs
    unfold vmax at h
    split at h
    ·rename_i k n k' m _
     split at h
     ·rename_i hk
      subst hk
      obtain⟨rfl,rfl⟩:=some_pair h
      refine⟨_, .val _,fun w' _=> ?_⟩
      have h1:=rep_val hv
      have h2:=rep_val hv2
      have hr:(Builtin.max_ c.argTypes o.type #[a.eval x,a.eval y]).run P w'= .ok (.int k' (if m>n then m else n)) w':=by
       rw[h1,h2];simp[Builtin.max_,Builtin.max2]
      simp[execOp,ho,resolve,hcal,ha,invoke,builtin,hr,imax]
     ·exact absurd h (by simp)
    ·exact absurd h (by simp)
   ·exact absurd h (by simp)
  ·exact absurd h (by simp)
 all_goals exact absurd h (by simp)
end
end Go.Proofs.YtfengpdaocgcnaaGreatDoor
