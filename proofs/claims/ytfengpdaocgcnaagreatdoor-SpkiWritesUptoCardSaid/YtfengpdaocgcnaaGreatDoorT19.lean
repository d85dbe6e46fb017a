/- Comparing and adding word by word. Plain Lean. The program's numbers: order, sums. The library's Sub32 and Div32; take. -/
import Derived.Test.YtfengpdaocgcnaaGreatDoorT18
namespace Go.Proofs.YtfengpdaocgcnaaGreatDoor
def cmp3 (x y:Nat):Int:=if x<y then-1 else if y<x then 1 else 0
theorem cmp3_lt {x y:Nat} (h:x<y):cmp3 x y= -1:=if_pos h
theorem cmp3_gt {x y:Nat} (h:y<x):cmp3 x y=1:=by unfold cmp3;rw[if_neg (by omega),if_pos h]
theorem cmp3_eq (x:Nat):cmp3 x x=0:=by unfold cmp3;rw[if_neg (by omega),if_neg (by omega)]
theorem dg_lt {m n:Nat} (h:(dg m).length<(dg n).length):m<n:=by
 have h0:n≠0:=fun h0=>by rw[h0,dg_zero] at h;simp at h
 have h1:=dg_hi m
 have h2:=dg_lo h0
 have h3:=Nat.pow_le_pow_right (n:=4294967296) (by omega) (Nat.le_sub_one_of_lt h)
 omega
theorem vl_take_lt {l:List Nat} (h:W32 l) (k:Nat):vl (l.take k)<4294967296^k:=by
 refine Nat.lt_of_lt_of_le (vl_lt (h.take k)) (Nat.pow_le_pow_right (by omega) ?_)
 rw[List.length_take];omega
theorem word_lt {a b:List Nat} (ha:W32 a) {k:Nat} (h:a.getD k 0<b.getD k 0):vl (a.take (k+1))<vl (b.take (k+1)):=by
 have h1:=vl_take_lt ha k
 rw[vl_take_succ,vl_take_succ]
 have h2:=Nat.mul_le_mul_left (4294967296^k) h
 rw[Nat.mul_succ] at h2
 omega
theorem word_eq {a b:List Nat} {k:Nat} (h:a.getD k 0=b.getD k 0):cmp3 (vl (a.take (k+1))) (vl (b.take (k+1)))=cmp3 (vl (a.take k)) (vl (b.take k)):=by
 rw[vl_take_succ,vl_take_succ,h]
 unfold cmp3
 congr 1
 ·simp
 ·congr 1;simp
structure AddI (x y o:List Nat) (i c:Nat):Prop where
 len:o.length=i
 w:W32 o
 c1:c≤1
 eq:vl o+4294967296^i*c=vl (x.take i)+vl (y.take i)
theorem AddI.zero (x y:List Nat):AddI x y [] 0 0:=⟨rfl,W32.nil,by omega,rfl⟩
theorem AddI.step {x y o:List Nat} {i c:Nat} (h:AddI x y o i c) (hx:W32 x) (hy:W32 y):AddI x y (o++[(c+x.getD i 0+y.getD i 0)%4294967296]) (i+1) ((c+x.getD i 0+y.getD i 0)/4294967296):=by
 have h1:=hx.get i
 have h2:=hy.get i
 have h3:=h.c1
 refine⟨by rw[List.length_append,h.len];rfl,h.w.app (W32.one (by omega)),by omega,?_⟩
 rw[vl_snoc,h.len,vl_take_succ,vl_take_succ,Nat.pow_succ,Nat.add_assoc,carry_step]
 have h4:=h.eq
 grind
theorem AddI.fin {x y o:List Nat} {c:Nat} (h:AddI x y o x.length c) (hy:y.length≤x.length):vl (o++[c])=vl x+vl y:=by
 rw[vl_snoc,h.len,h.eq,List.take_length,List.take_of_length_le hy]
def fw:Nat→Nat→List Nat
 |0,_=>[]
 |n+1,v=>v%4294967296::fw n (v/4294967296)
theorem fw_len: ∀n v,(fw n v).length=n
 |0,_=>rfl
 |n+1,v=>by rw[fw,List.length_cons,fw_len n]
theorem fw_w: ∀n v,W32 (fw n v)
 |0,_=>W32.nil
 |n+1,v=>fun x hx=>by
  rcases List.mem_cons.1 hx with rfl|hx
  ·exact Nat.mod_lt _ (by omega)
  ·exact fw_w n _ x hx
theorem fw_vl: ∀n v,vl (fw n v)=v%4294967296^n
 |0,v=>by rw[fw,Nat.pow_zero,Nat.mod_one];rfl
 |n+1,v=>by rw[fw,vl,fw_vl n,Nat.pow_succ,Nat.mul_comm (4294967296^n),Nat.mod_mul]
theorem fw_of: ∀{o:List Nat} (v:Nat),W32 o→vl o=v%4294967296^o.length→o=fw o.length v
 |[],v,_,_=>rfl
 |x::r,v,h,e=>by
  rw[vl,List.length_cons,Nat.pow_succ,Nat.mul_comm (4294967296^r.length),Nat.mod_mul] at e
  have hx:=h.head
  have hm:v%4294967296<4294967296:=Nat.mod_lt _ (by omega)
  have e1:x=v%4294967296:=by omega
  have e2:vl r=v/4294967296%4294967296^r.length:=by omega
  rw[List.length_cons,fw,←e1,←fw_of (v/4294967296) h.tail e2]
theorem vl_inj {o p:List Nat} (ho:W32 o) (hp:W32 p) (hl:o.length=p.length) (h:vl o=vl p):o=p:=by
 have h1:=fw_of (o:=o) (vl o) ho (Nat.mod_eq_of_lt (vl_lt ho)).symm
 have h2:=fw_of (o:=p) (vl p) hp (Nat.mod_eq_of_lt (vl_lt hp)).symm
 rw[h1,h2,hl,h]
def brw (u t:Nat):Nat:=if u<t then 1 else 0
theorem brw_le (u t:Nat):brw u t≤1:=by unfold brw;split<;>omega
structure SubI (x y o:List Nat) (i b:Nat):Prop where
 len:o.length=i
 w:W32 o
 b1:b≤1
 eq:vl o+vl (y.take i)=vl (x.take i)+4294967296^i*b-0
theorem SubI.zero (x y:List Nat):SubI x y [] 0 0:=⟨rfl,W32.nil,by omega,rfl⟩
theorem SubI.step {x y o:List Nat} {i b:Nat} (h:SubI x y o i b) (hx:W32 x) (hy:W32 y):SubI x y (o++[(x.getD i 0+8589934592-y.getD i 0-b)%4294967296]) (i+1) (brw (x.getD i 0) (y.getD i 0+b)):=by
 unfold brw
 have h1:=hx.get i
 have h2:=hy.get i
 have h3:=h.b1
 have h4:=h.eq
 refine⟨by rw[List.length_append,h.len];rfl,h.w.app (W32.one (Nat.mod_lt _ (by omega))),by split<;>omega,?_⟩
 rw[vl_snoc,h.len,vl_take_succ,vl_take_succ,Nat.pow_succ]
 generalize x.getD i 0=u at *
 generalize y.getD i 0=v at *
 obtain⟨d,hd,hs⟩: ∃d,(u+8589934592-v-b)%4294967296=d∧d+v+b=u+4294967296*(if u<v+b then 1 else 0):=⟨_,rfl,by split<;>omega⟩
 rw[hd]
 generalize (if u<v+b then 1 else 0)=c at *
 have h5:4294967296^i*(d+v+b)=4294967296^i*(u+4294967296*c):=by rw[hs]
 grind
theorem SubI.fin {x y o:List Nat} {b:Nat} (h:SubI x y o x.length b) (hx:W32 x) (hy:W32 y) (hl:y.length≤x.length):o=fw x.length (vl x+4294967296^x.length-vl y)∧b=brw (vl x) (vl y):=by
 unfold brw
 have h1:=h.eq
 have h2:=h.b1
 have h3:=vl_lt h.w
 rw[List.take_length,List.take_of_length_le hl] at h1
 have h4:=vl_lt hx
 have h5:vl y<4294967296^x.length:=Nat.lt_of_lt_of_le (vl_lt hy) (Nat.pow_le_pow_right (by omega) hl)
 rw[h.len] at h3
 have hb:b=if vl x<vl y then 1 else 0:=by
  rcases(show b=0∨b=1 by omega) with rfl|rfl
  ·rw[Nat.mul_zero] at h1;rw[if_neg (by omega)]
  ·rw[Nat.mul_one] at h1;rw[if_pos (by omega)]
 refine⟨?_,hb⟩
 have e:vl o=(vl x+4294967296^x.length-vl y)%4294967296^o.length:=by
  rw[h.len]
  rcases(show b=0∨b=1 by omega) with h0|h0
  ·rw[h0,Nat.mul_zero] at h1
   rw[show vl x+4294967296^x.length-vl y=vl o+4294967296^x.length by omega,Nat.add_mod_right,Nat.mod_eq_of_lt h3]
  ·rw[h0,Nat.mul_one] at h1
   rw[show vl x+4294967296^x.length-vl y=vl o by omega,Nat.mod_eq_of_lt h3]
 have:=fw_of _ h.w e
 rwa [h.len] at this
def seg (l:List Nat) (a n:Nat):List Nat:=(l.drop a).take n
def putS (l:List Nat) (a:Nat) (o:List Nat):List Nat:=l.take a++o++l.drop (a+o.length)
theorem seg_len {l:List Nat} {a n:Nat} (h:a+n≤l.length):(seg l a n).length=n:=by unfold seg;rw[List.length_take,List.length_drop];omega
theorem seg_w {l:List Nat} (h:W32 l) (a n:Nat):W32 (seg l a n):=(h.drop a).take n
theorem seg_get {l:List Nat} {a n i:Nat} (h:i<n):(seg l a n).getD i 0=l.getD (a+i) 0:=by
 unfold seg;simp[List.getD_eq_getElem?_getD,h]
theorem putS_len {l o:List Nat} {a:Nat} (h:a+o.length≤l.length):(putS l a o).length=l.length:=by
 unfold putS;simp only[List.length_append,List.length_take,List.length_drop];omega
theorem putS_w {l o:List Nat} (hl:W32 l) (ho:W32 o) (a:Nat):W32 (putS l a o):=((hl.take a).app ho).app (hl.drop _)
theorem putS_nil (l:List Nat) (a:Nat):putS l a []=l:=by unfold putS;simp
theorem putS_get {l o:List Nat} {a i:Nat} (h:a≤l.length) (hi:o.length≤i):(putS l a o).getD (a+i) 0=l.getD (a+i) 0:=by
 unfold putS
 rw[List.getD_eq_getElem?_getD,List.getElem?_append_right (by rw[List.length_append,List.length_take];omega),List.getElem?_drop,List.getD_eq_getElem?_getD]
 congr 2
 rw[List.length_append,List.length_take];omega
theorem putS_set {l o:List Nat} {a:Nat} (h:a+o.length<l.length) (x:Nat):(putS l a o).set (a+o.length) x=putS l a (o++[x]):=by
 unfold putS
 have e:(l.take a++o).length=a+o.length:=by rw[List.length_append,List.length_take];omega
 rw[List.set_append_right _ _ (by omega),e,Nat.sub_self,List.drop_eq_getElem_cons h,List.set_cons_zero,List.length_append,List.length_singleton]
 simp[Nat.add_assoc]
def taken (l:List Nat) (a n:Nat) (y:List Nat):List Nat:=putS l a (fw n (vl (seg l a n)+4294967296^n-vl y))
theorem vl_set: ∀(l:List Nat) (k x:Nat),k<l.length→vl (l.set k x)+4294967296^k*l.getD k 0=vl l+4294967296^k*x
 |[],k,x,h=>by simp at h
 |y::r,0,x,_=>by simp only[List.set_cons_zero,vl,List.getD_cons_zero,Nat.pow_zero,Nat.one_mul];omega
 |y::r,k+1,x,h=>by
  have ih:=vl_set r k x (by simpa using h)
  simp only[List.set_cons_succ,vl,List.getD_cons_succ,Nat.pow_succ]
  grind
structure MulI (x y L:List Nat) (i j c:Nat):Prop where
 len:L.length=x.length+y.length
 w:W32 L
 c1:c<4294967296
 up: ∀k,i+y.length≤k→L.getD k 0=0
 eq:vl L+4294967296^(i+j)*c=vl (x.take i)*vl y+4294967296^i*(x.getD i 0*vl (y.take j))
theorem getD_set {l:List Nat} {k m x:Nat}:(l.set k x).getD m 0=if k=m∧k<l.length then x else l.getD m 0:=by
 simp only[List.getD_eq_getElem?_getD,List.getElem?_set]
 by_cases h:k=m
 ·subst h
  by_cases h2:k<l.length
  ·simp[h2]
  ·simp[h2]
 ·simp[h]
theorem mul_bound {c a b d:Nat} (hc:c<4294967296) (ha:a<4294967296) (hb:b<4294967296) (hd:d<4294967296):c+a*b+d<18446744073709551616:=by
 have:=Nat.mul_le_mul (show a≤4294967295 by omega) (show b≤4294967295 by omega)
 omega
theorem MulI.zero (x y:List Nat):MulI x y (List.replicate (x.length+y.length) 0) 0 0 0:=
 ⟨by simp,W32.zeros _,by omega,fun k _=>by rw[List.getD_eq_getElem?_getD,List.getElem?_replicate];split<;>rfl,by rw[vl_zeros];simp[vl]⟩
theorem mul_arith {A Q k V m d B c T P u Y Bj v:Nat} (h1:A+Q*k=V+Q*m) (h2:V+Q*c=T+P*(u*Y)) (h3:Q*m+Q*B*d=Q*(c+(u*v+k))) (h4:Q=P*Bj):A+Q*B*d=T+P*(u*(Y+Bj*v)):=by
 have e:Q*(c+(u*v+k))=Q*c+(Q*(u*v)+Q*k):=by rw[Nat.mul_add,Nat.mul_add]
 have e2:P*(u*(Y+Bj*v))=P*(u*Y)+Q*(u*v):=by
  rw[h4,Nat.mul_add,Nat.mul_add,Nat.mul_left_comm u Bj v,Nat.mul_assoc P Bj (u*v)]
 omega
theorem MulI.step {x y L:List Nat} {i j c:Nat} (h:MulI x y L i j c) (hx:W32 x) (hy:W32 y) (hi:i<x.length) (hj:j<y.length):
  MulI x y (L.set (i+j) ((c+(x.getD i 0*y.getD j 0+L.getD (i+j) 0))%4294967296)) i (j+1) ((c+(x.getD i 0*y.getD j 0+L.getD (i+j) 0))/4294967296):=by
 have hb:=mul_bound h.c1 (hx.get i) (hy.get j) (h.w.get (i+j))
 refine⟨by rw[List.length_set,h.len],h.w.set (Nat.mod_lt _ (by omega)),by omega,fun k hk=> ?_,?_⟩
 ·rw[getD_set,if_neg (by omega)];exact h.up k hk
 ·have h1:=vl_set L (i+j) ((c+(x.getD i 0*y.getD j 0+L.getD (i+j) 0))%4294967296) (by rw[h.len];omega)
  have h2:=h.eq
  have h3:=carry_step (4294967296^(i+j)) (c+(x.getD i 0*y.getD j 0+L.getD (i+j) 0))
  rw[vl_take_succ,←Nat.add_assoc i,Nat.pow_succ]
  exact mul_arith h1 h2 h3 (Nat.pow_add ..)
theorem MulI.next {x y L:List Nat} {i c:Nat} (h:MulI x y L i y.length c) (hi:i<x.length):MulI x y (L.set (i+y.length) c) (i+1) 0 0:=by
 refine⟨by rw[List.length_set,h.len],h.w.set h.c1,by omega,fun k hk=> ?_,?_⟩
 ·rw[getD_set,if_neg (by omega)];exact h.up k (by omega)
 ·have h1:=vl_set L (i+y.length) c (by rw[h.len];omega)
  have h2:=h.eq
  rw[h.up _ (Nat.le_refl _)] at h1
  rw[List.take_length] at h2
  rw[Nat.mul_zero,Nat.add_zero] at h1
  rw[List.take_zero,show vl []=0 from rfl,Nat.mul_zero,Nat.mul_zero,Nat.mul_zero,Nat.add_zero,Nat.add_zero,vl_take_succ,Nat.add_mul,Nat.mul_assoc,←h2]
  exact h1
theorem MulI.fin {x y L:List Nat} (h:MulI x y L x.length 0 0):vl L=vl x*vl y:=by
 have:=h.eq
 rw[List.take_length] at this
 simpa [vl] using this
theorem fw_succ: ∀n v,fw (n+1) v=fw n v++[v/4294967296^n%4294967296]
 |0,v=>by rw[fw,fw,fw,Nat.pow_zero,Nat.div_one];rfl
 |n+1,v=>by
  rw[fw,fw_succ n,fw,List.cons_append,Nat.div_div_eq_div_mul,Nat.pow_succ,Nat.mul_comm 4294967296]
theorem down_word {l:List Nat} (h:W32 l) (i s:Nat) (hs:s≤32):(l.getD i 0+4294967296*l.getD (i+1) 0)/2^s%4294967296=vl l/2^s/4294967296^i%4294967296:=by
 have e1: ∀j,vl (l.drop j)=l.getD j 0+4294967296*vl (l.drop (j+1)):=fun j=>by
  rcases Nat.lt_or_ge j l.length with h1|h1
  ·rw[List.drop_eq_getElem_cons h1,vl,getD_lt h1]
  ·rw[List.drop_eq_nil_of_le h1,List.drop_eq_nil_of_le (by omega),getD_ge h1];rfl
 rw[Nat.div_div_eq_div_mul,Nat.mul_comm (2^s),←Nat.div_div_eq_div_mul,vl_div h,e1 i,e1 (i+1)]
 obtain⟨t,ht⟩: ∃t,s+t=32:=⟨32-s,by omega⟩
 have e2:(4294967296:Nat)=2^s*2^t:=by rw[←Nat.pow_add,ht]
 generalize vl (l.drop (i+1+1))=r
 generalize l.getD i 0=u
 generalize l.getD (i+1) 0=v
 have e3:u+4294967296*(v+4294967296*r)=(u+4294967296*v)+2^s*(4294967296*(2^t*r)):=by
  rw[Nat.mul_add,←Nat.add_assoc]
  congr 1
  calc 4294967296*(4294967296*r)=4294967296*((2^s*2^t)*r):=by rw[←e2]
   _=2^s*(4294967296*(2^t*r)):=by rw[Nat.mul_assoc (2^s),Nat.mul_left_comm]
 rw[e3,Nat.add_mul_div_left _ _ (Nat.pow_pos (by omega)),Nat.add_mul_mod_self_left]
theorem fw_get: ∀n v k,k<n→(fw n v).getD k 0=v/4294967296^k%4294967296
 |n+1,v,0,_=>by rw[fw,List.getD_cons_zero,Nat.pow_zero,Nat.div_one]
 |n+1,v,k+1,h=>by
  rw[fw,List.getD_cons_succ,fw_get n _ k (by omega),Nat.div_div_eq_div_mul,Nat.pow_succ,Nat.mul_comm 4294967296]
theorem fw_zero: ∀n,fw n 0=List.replicate n 0
 |0=>rfl
 |n+1=>by rw[fw,Nat.zero_mod,Nat.zero_div,fw_zero n,List.replicate_succ]
theorem B_256 (q:Nat):4294967296^q=256^(4*q):=by rw[Nat.pow_mul]
theorem bytes_word (N q r:Nat) (hr:r<4):N*256^(4*q+r+1)/4294967296^q%4294967296=2^(8*(r+1))*(N%256^(3-r)):=by
 rw[B_256,Nat.add_assoc,Nat.pow_add,Nat.mul_left_comm,Nat.mul_div_cancel_left _ (Nat.pow_pos (by omega))]
 rcases(show r=0∨r=1∨r=2∨r=3 by omega) with rfl|rfl|rfl|rfl
 ·show N*256%4294967296=256*(N%16777216)
  omega
 ·show N*65536%4294967296=65536*(N%65536)
  omega
 ·show N*16777216%4294967296=16777216*(N%256)
  omega
 ·show N*4294967296%4294967296=4294967296*(N%1)
  omega
theorem byte_put {n N at' c:Nat} (hc:c<256) (hV:(256*N+c)*256^at'<4294967296^n) (hat:at'/4<n):
  (fw n (N*256^(at'+1))).set (at'/4) ((fw n (N*256^(at'+1))).getD (at'/4) 0|||c*2^(8*(at'%4)))=fw n ((256*N+c)*256^at'):=by
 obtain⟨q,r,hr,hq⟩: ∃q r,r<4∧at'=4*q+r:=⟨at'/4,at'%4,Nat.mod_lt _ (by omega),by omega⟩
 have e1:at'/4=q:=by omega
 have e2:at'%4=r:=by omega
 rw[e1,e2]
 rw[e1] at hat
 have hw:(fw n (N*256^(at'+1))).getD q 0=2^(8*(r+1))*(N%256^(3-r)):=by rw[fw_get _ _ _ hat,hq,bytes_word N q r hr]
 have hp:(2:Nat)^(8*(r+1))=256*2^(8*r):=by rw[Nat.mul_add,Nat.pow_add,Nat.mul_comm]
 have hcp:c*2^(8*r)<2^(8*(r+1)):=by rw[hp];exact(Nat.mul_lt_mul_right (Nat.pow_pos (by omega))).2 hc
 have hwl:(fw n (N*256^(at'+1))).getD q 0<4294967296:=(fw_w _ _).get q
 have hc32:c*2^(8*r)<2^32:=Nat.lt_of_lt_of_le hcp (Nat.pow_le_pow_right (by omega) (by omega))
 have hor:(fw n (N*256^(at'+1))).getD q 0|||c*2^(8*r)=(fw n (N*256^(at'+1))).getD q 0+c*2^(8*r):=by
  rw[hw,Nat.or_comm,or_add hcp,Nat.add_comm]
 have hlt:(fw n (N*256^(at'+1))).getD q 0|||c*2^(8*r)<2^32:=Nat.or_lt_two_pow (by omega) hc32
 have hE:(256*N+c)*256^at'=N*256^(at'+1)+c*256^at':=by rw[Nat.add_mul,Nat.pow_succ,Nat.mul_assoc,Nat.mul_left_comm,Nat.mul_comm 256]
 have hs:=vl_set (fw n (N*256^(at'+1))) q ((fw n (N*256^(at'+1))).getD q 0+c*2^(8*r)) (by rw[fw_len];exact hat)
 have hq2:4294967296^q*(c*2^(8*r))=c*256^at':=by
  rw[B_256,hq,Nat.pow_add,Nat.mul_left_comm,show(256:Nat)^r=2^(8*r) by rw[Nat.pow_mul]]
 rw[hor] at hlt⊢
 refine vl_inj ((fw_w _ _).set (by omega)) (fw_w _ _) (by rw[List.length_set,fw_len,fw_len]) ?_
 rw[Nat.mul_add,hq2,fw_vl,Nat.mod_eq_of_lt (by omega)] at hs
 rw[fw_vl,Nat.mod_eq_of_lt hV,hE]
 omega
open Nat (reduceMul reduceLeDiff reduceEqDiff reduceLT reduceAdd reduceSub reduceDiv)
open Int (reduceToNat reducePow)
open Go.RowKit
set_option linter.unusedSimpArgs false
set_option maxRecDepth 100000
theorem cmp_fn (J:Inv) (a b:List Nat) (ha:a.length≤1073741824) (hb:b.length≤1073741824) (wa:W32 a) (wb:W32 b):Fn Tryz.prog J 99 false [wV a,wV b] (.i (cmp3 (vl a) (vl b))):=by
 refine fnI Tryz.func99 rfl (by kernel_rfl) rfl (SGa_ok J) ?_
 unfold Tryz.f99
 simp only[↓bE,bR,reduceEqDiff,reduceAdd,↓reduceIte,reduceCtorEq,SGa,SGaf,wV,unW_wds]
 have la:=trim_len a
 have lb:=trim_len b
 rw[trim_dg wa] at la
 rw[trim_dg wb] at lb
 generalize vl a=m at *
 generalize vl b=n at *
 have wx:=W32_dg m
 have wy:=W32_dg n
 refine⟨ha,wa,hb,wb,fun h=> ?_,fun h=>⟨fun h2=> ?_,fun h2=> ?_⟩⟩
 ·rw[cmp3_lt (dg_lt (by simpa using h))]
 ·rw[cmp3_gt (dg_lt (by simpa using h2))]
 have hl:(dg m).length=(dg n).length:=by simp at h h2;omega
 refine⟨by constructor<;>omega,?_⟩
 rw[←vl_dg m,←vl_dg n,vl_dg,vl_dg]
 refine LoopC.intro (α:=Nat) (fun k=>k≤(dg m).length∧cmp3 m n=cmp3 (vl ((dg m).take k)) (vl ((dg n).take k))) (fun k=>⟨[(5,wV (dg m)),(6,wV (dg n)),(7, .i ((k:Int)-1))],[],0⟩) (fun k=>k) (dg m).length ⟨Nat.le_refl _,by rw[List.take_length,hl,List.take_length,vl_dg,vl_dg]⟩ ?_ ?_
 ·simp only[bR,reduceLeDiff,reduceEqDiff,↓reduceIte,wV]
 ·rintro k ⟨h3,h4⟩
  simp only[bR,reduceEqDiff,reduceLT,↓reduceIte,reduceCtorEq,wV]
  refine⟨fun h5=> ?_,fun h5=> ?_⟩
  ·obtain⟨k,rfl⟩: ∃j,k=j+1:=⟨k-1,by simp at h5;omega⟩
   rw[show(((k+1:Nat):Int)-1).toNat=k by omega]
   refine⟨by omega,by omega,by omega,by omega,fun h6=> ?_,fun h6=>⟨by omega,by omega,by omega,by omega,fun h7=> ?_,fun h7=>⟨by constructor<;>omega,Again.intro k ⟨by omega,?_⟩ (by omega) ?_⟩⟩⟩
   ·rw[h4,cmp3_lt (word_lt wx (by simpa using h6))]
   ·rw[h4,cmp3_gt (word_lt wy (by simpa using h7))]
   ·rw[h4,word_eq (by simp only[decide_eq_false_iff_not] at h6 h7;omega)]
   ·simp only[bR,reduceLeDiff,reduceEqDiff,↓reduceIte]
    omega
  ·obtain rfl:k=0:=by simp at h5;omega
   rw[h4]
   rfl
theorem add_fn (J:Inv) (a b:List Nat) (ha:a.length≤67108864) (hb:b.length≤67108864) (wa:W32 a) (wb:W32 b):Fn Tryz.prog J 163 false [wV a,wV b] (wV (dg (vl a+vl b))):=by
 refine fnI Tryz.func163 rfl (by kernel_rfl) (wV_cl _) (SGa_ok J) ?_
 unfold Tryz.f163
 simp only[↓bE,bR,reduceEqDiff,reduceAdd,↓reduceIte,reduceCtorEq,SGa,SGaf,sdf,wV,unW_wds]
 have la:=trim_len a
 have lb:=trim_len b
 rw[trim_dg wa] at la
 rw[trim_dg wb] at lb
 rw[show vl a+vl b=vl (dg (vl a))+vl (dg (vl b)) by rw[vl_dg,vl_dg]]
 have wx:=W32_dg (vl a)
 have wy:=W32_dg (vl b)
 generalize dg (vl a)=x at *
 generalize dg (vl b)=y at *
 refine⟨by omega,wa,by omega,wb,fun h=> ?_,fun h=> ?_⟩
 case' refine_1=>
  rw[Nat.add_comm (vl x)]
  have hxy:x.length≤y.length:=by simp at h;omega
  clear h
  generalize y=u at *
  generalize x=v at *
  refine⟨by constructor<;>omega,by omega,by omega,by omega,?_⟩
  rw[show((u.length:Int)+1).toNat=u.length+1 by omega]
  have lu:u.length≤67108864:=by omega
  have wu:W32 u:=wy
  have wv:W32 v:=wx
 case' refine_2=>
  have hxy:y.length≤x.length:=by simp at h;omega
  clear h
  generalize x=u at *
  generalize y=v at *
  refine⟨by constructor<;>omega,by omega,by omega,by omega,?_⟩
  rw[show((u.length:Int)+1).toNat=u.length+1 by omega]
  have lu:u.length≤67108864:=by omega
  have wu:W32 u:=wx
  have wv:W32 v:=wy
 all_goals
  refine LoopC.intro (α:=Nat×List Nat×Nat) (fun p=>p.1≤u.length∧AddI u v p.2.1 p.1 p.2.2) (fun p=>⟨[(5,wV u),(6,wV v),(7, .ro (.r 0)),(8, .val (.int .u64 p.2.2)),(26,wV u),(27, .i u.length),(28, .i p.1)],[(0, .row 156 (wV (p.2.1++List.replicate (u.length+1-p.1) 0)))],1⟩) (fun p=>u.length-p.1) (0,[],0) ⟨by omega, .zero u v⟩ ?_ ?_
  ·simp only[bR,reduceLeDiff,reduceEqDiff,↓reduceIte,wV]
   exact⟨rfl,rfl⟩
  ·rintro⟨i,o,c⟩ ⟨h3,h4⟩
   have h4:AddI u v o i c:=h4
   have hst:=h4.step wu wv
   have h5:=h4.len
   have h6:=h4.c1
   have h7:=wu.get i
   have h8:=wv.get i
   have h9:=h4.w
   simp only at h3 h5
   have e0:(o++List.replicate (u.length+1-i) 0).length=u.length+1:=by rw[List.length_append,List.length_replicate];omega
   simp only[↓bE,bR,reduceLeDiff,reduceEqDiff,reduceLT,↓reduceIte,reduceCtorEq,reduceToNat,reducePow,SGaf,wV,e0,unW_wds]
   refine⟨fun hi=> ?_,fun hi=> ?_⟩
   ·have hi:i<u.length:=by simpa using hi
    have e1: ∀z,(o++List.replicate (u.length+1-i) 0).set i z=o++[z]++List.replicate (u.length+1-(i+1)) 0:=fun z=>by
     rw[←h5,show u.length+1-o.length=(u.length-o.length)+1 by omega,set_zeros]
     congr 2;omega
    simp only[e1]
    refine⟨by omega,by omega,fun hj=>⟨by omega,by simpa using hj,by omega,by omega,by omega,by omega,by constructor<;>omega,?_⟩,fun hj=>⟨by omega,by omega,by omega,by omega,by constructor<;>omega,?_⟩⟩
    ·refine Again.intro (i+1,_,_) ⟨hi,hst⟩ (by simp only;omega) ?_
     simp only[bR,reduceLeDiff,reduceEqDiff,↓reduceIte]
     simp(disch:=omega) only[wr64n,←Int.natCast_add,w32_nat]
     exact⟨⟨by omega,by omega⟩,by first|trivial|rw[Nat.add_assoc]⟩
    ·have h10:v.getD i 0=0:=getD_ge (by simp at hj;omega)
     rw[h10,Nat.add_zero] at hst
     refine Again.intro (i+1,_,_) ⟨hi,hst⟩ (by simp only;omega) ?_
     simp only[bR,reduceLeDiff,reduceEqDiff,↓reduceIte]
     simp(disch:=omega) only[wr64n,←Int.natCast_add,w32_nat]
     exact⟨⟨by omega,by omega⟩,by first|trivial|rw[Nat.add_assoc]⟩
   ·obtain rfl:i=u.length:=by simp at hi;omega
    have e1: ∀z,(o++List.replicate (u.length+1-u.length) 0).set u.length z=o++[z]:=fun z=>by
     rw[show u.length+1-u.length=0+1 by omega]
     rw[←h5,set_zeros,List.replicate_zero,List.append_nil]
    simp only[e1,w32_nat,Nat.mod_eq_of_lt (show c<4294967296 by omega),h4.fin hxy]
    refine⟨by omega,by omega,by omega,?_,h4.w.app (W32.one (by omega)),trivial⟩
    rw[List.length_append,h5,List.length_singleton];omega
open Nat (reduceMul reduceLeDiff reduceEqDiff reduceLT reduceAdd reduceSub reduceDiv)
open Int (reduceToNat reducePow)
open Go.RowKit
set_option linter.unusedSimpArgs false
set_option maxRecDepth 100000
theorem sub32_fn (J:Inv) (x y b:Nat) (hx:x<4294967296) (hy:y<4294967296) (hb:b≤1):Fn Tryz.prog J 285 false [.val (.int .u32 x), .val (.int .u32 y), .val (.int .u32 b)] (.tu [.val (.int .u32 ((x+8589934592-y-b:Nat)%4294967296:Nat)), .val (.int .u32 (brw x (y+b):Nat))]):=by
 refine fnI Tryz.func285 rfl (by kernel_rfl) rfl (S0_ok J) ?_
 unfold Tryz.f285
 simp only[↓bE,bR,reduceLeDiff,reduceEqDiff,reduceAdd,↓reduceIte,reduceCtorEq,reduceToNat,reducePow,S0]
 have e:wr .u32 (wr .u32 ((x:Int)-y)-b)=(((x+8589934592-y-b)%4294967296:Nat):Int):=by rw[wr32,wr32];omega
 have hd:(x+8589934592-y-b)%4294967296<4294967296:=Nat.mod_lt _ (by omega)
 have h1:4294967295^^^x<2^32:=Nat.xor_lt_two_pow (by omega) (by omega)
 have h2:x^^^y<2^32:=Nat.xor_lt_two_pow (by omega) (by omega)
 have h3:4294967295^^^(x^^^y)<2^32:=Nat.xor_lt_two_pow (by omega) (by omega)
 have h4:(4294967295^^^x)&&&y<2^32:=Nat.and_lt_two_pow _ (by omega)
 have h5:(4294967295^^^(x^^^y))&&&((x+8589934592-y-b)%4294967296)<2^32:=Nat.and_lt_two_pow _ (by omega)
 rw[e]
 simp only[bt_eq,show(4294967295:Int)=((4294967295:Nat):Int) from rfl]
 rw[bits_xor32 (by omega) hx,bits_xor32 hx hy,bits_xor32 (by omega) (by omega),bits_and32 (by omega) hy,bits_and32 (by omega) hd,bits_or32 (by omega) (by omega)]
 have hb:=borrow_bit hx hy hb
 refine⟨by omega,trivial,?_⟩
 rw[show(2147483648:Int)=((2147483648:Nat):Int) from rfl,←Int.natCast_ediv,hb]
 rfl
theorem div32_fn (J:Inv) (x y d:Nat) (hx:x<d) (hy:y<4294967296) (hd:d<4294967296):Fn Tryz.prog J 280 false [.val (.int .u32 x), .val (.int .u32 y), .val (.int .u32 d)] (.tu [.val (.int .u32 ((4294967296*x+y)/d:Nat)), .val (.int .u32 ((4294967296*x+y)%d:Nat))]):=by
 refine fnI Tryz.func280 rfl (by kernel_rfl) rfl (S0_ok J) ?_
 unfold Tryz.f280
 simp only[bR,reduceLeDiff,reduceEqDiff,reduceAdd,↓reduceIte,reduceCtorEq,reduceToNat,reducePow,S0]
 refine⟨fun h=> ?_,fun _=> ?_⟩
 ·exfalso
  simp at h
  omega
 ·have hd0:0<d:=by omega
  have hq:(4294967296*x+y)/d<4294967296:=Nat.div_lt_of_lt_mul (by
   have:=Nat.mul_le_mul_left 4294967296 hx
   rw[Nat.mul_succ] at this
   rw[Nat.mul_comm];omega)
  have hr:(4294967296*x+y)%d<d:=Nat.mod_lt _ hd0
  have e1:bt BinOp.or IntKind.u64 (wr IntKind.u64 (wr IntKind.u64 (x:Int)*4294967296)) (wr IntKind.u64 (y:Int))=((4294967296*x+y:Nat):Int):=by
   rw[wr64n (by omega),wr64n (by omega),show(x:Int)*4294967296=((x*4294967296:Nat):Int) by omega,wr64n (by omega),bt_eq,bits_or64 (by omega) (by omega)]
   congr 1
   rw[Nat.or_comm,show x*4294967296=2^32*x by omega,or_add (by omega)]
   omega
  rw[e1,wr64n (show d<18446744073709551616 by omega)]
  simp only[←Int.natCast_ediv,←Int.natCast_emod]
  rw[wr64n (by omega),wr32n hq,wr32n (by omega)]
  exact⟨by omega,by omega,by omega,by omega,by omega,rfl,rfl⟩
def SGbf:FuncId→List V→CR:=fun f args=>tab [(285,cI .u32 fun x=>cI .u32 fun y=>cI .u32 fun b=>cF [0≤x,x<4294967296,0≤y,y<4294967296,0≤b,b≤1] false (.tu [.val (.int .u32 ((x.toNat+8589934592-y.toNat-b.toNat:Nat)%4294967296:Nat)), .val (.int .u32 (brw x.toNat (y.toNat+b.toNat):Nat))]))] noF f args
def SGb (J:Inv):Sig:=⟨J,sdf,SGbf,noH,0⟩
theorem SGb_ok (J:Inv):SigOk Tryz.prog (SGb J):= .plain (tab_ok (.c (.i fun x=> .i fun y=> .i fun b=> .z fun⟨c0,_,c2,_,c4,_,_⟩=>(by have h:=sub32_fn J x.toNat y.toNat b.toNat (by omega) (by omega) (by omega);rwa [Int.toNat_of_nonneg c0,Int.toNat_of_nonneg c2,Int.toNat_of_nonneg c4] at h))<| .n) noF_ok)
def SGbb (J:Inv) (b:Nat):Sig:=⟨J,sdf,SGbf,noH,b⟩
theorem SGbb_ok (J:Inv) (b:Nat):SigOk Tryz.prog (SGbb J b):=⟨(SGb_ok J).1,(SGb_ok J).2⟩
theorem take_fn (J:Inv) (k nx a n:Nat) (l y:List Nat) (hl:l.length≤1073741824) (hn:a+n≤l.length) (hy:y.length≤n) (wl:W32 l) (wy:W32 y):FnH Tryz.prog J 274 [.vw (.r k) 1 a n,wV y] [(k, .row 156 (wV l))] nx (.val (.int .u32 (brw (vl (seg l a n)) (vl y):Nat))) [(k, .row 156 (wV (taken l a n y)))] nx:=by
 refine fnJ Tryz.func274 rfl (by kernel_rfl) (SGbb_ok J nx) rfl ?_
 unfold Tryz.f274
 simp only[bR,reduceAdd,↓reduceIte,reduceCtorEq,SGbb,wV]
 have hsl:=seg_len hn
 refine LoopC.intro (α:=Nat×List Nat×Nat) (fun p=>p.1≤n∧SubI (seg l a n) y p.2.1 p.1 p.2.2) (fun p=>⟨[(0, .vw (.r k) 1 a n),(1,wV y),(4, .val (.int .u32 0)),(5, .val (.int .u32 p.2.2)),(9, .i n),(10, .i p.1)],[(k, .row 156 (wV (putS l a p.2.1)))],nx⟩) (fun p=>n-p.1) (0,[],0) ⟨by omega, .zero _ _⟩ ?_ ?_
 ·simp only[bR,reduceEqDiff,↓reduceIte,reduceCtorEq,wV,putS_nil]
  exact⟨⟨rfl,rfl⟩,Nat.le_refl _⟩
 ·rintro⟨i,o,c⟩ ⟨h3,h4⟩
  have h4:SubI (seg l a n) y o i c:=h4
  have hst:=h4.step (seg_w wl a n) wy
  have h5:=h4.len
  have h6:=h4.b1
  have h7:=wl.get (a+i)
  have h8:=wy.get i
  simp only at h3 h5
  have e0:(putS l a o).length=l.length:=putS_len (by omega)
  have e2:(putS l a o).getD (a+i) 0=l.getD (a+i) 0:=putS_get (by omega) (by omega)
  simp only[↓bE,bR,reduceEqDiff,reduceLT,reduceAdd,↓reduceIte,reduceCtorEq,reduceToNat,SGbf,wV,e0,e2]
  refine⟨fun hi=> ?_,fun hi=> ?_⟩
  ·have hi:i<n:=by simpa using hi
   have e3: ∀z,(putS l a o).set (a+i) z=putS l a (o++[z]):=fun z=>by rw[←h5];exact putS_set (by omega) z
   simp only[e3]
   rw[seg_get hi] at hst
   refine⟨fun hj=>⟨by omega,by simpa using hj,by omega,by omega,by omega,by omega,by omega,by omega,by omega,by omega,by omega,by omega,by omega,by omega,by constructor<;>omega,Again.intro (i+1,o++[(l.getD (a+i) 0+8589934592-y.getD i 0-c)%4294967296],brw (l.getD (a+i) 0) (y.getD i 0+c)) ⟨hi,hst⟩ (by simp only;omega) ?_⟩,fun hj=>⟨by omega,by omega,by omega,by omega,by omega,by omega,by omega,by omega,by omega,by omega,by omega,by omega,by constructor<;>omega,?_⟩⟩
   ·simp only[bR,reduceEqDiff,↓reduceIte,reduceCtorEq]
    exact⟨by omega,Nat.le_refl _⟩
   ·have h10:y.getD i 0=0:=getD_ge (by simp at hj;omega)
    rw[h10] at hst
    refine Again.intro (i+1,o++[(l.getD (a+i) 0+8589934592-0-c)%4294967296],brw (l.getD (a+i) 0) (0+c)) ⟨hi,hst⟩ (by simp only;omega) ?_
    simp only[bR,reduceEqDiff,↓reduceIte,reduceCtorEq]
    exact⟨by omega,Nat.le_refl _⟩
  ·obtain rfl:i=n:=by simp at hi;omega
   obtain⟨f1,f2⟩:=SubI.fin (x:=seg l a i) (y:=y) (o:=o) (b:=c) (by rw[hsl];exact h4) (seg_w wl a _) wy (by omega)
   subst f2
   refine .inl ?_
   simp only[bR,↓reduceIte]
   rw[hsl] at f1
   rw[f1]
   exact⟨rfl,Nat.le_refl _⟩
theorem FnH.ro_vw {P:Program} {J:Inv} {f:FuncId} {k nx nx':Nat} {ty:TypeId} {dd:V} {L args:List V} {pre post:List (Nat×Ob)} {res:V} (h:FnH P J f (.vw (.r k) 1 0 L.length::args) pre nx res post nx') (hk:Hroot pre k=some (.row ty (.sq 1 dd L))):FnH P J f (.ro (.r k)::args) pre nx res post nx':=by
 refine⟨h.1,fun w F vs hM hlen hvs=>h.2 w F vs hM hlen fun i v x h1 h2=> ?_⟩
 match i with
 |i+1=>exact hvs (i+1) v x h1 h2
 |0=>
  obtain rfl:V.vw (.r k) 1 0 L.length=v:=by simpa using h1
  have hr:=rep_ro (hvs 0 _ x rfl h2)
  obtain⟨x1,szr,nr,cc,u,xs,hW,he,hown,_⟩:=hM.own (.r k) _ hk
  obtain⟨rfl,rfl,rfl⟩:1=szr∧L.length=nr∧(fun i=>L.getD i dd)=cc:=by simpa [V.elems] using he
  rw[hr] at hW
  obtain rfl:x=x1:=by simpa using hW
  rcases hown.2 with ⟨rfl,h0⟩|⟨g,cap,cur,rfl,_,_,hcap,_⟩
  ·rw[h0]
   exact .vw (.r k) 1 0 0 0 0 none none hr ⟨⟨by omega,by omega,fun h=>by omega⟩,fun h=>by omega⟩
  ·have:=Rep.vw (w:=w) (.r k) 1 0 L.length L.length cap (some ⟨g,0,none⟩) (some ⟨g,0,none⟩) hr ⟨⟨by omega,hcap,fun _=>⟨g,rfl⟩⟩,fun _=>by rw[Option.map_some,addr_at0]⟩
   rwa [Nat.sub_zero] at this
theorem seg_all (l:List Nat):seg l 0 l.length=l:=by unfold seg;rw[List.drop_zero,List.take_length]
theorem taken_all (l y:List Nat):taken l 0 l.length y=fw l.length (vl l+4294967296^l.length-vl y):=by
 unfold taken putS
 rw[seg_all,fw_len,Nat.zero_add,List.drop_length,List.take_zero,List.append_nil,List.nil_append]
theorem take_all (J:Inv) (k nx:Nat) (l y:List Nat) (hl:l.length≤1073741824) (hy:y.length≤l.length) (wl:W32 l) (wy:W32 y):FnH Tryz.prog J 274 [.ro (.r k),wV y] [(k, .row 156 (wV l))] nx (.val (.int .u32 (brw (vl l) (vl y):Nat))) [(k, .row 156 (wV (fw l.length (vl l+4294967296^l.length-vl y))))] nx:=by
 have h:=take_fn J k nx 0 l.length l y hl (by omega) hy wl wy
 rw[seg_all,taken_all] at h
 have e:=wds_len l
 generalize l.length=n at *
 subst e
 exact FnH.ro_vw (ty:=156) (dd:= .val (.int .u32 0)) (L:=wds l) h (by simp[Hroot,wV])
def SGcf:FuncId→List V→Option (List Prop×Bool×V):=fun f args=>
 if f=99 then match args with
  |[.sq 1 da La, .sq 1 db Lb]=>some ([da= .val (.int .u32 0),La=wds (unW La),db= .val (.int .u32 0),Lb=wds (unW Lb),(unW La).length≤1073741824,(unW Lb).length≤1073741824,W32 (unW La),W32 (unW Lb)],false, .i (cmp3 (vl (unW La)) (vl (unW Lb))))
  |_=>none
 else SGaf f args
def SGch:FuncId→List V→List (Nat×Ob)→Nat→Option CallH:=fun f args h nx=>
 if f=274 then match args with
  |[.ro (.r k), .sq 1 dy Ly]=>match Hroot h k with
   |some (.row ty (.sq 1 d L))=>some ⟨[ty=156,d= .val (.int .u32 0),L=wds (unW L),dy= .val (.int .u32 0),Ly=wds (unW Ly),(unW L).length≤1073741824,(unW Ly).length≤(unW L).length,W32 (unW L),W32 (unW Ly)],[false,true],[(k, .row 156 (wV (unW L)))], .val (.int .u32 (brw (vl (unW L)) (vl (unW Ly)):Nat)),[(k, .row 156 (wV (fw (unW L).length (vl (unW L)+4294967296^(unW L).length-vl (unW Ly)))))],nx⟩
   |_=>none
  |_=>none
 else none
def SGc (J:Inv):Sig:=⟨J,sdf,SGcf,SGch,0⟩
theorem SGc_ok (J:Inv):SigOk Tryz.prog (SGc J):=by
 refine⟨fun f args l fr r h hl=> ?_,fun f args h nx c hc hl=> ?_⟩
 ·change SGcf f args=some (l,fr,r) at h
  unfold SGcf at h
  split at h
  ·rename_i hf;subst hf
   split at h
   ·obtain⟨rfl,rfl,rfl⟩:=jsome_tri h
    rename_i da La db Lb
    have q1:da= .val (.int .u32 0):=hl _ (by simp)
    have q2:La=wds (unW La):=hl _ (by simp)
    have q3:db= .val (.int .u32 0):=hl _ (by simp)
    have q4:Lb=wds (unW Lb):=hl _ (by simp)
    subst q1 q3
    have hp:=cmp_fn J (unW La) (unW Lb) (hl _ (by simp)) (hl _ (by simp)) (hl _ (by simp)) (hl _ (by simp))
    unfold wV at hp
    rw[←q2,←q4] at hp
    exact hp
   ·exact absurd h (by simp)
  ·exact(SGa_ok J).1 f args l fr r h hl
 ·change SGch f args h nx=some c at hc
  unfold SGch at hc
  split at hc
  ·rename_i hf;subst hf
   split at hc
   ·rename_i k dy Ly
    split at hc
    ·rename_i ty d L hk
     obtain rfl:=Option.some.inj hc
     have q1:ty=156:=hl _ (by simp)
     have q2:d= .val (.int .u32 0):=hl _ (by simp)
     have q3:L=wds (unW L):=hl _ (by simp)
     have q4:dy= .val (.int .u32 0):=hl _ (by simp)
     have q5:Ly=wds (unW Ly):=hl _ (by simp)
     subst q1 q2 q4
     have hp:=take_all J k nx (unW L) (unW Ly) (hl _ (by simp)) (hl _ (by simp)) (hl _ (by simp)) (hl _ (by simp))
     rw[show wV (unW Ly)= .sq 1 (.val (.int .u32 0)) Ly by unfold wV;rw[←q5]] at hp
     exact hp
    ·exact absurd hc (by simp)
   ·exact absurd hc (by simp)
  ·exact absurd hc (by simp)
theorem sub_fn (J:Inv) (a b:List Nat) (ha:a.length≤67108864) (hb:b.length≤67108864) (wa:W32 a) (wb:W32 b):Fn Tryz.prog J 261 false [wV a,wV b] (.tu [wV (dg (vl a-vl b)), .bb (decide (vl b≤vl a))]):=by
 refine fnI Tryz.func261 rfl (by kernel_rfl) (by simp[V.cl,clL,wV,wds_cl]) (SGc_ok J) ?_
 unfold Tryz.f261
 simp only[↓bE,bR,reduceLeDiff,reduceEqDiff,reduceAdd,↓reduceIte,reduceCtorEq,SGaf,SGc,SGcf,SGch,sdf,wV,unW_wds]
 have la:=trim_len a
 have lb:=trim_len b
 rw[trim_dg wa] at la
 rw[trim_dg wb] at lb
 have wx:=W32_dg (vl a)
 have wy:=W32_dg (vl b)
 have hlx:=vl_dg (vl a)
 have hly:=vl_dg (vl b)
 generalize vl a=m at *
 generalize vl b=n at *
 rw[cpN_full (by rw[List.length_replicate]),List.take_length,setMany_full (by rw[List.length_replicate])]
 refine⟨by omega,by omega,wa,wb,fun h=> ?_,fun h=> ?_⟩
 ·have hmn:m<n:=by
   rcases Nat.lt_or_ge m n with h1|h1
   ·exact h1
   ·rcases Nat.eq_or_lt_of_le h1 with h2|h2
    ·rw[h2,cmp3_eq] at h;cases h
    ·rw[cmp3_gt h2] at h;cases h
  rw[show m-n=0 by omega,dg_zero]
  refine⟨rfl,?_⟩
  simp;omega
 ·have hmn:n≤m:=by
   rcases Nat.lt_or_ge m n with h1|h1
   ·rw[cmp3_lt h1] at h;cases h
   ·exact h1
  have h1:=dg_hi m
  have h2:(dg n).length≤(dg m).length:=dg_len (by omega)
  have e:vl (fw (dg m).length (vl (dg m)+4294967296^(dg m).length-vl (dg n)))=m-n:=by
   rw[fw_vl,hlx,hly,show m+4294967296^(dg m).length-n=m-n+4294967296^(dg m).length by omega,Nat.add_mod_right,Nat.mod_eq_of_lt (by omega)]
  rw[e]
  refine⟨by omega,wa,by omega,wb,by omega,by omega,by omega,by omega,h2,wx,wy,by rw[fw_len];omega,fw_w _ _,rfl,by simp;omega⟩
end Go.Proofs.YtfengpdaocgcnaaGreatDoor
