/- strings.Builder: its text. Base64: plain law. Base64: the walks of what writes signs. -/
import Derived.Test.YtfengpdaocgcnaaGreatDoorQ41
import Derived.Test.YtfengpdaocgcnaaGreatDoorQ01
namespace Go.Proofs.YtfengpdaocgcnaaGreatDoor
open Go.RowKit Go.Shelf
set_option linter.unusedSimpArgs false
set_option linter.unusedVariables false
set_option maxHeartbeats 2000000
set_option maxRecDepth 100000
theorem str_run (w:World) (b g cap:Nat) (p:Value) (cur:Array Value) (l:List UInt8) (h0:l≠[]) (hbk:w.heap[b]?=some (.cells #[p, .slice (some ⟨g,0,none⟩) l.length cap] 63 (0,0))) (hg:w.heap[g]?=some (.cells cur 5 (0,0))) (hn:l.length≤cap) (hcs:cur.size=cap) (hcm:cap≤maxLen) (hcell: ∀j x,l[j]?=some x→w.cell? ⟨g,j,none⟩=some (.int .u8 x.toNat)):
  Calls Tryz.prog 37 #[.pointer (some ⟨b,0,none⟩)] w fun e w'=>e= .returned (.string ⟨l.toArray⟩)∧w'=w.drew.freeze ⟨g,0,none⟩ l.length:=by
 have hl0:l.length≠0:=by simpa using h0
 have c1:w.drew.cell? ⟨b,1,none⟩=some (.slice (some ⟨g,0,none⟩) l.length cap):=by
  have:w.drew.heap[b]?=some (.cells #[p, .slice (some ⟨g,0,none⟩) l.length cap] 63 (0,0)):=hbk
  rw[Lib.cell_of_heap this];rfl
 have hSD:=Lib.run_unsafeSliceData_row (P:=Tryz.prog) w.drew #[24] 113 ⟨g,0,none⟩ l.length cap (by omega)
 have hUS:=Lib.run_unsafeString_row (P:=Tryz.prog) w.drew 113 3 9 5 Tryz.underlying113 Tryz.co5 g cur.size (by have hg':w.drew.heap[g]?=some (.cells cur 5 (0,0)):=hg;simp[World.shape?,hg']) l h0 (by omega) (by unfold maxLen at hcm;omega) (fun j x hx=>by have:=hcell j x hx;rw[addr_add,Nat.zero_add];exact this)
 have mixed:Tryz.prog.follows .mixedOrders=true:=rfl
 go_enter Tryz.func37,Tryz.ntmps37
 go_wp2
 go_region_o
 all_goals (go_wp2;go_ret;exact⟨rfl,rfl⟩)
theorem freeze_other (w:World) (g n k:Nat) (h:k≠g):(w.freeze ⟨g,0,none⟩ n).heap[k]?=w.heap[k]?:=by
 unfold World.freeze
 split
 ·rfl
 ·simp only[Array.getElem?_modify]
  rw[if_neg (fun e=>h e.symm)]
theorem freeze_size (w:World) (g n:Nat):(w.freeze ⟨g,0,none⟩ n).heap.size=w.heap.size:=by
 unfold World.freeze
 split
 ·rfl
 ·simp
theorem str_fn (J:Inv) (nx k m:Nat) (l:List UInt8) (h0:l≠[]) (hkm:k≠m):FnH Tryz.prog J 37 [.op k 0] [(k, .box 63 (bu1 k m)),(m, .row 5 (.by l))] nx (.str l) [] nx:=by
 refine⟨⟨_,Tryz.func37,by kernel_rfl,by kernel_rfl⟩,fun w F vs hM hlen hvs=> ?_⟩
 obtain⟨y,rfl⟩: ∃y,vs=[y]:=List.length_eq_one_iff.1 hlen
 obtain⟨b,hO,rfl⟩:=rep_op (hvs 0 _ y rfl rfl)
 obtain⟨b',cells,uu,hO',hheap,hsz,h1,h2,hF⟩:=hM.own (.r k) (.box 63 (bu1 k m)) (by simp[Hget,Hroot])
 rw[hO] at hO'
 obtain rfl:b=b':=by simpa using hO'
 obtain⟨x1,sz',n,cc1,u1,xs,hW,he,hown,hc1,hr1,hone,hFr⟩:=hM.own (.r m) (.row 5 (.by l)) (by simp[Hget,Hroot,hkm])
 obtain⟨rfl,rfl,rfl⟩:1=sz'∧l.length=n∧_:=by simpa [V.elems] using he
 have hblkk:F.blk (.r m) (.row 5 (.by l))=x1.ownBlock:=by simp[Cx.blk,hW]
 rcases hown.2 with ⟨rfl,hz⟩|⟨g,cap,cur,rfl,_,hg,hnc,hcm,hcs,htake⟩
 ·exact absurd (List.length_eq_zero_iff.1 hz) h0
 have hcz:(bu1 k m).csize=2:=rfl
 rw[hcz] at hsz h1 h2
 have hu1:uu 1= .slice (some ⟨g,0,none⟩) l.length cap:=by
  have h:=rep_ro (h2 1 (by omega))
  rw[hW] at h
  exact(Option.some.inj h).symm
 have hbk:w.heap[b]?=some (.cells #[uu 0, .slice (some ⟨g,0,none⟩) l.length cap] 63 (0,0)):=by
  rw[hheap]
  have e:cells= #[uu 0,uu 1]:=by
   apply Array.ext (by simpa using hsz)
   intro i hi hi2
   have hi3:i=0∨i=1:=by omega
   rcases hi3 with rfl|rfl
   ·have h:=(h1 0 (by omega)).1
    rw[Array.getElem?_eq_getElem hi] at h
    exact Option.some.inj h
   ·have h:=(h1 1 (by omega)).1
    rw[Array.getElem?_eq_getElem hi] at h
    exact Option.some.inj h
  rw[e,hu1]
 refine(str_run w b g cap (uu 0) cur l h0 hbk hg hnc (by simpa using hcs) hcm fun j x hx=> ?_).mono fun e w' he'=> ?_
 ·have hj:j<l.length:=(List.getElem?_eq_some_iff.1 hx).1
  have h3:=hc1 j hj 0 (by omega)
  rw[Nat.mul_one,Nat.add_zero] at h3
  rw[row_cell hown (fun _ _=>rfl) h3,rep_val (hr1 j hj 0 (by omega))]
  simp[byteAt,List.getD_eq_getElem?_getD,hx]
 ·obtain⟨rfl,rfl⟩:=he'
  have hgF:F.F g:=hFr g rfl
  have hgB:Blk F [(k, .box 63 (bu1 k m)),(m, .row 5 (.by l))] g:=⟨.r m, .row 5 (.by l),by simp[Hget,Hroot,hkm],hblkk⟩
  have hsz2:(w.drew.freeze ⟨g,0,none⟩ l.length).heap.size=w.heap.size:=freeze_size _ _ _
  have hoth: ∀c,c≠g→(w.drew.freeze ⟨g,0,none⟩ l.length).heap[c]?=w.heap[c]?:=fun c hc=>freeze_other _ _ _ _ hc
  refine⟨_,⟨fun c=>F.F c∧ ¬Blk F [(k, .box 63 (bu1 k m)),(m, .row 5 (.by l))] c,F.O,F.W⟩,rfl,⟨?_,?_,?_,by rw[hsz2];exact Nat.le_refl _,fun c _ hc=>hoth c fun e=>hc (e▸hgB)⟩,⟨fun c hc=> .inl hc.1,fun _ _ h=>h,fun _ _ h=>h⟩,fun c h3 h4=>⟨h3,h4⟩,⟨fun c hc=>by rw[hsz2];exact hM.flt c hc.1,hM.nx,?_,?_,hM.wsl,J.out hM.inv (by rw[hsz2];exact Nat.le_refl _) (fun c _ hc=>hoth c fun e=>hc (e▸hgF)) fun c hc=> .inl hc.1⟩,?_, .str l⟩
  ·unfold World.freeze;split<;>rfl
  ·unfold World.freeze;split<;>rfl
  ·unfold World.freeze;split<;>rfl
  ·exact fun m o hm=>by cases m<;>simp[Hget,Hroot,Hchild] at hm
  ·exact fun m m' o o' g hm=>by cases m<;>simp[Hget,Hroot,Hchild] at hm
  ·exact fun m o g hm=>by cases m<;>simp[Hget,Hroot,Hchild] at hm
def b6 (S:List UInt8) (n:Nat):UInt8:=S.getD n 0
def spellF (S:List UInt8):List UInt8→List UInt8
 |a::b::c::r=>b6 S (a.toNat/4)::b6 S (a.toNat%4*16+b.toNat/16)::b6 S (b.toNat%16*4+c.toNat/64)::b6 S (c.toNat%64)::spellF S r
 |[a,b]=>[b6 S (a.toNat/4),b6 S (a.toNat%4*16+b.toNat/16),b6 S (b.toNat%16*4)]
 |[a]=>[b6 S (a.toNat/4),b6 S (a.toNat%4*16)]
 |[]=>[]
def i6 (S:List UInt8) (c:UInt8):Nat:=S.idxOf c
def readF (S:List UInt8):List UInt8→List UInt8×Bool
 |a::b::c::d::r=>([UInt8.ofNat ((i6 S a*262144+i6 S b*4096+i6 S c*64+i6 S d)/65536),UInt8.ofNat ((i6 S a*262144+i6 S b*4096+i6 S c*64+i6 S d)/256),UInt8.ofNat (i6 S a*262144+i6 S b*4096+i6 S c*64+i6 S d)]++(readF S r).1,(readF S r).2)
 |[a,b,c]=>([UInt8.ofNat ((i6 S a*262144+i6 S b*4096+i6 S c*64)/65536),UInt8.ofNat ((i6 S a*262144+i6 S b*4096+i6 S c*64)/256)],(i6 S a*262144+i6 S b*4096+i6 S c*64)%256==0)
 |[a,b]=>([UInt8.ofNat ((i6 S a*262144+i6 S b*4096)/65536)],(i6 S a*262144+i6 S b*4096)%65536==0)
 |_=>([],true)
theorem ofNat_eq {n:Nat} {c:UInt8} (h:n%256=c.toNat):UInt8.ofNat n=c:=by
 apply UInt8.toNat_inj.1
 rw[UInt8.toNat_ofNat',h]
structure Al (S:List UInt8):Prop where
 len:S.length=64
 inv: ∀n,n<64→i6 S (b6 S n)=n
theorem read_spell {S:List UInt8} (h:Al S): ∀b:List UInt8,readF S (spellF S b)=(b,true)
 |a::b::c::r=>by
  have ha:=a.toNat_lt
  have hb:=b.toNat_lt
  have hc:=c.toNat_lt
  rw[spellF,readF,read_spell h r,h.inv _ (by omega),h.inv _ (by omega),h.inv _ (by omega),h.inv _ (by omega)]
  rw[ofNat_eq (c:=a) (by omega),ofNat_eq (c:=b) (by omega),ofNat_eq (c:=c) (by omega)]
  rfl
 |[a,b]=>by
  have ha:=a.toNat_lt
  have hb:=b.toNat_lt
  rw[spellF,readF,h.inv _ (by omega),h.inv _ (by omega),h.inv _ (by omega),ofNat_eq (c:=a) (by omega),ofNat_eq (c:=b) (by omega)]
  refine Prod.ext rfl ?_
  rw[beq_iff_eq]
  omega
 |[a]=>by
  have ha:=a.toNat_lt
  rw[spellF,readF,h.inv _ (by omega),h.inv _ (by omega),ofNat_eq (c:=a) (by omega)]
  refine Prod.ext rfl ?_
  rw[beq_iff_eq]
  omega
 |[]=>rfl
theorem spell_len (S:List UInt8): ∀b:List UInt8,(spellF S b).length=b.length/3*4+(if b.length%3=0 then 0 else b.length%3+1)
 |a::b::c::r=>by
  have:=spell_len S r
  simp only[spellF,List.length_cons,this]
  rw[show(r.length+1+1+1)/3=r.length/3+1 by omega,show(r.length+1+1+1)%3=r.length%3 by omega]
  omega
 |[a,b]=>by simp[spellF]
 |[a]=>by simp[spellF]
 |[]=>by simp[spellF]
theorem spell_app (S:List UInt8): ∀(a b:List UInt8),a.length%3=0→spellF S (a++b)=spellF S a++spellF S b
 |x::y::z::r,b,h=>by
  have:=spell_app S r b (by simp only[List.length_cons] at h;omega)
  simp only[List.cons_append,spellF,this]
 |[x,y],b,h=>by simp at h
 |[x],b,h=>by simp at h
 |[],b,h=>rfl
open Nat (reduceMul reduceLeDiff reduceEqDiff reduceLT reduceAdd reduceSub reduceDiv)
open Int (reduceToNat reducePow)
open Go.RowKit
def stdS:List UInt8:=[65,66,67,68,69,70,71,72,73,74,75,76,77,78,79,80,81,82,83,84,85,86,87,88,89,90,97,98,99,100,101,102,103,104,105,106,107,108,109,110,111,112,113,114,115,116,117,118,119,120,121,122,48,49,50,51,52,53,54,55,56,57,43,47]
theorem and_u64b {a b:Nat} (ha:a<18446744073709551616) (hb:b<18446744073709551616):bt .and .u64 (a:Int) (b:Int)=((a&&&b:Nat):Int):=by
 rw[bt_eq]
 have hx:a&&&b<2^64:=Nat.and_lt_two_pow _ (by omega)
 have h1:(BitVec.ofInt 64 (a:Int)).toNat=a:=by rw[BitVec.ofInt_natCast,BitVec.toNat_ofNat];exact Nat.mod_eq_of_lt (by omega)
 have h2:(BitVec.ofInt 64 (b:Int)).toNat=b:=by rw[BitVec.ofInt_natCast,BitVec.toNat_ofNat];exact Nat.mod_eq_of_lt (by omega)
 show IntKind.u64.wrap ((BitVec.ofInt 64 (a:Int)&&&BitVec.ofInt 64 (b:Int)).toNat:Int)=_
 rw[BitVec.toNat_and,h1,h2,show∀n:Int,IntKind.u64.wrap n=n%18446744073709551616 from fun n=>rfl]
 omega
theorem and63 {n:Nat} (h:n<18446744073709551616):bt .and .u64 (n:Int) 63=((n%64:Nat):Int):=by
 rw[show(63:Int)=((63:Nat):Int) from rfl,and_u64b h (by omega)]
 have:=Nat.and_two_pow_sub_one_eq_mod n 6
 rw[show(2:Nat)^6-1=63 from rfl,show(2:Nat)^6=64 from rfl] at this
 rw[this]
theorem or3 {a b c:Nat} (ha:a<256) (hb:b<256) (hc:c<256):bt .or .u64 (bt .or .u64 (wr .u64 (wr .u64 (a:Int)*65536)) (wr .u64 (wr .u64 (b:Int)*256))) (wr .u64 (c:Int))=((a*65536+b*256+c:Nat):Int):=by
 rw[wr64n (n:=a) (by omega),wr64n (n:=b) (by omega),wr64n (n:=c) (by omega),show(a:Int)*65536=((a*65536:Nat):Int) by omega,show(b:Int)*256=((b*256:Nat):Int) by omega,wr64n (by omega),wr64n (by omega),bt_eq,bt_eq,bits_or64 (by omega) (by omega)]
 have h1:a*65536|||b*256=a*65536+b*256:=by
  have:=or_add (a:=b*256) (b:=a) (k:=16) (by omega)
  rw[Nat.or_comm,show a*65536=2^16*a by omega,this];omega
 rw[h1,bits_or64 (by omega) (by omega)]
 have h2:a*65536+b*256|||c=a*65536+b*256+c:=by
  have:=or_add (a:=c) (b:=a*256+b) (k:=8) (by omega)
  rw[Nat.or_comm,show a*65536+b*256=2^8*(a*256+b) by omega,this];omega
 rw[h2]
theorem byteAt_get (l:List UInt8) (i:Nat):byteAt l i=(((l.getD i 0).toNat:Nat):Int):=rfl
theorem u8_get (l:List UInt8) (i:Nat):u8 (byteAt l i)=l.getD i 0:=by
 unfold u8 byteAt
 exact UInt8.toNat_inj.1 (by rw[Int.toNat_natCast,UInt8.toNat_ofNat',Nat.mod_eq_of_lt (l.getD i 0).toNat_lt])
theorem and3: ∀x:Fin 256,bits .and .u8 (x.val:Int) 3*16%256=((x.val%4*16:Nat):Int):=by decide
theorem and15: ∀x:Fin 256,bits .and .u8 (x.val:Int) 15*4%256=((x.val%16*4:Nat):Int):=by decide
theorem or8: ∀(a:Fin 4) (b:Fin 16),bits .or .u8 ((a.val*16:Nat):Int) (b.val:Int)=((a.val*16+b.val:Nat):Int):=by decide
theorem byte_at (l:List UInt8) (n:Nat):0≤byteAt l n∧byteAt l n<256:=by
 have:=(l.getD n 0).toNat_lt
 rw[byteAt_get];omega
theorem byteAt0 (x:UInt8) (l:List UInt8):byteAt (x::l) 0=((x.toNat:Nat):Int):=rfl
theorem byteAt1 (x y:UInt8) (l:List UInt8):byteAt (x::y::l) 1=((y.toNat:Nat):Int):=rfl
theorem byteAt2 (x y z:UInt8) (l:List UInt8):byteAt (x::y::z::l) 2=((z.toNat:Nat):Int):=rfl
theorem spell_own (J:Inv) (nx:Nat) (S b:List UInt8) (hS:S.length=64) (hb:b.length≤16777216):FnH Tryz.prog J 63 [.by b, .str S] [] nx (.ro (.r nx)) [(nx, .row 5 (.by (spellF S b)))] (nx+1):=by
 refine fnJ Tryz.func63 rfl (by kernel_rfl) (S0b_ok J nx) rfl ?_
 unfold Tryz.f63
 simp only[↓bE,bQ,reduceMul,reduceLeDiff,reduceEqDiff,reduceLT,reduceAdd,reduceSub,↓reduceIte,reduceCtorEq,reduceToNat,reducePow,Nat.reduceBEq,reduceDiv,S0b,S0f]
 refine⟨by constructor<;>omega,by constructor<;>omega,by omega,by omega,by constructor<;>omega,by omega,by omega,by omega,by omega,?_⟩
 refine LoopC.intro (α:=List UInt8×List UInt8×Nat) (fun y=>y.1++y.2.1=b∧y.1.length%3=0∧nx≤y.2.2) (fun y=>⟨[(0, .by y.2.1),(1, .str S),(5, .ro (.r y.2.2))],[(y.2.2, .row 5 (.by (spellF S y.1)))],y.2.2+1⟩) (fun y=>y.2.1.length) ([],b,nx) ⟨rfl,rfl,Nat.le_refl _⟩ ?_ ?_
 ·simp only[↓bE,bQ,reduceMul,reduceLeDiff,reduceEqDiff,reduceLT,reduceAdd,reduceSub,↓reduceIte,reduceCtorEq,reduceToNat,reducePow,Nat.reduceBEq,reduceDiv,spellF]
  exact⟨rfl,Nat.le_refl _⟩
 ·rintro⟨p,d,r⟩ ⟨hp,hi,hr⟩
  simp only at hp hi hr
  have n1: ¬nx<nx:=Nat.lt_irrefl _
  have a0:(r=r+1)=False:=eq_false (by omega)
  have a1:(r+1=r)=False:=eq_false (by omega)
  have hl:=spell_len S p
  have hd:=congrArg List.length hp
  rw[List.length_append] at hd
  subst hp
  rcases d with _|⟨x,_|⟨y,_|⟨z,t⟩⟩⟩
  ·have c0:decide ((3:Int)≤((0:Nat):Int))=false:=rfl
   have c1:(((0:Nat):Int)==2)=false:=rfl
   have c2:(((0:Nat):Int)==1)=false:=rfl
   simp only[↓bD,bQ,reduceMul,reduceLeDiff,reduceEqDiff,reduceLT,reduceAdd,reduceSub,↓reduceIte,reduceCtorEq,reduceToNat,reducePow,Nat.reduceBEq,reduceDiv,S0b,S0f,a0,a1,List.append_nil,c0,c1,c2]
   refine RenC.intro [(nx,r)] ⟨[(4, .ro (.r nx))],[(nx, .row 5 (.by (spellF S p)))],nx+1⟩ ?_ ?_<;>simp only[↓bD,bQ,reduceMul,reduceLeDiff,reduceEqDiff,reduceLT,reduceAdd,reduceSub,↓reduceIte,reduceCtorEq,reduceToNat,reducePow,Nat.reduceBEq,reduceDiv,n1]
   ·omega
   ·exact Nat.le_refl _
  ·have c0:decide ((3:Int)≤((1:Nat):Int))=false:=rfl
   have c1:(((1:Nat):Int)==2)=false:=rfl
   have c2:(((1:Nat):Int)==1)=true:=rfl
   simp only[↓bD,bQ,reduceMul,reduceLeDiff,reduceEqDiff,reduceLT,reduceAdd,reduceSub,↓reduceIte,reduceCtorEq,reduceToNat,reducePow,Nat.reduceBEq,reduceDiv,S0b,S0f,a0,a1,spell_app S p _ hi,c0,c1,c2]
   refine DrawC.sch [(0,some []),(1,some []),(2,some []),(3,some []),(4,some []),(5,some []),(6,some []),(7,some []),(8,some []),(9,some []),(10,some []),(11,some []),(12,some []),(13,some []),(14,none),(15,none),(16,some [])] [] (by kernel_rfl) ?_
   have hx:=x.toNat_lt
   have q0:((x.toNat:Nat):Int)/4=((x.toNat/4:Nat):Int):=by omega
   have q1:bt .and .u8 ((x.toNat:Nat):Int) 3*16%256=((x.toNat%4*16:Nat):Int):=by rw[bt_eq];exact and3 ⟨x.toNat,hx⟩
   simp only[↓bD,bQ,reduceMul,reduceLeDiff,reduceEqDiff,reduceLT,reduceAdd,reduceSub,↓reduceIte,reduceCtorEq,reduceToNat,reducePow,Nat.reduceBEq,reduceDiv,S0b,S0f,a0,a1,byteAt0,byteAt1,byteAt2,q0,q1,Int.toNat_natCast,u8_get,hS]
   have s0:=byte_at S (x.toNat/4)
   have s1:=byte_at S (x.toNat%4*16)
   simp only[List.length_append,List.length_cons,List.length_nil]
   refine⟨by omega,by omega,by omega,by omega,by omega,by omega,by omega,by omega,by omega,by omega,s0.1,s0.2,s1.1,s1.2,by simp only[List.length_cons,List.length_nil] at hd;rw[hl,if_pos hi];omega,?_⟩
   refine RenC.intro [(nx,r+2)] ⟨[(4, .ro (.r nx))],[(nx, .row 5 (.by (spellF S p++spellF S [x])))],nx+1⟩ ?_ ?_<;>simp only[↓bD,bQ,reduceMul,reduceLeDiff,reduceEqDiff,reduceLT,reduceAdd,reduceSub,↓reduceIte,reduceCtorEq,reduceToNat,reducePow,Nat.reduceBEq,reduceDiv,n1]
   ·exact⟨rfl,by omega⟩
   ·exact Nat.le_refl _
  ·have c0:decide ((3:Int)≤((2:Nat):Int))=false:=rfl
   have c1:(((2:Nat):Int)==2)=true:=rfl
   simp only[↓bD,bQ,reduceMul,reduceLeDiff,reduceEqDiff,reduceLT,reduceAdd,reduceSub,↓reduceIte,reduceCtorEq,reduceToNat,reducePow,Nat.reduceBEq,reduceDiv,S0b,S0f,a0,a1,spell_app S p _ hi,c0,c1]
   refine DrawC.sch [(0,some []),(1,some []),(2,some []),(3,some []),(4,some []),(5,some []),(6,some []),(7,some []),(8,some []),(9,some []),(10,some []),(11,some []),(12,some []),(13,some []),(14,some []),(15,some []),(16,some []),(17,some []),(18,some []),(19,some []),(20,some []),(21,some []),(22,some []),(23,some []),(24,some []),(25,some []),(26,none),(27,none),(28,some [])] [] (by kernel_rfl) ?_
   have hx:=x.toNat_lt
   have hy:=y.toNat_lt
   have q0:((x.toNat:Nat):Int)/4=((x.toNat/4:Nat):Int):=by omega
   have q1:bt .and .u8 ((x.toNat:Nat):Int) 3*16%256=((x.toNat%4*16:Nat):Int):=by rw[bt_eq];exact and3 ⟨x.toNat,hx⟩
   have q2:((y.toNat:Nat):Int)/16=((y.toNat/16:Nat):Int):=by omega
   have q3:bt .or .u8 ((x.toNat%4*16:Nat):Int) ((y.toNat/16:Nat):Int)=((x.toNat%4*16+y.toNat/16:Nat):Int):=by rw[bt_eq];exact or8 ⟨x.toNat%4,by omega⟩ ⟨y.toNat/16,by omega⟩
   have q4:bt .and .u8 ((y.toNat:Nat):Int) 15*4%256=((y.toNat%16*4:Nat):Int):=by rw[bt_eq];exact and15 ⟨y.toNat,hy⟩
   simp only[↓bD,bQ,reduceMul,reduceLeDiff,reduceEqDiff,reduceLT,reduceAdd,reduceSub,↓reduceIte,reduceCtorEq,reduceToNat,reducePow,Nat.reduceBEq,reduceDiv,S0b,S0f,a0,a1,byteAt0,byteAt1,byteAt2,q0,q1,q2,q3,q4,Int.toNat_natCast,u8_get,hS]
   have s0:=byte_at S (x.toNat/4)
   have s1:=byte_at S (x.toNat%4*16+y.toNat/16)
   have s2:=byte_at S (y.toNat%16*4)
   simp only[List.length_append,List.length_cons,List.length_nil] at hb⊢
   rw[hl,if_pos hi]
   refine⟨by omega,by omega,by omega,by omega,by omega,by omega,by omega,by omega,by omega,by omega,by omega,by omega,by omega,by omega,by omega,by omega,by omega,by omega,s0.1,s0.2,s1.1,s1.2,s2.1,s2.2,by omega,?_⟩
   refine RenC.intro [(nx,r+2)] ⟨[(4, .ro (.r nx))],[(nx, .row 5 (.by (spellF S p++spellF S [x,y])))],nx+1⟩ ?_ ?_<;>simp only[↓bD,bQ,reduceMul,reduceLeDiff,reduceEqDiff,reduceLT,reduceAdd,reduceSub,↓reduceIte,reduceCtorEq,reduceToNat,reducePow,Nat.reduceBEq,reduceDiv,n1]
   ·exact⟨rfl,by omega⟩
   ·exact Nat.le_refl _
  ·have hx:=x.toNat_lt
   have hy:=y.toNat_lt
   have hz:=z.toNat_lt
   have hc:decide ((3:Int)≤((t.length+3:Nat):Int))=true:=decide_eq_true (by omega)
   obtain⟨N,hN,ho⟩: ∃N,x.toNat*65536+y.toNat*256+z.toNat=N∧bt .or .u64 (bt .or .u64 (wr .u64 (wr .u64 ((x.toNat:Nat):Int)*65536)) (wr .u64 (wr .u64 ((y.toNat:Nat):Int)*256))) (wr .u64 ((z.toNat:Nat):Int))=((N:Nat):Int):=⟨_,rfl,or3 hx hy hz⟩
   simp only[↓bD,bQ,reduceMul,reduceLeDiff,reduceEqDiff,reduceLT,reduceAdd,reduceSub,↓reduceIte,reduceCtorEq,reduceToNat,reducePow,Nat.reduceBEq,reduceDiv,S0b,S0f,a0,a1,hc,byteAt0,byteAt1,byteAt2,ho]
   refine⟨by omega,by omega,by omega,by omega,by omega,by omega,by omega,by omega,?_⟩
   refine DrawC.sch [(0,some []),(1,some []),(2,some []),(3,some []),(4,some []),(5,some []),(6,some []),(7,some []),(8,some []),(9,some []),(10,some []),(11,some []),(12,some []),(13,some []),(14,some []),(15,some []),(16,some []),(17,some []),(18,some []),(19,none),(20,none),(21,some [])] [] (by kernel_rfl) ?_
   have e0:((N:Nat):Int)/262144=((N/262144:Nat):Int):=by omega
   have e1:bt .and .u64 (((N:Nat):Int)/4096) 63=((N/4096%64:Nat):Int):=by rw[show((N:Nat):Int)/4096=((N/4096:Nat):Int) by omega];exact and63 (by omega)
   have e2:bt .and .u64 (((N:Nat):Int)/64) 63=((N/64%64:Nat):Int):=by rw[show((N:Nat):Int)/64=((N/64:Nat):Int) by omega];exact and63 (by omega)
   have e3:=and63 (n:=N) (by omega)
   have e4:(((t.length+3:Nat):Int)-3)=t.length:=by omega
   simp only[↓bD,bQ,reduceMul,reduceLeDiff,reduceEqDiff,reduceLT,reduceAdd,reduceSub,↓reduceIte,reduceCtorEq,reduceToNat,reducePow,Nat.reduceBEq,reduceDiv,S0b,S0f,a0,a1,e0,e1,e2,e3,Int.toNat_natCast,u8_get,hS]
   have s0:=byte_at S (N/262144)
   have s1:=byte_at S (N/4096%64)
   have s2:=byte_at S (N/64%64)
   have s3:=byte_at S (N%64)
   simp only[List.length_append,List.length_cons,List.length_nil]
   refine⟨by omega,by omega,by omega,by omega,by omega,by omega,by omega,by omega,by omega,by omega,by omega,s0.1,s0.2,s1.1,s1.2,s2.1,s2.2,s3.1,s3.2,?_,by omega,by omega,Again.intro (p++[x,y,z],t,r+2) ⟨by simp,by simp[hi],by simp only;omega⟩ (by simp only[List.length_cons];omega) ?_⟩
   ·rw[hl,if_pos hi]
    simp only[List.length_cons] at hd
    omega
   ·have b0:(r+2=r+1)=False:=eq_false (by omega)
    have b1:(r+1=r+2)=False:=eq_false (by omega)
    have b2:(r=r+2)=False:=eq_false (by omega)
    have b3:(r+2=r)=False:=eq_false (by omega)
    have f0:N/262144=x.toNat/4:=by omega
    have f1:N/4096%64=x.toNat%4*16+y.toNat/16:=by omega
    have f2:N/64%64=y.toNat%16*4+z.toNat/64:=by omega
    have f3:N%64=z.toNat%64:=by omega
    simp only[↓bD,bQ,reduceMul,reduceLeDiff,reduceEqDiff,reduceLT,reduceAdd,reduceSub,↓reduceIte,reduceCtorEq,reduceToNat,reducePow,Nat.reduceBEq,reduceDiv,spell_app S p _ hi,spellF,e4,b0,b1,b2,b3,f0,f1,f2,f3,Nat.add_sub_cancel,List.take_length]
    exact⟨rfl,Nat.le_refl _⟩
def SPlh:FuncId→List V→List (Nat×Ob)→Nat→HR:=fun f args h nx=>tabH [(63,fun _ nx=>hY fun b=>hS fun S=>hD (hF [S.length=64,b.length≤16777216] [] (.ro (.r nx)) [(nx, .row 5 (.by (spellF S b)))] (nx+1)))] noH f args h nx
theorem SPlh_ok (J:Inv):HTab Tryz.prog J SPlh:=tabH_ok (.c (fun _ nx=> .y fun b=> .s fun S=> .d (.F fun⟨c0,c1,_⟩=>spell_own J nx S b c0 c1))<| .n) noH_ok
def SPl (J:Inv) (b:Nat):Sig:=⟨J,sdf,S0f,SPlh,b⟩
theorem SPl_ok (J:Inv) (b:Nat):SigOk Tryz.prog (SPl J b):=⟨(S0_ok J).1,SPlh_ok J⟩
def encF (S b:List UInt8):List UInt8:=spellF S b++List.replicate ((4-(spellF S b).length%4)%4) 61
theorem encodeStd_fn (J:Inv) (b:List UInt8) (hb:b.length≤16777216):Fn Tryz.prog J 36 false [.by b] (.str (encF stdS b)):=by
 refine fnI Tryz.func36 rfl (by kernel_rfl) rfl (SPl_ok J 0) ?_
 unfold Tryz.f36
 have e0:[65,66,67,68,69,70,71,72,73,74,75,76,77,78,79,80,81,82,83,84,85,86,87,88,89,90,97,98,99,100,101,102,103,104,105,106,107,108,109,110,111,112,113,114,115,116,117,118,119,120,121,122,48,49,50,51,52,53,54,55,56,57,43,47]=stdS:=rfl
 simp only[↓bD,bQ,reduceMul,reduceLeDiff,reduceEqDiff,reduceLT,reduceAdd,reduceSub,↓reduceIte,reduceCtorEq,reduceToNat,reducePow,Nat.reduceBEq,reduceDiv,SPl,S0f,SPlh,e0]
 generalize hL:spellF stdS b=L
 have hl:=spell_len stdS b
 rw[hL] at hl
 have h64:stdS.length=64:=rfl
 have hlo:L.length≤33554432:=by
  rw[hl]
  split<;>omega
 have e1:encF stdS b=L++List.replicate ((4-L.length%4)%4) 61:=by rw[←hL];rfl
 rw[e1]
 simp only[List.length_append,List.length_cons,List.length_nil]
 refine⟨h64,hb,by omega,by omega,fun h=> ?_,fun h=>⟨fun h2=> ?_,fun h2=> ?_⟩⟩
 ·have h:=eq_of_beq h
  rw[show L.length%4=2 by omega,List.append_assoc]
  exact⟨by omega,by omega,by omega,by omega,by omega,by omega,rfl⟩
 ·have h2:=eq_of_beq h2
  rw[show L.length%4=3 by omega]
  exact⟨by omega,by omega,by omega,rfl⟩
 ·have h3:L.length%4≠1:=by
   rw[hl]
   split<;>omega
  have h:=beq_eq_false_iff_ne.1 h
  have h2:=beq_eq_false_iff_ne.1 h2
  rw[show L.length%4=0 by omega]
  exact(List.append_nil L).symm
end Go.Proofs.YtfengpdaocgcnaaGreatDoor
