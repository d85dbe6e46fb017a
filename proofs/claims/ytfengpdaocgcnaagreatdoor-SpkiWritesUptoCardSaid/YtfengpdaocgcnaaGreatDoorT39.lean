/- A key's bytes, put together from their parts. Plain Lean. der.Uint: its answer is memory of one's own (out of dn:NOw). -/
import Derived.Test.YtfengpdaocgcnaaGreatDoorT38
import Derived.Test.YtfengpdaocgcnaaGreatDoorT33
import Derived.Test.YtfengpdaocgcnaaGreatDoorT34
namespace Go.Proofs.YtfengpdaocgcnaaGreatDoor
set_option linter.unusedSimpArgs false
set_option maxRecDepth 100000
def wrapB (t:Int) (b:List UInt8):List UInt8:=u8 t::(lenF b.length++b)
theorem wrapB_len (t:Int) (b:List UInt8):(wrapB t b).length=szOf b.length:=by
 unfold wrapB szOf
 rw[List.length_cons,List.length_append]
 omega
theorem print_fl {ts:List Tlv} (h:(printF ts).2=0):(printF ts).1=fl ts (inI ts) 0 ts.length:=by
 have h1:shapedF ts=true:=by
  cases e:shapedF ts
  ·unfold printF at h;rw[if_pos e] at h;simp at h
  ·rfl
 have h2: ¬bigF ts=true:=fun e=>by unfold printF at h;rw[if_neg (by rw[h1];simp),if_pos e] at h;simp at h
 unfold printF
 rw[if_neg (by rw[h1];simp),if_neg h2]
theorem wrap_3 {p q:Tlv} (hp:Prim p) (hq:Prim q) (h1:p.data.length≤3000) (h2:q.data.length≤3000):(printF [⟨48,[],2⟩,p,q]).1=wrapB 48 (wrapB p.tag p.data++wrapB q.tag q.data):=by
 obtain⟨ts,hts⟩: ∃ts,([⟨48,[],2⟩,p,q]:List Tlv)=ts:=⟨_,rfl⟩
 have hok:=(print_3 hp hq h1 h2).1
 rw[hts] at hok⊢
 have a1:=fun d=>prim_at (ts:=ts) (x:=1) (by rw[←hts];rfl) hp d
 have a2:=fun d=>prim_at (ts:=ts) (x:=2) (by rw[←hts];rfl) hq d
 have a0:=(node_at (ts:=ts) (x:=0) (n:=2) (by rw[←hts];rfl) (d:=31) (b:=3) (by simp only[stK,Nat.zero_add,(a1 31).1,(a2 31).1])).2
 simp only[kdN,nxG,Nat.zero_add,(a1 31).1,(a1 31).2,(a2 31).2,Option.getD_some,Nat.add_zero] at a0
 have i0:inI ts 0=(wrapB p.tag p.data++wrapB q.tag q.data).length:=by rw[List.length_append,wrapB_len,wrapB_len];exact a0
 have i1:inI ts 1=p.data.length:=(a1 32).2
 have i2:inI ts 2=q.data.length:=(a2 32).2
 rw[print_fl hok]
 have hl:ts.length=3:=by rw[←hts];rfl
 rw[hl]
 simp only[fl,pieceT,Nat.zero_add,i0,i1,i2]
 rw[←hts]
 simp only[tagT,datT,List.getD_cons_zero,List.getD_cons_succ,List.append_nil]
 unfold wrapB
 simp only[List.cons_append,List.append_assoc]
theorem wrap_4 {p r:Tlv} (hp:Prim p) (hr:Prim r) (h1:p.data.length≤3000) (h3:r.data.length≤10000):(printF [⟨48,[],2⟩,⟨48,[],1⟩,p,r]).1=wrapB 48 (wrapB 48 (wrapB p.tag p.data)++wrapB r.tag r.data):=by
 obtain⟨ts,hts⟩: ∃ts,([⟨48,[],2⟩,⟨48,[],1⟩,p,r]:List Tlv)=ts:=⟨_,rfl⟩
 have hok:=print_4 hp hr h1 h3
 rw[hts] at hok⊢
 have a2:=fun d=>prim_at (ts:=ts) (x:=2) (by rw[←hts];rfl) hp d
 have a3:=fun d=>prim_at (ts:=ts) (x:=3) (by rw[←hts];rfl) hr d
 have a1:=fun d=>node_at (ts:=ts) (x:=1) (n:=1) (by rw[←hts];rfl) (d:=d) (b:=3) (by simp only[stK,Nat.reduceAdd,(a2 d).1])
 have a0:=(node_at (ts:=ts) (x:=0) (n:=2) (by rw[←hts];rfl) (d:=31) (b:=4) (by simp only[stK,Nat.zero_add,(a1 30).1,(a3 31).1])).2
 have b1:=fun d=>(a1 d).2
 simp only[kdN,Nat.reduceAdd,a2,Nat.add_zero] at b1
 simp only[kdN,nxG,Nat.zero_add,Nat.reduceAdd,(a1 30).1,b1,(a3 31).2,Option.getD_some,Nat.add_zero] at a0
 have i1:inI ts 1=(wrapB p.tag p.data).length:=by rw[wrapB_len];exact b1 31
 have i0:inI ts 0=(wrapB 48 (wrapB p.tag p.data)++wrapB r.tag r.data).length:=by rw[List.length_append,wrapB_len,wrapB_len,wrapB_len];exact a0
 have i2:inI ts 2=p.data.length:=(a2 32).2
 have i3:inI ts 3=r.data.length:=(a3 32).2
 rw[print_fl hok]
 have hl:ts.length=4:=by rw[←hts];rfl
 rw[hl]
 simp only[fl,pieceT,Nat.zero_add,Nat.reduceAdd,i0,i1,i2,i3]
 rw[←hts]
 simp only[tagT,datT,List.getD_cons_zero,List.getD_cons_succ,List.append_nil]
 unfold wrapB
 simp only[List.cons_append,List.append_assoc]
theorem wrap_5 {p q r:Tlv} (hp:Prim p) (hq:Prim q) (hr:Prim r) (h1:p.data.length≤3000) (h2:q.data.length≤3000) (h3:r.data.length≤10000):(printF [⟨48,[],2⟩,⟨48,[],2⟩,p,q,r]).1=wrapB 48 (wrapB 48 (wrapB p.tag p.data++wrapB q.tag q.data)++wrapB r.tag r.data):=by
 obtain⟨ts,hts⟩: ∃ts,([⟨48,[],2⟩,⟨48,[],2⟩,p,q,r]:List Tlv)=ts:=⟨_,rfl⟩
 have hok:=print_5 hp hq hr h1 h2 h3
 rw[hts] at hok⊢
 have a2:=fun d=>prim_at (ts:=ts) (x:=2) (by rw[←hts];rfl) hp d
 have a3:=fun d=>prim_at (ts:=ts) (x:=3) (by rw[←hts];rfl) hq d
 have a4:=fun d=>prim_at (ts:=ts) (x:=4) (by rw[←hts];rfl) hr d
 have a1:=fun d=>node_at (ts:=ts) (x:=1) (n:=2) (by rw[←hts];rfl) (d:=d) (b:=4) (by simp only[stK,Nat.reduceAdd,(a2 d).1,(a3 d).1])
 have a0:=(node_at (ts:=ts) (x:=0) (n:=2) (by rw[←hts];rfl) (d:=31) (b:=5) (by simp only[stK,Nat.zero_add,(a1 30).1,(a4 31).1])).2
 have b1:=fun d=>(a1 d).2
 simp only[kdN,nxG,Nat.reduceAdd,a2,a3,Option.getD_some,Nat.add_zero] at b1
 simp only[kdN,nxG,Nat.zero_add,Nat.reduceAdd,(a1 30).1,b1,(a4 31).2,Option.getD_some,Nat.add_zero] at a0
 have i1:inI ts 1=(wrapB p.tag p.data++wrapB q.tag q.data).length:=by rw[List.length_append,wrapB_len,wrapB_len];exact b1 31
 have i0:inI ts 0=(wrapB 48 (wrapB p.tag p.data++wrapB q.tag q.data)++wrapB r.tag r.data).length:=by rw[List.length_append,wrapB_len,wrapB_len,List.length_append,wrapB_len,wrapB_len];exact a0
 have i2:inI ts 2=p.data.length:=(a2 32).2
 have i3:inI ts 3=q.data.length:=(a3 32).2
 have i4:inI ts 4=r.data.length:=(a4 32).2
 rw[print_fl hok]
 have hl:ts.length=5:=by rw[←hts];rfl
 rw[hl]
 simp only[fl,pieceT,Nat.zero_add,Nat.reduceAdd,i0,i1,i2,i3,i4]
 rw[←hts]
 simp only[tagT,datT,List.getD_cons_zero,List.getD_cons_succ,List.append_nil]
 unfold wrapB
 simp only[List.cons_append,List.append_assoc]
open Nat (reduceMul reduceLeDiff reduceEqDiff reduceLT reduceAdd reduceSub reduceDiv)
open Int (reduceToNat reducePow)
open Go.RowKit
section
variable {P:Program} {G:Sig}
end
end Go.Proofs.YtfengpdaocgcnaaGreatDoor
