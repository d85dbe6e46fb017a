/- SpkiWrites: the statement. For every input the call returns true and the input reads as it did, where what it reads is of bulk at most 1048576. The program's own package-level variables hold what its text lays. -/
import Derived.Test.YtfengpdaocgcnaaGreatDoorCards
import Derived.Test.YtfengpdaocgcnaaGreatDoorTie
import Derived.Deep.DeepHandedRow
import Derived.Carry
import Derived.Test.YtfengpdaocgcnaaGreatDoorT49
import Derived.ChangeMaps5
namespace Go.Proofs.YtfengpdaocgcnaaGreatDoor.SpkiWritesUpto
open Go.ChangeShapes Go.WideShapes Go.ChangeAt Go.RowKit
set_option maxRecDepth 100000
theorem own:ownKnob Tryz.prog.godebug=none:=by kernel_rfl
theorem laidOut:laidOutB Tryz.prog=true:=by kernel_rfl
theorem gTab:Tryz.prog.globalNamed "internal/strconv.uint64pow10" =some 4:=by kernel_rfl
theorem gTabType:(Tryz.prog.globals[4]?).map (·.type)=some 241:=by kernel_rfl
theorem cells20:Tryz.prog.cellsOf 241=20:=by kernel_rfl
theorem cells1:Tryz.prog.cellsOf 137=1:=by kernel_rfl
theorem cells8:Tryz.prog.cellsOf 200=8:=by kernel_rfl
theorem cells1w:Tryz.prog.cellsOf 156=1:=by kernel_rfl
theorem g0:Tryz.prog.globalNamed "signet/ed.primeLimbs" =some 0:=by kernel_rfl
theorem t0:(Tryz.prog.globals[0]?).map (·.type)=some 200:=by kernel_rfl
theorem tab0 {W:World} (h:laidMetH Tryz.prog Rows.spkiWritesUptoRow.laid W):Tab8 W (fun _=>False) 0 primeL:=
 tab8_of (Lib.tabIs_of_head g0 t0 Tryz.underlying200 Tryz.underlying156 cells1w cells8 (show laidMet Tryz.prog (("signet/ed.primeLimbs",Lib.tabData .u32 (primeL.map fun(n:Nat)=>(n:Int)))::_) W from (show laidMet Tryz.prog Rows.spkiWritesUptoRow.laid W from h).tail.tail.tail.tail.tail.tail)) g0 rfl
theorem g1:Tryz.prog.globalNamed "signet/ed.curveLimbs" =some 2:=by kernel_rfl
theorem t1:(Tryz.prog.globals[2]?).map (·.type)=some 200:=by kernel_rfl
theorem tab1 {W:World} (h:laidMetH Tryz.prog Rows.spkiWritesUptoRow.laid W):Tab8 W (fun _=>False) 2 curveL:=
 tab8_of (Lib.tabIs_of_head g1 t1 Tryz.underlying200 Tryz.underlying156 cells1w cells8 (show laidMet Tryz.prog (("signet/ed.curveLimbs",Lib.tabData .u32 (curveL.map fun(n:Nat)=>(n:Int)))::_) W from (show laidMet Tryz.prog Rows.spkiWritesUptoRow.laid W from h).tail.tail.tail.tail.tail.tail.tail)) g1 rfl
theorem g2:Tryz.prog.globalNamed "signet/ed.rootLimbs" =some 3:=by kernel_rfl
theorem t2:(Tryz.prog.globals[3]?).map (·.type)=some 200:=by kernel_rfl
theorem tab2 {W:World} (h:laidMetH Tryz.prog Rows.spkiWritesUptoRow.laid W):Tab8 W (fun _=>False) 3 rootL:=
 tab8_of (Lib.tabIs_of_head g2 t2 Tryz.underlying200 Tryz.underlying156 cells1w cells8 (show laidMet Tryz.prog (("signet/ed.rootLimbs",Lib.tabData .u32 (rootL.map fun(n:Nat)=>(n:Int)))::_) W from (show laidMet Tryz.prog Rows.spkiWritesUptoRow.laid W from h).tail.tail.tail.tail.tail.tail.tail.tail)) g2 rfl
theorem table {W:World} (h:laidMetH Tryz.prog Rows.spkiWritesUptoRow.laid W):Lib.TabIs Tryz.prog W "internal/strconv.uint64pow10" .u64 Lib.pow10Tab:=
 Lib.tabIs_of_head gTab gTabType Tryz.underlying241 Tryz.underlying137 cells1 cells20 (show laidMet Tryz.prog (("internal/strconv.uint64pow10",Lib.tabData .u64 Lib.pow10Tab)::_) W from (show laidMet Tryz.prog Rows.spkiWritesUptoRow.laid W from h).tail.tail)
theorem inv {W:World} (h:laidMetH Tryz.prog Rows.spkiWritesUptoRow.laid W) (hs:W.ShapedOpen Tryz.prog):JX.I W fun _=>False:=by
 have h':laidMet Tryz.prog Rows.spkiWritesUptoRow.laid W:=h
 have hm:=Go.Proofs.cell_of_shapedOpen_int (P:=Tryz.prog) (g:=1) (zero:= #[.int .i64 0]) (t:=3) hs (of_decide_eq_true (by kernel_rfl)) (by kernel_rfl) rfl (by kernel_rfl) (by kernel_rfl) Tryz.underlying3
 have e2:ErrAt W 5:=iface_cell (Lib.laidMet.reads h' (n:= "strconv.ErrSyntax") (d:=Rows.laid_strconv_ErrSyntax) (by simp[Rows.spkiWritesUptoRow])) (by kernel_rfl) (by kernel_rfl) Tryz.underlying65
 have e3:ErrAt W 6:=iface_cell (Lib.laidMet.reads h' (n:= "strconv.ErrRange") (d:=Rows.laid_strconv_ErrRange) (by simp[Rows.spkiWritesUptoRow])) (by kernel_rfl) (by kernel_rfl) Tryz.underlying65
 have e4:6<W.heap.size:=by obtain⟨ev,hc,_⟩:=e3;exact cell_lt hc
 exact⟨⟨tab0 h,tab1 h,tab2 h⟩,inv_of_tab gTab (table h),hm,e2,e3,by omega,fun _ _ h=>h⟩
theorem contract (H:Type) (enc:TypeId×Value→H) (W:World) (base:Nat) (args:Array Value) (ds gs:List (DataW H)) (before:List MemPlace)
  (hval: ∀(j:Nat) t v,Tryz.f3.params[j]?=some t→args[j]?=some v→Value.okWide Tryz.prog W .any base t v)
  (hW:DataW.Whole enc Tryz.prog Tryz.f3.params.toList Rows.spkiWritesSpec.vars false W args.toList ds gs before) (hcond:Rows.uptoSmall H (ds++gs)=true)
  (hsz:(DataW.weightsEach Tryz.prog (Tryz.f3.params.toList++Rows.spkiWritesSpec.plain.varTypes Tryz.prog) (ds++gs)).all (· ≤reachBytes)=true)
  (hL:laidMetH Tryz.prog Rows.spkiWritesUptoRow.laid W) (hSh:W.ShapedOpen Tryz.prog):
  Calls Tryz.prog 3 args W fun e W'=> ∃v,e= .returned v∧Rows.spkiWritesSpec.post enc Tryz.prog Tryz.f3 false true false false W args v W':=by
 have hW':=hW
 obtain⟨p,q,hA0,hV,rfl,hfz,hnd⟩:=hW
 have hA:DataW.TrodAll enc Tryz.prog W 0 (fun _=>true) true Tryz.f3.params.toList args.toList ds p:=hA0
 rw[Tryz.params3] at hA hval
 obtain⟨v0,vs0,d0,ds0,p0,q0,hargs,rfl,rfl,h0,r0⟩:=trodAll_cons hA
 obtain⟨rfl,rfl,rfl⟩:=trodAll_nil r0
 obtain rfl:args= #[v0]:=by cases args;simp_all
 obtain⟨rfl,rfl⟩:=trodVars_none hV
 simp only[Rows.uptoSmall,decide_eq_true_eq,List.append_nil,Rows.uptoBulkAll] at hcond
 have k0:=h0
 have lt0: ∀x∈p0,x.block<W.heap.size:=by obtain⟨m,hm⟩:=k0;exact DataW.trod_lt m _ _ _ hm
 obtain⟨kty,crv,s,n,e,x,y,hk,w0⟩:=arg_key Tryz.underlying26 (by kernel_rfl) rfl rfl rfl rfl rfl rfl rfl rfl rfl rfl rfl rfl rfl rfl (by kernel_rfl) (by kernel_rfl) (by kernel_rfl) Tryz.underlying22 Tryz.underlying23 Tryz.underlying24 Tryz.underlying5 (by kernel_rfl) (hval 0 26 v0 rfl rfl) h0 (by omega)
 clear hA0
 have hI:=inv hL hSh
 refine((SpkiWrites_fn JX jv_JX edT_JX ⟨kty,crv,s,n,e,x,y⟩ ⟨hk.1,hk.2.1,hk.2.2.1,hk.2.2.2.1,hk.2.2.2.2⟩).2 W (fun _=>False) [v0] hI (fun _ h=>h.elim) rfl fun i v x hv hx=> ?_).mono fun e W' ⟨y,he,hx,hy⟩=> ?_
 ·match i,hv,hx with
  |0,hv,hx=>obtain rfl:=Option.some.inj hv;obtain rfl:=Option.some.inj hx;exact w0
  |n+1,hv,_=>simp at hv
 ·subst he
  obtain rfl:=rep_bb hy
  exact⟨_,rfl,_,_,_,[],_,[],hW',trodAll_mk1 (shut_bool Tryz.underlying4 _),(trodAll_mk1 (Below.trod laidOut (by kernel_rfl) (of_decide_eq_true (by kernel_rfl)) k0 hx lt0)),rfl,hx.frame _,fun h=>by cases h⟩
def setG (h:Array Obj) (g:Nat) (cs:Array Value):Array Obj:=
 h.modify g fun
  | .cells _ t frozen=> .cells cs t frozen
  |o=>o
abbrev sRange:ByteArray:=⟨#[118,97,108,117,101,32,111,117,116,32,111,102,32,114,97,110,103,101]⟩
abbrev sSyntax:ByteArray:=⟨#[105,110,118,97,108,105,100,32,115,121,110,116,97,120]⟩
noncomputable def low:Nat:=(World.holding Tryz.prog default ⟨#[], #[],[]⟩).heap.size
noncomputable def base (os:Os):World:=World.holding Tryz.prog os ⟨#[.cells #[.string sRange] 286, .cells #[.string sSyntax] 286], #[],[]⟩
noncomputable def laidWorld (os:Os):World:=
 {base os with heap:=setG (setG (setG (setG (setG (setG (setG (setG (setG (setG (base os).heap 4 #[.int .u64 1, .int .u64 10, .int .u64 100, .int .u64 1000, .int .u64 10000, .int .u64 100000, .int .u64 1000000, .int .u64 10000000, .int .u64 100000000, .int .u64 1000000000, .int .u64 10000000000, .int .u64 100000000000, .int .u64 1000000000000, .int .u64 10000000000000, .int .u64 100000000000000, .int .u64 1000000000000000, .int .u64 10000000000000000, .int .u64 100000000000000000, .int .u64 1000000000000000000, .int .u64 10000000000000000000]) 7 #[.int .u8 0, .int .u8 1, .int .u8 28, .int .u8 2, .int .u8 29, .int .u8 14, .int .u8 24, .int .u8 3, .int .u8 30, .int .u8 22, .int .u8 20, .int .u8 15, .int .u8 25, .int .u8 17, .int .u8 4, .int .u8 8, .int .u8 31, .int .u8 27, .int .u8 13, .int .u8 23, .int .u8 21, .int .u8 19, .int .u8 16, .int .u8 7, .int .u8 26, .int .u8 12, .int .u8 18, .int .u8 6, .int .u8 11, .int .u8 5, .int .u8 10, .int .u8 9]) 8 #[.int .u8 0, .int .u8 1, .int .u8 56, .int .u8 2, .int .u8 57, .int .u8 49, .int .u8 28, .int .u8 3, .int .u8 61, .int .u8 58, .int .u8 42, .int .u8 50, .int .u8 38, .int .u8 29, .int .u8 17, .int .u8 4, .int .u8 62, .int .u8 47, .int .u8 59, .int .u8 36, .int .u8 45, .int .u8 43, .int .u8 51, .int .u8 22, .int .u8 53, .int .u8 39, .int .u8 33, .int .u8 30, .int .u8 24, .int .u8 18, .int .u8 12, .int .u8 5, .int .u8 63, .int .u8 55, .int .u8 48, .int .u8 27, .int .u8 60, .int .u8 41, .int .u8 37, .int .u8 16, .int .u8 46, .int .u8 35, .int .u8 44, .int .u8 21, .int .u8 52, .int .u8 32, .int .u8 23, .int .u8 11, .int .u8 54, .int .u8 26, .int .u8 40, .int .u8 15, .int .u8 34, .int .u8 20, .int .u8 31, .int .u8 10, .int .u8 25, .int .u8 14, .int .u8 19, .int .u8 9, .int .u8 13, .int .u8 8, .int .u8 7, .int .u8 6]) 6 #[.iface 284 (.pointer (some ⟨low,0,none⟩))]) 5 #[.iface 284 (.pointer (some ⟨low+1,0,none⟩))]) 9 #[.int .u8 240, .int .u8 240, .int .u8 240, .int .u8 240, .int .u8 240, .int .u8 240, .int .u8 240, .int .u8 240, .int .u8 240, .int .u8 240, .int .u8 240, .int .u8 240, .int .u8 240, .int .u8 240, .int .u8 240, .int .u8 240, .int .u8 240, .int .u8 240, .int .u8 240, .int .u8 240, .int .u8 240, .int .u8 240, .int .u8 240, .int .u8 240, .int .u8 240, .int .u8 240, .int .u8 240, .int .u8 240, .int .u8 240, .int .u8 240, .int .u8 240, .int .u8 240, .int .u8 240, .int .u8 240, .int .u8 240, .int .u8 240, .int .u8 240, .int .u8 240, .int .u8 240, .int .u8 240, .int .u8 240, .int .u8 240, .int .u8 240, .int .u8 240, .int .u8 240, .int .u8 240, .int .u8 240, .int .u8 240, .int .u8 240, .int .u8 240, .int .u8 240, .int .u8 240, .int .u8 240, .int .u8 240, .int .u8 240, .int .u8 240, .int .u8 240, .int .u8 240, .int .u8 240, .int .u8 240, .int .u8 240, .int .u8 240, .int .u8 240, .int .u8 240, .int .u8 240, .int .u8 240, .int .u8 240, .int .u8 240, .int .u8 240, .int .u8 240, .int .u8 240, .int .u8 240, .int .u8 240, .int .u8 240, .int .u8 240, .int .u8 240, .int .u8 240, .int .u8 240, .int .u8 240, .int .u8 240, .int .u8 240, .int .u8 240, .int .u8 240, .int .u8 240, .int .u8 240, .int .u8 240, .int .u8 240, .int .u8 240, .int .u8 240, .int .u8 240, .int .u8 240, .int .u8 240, .int .u8 240, .int .u8 240, .int .u8 240, .int .u8 240, .int .u8 240, .int .u8 240, .int .u8 240, .int .u8 240, .int .u8 240, .int .u8 240, .int .u8 240, .int .u8 240, .int .u8 240, .int .u8 240, .int .u8 240, .int .u8 240, .int .u8 240, .int .u8 240, .int .u8 240, .int .u8 240, .int .u8 240, .int .u8 240, .int .u8 240, .int .u8 240, .int .u8 240, .int .u8 240, .int .u8 240, .int .u8 240, .int .u8 240, .int .u8 240, .int .u8 240, .int .u8 240, .int .u8 240, .int .u8 240, .int .u8 240, .int .u8 240, .int .u8 241, .int .u8 241, .int .u8 241, .int .u8 241, .int .u8 241, .int .u8 241, .int .u8 241, .int .u8 241, .int .u8 241, .int .u8 241, .int .u8 241, .int .u8 241, .int .u8 241, .int .u8 241, .int .u8 241, .int .u8 241, .int .u8 241, .int .u8 241, .int .u8 241, .int .u8 241, .int .u8 241, .int .u8 241, .int .u8 241, .int .u8 241, .int .u8 241, .int .u8 241, .int .u8 241, .int .u8 241, .int .u8 241, .int .u8 241, .int .u8 241, .int .u8 241, .int .u8 241, .int .u8 241, .int .u8 241, .int .u8 241, .int .u8 241, .int .u8 241, .int .u8 241, .int .u8 241, .int .u8 241, .int .u8 241, .int .u8 241, .int .u8 241, .int .u8 241, .int .u8 241, .int .u8 241, .int .u8 241, .int .u8 241, .int .u8 241, .int .u8 241, .int .u8 241, .int .u8 241, .int .u8 241, .int .u8 241, .int .u8 241, .int .u8 241, .int .u8 241, .int .u8 241, .int .u8 241, .int .u8 241, .int .u8 241, .int .u8 241, .int .u8 241, .int .u8 241, .int .u8 241, .int .u8 2, .int .u8 2, .int .u8 2, .int .u8 2, .int .u8 2, .int .u8 2, .int .u8 2, .int .u8 2, .int .u8 2, .int .u8 2, .int .u8 2, .int .u8 2, .int .u8 2, .int .u8 2, .int .u8 2, .int .u8 2, .int .u8 2, .int .u8 2, .int .u8 2, .int .u8 2, .int .u8 2, .int .u8 2, .int .u8 2, .int .u8 2, .int .u8 2, .int .u8 2, .int .u8 2, .int .u8 2, .int .u8 2, .int .u8 2, .int .u8 19, .int .u8 3, .int .u8 3, .int .u8 3, .int .u8 3, .int .u8 3, .int .u8 3, .int .u8 3, .int .u8 3, .int .u8 3, .int .u8 3, .int .u8 3, .int .u8 3, .int .u8 35, .int .u8 3, .int .u8 3, .int .u8 52, .int .u8 4, .int .u8 4, .int .u8 4, .int .u8 68, .int .u8 241, .int .u8 241, .int .u8 241, .int .u8 241, .int .u8 241, .int .u8 241, .int .u8 241, .int .u8 241, .int .u8 241, .int .u8 241, .int .u8 241]) 10 #[.int .u8 128, .int .u8 191, .int .u8 160, .int .u8 191, .int .u8 128, .int .u8 159, .int .u8 144, .int .u8 191, .int .u8 128, .int .u8 143, .int .u8 0, .int .u8 0, .int .u8 0, .int .u8 0, .int .u8 0, .int .u8 0, .int .u8 0, .int .u8 0, .int .u8 0, .int .u8 0, .int .u8 0, .int .u8 0, .int .u8 0, .int .u8 0, .int .u8 0, .int .u8 0, .int .u8 0, .int .u8 0, .int .u8 0, .int .u8 0, .int .u8 0, .int .u8 0]) 0 #[.int .u32 4294967277, .int .u32 4294967295, .int .u32 4294967295, .int .u32 4294967295, .int .u32 4294967295, .int .u32 4294967295, .int .u32 4294967295, .int .u32 2147483647]) 2 #[.int .u32 324630691, .int .u32 1978355146, .int .u32 1094834347, .int .u32 7342669, .int .u32 2004478104, .int .u32 2361868409, .int .u32 728759923, .int .u32 1375956206]) 3 #[.int .u32 3052494653, .int .u32 991028440, .int .u32 1389370247, .int .u32 3502041081, .int .u32 3255052376, .int .u32 3568500582, .int .u32 2956861684, .int .u32 1417468799]}
theorem laid_met (os:Os):laidMet Tryz.prog Rows.spkiWritesUptoRow.laid ((laidWorld os).forCall (fun _ _=>0) ⟨#[], #[.agg #[.int .i64 0, .int .i64 0, .slice none 0 0, .slice none 0 0, .slice none 0 0, .slice none 0 0, .slice none 0 0]],[]⟩).memory:=
 laidMet_of_run' 8 (by kernel_rfl) (by kernel_rfl)
theorem reads (os:Os) {H:Type} (enc:TypeId×Value→H): ∃places,DataW.whole enc Tryz.prog ((laidWorld os).forCall (fun _ _=>0) ⟨#[], #[.agg #[.int .i64 0, .int .i64 0, .slice none 0 0, .slice none 0 0, .slice none 0 0, .slice none 0 0, .slice none 0 0]],[]⟩).memory Tryz.f3.params.toList Rows.spkiWritesSpec.vars false (#[.agg #[.int .i64 0, .int .i64 0, .slice none 0 0, .slice none 0 0, .slice none 0 0, .slice none 0 0, .slice none 0 0]]:Array Value).toList 8=some ([.agg [.lit (.int .i64 0), .lit (.int .i64 0), .nil, .nil, .nil, .nil, .nil]],[],places):=
 ⟨[],by kernel_rfl⟩
set_option maxRecDepth 100000 in
theorem lifted (os:Os) (started:os.Started) (H:Type) (enc:TypeId×Value→H) (F:Stop.Interp):
  ReturnsInHanded {} Tryz.checked os 3 .any ((Rows.OpenSpec.upto Rows.spkiWritesSpec).preRow enc Tryz.prog Tryz.f3 Rows.spkiWritesUptoRow.domain false Rows.spkiWritesUptoRow.laid) (((Rows.OpenSpec.upto Rows.spkiWritesSpec).at F).post enc Tryz.prog Tryz.f3 false true false false):=by
 obtain⟨places,hx⟩:=reads os enc
 refine returnsInHanded_of_row (C:=Tryz.checked) (s:=(Rows.OpenSpec.upto Rows.spkiWritesSpec)) own started (by kernel_rfl) Tryz.func3
  (witness_row_at (enc:=enc) (C:=Tryz.checked) false (laidWorld os) #[.agg #[.int .i64 0, .int .i64 0, .slice none 0 0, .slice none 0 0, .slice none 0 0, .slice none 0 0, .slice none 0 0]] rfl (by kernel_rfl) (by kernel_rfl) (by kernel_rfl)
   (OpenSpec.preRow_of_cond 8 hx (by kernel_rfl) (fun k hk=>by cases hk;kernel_rfl) (by kernel_rfl) (laid_met os))) ?_
 intro W base args ds gs before hval hW _ hcond hsz hL hSh _
 exact contract H enc W base args ds gs before hval hW (hcond _ rfl) hsz hL hSh
theorem fact0:Tryz.prog.inPlace 3=Rows.spkiWritesUptoRow.inPlace:=by kernel_rfl
theorem fact1:Tryz.prog.unfollowed 3=Rows.spkiWritesUptoRow.unfollowed:=by kernel_rfl
theorem fact2:Tryz.prog.recurses 3=Rows.spkiWritesUptoRow.recurses:=by kernel_rfl
theorem fact3:Tryz.prog.varsNamed 3=Rows.spkiWritesUptoRow.named:=by kernel_rfl
theorem facts:joinedFacts Tryz.prog 3 Tryz.f3 (Rows.OpenSpec.upto Rows.spkiWritesSpec).bare Rows.spkiWritesUptoRow=true:=by
 unfold joinedFacts
 rw[fact0,fact1,fact2,fact3,laidOut]
 kernel_rfl
set_option maxRecDepth 100000 in
theorem said:Rows.SpkiWritesUptoSaid:=
 OpenClaim.holds_of_cond 3 Tryz.f3 rfl rfl rfl rfl rfl rfl rfl ⟨rfl,rfl,rfl,rfl,rfl⟩ rfl rfl rfl rfl rfl (by kernel_rfl) Tryz.func3 facts
  (of_decide_eq_true (by kernel_rfl)) (by unfold Func.isWrapper;first|(rw[if_pos (by decide+kernel)];kernel_rfl)|(rw[if_neg (by decide+kernel)];exact⟨rfl,rfl⟩))
  (fun os started H enc _ F=>by rw[OpenClaim.pre_eq_preRow];exact lifted os started H enc F)
theorem plain (f:FuncId) (fn:Func) (hf:Tryz.pinned.checked.prog.funcNamed "signet/signetlaw14.SpkiWrites" =some f) (hfn:Tryz.pinned.checked.prog.funcs[f]?=some fn):
  true=Tryz.pinned.checked.prog.looks []∧ ∀(j:Nat) t,fn.params[j]?=some t→Tryz.pinned.checked.prog.wantsStandIn t=false:=by
 obtain rfl:f=3:=Option.some.inj ((show Tryz.prog.funcNamed "signet/signetlaw14.SpkiWrites" =some 3 by kernel_rfl).symm.trans hf)|>.symm
 obtain rfl:fn=Tryz.f3:=(Option.some.inj (Tryz.func3.symm.trans hfn)).symm
 refine⟨by kernel_rfl,fun j t ht=> ?_⟩
 rw[Tryz.params3] at ht
 have hm:=Array.mem_of_getElem? ht
 simp only[List.mem_toArray,List.mem_cons,List.not_mem_nil,or_false] at hm
 obtain rfl:=hm
 exact(show Tryz.prog.wantsStandIn 26=false by kernel_rfl)
end Go.Proofs.YtfengpdaocgcnaaGreatDoor.SpkiWritesUpto
namespace Go.Proofs.YtfengpdaocgcnaaGreatDoor
theorem SpkiWritesUpto_holds:Rows.SpkiWritesUptoCardSaid:=
 Claim7.holds_tied_plain_at .later [] _ _ _ _ SpkiWritesUpto.said (fun _ h=>by cases h) (by kernel_rfl) (fun _ h=>by cases h) spkiWritesUpto_row_tie rfl ⟨rfl,rfl⟩ (by kernel_rfl) rfl SpkiWritesUpto.plain (by kernel_rfl)
#print axioms SpkiWritesUpto_holds
end Go.Proofs.YtfengpdaocgcnaaGreatDoor
