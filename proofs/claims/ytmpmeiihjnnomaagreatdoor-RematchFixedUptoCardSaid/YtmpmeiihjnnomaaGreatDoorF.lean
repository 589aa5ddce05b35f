/- The law RematchFixed answers true for every input of bulk at most 1048576, and its arguments read as before; the listed tables and sentinels are tied to the text of the program. -/
import Derived.Test.YtmpmeiihjnnomaaGreatDoorCards
import Derived.Test.YtmpmeiihjnnomaaGreatDoorTie
import Derived.SevenTiedAt
import Derived.Test.YtmpmeiihjnnomaaGreatDoorGl
import Derived.Test.YtmpmeiihjnnomaaGreatDoorGn
import Derived.Test.YtmpmeiihjnnomaaGreatDoorGpw
import Derived.Test.YtmpmeiihjnnomaaGreatDoorRows
import Derived.Test.YtmpmeiihjnnomaaGreatDoorGo
import Derived.Test.YtmpmeiihjnnomaaGreatDoorP3
import Derived.Test.YtmpmeiihjnnomaaGreatDoorS1
namespace Go.Proofs.YtmpmeiihjnnomaaGreatDoor.rematchFixedF
open Go.ChangeShapes Go.WideShapes Go.ChangeAt Go.RowKit Go.Gv Go.Gv.D
set_option linter.all false
theorem own:ownKnob Tryz.prog.godebug=none:=by kernel_rfl
theorem laidOut:laidOutB Tryz.prog=true:=by kernel_rfl
theorem o9:Opens Tryz.prog 9 sE (fun s=>s.size≤maxLen) (fun s=>s.size+1):=(opens_string Tryz.underlying9 (by kernel_rfl))
theorem o3:Opens Tryz.prog 3 (iE .i64) (inK .i64) (fun _=>1):=(opens_int Tryz.underlying3 (by kernel_rfl))
mutual
theorem bulk_eq {H:Type}:∀ d:DataW H,Rows.uptoBulk d=bulk d
 | .lit l=>by cases l<;>simp[Rows.uptoBulk,bulk]
 | .nil=>by simp[Rows.uptoBulk,bulk]
 | .ptr d=>by simp[Rows.uptoBulk,bulk,bulk_eq d]
 | .slice a b=>by simp[Rows.uptoBulk,bulk,bulkAll_eq a,bulkAll_eq b]
 | .agg a=>by simp[Rows.uptoBulk,bulk,bulkAll_eq a]
 | .iface _ d=>by simp[Rows.uptoBulk,bulk,bulk_eq d]
 | .map m=>by simp[Rows.uptoBulk,bulk,bulkEntries_eq m]
 | .held _=>by simp[Rows.uptoBulk,bulk]
theorem bulkAll_eq {H:Type}:∀ l:List (DataW H),Rows.uptoBulkAll l=bulkAll l
 | []=>by simp[Rows.uptoBulkAll,bulkAll]
 | d::r=>by simp[Rows.uptoBulkAll,bulkAll,bulk_eq d,bulkAll_eq r]
theorem bulkEntries_eq {H:Type}:∀ l:List (Lit × DataW H),Rows.uptoBulkEntries l=bulkEntries l
 | []=>by simp[Rows.uptoBulkEntries,bulkEntries]
 | d::r=>by simp[Rows.uptoBulkEntries,bulkEntries,bulkEntry_eq d,bulkEntries_eq r]
theorem bulkEntry_eq {H:Type}:∀ x:Lit × DataW H,Rows.uptoBulkEntry x=bulkEntry x
 | (l,d)=>by cases l<;>simp[Rows.uptoBulkEntry,bulkEntry,bulk_eq d]
end
theorem gn3 : Tryz.prog.globalNamed "internal/strconv.uint64pow10" = some 3 := by kernel_rfl
theorem gt3:(Tryz.prog.globals[3]?).map (·.type)=some 207:=by kernel_rfl
theorem dt3:(Lib.tabData .u64 Lib.pow10Tab:DataW Unit)=Rows.laid_internal_strconv_uint64pow10:=by kernel_rfl
theorem hg3 {W:World} (hL:laidMetH Tryz.prog Rows.rematchFixedUptoRow.laid W):Rd (tabE 3 pow10C) W (fun k=>k<W.heap.size) (some ⟨3,0,none⟩) 1 [.int .u64 1]:=
 rd_pow10 gn3 gt3 Tryz.underlying207 Tryz.underlying159 (by kernel_rfl) (by kernel_rfl) (by rw [dt3]; exact Lib.laidMet.reads hL (n := "internal/strconv.uint64pow10") (d := Rows.laid_internal_strconv_uint64pow10) (.tail _ (.tail _ (.head _))))
theorem gn1 : Tryz.prog.globalNamed "unicode/utf8.acceptRanges" = some 1 := by kernel_rfl
theorem gt1:(Tryz.prog.globals[1]?).map (·.type)=some 143:=by kernel_rfl
theorem dt1:((.agg (utf8Acc.map fun z=>.agg [.lit (.int .u8 z.1),.lit (.int .u8 z.2)])):DataW Unit)=Rows.laid_unicode_utf8_acceptRanges:=by kernel_rfl
theorem hg1 {W:World} (hL:laidMetH Tryz.prog Rows.rematchFixedUptoRow.laid W):Rd (prE (iE .u8) (iE .u8)) W (fun k=>k<W.heap.size) (some ⟨1,0,none⟩) 16 utf8Acc:=by
 have h0 := Lib.laidMet.reads hL (n := "unicode/utf8.acceptRanges") (d := Rows.laid_unicode_utf8_acceptRanges) (.tail _ (.tail _ (.tail _ (.head _))))
 rw[← dt1]at h0
 have h1:=rd_pairs (zs:=utf8Acc) utf8Acc_len gn1 gt1 Tryz.underlying143 Tryz.underlying142 (by kernel_rfl) rfl (fun j f hj=>by
  match j,hj with
  | 0,hj=>simp at hj;subst hj;exact ⟨Tryz.underlying5,rfl,(by kernel_rfl)⟩
  | 1,hj=>simp at hj;subst hj;exact ⟨Tryz.underlying5,rfl,(by kernel_rfl)⟩
  | j+2,hj=>simp at hj) h0
 rw[utf8Acc_len]at h1
 exact h1
theorem gn7 : Tryz.prog.globalNamed "strconv.ErrRange" = some 7 := by kernel_rfl
theorem gt7:(Tryz.prog.globals[7]?).map (·.type)=some 99:=by kernel_rfl
theorem gn6 : Tryz.prog.globalNamed "strconv.ErrSyntax" = some 6 := by kernel_rfl
theorem gt6:(Tryz.prog.globals[6]?).map (·.type)=some 99:=by kernel_rfl
theorem gn0 : Tryz.prog.globalNamed "unicode/utf8.first" = some 0 := by kernel_rfl
theorem gt0:(Tryz.prog.globals[0]?).map (·.type)=some 140:=by kernel_rfl
theorem dt0:((Lib.tabData .u8 (utf8First.map fun z=>(z.toNat:Int))):DataW Unit)=Rows.laid_unicode_utf8_first:=by kernel_rfl
theorem hg0 {W:World} (hL:laidMetH Tryz.prog Rows.rematchFixedUptoRow.laid W):Rd bE W (fun k=>k<W.heap.size) (some ⟨0,0,none⟩) 256 utf8First:=by
 have h0 := Lib.laidMet.reads hL (n := "unicode/utf8.first") (d := Rows.laid_unicode_utf8_first) (.tail _ (.tail _ (.tail _ (.tail _ (.tail _ (.tail _ (.head _)))))))
 rw[← dt0]at h0
 have h1:=rd_tab (zs:=utf8First) gn0 gt0 Tryz.underlying140 Tryz.underlying5 (by kernel_rfl) (by kernel_rfl) h0
 rw[utf8First_len]at h1
 exact h1
theorem hg2 {W:World} (hSh:W.ShapedOpen Tryz.prog):∃ m,Rd (iE .i64) W (fun k=>k<W.heap.size) (some ⟨2,0,none⟩) 1 [m]:=
 rd_cell (cell_of_shapedOpen_int (g:=2) (zero:= #[.int .i64 0]) (t:=3) (k:=.i64) hSh (of_decide_eq_true (by kernel_rfl)) (by kernel_rfl) rfl (by kernel_rfl) (by kernel_rfl) Tryz.underlying3)
set_option maxRecDepth 100000 in
set_option maxHeartbeats 4000000 in
theorem contract (H:Type) (enc:TypeId × Value→H) (W:World) (base:Nat) (args:Array Value) (ds gs:List (DataW H)) (before:List MemPlace)
 (hval:∀ (j:Nat) t v,Tryz.f8.params[j]? =some t→args[j]? =some v→Value.okWide Tryz.prog W .any base t v)
 (hW:DataW.Whole enc Tryz.prog Tryz.f8.params.toList Rows.rematchFixedSpec.vars false W args.toList ds gs before) (hk:Rows.uptoSmall H (ds++gs)=true) (hL:laidMetH Tryz.prog Rows.rematchFixedUptoRow.laid W) (hSh:W.ShapedOpen Tryz.prog):
 Calls Tryz.prog 8 args W fun e W'=>∃ v,e= .returned v∧Rows.rematchFixedSpec.post enc Tryz.prog Tryz.f8 false true false false W args v W':=by
 have hW':=hW
 obtain ⟨p,q,hA0,hV,rfl,hfz,hnd⟩:=hW
 have hA:DataW.TrodAll enc Tryz.prog W 0 (fun _=>true) true Tryz.f8.params.toList args.toList ds p:=hA0
 rw[Tryz.params8]at hA hval
 obtain ⟨v0,vs0,d0,ds0,p0,q0,hargs,rfl,rfl,h0,r0⟩:=trodAll_cons hA
 obtain ⟨v1,vs1,d1,ds1,p1,q1,rfl,rfl,rfl,h1,r1⟩:=trodAll_cons r0
 obtain ⟨v2,vs2,d2,ds2,p2,q2,rfl,rfl,rfl,h2,r2⟩:=trodAll_cons r1
 obtain ⟨rfl,rfl,rfl⟩:=trodAll_nil r2
 obtain rfl:args= #[v0,v1,v2]:=by cases args;simp_all
 obtain ⟨rfl,rfl⟩:=trodVars_none hV
 obtain ⟨x0,hr0,hw0,hm0⟩:=open_arg o9 h0
 obtain ⟨x1,hr1,hw1,hm1⟩:=open_arg o9 h1
 obtain ⟨x2,hr2,hw2,hm2⟩:=open_arg o3 h2
 simp only[List.append_nil]at hW'
 have hlt:∀ y∈p0++(p1++(p2)),y.block<W.heap.size:=fun y hy=>by simpa using hW'.lt y (by simpa using hy)
 obtain ⟨_,rfl⟩:=okWide_string Tryz.underlying9 (hval 0 9 v0 rfl rfl)
 cases one_inj hr0
 obtain ⟨_,rfl⟩:=okWide_string Tryz.underlying9 (hval 1 9 v1 rfl rfl)
 cases one_inj hr1
 obtain ⟨_,rfl⟩:=okWide_int Tryz.underlying3 (hval 2 3 v2 rfl rfl)
 cases one_inj hr2
 have hb:bulkAll [d0,d1,d2]≤1048576:=by
  rw[← bulkAll_eq];simpa [Rows.uptoSmall] using hk
 simp only[bulkAll]at hb
 obtain ⟨fuel,hf⟩:=Tot.some (Go.Gv.M.RematchFixed_said x0 x1 x2 hw0 hw1 hw2 (by first | omega | (dsimp only at *; omega)))
 obtain ⟨gmx2,hgm2⟩:=hg2 hSh
 refine (law4_RematchFixed_ok fuel x0 x1 x2 W (fun k=>k<W.heap.size) (fun k h=>h) (hg0 hL) (hg1 hL) hgm2 (hg3 hL) true hf).mono fun e W' hh=>?_
 obtain ⟨v,rfl,hg,rfl⟩:=ret_elim hh
 have hbw:Below W.heap.size W W':=below_of_grown hg
 exact ⟨_,rfl,post_law hW' (trodAll_cons_mk (shut_bool Tryz.underlying4 _) trodAll_mk0) (trodAll_cons_mk (Below.trod laidOut (by kernel_rfl) (of_decide_eq_true (by kernel_rfl)) h0 hbw (fun y hy=>hlt y (by simp[hy]))) (trodAll_cons_mk (Below.trod laidOut (by kernel_rfl) (of_decide_eq_true (by kernel_rfl)) h1 hbw (fun y hy=>hlt y (by simp[hy]))) (trodAll_cons_mk (Below.trod laidOut (by kernel_rfl) (of_decide_eq_true (by kernel_rfl)) h2 hbw (fun y hy=>hlt y (by simp[hy]))) trodAll_mk0))) rfl (hbw.frame _)⟩
set_option maxRecDepth 100000 in
noncomputable def low:Nat:=(World.holding Tryz.prog default ⟨#[], #[],[]⟩).heap.size
noncomputable def laidWorld (os:Os):World:={ World.holding Tryz.prog os ⟨#[.cells #[.string ⟨#[118,97,108,117,101,32,111,117,116,32,111,102,32,114,97,110,103,101]⟩] 257,.cells #[.string ⟨#[105,110,118,97,108,105,100,32,115,121,110,116,97,120]⟩] 257], #[],[]⟩ with heap:=(putVar (putVar (putVar (putVar (putVar (putVar (putVar (World.holding Tryz.prog os ⟨#[.cells #[.string ⟨#[118,97,108,117,101,32,111,117,116,32,111,102,32,114,97,110,103,101]⟩] 257,.cells #[.string ⟨#[105,110,118,97,108,105,100,32,115,121,110,116,97,120]⟩] 257], #[],[]⟩).heap 4 (cellsD (Rows.laid_math_bits_deBruijn32tab:DataW Unit))) 5 (cellsD (Rows.laid_math_bits_deBruijn64tab:DataW Unit))) 3 (cellsD (Rows.laid_internal_strconv_uint64pow10:DataW Unit))) 1 (utf8Acc.flatMap fun z=>[Value.int .u8 z.1,Value.int .u8 z.2])) 7 [.iface 255 (.pointer (some ⟨low+0,0,none⟩))]) 6 [.iface 255 (.pointer (some ⟨low+1,0,none⟩))]) 0 (utf8First.map fun z=>Value.int .u8 z.toNat))}
theorem laid_met (os:Os) (args:Array Value):laidMet Tryz.prog Rows.rematchFixedUptoRow.laid ((laidWorld os).forCall (fun _ _=>0) ⟨#[],args,[]⟩).memory:=
 (LaidIn.of_run (l:=Rows.rematchFixedUptoRow.laid) [4,5,3,1,7,6,0,low+0,low+1] 8 (by kernel_rfl) (by kernel_rfl) (by kernel_rfl) (by kernel_rfl)).met
theorem witness_row (os:Os) {H:Type} (enc:TypeId × Value→H):
 (Rows.OpenSpec.upto Rows.rematchFixedSpec).preRow enc Tryz.prog Tryz.f8 Rows.rematchFixedUptoRow.domain false Rows.rematchFixedUptoRow.laid ((laidWorld os).forCall (fun _ _=>0) ⟨#[], #[.string ⟨#[]⟩,.string ⟨#[]⟩,.int .i64 0],[]⟩).memory #[.string ⟨#[]⟩,.string ⟨#[]⟩,.int .i64 0]:=by
 have hw:(DataW.whole enc Tryz.prog ((laidWorld os).forCall (fun _ _=>0) ⟨#[], #[.string ⟨#[]⟩,.string ⟨#[]⟩,.int .i64 0],[]⟩).memory Tryz.f8.params.toList (Rows.OpenSpec.upto Rows.rematchFixedSpec).vars false (#[.string ⟨#[]⟩,.string ⟨#[]⟩,.int .i64 0]:Array Value).toList 8).map (fun x=>(x.1,x.2.1))=
  some ([.lit (.string []),.lit (.string []),.lit (.int .i64 0)],[]):=by kernel_rfl
 obtain ⟨⟨x1,x2,x3⟩,hx,hx1⟩:=Option.map_eq_some_iff.1 hw
 simp only[Prod.mk.injEq]at hx1
 obtain ⟨rfl,rfl⟩:=hx1
 exact OpenSpec.preRow_of_cond 8 hx (by kernel_rfl) (fun k hk=>by obtain rfl:=Option.some.inj hk;kernel_rfl) (by kernel_rfl) (laid_met os _)
set_option maxRecDepth 100000 in
set_option maxHeartbeats 4000000 in
theorem lifted (os:Os) (started:os.Started) (H:Type) (enc:TypeId × Value→H) (F:Stop.Interp):
 ReturnsInHanded {} Tryz.checked os 8 .any ((Rows.OpenSpec.upto Rows.rematchFixedSpec).preRow enc Tryz.prog Tryz.f8 Rows.rematchFixedUptoRow.domain false Rows.rematchFixedUptoRow.laid) (((Rows.OpenSpec.upto Rows.rematchFixedSpec).at F).post enc Tryz.prog Tryz.f8 false true false false):=by
 refine returnsInHanded_of_row (C:=Tryz.checked) (s:=(Rows.OpenSpec.upto Rows.rematchFixedSpec)) own started (by kernel_rfl) Tryz.func8
  (witness_row_atRef (enc:=enc) (C:=Tryz.checked) false (laidWorld os) #[.string ⟨#[]⟩,.string ⟨#[]⟩,.int .i64 0] rfl (by kernel_rfl) (by kernel_rfl) (by kernel_rfl) (witness_row os enc)) ?_
 intro W base args ds gs before hval hW _ hk _ hL hSh _
 exact contract H enc W base args ds gs before hval hW (hk _ rfl) hL hSh
theorem bare:Rows.RematchFixedUptoSaid:=
 OpenClaim.holds_of_cond 8 Tryz.f8 rfl rfl rfl rfl rfl rfl rfl ⟨rfl,rfl,rfl,rfl,rfl⟩ rfl rfl rfl rfl rfl (by kernel_rfl) Tryz.func8 (by kernel_rfl)
  (of_decide_eq_true (by kernel_rfl)) (by unfold Func.isWrapper;first | (rw[if_pos (by decide+kernel)];kernel_rfl) | (rw[if_neg (by decide+kernel)];exact ⟨rfl,rfl⟩))
  (fun os started H enc _ F0=>by rw[OpenClaim.pre_eq_preRow];exact lifted os started H enc F0)
theorem proved:Rows.RematchFixedUptoCardSaid:=
 Claim7.holds_tied_plain_at .later [] [.data, .data, .data, .data, .sentinel, .sentinel, .pinned] true (true, "96d1ac6531d81655380ad15f762a309b46f327e5bcf073b425e876092939f196") true
  bare (fun _ h=>by cases h) (by kernel_rfl) (fun _ h=>by cases h) rematchFixedUpto_row_tie rfl ⟨rfl,rfl⟩ (by kernel_rfl) rfl
  (fun f fn hf hfn=>by
    obtain rfl : f = 8 := Option.some.inj ((show Tryz.prog.funcNamed "brindlewood/brindlewoodlaw4.RematchFixed" = some 8 by kernel_rfl).symm.trans hf) |>.symm
    obtain rfl:fn=Tryz.f8:=(Option.some.inj (Tryz.func8.symm.trans hfn)).symm
    exact ⟨by kernel_rfl,fun j t ht=>by
     rw[Tryz.params8]at ht
     have hm:t∈[9,9,3]:=by simpa using Array.mem_of_getElem? ht
     have hall:([9,9,3].all fun u=> !Tryz.prog.wantsStandIn u)=true:=by kernel_rfl
     exact (show Tryz.prog.wantsStandIn t=false by simpa using List.all_eq_true.1 hall t hm)⟩)
  (by kernel_rfl)
end Go.Proofs.YtmpmeiihjnnomaaGreatDoor.rematchFixedF
