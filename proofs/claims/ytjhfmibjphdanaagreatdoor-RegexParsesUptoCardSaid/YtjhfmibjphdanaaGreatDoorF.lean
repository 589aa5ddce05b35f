/- The law RegexParses answers true for every input of bulk at most 1048576, and its arguments read as before; the listed tables and sentinels are tied to the text of the program. -/
import Derived.Test.YtjhfmibjphdanaaGreatDoorCards
import Derived.Test.YtjhfmibjphdanaaGreatDoorTie
import Derived.SevenTiedAt
import Derived.Test.YtjhfmibjphdanaaGreatDoorGl
import Derived.Test.YtjhfmibjphdanaaGreatDoorGn
import Derived.Test.YtjhfmibjphdanaaGreatDoorGpw
import Derived.Test.YtjhfmibjphdanaaGreatDoorRows
import Derived.Test.YtjhfmibjphdanaaGreatDoorGo
import Derived.Test.YtjhfmibjphdanaaGreatDoorP4
import Derived.Test.YtjhfmibjphdanaaGreatDoorXX
namespace Go.Proofs.YtjhfmibjphdanaaGreatDoor.regexParsesF
open Go.ChangeShapes Go.WideShapes Go.ChangeAt Go.RowKit Go.Gv Go.Gv.D
set_option linter.all false
theorem own:ownKnob Tryz.prog.godebug=none:=by kernel_rfl
theorem laidOut:laidOutB Tryz.prog=true:=by kernel_rfl
theorem o9:Opens Tryz.prog 9 sE (fun s=>s.size≤maxLen) (fun s=>s.size+1):=(opens_string Tryz.underlying9 (by kernel_rfl))
mutual
theorem bulk_eq {H:Type}:∀ d:DataW H,Rows.uptoBulk d=bulk d
 | .lit l=>by cases l<;>simp[Rows.uptoBulk,bulk]
 | .nil=>by simp[Rows.uptoBulk,bulk]
 | .ptr d=>by simp[Rows.uptoBulk,bulk,bulk_eq d]
 | .slice a b=>by simp[Rows.uptoBulk,bulk,bulkAll_eq a,bulkAll_eq b]
 | .agg a=>by simp[Rows.uptoBulk,bulk,bulkAll_eq a]
 | .iface _ d=>by simp[Rows.uptoBulk,bulk,bulk_eq d]
 | .map m=>by simp[Rows.uptoBulk,bulk,bulkEntries_eq m]
 | .held _=>by simp[Rows.uptoBulk,bulk]
theorem bulkAll_eq {H:Type}:∀ l:List (DataW H),Rows.uptoBulkAll l=bulkAll l
 | []=>by simp[Rows.uptoBulkAll,bulkAll]
 | d::r=>by simp[Rows.uptoBulkAll,bulkAll,bulk_eq d,bulkAll_eq r]
theorem bulkEntries_eq {H:Type}:∀ l:List (Lit × DataW H),Rows.uptoBulkEntries l=bulkEntries l
 | []=>by simp[Rows.uptoBulkEntries,bulkEntries]
 | d::r=>by simp[Rows.uptoBulkEntries,bulkEntries,bulkEntry_eq d,bulkEntries_eq r]
theorem bulkEntry_eq {H:Type}:∀ x:Lit × DataW H,Rows.uptoBulkEntry x=bulkEntry x
 | (l,d)=>by cases l<;>simp[Rows.uptoBulkEntry,bulkEntry,bulk_eq d]
end
theorem gn3 : Tryz.prog.globalNamed "internal/strconv.uint64pow10" = some 3 := by kernel_rfl
theorem gt3:(Tryz.prog.globals[3]?).map (·.type)=some 129:=by kernel_rfl
theorem dt3:(Lib.tabData .u64 Lib.pow10Tab:DataW Unit)=Rows.laid_internal_strconv_uint64pow10:=by kernel_rfl
theorem hg3 {W:World} (hL:laidMetH Tryz.prog Rows.regexParsesUptoRow.laid W):Rd (tabE 3 pow10C) W (fun k=>k<W.heap.size) (some ⟨3,0,none⟩) 1 [.int .u64 1]:=
 rd_pow10 gn3 gt3 Tryz.underlying129 Tryz.underlying98 (by kernel_rfl) (by kernel_rfl) (by rw [dt3]; exact Lib.laidMet.reads hL (n := "internal/strconv.uint64pow10") (d := Rows.laid_internal_strconv_uint64pow10) (.tail _ (.tail _ (.head _))))
theorem gn1 : Tryz.prog.globalNamed "unicode/utf8.acceptRanges" = some 1 := by kernel_rfl
theorem gt1:(Tryz.prog.globals[1]?).map (·.type)=some 71:=by kernel_rfl
theorem dt1:((.agg (utf8Acc.map fun z=>.agg [.lit (.int .u8 z.1),.lit (.int .u8 z.2)])):DataW Unit)=Rows.laid_unicode_utf8_acceptRanges:=by kernel_rfl
theorem hg1 {W:World} (hL:laidMetH Tryz.prog Rows.regexParsesUptoRow.laid W):Rd (prE (iE .u8) (iE .u8)) W (fun k=>k<W.heap.size) (some ⟨1,0,none⟩) 16 utf8Acc:=by
 have h0 := Lib.laidMet.reads hL (n := "unicode/utf8.acceptRanges") (d := Rows.laid_unicode_utf8_acceptRanges) (.tail _ (.tail _ (.tail _ (.head _))))
 rw[← dt1]at h0
 have h1:=rd_pairs (zs:=utf8Acc) utf8Acc_len gn1 gt1 Tryz.underlying71 Tryz.underlying70 (by kernel_rfl) rfl (fun j f hj=>by
  match j,hj with
  | 0,hj=>simp at hj;subst hj;exact ⟨Tryz.underlying5,rfl,(by kernel_rfl)⟩
  | 1,hj=>simp at hj;subst hj;exact ⟨Tryz.underlying5,rfl,(by kernel_rfl)⟩
  | j+2,hj=>simp at hj) h0
 rw[utf8Acc_len]at h1
 exact h1
theorem gn7 : Tryz.prog.globalNamed "strconv.ErrRange" = some 7 := by kernel_rfl
theorem gt7:(Tryz.prog.globals[7]?).map (·.type)=some 90:=by kernel_rfl
theorem starS : "*" ++ "errors.errorString" = "*errors.errorString" := by decide
theorem rowS (u : TypeId) (h : Tryz.prog.typeName? 3 u = some "*errors.errorString") : u = 188 :=
 typeName_ptr_named (nm := "errors.errorString") (by rw [starS]; kernel_rfl) (by kernel_rfl) (by decide) u (by rw [starS]; exact h)
theorem hg7 {W:World} (hL:laidMetH Tryz.prog Rows.regexParsesUptoRow.laid W):∃ x:TypeId × Value,Rd eE W (fun k=>k<W.heap.size) (some ⟨7,0,none⟩) 1 [x]:=by
 have h0:laidMet Tryz.prog Rows.regexParsesUptoRow.laid W:=hL
 obtain ⟨a,s,hv,_⟩:=laid_sentinel (laidMet.tail (laidMet.tail (laidMet.tail (laidMet.tail h0)))) gn7 gt7 Tryz.underlying90 rowS Tryz.underlying188 Tryz.underlying190 rfl rfl Tryz.underlying9 (by kernel_rfl) (by kernel_rfl)
 exact ⟨_,rd_sentinel gn7 hv⟩
theorem gn6 : Tryz.prog.globalNamed "strconv.ErrSyntax" = some 6 := by kernel_rfl
theorem gt6:(Tryz.prog.globals[6]?).map (·.type)=some 90:=by kernel_rfl
theorem gn0 : Tryz.prog.globalNamed "unicode/utf8.first" = some 0 := by kernel_rfl
theorem gt0:(Tryz.prog.globals[0]?).map (·.type)=some 68:=by kernel_rfl
theorem dt0:((Lib.tabData .u8 (utf8First.map fun z=>(z.toNat:Int))):DataW Unit)=Rows.laid_unicode_utf8_first:=by kernel_rfl
theorem hg0 {W:World} (hL:laidMetH Tryz.prog Rows.regexParsesUptoRow.laid W):Rd bE W (fun k=>k<W.heap.size) (some ⟨0,0,none⟩) 256 utf8First:=by
 have h0 := Lib.laidMet.reads hL (n := "unicode/utf8.first") (d := Rows.laid_unicode_utf8_first) (.tail _ (.tail _ (.tail _ (.tail _ (.tail _ (.tail _ (.head _)))))))
 rw[← dt0]at h0
 have h1:=rd_tab (zs:=utf8First) gn0 gt0 Tryz.underlying68 Tryz.underlying5 (by kernel_rfl) (by kernel_rfl) h0
 rw[utf8First_len]at h1
 exact h1
set_option maxRecDepth 100000 in
set_option maxHeartbeats 4000000 in
theorem contract (H:Type) (enc:TypeId × Value→H) (W:World) (base:Nat) (args:Array Value) (ds gs:List (DataW H)) (before:List MemPlace)
 (hval:∀ (j:Nat) t v,Tryz.f4.params[j]? =some t→args[j]? =some v→Value.okWide Tryz.prog W .any base t v)
 (hW:DataW.Whole enc Tryz.prog Tryz.f4.params.toList Rows.regexParsesSpec.vars false W args.toList ds gs before) (hk:Rows.uptoSmall H (ds++gs)=true) (hL:laidMetH Tryz.prog Rows.regexParsesUptoRow.laid W) (hSh:W.ShapedOpen Tryz.prog):
 Calls Tryz.prog 4 args W fun e W'=>∃ v,e= .returned v∧Rows.regexParsesSpec.post enc Tryz.prog Tryz.f4 false true false false W args v W':=by
 have hW':=hW
 obtain ⟨p,q,hA0,hV,rfl,hfz,hnd⟩:=hW
 have hA:DataW.TrodAll enc Tryz.prog W 0 (fun _=>true) true Tryz.f4.params.toList args.toList ds p:=hA0
 rw[Tryz.params4]at hA hval
 obtain ⟨v0,vs0,d0,ds0,p0,q0,hargs,rfl,rfl,h0,r0⟩:=trodAll_cons hA
 obtain ⟨rfl,rfl,rfl⟩:=trodAll_nil r0
 obtain rfl:args= #[v0]:=by cases args;simp_all
 obtain ⟨rfl,rfl⟩:=trodVars_none hV
 obtain ⟨x0,hr0,hw0,hm0⟩:=open_arg o9 h0
 simp only[List.append_nil]at hW'
 have hlt:∀ y∈p0,y.block<W.heap.size:=fun y hy=>by simpa using hW'.lt y (by simpa using hy)
 obtain ⟨_,rfl⟩:=okWide_string Tryz.underlying9 (hval 0 9 v0 rfl rfl)
 cases one_inj hr0
 have hb:bulkAll [d0]≤1048576:=by
  rw[← bulkAll_eq];simpa [Rows.uptoSmall] using hk
 simp only[bulkAll]at hb
 obtain ⟨fuel,hf⟩:=Tot.some (Go.Gv.X.RegexParses_said x0 hw0 (by first | omega | (dsimp only at *; omega)))
 obtain ⟨gmx7,hgm7⟩:=hg7 hL
 refine (law4_RegexParses_ok fuel x0 W (fun k=>k<W.heap.size) (fun k h=>h) (hg0 hL) (hg1 hL) (hg3 hL) hgm7 true hf).mono fun e W' hh=>?_
 obtain ⟨v,rfl,hg,rfl⟩:=ret_elim hh
 have hbw:Below W.heap.size W W':=below_of_grown hg
 exact ⟨_,rfl,post_law hW' (trodAll_cons_mk (shut_bool Tryz.underlying4 _) trodAll_mk0) (trodAll_cons_mk (Below.trod laidOut (by kernel_rfl) (of_decide_eq_true (by kernel_rfl)) h0 hbw (fun y hy=>hlt y (by simp[hy]))) trodAll_mk0) rfl (hbw.frame _)⟩
set_option maxRecDepth 100000 in
noncomputable def low:Nat:=(World.holding Tryz.prog default ⟨#[], #[],[]⟩).heap.size
noncomputable def laidWorld (os:Os):World:={ World.holding Tryz.prog os ⟨#[.cells #[.string ⟨#[118,97,108,117,101,32,111,117,116,32,111,102,32,114,97,110,103,101]⟩] 190,.cells #[.string ⟨#[105,110,118,97,108,105,100,32,115,121,110,116,97,120]⟩] 190], #[],[]⟩ with heap:=(putVar (putVar (putVar (putVar (putVar (putVar (putVar (World.holding Tryz.prog os ⟨#[.cells #[.string ⟨#[118,97,108,117,101,32,111,117,116,32,111,102,32,114,97,110,103,101]⟩] 190,.cells #[.string ⟨#[105,110,118,97,108,105,100,32,115,121,110,116,97,120]⟩] 190], #[],[]⟩).heap 4 (cellsD (Rows.laid_math_bits_deBruijn32tab:DataW Unit))) 5 (cellsD (Rows.laid_math_bits_deBruijn64tab:DataW Unit))) 3 (cellsD (Rows.laid_internal_strconv_uint64pow10:DataW Unit))) 1 (utf8Acc.flatMap fun z=>[Value.int .u8 z.1,Value.int .u8 z.2])) 7 [.iface 188 (.pointer (some ⟨low+0,0,none⟩))]) 6 [.iface 188 (.pointer (some ⟨low+1,0,none⟩))]) 0 (utf8First.map fun z=>Value.int .u8 z.toNat))}
theorem laid_met (os:Os) (args:Array Value):laidMet Tryz.prog Rows.regexParsesUptoRow.laid ((laidWorld os).forCall (fun _ _=>0) ⟨#[],args,[]⟩).memory:=
 (LaidIn.of_run (l:=Rows.regexParsesUptoRow.laid) [4,5,3,1,7,6,0,low+0,low+1] 8 (by kernel_rfl) (by kernel_rfl) (by kernel_rfl) (by kernel_rfl)).met
theorem witness_row (os:Os) {H:Type} (enc:TypeId × Value→H):
 (Rows.OpenSpec.upto Rows.regexParsesSpec).preRow enc Tryz.prog Tryz.f4 Rows.regexParsesUptoRow.domain false Rows.regexParsesUptoRow.laid ((laidWorld os).forCall (fun _ _=>0) ⟨#[], #[.string ⟨#[]⟩],[]⟩).memory #[.string ⟨#[]⟩]:=by
 have hw:(DataW.whole enc Tryz.prog ((laidWorld os).forCall (fun _ _=>0) ⟨#[], #[.string ⟨#[]⟩],[]⟩).memory Tryz.f4.params.toList (Rows.OpenSpec.upto Rows.regexParsesSpec).vars false (#[.string ⟨#[]⟩]:Array Value).toList 8).map (fun x=>(x.1,x.2.1))=
  some ([.lit (.string [])],[]):=by kernel_rfl
 obtain ⟨⟨x1,x2,x3⟩,hx,hx1⟩:=Option.map_eq_some_iff.1 hw
 simp only[Prod.mk.injEq]at hx1
 obtain ⟨rfl,rfl⟩:=hx1
 exact OpenSpec.preRow_of_cond 8 hx (by kernel_rfl) (fun k hk=>by obtain rfl:=Option.some.inj hk;kernel_rfl) (by kernel_rfl) (laid_met os _)
set_option maxRecDepth 100000 in
set_option maxHeartbeats 4000000 in
theorem lifted (os:Os) (started:os.Started) (H:Type) (enc:TypeId × Value→H) (F:Stop.Interp):
 ReturnsInHanded {} Tryz.checked os 4 .any ((Rows.OpenSpec.upto Rows.regexParsesSpec).preRow enc Tryz.prog Tryz.f4 Rows.regexParsesUptoRow.domain false Rows.regexParsesUptoRow.laid) (((Rows.OpenSpec.upto Rows.regexParsesSpec).at F).post enc Tryz.prog Tryz.f4 false true false false):=by
 refine returnsInHanded_of_row (C:=Tryz.checked) (s:=(Rows.OpenSpec.upto Rows.regexParsesSpec)) own started (by kernel_rfl) Tryz.func4
  (witness_row_atRef (enc:=enc) (C:=Tryz.checked) false (laidWorld os) #[.string ⟨#[]⟩] rfl (by kernel_rfl) (by kernel_rfl) (by kernel_rfl) (witness_row os enc)) ?_
 intro W base args ds gs before hval hW _ hk _ hL hSh _
 exact contract H enc W base args ds gs before hval hW (hk _ rfl) hL hSh
theorem bare:Rows.RegexParsesUptoSaid:=
 OpenClaim.holds_of_cond 4 Tryz.f4 rfl rfl rfl rfl rfl rfl rfl ⟨rfl,rfl,rfl,rfl,rfl⟩ rfl rfl rfl rfl rfl (by kernel_rfl) Tryz.func4 (by kernel_rfl)
  (of_decide_eq_true (by kernel_rfl)) (by unfold Func.isWrapper;first | (rw[if_pos (by decide+kernel)];kernel_rfl) | (rw[if_neg (by decide+kernel)];exact ⟨rfl,rfl⟩))
  (fun os started H enc _ F0=>by rw[OpenClaim.pre_eq_preRow];exact lifted os started H enc F0)
theorem proved:Rows.RegexParsesUptoCardSaid:=
 Claim7.holds_tied_plain_at .later [] [.data, .data, .data, .data, .sentinel, .sentinel, .pinned] true (true, "b145deadadbcf52846c80623a1bb2ab4c6b5e49a767fccdab8ff361af8d67e48") true
  bare (fun _ h=>by cases h) (by kernel_rfl) (fun _ h=>by cases h) regexParsesUpto_row_tie rfl ⟨rfl,rfl⟩ (by kernel_rfl) rfl
  (fun f fn hf hfn=>by
    obtain rfl : f = 4 := Option.some.inj ((show Tryz.prog.funcNamed "brindlewood/brindlewoodlaw4.RegexParses" = some 4 by kernel_rfl).symm.trans hf) |>.symm
    obtain rfl:fn=Tryz.f4:=(Option.some.inj (Tryz.func4.symm.trans hfn)).symm
    exact ⟨by kernel_rfl,fun j t ht=>by
     rw[Tryz.params4]at ht
     have hm:t∈[9]:=by simpa using Array.mem_of_getElem? ht
     have hall:([9].all fun u=> !Tryz.prog.wantsStandIn u)=true:=by kernel_rfl
     exact (show Tryz.prog.wantsStandIn t=false by simpa using List.all_eq_true.1 hall t hm)⟩)
  (by kernel_rfl)
end Go.Proofs.YtjhfmibjphdanaaGreatDoor.regexParsesF
