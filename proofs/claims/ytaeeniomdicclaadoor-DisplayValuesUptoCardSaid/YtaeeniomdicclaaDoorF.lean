/- The law DisplayValues answers true for every input of bulk at most 1048576, and its arguments read as before; the two listed tables of unicode/utf8 are tied to the text of the program. -/
import Derived.Test.YtaeeniomdicclaaDoorCards
import Derived.Test.YtaeeniomdicclaaDoorTie
import Derived.SevenTiedAt
import Derived.Test.YtaeeniomdicclaaDoorGl
import Derived.Test.YtaeeniomdicclaaDoorRows
import Derived.Test.YtaeeniomdicclaaDoorP4
import Derived.Test.YtaeeniomdicclaaDoorY5
namespace Go.Proofs.YtaeeniomdicclaaDoor.displayValuesF
open Go.ChangeShapes Go.WideShapes Go.ChangeAt Go.RowKit Go.Gv Go.Gv.D
set_option linter.all false
theorem own:ownKnob Tryd.prog.godebug=none:=by kernel_rfl
theorem zsR:laidOutB Tryd.prog=true:=by kernel_rfl
theorem o26:zsz Tryd.prog 26 (slE (iE .i64)) (fun xs=>(∀ x∈xs,(inK .i64) x)∧xs.length<=maxLen) (zoq (fun _=>1)):=(ztz (E:=(iE .i64)) (wf:=(inK .i64)) (m:=(fun _=>1)) Tryd.underlying26 (by kernel_rfl) (zuP Tryd.underlying3 (by kernel_rfl)) (by kernel_rfl))
theorem o3:zsz Tryd.prog 3 (iE .i64) (inK .i64) (fun _=>1):=(zuP Tryd.underlying3 (by kernel_rfl))
mutual
theorem zvD {H:Type}:∀ d:DataW H,Rows.uptoBulk d=bulk d
 | .lit l=>by cases l<;>simp[Rows.uptoBulk,bulk]
 | .nil=>by simp[Rows.uptoBulk,bulk]
 | .ptr d=>by simp[Rows.uptoBulk,bulk,zvD d]
 | .slice a b=>by simp[Rows.uptoBulk,bulk,zy8 a,zy8 b]
 | .agg a=>by simp[Rows.uptoBulk,bulk,zy8 a]
 | .iface _ d=>by simp[Rows.uptoBulk,bulk,zvD d]
 | .map m=>by simp[Rows.uptoBulk,bulk,zxC m]
 | .held _=>by simp[Rows.uptoBulk,bulk]
theorem zy8 {H:Type}:∀ l:List (DataW H),Rows.uptoBulkAll l=zzH l
 | []=>by simp[Rows.uptoBulkAll,zzH]
 | d::r=>by simp[Rows.uptoBulkAll,zzH,zvD d,zy8 r]
theorem zxC {H:Type}:∀ l:List (Lit × DataW H),Rows.uptoBulkEntries l=zyG l
 | []=>by simp[Rows.uptoBulkEntries,zyG]
 | d::r=>by simp[Rows.uptoBulkEntries,zyG,zuM d,zxC r]
theorem zuM {H:Type}:∀ x:Lit × DataW H,Rows.uptoBulkEntry x=zvg x
 | (l,d)=>by cases l<;>simp[Rows.uptoBulkEntry,zvg,zvD d]
end
theorem gn1 : Tryd.prog.globalNamed "unicode/utf8.acceptRanges" = some 1 := by kernel_rfl
theorem gt1:(Tryd.prog.globals[1]?).map (·.type)=some 84:=by kernel_rfl
theorem dt1:((.agg (zyh.map fun z=>.agg [.lit (.int .u8 z.1),.lit (.int .u8 z.2)])):DataW Unit)=Rows.laid_unicode_utf8_acceptRanges:=by kernel_rfl
theorem hg1 {W:World} (hL:laidMetH Tryd.prog Rows.displayValuesUptoRow.laid W):Rd (prE (iE .u8) (iE .u8)) W (fun k=>k<W.heap.size) (some ⟨1,0,none⟩) 16 zyh:=by
 have h0 := Lib.laidMet.reads hL (n := "unicode/utf8.acceptRanges") (d := Rows.laid_unicode_utf8_acceptRanges) (.head _)
 rw[<- dt1]at h0
 have h1:=zrN (zs:=zyh) zvc gn1 gt1 Tryd.underlying84 Tryd.underlying83 (by kernel_rfl) rfl (fun j f hj=>by
  match j,hj with
  | 0,hj=>simp at hj;subst hj;exact ⟨Tryd.underlying5,rfl,(by kernel_rfl)⟩
  | 1,hj=>simp at hj;subst hj;exact ⟨Tryd.underlying5,rfl,(by kernel_rfl)⟩
  | j+2,hj=>simp at hj) h0
 rw[zvc]at h1
 exact h1
theorem gn0 : Tryd.prog.globalNamed "unicode/utf8.first" = some 0 := by kernel_rfl
theorem gt0:(Tryd.prog.globals[0]?).map (·.type)=some 81:=by kernel_rfl
theorem dt0:((Lib.tabData .u8 (utf8First.map fun z=>(z.toNat:Int))):DataW Unit)=Rows.laid_unicode_utf8_first:=by kernel_rfl
theorem hg0 {W:World} (hL:laidMetH Tryd.prog Rows.displayValuesUptoRow.laid W):Rd bE W (fun k=>k<W.heap.size) (some ⟨0,0,none⟩) 256 utf8First:=by
 have h0 := Lib.laidMet.reads hL (n := "unicode/utf8.first") (d := Rows.laid_unicode_utf8_first) (.tail _ (.head _))
 rw[<- dt0]at h0
 have h1:=zoV (zs:=utf8First) gn0 gt0 Tryd.underlying81 Tryd.underlying5 (by kernel_rfl) (by kernel_rfl) h0
 rw[zut]at h1
 exact h1
theorem hg2 {W:World} (hSh:W.ShapedOpen Tryd.prog):∃ m,Rd (iE .i64) W (fun k=>k<W.heap.size) (some ⟨2,0,none⟩) 1 [m]:=
 zpH (cell_of_shapedOpen_int (g:=2) (zero:= #[.int .i64 0]) (t:=3) (k:=.i64) hSh (of_decide_eq_true (by kernel_rfl)) (by kernel_rfl) rfl (by kernel_rfl) (by kernel_rfl) Tryd.underlying3)
set_option maxRecDepth 100000 in
set_option maxHeartbeats 4000000 in
theorem zrS (H:Type) (enc:TypeId × Value->H) (W:World) (base:Nat) (args:Array Value) (ds gs:List (DataW H)) (before:List MemPlace)
 (hval:∀ (j:Nat) t v,Tryd.f5.params[j]? =some t->args[j]? =some v->Value.okWide Tryd.prog W .any base t v)
 (hW:DataW.Whole enc Tryd.prog Tryd.f5.params.toList Rows.displayValuesSpec.vars false W args.toList ds gs before) (hk:Rows.uptoSmall H (ds++gs)=true) (hL:laidMetH Tryd.prog Rows.displayValuesUptoRow.laid W) (hSh:W.ShapedOpen Tryd.prog):
 Calls Tryd.prog 5 args W fun e W'=>∃ v,e= .returned v∧Rows.displayValuesSpec.post enc Tryd.prog Tryd.f5 false true false false W args v W':=by
 have hW':=hW
 obtain ⟨p,q,hA0,hV,rfl,hfz,hnd⟩:=hW
 have hA:DataW.TrodAll enc Tryd.prog W 0 (fun _=>true) true Tryd.f5.params.toList args.toList ds p:=hA0
 rw[Tryd.params5]at hA hval
 obtain ⟨v0,vs0,d0,ds0,p0,q0,hargs,rfl,rfl,h0,r0⟩:=trodAll_cons hA
 obtain ⟨v1,vs1,d1,ds1,p1,q1,rfl,rfl,rfl,h1,r1⟩:=trodAll_cons r0
 obtain ⟨rfl,rfl,rfl⟩:=trodAll_nil r1
 obtain rfl:args= #[v0,v1]:=by cases args;simp_all
 obtain ⟨rfl,rfl⟩:=trodVars_none hV
 obtain ⟨x0,hr0,hw0,hm0⟩:=ztv o26 h0
 obtain ⟨x1,hr1,hw1,hm1⟩:=ztv o3 h1
 simp only[List.append_nil]at hW'
 have hlt:∀ y∈p0++(p1),y.block<W.heap.size:=fun y hy=>by simpa using hW'.lt y (by simpa using hy)
 obtain ⟨_,_,_,rfl⟩:=okWide_slice Tryd.underlying26 (hval 0 26 v0 rfl rfl)
 obtain ⟨a0_0,c0_0,e,hrd0_0⟩:=hr0
 obtain ⟨rfl,rfl,rfl⟩:=zrf (zsC e)
 obtain ⟨_,rfl⟩:=okWide_int Tryd.underlying3 (hval 1 3 v1 rfl rfl)
 cases zsC hr1
 have hb:zzH [d0,d1]<=1048576:=by
  rw[<- zy8];simpa [Rows.uptoSmall] using hk
 simp only[zzH]at hb
 obtain ⟨fuel,hf⟩:=Tot.some (Go.Gv.P.DisplayValues_said x0 x1 hw0 hw1 (by first | omega | (dsimp only at *; omega)))
 obtain ⟨gmx2,hgm2⟩:=hg2 hSh
 refine (zxf fuel a0_0 c0_0 x0 x1 W (fun k=>k<W.heap.size) (fun k h=>h) hrd0_0 (hg0 hL) (hg1 hL) hgm2 true hf).mono fun e W' hh=>?_
 obtain ⟨v,rfl,hg,rfl⟩:=zqp hh
 have hbw:Below W.heap.size W W':=zxA hg
 exact ⟨_,rfl,zqi hW' (trodAll_cons_mk (shut_bool Tryd.underlying4 _) trodAll_mk0) (trodAll_cons_mk (Below.trod zsR (by kernel_rfl) (of_decide_eq_true (by kernel_rfl)) h0 hbw (fun y hy=>hlt y (by simp[hy]))) (trodAll_cons_mk (Below.trod zsR (by kernel_rfl) (of_decide_eq_true (by kernel_rfl)) h1 hbw (fun y hy=>hlt y (by simp[hy]))) trodAll_mk0)) rfl (hbw.frame _)⟩
set_option maxRecDepth 100000 in
noncomputable def zwk (os:Os):World:={ World.holding Tryd.prog os ⟨#[], #[],[]⟩ with heap:=(zps (zps (World.holding Tryd.prog os ⟨#[], #[],[]⟩).heap 1 (zyh.flatMap fun z=>[Value.int .u8 z.1,Value.int .u8 z.2])) 0 (utf8First.map fun z=>Value.int .u8 z.toNat))}
theorem zqO (os:Os) (args:Array Value):laidMet Tryd.prog Rows.displayValuesUptoRow.laid ((zwk os).forCall (fun _ _=>0) ⟨#[],args,[]⟩).memory:=
 (LaidIn.of_run (l:=Rows.displayValuesUptoRow.laid) [1,0] 8 (by kernel_rfl) (by kernel_rfl) (by kernel_rfl) (by kernel_rfl)).met
theorem zuD (os:Os) {H:Type} (enc:TypeId × Value->H):
 (Rows.OpenSpec.upto Rows.displayValuesSpec).preRow enc Tryd.prog Tryd.f5 Rows.displayValuesUptoRow.domain false Rows.displayValuesUptoRow.laid ((zwk os).forCall (fun _ _=>0) ⟨#[], #[.slice none 0 0,.int .i64 0],[]⟩).memory #[.slice none 0 0,.int .i64 0]:=by
 have hw:(DataW.whole enc Tryd.prog ((zwk os).forCall (fun _ _=>0) ⟨#[], #[.slice none 0 0,.int .i64 0],[]⟩).memory Tryd.f5.params.toList (Rows.OpenSpec.upto Rows.displayValuesSpec).vars false (#[.slice none 0 0,.int .i64 0]:Array Value).toList 8).map (fun x=>(x.1,x.2.1))=
  some ([.nil,.lit (.int .i64 0)],[]):=by kernel_rfl
 obtain ⟨⟨x1,x2,x3⟩,hx,hx1⟩:=Option.map_eq_some_iff.1 hw
 simp only[Prod.mk.injEq]at hx1
 obtain ⟨rfl,rfl⟩:=hx1
 exact OpenSpec.preRow_of_cond 8 hx (by kernel_rfl) (fun k hk=>by obtain rfl:=Option.some.inj hk;kernel_rfl) (by kernel_rfl) (zqO os _)
set_option maxRecDepth 100000 in
set_option maxHeartbeats 4000000 in
theorem zoR (os:Os) (started:os.Started) (H:Type) (enc:TypeId × Value->H) (F:Stop.Interp):
 ReturnsInHanded {} Tryd.checked os 5 .any ((Rows.OpenSpec.upto Rows.displayValuesSpec).preRow enc Tryd.prog Tryd.f5 Rows.displayValuesUptoRow.domain false Rows.displayValuesUptoRow.laid) (((Rows.OpenSpec.upto Rows.displayValuesSpec).at F).post enc Tryd.prog Tryd.f5 false true false false):=by
 refine returnsInHanded_of_row (C:=Tryd.checked) (s:=(Rows.OpenSpec.upto Rows.displayValuesSpec)) own started (by kernel_rfl) Tryd.func5
  (witness_row_atRef (enc:=enc) (C:=Tryd.checked) false (zwk os) #[.slice none 0 0,.int .i64 0] rfl (by kernel_rfl) (by kernel_rfl) (by kernel_rfl) (zuD os enc)) ?_
 intro W base args ds gs before hval hW _ hk _ hL hSh _
 exact zrS H enc W base args ds gs before hval hW (hk _ rfl) hL hSh
theorem bare:Rows.DisplayValuesUptoSaid:=
 OpenClaim.holds_of_cond 5 Tryd.f5 rfl rfl rfl rfl rfl rfl rfl ⟨rfl,rfl,rfl,rfl,rfl⟩ rfl rfl rfl rfl rfl (by kernel_rfl) Tryd.func5 (by kernel_rfl)
  (of_decide_eq_true (by kernel_rfl)) (by unfold Func.isWrapper;first | (rw[if_pos (by decide+kernel)];kernel_rfl) | (rw[if_neg (by decide+kernel)];exact ⟨rfl,rfl⟩))
  (fun os started H enc _ F0=>by rw[OpenClaim.pre_eq_preRow];exact zoR os started H enc F0)
theorem proved:Rows.DisplayValuesUptoCardSaid:=
 Claim7.holds_tied_plain_at .later [] [.data, .pinned] true (true, "aa74a684ce233866cbdd1d2a11f2b15922b4b5b0e57bdf58452cd7b21a530aa0") true
  bare (fun _ h=>by cases h) (by kernel_rfl) (fun _ h=>by cases h) displayValuesUpto_row_tie rfl ⟨rfl,rfl⟩ (by kernel_rfl) rfl
  (fun f fn hf hfn=>by
    obtain rfl : f = 5 := Option.some.inj ((show Tryd.prog.funcNamed "brindlewood/brindlewoodlaw4.DisplayValues" = some 5 by kernel_rfl).symm.trans hf) |>.symm
    obtain rfl:fn=Tryd.f5:=(Option.some.inj (Tryd.func5.symm.trans hfn)).symm
    exact ⟨by kernel_rfl,fun j t ht=>by
     rw[Tryd.params5]at ht
     have hm:t∈[26,3]:=by simpa using Array.mem_of_getElem? ht
     have hall:([26,3].all fun u=> !Tryd.prog.wantsStandIn u)=true:=by kernel_rfl
     exact (show Tryd.prog.wantsStandIn t=false by simpa using List.all_eq_true.1 hall t hm)⟩)
  (by kernel_rfl)
end Go.Proofs.YtaeeniomdicclaaDoor.displayValuesF
