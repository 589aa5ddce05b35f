import Derived.Test.YtmpmeiihjnnomaaGreatDoorProg
import Derived.Test.YtmpmeiihjnnomaaGreatDoorRc
import Derived.Test.YtmpmeiihjnnomaaGreatDoorGpc
/- Own work: the closure that regex.Parse defers: it does nothing at a return, and takes a parser's panic. -/
set_option linter.all false
namespace Go.Proofs.YtmpmeiihjnnomaaGreatDoor
open Go.RowKit Go.Gv
set_option maxRecDepth 100000
theorem inert55 (p q:Value):Inert Tryz.prog 55 #[p,q]:=by
 refine inert_of (d0:=5) (d1:=2) Tryz.func55 rfl Tryz.ntmps55 (by show 2≤20;decide) rfl rfl rfl rfl (by decide) (by decide) (fun _ _=>rfl) (fun _ _=>rfl) fun w=>?_
 refine gv_seq<|gv_region<|gv_pureN 2 [6,7] [(7,.bool false)] (by kernel_rfl) ?_
 refine gv_nil<|gv_cond (b:=false) (by kernel_rfl) (fun h=>by cases h) (fun _=>?_)
 refine gv_skip ?_
 exact gv_fall (gv_done [] rfl trivial ⟨⟨_,rfl⟩,rfl⟩)
theorem invoke55 (cap:Array Value) (w:World):(invoke (.fn (.func 55) cap) #[]).run Tryz.prog w= .ok (.enter 55 cap) w:=by
 have hn : ¬ (Tryz.f55.name = "runtime.NumGoroutine") := by decide
 have hb:¬ (Tryz.f55.body=none):=fun e=>by cases e
 simp[invoke,callFunc,Tryz.func55,hn,hb,program,Sem.run]
end Go.Proofs.YtmpmeiihjnnomaaGreatDoor
