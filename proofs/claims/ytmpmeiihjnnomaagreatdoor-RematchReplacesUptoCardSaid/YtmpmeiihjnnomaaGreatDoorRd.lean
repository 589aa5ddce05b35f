import Derived.Test.YtmpmeiihjnnomaaGreatDoorProg
import Derived.Test.YtmpmeiihjnnomaaGreatDoorRc
import Derived.Test.YtmpmeiihjnnomaaGreatDoorGpc
set_option linter.all false
namespace Go.Proofs.YtmpmeiihjnnomaaGreatDoor
open Go.RowKit Go.Gv
set_option maxRecDepth 100000
theorem zk6 (p q:Value):zmc Tryz.prog 55 #[p,q]:=by
 refine zpu (d0:=5) (d1:=2) Tryz.func55 rfl Tryz.ntmps55 (by show 2<=20;decide) rfl rfl rfl rfl (by decide) (by decide) (fun _ _=>rfl) (fun _ _=>rfl) fun w=>?_
 refine gv_seq<|gv_region<|zxy 2 [6,7] [(7,.bool false)] (by kernel_rfl) ?_
 refine gv_nil<|gv_cond (b:=false) (by kernel_rfl) (fun h=>by cases h) (fun _=>?_)
 refine gv_skip ?_
 exact zqN (gv_done [] rfl trivial ⟨⟨_,rfl⟩,rfl⟩)
theorem zm3 (cap:Array Value) (w:World):(invoke (.fn (.func 55) cap) #[]).run Tryz.prog w= .ok (.enter 55 cap) w:=by
 have hn : ¬ (Tryz.f55.name = "runtime.NumGoroutine") := by decide
 have hb:¬ (Tryz.f55.body=none):=fun e=>by cases e
 simp[invoke,callFunc,Tryz.func55,hn,hb,program,Sem.run]
end Go.Proofs.YtmpmeiihjnnomaaGreatDoor
