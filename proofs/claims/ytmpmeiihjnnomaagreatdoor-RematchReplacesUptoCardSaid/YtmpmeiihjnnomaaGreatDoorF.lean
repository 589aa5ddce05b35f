/- The law RematchReplaces answers true for every input of bulk at most 1048576, and its arguments read as before; the listed tables and sentinels are tied to the text of the program. -/
import Derived.Test.YtmpmeiihjnnomaaGreatDoorCards
import Derived.Test.YtmpmeiihjnnomaaGreatDoorTie
import Derived.SevenTiedAt
import Derived.Test.YtmpmeiihjnnomaaGreatDoorGn
import Derived.Test.YtmpmeiihjnnomaaGreatDoorGpw
import Derived.Test.YtmpmeiihjnnomaaGreatDoorRows
import Derived.Test.YtmpmeiihjnnomaaGreatDoorP4
import Derived.Test.YtmpmeiihjnnomaaGreatDoorYV
namespace Go.Proofs.YtmpmeiihjnnomaaGreatDoor.rematchReplacesF
open Go.ChangeShapes Go.WideShapes Go.ChangeAt Go.RowKit Go.Gv Go.Gv.D
set_option linter.all false
theorem own:ownKnob Tryz.prog.godebug=none:=by kernel_rfl
theorem zrx:laidOutB Tryz.prog=true:=by kernel_rfl
theorem zjA (k:Nat):zvr k Tryz.prog 25 pcE (fun _=>True) mPc:=by
 induction k using Nat.strongRecOn with
 | ind k ih=>
   have hS : zvr k Tryz.prog 25 (prE (iE .i64) (prE (iE .i64) (prE (iE .i64) (prE tE (prE tE (prE (slE (prE (iE .i64) (iE .i64))) (slE pcE))))))) (fun x => (inK .i64) x.1 ∧ (fun x => (inK .i64) x.1 ∧ (fun x => (inK .i64) x.1 ∧ (fun x => (fun _ => True) x.1 ∧ (fun x => (fun _ => True) x.1 ∧ (fun x => (fun xs => (∀ x ∈ xs, (fun x => (inK .i64) x.1 ∧ (inK .i64) x.2) x) ∧ xs.length <= maxLen) x.1 ∧ (fun xs => (∀ x ∈ xs, True) ∧ xs.length <= maxLen) x.2) x.2) x.2) x.2) x.2) x.2) (fun x => (fun x => (fun _ => 1) x.1 + (fun x => (fun _ => 1) x.1 + (fun x => (fun _ => 1) x.1 + (fun x => (fun _ => 1) x.1 + (fun x => (fun _ => 1) x.1 + (fun x => (zxE (fun x => (fun x => (fun _ => 1) x.1 + (fun _ => 1) x.2) x + 1)) x.1 + (zxE mPc) x.2) x.2) x.2) x.2) x.2) x.2) x + 1) := zru (E := (prE (iE .i64) (prE (iE .i64) (prE (iE .i64) (prE tE (prE tE (prE (slE (prE (iE .i64) (iE .i64))) (slE pcE)))))))) (wf := (fun x => (inK .i64) x.1 ∧ (fun x => (inK .i64) x.1 ∧ (fun x => (inK .i64) x.1 ∧ (fun x => (fun _ => True) x.1 ∧ (fun x => (fun _ => True) x.1 ∧ (fun x => (fun xs => (∀ x ∈ xs, (fun x => (inK .i64) x.1 ∧ (inK .i64) x.2) x) ∧ xs.length <= maxLen) x.1 ∧ (fun xs => (∀ x ∈ xs, True) ∧ xs.length <= maxLen) x.2) x.2) x.2) x.2) x.2) x.2)) (m := (fun x => (fun _ => 1) x.1 + (fun x => (fun _ => 1) x.1 + (fun x => (fun _ => 1) x.1 + (fun x => (fun _ => 1) x.1 + (fun x => (fun _ => 1) x.1 + (fun x => (zxE (fun x => (fun x => (fun _ => 1) x.1 + (fun _ => 1) x.2) x + 1)) x.1 + (zxE mPc) x.2) x.2) x.2) x.2) x.2) x.2)) Tryz.underlying25 (by kernel_rfl) (fun j hj => (zy9 3 (E := (iE .i64)) (F := (prE (iE .i64) (prE (iE .i64) (prE tE (prE tE (prE (slE (prE (iE .i64) (iE .i64))) (slE pcE))))))) (wf := (inK .i64)) (wg := (fun x => (inK .i64) x.1 ∧ (fun x => (inK .i64) x.1 ∧ (fun x => (fun _ => True) x.1 ∧ (fun x => (fun _ => True) x.1 ∧ (fun x => (fun xs => (∀ x ∈ xs, (fun x => (inK .i64) x.1 ∧ (inK .i64) x.2) x) ∧ xs.length <= maxLen) x.1 ∧ (fun xs => (∀ x ∈ xs, True) ∧ xs.length <= maxLen) x.2) x.2) x.2) x.2) x.2)) (m := (fun _ => 1)) (m' := (fun x => (fun _ => 1) x.1 + (fun x => (fun _ => 1) x.1 + (fun x => (fun _ => 1) x.1 + (fun x => (fun _ => 1) x.1 + (fun x => (zxE (fun x => (fun x => (fun _ => 1) x.1 + (fun _ => 1) x.2) x + 1)) x.1 + (zxE mPc) x.2) x.2) x.2) x.2) x.2)) (by kernel_rfl) (by kernel_rfl) (zxa.K (zyM Tryz.underlying3 (by kernel_rfl))) (zy9 3 (E := (iE .i64)) (F := (prE (iE .i64) (prE tE (prE tE (prE (slE (prE (iE .i64) (iE .i64))) (slE pcE)))))) (wf := (inK .i64)) (wg := (fun x => (inK .i64) x.1 ∧ (fun x => (fun _ => True) x.1 ∧ (fun x => (fun _ => True) x.1 ∧ (fun x => (fun xs => (∀ x ∈ xs, (fun x => (inK .i64) x.1 ∧ (inK .i64) x.2) x) ∧ xs.length <= maxLen) x.1 ∧ (fun xs => (∀ x ∈ xs, True) ∧ xs.length <= maxLen) x.2) x.2) x.2) x.2)) (m := (fun _ => 1)) (m' := (fun x => (fun _ => 1) x.1 + (fun x => (fun _ => 1) x.1 + (fun x => (fun _ => 1) x.1 + (fun x => (zxE (fun x => (fun x => (fun _ => 1) x.1 + (fun _ => 1) x.2) x + 1)) x.1 + (zxE mPc) x.2) x.2) x.2) x.2)) (by kernel_rfl) (by kernel_rfl) (zxa.K (zyM Tryz.underlying3 (by kernel_rfl))) (zy9 3 (E := (iE .i64)) (F := (prE tE (prE tE (prE (slE (prE (iE .i64) (iE .i64))) (slE pcE))))) (wf := (inK .i64)) (wg := (fun x => (fun _ => True) x.1 ∧ (fun x => (fun _ => True) x.1 ∧ (fun x => (fun xs => (∀ x ∈ xs, (fun x => (inK .i64) x.1 ∧ (inK .i64) x.2) x) ∧ xs.length <= maxLen) x.1 ∧ (fun xs => (∀ x ∈ xs, True) ∧ xs.length <= maxLen) x.2) x.2) x.2)) (m := (fun _ => 1)) (m' := (fun x => (fun _ => 1) x.1 + (fun x => (fun _ => 1) x.1 + (fun x => (zxE (fun x => (fun x => (fun _ => 1) x.1 + (fun _ => 1) x.2) x + 1)) x.1 + (zxE mPc) x.2) x.2) x.2)) (by kernel_rfl) (by kernel_rfl) (zxa.K (zyM Tryz.underlying3 (by kernel_rfl))) (zy9 4 (E := tE) (F := (prE tE (prE (slE (prE (iE .i64) (iE .i64))) (slE pcE)))) (wf := (fun _ => True)) (wg := (fun x => (fun _ => True) x.1 ∧ (fun x => (fun xs => (∀ x ∈ xs, (fun x => (inK .i64) x.1 ∧ (inK .i64) x.2) x) ∧ xs.length <= maxLen) x.1 ∧ (fun xs => (∀ x ∈ xs, True) ∧ xs.length <= maxLen) x.2) x.2)) (m := (fun _ => 1)) (m' := (fun x => (fun _ => 1) x.1 + (fun x => (zxE (fun x => (fun x => (fun _ => 1) x.1 + (fun _ => 1) x.2) x + 1)) x.1 + (zxE mPc) x.2) x.2)) (by kernel_rfl) (by kernel_rfl) (zxa.K (zvi Tryz.underlying4 (by kernel_rfl))) (zy9 4 (E := tE) (F := (prE (slE (prE (iE .i64) (iE .i64))) (slE pcE))) (wf := (fun _ => True)) (wg := (fun x => (fun xs => (∀ x ∈ xs, (fun x => (inK .i64) x.1 ∧ (inK .i64) x.2) x) ∧ xs.length <= maxLen) x.1 ∧ (fun xs => (∀ x ∈ xs, True) ∧ xs.length <= maxLen) x.2)) (m := (fun _ => 1)) (m' := (fun x => (zxE (fun x => (fun x => (fun _ => 1) x.1 + (fun _ => 1) x.2) x + 1)) x.1 + (zxE mPc) x.2)) (by kernel_rfl) (by kernel_rfl) (zxa.K (zvi Tryz.underlying4 (by kernel_rfl))) (zy9 22 (E := (slE (prE (iE .i64) (iE .i64)))) (F := (slE pcE)) (wf := (fun xs => (∀ x ∈ xs, (fun x => (inK .i64) x.1 ∧ (inK .i64) x.2) x) ∧ xs.length <= maxLen)) (wg := (fun xs => (∀ x ∈ xs, True) ∧ xs.length <= maxLen)) (m := (zxE (fun x => (fun x => (fun _ => 1) x.1 + (fun _ => 1) x.2) x + 1))) (m' := (zxE mPc)) (by kernel_rfl) (by kernel_rfl) (zxa.K (zvL (E := (prE (iE .i64) (iE .i64))) (wf := (fun x => (inK .i64) x.1 ∧ (inK .i64) x.2)) (m := (fun x => (fun x => (fun _ => 1) x.1 + (fun _ => 1) x.2) x + 1)) Tryz.underlying22 (by kernel_rfl) (ztY (n := 2) (e := 3) (E := (prE (iE .i64) (iE .i64))) (wf := (fun x => (inK .i64) x.1 ∧ (inK .i64) x.2)) (m := (fun x => (fun _ => 1) x.1 + (fun _ => 1) x.2)) [⟨"", 3, 0, false, "", "", 0⟩, ⟨"", 3, 1, false, "", "", 0⟩] (by kernel_rfl) Tryz.underlying37 (by kernel_rfl) (zyN 3 (E := (iE .i64)) (F := (iE .i64)) (wf := (inK .i64)) (wg := (inK .i64)) (m := (fun _ => 1)) (m' := (fun _ => 1)) (by kernel_rfl) (by kernel_rfl) (zyM Tryz.underlying3 (by kernel_rfl)) (zuX 3 (E := (iE .i64)) (wf := (inK .i64)) (m := (fun _ => 1)) (by kernel_rfl) (by kernel_rfl) (zyM Tryz.underlying3 (by kernel_rfl))))) (by kernel_rfl))) (zqa 23 (E := (slE pcE)) (wf := (fun xs => (∀ x ∈ xs, True) ∧ xs.length <= maxLen)) (m := (zxE mPc)) (by kernel_rfl) (by kernel_rfl) (zrX (E := pcE) (wf := fun _ => True) (m := mPc) Tryz.underlying23 (by kernel_rfl) (fun i hi => ih i (Nat.lt_trans hi hj)) (by kernel_rfl) (by kernel_rfl))))))))))
   refine pc_of (wf:=(fun x=>(inK .i64) x.1∧(fun x=>(inK .i64) x.1∧(fun x=>(inK .i64) x.1∧(fun x=>(fun _=>True) x.1∧(fun x=>(fun _=>True) x.1∧(fun x=>(fun xs=>(∀ x∈xs,(fun x=>(inK .i64) x.1∧(inK .i64) x.2) x)∧xs.length<=maxLen) x.1∧(fun xs=>(∀ x∈xs,True)∧xs.length<=maxLen) x.2) x.2) x.2) x.2) x.2) x.2)) (m:=fun x=>(fun x=>(fun _=>1) x.1+(fun x=>(fun _=>1) x.1+(fun x=>(fun _=>1) x.1+(fun x=>(fun _=>1) x.1+(fun x=>(fun _=>1) x.1+(fun x=>(zxE (fun x=>(fun x=>(fun _=>1) x.1+(fun _=>1) x.2) x+1)) x.1+(zxE mPc) x.2) x.2) x.2) x.2) x.2) x.2) x+1) hS fun x=>?_
   have h1:=zs4 x.2.2.2.2.2.2
   have h2:=zrv x.2.2.2.2.2.1
   show 1+x.2.2.2.2.2.1.length+znk x.2.2.2.2.2.2<=1+(1+(1+(1+(1+(((x.2.2.2.2.2.1.map fun _=>3).sum+1)+((x.2.2.2.2.2.2.map mPc).sum+1))))))+1
   omega
theorem o25 : zxa Tryz.prog 25 (prE (iE .i64) (prE (iE .i64) (prE (iE .i64) (prE tE (prE tE (prE (slE (prE (iE .i64) (iE .i64))) (slE pcE))))))) (fun x => (inK .i64) x.1 ∧ (fun x => (inK .i64) x.1 ∧ (fun x => (inK .i64) x.1 ∧ (fun x => (fun _ => True) x.1 ∧ (fun x => (fun _ => True) x.1 ∧ (fun x => (fun xs => (∀ x ∈ xs, (fun x => (inK .i64) x.1 ∧ (inK .i64) x.2) x) ∧ xs.length <= maxLen) x.1 ∧ (fun xs => (∀ x ∈ xs, (fun _ => True) x) ∧ xs.length <= maxLen) x.2) x.2) x.2) x.2) x.2) x.2) (fun x => (fun x => (fun _ => 1) x.1 + (fun x => (fun _ => 1) x.1 + (fun x => (fun _ => 1) x.1 + (fun x => (fun _ => 1) x.1 + (fun x => (fun _ => 1) x.1 + (fun x => (zxE (fun x => (fun x => (fun _ => 1) x.1 + (fun _ => 1) x.2) x + 1)) x.1 + (zxE mPc) x.2) x.2) x.2) x.2) x.2) x.2) x + 1) := (zrR (E := (prE (iE .i64) (prE (iE .i64) (prE (iE .i64) (prE tE (prE tE (prE (slE (prE (iE .i64) (iE .i64))) (slE pcE)))))))) (wf := (fun x => (inK .i64) x.1 ∧ (fun x => (inK .i64) x.1 ∧ (fun x => (inK .i64) x.1 ∧ (fun x => (fun _ => True) x.1 ∧ (fun x => (fun _ => True) x.1 ∧ (fun x => (fun xs => (∀ x ∈ xs, (fun x => (inK .i64) x.1 ∧ (inK .i64) x.2) x) ∧ xs.length <= maxLen) x.1 ∧ (fun xs => (∀ x ∈ xs, (fun _ => True) x) ∧ xs.length <= maxLen) x.2) x.2) x.2) x.2) x.2) x.2)) (m := (fun x => (fun _ => 1) x.1 + (fun x => (fun _ => 1) x.1 + (fun x => (fun _ => 1) x.1 + (fun x => (fun _ => 1) x.1 + (fun x => (fun _ => 1) x.1 + (fun x => (zxE (fun x => (fun x => (fun _ => 1) x.1 + (fun _ => 1) x.2) x + 1)) x.1 + (zxE mPc) x.2) x.2) x.2) x.2) x.2) x.2)) Tryz.underlying25 (by kernel_rfl) (zyN 3 (E := (iE .i64)) (F := (prE (iE .i64) (prE (iE .i64) (prE tE (prE tE (prE (slE (prE (iE .i64) (iE .i64))) (slE pcE))))))) (wf := (inK .i64)) (wg := (fun x => (inK .i64) x.1 ∧ (fun x => (inK .i64) x.1 ∧ (fun x => (fun _ => True) x.1 ∧ (fun x => (fun _ => True) x.1 ∧ (fun x => (fun xs => (∀ x ∈ xs, (fun x => (inK .i64) x.1 ∧ (inK .i64) x.2) x) ∧ xs.length <= maxLen) x.1 ∧ (fun xs => (∀ x ∈ xs, (fun _ => True) x) ∧ xs.length <= maxLen) x.2) x.2) x.2) x.2) x.2)) (m := (fun _ => 1)) (m' := (fun x => (fun _ => 1) x.1 + (fun x => (fun _ => 1) x.1 + (fun x => (fun _ => 1) x.1 + (fun x => (fun _ => 1) x.1 + (fun x => (zxE (fun x => (fun x => (fun _ => 1) x.1 + (fun _ => 1) x.2) x + 1)) x.1 + (zxE mPc) x.2) x.2) x.2) x.2) x.2)) (by kernel_rfl) (by kernel_rfl) (zyM Tryz.underlying3 (by kernel_rfl)) (zyN 3 (E := (iE .i64)) (F := (prE (iE .i64) (prE tE (prE tE (prE (slE (prE (iE .i64) (iE .i64))) (slE pcE)))))) (wf := (inK .i64)) (wg := (fun x => (inK .i64) x.1 ∧ (fun x => (fun _ => True) x.1 ∧ (fun x => (fun _ => True) x.1 ∧ (fun x => (fun xs => (∀ x ∈ xs, (fun x => (inK .i64) x.1 ∧ (inK .i64) x.2) x) ∧ xs.length <= maxLen) x.1 ∧ (fun xs => (∀ x ∈ xs, (fun _ => True) x) ∧ xs.length <= maxLen) x.2) x.2) x.2) x.2)) (m := (fun _ => 1)) (m' := (fun x => (fun _ => 1) x.1 + (fun x => (fun _ => 1) x.1 + (fun x => (fun _ => 1) x.1 + (fun x => (zxE (fun x => (fun x => (fun _ => 1) x.1 + (fun _ => 1) x.2) x + 1)) x.1 + (zxE mPc) x.2) x.2) x.2) x.2)) (by kernel_rfl) (by kernel_rfl) (zyM Tryz.underlying3 (by kernel_rfl)) (zyN 3 (E := (iE .i64)) (F := (prE tE (prE tE (prE (slE (prE (iE .i64) (iE .i64))) (slE pcE))))) (wf := (inK .i64)) (wg := (fun x => (fun _ => True) x.1 ∧ (fun x => (fun _ => True) x.1 ∧ (fun x => (fun xs => (∀ x ∈ xs, (fun x => (inK .i64) x.1 ∧ (inK .i64) x.2) x) ∧ xs.length <= maxLen) x.1 ∧ (fun xs => (∀ x ∈ xs, (fun _ => True) x) ∧ xs.length <= maxLen) x.2) x.2) x.2)) (m := (fun _ => 1)) (m' := (fun x => (fun _ => 1) x.1 + (fun x => (fun _ => 1) x.1 + (fun x => (zxE (fun x => (fun x => (fun _ => 1) x.1 + (fun _ => 1) x.2) x + 1)) x.1 + (zxE mPc) x.2) x.2) x.2)) (by kernel_rfl) (by kernel_rfl) (zyM Tryz.underlying3 (by kernel_rfl)) (zyN 4 (E := tE) (F := (prE tE (prE (slE (prE (iE .i64) (iE .i64))) (slE pcE)))) (wf := (fun _ => True)) (wg := (fun x => (fun _ => True) x.1 ∧ (fun x => (fun xs => (∀ x ∈ xs, (fun x => (inK .i64) x.1 ∧ (inK .i64) x.2) x) ∧ xs.length <= maxLen) x.1 ∧ (fun xs => (∀ x ∈ xs, (fun _ => True) x) ∧ xs.length <= maxLen) x.2) x.2)) (m := (fun _ => 1)) (m' := (fun x => (fun _ => 1) x.1 + (fun x => (zxE (fun x => (fun x => (fun _ => 1) x.1 + (fun _ => 1) x.2) x + 1)) x.1 + (zxE mPc) x.2) x.2)) (by kernel_rfl) (by kernel_rfl) (zvi Tryz.underlying4 (by kernel_rfl)) (zyN 4 (E := tE) (F := (prE (slE (prE (iE .i64) (iE .i64))) (slE pcE))) (wf := (fun _ => True)) (wg := (fun x => (fun xs => (∀ x ∈ xs, (fun x => (inK .i64) x.1 ∧ (inK .i64) x.2) x) ∧ xs.length <= maxLen) x.1 ∧ (fun xs => (∀ x ∈ xs, (fun _ => True) x) ∧ xs.length <= maxLen) x.2)) (m := (fun _ => 1)) (m' := (fun x => (zxE (fun x => (fun x => (fun _ => 1) x.1 + (fun _ => 1) x.2) x + 1)) x.1 + (zxE mPc) x.2)) (by kernel_rfl) (by kernel_rfl) (zvi Tryz.underlying4 (by kernel_rfl)) (zyN 22 (E := (slE (prE (iE .i64) (iE .i64)))) (F := (slE pcE)) (wf := (fun xs => (∀ x ∈ xs, (fun x => (inK .i64) x.1 ∧ (inK .i64) x.2) x) ∧ xs.length <= maxLen)) (wg := (fun xs => (∀ x ∈ xs, (fun _ => True) x) ∧ xs.length <= maxLen)) (m := (zxE (fun x => (fun x => (fun _ => 1) x.1 + (fun _ => 1) x.2) x + 1))) (m' := (zxE mPc)) (by kernel_rfl) (by kernel_rfl) (zvL (E := (prE (iE .i64) (iE .i64))) (wf := (fun x => (inK .i64) x.1 ∧ (inK .i64) x.2)) (m := (fun x => (fun x => (fun _ => 1) x.1 + (fun _ => 1) x.2) x + 1)) Tryz.underlying22 (by kernel_rfl) (ztY (n := 2) (e := 3) (E := (prE (iE .i64) (iE .i64))) (wf := (fun x => (inK .i64) x.1 ∧ (inK .i64) x.2)) (m := (fun x => (fun _ => 1) x.1 + (fun _ => 1) x.2)) [⟨"", 3, 0, false, "", "", 0⟩, ⟨"", 3, 1, false, "", "", 0⟩] (by kernel_rfl) Tryz.underlying37 (by kernel_rfl) (zyN 3 (E := (iE .i64)) (F := (iE .i64)) (wf := (inK .i64)) (wg := (inK .i64)) (m := (fun _ => 1)) (m' := (fun _ => 1)) (by kernel_rfl) (by kernel_rfl) (zyM Tryz.underlying3 (by kernel_rfl)) (zuX 3 (E := (iE .i64)) (wf := (inK .i64)) (m := (fun _ => 1)) (by kernel_rfl) (by kernel_rfl) (zyM Tryz.underlying3 (by kernel_rfl))))) (by kernel_rfl)) (zuX 23 (E := (slE pcE)) (wf := (fun xs => (∀ x ∈ xs, (fun _ => True) x) ∧ xs.length <= maxLen)) (m := (zxE mPc)) (by kernel_rfl) (by kernel_rfl) (zvL (E := pcE) (wf := (fun _ => True)) (m := mPc) Tryz.underlying23 (by kernel_rfl) (zxa.ofK zjA) (by kernel_rfl))))))))))
theorem o9:zxa Tryz.prog 9 sE (fun s=>s.size<=maxLen) (fun s=>s.size+1):=(zrd Tryz.underlying9 (by kernel_rfl))
theorem o3:zxa Tryz.prog 3 (iE .i64) (inK .i64) (fun _=>1):=(zyM Tryz.underlying3 (by kernel_rfl))
mutual
theorem zsC {H:Type}:∀ d:DataW H,Rows.uptoBulk d=bulk d
 | .lit l=>by cases l<;>simp[Rows.uptoBulk,bulk]
 | .nil=>by simp[Rows.uptoBulk,bulk]
 | .ptr d=>by simp[Rows.uptoBulk,bulk,zsC d]
 | .slice a b=>by simp[Rows.uptoBulk,bulk,zwn a,zwn b]
 | .agg a=>by simp[Rows.uptoBulk,bulk,zwn a]
 | .iface _ d=>by simp[Rows.uptoBulk,bulk,zsC d]
 | .map m=>by simp[Rows.uptoBulk,bulk,zvP m]
 | .held _=>by simp[Rows.uptoBulk,bulk]
theorem zwn {H:Type}:∀ l:List (DataW H),Rows.uptoBulkAll l=zzI l
 | []=>by simp[Rows.uptoBulkAll,zzI]
 | d::r=>by simp[Rows.uptoBulkAll,zzI,zsC d,zwn r]
theorem zvP {H:Type}:∀ l:List (Lit × DataW H),Rows.uptoBulkEntries l=zxU l
 | []=>by simp[Rows.uptoBulkEntries,zxU]
 | d::r=>by simp[Rows.uptoBulkEntries,zxU,zr0 d,zvP r]
theorem zr0 {H:Type}:∀ x:Lit × DataW H,Rows.uptoBulkEntry x=ztl x
 | (l,d)=>by cases l<;>simp[Rows.uptoBulkEntry,ztl,zsC d]
end
theorem gn3 : Tryz.prog.globalNamed "internal/strconv.uint64pow10" = some 3 := by kernel_rfl
theorem gt3:(Tryz.prog.globals[3]?).map (·.type)=some 207:=by kernel_rfl
theorem dt3:(Lib.tabData .u64 Lib.pow10Tab:DataW Unit)=Rows.laid_internal_strconv_uint64pow10:=by kernel_rfl
theorem hg3 {W:World} (hL:laidMetH Tryz.prog Rows.rematchReplacesUptoRow.laid W):Rd (zsl 3 pow10C) W (fun k=>k<W.heap.size) (some ⟨3,0,none⟩) 1 [.int .u64 1]:=
 zmm gn3 gt3 Tryz.underlying207 Tryz.underlying159 (by kernel_rfl) (by kernel_rfl) (by rw [dt3]; exact Lib.laidMet.reads hL (n := "internal/strconv.uint64pow10") (d := Rows.laid_internal_strconv_uint64pow10) (.tail _ (.tail _ (.head _))))
theorem gn1 : Tryz.prog.globalNamed "unicode/utf8.acceptRanges" = some 1 := by kernel_rfl
theorem gt1:(Tryz.prog.globals[1]?).map (·.type)=some 143:=by kernel_rfl
theorem dt1:((.agg (utf8Acc.map fun z=>.agg [.lit (.int .u8 z.1),.lit (.int .u8 z.2)])):DataW Unit)=Rows.laid_unicode_utf8_acceptRanges:=by kernel_rfl
theorem hg1 {W:World} (hL:laidMetH Tryz.prog Rows.rematchReplacesUptoRow.laid W):Rd (prE (iE .u8) (iE .u8)) W (fun k=>k<W.heap.size) (some ⟨1,0,none⟩) 16 utf8Acc:=by
 have h0 := Lib.laidMet.reads hL (n := "unicode/utf8.acceptRanges") (d := Rows.laid_unicode_utf8_acceptRanges) (.tail _ (.tail _ (.tail _ (.head _))))
 rw[<- dt1]at h0
 have h1:=zm2 (zs:=utf8Acc) ztK gn1 gt1 Tryz.underlying143 Tryz.underlying142 (by kernel_rfl) rfl (fun j f hj=>by
  match j,hj with
  | 0,hj=>simp at hj;subst hj;exact ⟨Tryz.underlying5,rfl,(by kernel_rfl)⟩
  | 1,hj=>simp at hj;subst hj;exact ⟨Tryz.underlying5,rfl,(by kernel_rfl)⟩
  | j+2,hj=>simp at hj) h0
 rw[ztK]at h1
 exact h1
theorem gn7 : Tryz.prog.globalNamed "strconv.ErrRange" = some 7 := by kernel_rfl
theorem gt7:(Tryz.prog.globals[7]?).map (·.type)=some 99:=by kernel_rfl
theorem gn6 : Tryz.prog.globalNamed "strconv.ErrSyntax" = some 6 := by kernel_rfl
theorem gt6:(Tryz.prog.globals[6]?).map (·.type)=some 99:=by kernel_rfl
theorem gn0 : Tryz.prog.globalNamed "unicode/utf8.first" = some 0 := by kernel_rfl
theorem gt0:(Tryz.prog.globals[0]?).map (·.type)=some 140:=by kernel_rfl
theorem dt0:((Lib.tabData .u8 (utf8First.map fun z=>(z.toNat:Int))):DataW Unit)=Rows.laid_unicode_utf8_first:=by kernel_rfl
theorem hg0 {W:World} (hL:laidMetH Tryz.prog Rows.rematchReplacesUptoRow.laid W):Rd bE W (fun k=>k<W.heap.size) (some ⟨0,0,none⟩) 256 utf8First:=by
 have h0 := Lib.laidMet.reads hL (n := "unicode/utf8.first") (d := Rows.laid_unicode_utf8_first) (.tail _ (.tail _ (.tail _ (.tail _ (.tail _ (.tail _ (.head _)))))))
 rw[<- dt0]at h0
 have h1:=zj8 (zs:=utf8First) gn0 gt0 Tryz.underlying140 Tryz.underlying5 (by kernel_rfl) (by kernel_rfl) h0
 rw[zsB]at h1
 exact h1
theorem hg2 {W:World} (hSh:W.ShapedOpen Tryz.prog):∃ m,Rd (iE .i64) W (fun k=>k<W.heap.size) (some ⟨2,0,none⟩) 1 [m]:=
 zkO (cell_of_shapedOpen_int (g:=2) (zero:= #[.int .i64 0]) (t:=3) (k:=.i64) hSh (of_decide_eq_true (by kernel_rfl)) (by kernel_rfl) rfl (by kernel_rfl) (by kernel_rfl) Tryz.underlying3)
set_option maxRecDepth 100000 in
set_option maxHeartbeats 4000000 in
theorem zmJ (H:Type) (enc:TypeId × Value->H) (W:World) (base:Nat) (args:Array Value) (ds gs:List (DataW H)) (before:List MemPlace)
 (hval:∀ (j:Nat) t v,Tryz.f6.params[j]? =some t->args[j]? =some v->Value.okWide Tryz.prog W .any base t v)
 (hW:DataW.Whole enc Tryz.prog Tryz.f6.params.toList Rows.rematchReplacesSpec.vars false W args.toList ds gs before) (hk:Rows.uptoSmall H (ds++gs)=true) (hL:laidMetH Tryz.prog Rows.rematchReplacesUptoRow.laid W) (hSh:W.ShapedOpen Tryz.prog):
 Calls Tryz.prog 6 args W fun e W'=>∃ v,e= .returned v∧Rows.rematchReplacesSpec.post enc Tryz.prog Tryz.f6 false true false false W args v W':=by
 have hW':=hW
 obtain ⟨p,q,hA0,hV,rfl,hfz,hnd⟩:=hW
 have hA:DataW.TrodAll enc Tryz.prog W 0 (fun _=>true) true Tryz.f6.params.toList args.toList ds p:=hA0
 rw[Tryz.params6]at hA hval
 obtain ⟨v0,vs0,d0,ds0,p0,q0,hargs,rfl,rfl,h0,r0⟩:=trodAll_cons hA
 obtain ⟨v1,vs1,d1,ds1,p1,q1,rfl,rfl,rfl,h1,r1⟩:=trodAll_cons r0
 obtain ⟨v2,vs2,d2,ds2,p2,q2,rfl,rfl,rfl,h2,r2⟩:=trodAll_cons r1
 obtain ⟨v3,vs3,d3,ds3,p3,q3,rfl,rfl,rfl,h3,r3⟩:=trodAll_cons r2
 obtain ⟨rfl,rfl,rfl⟩:=trodAll_nil r3
 obtain rfl:args= #[v0,v1,v2,v3]:=by cases args;simp_all
 obtain ⟨rfl,rfl⟩:=trodVars_none hV
 obtain ⟨x0,hr0,hw0,hm0⟩:=zu4 o25 h0
 obtain ⟨x1,hr1,hw1,hm1⟩:=zu4 o9 h1
 obtain ⟨x2,hr2,hw2,hm2⟩:=zu4 o9 h2
 obtain ⟨x3,hr3,hw3,hm3⟩:=zu4 o3 h3
 simp only[List.append_nil]at hW'
 have hlt:∀ y∈p0++(p1++(p2++(p3))),y.block<W.heap.size:=fun y hy=>by simpa using hW'.lt y (by simpa using hy)
 obtain ⟨cs0,rfl,_⟩:=okWide_struct Tryz.underlying25 (hval 0 25 v0 rfl rfl)
 obtain ⟨_,_,e,rfl,⟨_,_,rfl,rfl,⟨_,_,rfl,rfl,⟨_,_,rfl,rfl,⟨_,_,rfl,rfl,⟨_,_,rfl,⟨a0_0,c0_0,rfl,hrd0_0⟩,⟨a0_1,c0_1,rfl,hrd0_1⟩⟩⟩⟩⟩⟩⟩:=hr0
 obtain rfl:cs0= #[(.int .i64 x0.1),(.int .i64 x0.2.1),(.int .i64 x0.2.2.1),(.bool x0.2.2.2.1),(.bool x0.2.2.2.2.1),(.slice a0_0 (List.length x0.2.2.2.2.2.1) c0_0),(.slice a0_1 (List.length x0.2.2.2.2.2.2) c0_1)]:=zhx e
 clear e
 obtain ⟨_,rfl⟩:=okWide_string Tryz.underlying9 (hval 1 9 v1 rfl rfl)
 cases zqZ hr1
 obtain ⟨_,rfl⟩:=okWide_string Tryz.underlying9 (hval 2 9 v2 rfl rfl)
 cases zqZ hr2
 obtain ⟨_,rfl⟩:=okWide_int Tryz.underlying3 (hval 3 3 v3 rfl rfl)
 cases zqZ hr3
 have hb:zzI [d0,d1,d2,d3]<=1048576:=by
  rw[<- zwn];simpa [Rows.uptoSmall] using hk
 simp only[zzI]at hb
 obtain ⟨fuel,hf⟩:=Tot.some (Go.Gv.M.RematchReplaces_said x0 x1 x2 x3 hw0 hw1 hw2 hw3 (by first | omega | (dsimp only at *; omega)))
 obtain ⟨gmx2,hgm2⟩:=hg2 hSh
 refine (zwK fuel a0_0 c0_0 a0_1 c0_1 x0 x1 x2 x3 W (fun k=>k<W.heap.size) (fun k h=>h) hrd0_0 hrd0_1 (hg0 hL) (hg1 hL) hgm2 (hg3 hL) true hf).mono fun e W' hh=>?_
 obtain ⟨v,rfl,hg,rfl⟩:=zmk hh
 have hbw:Below W.heap.size W W':=zvR hg
 exact ⟨_,rfl,zm9 hW' (trodAll_cons_mk (shut_bool Tryz.underlying4 _) trodAll_mk0) (trodAll_cons_mk (Below.trod zrx (by kernel_rfl) (of_decide_eq_true (by kernel_rfl)) h0 hbw (fun y hy=>hlt y (by simp[hy]))) (trodAll_cons_mk (Below.trod zrx (by kernel_rfl) (of_decide_eq_true (by kernel_rfl)) h1 hbw (fun y hy=>hlt y (by simp[hy]))) (trodAll_cons_mk (Below.trod zrx (by kernel_rfl) (of_decide_eq_true (by kernel_rfl)) h2 hbw (fun y hy=>hlt y (by simp[hy]))) (trodAll_cons_mk (Below.trod zrx (by kernel_rfl) (of_decide_eq_true (by kernel_rfl)) h3 hbw (fun y hy=>hlt y (by simp[hy]))) trodAll_mk0)))) rfl (hbw.frame _)⟩
set_option maxRecDepth 100000 in
noncomputable def low:Nat:=(World.holding Tryz.prog default ⟨#[], #[],[]⟩).heap.size
noncomputable def zum (os:Os):World:={ World.holding Tryz.prog os ⟨#[.cells #[.string ⟨#[118,97,108,117,101,32,111,117,116,32,111,102,32,114,97,110,103,101]⟩] 257,.cells #[.string ⟨#[105,110,118,97,108,105,100,32,115,121,110,116,97,120]⟩] 257], #[],[]⟩ with heap:=(ztm (ztm (ztm (ztm (ztm (ztm (ztm (World.holding Tryz.prog os ⟨#[.cells #[.string ⟨#[118,97,108,117,101,32,111,117,116,32,111,102,32,114,97,110,103,101]⟩] 257,.cells #[.string ⟨#[105,110,118,97,108,105,100,32,115,121,110,116,97,120]⟩] 257], #[],[]⟩).heap 4 (zpV (Rows.laid_math_bits_deBruijn32tab:DataW Unit))) 5 (zpV (Rows.laid_math_bits_deBruijn64tab:DataW Unit))) 3 (zpV (Rows.laid_internal_strconv_uint64pow10:DataW Unit))) 1 (utf8Acc.flatMap fun z=>[Value.int .u8 z.1,Value.int .u8 z.2])) 7 [.iface 255 (.pointer (some ⟨low+0,0,none⟩))]) 6 [.iface 255 (.pointer (some ⟨low+1,0,none⟩))]) 0 (utf8First.map fun z=>Value.int .u8 z.toNat))}
theorem zm0 (os:Os) (args:Array Value):laidMet Tryz.prog Rows.rematchReplacesUptoRow.laid ((zum os).forCall (fun _ _=>0) ⟨#[],args,[]⟩).memory:=
 (LaidIn.of_run (l:=Rows.rematchReplacesUptoRow.laid) [4,5,3,1,7,6,0,low+0,low+1] 8 (by kernel_rfl) (by kernel_rfl) (by kernel_rfl) (by kernel_rfl)).met
theorem zqs (os:Os) {H:Type} (enc:TypeId × Value->H):
 (Rows.OpenSpec.upto Rows.rematchReplacesSpec).preRow enc Tryz.prog Tryz.f6 Rows.rematchReplacesUptoRow.domain false Rows.rematchReplacesUptoRow.laid ((zum os).forCall (fun _ _=>0) ⟨#[], #[.agg #[.int .i64 0,.int .i64 0,.int .i64 0,.bool false,.bool false,.slice none 0 0,.slice none 0 0],.string ⟨#[]⟩,.string ⟨#[]⟩,.int .i64 0],[]⟩).memory #[.agg #[.int .i64 0,.int .i64 0,.int .i64 0,.bool false,.bool false,.slice none 0 0,.slice none 0 0],.string ⟨#[]⟩,.string ⟨#[]⟩,.int .i64 0]:=by
 have hw:(DataW.whole enc Tryz.prog ((zum os).forCall (fun _ _=>0) ⟨#[], #[.agg #[.int .i64 0,.int .i64 0,.int .i64 0,.bool false,.bool false,.slice none 0 0,.slice none 0 0],.string ⟨#[]⟩,.string ⟨#[]⟩,.int .i64 0],[]⟩).memory Tryz.f6.params.toList (Rows.OpenSpec.upto Rows.rematchReplacesSpec).vars false (#[.agg #[.int .i64 0,.int .i64 0,.int .i64 0,.bool false,.bool false,.slice none 0 0,.slice none 0 0],.string ⟨#[]⟩,.string ⟨#[]⟩,.int .i64 0]:Array Value).toList 8).map (fun x=>(x.1,x.2.1))=
  some ([.agg [.lit (.int .i64 0),.lit (.int .i64 0),.lit (.int .i64 0),.lit (.bool false),.lit (.bool false),.nil,.nil],.lit (.string []),.lit (.string []),.lit (.int .i64 0)],[]):=by kernel_rfl
 obtain ⟨⟨x1,x2,x3⟩,hx,hx1⟩:=Option.map_eq_some_iff.1 hw
 simp only[Prod.mk.injEq]at hx1
 obtain ⟨rfl,rfl⟩:=hx1
 exact OpenSpec.preRow_of_cond 8 hx (by kernel_rfl) (fun k hk=>by obtain rfl:=Option.some.inj hk;kernel_rfl) (by kernel_rfl) (zm0 os _)
set_option maxRecDepth 100000 in
set_option maxHeartbeats 4000000 in
theorem zie (os:Os) (started:os.Started) (H:Type) (enc:TypeId × Value->H) (F:Stop.Interp):
 ReturnsInHanded {} Tryz.checked os 6 .any ((Rows.OpenSpec.upto Rows.rematchReplacesSpec).preRow enc Tryz.prog Tryz.f6 Rows.rematchReplacesUptoRow.domain false Rows.rematchReplacesUptoRow.laid) (((Rows.OpenSpec.upto Rows.rematchReplacesSpec).at F).post enc Tryz.prog Tryz.f6 false true false false):=by
 refine returnsInHanded_of_row (C:=Tryz.checked) (s:=(Rows.OpenSpec.upto Rows.rematchReplacesSpec)) own started (by kernel_rfl) Tryz.func6
  (witness_row_atRef (enc:=enc) (C:=Tryz.checked) false (zum os) #[.agg #[.int .i64 0,.int .i64 0,.int .i64 0,.bool false,.bool false,.slice none 0 0,.slice none 0 0],.string ⟨#[]⟩,.string ⟨#[]⟩,.int .i64 0] rfl (by kernel_rfl) (by kernel_rfl) (by kernel_rfl) (zqs os enc)) ?_
 intro W base args ds gs before hval hW _ hk _ hL hSh _
 exact zmJ H enc W base args ds gs before hval hW (hk _ rfl) hL hSh
theorem bare:Rows.RematchReplacesUptoSaid:=
 OpenClaim.holds_of_cond 6 Tryz.f6 rfl rfl rfl rfl rfl rfl rfl ⟨rfl,rfl,rfl,rfl,rfl⟩ rfl rfl rfl rfl rfl (by kernel_rfl) Tryz.func6 (by kernel_rfl)
  (of_decide_eq_true (by kernel_rfl)) (by unfold Func.isWrapper;first | (rw[if_pos (by decide+kernel)];kernel_rfl) | (rw[if_neg (by decide+kernel)];exact ⟨rfl,rfl⟩))
  (fun os started H enc _ F0=>by rw[OpenClaim.pre_eq_preRow];exact zie os started H enc F0)
theorem proved:Rows.RematchReplacesUptoCardSaid:=
 Claim7.holds_tied_plain_at .later [] [.data, .data, .data, .data, .sentinel, .sentinel, .pinned] true (true, "96d1ac6531d81655380ad15f762a309b46f327e5bcf073b425e876092939f196") true
  bare (fun _ h=>by cases h) (by kernel_rfl) (fun _ h=>by cases h) rematchReplacesUpto_row_tie rfl ⟨rfl,rfl⟩ (by kernel_rfl) rfl
  (fun f fn hf hfn=>by
    obtain rfl : f = 6 := Option.some.inj ((show Tryz.prog.funcNamed "brindlewood/brindlewoodlaw4.RematchReplaces" = some 6 by kernel_rfl).symm.trans hf) |>.symm
    obtain rfl:fn=Tryz.f6:=(Option.some.inj (Tryz.func6.symm.trans hfn)).symm
    exact ⟨by kernel_rfl,fun j t ht=>by
     rw[Tryz.params6]at ht
     have hm:t∈[25,9,9,3]:=by simpa using Array.mem_of_getElem? ht
     have hall:([25,9,9,3].all fun u=> !Tryz.prog.wantsStandIn u)=true:=by kernel_rfl
     exact (show Tryz.prog.wantsStandIn t=false by simpa using List.all_eq_true.1 hall t hm)⟩)
  (by kernel_rfl)
end Go.Proofs.YtmpmeiihjnnomaaGreatDoor.rematchReplacesF
