import Derived.ProofKit
import Derived.Deep.Slices
import Derived.OpenShut
import Derived.Test.YtmpmeiihjnnomaaGreatDoorGt
/- Own work: an argument that can be read as data has a content in the sense of 'Enc', for every shape. -/
set_option linter.all false
namespace Go.Gv
open Go.ChangeShapes Go.WideShapes Go.RowKit Go.Deep
mutual
def bulk {H:Type}:DataW H→Nat
 | .lit (.string bytes)=>bytes.length+1
 | .lit _=>1
 | .nil=>1
 | .ptr d=>bulk d+1
 | .slice elems spare=>bulkAll elems+bulkAll spare+1
 | .agg parts=>bulkAll parts+1
 | .iface _ d=>bulk d+1
 | .map entries=>bulkEntries entries+1
 | .held _=>1
def bulkAll {H:Type}:List (DataW H)→Nat
 | []=>0
 | d::r=>bulk d+bulkAll r
def bulkEntries {H:Type}:List (Lit × DataW H)→Nat
 | []=>0
 | x::r=>bulkEntry x+bulkEntries r
def bulkEntry {H:Type}:Lit × DataW H→Nat
 | (.string bytes,d)=>bytes.length+bulk d+1
 | (_,d)=>bulk d+1
end
def Opens {α:Type} (P:Program) (t:TypeId) (E:Enc α) (wf:α→Prop) (m:α→Nat):Prop:=
 P.cellsOf t=E.n∧∀ {H:Type} {enc:TypeId × Value→H} {w:World} {base:Nat} {sp:Nat→Bool} {held:Bool} {fuel:Nat} {cs:List Value} {y:DataW H × List MemPlace},
  DataW.trod enc P w base sp held fuel t cs=some y→∃ x,E.rep w (fun k=>k<w.heap.size) cs x∧wf x∧m x≤bulk y.1
section
variable {P:Program} {t:TypeId}
theorem opens_int {k:IntKind} (ht:P.underlying t=some (.int k)) (hc:P.cellsOf t=1):Opens P t (iE k) (inK k) (fun _=>1):=by
 refine ⟨hc,fun {H enc w base sp held fuel cs y} h=>?_⟩
 obtain ⟨n,rfl,rfl,hw⟩:=DataW.trod_int ht h
 exact ⟨n,rfl,hw,Nat.le_refl _⟩
theorem opens_string (ht:P.underlying t=some .string) (hc:P.cellsOf t=1):Opens P t sE (fun s=>s.size≤maxLen) (fun s=>s.size+1):=by
 refine ⟨hc,fun {H enc w base sp held fuel cs y} h=>?_⟩
 obtain ⟨s,rfl,rfl,hs⟩:=DataW.trod_string ht h
 refine ⟨s,rfl,hs,?_⟩
 simp only[bulk,Array.length_toList]
 exact Nat.le_refl _
theorem open_arg {α:Type} {E:Enc α} {wf:α→Prop} {m:α→Nat} (h:Opens P t E wf m) {H:Type} {enc:TypeId × Value→H} {w:World} {base:Nat} {sp:Nat→Bool} {held:Bool} {v:Value} {d:DataW H} {ps:List MemPlace}
 (hd:DataW.Trod enc P w base sp held t v d ps):∃ x,E.rep w (fun k=>k<w.heap.size) v.cells.toList x∧wf x∧m x≤bulk d:=by
 obtain ⟨fuel,hf⟩:=hd
 exact h.2 hf
theorem one_inj {v u:Value} (h:(#[v]:Array Value).toList=[u]):v=u:=by simpa using h
theorem post_law {H:Type} {enc:TypeId × Value→H} {f:Func} {s:ChangeSpec} {apart:Bool} {W W':World} {args:Array Value} {v:Value} {ds gs:List (DataW H)} {before pa:List MemPlace}
 (hW:DataW.Whole enc P f.params.toList s.vars apart W args.toList ds gs before)
 (hres:DataW.TrodAll enc P W' W.heap.size (fun _=>false) false f.resultTypes.toList (v.resultList f.resultTypes.size) (s.fn H (ds++gs)).results [])
 (hargs:DataW.TrodAll enc P W' 0 (fun b=>decide (b<W.heap.size)) true f.params.toList args.toList (s.fn H (ds++gs)).args pa)
 (hvars:DataW.TrodVars enc P W' (fun b=>decide (b<W.heap.size)) s.vars (s.fn H (ds++gs)).vars []) (hk:W.keptBut W' (fun _=>False)):s.post enc P f apart true false false W args v W':=
 ⟨ds,gs,before,[],pa,[],hW,hres,hargs,hvars,World.keptBut_mono (fun _ h=>h.elim) hk,fun h=>by cases h⟩
theorem ret_elim {S:Value→World→Prop} {e:Ending} {w:World} (h:Ret S e w):∃ v,e= .returned v∧S v w:=by
 cases e with
 | returned v=>exact ⟨v,rfl,h⟩
 | _=>exact h.elim
end
end Go.Gv
