/-
  Own rules: functions of the library that have no body (the model's own entries), and addresses within arrays. No condition of its own.
-/
import Derived.Lib.Bytealg
import Derived.Laws.Externs
import Derived.Test.YtaeeniomdicclaaDoorGe
set_option linter.all false
namespace Go.Gv
open Go.RowKit

/-! ### pure counterparts -/
def nIdxB (l : List UInt8) (c : Int) : Int := Lib.indexByte l c.toNat.toUInt8
/-! ### tables of the library -/
def utf8First : List UInt8 := List.replicate 128 240 ++ List.replicate 66 241 ++ List.replicate 30 2 ++ [19] ++ List.replicate 12 3 ++ [35, 3, 3, 52] ++ List.replicate 3 4 ++ [68] ++ List.replicate 11 241
theorem utf8First_len : utf8First.length = 256 := by
  unfold utf8First
  simp only [List.length_append, List.length_replicate, List.length_cons, List.length_nil]
def utf8Acc : List (Int × Int) := [(128, 191), (160, 191), (128, 159), (144, 191), (128, 143)] ++ List.replicate 11 (0, 0)
theorem utf8Acc_len : utf8Acc.length = 16 := by simp [utf8Acc]

section
variable {P : Program} {R : RR} {n : Nat} {k : List It} {σ σ' : List (Nat × Value)} {w : World} {all : Array Oper} {C : World → Prop} {o : Oper} {m : Mk} {rest : List (Oper × Mk)}

theorem gv_idxarr {t e : TypeId} {A : Addr} {len : Nat} {kk : IntKind} {i : Int} {sz : Nat} (ss : List Nat) {d : Nat} (hm : m = some false → C w) (hd' : o.dst = some d) (hdn : Nat.blt d n = true) (hg : guardB all σ o = some true)
    (hk : (noSel o.op && known σ o.op.operands.toList) = true) (hop : execOp (evr σ) o = (do pure (.value (← Instr.indexAt t (.pointer (some A)) (.int kk i))))) (ht : P.underlying t = some (.array len e)) (hsz : (P.info? e).map (·.size) = some sz)
    (h0 : 0 ≤ i) (h1 : i < len)
    (hp : pk ss (put σ d (.pointer (some (elemAddr (some A) (i.toNat * sz))))) = some σ') (h : Run P R n (.ops all C rest :: k) .normal σ' w) : Run P R n (.ops all C ((o, m) :: rest) :: k) .normal σ w :=
  gv_eqv _ ss hm hd' hdn hg hk (fun w' _ => by
    rw [hop]
    have hh : 0 ≤ i ∧ i < (len : Int) := ⟨h0, h1⟩
    simp [Instr.indexAt, Instr.sureAddr, asIntOf, run_underlying ht, run_sizeOf' hsz, hh, elemAddr]) hp h
end

end Go.Gv
