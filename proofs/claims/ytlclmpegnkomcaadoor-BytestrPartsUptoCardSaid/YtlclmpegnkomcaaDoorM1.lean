import Derived.Test.YtlclmpegnkomcaaDoorU1
import Derived.Test.YtlclmpegnkomcaaDoorL1
set_option linter.all false
namespace Go.Gv.R
open Go Go.Gv Go.Gv.D Go.Lib

theorem at_tot (a b : Int) : Tot (fun fuel => ref4_At fuel a b) (fun r => r = (a, b)) := by unfold ref4_At; exact Tot.ret rfl
end Go.Gv.R
namespace Go.Gv.R
open Go Go.Gv Go.Gv.D Go.Lib

/-! ### the first place of a byte -/
/-! ### joining -/
theorem join_len (xs : List (List UInt8)) (sep : List UInt8) : (Lib.join xs sep).length = sep.length * (xs.length - 1) + lens xs := by
  cases xs with
  | nil => rfl
  | cons x r => rw [join_length]; rfl
theorem mul_le (a b : Nat) (ha : a ≤ 1048576) (hb : b ≤ 1048576) : a * b ≤ 1099511627776 := Nat.le_trans (Nat.mul_le_mul ha hb) (by decide)
theorem Join_tot {l : List (List UInt8)} {sep : List UInt8} (hl : l.length ≤ 1048576) (hs : sep.length ≤ 1048576) (hn : lens l ≤ 1048576) : Tot (fun fuel => bytestr_Join fuel l sep) (fun r => r = if 4000 < (Lib.join l sep).length then ([], (3, -1)) else (Lib.join l sep, (0, 0))) := by
  unfold bytestr_Join
  have hm := mul_le (l.length - 1) sep.length (by omega) hs
  have h0 : IntKind.i64.wrap ((if 0 < IntKind.i64.wrap (((l.length : Nat) : Int) - 1) then IntKind.i64.wrap (((l.length : Nat) : Int) - 1) else 0) * ((sep.length : Nat) : Int)) = (((l.length - 1) * sep.length : Nat) : Int) := by
    rw [i64_small (x := ((l.length : Nat) : Int) - 1) (by omega) (by omega)]
    have : (if (0 : Int) < ((l.length : Nat) : Int) - 1 then ((l.length : Nat) : Int) - 1 else 0) = ((l.length - 1 : Nat) : Int) := by split <;> omega
    rw [this, ← Int.natCast_mul]
    exact iw rfl (by omega)
  rw [h0]
  have hjl := join_len l sep
  rw [Nat.mul_comm] at hjl
  refine Tot.some_bind (Tot.bindq (P := fun j => j = (((Lib.join l sep).length : Nat) : Int)) ?_ fun j hj => ?_)
  · refine Tot.loop (fun st => ∃ i : Nat, st.2 = (i : Int) ∧ i ≤ l.length ∧ st.1 = (((l.length - 1) * sep.length + lens (l.take i) : Nat) : Int)) (fun st => l.length - st.2.toNat) ⟨0, rfl, by omega, rfl⟩ fun st ⟨i, e, hi, g⟩ => ?_
    obtain ⟨n, q⟩ := st
    simp only at e g
    subst e g
    dsimp only
    refine Tot.ite (fun q => ?_) (fun q => ?_)
    · have q : i < l.length := by have : ((i : Nat) : Int) < (l.length : Int) := of_decide_eq_true q; omega
      have h1 := lens_take_succ l i l[i] (List.getElem?_eq_getElem q)
      have h2 := lens_take_le l (i + 1)
      refine Tot.bind0 (idx_nat q) (Tot.some_bind (Tot.ret ⟨⟨i + 1, iw (by omega) (by omega), q, iw (by rw [h1]; omega) (by omega)⟩, ?_⟩))
      show l.length - (IntKind.i64.wrap ((i : Int) + 1)).toNat < l.length - ((i : Nat) : Int).toNat
      rw [iw (n := i + 1) (by omega) (by omega)]; omega
    · have q : i = l.length := by have : ¬ ((i : Nat) : Int) < (l.length : Int) := of_decide_eq_false q; omega
      subst q
      exact Tot.ret (by rw [hjl, List.take_length])
  · subst hj
    refine Tot.ite (fun q => ?_) (fun q => ?_)
    · have q : (((Lib.join l sep).length : Nat) : Int) > 4000 := of_decide_eq_true q
      refine Tot.bindq (bytestr_at_tot 3 (-1)) fun r hr => Tot.ret ?_
      subst hr
      rw [if_pos (by omega)]
    · have q : ¬ (((Lib.join l sep).length : Nat) : Int) > 4000 := of_decide_eq_false q
      refine Tot.bindq (P := fun x => x = Lib.join l sep) ?_ fun x hx => Tot.ret (by rw [hx, if_neg (by omega)])
      unfold bytes_Join
      rw [if_pos ⟨by omega, by rw [Nat.mul_comm]; omega⟩]
      exact Tot.ret rfl
/-! ### translating -/
end Go.Gv.R

