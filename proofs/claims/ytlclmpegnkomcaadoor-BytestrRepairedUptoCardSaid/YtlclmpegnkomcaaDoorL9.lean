import Derived.Test.YtlclmpegnkomcaaDoorL8
import Derived.Test.YtlclmpegnkomcaaDoorGo
set_option linter.all false
namespace Go.Gv.R
open Go Go.Gv Go.Gv.D
theorem sumL_one {α : Type} (l : List α) : sumL (fun _ => 1) l ≥ l.length := by
  unfold sumL
  induction l with
  | nil => simp
  | cons x l ih => simp only [List.map_cons, List.sum_cons, List.length_cons]; omega
theorem BytestrDigits_said (b : List UInt8) (s : ByteArray) (_ : (∀ x ∈ b, (fun _ => True) x) ∧ b.length ≤ maxLen) (_ : s.size ≤ maxLen) (h : sumL (fun _ => 1) b + (s.size + 1) ≤ 1048576) : Tot (fun n => law4_BytestrDigits n b s) (· = true) :=
  Digits_tot (by have := sumL_one b; omega) (by omega)
end Go.Gv.R
