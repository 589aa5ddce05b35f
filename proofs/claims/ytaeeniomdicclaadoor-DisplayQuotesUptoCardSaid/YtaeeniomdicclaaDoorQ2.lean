import Derived.Test.YtaeeniomdicclaaDoorQ1
set_option linter.all false
namespace Go.Gv.P
open Go Go.Gv Go.Gv.D Go.Gv.R Go.Lib
set_option maxRecDepth 100000

/-! Own work: the law of quotes. -/
theorem literals_tot : Tot (fun n => law4_literals n) (· = true) := Tot.of_all 100 (fun k => by kernel_rfl) rfl
theorem DisplayQuotes_said (s : ByteArray) (_ : s.size ≤ maxLen) (hb : s.size + 1 ≤ 1048576) : Tot (fun n => law4_DisplayQuotes n s) (· = true) := by
  obtain ⟨l, rfl⟩ : ∃ l, s = strOf l := ⟨bytesOf s, (str_bytes s).symm⟩
  rw [size_str] at hb
  unfold law4_DisplayQuotes
  refine Tot.bindq (P := fun r => (validD l = false ∧ r = (strOf [], (6, -1))) ∨ (validD l = true ∧ r = (strOf (lit [] l true), (0, 0)))) ?_ fun r hr => ?_
  · unfold display_Quote
    refine Tot.bindq (ValidString_tot (by rw [size_str]; omega)) fun v hv => ?_
    rw [bytes_str] at hv
    subst hv
    cases h : validD l with
    | false => exact Tot.it rfl (Tot.bindq (P := (· = (6, -1))) (Tot.ret rfl) fun r hr => by subst hr; exact Tot.ret (.inl ⟨rfl, rfl⟩))
    | true => exact Tot.if_ rfl (Tot.bindq (literal_tot (pre := []) true (by omega) (by simp)) fun r hr => by subst hr; exact Tot.ret (.inr ⟨rfl, rfl⟩))
  refine Tot.bindq (P := fun p => p.2 = validD l) ((Points_tot (by rw [size_str]; omega)).mono fun p hp => ?_) fun p hp => ?_
  · rw [bytes_str] at hp
    rcases hp with ⟨h1, h2⟩ | ⟨q, h1, h2, h3⟩
    · rw [h1, h2]
    · rw [h3, h2, valid_enc q h1]
  refine Tot.bindq (P := (· = false)) ?_ fun j hj => ?_
  · refine Tot.bindq literals_tot fun r hr => ?_
    subst hr
    refine Tot.if_ rfl (Tot.bindq (P := (· = strOf (lit [98] l false))) ?_ fun r hr => ?_)
    · unfold display_QuoteBytes
      exact Tot.bindq (literal_tot (pre := [98]) false (by omega) (by simp)) fun r hr => by subst hr; exact Tot.ret rfl
    subst hr
    refine Tot.bindq (Quoted_tot false (by omega)) fun q hq => ?_
    subst hq
    have hl : (lit [] l false).length ≤ 4 * l.length + 2 := by
      have := flat_len (mk l) false l
      unfold lit
      simp only [List.length_append, List.length_cons, List.length_nil]; omega
    refine Tot.bind0 (cat_str (by simp; omega)) (Tot.ret ?_)
    have e : [98] ++ lit [] l false = lit [98] l false := by unfold lit; simp
    rw [e, str_eq, decide_eq_true rfl]; rfl
  subst hj
  refine Tot.if_ rfl ?_
  rcases hr with ⟨h1, hr⟩ | ⟨h1, hr⟩
  · subst hr
    rw [h1] at hp
    refine Tot.it (by rw [hp]; rfl) (Tot.bindq (P := (· = true)) ?_ fun j hj => by subst hj; exact Tot.ret rfl)
    exact Tot.bindq (P := (· = (6, -1))) (Tot.ret rfl) fun q hq => by subst hq; exact Tot.it rfl (Tot.ret (by rw [str_eq, decide_eq_true rfl]))
  · subst hr
    rw [h1] at hp
    refine Tot.if_ (by rw [hp]; rfl) (Tot.bindq (P := (· = true)) (Tot.it rfl (Tot.bindq (Quoted_tot true (by omega)) fun q hq => ?_)) fun j hj => by subst hj; exact Tot.ret rfl)
    subst hq
    exact Tot.ret (by rw [str_eq, decide_eq_true rfl])
end Go.Gv.P

