import Derived.Test.YtaeeniomdicclaaDoorA2
set_option linter.all false
namespace Go.Gv.P
open Go Go.Gv Go.Gv.D Go.Gv.R Go.Lib
set_option maxRecDepth 100000

/-! Own work: the law of what is apart. -/
theorem literals_tot : Tot (fun n => law4_literals n) (· = true) := Tot.of_all 100 (fun k => by kernel_rfl) rfl
noncomputable def cls : List Ob := (ref3_Classes 100).getD []
theorem cls_eq (k : Nat) : ref3_Classes (k + 100) = some cls := by kernel_rfl
theorem cls_len : cls.length ≤ 1000 := of_decide_eq_true (by kernel_rfl)
theorem Quote_tot {l : List UInt8} (hl : l.length ≤ 1048576) : Tot (fun n => display_Quote n (strOf l)) (fun r => r = (strOf [], (6, -1)) ∨ r = (strOf (lit [] l true), (0, 0))) := by
  unfold display_Quote
  refine Tot.bindq (ValidString_tot (by rw [size_str]; omega)) fun v hv => ?_
  cases v with
  | false => exact Tot.it rfl (Tot.bindq (P := (· = (6, -1))) (Tot.ret rfl) fun r hr => by subst hr; exact Tot.ret (.inl rfl))
  | true => exact Tot.if_ rfl (Tot.bindq (literal_tot (pre := []) true hl (by simp)) fun r hr => by subst hr; exact Tot.ret (.inr rfl))
theorem QuoteBytes_tot {l : List UInt8} (hl : l.length ≤ 1048576) : Tot (fun n => display_QuoteBytes n (strOf l)) (· = strOf (lit [98] l false)) := by
  unfold display_QuoteBytes
  exact Tot.bindq (literal_tot (pre := [98]) false hl (by simp)) fun r hr => by subst hr; exact Tot.ret rfl
theorem DisplayApart_said (s t : ByteArray) (_ : s.size ≤ maxLen) (_ : t.size ≤ maxLen) (hb : s.size + 1 + (t.size + 1) ≤ 1048576) : Tot (fun n => law4_DisplayApart n s t) (· = true) := by
  obtain ⟨l, rfl⟩ : ∃ l, s = strOf l := ⟨bytesOf s, (str_bytes s).symm⟩
  obtain ⟨l', rfl⟩ : ∃ l, t = strOf l := ⟨bytesOf t, (str_bytes t).symm⟩
  rw [size_str, size_str] at hb
  unfold law4_DisplayApart
  refine Tot.bindq (Quote_tot (by omega)) fun a ha => ?_
  refine Tot.bindq (Quote_tot (by omega)) fun b hb' => ?_
  refine Tot.bindq (QuoteBytes_tot (by omega)) fun x hx => ?_
  refine Tot.bindq (QuoteBytes_tot (by omega)) fun y hy => ?_
  subst hx; subst hy
  have z1 := lit_size (pre := [98]) (l := l) (wide := false)
  have z2 := lit_size (pre := []) (l := l) (wide := true)
  have z3 := lit_size (pre := []) (l := l') (wide := true)
  simp only [List.length_cons, List.length_nil] at z1 z2 z3
  refine Tot.bindq (P := (· = false)) ?_ fun j hj => ?_
  · refine Tot.bindq literals_tot fun r hr => ?_
    subst hr
    refine Tot.if_ rfl (Tot.if_ ?_ (Tot.ret ?_))
    · rw [str_eq, str_eq, lit_iff, beq_self_eq_true]; rfl
    · rw [size_str, size_str, i64_small (by omega) (by omega)]
      exact decide_eq_false (by omega)
  subst hj
  refine Tot.if_ rfl ?_
  rcases ha with ha | ha
  · subst ha
    refine Tot.bindq (P := (· = true)) (Tot.it rfl (Tot.ret rfl)) fun j hj => ?_
    subst hj
    refine Tot.it rfl (Tot.bindq (P := (· = true)) (Tot.if_ rfl (Tot.ret ?_)) fun j hj => by subst hj; exact Tot.ret rfl)
    rw [str_eq, decide_eq_true rfl]
  subst ha
  rcases hb' with hb' | hb'
  · subst hb'
    refine Tot.bindq (P := (· = true)) (Tot.if_ rfl (Tot.ret rfl)) fun j hj => ?_
    subst hj
    exact Tot.it rfl (Tot.bindq (P := (· = true)) (Tot.it rfl (Tot.ret rfl)) fun j hj => by subst hj; exact Tot.ret rfl)
  subst hb'
  refine Tot.bindq (P := (· = false)) (Tot.if_ rfl (Tot.ret rfl)) fun j hj => ?_
  subst hj
  refine Tot.if_ rfl (Tot.bindq (P := (· = .inl ())) ?_ fun j hj => ?_)
  · refine Tot.loop (fun st => ∃ i : Nat, i ≤ (lit [] l true).length ∧ st = (i : Int)) (fun st => (lit [] l true).length - st.toNat) ⟨0, by omega, rfl⟩ fun st ⟨i, hi, hst⟩ => ?_
    subst hst
    dsimp only
    rw [size_str]
    refine Tot.ite (fun h => ?_) (fun h => Tot.ret rfl)
    have h : i < (lit [] l true).length := by have : (i : Int) < ((lit [] l true).length : Int) := of_decide_eq_true h; omega
    have hs := sidx_nat (s := strOf (lit [] l true)) (i := i) (by rw [bytes_str]; exact h)
    have hg : (bytesOf (strOf (lit [] l true)))[i]'(by rw [bytes_str]; exact h) = (lit [] l true)[i] := by simp only [bytes_str]
    rw [hg] at hs
    obtain ⟨c1, c2⟩ := lit_shown l _ (List.getElem_mem h)
    refine Tot.bindq (P := (· = false)) (Tot.bind0 hs (Tot.if_ (decide_eq_false (by omega)) (Tot.bind0 hs (Tot.ret (beq_eq_false_iff_ne.2 (by omega)))))) fun j hj => ?_
    subst hj
    refine Tot.if_ rfl (Tot.ret ?_)
    rw [iw (n := i + 1) (by omega) (by omega)]
    exact ⟨⟨i + 1, by omega, rfl⟩, by omega⟩
  subst hj
  refine Tot.contl ?_
  simp only [str_eq, lit_iff, lit_apart, beq_self_eq_true, Bool.not_true, Bool.false_or, Bool.not_false, Bool.and_true, size_str]
  rw [i64_small (x := (l.length : Int) + (l'.length : Int)) (by omega) (by omega)]
  refine Tot.ite (fun _ => Tot.ret rfl) (fun hsm => ?_)
  have hsm : l.length + l'.length ≤ 800 := by have := of_decide_eq_false hsm; omega
  refine Tot.bindq (Tot.of_all (Q := (· = cls)) 100 cls_eq rfl) fun c hc => ?_
  subst hc
  have hcl := cls_len
  refine Tot.bind0 (a := cls ++ [tup2 l l']) (app_ok (by simp; omega)) ?_
  have hw : IntKind.i64.wrap ((((cls ++ [tup2 l l']).length : Nat) : Int) - 1) = (cls.length : Int) := by
    rw [i64_small (by simp <;> omega) (by simp <;> omega)]; simp
  rw [hw]
  refine Tot.bindq (Literal_tot (h := cls) (l := l) (l' := l') (by omega)) fun r hr => ?_
  subst hr
  refine Tot.bindq (P := (· = true)) (Tot.it rfl ?_) fun j hj => by subst hj; exact Tot.ret rfl
  refine Tot.bind0 (cat_str (by simp; omega)) (Tot.bind0 (cat_str (by simp; omega)) (Tot.bind0 (cat_str (by simp; omega)) (Tot.bind0 (cat_str (by simp; omega)) (Tot.ret ?_))))
  rw [decide_eq_true rfl]
end Go.Gv.P

