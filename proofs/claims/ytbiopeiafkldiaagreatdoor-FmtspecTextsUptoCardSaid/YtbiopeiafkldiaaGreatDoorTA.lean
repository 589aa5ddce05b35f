import Derived.Test.YtbiopeiafkldiaaGreatDoorT9
set_option linter.all false
namespace Go.Gv.P
open Go Go.Gv Go.Gv.D Go.Gv.R Go.Lib
set_option maxRecDepth 100000

section
variable {s : Sp} (g : Good s)
include g
theorem T0_low : ∀ c ∈ T0 s, c < 128 := by
  intro c hc
  simp only [T0, T1, T2, T3, T4, T5, T6, T7, List.mem_append] at hc
  rcases hc with hc | hc | hc | hc | hc | hc | hc | hc
  · obtain ⟨hb, hc⟩ := mem_opt g hc
    rw [List.mem_singleton.1 hc]
    exact inC_lt (opt_byte g AL_ok g.ok.al g.al hb)
  · obtain ⟨hb, hc⟩ := mem_opt g hc
    rw [List.mem_singleton.1 hc]
    exact inC_lt (opt_byte g SG_ok g.ok.sg g.sg hb)
  · obtain ⟨hb, hc⟩ := mem_opt g hc
    rw [List.mem_singleton.1 hc]; decide
  · obtain ⟨hb, hc⟩ := mem_opt g hc
    rw [List.mem_singleton.1 hc]; decide
  · obtain ⟨hb, hc⟩ := mem_opt g hc
    have := dg_range (itN_dg (by have := g.w; omega) c hc); omega
  · obtain ⟨hb, hc⟩ := mem_opt g hc
    rw [List.mem_singleton.1 hc]
    exact inC_lt (opt_byte g GR_ok g.ok.gr g.gr hb)
  · obtain ⟨hb, hc⟩ := mem_opt g hc
    rcases List.mem_cons.1 hc with rfl | hc
    · decide
    · have := dg_range (itN_dg (by have := g.p; omega) c hc); omega
  · obtain ⟨hb, hc⟩ := mem_opt g hc
    rw [List.mem_singleton.1 hc]
    exact inC_lt (opt_byte g TY_ok g.ok.ty g.ty hb)
theorem wr_scal : ∀ c ∈ wr s, Scal c := by
  intro c hc
  unfold wr at hc
  rcases List.mem_append.1 hc with hc | hc
  · obtain ⟨hb, hc⟩ := mem_opt g hc
    rw [List.mem_singleton.1 hc]
    rcases g.fill with h | ⟨h, _⟩
    · rw [h] at hb; cases hb
    · exact h
  · have := T0_low g c hc
    unfold Scal; omega
theorem wr_len : (enc (wr s)).length ≤ 40 := by
  have low : ∀ {l : List Nat}, (∀ c ∈ l, c < 128) → (enc l).length = l.length := by
    intro l
    induction l with
    | nil => intro _; rfl
    | cons c r ih =>
      intro h
      rw [enc_cons, encR1 (by have := h c (List.mem_cons_self ..); omega), List.length_append, ih fun x hx => h x (List.mem_cons_of_mem _ hx)]
      simp only [List.length_cons, List.length_nil]; omega
  have hw := itN_len (n := s.2.2.2.2.2.1.toNat) (by have := g.w; omega)
  have hp := itN_len (n := s.2.2.2.2.2.2.2.2.1.toNat) (by have := g.p; omega)
  have l1 := len1 (b := (s.1 != 0)) (x := s.1.toNat)
  have l2 := len1 (b := (s.2.1 != 0)) (x := s.2.1.toNat)
  have l3 := len1 (b := (s.2.2.1 != 0)) (x := s.2.2.1.toNat)
  have l4 := len1 (b := s.2.2.2.1) (x := 35)
  have l5 := len1 (b := s.2.2.2.2.1) (x := 48)
  have l6 := optN_len (b := decide (s.2.2.2.2.2.1 > 0)) (l := itN s.2.2.2.2.2.1.toNat)
  have l7 := len1 (b := (s.2.2.2.2.2.2.1 != 0)) (x := s.2.2.2.2.2.2.1.toNat)
  have l8 := optN_len (b := s.2.2.2.2.2.2.2.1) (l := 46 :: itN s.2.2.2.2.2.2.2.2.1.toNat)
  have l9 := len1 (b := (s.2.2.2.2.2.2.2.2.2 != 0)) (x := s.2.2.2.2.2.2.2.2.2.toNat)
  simp only [List.length_cons] at l8
  have h0 := low (T0_low g)
  have hl : (T0 s).length ≤ 20 := by
    simp only [T0, T1, T2, T3, T4, T5, T6, T7, List.length_append]; omega
  have h1 := enc_len_le (optN (s.1 != 0) [s.1.toNat])
  unfold wr
  rw [enc_app, List.length_append]; omega
end
theorem Both_tot {t : ByteArray} (ht : t.size ≤ 1048575) : ∃ v : Sp × (Int × Int), Tot (fun n => fmtspec_Parse n t) (· = v) ∧ Tot (fun n => ref4_SpecRead n t) (· = v) := by
  by_cases h : t.size ≤ 40
  · cases hv : validD (bytesOf t)
    · refine ⟨(zS, (6, -1)), ?_, ?_⟩
      · unfold fmtspec_Parse
        refine Tot.some_bind (Tot.if_ (decide_eq_false (by omega)) ?_)
        refine Tot.bindq (ValidString_tot (by omega)) fun r hr => ?_
        subst hr
        rw [hv]
        exact Tot.it rfl (Tot.some_bind (Tot.ret rfl))
      · unfold ref4_SpecRead
        refine Tot.if_ (decide_eq_false (by omega)) ?_
        refine Tot.bindq (P := (· = ([], false))) ((Points_tot (by omega)).mono fun r hr => ?_) fun r hr => ?_
        · rcases hr with ⟨_, e⟩ | ⟨p, hp, e, _⟩
          · exact e
          · rw [e, valid_enc p hp] at hv; cases hv
        subst hr
        exact Tot.it rfl (Tot.some_bind (Tot.ret rfl))
    · obtain ⟨p, hp, e⟩ := valid_iff hv
      have e2 : t = strOf (enc p) := by rw [← e, str_bytes]
      have hz : (enc p).length ≤ 40 := by rw [← e, ← size_bytes]; exact h
      rw [e2]
      exact ⟨rd p, Parse_tot hp hz, SpecRead_tot hp hz⟩
  · refine ⟨(zS, (3, -1)), ?_, ?_⟩
    · unfold fmtspec_Parse
      exact Tot.some_bind (Tot.it (decide_eq_true (by omega)) (Tot.some_bind (Tot.ret rfl)))
    · unfold ref4_SpecRead
      exact Tot.it (decide_eq_true (by omega)) (Tot.some_bind (Tot.ret rfl))
theorem FmtspecTexts_said (s : Sp) (t : ByteArray) (hs : inK .i64 s.1 ∧ inK .u8 s.2.1 ∧ inK .u8 s.2.2.1 ∧ True ∧ True ∧ inK .i64 s.2.2.2.2.2.1 ∧ inK .u8 s.2.2.2.2.2.2.1 ∧ True ∧ inK .i64 s.2.2.2.2.2.2.2.2.1 ∧ inK .u8 s.2.2.2.2.2.2.2.2.2) (_ : t.size ≤ maxLen) (hb : t.size + 1 ≤ 1048576) :
    Tot (fun n => law4_FmtspecTexts n s t) (· = true) := by
  have hok : SpOk s := by
    obtain ⟨_, h1, h2, _, _, _, h3, _, _, h4⟩ := hs
    have h1 := inK_u8 h1
    have h2 := inK_u8 h2
    have h3 := inK_u8 h3
    have h4 := inK_u8 h4
    exact ⟨by omega, by omega, by omega, by omega⟩
  obtain ⟨v, v1, v2⟩ := Both_tot (t := t) (by omega)
  unfold law4_FmtspecTexts
  have hspF : spF s = (6, -1) ∨ spF s = (4, -1) ∨ (spF s = (0, 0) ∧ badS s = false ∧ outS s = false) := by
    cases h : badS s
    · cases h2 : outS s
      · exact .inr (.inr ⟨spF_ok h h2, rfl, rfl⟩)
      · exact .inr (.inl (spF_out h h2))
    · exact .inl (spF_bad h)
  refine Tot.bindq (P := fun r => r.2 = spF s ∧ ((spF s).1 ≠ 0 → r.1 = strOf []) ∧ ((spF s).1 = 0 → Good s ∧ r.1 = strOf (enc (wr s)))) ?_ fun r7 ⟨hp1, hp2, hp3⟩ => ?_
  · rcases hspF with h | h | ⟨h, h1, h2⟩
    · exact (Print_bad hok (by rw [h]; decide)).mono fun r hr => by rw [hr, h]; exact ⟨rfl, fun _ => rfl, fun h => by cases h⟩
    · exact (Print_bad hok (by rw [h]; decide)).mono fun r hr => by rw [hr, h]; exact ⟨rfl, fun _ => rfl, fun h => by cases h⟩
    · have g := good_of hok h1 h2
      exact (Print_tot g h).mono fun r hr => by rw [hr, h]; exact ⟨rfl, fun h => absurd rfl h, fun _ => ⟨g, rfl⟩⟩
  refine Tot.bindq v1 fun r23 h23 => ?_
  subst h23
  refine Tot.bindq (SpecFault_tot hok) fun r65 h65 => ?_
  subst h65
  refine Tot.bindq (P := (· = false)) ?_ fun j hj => ?_
  · refine Tot.bindq formats_tot fun r hr => ?_
    subst hr
    refine Tot.if_ rfl ?_
    refine Tot.bindq (Check_tot hok) fun r hr => ?_
    subst hr
    refine Tot.if_ (by simp) (Tot.if_ (by rw [hp1]; simp) ?_)
    refine Tot.ite (fun h => Tot.ret ?_) (fun h => Tot.ret rfl)
    rw [hp2 (by simpa using h), str_nil]; rfl
  subst hj
  refine Tot.if_ rfl ?_
  refine Tot.bindq (P := (· = .inl ())) ?_ fun j hj => ?_
  · refine Tot.ite (fun h => ?_) (fun h => Tot.ret rfl)
    obtain ⟨g, e⟩ := hp3 (by simpa using h)
    rw [e]
    refine Tot.bindq (Parse_tot (wr_scal g) (wr_len g)) fun r hr => ?_
    rw [rd_wr g] at hr
    subst hr
    refine Tot.bindq (P := (· = false)) ?_ fun j hj => ?_
    · refine Tot.bindq (SpecText_tot g) fun r hr => ?_
      subst hr
      refine Tot.if_ (by rw [str_eq]; simp) (Tot.if_ rfl (Tot.ret (by simp)))
    subst hj
    exact Tot.if_ rfl (Tot.ret rfl)
  subst hj
  refine Tot.contl ?_
  refine Tot.bindq v2 fun r hr => ?_
  subst hr
  refine Tot.bindq (P := (· = true)) ?_ fun j hj => Tot.ret hj
  exact Tot.it (by simp) (Tot.some_bind (Tot.ret (by simp)))
end Go.Gv.P

