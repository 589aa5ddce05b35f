import Derived.Test.YtkmcegicngjhbaaGreatDoorS7
import Derived.Test.YtkmcegicngjhbaaGreatDoorGo
set_option linter.all false
namespace Go.Gv.R
open Go Go.Gv Go.Gv.D Go.Lib Go.Gv.RI

def picked (q : SlT) (p : List Nat) : List Nat := pick p (placesL (wholeI q p.length).2.2.2.1 (wholeI q p.length).1 (cntI (wholeI q p.length).2.2.2.1 (wholeI q p.length).2.2.2.2 (wholeI q p.length).1))
theorem Part_tot {s : ByteArray} (hs : s.size ≤ 1048576) {q : SlT} (d1 : Dg q.1.2) (d2 : Dg q.2.1.2) (d3 : Dg q.2.2.1.2) : Tot (fun n => textstr_Part n s q) (fun r => if okS s = true then ∀ p, (∀ x ∈ p, Scal x) → s = strOf (enc p) → (if (sliceF q).1 = 0 then r = (strOf (enc (picked q p)), (0, 0)) else r = (strOf [], ((sliceF q).1, -2))) else r = (strOf [], (6, -1))) := by
  unfold textstr_Part
  refine Tot.bindq (tcheck_tot (by simp) (by simpa using hs)) fun r hr => ?_
  subst hr
  by_cases h : okS s = true
  · rw [fault_ok h]
    obtain ⟨p, hp, e, hl⟩ := okS_text h
    subst e
    have hpl := enc_len_ge p
    refine Tot.mono (Q := fun r => if (sliceF q).1 = 0 then r = (strOf (enc (picked q p)), (0, 0)) else r = (strOf [], ((sliceF q).1, -2))) ?_ (fun r hr => by rw [if_pos h]; intro p' hp' e2; rw [← str_enc_inj hp hp' e2]; exact hr)
    refine Tot.if_ rfl (Tot.bind0 (rn_enc hp (by omega)) (Tot.bindq (Take_tot (q := q) d1 d2 d3 (p := p) (by omega)) fun r hr => ?_))
    by_cases g : (sliceF q).1 = 0
    · rw [if_pos g] at hr
      subst hr
      refine Tot.if_ rfl (Tot.ret ?_)
      rw [if_pos g]
      dsimp only
      rw [strR_ints (pick_scal hp _)]; rfl
    · rw [if_neg g] at hr
      subst hr
      exact Tot.it (by simpa using g) (Tot.bindq (tat_tot _ _) fun r hr => Tot.ret (by rw [if_neg g, hr]))
  · have h : okS s = false := by cases hh : okS s <;> simp_all
    rw [fault_bad h]
    exact Tot.it rfl (Tot.ret (by rw [if_neg (by rw [h]; simp)]))
theorem pick_last {p : List Nat} {x : Int} (h0 : 0 ≤ x) (h1 : x < p.length) (l : List Int) : (enc (pick p (l ++ [x]))).length = (enc (pick p l)).length + (encR (p.getD x.toNat 0)).length := by
  rw [pick_snoc, enc_snoc, List.length_append]
theorem getD_at {p : List Nat} {i : Nat} (h : i < p.length) : p.getD i 0 = p[i] := by rw [List.getD_eq_getElem?_getD, List.getElem?_eq_getElem h]; rfl
theorem enc_take_le (p : List Nat) {i j : Nat} (h : i ≤ j) : (enc (p.take i)).length ≤ (enc (p.take j)).length := by
  have : p.take j = p.take i ++ (p.take j).drop i := by
    conv => lhs; rw [← List.take_append_drop i (p.take j)]
    rw [List.take_take, Nat.min_eq_left h]
  rw [this, enc_app, List.length_append]; omega
theorem enc_drop_le (p : List Nat) {i j : Nat} (h : i ≤ j) : (enc (p.drop j)).length ≤ (enc (p.drop i)).length := by
  have : p.drop i = (p.drop i).take (j - i) ++ p.drop j := by
    conv => lhs; rw [← List.take_append_drop (j - i) (p.drop i)]
    rw [List.drop_drop]
    congr 2; omega
  rw [this, enc_app, List.length_append]; omega
theorem pick_up {p : List Nat} {a st : Int} (hst : 0 < st) : ∀ k : Nat, 0 ≤ a → a + (k : Int) * st < p.length → (enc (pick p (placesL a st (k + 1)))).length ≤ (enc (p.take ((a + (k : Int) * st).toNat + 1))).length
  | 0, h0, h1 => by
    rw [Int.natCast_zero, Int.zero_mul, Int.add_zero] at *
    have : placesL a st 1 = [] ++ [a] := by simp [placesL]
    rw [this, pick_last h0 h1, List.take_succ_eq_append_getElem (by omega), enc_snoc, List.length_append, getD_at (by omega)]
    simp [pick, enc]
  | k + 1, h0, h1 => by
    have hm := mul_succ' k st a
    have hk : 0 ≤ (k : Int) * st := Int.mul_nonneg (by omega) (by omega)
    have ih := pick_up (p := p) hst k h0 (by omega)
    rw [placesL_succ, pick_last (by omega) h1, List.take_succ_eq_append_getElem (by omega), enc_snoc, List.length_append, getD_at (by omega)]
    have := enc_take_le p (i := (a + (k : Int) * st).toNat + 1) (j := (a + ((k + 1 : Nat) : Int) * st).toNat) (by omega)
    omega
theorem pick_dn {p : List Nat} {a st : Int} (hst : st < 0) : ∀ k : Nat, a < p.length → 0 ≤ a + (k : Int) * st → (enc (pick p (placesL a st (k + 1)))).length ≤ (enc (p.drop (a + (k : Int) * st).toNat)).length
  | 0, h0, h1 => by
    rw [Int.natCast_zero, Int.zero_mul, Int.add_zero] at *
    have : placesL a st 1 = [] ++ [a] := by simp [placesL]
    rw [this, pick_last h1 h0, List.drop_eq_getElem_cons (by omega), enc_cons, List.length_append, getD_at (by omega)]
    simp [pick, enc]
  | k + 1, h0, h1 => by
    have hm := mul_succ' k st a
    have hk : (k : Int) * st ≤ 0 := Int.mul_nonpos_of_nonneg_of_nonpos (by omega) (by omega)
    have ih := pick_dn (p := p) hst k h0 (by omega)
    rw [placesL_succ, pick_last h1 (by omega), List.drop_eq_getElem_cons (by omega), enc_cons, List.length_append, getD_at (by omega)]
    have := enc_drop_le p (i := (a + ((k + 1 : Nat) : Int) * st).toNat + 1) (j := (a + (k : Int) * st).toNat) (by omega)
    omega
theorem Numbers_same {p : List Nat} (hp : p.length ≤ 1048576) : Tot (fun n => ref4_Numbers n (ints p) (ints p)) (· = true) := by
  unfold ref4_Numbers
  rw [ints_len]
  refine Tot.if_ (by simp) ?_
  refine Tot.bindq (P := fun x => x = .inl ()) ?_ fun x hx => by subst hx; exact Tot.contl (Tot.ret rfl)
  refine Tot.loop (fun st : Int => ∃ i : Nat, st = (i : Int) ∧ i ≤ p.length) (fun st : Int => p.length - st.toNat) ⟨0, rfl, by omega⟩ fun st ⟨i, e, hi⟩ => ?_
  subst e
  refine Tot.ite (fun h => ?_) fun h => ?_
  · have h : i < p.length := by have := of_decide_eq_true h; omega
    refine Tot.bind0 (ints_get h) (Tot.bind0 (ints_get h) (Tot.if_ (by simp) (Tot.ret ⟨⟨i + 1, ?_, h⟩, ?_⟩)))
    · rw [iw (n := i + 1) (by omega) (by omega)]
    · rw [iw (n := i + 1) (by omega) (by omega)]; omega
  · exact Tot.ret rfl
theorem Points_law {s : ByteArray} {l : List Int} {q : SlT} (hs : s.size ≤ 1048576) (hl : l.length ≤ 1048576) (d1 : Dg q.1.2) (d2 : Dg q.2.1.2) (d3 : Dg q.2.2.1.2) : Tot (fun n => law4_TextstrPoints n s l q) (· = true) := by
  unfold law4_TextstrPoints
  refine Tot.bindq (textPoints_tot hs) fun r1 h1 => Tot.bindq (From_tot hl) fun r2 h2 => ?_
  refine Tot.bindq (P := fun r => r = ((r1.1.length : Int), r1.2)) ?_ fun r3 h3 => ?_
  · unfold textstr_Length
    have : Tot (fun n => textstr_Points n s) (· = r1) := by
      refine (textPoints_tot hs).mono fun r hr => ?_
      by_cases h : okS s = true
      · obtain ⟨p, hp, e, _⟩ := okS_text h
        rw [if_pos h] at h1 hr
        rw [h1 p hp e, hr p hp e]
      · rw [if_neg h] at h1 hr
        rw [h1, hr]
    exact Tot.bindq this fun r hr => Tot.ret (by rw [hr])
  subst h3
  refine Tot.bindq (Part_tot (q := q) hs d1 d2 d3) fun r4 h4 => ?_
  refine Tot.bindq (P := fun j => j = false) ?_ fun j hj => ?_
  · refine Tot.bindq letters_tot fun b hb => ?_
    subst hb
    refine Tot.if_ rfl (Tot.bindq (tValid_tot hs) fun r hr => ?_)
    subst hr
    refine Tot.bindq (P := fun r => r = okS s) (TextOk_tot hs) fun r hr => Tot.ret ?_
    subst hr; simp
  subst hj
  refine Tot.if_ rfl (Tot.bindq (faults_tot (l := [s]) (by simp) (by simpa using hs)) fun w hw => Tot.bindq (points_any hs) fun r5 h5 => ?_)
  obtain ⟨p, hp, hpe, hpl, hpok⟩ := ptsOf_len h5
  subst hw
  rw [hpe]
  -- the points
  refine Tot.bindq (P := fun j => j = false) ?_ fun j hj => ?_
  · by_cases h : okS s = true
    · rw [if_pos h] at h1
      rw [h1 p hp (hpok h), fault_ok h]
      refine Tot.if_ rfl (Tot.if_ rfl (Tot.it rfl (Tot.bindq (Numbers_same (by omega)) fun b hb => ?_)))
      subst hb
      refine Tot.if_ rfl (Tot.if_ (by simp) (Tot.if_ rfl (Tot.ret rfl)))
    · have h : okS s = false := by cases hh : okS s <;> simp_all
      rw [if_neg (by rw [h]; simp)] at h1
      rw [h1, fault_bad h]
      exact Tot.if_ rfl (Tot.if_ rfl (Tot.if_ rfl (Tot.it rfl (Tot.if_ rfl (Tot.ret rfl)))))
  subst hj
  refine Tot.if_ rfl (Tot.bindq (P := fun j => j = vf l 0 0) ?_ fun j hj => ?_)
  · refine Tot.loop (st0 := ((0 : Int), (0 : Int), ((0 : Int), (0 : Int)))) (fun st => (∃ a b, (∀ x ∈ a, Scal x) ∧ l = ints a ++ b ∧ (enc a).length ≤ 4000 ∧ vf l 0 0 = vf b a.length (enc a).length ∧ st = (((enc a).length : Int), (a.length : Int), ((0 : Int), (0 : Int)))) ∨ ((vf l 0 0).1 ≠ 0 ∧ st.2.2 = vf l 0 0)) (fun st => if st.2.2.1 = 0 then l.length + 1 - st.2.1.toNat else 0) (.inl ⟨[], l, by simp, rfl, by simp [enc], rfl, rfl⟩) fun st hst => ?_
    rcases hst with ⟨a, b, ha, e, hla, hv, hst⟩ | ⟨hne, hst⟩
    · subst hst
      dsimp only
      cases b with
      | nil =>
        rw [List.append_nil] at e; subst e
        refine Tot.bindq (P := fun j => j = false) (Tot.if_ (decide_eq_false (by rw [ints_len]; omega)) (Tot.ret rfl)) fun j hj => ?_
        subst hj
        exact Tot.if_ rfl (Tot.ret hv.symm)
      | cons x b =>
        have hlen : l.length = a.length + (b.length + 1) := by rw [e, List.length_append, ints_len, List.length_cons]
        refine Tot.bindq (P := fun j => j = true) (Tot.it (decide_eq_true (by omega)) (Tot.ret rfl)) fun j hj => ?_
        subst hj
        refine Tot.it rfl (Tot.bind0 (by rw [e]; exact mid_get a x b) (Tot.bindq (Scalar_tot x) fun r hr => ?_))
        subst hr
        have iwk : IntKind.i64.wrap ((a.length : Int) + 1) = ((a.length + 1 : Nat) : Int) := iw (by omega) (by omega)
        by_cases h : SI x
        · obtain ⟨c, rfl⟩ : ∃ n : Nat, x = n := ⟨x.toNat, by have := h.1; omega⟩
          have hc := (isS c).1 h
          have hcp := encR_pos c
          rw [decide_eq_true h]
          have hvv : vf ((c : Int) :: b) a.length (enc a).length = if 4000 < (enc a).length + (encR c).length then (3, (a.length : Int)) else vf b (a.length + 1) ((enc a).length + (encR c).length) := by
            show (if SI (c : Int) then _ else _) = _
            rw [if_pos h, Int.toNat_natCast]
          rw [hvv] at hv
          have hlr : (enc (a ++ [c])).length = (enc a).length + (encR c).length := by rw [enc_snoc, List.length_append]
          refine Tot.bindq (P := fun j => j = if 4000 < (enc a).length + (encR c).length then (((enc (a ++ [c])).length : Int), (3, (a.length : Int))) else (((enc (a ++ [c])).length : Int), (0, 0))) ?_ fun j hj => ?_
          · refine Tot.if_ rfl ?_
            rw [iwk]
            refine Tot.bind0 (a := ints [c]) ?_ (Tot.bindq (Encoded_tot (p := [c]) (by simpa using hc) (by simp)) fun r hr => ?_)
            · rw [sub_ok (by omega) (by omega) (by omega), Int.toNat_natCast, Int.toNat_natCast, e]
              refine congrArg some ?_
              rw [List.take_append, ints_len, List.take_of_length_le (by rw [ints_len]; omega), Nat.add_sub_cancel_left, List.drop_append, ints_len, Nat.sub_self, List.drop_eq_nil_of_le (by rw [ints_len]; omega)]
              rfl
            · have hr : r = encR c := by rw [hr]; simp [enc]
              subst hr
              rw [iw (n := (enc (a ++ [c])).length) (by omega) (by omega)]
              refine Tot.some_bind (Tot.ite (fun g => ?_) fun g => Tot.ret ?_)
              · have g := of_decide_eq_true g
                rw [if_pos (by omega)]
                exact Tot.bindq (rat_tot _ _) fun r hr => Tot.ret (by rw [hr])
              · have g := of_decide_eq_false g
                rw [if_neg (by omega)]
          · by_cases g : 4000 < (enc a).length + (encR c).length
            · rw [if_pos g] at hj hv
              subst hj
              refine Tot.ret ⟨.inr ⟨by rw [hv]; simp, by rw [hv]⟩, ?_⟩
              dsimp only
              rw [if_neg (by decide), if_pos rfl]; omega
            · rw [if_neg g] at hj hv
              subst hj
              dsimp only
              rw [iwk]
              refine Tot.ret ⟨.inl ⟨a ++ [c], b, ?_, by rw [e, ints_snoc]; simp, by omega, by rw [hv, List.length_append, List.length_singleton, hlr], ?_⟩, ?_⟩
              · intro y hy
                rcases List.mem_append.1 hy with hy | hy
                · exact ha y hy
                · rw [List.mem_singleton.1 hy]; exact hc
              · rw [show (a ++ [c]).length = a.length + 1 by simp]
              · dsimp only; rw [if_pos rfl, if_pos rfl]; omega
        · rw [decide_eq_false h]
          have hvv : vf (x :: b) a.length (enc a).length = (4, (a.length : Int)) := by
            show (if SI x then _ else _) = _
            rw [if_neg h]
          rw [hvv] at hv
          refine Tot.bindq (P := fun j => j = (((enc a).length : Int), (4, (a.length : Int)))) (Tot.it rfl (Tot.bindq (rat_tot _ _) fun r hr => Tot.ret (by rw [hr]))) fun j hj => ?_
          subst hj
          refine Tot.ret ⟨.inr ⟨by rw [hv]; simp, by rw [hv]⟩, ?_⟩
          dsimp only
          rw [if_neg (by decide), if_pos rfl]; omega
    · obtain ⟨x, k, c1, c2⟩ := st
      have hst : (c1, c2) = vf l 0 0 := hst
      have hc : c1 ≠ 0 := by rw [← hst] at hne; exact hne
      refine Tot.bindq (P := fun j => j = false) (Tot.ite (fun _ => Tot.ret (by simpa using hc)) fun _ => Tot.ret rfl) fun j hj => ?_
      subst hj
      exact Tot.if_ rfl (Tot.ret hst)
  subst hj
  refine Tot.bindq (P := fun j => j = false) ?_ fun j hj => ?_
  · by_cases h : (vf l 0 0).1 = 0
    · obtain ⟨a, ha, e, hla, hv, hr⟩ := h2.2 h
      subst hr e
      rw [hv]
      have := enc_len_ge a
      refine Tot.if_ rfl (Tot.it rfl (Tot.bindq (String_tot ha (by omega)) fun x hx => ?_))
      subst hx
      refine Tot.bindq (text_tot ?_) fun b hb => Tot.ret (by rw [hb]; rfl)
      rw [if_neg (by rw [size_str]; omega), if_neg (by simp)]
    · rw [h2.1 h]
      refine Tot.it (by simpa using h) (Tot.bindq (text_tot ?_) fun b hb => ?_)
      · rw [if_neg (fun hh => h hh.1), if_pos h]
      subst hb
      exact Tot.if_ rfl (Tot.if_ (by simpa using h) (Tot.ret rfl))
  subst hj
  refine Tot.if_ rfl ?_
  by_cases h : okS s = true
  · rw [if_pos h] at h4
    have h4 := h4 p hp (hpok h)
    rw [fault_ok h]
    refine Tot.bindq (P := fun j => j = if (sliceF q).1 = 0 then (0, 0) else ((sliceF q).1, -2)) ?_ fun j hj => ?_
    · refine Tot.it rfl (Tot.bindq (SliceFault_tot q) fun r hr => ?_)
      subst hr
      refine Tot.ite (fun g => Tot.ret ?_) fun g => Tot.ret ?_
      · rw [if_neg (by simpa using g)]
      · have g : (sliceF q).1 = 0 := by simpa using g
        rw [if_pos g, (sliceF_ok d1 d2 d3 g).2.2.2.2]
    by_cases g : (sliceF q).1 = 0
    · rw [if_pos g] at hj h4
      subst hj h4
      obtain ⟨k1, k2, k3, k4, k5⟩ := sliceF_ok d1 d2 d3 g
      obtain ⟨st, lo, hi, a, b, e⟩ : ∃ st lo hi a b, wholeI q p.length = (st, lo, hi, a, b) := ⟨_, _, _, _, _, rfl⟩
      have hsz : (enc p).length ≤ 4000 := by
        obtain ⟨p', hp', e', hl'⟩ := okS_text h
        have := str_enc_inj hp hp' ((hpok h).symm.trans e')
        rw [this]; exact hl'
      have hpl4 := enc_len_ge p
      have hin := fun k hk => place_in (by omega) k4 e (k := k) hk
      have hcl := cnt_le (by omega) k4 e
      refine Tot.if_ rfl ?_
      rw [ints_len]
      refine Tot.bindq (Places_tot (p := q) k1 k2 k3 k4 (by omega) e) fun r hr => ?_
      subst hr
      have hpick : picked q p = pick p (placesL a st (cntI a b st)) := by unfold picked; rw [e]
      rw [hpick]
      refine Tot.bindq (P := fun j => j = ints (pick p (placesL a st (cntI a b st)))) ?_ fun j hj => ?_
      · dsimp only
        rw [placesL_len]
        refine Tot.loop (fun x => ∃ k : Nat, x = (ints (pick p (placesL a st k)), (k : Int)) ∧ k ≤ cntI a b st) (fun x => cntI a b st - x.2.toNat) ⟨0, by simp [placesL, pick, ints], by omega⟩ fun x ⟨k, ex, hk⟩ => ?_
        subst ex
        dsimp only
        refine Tot.ite (fun g => ?_) fun g => ?_
        · have g : k < cntI a b st := by have := of_decide_eq_true g; omega
          have hi' := hin k g
          refine Tot.bind0 (placesL_get g) (Tot.bind0 (pick_get (by omega) (by omega)) (Tot.bind0 (app_ok (by rw [ints_len, pick_len, placesL_len]; simp; omega)) (Tot.ret ⟨⟨k + 1, ?_, g⟩, ?_⟩)))
          · rw [placesL_succ, pick_snoc, ints_app, iw (n := k + 1) (by omega) (by omega)]; rfl
          · dsimp only; rw [iw (n := k + 1) (by omega) (by omega)]; omega
        · have g : k = cntI a b st := by have := of_decide_eq_false g; omega
          exact Tot.ret (by rw [g])
      · subst hj
        have hsc := pick_scal hp (placesL a st (cntI a b st))
        have hlen : (pick p (placesL a st (cntI a b st))).length ≤ 4000 := by rw [pick_len, placesL_len]; exact hcl
        refine Tot.bindq (String_tot hsc (by omega)) fun x hx => ?_
        subst hx
        refine Tot.bindq (text_tot ?_) fun b hb => Tot.ret hb
        by_cases hbig : 4000 < (strOf (enc (pick p (placesL a st (cntI a b st))))).size
        · refine absurd hbig ?_
          rw [size_str]
          rcases Nat.eq_zero_or_pos (cntI a b st) with h0 | h0
          · rw [h0]; simp [placesL, pick, enc]
          obtain ⟨k, hk⟩ : ∃ k, cntI a b st = k + 1 := ⟨cntI a b st - 1, by omega⟩
          have hi0 := hin 0 (by omega)
          rw [Int.natCast_zero, Int.zero_mul, Int.add_zero] at hi0
          have hik := hin k (by omega)
          obtain ⟨f1, f2, f3, f4, f5, f6, f7, f8⟩ := wholeI_facts (by omega) k4 e
          have ht := enc_take_le p (i := (a + (k : Int) * st).toNat + 1) (j := p.length) (by omega)
          rw [List.take_length] at ht
          have hd := enc_drop_le p (i := 0) (j := (a + (k : Int) * st).toNat) (by omega)
          rw [List.drop_zero] at hd
          rw [hk]
          rcases f4 with ⟨g, _⟩ | ⟨g, _⟩
          · have := pick_dn (p := p) g k hi0.2.1 hik.1; omega
          · have := pick_up (p := p) g k hi0.1 hik.2.1; omega
        · rw [if_neg (fun hh => hbig hh.2), if_neg (by simp)]
    · rw [if_neg g] at hj h4
      subst hj h4
      refine Tot.it (by simpa using g) (Tot.bindq (text_tot ?_) fun b hb => Tot.ret hb)
      rw [if_neg (fun hh => g hh.1), if_pos g]
  · have h : okS s = false := by cases hh : okS s <;> simp_all
    rw [if_neg (by rw [h]; simp)] at h4
    rw [fault_bad h]
    refine Tot.bindq (P := fun j => j = (6, -1)) (Tot.if_ rfl (Tot.ret rfl)) fun j hj => ?_
    subst hj h4
    refine Tot.it rfl (Tot.bindq (text_tot ?_) fun b hb => Tot.ret hb)
    rw [if_neg (by simp), if_pos (by simp)]
theorem TextstrPoints_said (s : ByteArray) (l : List Int) (q : SlT) (_ : s.size ≤ maxLen) (_ : (∀ x ∈ l, inK .i64 x) ∧ l.length ≤ maxLen)
    (hq : (True ∧ (∀ x ∈ q.1.2, inK .u32 x) ∧ q.1.2.length ≤ maxLen) ∧ (True ∧ (∀ x ∈ q.2.1.2, inK .u32 x) ∧ q.2.1.2.length ≤ maxLen) ∧ (True ∧ (∀ x ∈ q.2.2.1.2, inK .u32 x) ∧ q.2.2.1.2.length ≤ maxLen) ∧ True ∧ True ∧ True)
    (h : (s.size + 1) + sumL (fun _ => 1) l ≤ 1048576) : Tot (fun n => law4_TextstrPoints n s l q) (· = true) := by
  have hl : l.length ≤ sumL (fun _ => 1) l := by
    unfold sumL
    have : ∀ l : List Int, ((l.map fun _ => 1).sum : Nat) = l.length := fun l => by induction l with
      | nil => rfl
      | cons x l ih => rw [List.map_cons, List.sum_cons, ih, List.length_cons]; omega
    rw [this]; omega
  exact Points_law (by omega) (by omega) (fun x hx => inK_u32 (hq.1.2.1 x hx)) (fun x hx => inK_u32 (hq.2.1.2.1 x hx)) (fun x hx => inK_u32 (hq.2.2.1.2.1 x hx))
end Go.Gv.R

