import Derived.Test.YtkmcegicngjhbaaDoorN4
set_option linter.all false
namespace Go.Gv.R
open Go Go.Gv Go.Gv.D Go.Lib

theorem strs_get {L : List (List Nat)} {i : Nat} (h : i < L.length) : idx (strs L) (i : Int) = some (strOf (enc L[i])) := by
  rw [idx_nat (by unfold strs; rw [List.length_map]; exact h)]
  unfold strs
  rw [List.getElem_map]
theorem count_free {x q : List Nat} (hx : ∀ r ∈ x, Scal r) (hq : ∀ r ∈ q, Scal r) (hl : (enc x).length ≤ 4000) (hl2 : (enc q).length ≤ 4000) (hne : q ≠ []) (hf : firstOcc q x = none) : Tot (fun n => textstr_Count n (strOf (enc x)) (strOf (enc q))) (· = (0, (0, 0))) := by
  unfold textstr_Count
  refine Tot.bindq (tcheck_tot (by simp) (by simp [size_str]; omega)) fun r hr => ?_
  rw [check_ok (by simp) (by simp; exact ⟨okS_enc hx hl, okS_enc hq hl2⟩)] at hr; subst hr
  refine Tot.if_ rfl (Tot.bindq (CountA_tot hx hq hl) fun r hr => Tot.ret ?_)
  rw [if_neg hne, cutsK_none hf] at hr
  rw [hr]; rfl
theorem Rejoins_tot {s t : ByteArray} {most : Int} (hs : s.size ≤ 1048576) (ht : t.size ≤ 1048576) (hm : inK .i64 most) : Tot (fun n => law4_TextstrRejoins n s t most) (· = true) := by
  have hss : ∀ x ∈ [s, t], x.size ≤ 1048576 := by simp; exact ⟨hs, ht⟩
  unfold law4_TextstrRejoins
  -- both fail alike
  have fail : ∀ (r1 r2 : List ByteArray × (Int × Int)) (c k : Int), c ≠ 0 → r1 = ([], (c, k)) → r2 = ([], (c, k)) → Tot (fun n => (if (r1.2.1 != 0) = true then some true else some (r2.2.1 != 0)).bind fun (j62 : Bool) => (if j62 = true then ((if ((r1.2.1 == r2.2.1) && (r1.2.2 == r2.2.2)) = true then (some ((IntKind.i64.wrap (((List.length r1.1 : Nat) : Int) + ((List.length r2.1 : Nat) : Int))) == 0)).bind fun n106 => some n106 else some false).bind fun (j103 : Bool) => some j103) else none)) (· = true) := by
    intro r1 r2 c k hc e1 e2
    subst e1 e2
    refine Tot.bindq (P := fun j => j = true) (Tot.it (bne_iff_ne.2 hc) (Tot.ret rfl)) fun j hj => ?_
    subst hj
    exact Tot.it rfl (Tot.bindq (P := fun j => j = true) (Tot.it (by simp) (Tot.some_bind (Tot.ret rfl))) fun j hj => Tot.ret hj)
  by_cases hok : okS s = true ∧ okS t = true
  · obtain ⟨p, hp, e, hl⟩ := okS_text hok.1
    obtain ⟨q, hq, e2, hl2⟩ := okS_text hok.2
    subst e e2
    refine Tot.bindq (Split_tot hp hq hl hl2 hm) fun r1 h1 => Tot.bindq (SplitLast_tot hp hq hl hl2 hm) fun r2 h2 => Tot.bindq letters_tot fun x hx => ?_
    subst hx
    refine Tot.if_ rfl ?_
    by_cases hqe : q = []
    · rw [if_pos hqe] at h1 h2
      subst h1 h2
      refine Tot.bindq (P := fun j => j = true) (Tot.it rfl (Tot.ret rfl)) fun j hj => ?_
      subst hj
      exact Tot.it rfl (Tot.bindq (P := fun j => j = true) (Tot.it rfl (Tot.some_bind (Tot.ret rfl))) fun j hj => Tot.ret hj)
    · rw [if_neg hqe] at h1 h2
      by_cases hmany : 1000 < kN q p most + 1
      · rw [if_pos hmany] at h1 h2
        subst h1 h2
        refine Tot.bindq (P := fun j => j = true) (Tot.it rfl (Tot.ret rfl)) fun j hj => ?_
        subst hj
        exact Tot.it rfl (Tot.bindq (P := fun j => j = true) (Tot.it rfl (Tot.some_bind (Tot.ret rfl))) fun j hj => Tot.ret hj)
      · rw [if_neg hmany] at h1 h2
        subst h1 h2
        refine Tot.bindq (P := fun j => j = false) (Tot.if_ rfl (Tot.ret rfl)) fun j hj => ?_
        subst hj
        refine Tot.if_ rfl ?_
        -- the parts from both ends
        have hLn := parts_num (p := p) hqe most
        have hLne := parts_ne q (kN q p most) p
        have hLj := jn_parts (q := q) (kN q p most) p
        have hLs := parts_scal (q := q) (kN q p most) p hp
        have hLm := parts_small (q := q) (kN q p most) p
        have hLf := part_free hqe (kN q p most) p
        have hRn : (partsR q (kN q p most) p).length = kN q p most + 1 := by
          unfold partsR
          rw [List.length_reverse, List.length_map, ← kN_rev hqe, parts_num (rev_ne hqe)]
        have hRj := jn_partsR q (kN q p most) p
        have hRs : ∀ x ∈ partsR q (kN q p most) p, ∀ r ∈ x, Scal r := by
          intro x hx r hr
          unfold partsR at hx
          obtain ⟨y, hy, e⟩ := List.mem_map.1 (List.mem_reverse.1 hx)
          rw [← e] at hr
          exact parts_scal _ p.reverse (fun z hz => hp z (List.mem_reverse.1 hz)) y hy r (List.mem_reverse.1 hr)
        have hRf : ∀ j (h : j < (partsR q (kN q p most) p).length), 0 < j → firstOcc q ((partsR q (kN q p most) p)[j]) = none := by
          intro j h hj
          have hf := part_free (rev_ne hqe) (kN q p most) p.reverse
          unfold partsR at h ⊢
          rw [List.length_reverse, List.length_map] at h
          rw [List.getElem_reverse, List.getElem_map, ← firstOcc_rev, List.reverse_reverse]
          exact hf _ _ (by simp only [List.length_map]; omega)
        have hRb : ∀ x ∈ partsR q (kN q p most) p, (enc x).length ≤ (enc p).length := by
          intro x hx
          obtain ⟨a, b, e⟩ := List.append_of_mem hx
          have h4 : ∀ (a b : List (List Nat)), (enc x).length ≤ (enc (jn q (a ++ x :: b))).length := by
            intro a
            induction a with
            | nil =>
              intro b
              cases b with
              | nil => exact Nat.le_refl _
              | cons y b => rw [List.nil_append, jn_cons (by simp), enc_app, enc_app, List.length_append, List.length_append]; omega
            | cons z a ih =>
              intro b
              rw [List.cons_append, jn_cons (by simp), enc_app, List.length_append]
              have := ih b; omega
          have := h4 a b
          rw [← e, hRj] at this; exact this
        have hRne : partsR q (kN q p most) p ≠ [] := fun e => by rw [e] at hRn; simp at hRn
        generalize partsK q (kN q p most) p = L at hLn hLne hLj hLs hLm hLf
        generalize partsR q (kN q p most) p = R at hRn hRj hRs hRf hRb hRne
        have hkm : most < 0 ∨ (kN q p most : Int) ≤ most := by
          unfold kN
          by_cases g : most < 0
          · exact .inl g
          · rw [if_neg g]; right; omega
        generalize kN q p most = K at hmany hLn hRn hkm
        have jlen : ∀ M : List (List Nat), M ≠ [] → jn q M = p → M.length = K + 1 → lenS (fun x => (enc x).length) M + M.length ≤ 1048576 := by
          intro M hM hj hn
          have := jn_lenS (f := fun x => (enc x).length) (fun a b => by simp [enc_app]) q M hM
          rw [hj, hn, Nat.succ_mul] at this
          omega
        refine Tot.bindq (Join_strs hLne (fun x hx => ⟨hLs x hx, Nat.le_trans (hLm x hx) hl⟩) hq hl2 (jlen L hLne hLj hLn)) fun r3 h3 => Tot.bindq (Join_strs hRne (fun x hx => ⟨hRs x hx, Nat.le_trans (hRb x hx) hl⟩) hq hl2 (jlen R hRne hRj hRn)) fun r4 h4 => ?_
        rw [hLj, if_neg (by omega)] at h3
        rw [hRj, if_neg (by omega)] at h4
        subst h3 h4
        have hL1 : (strs L).length = K + 1 := by unfold strs; rw [List.length_map, hLn]
        have hR1 : (strs R).length = K + 1 := by unfold strs; rw [List.length_map, hRn]
        dsimp only
        rw [hL1, hR1]
        refine Tot.bindq (P := fun j => j = false) (Tot.if_ rfl (Tot.if_ rfl (Tot.if_ (by rw [str_eq]; simp) (Tot.if_ (by rw [str_eq]; simp) (Tot.ret (by simp)))))) fun j hj => ?_
        subst hj
        refine Tot.if_ rfl ?_
        rw [show IntKind.i64.wrap (((K + 1 : Nat) : Int) - 1) = (K : Int) by rw [i64_small (by omega) (by omega)]; omega]
        refine Tot.bindq (P := fun r => r = .inl ()) ?_ fun r hr => ?_
        · refine Tot.loop (fun (st : Int) => ∃ i : Nat, st = (i : Int) ∧ i ≤ K) (fun (st : Int) => K - st.toNat) ⟨0, rfl, Nat.zero_le _⟩ fun st ⟨i, e, hi⟩ => ?_
          subst e
          refine Tot.ite (fun g => ?_) fun g => Tot.ret rfl
          have g : i < K := by have := of_decide_eq_true g; omega
          have gL : i < L.length := by omega
          have gR : K - i < R.length := by omega
          refine Tot.bind0 (strs_get gL) (Tot.bindq (count_free (hLs _ (List.getElem_mem gL)) hq (Nat.le_trans (hLm _ (List.getElem_mem gL)) hl) hl2 hqe (hLf i gL (by omega))) fun c hc => ?_)
          subst hc
          rw [show IntKind.i64.wrap ((K : Int) - (i : Int)) = ((K - i : Nat) : Int) by rw [i64_small (by omega) (by omega)]; omega]
          refine Tot.bind0 (strs_get gR) (Tot.bindq (count_free (hRs _ (List.getElem_mem gR)) hq (Nat.le_trans (hRb _ (List.getElem_mem gR)) hl) hl2 hqe (hRf (K - i) gR (by omega))) fun c hc => ?_)
          subst hc
          refine Tot.bindq (P := fun j => j = false) (Tot.if_ rfl (Tot.if_ rfl (Tot.ret (by decide)))) fun j hj => ?_
          subst hj
          refine Tot.if_ rfl (Tot.ret ⟨⟨i + 1, iw (by omega) (by omega), g⟩, ?_⟩)
          rw [iw (n := i + 1) (by omega) (by omega)]; omega
        · subst hr
          refine Tot.contl (Tot.ret ?_)
          rcases hkm with h | h
          · rw [decide_eq_true h, Bool.true_or]
          · rw [decide_eq_true h, Bool.or_true]
  · obtain ⟨k, hk⟩ := fault2_bad hok
    refine Tot.bindq (P := fun r => r = ([], (6, k))) (by
      unfold textstr_Split
      refine Tot.bindq (tcheck_tot (by simp) hss) fun r hr => ?_
      rw [hk] at hr; subst hr
      exact Tot.it rfl (Tot.ret rfl)) fun r1 h1 => Tot.bindq (P := fun r => r = ([], (6, k))) (by
      unfold textstr_SplitLast
      refine Tot.bindq (tcheck_tot (by simp) hss) fun r hr => ?_
      rw [hk] at hr; subst hr
      exact Tot.it rfl (Tot.ret rfl)) fun r2 h2 => Tot.bindq letters_tot fun x hx => ?_
    subst hx h1 h2
    refine Tot.if_ rfl (Tot.bindq (P := fun j => j = true) (Tot.it rfl (Tot.ret rfl)) fun j hj => ?_)
    subst hj
    exact Tot.it rfl (Tot.bindq (P := fun j => j = true) (Tot.it (by simp) (Tot.some_bind (Tot.ret rfl))) fun j hj => Tot.ret hj)
theorem TextstrRejoins_said (s sep : ByteArray) (most : Int) (_ : s.size ≤ maxLen) (_ : sep.size ≤ maxLen) (hm : inK .i64 most) (h : (s.size + 1) + ((sep.size + 1) + 1) ≤ 1048576) : Tot (fun n => law4_TextstrRejoins n s sep most) (· = true) := Rejoins_tot (by omega) (by omega) hm
end Go.Gv.R
