import Derived.Test.YtkmcegicngjhbaaDoorN1
import Derived.Test.YtkmcegicngjhbaaDoorGo
set_option linter.all false
namespace Go.Gv.R
open Go Go.Gv Go.Gv.D Go.Lib

theorem strs_get {L : List (List Nat)} {i : Nat} (h : i < L.length) : idx (strs L) (i : Int) = some (strOf (enc L[i])) := by
  rw [idx_nat (by unfold strs; rw [List.length_map]; exact h)]
  unfold strs
  rw [List.getElem_map]
end Go.Gv.R
namespace Go.Gv.R
open Go Go.Gv Go.Gv.D Go.Lib

theorem lib_snoc {w x : List UInt8} : ∀ {l : List (List UInt8)}, l ≠ [] → Lib.join (l ++ [x]) w = Lib.join l w ++ w ++ x
  | [], h => absurd rfl h
  | [y], _ => by simp [Lib.join, List.intercalate]
  | y :: z :: r, _ => by
    rw [List.cons_append, lib_cons (by simp), lib_snoc (l := z :: r) (by simp), lib_cons (l := z :: r) (by simp)]
    simp
theorem cat_bytes {s t : ByteArray} (h : s.size + t.size ≤ 9223372036854775807) : cat s t = some (strOf (bytesOf s ++ bytesOf t)) := by
  have := cat_str (l := bytesOf s) (m := bytesOf t) (by rw [← size_bytes, ← size_bytes]; exact h)
  rw [str_bytes, str_bytes] at this; exact this

/-! the reference's dividing -/
theorem FirstOf_tot {l : List Nat} {most : Int} : Tot (fun n => ref4_FirstOf n (ints l) most) (· = ints (if most < 0 then l else l.take most.toNat)) := by
  unfold ref4_FirstOf
  rw [ints_len]
  refine Tot.ite (fun h => ?_) fun h => Tot.ret ?_
  · rw [Bool.and_eq_true] at h
    have h1 := of_decide_eq_true h.1; have h2 := of_decide_eq_true h.2
    refine Tot.bind0 (sub_ok (by omega) (by omega) (by rw [ints_len]; omega)) (Tot.ret ?_)
    rw [if_neg (by omega)]
    unfold ints; simp
  · by_cases g : most < 0
    · rw [if_pos g]
    · rw [if_neg g, List.take_of_length_le]
      rcases Nat.lt_or_ge most.toNat l.length with h3 | h3
      · rw [decide_eq_true (by omega), decide_eq_true (by omega)] at h; cases h
      · exact h3
theorem Divide_tot {p q : List Nat} {k : Nat} (hp : ∀ r ∈ p, Scal r) (hl : p.length ≤ 1000000) (hql : q.length ≤ 1000000) (hne : q ≠ []) : Tot (fun n => ref4_Divide n (ints p) (ints (cutsK q k p 0)) (q.length : Int)) (· = strs (partsK q k p)) := by
  unfold ref4_Divide
  simp only [ints_len]
  have hcl := (cuts_le hne k p 0).2
  refine Tot.bindq (P := fun j => ∃ (o : Nat) (pre : List (List Nat)), j = (strs pre, (o : Int)) ∧ o ≤ p.length ∧ pre.length ≤ p.length ∧ partsK q k p = pre ++ [p.drop o]) ?_ fun j hj => ?_
  · refine Tot.loop (fun st => ∃ (i o : Nat) (pre : List (List Nat)) (cs : List Nat), st = (strs pre, (o : Int), (i : Int)) ∧ pre.length = i ∧ cs.length = i ∧ i ≤ k ∧ o ≤ p.length ∧ partsK q k p = pre ++ partsK q (k - i) (p.drop o) ∧ cutsK q k p 0 = cs ++ cutsK q (k - i) (p.drop o) o) (fun st => (cutsK q k p 0).length - st.2.2.toNat) ⟨0, 0, [], [], rfl, rfl, rfl, Nat.zero_le _, Nat.zero_le _, rfl, rfl⟩ fun st ⟨i, o, pre, cs, e, h1, h2, h3, h4, h5, h6⟩ => ?_
    subst e
    dsimp only
    refine Tot.ite (fun g => ?_) fun g => ?_
    · have g : i < (cutsK q k p 0).length := by have := of_decide_eq_true g; omega
      have hk : 0 < k - i := by
        rcases Nat.eq_zero_or_pos (k - i) with h | h
        · rw [h6, h, List.length_append, h2] at g
          have : (cutsK q 0 (p.drop o) o).length = 0 := rfl
          omega
        · exact h
      obtain ⟨m, hm⟩ : ∃ m, k - i = m + 1 := ⟨k - i - 1, by omega⟩
      cases hf : firstOcc q (p.drop o) with
      | none => rw [h6, cutsK_none hf, List.length_append, h2] at g; simp at g
      | some j =>
        obtain ⟨o1, o2⟩ := occ_parts hf
        rw [List.length_drop] at o2
        have hget : (cutsK q k p 0)[i]? = some (o + j) := by
          rw [h6, hm, cutsK_some hf, List.getElem?_append_right (by omega), h2, Nat.sub_self]; rfl
        have hidx : idx (ints (cutsK q k p 0)) (i : Int) = some ((o + j : Nat) : Int) := by
          rw [ints_get g]
          rw [List.getElem?_eq_getElem g] at hget
          rw [Option.some.inj hget]
        have hsub : sub (ints p) (o : Int) ((o + j : Nat) : Int) = some (ints ((p.drop o).take j)) := by
          rw [sub_ok (by omega) (by omega) (by rw [ints_len]; omega)]
          unfold ints
          rw [Int.toNat_natCast, Int.toNat_natCast, ← List.map_take, ← List.map_drop, List.drop_take, show o + j - o = j by omega]
        refine Tot.bind0 hidx (Tot.bind0 hsub (Tot.bindq (String_tot (scal_take (scal_drop hp o) j) (by rw [List.length_take, List.length_drop]; omega)) fun x hx => ?_))
        subst hx
        have hsl : (strs pre).length = i := by unfold strs; rw [List.length_map, h1]
        refine Tot.bind0 (app_ok (by rw [hsl]; simp; omega)) (Tot.bind0 hidx (Tot.ret ⟨⟨i + 1, o + j + q.length, pre ++ [(p.drop o).take j], cs ++ [o + j], ?_, by simp [h1], by simp [h2], by omega, by omega, ?_, ?_⟩, ?_⟩))
        · rw [iw (x := ((o + j : Nat) : Int) + (q.length : Int)) (n := o + j + q.length) (by omega) (by omega), iw (n := i + 1) (by omega) (by omega)]
          unfold strs; simp
        · rw [h5, hm, partsK_some hf, show k - (i + 1) = m by omega, List.drop_drop, show o + (j + q.length) = o + j + q.length by omega]; simp
        · rw [h6, hm, cutsK_some hf, show k - (i + 1) = m by omega, List.drop_drop, show o + (j + q.length) = o + j + q.length by omega]; simp
        · dsimp only; rw [iw (n := i + 1) (by omega) (by omega)]; omega
    · have g : ¬ i < (cutsK q k p 0).length := by have := of_decide_eq_false g; omega
      refine Tot.ret ⟨o, pre, rfl, h4, ?_, ?_⟩
      · have := parts_len (q := q) k p 0
        rw [h5, List.length_append] at this
        have h8 := List.length_pos_iff.2 (parts_ne q (k - i) (p.drop o))
        omega
      · rw [h5]
        refine congrArg (pre ++ ·) ?_
        cases hki : k - i with
        | zero => rfl
        | succ m =>
          cases hf : firstOcc q (p.drop o) with
          | none => exact partsK_none hf
          | some j =>
            rw [h6, hki, cutsK_some hf, List.length_append, List.length_cons] at g
            omega
  · obtain ⟨o, pre, e, ho, hpre, hall⟩ := hj
    subst e
    have hsub : sub (ints p) (o : Int) ((p.length : Nat) : Int) = some (ints (p.drop o)) := by
      rw [sub_ok (by omega) (by omega) (by rw [ints_len]; omega)]
      unfold ints
      rw [Int.toNat_natCast, Int.toNat_natCast, ← List.map_take, ← List.map_drop, List.take_of_length_le (Nat.le_refl _)]
    have hsl : (strs pre).length = pre.length := by unfold strs; rw [List.length_map]
    refine Tot.bind0 hsub (Tot.bindq (String_tot (scal_drop hp o) (by rw [List.length_drop]; omega)) fun x hx => ?_)
    subst hx
    refine Tot.bind0 (app_ok (by rw [hsl]; simp; omega)) (Tot.ret ?_)
    rw [hall]; unfold strs; simp

/-! repeating -/
theorem Repeat_tot {s : ByteArray} {n : Int} (hs : s.size ≤ 1048576) : Tot (fun k => textstr_Repeat k s n) (fun r => r = if okS s = false then (strOf [], (6, -1)) else if n ≤ 0 ∨ s.size = 0 then (strOf [], (0, 0)) else if 4000 < n * (s.size : Int) then (strOf [], (3, -1)) else (strOf (Lib.repeatL (bytesOf s) n.toNat), (0, 0))) := by
  unfold textstr_Repeat
  refine Tot.bindq (tcheck_tot (by simp) (by simpa using hs)) fun r hr => ?_
  subst hr
  by_cases h : okS s = true
  · rw [fault_ok h]
    refine Tot.if_ rfl ?_
    have hse : (s.toList == (strOf []).toList) = decide (s.size = 0) := by
      rw [str_eq]
      refine decide_eq_decide.2 ⟨fun e => by rw [e]; rfl, fun e => ?_⟩
      rw [size_bytes] at e
      rw [← str_bytes s, List.eq_nil_of_length_eq_zero e]
    rw [hse]
    refine Tot.ite (fun g => ?_) fun g => ?_
    · rw [Bool.or_eq_true] at g
      have g : n ≤ 0 ∨ s.size = 0 := g.imp of_decide_eq_true of_decide_eq_true
      exact Tot.ret (by rw [if_neg (by rw [h]; simp), if_pos g])
    · have g : ¬ (n ≤ 0 ∨ s.size = 0) := fun hh => by
        rcases hh with hh | hh
        · rw [decide_eq_true hh] at g; cases g
        · rw [decide_eq_true hh, Bool.or_true] at g; cases g
      have h4 : s.size ≤ 4000 := by
        unfold okS at h
        rw [Bool.and_eq_true] at h
        exact of_decide_eq_true h.2
      refine Tot.bind0 (a := ()) (by unfold nz; rw [if_neg (by omega)]) ?_
      have hdiv : IntKind.i64.wrap ((4000 : Int).tdiv ((s.size : Nat) : Int)) = ((4000 / s.size : Nat) : Int) := td (a := 4000) s.size (by omega)
      rw [hdiv]
      have hq : (n > ((4000 / s.size : Nat) : Int)) ↔ 4000 < n * (s.size : Int) := by
        obtain ⟨m, rfl⟩ : ∃ m : Nat, n = m := ⟨n.toNat, by omega⟩
        rw [← Int.natCast_mul]
        constructor
        · intro h
          have h : 4000 / s.size < m := by omega
          have := (Nat.div_lt_iff_lt_mul (by omega)).1 h
          omega
        · intro h
          have h : 4000 < m * s.size := by omega
          have := (Nat.div_lt_iff_lt_mul (by omega)).2 h
          omega
      refine Tot.ite (fun k => ?_) fun k => ?_
      · have k := hq.1 (of_decide_eq_true k)
        exact Tot.bindq (tat_tot _ _) fun r hr => Tot.ret (by rw [if_neg (by rw [h]; simp), if_neg g, if_pos k, hr])
      · have k : ¬ 4000 < n * (s.size : Int) := fun e => (of_decide_eq_false k) (hq.2 e)
        have hn : n ≤ 4000 := by
          have : n * 1 ≤ n * (s.size : Int) := Int.mul_le_mul_of_nonneg_left (by omega) (by omega)
          omega
        unfold strings_Repeat
        have hm : s.size * n.toNat ≤ 4000 := by
          obtain ⟨m, rfl⟩ : ∃ m : Nat, n = m := ⟨n.toNat, by omega⟩
          rw [← Int.natCast_mul] at k
          rw [Int.toNat_natCast, Nat.mul_comm]; omega
        rw [if_pos ⟨by omega, by omega, by omega⟩]
        exact Tot.some_bind (Tot.ret (by rw [if_neg (by rw [h]; simp), if_neg g, if_neg k]))
  · have h : okS s = false := by cases hh : okS s <;> simp_all
    rw [fault_bad h]
    exact Tot.it rfl (Tot.ret (by rw [if_pos h]))
end Go.Gv.R
namespace Go.Gv.R
open Go Go.Gv Go.Gv.D Go.Lib

theorem lib_take_le {L : List (List UInt8)} {w : List UInt8} (i : Nat) : (Lib.join (L.take i) w).length ≤ (Lib.join L w).length := by
  rw [lib_len, lib_len]
  have h1 : ((L.take i).map List.length).sum ≤ (L.map List.length).sum := by
    have := congrArg (fun l => (l.map List.length).sum) (List.take_append_drop i L)
    simp only [List.map_append, List.sum_append] at this; omega
  have h2 : ((L.take i).length - 1) * w.length ≤ (L.length - 1) * w.length := Nat.mul_le_mul_right _ (by rw [List.length_take]; omega)
  omega
theorem lib_step {L : List (List UInt8)} {w : List UInt8} {i : Nat} (h : i < L.length) : Lib.join (L.take (i + 1)) w = (if 0 < i then Lib.join (L.take i) w ++ w else Lib.join (L.take i) w) ++ L[i] := by
  rw [List.take_succ_eq_append_getElem h]
  by_cases g : 0 < i
  · rw [if_pos g, lib_snoc (fun e => by have := congrArg List.length e; rw [List.length_take, List.length_nil] at this; omega)]
  · have : i = 0 := by omega
    subst this
    simp [Lib.join, List.intercalate]
theorem jn_snoc_take {w : List Nat} {L : List (List Nat)} {i : Nat} (h : i < L.length) (h0 : 0 < i) : jn w (L.take (i + 1)) = jn w (L.take i) ++ w ++ L[i] := by
  rw [List.take_succ_eq_append_getElem h, jn_snoc (fun e => by have := congrArg List.length e; rw [List.length_take, List.length_nil] at this; omega)]
theorem jn_take_le {w : List Nat} {L : List (List Nat)} : ∀ i, (enc (jn w (L.take i))).length ≤ (enc (jn w L)).length := by
  intro i
  have := lib_take_le (L := L.map enc) (w := enc w) i
  rw [← List.map_take, lib_jn, lib_jn] at this; exact this

/-- what is wrong with a list of texts, or with what stands between them -/
def wOf (L : List ByteArray) (sep : ByteArray) : Int × Int := match firstBad L 0 with
  | some i => (6, (i : Int))
  | none => if okS sep = false then (6, -2) else (0, 0)

theorem Joins_tot {L : List ByteArray} {s t u : ByteArray} {most n : Int} (hL : sumB L + L.length ≤ 1048576) (hs : s.size ≤ 1048576) (ht : t.size ≤ 1048576) (hu : u.size ≤ 1048576) (hm : inK .i64 most) (hn : inK .i64 n) : Tot (fun k => law4_TextstrJoins k L s t u most n) (· = true) := by
  have hss : ∀ x ∈ [s, t, u], x.size ≤ 1048576 := by simp; exact ⟨hs, ht, hu⟩
  have hn := inK_i64 hn
  unfold law4_TextstrJoins
  -- what replacing gives
  have hrep : Tot (fun k => textstr_Replace k s t u most) (fun r => (∃ c k : Int, faultL [s, t, u] 0 = (c, k) ∧ c ≠ 0 ∧ r = (strOf [], (c, k))) ∨ ∃ p q w, (∀ r ∈ p, Scal r) ∧ (∀ r ∈ q, Scal r) ∧ (∀ r ∈ w, Scal r) ∧ s = strOf (enc p) ∧ t = strOf (enc q) ∧ u = strOf (enc w) ∧ (enc p).length ≤ 4000 ∧ (enc q).length ≤ 4000 ∧ (enc w).length ≤ 4000 ∧ faultL [s, t, u] 0 = (0, 0) ∧ (r = if q = [] then (strOf [], (10, -2)) else if 4000 < (enc (jn w (partsK q (kN q p most) p))).length then (strOf [], (3, -1)) else (strOf (enc (jn w (partsK q (kN q p most) p))), (0, 0)))) := by
    by_cases hok : okS s = true ∧ okS t = true ∧ okS u = true
    · obtain ⟨p, hp, e, hl⟩ := okS_text hok.1
      obtain ⟨q, hq, e2, hl2⟩ := okS_text hok.2.1
      obtain ⟨w, hw, e3, hl3⟩ := okS_text hok.2.2
      have hf : faultL [s, t, u] 0 = (0, 0) := check_ok (by simp) (by simp; exact hok)
      subst e e2 e3
      exact (Replace_tot hp hq hw hl hl2 hl3 hm).mono fun r hr => .inr ⟨p, q, w, hp, hq, hw, rfl, rfl, rfl, hl, hl2, hl3, hf, hr⟩
    · obtain ⟨k, hk⟩ := fault3_bad hok
      exact (Replace_bad hss hk).mono fun r hr => .inl ⟨6, k, hk, by decide, hr⟩
  refine Tot.bindq (Join_tot hL ht) fun r1 h1 => Tot.bindq hrep fun r2 h2 => Tot.bindq (Repeat_tot hs) fun r3 h3 => Tot.bindq letters_tot fun x hx => ?_
  subst hx
  refine Tot.if_ rfl ?_
  -- the first wrong text of the list
  refine Tot.bindq (P := fun j => j = match firstBad L 0 with | some i => (6, (i : Int)) | none => (0, 0)) ?_ fun j hj => ?_
  · refine Tot.loop (fun st => (∃ i : Nat, st = ((i : Int), (0, 0)) ∧ i ≤ L.length ∧ ∀ j (h : j < L.length), j < i → okS L[j] = true) ∨ ∃ i : Nat, i < L.length ∧ firstBad L 0 = some i ∧ st = (((i + 1 : Nat) : Int), (6, (i : Int)))) (fun st => L.length - st.1.toNat) (.inl ⟨0, rfl, Nat.zero_le _, fun j _ h => absurd h (Nat.not_lt_zero _)⟩) fun st hst => ?_
    rcases hst with ⟨i, e, hi, hall⟩ | ⟨i, hi, hb, e⟩
    · subst e
      have hd := firstBad_drop L 0 i hall hi
      refine Tot.bindq (P := fun j => j = decide (i < L.length)) ?_ fun j hj => ?_
      · refine Tot.ite (fun g => Tot.ret ?_) fun g => Tot.ret ?_
        · have g := of_decide_eq_true g
          rw [decide_eq_true (by dsimp only at g; omega)]; rfl
        · have g := of_decide_eq_false g
          rw [decide_eq_false (by dsimp only at g; omega)]
      subst hj
      refine Tot.ite (fun g => ?_) fun g => ?_
      · have g := of_decide_eq_true g
        have hsz := size_le (List.getElem_mem g)
        refine Tot.bind0 (idx_nat g) (Tot.bindq (P := fun r => r = okS L[i]) (TextOk_tot (by omega)) fun r hr => ?_)
        subst hr
        rw [List.drop_eq_getElem_cons g, show firstBad (L[i] :: L.drop (i + 1)) (0 + i) = (if okS L[i] = true then firstBad (L.drop (i + 1)) (0 + i + 1) else some (0 + i)) from rfl] at hd
        cases hk : okS L[i] with
        | true =>
          refine Tot.bindq (P := fun j => j = (0, 0)) (Tot.if_ rfl (Tot.ret rfl)) fun j hj => Tot.ret ⟨.inl ⟨i + 1, ?_, g, fun j hj2 hji => ?_⟩, ?_⟩
          · rw [hj]; dsimp only; rw [iw (n := i + 1) (by omega) (by omega)]
          · rcases Nat.lt_or_ge j i with h' | h'
            · exact hall j hj2 h'
            · have : j = i := by omega
              subst this; exact hk
          · dsimp only; rw [iw (n := i + 1) (by omega) (by omega)]; omega
        | false =>
          refine Tot.bindq (P := fun j => j = (6, (i : Int))) (Tot.it rfl (Tot.bindq (rat_tot _ _) fun r hr => Tot.ret (by rw [hr]))) fun j hj => Tot.ret ⟨.inr ⟨i, g, ?_, ?_⟩, ?_⟩
          · rw [hd, hk, Nat.zero_add]; rfl
          · rw [hj]; dsimp only; rw [iw (n := i + 1) (by omega) (by omega)]
          · dsimp only; rw [iw (n := i + 1) (by omega) (by omega)]; omega
      · have g : i = L.length := by have := of_decide_eq_false g; omega
        subst g
        rw [List.drop_length] at hd
        exact Tot.ret (by rw [hd]; rfl)
    · subst e
      refine Tot.bindq (P := fun j => j = false) (Tot.ite (fun _ => Tot.ret rfl) fun _ => Tot.ret rfl) fun j hj => ?_
      subst hj
      exact Tot.if_ rfl (Tot.ret (by rw [hb]))
  have hw1 : ∀ j2 : Int × Int, j2 = wOf L t → True := fun _ _ => trivial
  refine Tot.bindq (P := fun b => b = (decide (firstBad L 0 = none) && !okS t)) ?_ fun b hb => ?_
  · rw [hj]
    cases hfb : firstBad L 0 with
    | none => exact Tot.it rfl (Tot.bindq (P := fun r => r = okS t) (TextOk_tot ht) fun r hr => Tot.ret (by rw [hr]; rfl))
    | some i => exact Tot.if_ rfl (Tot.ret rfl)
  subst hb
  refine Tot.bindq (P := fun j2 => j2 = wOf L t) ?_ fun w hw => ?_
  · unfold wOf
    rw [hj]
    cases hfb : firstBad L 0 with
    | none =>
      cases hk : okS t with
      | true => exact Tot.if_ rfl (Tot.ret rfl)
      | false => exact Tot.it rfl (Tot.bindq (rat_tot _ _) fun r hr => Tot.ret (by rw [hr]; rfl))
    | some i => exact Tot.if_ rfl (Tot.ret rfl)
  -- the joined text
  have hjlen := lib_len (bytesOf t) (L.map bytesOf)
  have hsum : ((L.map bytesOf).map List.length).sum = sumB L := by
    unfold sumB
    rw [List.map_map]
    exact congrArg List.sum (List.map_congr_left fun s _ => (size_bytes s).symm)
  rw [hsum, List.length_map, ← size_bytes] at hjlen
  refine Tot.bindq (P := fun j => w.1 = 0 → ((Lib.join (L.map bytesOf) (bytesOf t)).length ≤ 4000 → j = strOf (Lib.join (L.map bytesOf) (bytesOf t))) ∧ (4000 < (Lib.join (L.map bytesOf) (bytesOf t)).length → 4000 < j.size)) ?_ fun j3 hj3 => ?_
  · refine Tot.loop (fun st => ∃ i : Nat, st = (strOf (Lib.join ((L.map bytesOf).take i) (bytesOf t)), (i : Int)) ∧ i ≤ L.length) (fun st => L.length - st.2.toNat) ⟨0, by simp [Lib.join], Nat.zero_le _⟩ fun st ⟨i, e, hi⟩ => ?_
    subst e
    have hle := lib_take_le (L := L.map bytesOf) (w := bytesOf t) i
    dsimp only
    rw [size_str]
    refine Tot.bindq (P := fun j => j = (decide (i < L.length) && (w.1 == 0 && decide ((Lib.join ((L.map bytesOf).take i) (bytesOf t)).length ≤ 4000)))) ?_ fun j hj => ?_
    · refine Tot.ite (fun g => ?_) fun g => ?_
      · have g := of_decide_eq_true g
        rw [decide_eq_true (show i < L.length by omega), Bool.true_and]
        refine Tot.ite (fun g2 => Tot.ret ?_) fun g2 => Tot.ret (by rw [g2]; rfl)
        rw [g2, Bool.true_and]
        exact decide_eq_decide.2 ⟨fun h => by omega, fun h => by omega⟩
      · have g := of_decide_eq_false g
        exact Tot.ret (by rw [decide_eq_false (show ¬ i < L.length by omega), Bool.false_and])
    subst hj
    refine Tot.ite (fun g => ?_) fun g => ?_
    · rw [Bool.and_eq_true, Bool.and_eq_true] at g
      have g1 := of_decide_eq_true g.1
      have g3 := of_decide_eq_true g.2.2
      have hsz := size_le (List.getElem_mem g1)
      have gm : i < (L.map bytesOf).length := by rw [List.length_map]; exact g1
      have hst := lib_step (w := bytesOf t) gm
      rw [List.getElem_map] at hst
      refine Tot.bindq (P := fun j => j = strOf (if 0 < i then Lib.join ((L.map bytesOf).take i) (bytesOf t) ++ bytesOf t else Lib.join ((L.map bytesOf).take i) (bytesOf t))) ?_ fun j hj => ?_
      · refine Tot.ite (fun k => ?_) fun k => ?_
        · have k := of_decide_eq_true k
          rw [if_pos (by omega)]
          refine Tot.bind0 (cat_bytes (by rw [size_str]; omega)) (Tot.ret ?_)
          rw [bytes_str]
        · have k := of_decide_eq_false k
          rw [if_neg (by omega)]
          exact Tot.ret rfl
      subst hj
      have hts := size_bytes t
      refine Tot.bind0 (idx_nat g1) (Tot.bind0 (cat_bytes ?_) (Tot.ret ⟨⟨i + 1, ?_, g1⟩, ?_⟩))
      · rw [size_str]
        by_cases k : 0 < i
        · rw [if_pos k, List.length_append]; omega
        · rw [if_neg k]; omega
      · rw [bytes_str, hst, iw (n := i + 1) (by omega) (by omega)]
      · dsimp only; rw [iw (n := i + 1) (by omega) (by omega)]; omega
    · refine Tot.ret fun hw0 => ?_
      rw [hw0] at g
      by_cases k : i < L.length
      · have g3 : ¬ (Lib.join ((L.map bytesOf).take i) (bytesOf t)).length ≤ 4000 := fun h => by
          rw [decide_eq_true k, decide_eq_true h] at g; cases g
        exact ⟨fun h => by omega, fun _ => by rw [size_str]; omega⟩
      · have : i = L.length := by omega
        subst this
        rw [← List.length_map (f := bytesOf), List.take_length]
        exact ⟨fun _ => rfl, fun h => by rw [size_str]; exact h⟩
  refine Tot.bindq (text_tot ?_) fun b hb => ?_
  · rw [h1, hw]
    have hj4 := hj3
    rw [hw] at hj4
    unfold joinR wOf at *
    cases hfb : firstBad L 0 with
    | some i => rfl
    | none =>
      rw [hfb] at hj4
      dsimp only at hj4 ⊢
      cases hk : okS t with
      | false => rfl
      | true =>
        rw [hk] at hj4
        obtain ⟨k1, k2⟩ := hj4 rfl
        simp only [Bool.true_eq_false, if_false]
        by_cases k : 4000 < sumB L + (L.length - 1) * t.size
        · rw [if_pos k, if_pos ⟨trivial, k2 (by omega)⟩]
        · have := k1 (by omega)
          rw [if_neg k, if_neg (fun h => by rw [this, size_str] at h; omega), if_neg (by simp), this]
  subst hb
  refine Tot.if_ rfl (Tot.bindq (faults_tot (l := [s]) (by simp) (by simpa using hs)) fun ws hws => ?_)
  -- repeating
  have hse : (s.toList == (strOf []).toList) = decide (s.size = 0) := by
    rw [str_eq]
    refine decide_eq_decide.2 ⟨fun e => by rw [e]; rfl, fun e => ?_⟩
    rw [size_bytes] at e
    rw [← str_bytes s, List.eq_nil_of_length_eq_zero e]
  rw [hse]
  refine Tot.bindq (P := fun z => z = if 0 < n ∧ s.size ≠ 0 then (if n ≤ 4000 then n * (s.size : Int) else 4001) else 0) ?_ fun z hz => ?_
  · refine Tot.ite (fun g => ?_) fun g => ?_
    · rw [Bool.and_eq_true] at g
      have g1 := of_decide_eq_true g.1
      have g2 : s.size ≠ 0 := fun e => by rw [decide_eq_true e] at g; cases g.2
      refine Tot.mono (Q := fun z => z = if n ≤ 4000 then n * (s.size : Int) else 4001) ?_ (fun z hz => by rw [if_pos (show 0 < n ∧ s.size ≠ 0 from ⟨g1, g2⟩)]; exact hz)
      refine Tot.ite (fun k => ?_) fun k => ?_
      · have k := of_decide_eq_true k
        refine Tot.some_bind (Tot.ret ?_)
        rw [if_pos k]
        obtain ⟨m, rfl⟩ : ∃ m : Nat, n = m := ⟨n.toNat, by omega⟩
        rw [← Int.natCast_mul]
        have : m * s.size ≤ 4000 * 1048576 := Nat.mul_le_mul (by omega) hs
        exact iw rfl (by omega)
      · have k := of_decide_eq_false k
        exact Tot.ret (by rw [if_neg k])
    · have g : ¬ (0 < n ∧ s.size ≠ 0) := fun ⟨g1, g2⟩ => by
        rw [decide_eq_true (show n > 0 from g1), decide_eq_false g2] at g; cases g
      exact Tot.ret (by rw [if_neg g])
  refine Tot.bindq (P := fun j => j = if ws.1 = 0 ∧ z ≤ 4000 ∧ s.size ≠ 0 then strOf (Lib.repeatL (bytesOf s) n.toNat) else strOf []) ?_ fun j4 hj4 => ?_
  · have hzn : ws.1 = 0 ∧ z ≤ 4000 ∧ s.size ≠ 0 → n.toNat * s.size ≤ 4000 ∧ n ≤ 4000 := fun ⟨_, h2, h3⟩ => by
      rw [hz] at h2
      by_cases g : 0 < n
      · rw [if_pos ⟨g, h3⟩] at h2
        by_cases k : n ≤ 4000
        · rw [if_pos k] at h2
          obtain ⟨m, rfl⟩ : ∃ m : Nat, n = m := ⟨n.toNat, by omega⟩
          rw [← Int.natCast_mul] at h2
          rw [Int.toNat_natCast]; omega
        · rw [if_neg k] at h2; omega
      · have : n.toNat = 0 := by omega
        rw [this]; omega
    refine Tot.loop (fun st => ∃ i : Nat, st = (strOf (Lib.repeatL (bytesOf s) i), (i : Int)) ∧ (i : Int) ≤ max n 0 ∧ (0 < i → ws.1 = 0 ∧ z ≤ 4000 ∧ s.size ≠ 0)) (fun st => n.toNat - st.2.toNat) ⟨0, rfl, by omega, fun h => by omega⟩ fun st ⟨i, e, hi, hgo⟩ => ?_
    subst e
    dsimp only
    refine Tot.bindq (P := fun j => j = decide ((i : Int) < n ∧ ws.1 = 0 ∧ z ≤ 4000 ∧ s.size ≠ 0)) ?_ fun j hj => ?_
    · refine Tot.ite (fun g => ?_) fun g => ?_
      · have g := of_decide_eq_true g
        refine Tot.ite (fun g2 => ?_) fun g2 => ?_
        · have g2 := beq_iff_eq.1 g2
          refine Tot.ite (fun g3 => Tot.ret ?_) fun g3 => Tot.ret ?_
          · have g3 := of_decide_eq_true g3
            by_cases e : s.size = 0
            · rw [decide_eq_true e, decide_eq_false (fun h => h.2.2.2 e)]; rfl
            · rw [decide_eq_false e, decide_eq_true ⟨g, g2, g3, e⟩]; rfl
          · have g3 := of_decide_eq_false g3
            exact (decide_eq_false fun h => g3 h.2.2.1).symm
        · have g2 := beq_eq_false_iff_ne.1 g2
          exact Tot.ret (decide_eq_false fun h => g2 h.2.1).symm
      · have g := of_decide_eq_false g
        exact Tot.ret (decide_eq_false fun h => g h.1).symm
    subst hj
    have hrl := Lib.repeatL_length (bytesOf s) i
    rw [← size_bytes] at hrl
    refine Tot.ite (fun g => ?_) fun g => ?_
    · have g := of_decide_eq_true g
      obtain ⟨k1, k2⟩ := hzn g.2
      have hb : i * s.size ≤ n.toNat * s.size := Nat.mul_le_mul_right _ (by omega)
      refine Tot.bind0 (cat_bytes (by rw [size_str, hrl]; omega)) (Tot.ret ⟨⟨i + 1, ?_, by omega, fun _ => g.2⟩, ?_⟩)
      · rw [bytes_str, iw (n := i + 1) (by omega) (by omega)]
        have := Lib.repeatL_add (bytesOf s) i 1
        rw [this]
        simp [Lib.repeatL]
      · dsimp only; rw [iw (n := i + 1) (by omega) (by omega)]; omega
    · have g := of_decide_eq_false g
      refine Tot.ret ?_
      by_cases k : ws.1 = 0 ∧ z ≤ 4000 ∧ s.size ≠ 0
      · rw [if_pos k]
        have : n.toNat = i := by
          have : ¬ (i : Int) < n := fun h => g ⟨h, k⟩
          omega
        rw [this]
      · rw [if_neg k]
        have : i = 0 := by
          rcases Nat.eq_zero_or_pos i with h | h
          · exact h
          · exact absurd (hgo h) k
        subst this; rfl
  refine Tot.bindq (P := fun b => b = decide (ws.1 = 0 ∧ 4000 < z)) ?_ fun b hb => ?_
  · refine Tot.ite (fun g => Tot.ret ?_) fun g => Tot.ret ?_
    · have g := beq_iff_eq.1 g
      exact decide_eq_decide.2 ⟨fun h => ⟨g, h⟩, fun h => h.2⟩
    · have g := beq_eq_false_iff_ne.1 g
      exact (decide_eq_false fun h => g h.1).symm
  subst hb
  refine Tot.bindq (P := fun j => j = if ws.1 = 0 ∧ 4000 < z then (3, -1) else ws) ?_ fun j5 hj5 => ?_
  · refine Tot.ite (fun g => ?_) fun g => ?_
    · exact Tot.bindq (rat_tot _ _) fun r hr => Tot.ret (by rw [if_pos (of_decide_eq_true g), hr])
    · exact Tot.ret (by rw [if_neg (of_decide_eq_false g)])
  refine Tot.bindq (text_tot ?_) fun b hb => ?_
  · have fin : ∀ (r : ByteArray × (Int × Int)) (a : ByteArray) (c : Int × Int), r3 = r → j4 = a → j5 = c → ((r.2, r.1) = if c.1 = 0 ∧ 4000 < a.size then ((3, -1), strOf []) else if c.1 ≠ 0 then (c, strOf []) else (c, a)) → (((r3.2.1, r3.2.2), r3.1) = if j5.1 = 0 ∧ 4000 < j4.size then ((3, -1), strOf []) else if j5.1 ≠ 0 then ((j5.1, j5.2), strOf []) else ((j5.1, j5.2), j4)) := by
      intro r a c e1 e2 e3 h
      rw [e1, e2, e3]; exact h
    cases hk : okS s with
    | false =>
      rw [fault_bad hk] at hws
      subst hws
      rw [if_pos hk] at h3
      exact fin _ _ _ h3 (hj4.trans (if_neg (fun h => by have := h.1; simp at this))) (hj5.trans (if_neg (fun h => by have := h.1; simp at this))) rfl
    | true =>
      rw [fault_ok hk] at hws
      subst hws
      rw [if_neg (by rw [hk]; simp)] at h3
      by_cases g : n ≤ 0 ∨ s.size = 0
      · have hz0 : z = 0 := by rw [hz, if_neg (fun h => by omega)]
        rw [if_pos g] at h3
        have hr : j4 = strOf [] := by
          rw [hj4]
          by_cases k : ((0 : Int), (0 : Int)).1 = 0 ∧ z ≤ 4000 ∧ s.size ≠ 0
          · rw [if_pos k]
            have : n.toNat = 0 := by have := k.2.2; omega
            rw [this]; rfl
          · rw [if_neg k]
        exact fin _ _ _ h3 hr (hj5.trans (if_neg (fun h => by have := h.2; omega))) rfl
      · have g' : 0 < n ∧ s.size ≠ 0 := by omega
        rw [if_pos g'] at hz
        rw [if_neg g] at h3
        have h4 : s.size ≤ 4000 := by
          unfold okS at hk
          rw [Bool.and_eq_true] at hk
          exact of_decide_eq_true hk.2
        have hzz : 4000 < z ↔ 4000 < n * (s.size : Int) := by
          rw [hz]
          by_cases k : n ≤ 4000
          · rw [if_pos k]
          · rw [if_neg k]
            have : n * 1 ≤ n * (s.size : Int) := Int.mul_le_mul_of_nonneg_left (by omega) (by omega)
            omega
        by_cases k : 4000 < n * (s.size : Int)
        · have kz := hzz.2 k
          rw [if_pos k] at h3
          exact fin _ _ _ h3 (hj4.trans (if_neg (fun h => by have := h.2.1; omega))) (hj5.trans (if_pos ⟨rfl, kz⟩)) rfl
        · have kz : ¬ 4000 < z := fun h => k (hzz.1 h)
          have hrl := Lib.repeatL_length (bytesOf s) n.toNat
          rw [← size_bytes] at hrl
          rw [if_neg k] at h3
          refine fin _ _ _ h3 (hj4.trans (if_pos ⟨rfl, by omega, g'.2⟩)) (hj5.trans (if_neg (fun h => kz h.2))) ?_
          have hle : n.toNat * s.size ≤ 4000 := by
            obtain ⟨m, rfl⟩ : ∃ m : Nat, n = m := ⟨n.toNat, by omega⟩
            rw [← Int.natCast_mul] at k
            rw [Int.toNat_natCast]; omega
          rw [if_neg (fun h => by rw [size_str, hrl] at h; omega)]; rfl
  subst hb
  refine Tot.if_ rfl (Tot.bindq (faults_tot (l := [s, t, u]) (by simp) hss) fun wf hwf => ?_)
  -- replacing
  rcases h2 with ⟨c, k, hf, hc, h2⟩ | ⟨p, q, v, hp, hq, hv, e1, e2, e3, hl, hl2, hl3, hf, h2⟩
  · rw [hf] at hwf
    subst hwf
    refine Tot.bindq (P := fun b => b = false) (Tot.if_ (beq_eq_false_iff_ne.2 hc) (Tot.ret rfl)) fun b hb => ?_
    subst hb
    refine Tot.bindq (P := fun j => j = (c, k)) (Tot.if_ rfl (Tot.ret rfl)) fun j hj => ?_
    subst hj
    refine Tot.it (bne_iff_ne.2 hc) (Tot.bindq (text_tot ?_) fun b hb => Tot.ret hb)
    rw [h2, if_neg (fun h => hc h.1), if_pos hc]
  · rw [hf] at hwf
    subst hwf e1 e2 e3
    rw [empty_str]
    refine Tot.bindq (P := fun b => b = decide (q = [])) (Tot.it rfl (Tot.ret rfl)) fun b hb => ?_
    subst hb
    by_cases hqe : q = []
    · rw [if_pos hqe] at h2
      refine Tot.bindq (P := fun j => j = (10, -2)) (Tot.it (decide_eq_true hqe) (Tot.bindq (rat_tot _ _) fun r hr => Tot.ret (by rw [hr]))) fun j hj => ?_
      subst hj
      refine Tot.it rfl (Tot.bindq (text_tot ?_) fun b hb => Tot.ret hb)
      rw [h2]; rfl
    · rw [if_neg hqe] at h2
      refine Tot.bindq (P := fun j => j = (0, 0)) (Tot.if_ (decide_eq_false hqe) (Tot.ret rfl)) fun j hj => ?_
      subst hj
      refine Tot.if_ rfl ?_
      have hpl := enc_len_ge p
      have hql := enc_len_ge q
      refine Tot.bindq (points_enc hp (by omega)) fun r3 h3 => Tot.bindq (points_enc hq (by omega)) fun r4 h4 => ?_
      subst h3 h4
      dsimp only
      refine Tot.bindq (Places_tot hqe (by omega) (by omega)) fun pl hpl2 => ?_
      subst hpl2
      refine Tot.bindq FirstOf_tot fun f hf2 => ?_
      -- the first cuts
      have hfk : f = ints (cutsK q (kN q p most) p 0) := by
        rw [hf2]
        refine congrArg ints ?_
        have hcN : (cutsK q p.length p 0).length = cN q p := rfl
        have hc := cN_le (p := p) hqe
        unfold kN
        by_cases g : most < 0
        · rw [if_pos g, if_pos g, ← cuts_take (cN q p) p.length p 0 hc, ← hcN, List.take_length]
        · rw [if_neg g, if_neg g]
          rcases Nat.le_total most.toNat (cN q p) with h | h
          · rw [Nat.min_eq_left h, cuts_take _ _ _ _ (by omega)]
          · rw [Nat.min_eq_right h, List.take_of_length_le (by omega), ← cuts_take (cN q p) p.length p 0 hc, ← hcN, List.take_length]
      subst hfk
      rw [ints_len, ints_len]
      refine Tot.bindq (Divide_tot hp (by omega) (by omega) hqe) fun d hd => ?_
      subst hd
      have hck : (cutsK q (kN q p most) p 0).length = kN q p most := by
        have := parts_num (p := p) hqe most
        rw [parts_len _ _ 0] at this; omega
      rw [hck]
      have hkc : kN q p most ≤ cN q p := by
        unfold kN
        by_cases g : most < 0
        · rw [if_pos g]; exact Nat.le_refl _
        · rw [if_neg g]; exact Nat.min_le_right _ _
      have hcl := cN_le (p := p) hqe
      have hnum := parts_num (p := p) hqe most
      have hne := parts_ne q (kN q p most) p
      have j1 := jn_lenS (f := fun x => (enc x).length) (fun a b => by simp [enc_app]) v _ hne
      have j2 := jn_lenS (f := fun x => (enc x).length) (fun a b => by simp [enc_app]) q _ hne
      rw [jn_parts] at j2
      have hsm := parts_small (q := q) (kN q p most) p
      rw [hnum] at j1 j2
      rw [Nat.succ_mul] at j1 j2
      generalize hK : kN q p most = K at *
      generalize partsK q K p = P at *
      generalize lenS _ _ = S at j1 j2
      have b1 : K * (enc v).length ≤ 4000 * 4000 := Nat.mul_le_mul (by omega) hl3
      have b2 : K * (enc q).length ≤ 4000 * 4000 := Nat.mul_le_mul (by omega) hl2
      have hsz : IntKind.i64.wrap (((strOf (enc p)).size : Int) + IntKind.i64.wrap ((K : Int) * IntKind.i64.wrap (((strOf (enc v)).size : Int) - ((strOf (enc q)).size : Int)))) = ((enc (jn v P)).length : Int) := by
        rw [size_str, size_str, size_str, i64_small (x := ((enc v).length : Int) - _) (by omega) (by omega), Int.mul_sub]
        rw [← Int.natCast_mul, ← Int.natCast_mul, i64_small (x := ((K * (enc v).length : Nat) : Int) - _) (by omega) (by omega), i64_small (by omega) (by omega)]
        omega
      rw [hsz]
      have hsl : (strs P).length = K + 1 := by unfold strs; rw [List.length_map, hnum]
      have h00 : idx (strs P) 0 = some (strOf (enc P[0])) := strs_get (i := 0) (by omega)
      refine Tot.some_bind (Tot.bind0 h00 ?_)
      rw [hsl]
      refine Tot.bindq (P := fun j => (enc (jn v P)).length ≤ 4000 → j = strOf (enc (jn v P))) ?_ fun j hj => ?_
      · refine Tot.loop (fun st => ∃ i : Nat, st = (strOf (enc (jn v (P.take i))), (i : Int)) ∧ 1 ≤ i ∧ i ≤ K + 1) (fun st => K + 1 - st.2.toNat) ⟨1, ?_, Nat.le_refl _, by omega⟩ fun st ⟨i, e, hi1, hi⟩ => ?_
        · have h1 : P.take 1 = [P[0]] := by rw [List.take_succ_eq_append_getElem (i := 0) (by omega)]; rfl
          rw [h1]; rfl
        subst e
        dsimp only
        refine Tot.ite (fun g => ?_) fun g => ?_
        · rw [Bool.and_eq_true] at g
          have g1 := of_decide_eq_true g.1
          have g2 := of_decide_eq_true g.2
          have gi : i < P.length := by omega
          have hst := jn_snoc_take (w := v) gi hi1
          have hx := hsm _ (List.getElem_mem gi)
          have hle := jn_take_le (w := v) (L := P) i
          have c1 : cat (strOf (enc v)) (strOf (enc P[i])) = some (strOf (enc v ++ enc P[i])) := cat_str (by omega)
          have c2 : cat (strOf (enc (jn v (P.take i)))) (strOf (enc v ++ enc P[i])) = some (strOf (enc (jn v (P.take (i + 1))))) := by
            rw [cat_str (by rw [List.length_append]; omega), hst, enc_app, enc_app, List.append_assoc]
          refine Tot.bind0 (strs_get gi) (Tot.bind0 c1 (Tot.bind0 c2 (Tot.ret ⟨⟨i + 1, ?_, by omega, by omega⟩, ?_⟩)))
          · rw [iw (n := i + 1) (by omega) (by omega)]
          · dsimp only; rw [iw (n := i + 1) (by omega) (by omega)]; omega
        · refine Tot.ret fun h4 => ?_
          have : ¬ ((i : Int) < ((K + 1 : Nat) : Int)) := fun h => by
            rw [decide_eq_true h, decide_eq_true (show (((enc (jn v P)).length : Nat) : Int) ≤ 4000 by omega)] at g; cases g
          have : i = P.length := by omega
          subst this
          rw [List.take_length]
      · refine Tot.ite (fun g => ?_) fun g => ?_
        · have g := of_decide_eq_true g
          rw [if_pos (by omega)] at h2
          refine Tot.bindq (rat_tot _ _) fun r hr => Tot.bindq (text_tot ?_) fun b hb => Tot.ret hb
          rw [h2, hr]; rfl
        · have g := of_decide_eq_false g
          rw [if_neg (by omega)] at h2
          refine Tot.bindq (text_tot ?_) fun b hb => Tot.ret hb
          have hj := hj (by omega)
          rw [h2, hj, if_neg (fun h => by rw [size_str] at h; omega), if_neg (by simp)]
theorem sumL_sizes : ∀ l : List ByteArray, (l.map fun s => s.size + 1).sum = sumB l + l.length
  | [] => rfl
  | s :: l => by
    have := sumL_sizes l
    unfold sumB at this ⊢
    simp only [List.map_cons, List.sum_cons, List.length_cons, this]; omega
theorem TextstrJoins_said (l : List ByteArray) (s old w : ByteArray) (most n : Int) (_ : (∀ x ∈ l, (fun s => s.size ≤ maxLen) x) ∧ l.length ≤ maxLen) (_ : s.size ≤ maxLen) (_ : old.size ≤ maxLen) (_ : w.size ≤ maxLen) (hm : inK .i64 most) (hn : inK .i64 n)
    (h : sumL (fun s => s.size + 1) l + ((s.size + 1) + ((old.size + 1) + ((w.size + 1) + (1 + 1)))) ≤ 1048576) : Tot (fun k => law4_TextstrJoins k l s old w most n) (· = true) := by
  have h1 := sumL_sizes l
  unfold sumL at h
  exact Joins_tot (by omega) (by omega) (by omega) (by omega) hm hn
end Go.Gv.R

