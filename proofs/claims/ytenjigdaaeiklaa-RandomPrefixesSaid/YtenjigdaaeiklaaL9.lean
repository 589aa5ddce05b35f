import Derived.Test.YtenjigdaaeiklaaL8
import Derived.Test.YtenjigdaaeiklaaL2
set_option linter.all false
namespace Go.Gv.R
open Go Go.Gv Go.Gv.D

/-! ### bytes -/
def byteAt (c s : Int) (i : Nat) : UInt8 := UInt8.ofNat ((mixI (it c s (i / 8 + 1)) / 2 ^ (8 * (i % 8))) % 256).toNat
def byteL (c s : Int) (n : Nat) : List UInt8 := (List.range n).map (byteAt c s)
theorem byteL_succ (c s : Int) (n : Nat) : byteL c s (n + 1) = byteL c s n ++ [byteAt c s n] := by simp [byteL, List.range_succ]
theorem byteL_len (c s : Int) (n : Nat) : (byteL c s n).length = n := by simp [byteL]
theorem odd_of {c : Int} (h : (c.tmod 2 == 0) = false) (hU : U c) : c % 2 = 1 := by
  have h := beq_eq_false_iff_ne.1 h
  rw [Int.tmod_eq_emod_of_nonneg hU.1] at h
  omega

theorem Bytes_tot {c s n : Int} (h : (c.tmod 2 == 0) = false) (h0 : 0 ≤ n) (h1 : n ≤ 4000) : Tot (fun fuel => random_Bytes fuel (s, c) n) (fun r => r.1 = byteL c s n.toNat ∧ r.2.2 = (0, 0)) := by
  unfold random_Bytes
  refine Tot.bind0 (a := (some (s, c), (0, 0))) (open_odd 0 s c h) ?_
  refine Tot.opt (fun e => by cases e) fun x e => ?_
  cases e
  refine Tot.if_ rfl (Tot.if_ (by simp; omega) ?_)
  refine Tot.bindq (P := fun r => r.1 = byteL c s n.toNat) ?_ fun r hr => Tot.ret ⟨hr, rfl⟩
  refine Tot.loop (fun st => ∃ q m : Nat, st.1 = byteL c s m ∧ st.2 = (it c s q, c) ∧ m ≤ n.toNat ∧ (m = 8 * q ∨ m = n.toNat)) (fun st => n.toNat - st.1.length) ⟨0, 0, rfl, rfl, Nat.zero_le _, .inl rfl⟩ fun st ⟨q, m, e1, e2, hm, hq⟩ => ?_
  obtain ⟨out, t⟩ := st
  simp only at e1 e2
  subst e1 e2
  refine Tot.ite (fun hh => ?_) (fun hh => ?_)
  · have hh : m < n.toNat := by
      have : ((byteL c s m).length : Int) < n := of_decide_eq_true hh
      rw [byteL_len] at this
      omega
    have hq : m = 8 * q := by omega
    refine Tot.bind0 (next_eq 0 (it c s q) c) ?_
    have hx := U_mix (stp c (it c s q))
    refine Tot.bindq (P := fun o => ∃ m', o = byteL c s m' ∧ m < m' ∧ m' ≤ n.toNat ∧ (m' = 8 * (q + 1) ∨ m' = n.toNat)) ?_ fun o ⟨m', e, g1, g2, g3⟩ => ?_
    · refine Tot.loop (fun st => ∃ k : Nat, st.2 = (k : Int) ∧ st.1 = byteL c s (m + k) ∧ k ≤ 8 ∧ m + k ≤ n.toNat) (fun st => 8 - st.2.toNat) ⟨0, rfl, rfl, by omega, by omega⟩ fun st ⟨k, e1, e2, g1, g2⟩ => ?_
      obtain ⟨o, kk⟩ := st
      simp only at e1 e2
      subst e1 e2
      refine Tot.ite (fun h2 => ?_) (fun h2 => ?_)
      · rw [Bool.and_eq_true] at h2
        have h3 : k < 8 := by have : ((k : Nat) : Int) < 8 := of_decide_eq_true h2.1; omega
        have h4 : m + k < n.toNat := by
          have : ((byteL c s (m + k)).length : Int) < n := of_decide_eq_true h2.2
          rw [byteL_len] at this
          omega
        have hw : IntKind.i64.wrap (8 * (k : Int)) = ((8 * k : Nat) : Int) := by rw [i64_small (by omega) (by omega)]; omega
        simp only [hw]
        refine Tot.bind0 (a := ()) (by unfold nn; rw [if_pos (by omega)]) ?_
        have hs : shrI .u64 (mixI (stp c (it c s q))) ((8 * k : Nat) : Int) = mixI (stp c (it c s q)) / 2 ^ (8 * k) := by
          unfold shrI
          rw [show min (((8 * k : Nat) : Int)).toNat IntKind.u64.bits = 8 * k by show min _ 64 = _; omega]
          exact Int.fdiv_eq_ediv_of_nonneg _ (Int.le_of_lt (Int.pow_pos (by decide)))
        rw [hs]
        have hb : u8 (IntKind.u8.wrap (mixI (stp c (it c s q)) / 2 ^ (8 * k))) = some (byteAt c s (m + k)) := by
          unfold u8
          rw [u8_wrap, if_pos (by omega)]
          have e1 : (m + k) / 8 = q := by omega
          have e2 : (m + k) % 8 = k := by omega
          unfold byteAt
          rw [e1, e2]
          rfl
        refine Tot.bind0 hb (Tot.bind0 (app_ok (by rw [byteL_len]; simp; omega)) (Tot.ret ?_))
        have hw2 : IntKind.i64.wrap ((k : Int) + 1) = ((k + 1 : Nat) : Int) := by rw [i64_small (by omega) (by omega)]; omega
        simp only [hw2]
        exact ⟨⟨k + 1, rfl, (byteL_succ c s (m + k)).symm, by omega, by omega⟩, by show 8 - (((k + 1 : Nat) : Int)).toNat < 8 - ((k : Nat) : Int).toNat; omega⟩
      · rw [Bool.and_eq_false_iff] at h2
        refine Tot.ret ⟨m + k, rfl, ?_⟩
        rcases h2 with h2 | h2
        · have h3 : ¬ ((k : Nat) : Int) < 8 := of_decide_eq_false h2
          omega
        · have h3 : ¬ ((byteL c s (m + k)).length : Int) < n := of_decide_eq_false h2
          rw [byteL_len] at h3
          omega
    · subst e
      refine Tot.ret ⟨⟨q + 1, m', rfl, rfl, g2, g3⟩, ?_⟩
      show n.toNat - (byteL c s m').length < n.toNat - (byteL c s m).length
      rw [byteL_len, byteL_len]
      omega
  · have hh : ¬ ((byteL c s m).length : Int) < n := of_decide_eq_false hh
    rw [byteL_len] at hh
    refine Tot.ret ?_
    show byteL c s m = _
    rw [show m = n.toNat by omega]

/-! ### samples -/
theorem small_tot {c s n : Int} (hc : c % 2 = 1) (hs : U s) (h0 : 1 ≤ n) (h1 : n < 9223372036854775808) : Tot (fun fuel => random_source_small fuel (s, c) n) (fun r => 0 ≤ r.1 ∧ r.1 < n ∧ U r.2.1 ∧ r.2.2 = c) := by
  unfold random_source_small
  refine Tot.bindq (Of_tot (n := n) (by omega) h1) fun o ⟨o1, o2⟩ => ?_
  have hneg : o.1 = false := by
    have hb := val_lt_big o1.1
    unfold ival at o2
    cases ho : o.1 with
    | false => rfl
    | true => rw [ho] at o2; simp at o2; omega
  have hv : val o.2 = n := by rw [← o2]; unfold ival; rw [hneg]; rfl
  rw [hneg]
  refine Tot.bindq (below_tot hc hs o1.1 (by omega)) fun r ⟨r1, r2, r3⟩ => ?_
  obtain ⟨k1, k2, k3⟩ := r3.ok
  have hU : U r.2.1 := by
    obtain ⟨size, m, _, _, h, _⟩ := r3
    rw [h]
    exact U_it hs _
  rw [r1]
  refine Tot.bindq (Small_tot k1 (by omega)) fun q hq => Tot.ret ?_
  subst hq
  exact ⟨k2, by show val r.1.2 < n; omega, hU, r2⟩

theorem small_fun {c : Int} (hc : c % 2 = 1) : ∃ f : Int × Int → Int × Int, ∀ s n, U s → 1 ≤ n → n < 9223372036854775808 →
    Tot (fun fuel => random_source_small fuel (s, c) n) (fun r => r = ((f (s, n)).1, ((f (s, n)).2, c))) ∧ 0 ≤ (f (s, n)).1 ∧ (f (s, n)).1 < n ∧ U (f (s, n)).2 := by
  have h : ∀ x : Int × Int, ∃ y : Int × Int, U x.1 → 1 ≤ x.2 → x.2 < 9223372036854775808 → Tot (fun fuel => random_source_small fuel (x.1, c) x.2) (fun r => r = (y.1, (y.2, c))) ∧ 0 ≤ y.1 ∧ y.1 < x.2 ∧ U y.2 := fun x => by
    by_cases hx : U x.1 ∧ 1 ≤ x.2 ∧ x.2 < 9223372036854775808
    · obtain ⟨h1, h2, h3⟩ := hx
      obtain ⟨r, ⟨g1, g2, g3, g4⟩, N, hN⟩ := small_tot hc h1 h2 h3
      exact ⟨(r.1, r.2.1), fun _ _ _ => ⟨⟨r, by rw [← g4], N, hN⟩, g1, g2, g3⟩⟩
    · exact ⟨(0, 0), fun a b d => absurd ⟨a, b, d⟩ hx⟩
  obtain ⟨f, hf⟩ := Classical.axiomOfChoice h
  exact ⟨f, fun s n h1 h2 h3 => hf (s, n) h1 h2 h3⟩

def swapL (l : List Int) (i j : Nat) : List Int := (l.set i (l.getD j 0)).set j (l.getD i 0)
def seqS (f : Int × Int → Int × Int) (n : Nat) (s : Int) : Nat → List Int × Int
  | 0 => ((List.range n).map (fun (i : Nat) => (i : Int)), s)
  | i + 1 => (swapL (seqS f n s i).1 i (i + (f ((seqS f n s i).2, (n : Int) - i)).1.toNat), (f ((seqS f n s i).2, (n : Int) - i)).2)

theorem swapL_len (l : List Int) (i j : Nat) : (swapL l i j).length = l.length := by simp [swapL]
theorem seqS_len (f : Int × Int → Int × Int) (n : Nat) (s : Int) : ∀ i, (seqS f n s i).1.length = n
  | 0 => by simp [seqS]
  | i + 1 => by show (swapL _ _ _).length = n; rw [swapL_len, seqS_len f n s i]
theorem swapL_take (l : List Int) {i j k : Nat} (hk : k ≤ i) (hj : k ≤ j) : (swapL l i j).take k = l.take k := by
  unfold swapL
  rw [List.take_set_of_le hj, List.take_set_of_le hk]
theorem seqS_take (f : Int × Int → Int × Int) (n : Nat) (s : Int) (k : Nat) : ∀ i, k ≤ i → (seqS f n s i).1.take k = (seqS f n s k).1.take k
  | 0, h => by rw [Nat.le_zero.1 h]
  | i + 1, h => by
    rcases Nat.lt_or_eq_of_le h with h1 | h1
    · rw [← seqS_take f n s k i (by omega)]
      exact swapL_take _ (by omega) (by omega)
    · rw [h1]

def Inj (l : List Int) : Prop := ∀ i j : Nat, i < l.length → j < l.length → l.getD i 0 = l.getD j 0 → i = j
def Rng (n : Nat) (l : List Int) : Prop := ∀ i : Nat, i < l.length → 0 ≤ l.getD i 0 ∧ l.getD i 0 < n
theorem getD_swap (l : List Int) {i j : Nat} (hi : i < l.length) (hj : j < l.length) (k : Nat) : (swapL l i j).getD k 0 = if k = j then l.getD i 0 else if k = i then l.getD j 0 else l.getD k 0 := by
  unfold swapL
  by_cases h1 : k = j
  · subst h1
    rw [if_pos rfl]
    simp [List.getD, List.getElem?_set, hj]
  · rw [if_neg h1]
    by_cases h2 : k = i
    · subst h2
      rw [if_pos rfl]
      simp [List.getD, List.getElem?_set, hi, Ne.symm h1]
    · rw [if_neg h2]
      simp [List.getD, List.getElem?_set, Ne.symm h1, Ne.symm h2]
theorem Inj.swap {l : List Int} (h : Inj l) {i j : Nat} (hi : i < l.length) (hj : j < l.length) : Inj (swapL l i j) := fun a b ha hb e => by
  rw [swapL_len] at ha hb
  rw [getD_swap l hi hj, getD_swap l hi hj] at e
  split at e <;> split at e <;> (try split at e) <;> (try split at e) <;> first | omega | (have := h _ _ ‹_› ‹_› e; omega) | (have := h _ _ hi hj e; omega) | (have := h _ _ hj hi e; omega) | (have := h _ _ hi hb e; omega) | (have := h _ _ ha hi e; omega) | (have := h _ _ hj hb e; omega) | (have := h _ _ ha hj e; omega) | (have := h _ _ ha hb e; omega)
theorem Rng.swap {n : Nat} {l : List Int} (h : Rng n l) {i j : Nat} (hi : i < l.length) (hj : j < l.length) : Rng n (swapL l i j) := fun a ha => by
  rw [swapL_len] at ha
  rw [getD_swap l hi hj]
  split
  · exact h _ hi
  · split
    · exact h _ hj
    · exact h _ ha
theorem getD_get {l : List Int} {i : Nat} (h : i < l.length) : l.getD i 0 = l[i] := by simp [List.getD, h]

theorem sample_tot {c : Int} {f : Int × Int → Int × Int} (hf : ∀ s n, U s → 1 ≤ n → n < 9223372036854775808 →
      Tot (fun fuel => random_source_small fuel (s, c) n) (fun r => r = ((f (s, n)).1, ((f (s, n)).2, c))) ∧ 0 ≤ (f (s, n)).1 ∧ (f (s, n)).1 < n ∧ U (f (s, n)).2) {s : Int} (hs : U s) {n k : Nat} (hn : n ≤ 1000) (hk : k ≤ n) :
    Tot (fun fuel => random_source_sample fuel (s, c) n k) (fun r => r = ((seqS f n s k).1.take k, ((seqS f n s k).2, c)) ∧ Inj (seqS f n s k).1 ∧ Rng n (seqS f n s k).1) := by
  unfold random_source_sample
  refine Tot.bind0 (a := List.replicate n 0) (by unfold mkC; rw [if_pos ⟨by omega, by omega, by omega⟩]; simp) ?_
  have hlen : (List.replicate n (0 : Int)).length = n := List.length_replicate
  refine Tot.bindq (P := fun j => j = (List.range n).map (fun (i : Nat) => (i : Int))) ?_ fun j hj => ?_
  · refine Tot.loop (fun st => ∃ i : Nat, st.2 = (i : Int) ∧ i ≤ n ∧ st.1.length = n ∧ ∀ m : Nat, m < i → st.1[m]? = some (m : Int)) (fun st => n - st.2.toNat) ⟨0, rfl, by omega, hlen, fun m h => by omega⟩ fun st ⟨i, e, hi, hl, hm⟩ => ?_
    obtain ⟨l, z⟩ := st
    simp only at e hl hm
    subst e
    simp only [hlen]
    refine Tot.ite (fun h => ?_) (fun h => ?_)
    · have h : i < n := by have : ((i : Nat) : Int) < (n : Int) := of_decide_eq_true h; omega
      refine Tot.bind0 (idx_nat (show i < l.length by omega)) (Tot.bind0 (a := l.set i (i : Int)) (by unfold upd; rw [if_pos ⟨by omega, by omega⟩]; rfl) (Tot.ret ?_))
      have hw : IntKind.i64.wrap ((i : Int) + 1) = ((i + 1 : Nat) : Int) := by rw [i64_small (by omega) (by omega)]; omega
      simp only [hw]
      refine ⟨⟨i + 1, rfl, by omega, by simp [hl], fun m hm' => ?_⟩, by show n - (((i + 1 : Nat) : Int)).toNat < n - ((i : Nat) : Int).toNat; omega⟩
      rw [List.getElem?_set]
      by_cases h1 : i = m
      · rw [if_pos h1, if_pos (by omega), h1]
      · rw [if_neg h1]
        exact hm m (by omega)
    · have h : ¬ ((i : Nat) : Int) < (n : Int) := of_decide_eq_false h
      refine Tot.ret ?_
      apply List.ext_getElem?
      intro m
      by_cases hmn : m < n
      · have : l[m]? = some (m : Int) := hm m (by omega)
        rw [this]
        simp [hmn]
      · rw [List.getElem?_eq_none (by omega), List.getElem?_eq_none (by simp; omega)]
  subst hj
  refine Tot.bindq (P := fun r => r = ((seqS f n s k).1, ((seqS f n s k).2, c)) ∧ Inj (seqS f n s k).1 ∧ Rng n (seqS f n s k).1) ?_ fun r ⟨hr, h1, h2⟩ => ?_
  · refine Tot.loop (fun st => ∃ i : Nat, st.2.1 = (i : Int) ∧ i ≤ k ∧ st.1 = (seqS f n s i).1 ∧ st.2.2 = ((seqS f n s i).2, c) ∧ U (seqS f n s i).2 ∧ Inj (seqS f n s i).1 ∧ Rng n (seqS f n s i).1) (fun st => k - st.2.1.toNat)
      ⟨0, rfl, by omega, rfl, rfl, hs, ?_, ?_⟩ fun st ⟨i, e, hi, e1, e2, hu, hin, hr⟩ => ?_
    · intro a b ha hb e
      simp [seqS] at ha hb
      simp [seqS, List.getD, ha, hb] at e
      omega
    · intro a ha
      simp [seqS] at ha
      simp [seqS, List.getD, ha]
    obtain ⟨l, z, t⟩ := st
    simp only at e e1 e2
    subst e e1 e2
    refine Tot.ite (fun h => ?_) (fun h => ?_)
    · have h : i < k := by have : ((i : Nat) : Int) < (k : Int) := of_decide_eq_true h; omega
      have hw : IntKind.i64.wrap ((n : Int) - (i : Int)) = (n : Int) - i := i64_small (by omega) (by omega)
      rw [hw]
      obtain ⟨g1, g2, g3, g4⟩ := hf (seqS f n s i).2 ((n : Int) - i) hu (by omega) (by omega)
      refine Tot.bindq g1 fun r hr' => ?_
      subst hr'
      generalize hy : (f ((seqS f n s i).2, (n : Int) - i)).1 = y at g2 g3
      have hll := seqS_len f n s i
      have hw1 : IntKind.i64.wrap ((i : Int) + y) = ((i + y.toNat : Nat) : Int) := by rw [i64_small (by omega) (by omega)]; omega
      simp only [hw1]
      have hj : i + y.toNat < (seqS f n s i).1.length := by omega
      have hi' : i < (seqS f n s i).1.length := by omega
      refine Tot.bind0 (idx_nat hj) (Tot.bind0 (idx_nat hi') (Tot.bind0 (idx_nat hi') ?_))
      refine Tot.bind0 (a := (seqS f n s i).1.set i ((seqS f n s i).1[i + y.toNat]'hj)) (by unfold upd; rw [if_pos ⟨by omega, by omega⟩]; rfl) ?_
      have hj2 : i + y.toNat < ((seqS f n s i).1.set i ((seqS f n s i).1[i + y.toNat]'hj)).length := by simpa using hj
      refine Tot.bind0 (idx_nat hj2) ?_
      refine Tot.bind0 (a := swapL (seqS f n s i).1 i (i + y.toNat)) (by
        unfold upd
        rw [if_pos ⟨by omega, by omega⟩]
        unfold swapL
        rw [getD_get hj, getD_get hi']
        rfl) (Tot.ret ?_)
      have hw2 : IntKind.i64.wrap ((i : Int) + 1) = ((i + 1 : Nat) : Int) := by rw [i64_small (by omega) (by omega)]; omega
      simp only [hw2]
      refine ⟨⟨i + 1, rfl, by omega, ?_, rfl, g4, ?_, ?_⟩, by show k - (((i + 1 : Nat) : Int)).toNat < k - ((i : Nat) : Int).toNat; omega⟩
      · show swapL _ _ _ = swapL _ _ _
        rw [hy]
      · show Inj (swapL _ _ _)
        rw [hy]
        exact hin.swap hi' hj
      · show Rng n (swapL _ _ _)
        rw [hy]
        exact hr.swap hi' hj
    · have h : i = k := by have : ¬ ((i : Nat) : Int) < (k : Int) := of_decide_eq_false h; omega
      subst h
      exact Tot.ret ⟨rfl, hin, hr⟩
  · subst hr
    have hll := seqS_len f n s k
    refine Tot.bind0 (a := (seqS f n s k).1.take k) (by
      show sub (seqS f n s k).1 0 (k : Int) = _
      rw [sub_ok (by decide) (by omega) (by omega)]
      simp) (Tot.bind0 (a := (seqS f n s k).1.take k) (by
        show (app [] ((seqS f n s k).1.take k)).bind (fun l => some l) = some ((seqS f n s k).1.take k)
        rw [app_ok (by simp; omega)]; rfl) (Tot.ret ⟨rfl, h1, h2⟩))

theorem Sample_tot {c : Int} {f : Int × Int → Int × Int} (hf : ∀ s n, U s → 1 ≤ n → n < 9223372036854775808 →
      Tot (fun fuel => random_source_small fuel (s, c) n) (fun r => r = ((f (s, n)).1, ((f (s, n)).2, c))) ∧ 0 ≤ (f (s, n)).1 ∧ (f (s, n)).1 < n ∧ U (f (s, n)).2) {s : Int} (hs : U s) (h : (c.tmod 2 == 0) = false) {n k : Nat} (hn : n ≤ 1000) (hk : k ≤ n) :
    Tot (fun fuel => random_Sample fuel (s, c) n k) (fun r => r = ((seqS f n s k).1.take k, ((seqS f n s k).2, c), (0, 0)) ∧ Inj (seqS f n s k).1 ∧ Rng n (seqS f n s k).1) := by
  unfold random_Sample
  refine Tot.bind0 (a := (some (s, c), (0, 0))) (open_odd 0 s c h) ?_
  refine Tot.opt (fun e => by cases e) fun x e => ?_
  cases e
  refine Tot.if_ rfl (Tot.if_ (by simp; omega) (Tot.if_ (by simp; omega) ?_))
  refine Tot.bindq (sample_tot hf hs hn hk) fun r ⟨hr, h1, h2⟩ => Tot.ret ⟨?_, h1, h2⟩
  rw [hr]

theorem numbers_same (a : List Int) (ha : a.length ≤ 1000) : Tot (fun fuel => ref4_Numbers fuel a a) (· = true) := by
  unfold ref4_Numbers
  refine Tot.if_ (by simp) ?_
  refine Tot.bindq (P := fun x => x = .inl ()) ?_ fun x hx => by subst hx; exact Tot.contl (Tot.ret rfl)
  refine Tot.loop (fun st : Int => ∃ i : Nat, st = (i : Int) ∧ i ≤ a.length) (fun st : Int => a.length - st.toNat) ⟨0, rfl, by omega⟩ fun st ⟨i, e, hi⟩ => ?_
  subst e
  refine Tot.ite (fun h => ?_) (fun h => Tot.ret rfl)
  have h : i < a.length := by have : ((i : Nat) : Int) < (a.length : Int) := of_decide_eq_true h; omega
  refine Tot.bind0 (idx_nat h) (Tot.bind0 (idx_nat h) (Tot.if_ (by simp) (Tot.ret ?_)))
  have hw : IntKind.i64.wrap ((i : Int) + 1) = ((i + 1 : Nat) : Int) := by rw [i64_small (by omega) (by omega)]; omega
  rw [hw]
  exact ⟨⟨i + 1, rfl, by omega⟩, by omega⟩

theorem RandomPrefixes_law (g : Int × Int) (n k : Int) (hg1 : U g.1) (hg2 : U g.2) (hn : inK .i64 n) (hk : inK .i64 k) : Tot (fun fuel => law4_RandomPrefixes fuel g n k) (· = true) := by
  obtain ⟨s, c⟩ := g
  have hg1 : U s := hg1
  have hg2 : U c := hg2
  unfold law4_RandomPrefixes
  refine Tot.bindq draws_ok fun r hr => ?_
  subst hr
  refine Tot.if_ rfl ?_
  refine Tot.bindq (P := fun j => j = ((c.tmod 2 == 0) || decide (n < 0) || decide (n > 1000) || decide (k < 0) || decide (k > n))) ?_ fun j hj => ?_
  · refine Tot.ite (fun h => Tot.ret (by rw [h]; rfl)) (fun h => Tot.ite (fun h2 => Tot.ret (by rw [h2]; simp)) (fun h2 => Tot.ite (fun h3 => Tot.ret (by rw [h3]; simp)) (fun h3 => Tot.ite (fun h4 => Tot.ret (by rw [h4]; simp)) (fun h4 => Tot.ret (by rw [h, h2, h3, h4]; simp)))))
  refine Tot.ite (fun h => Tot.ret rfl) (fun h => ?_)
  rw [hj] at h
  simp only [Bool.or_eq_false_iff, decide_eq_false_iff_not] at h
  obtain ⟨⟨⟨⟨hc, hn0⟩, hn1⟩, hk0⟩, hk1⟩ := h
  obtain ⟨n, rfl⟩ : ∃ m : Nat, n = (m : Int) := ⟨n.toNat, by omega⟩
  obtain ⟨k, rfl⟩ : ∃ m : Nat, k = (m : Int) := ⟨k.toNat, by omega⟩
  have hnn : n ≤ 1000 := by omega
  have hkn : k ≤ n := by omega
  obtain ⟨f, hf⟩ := small_fun (odd_of hc hg2)
  refine Tot.bindq (Bytes_tot hc (by omega) (by omega)) fun r1 ⟨a1, a2⟩ => Tot.bindq (Bytes_tot hc (by omega) (by omega)) fun r2 ⟨b1, b2⟩ => ?_
  refine Tot.bindq (Sample_tot hf hg1 hc hnn (Nat.le_refl n)) fun r3 ⟨c1, c2, c3⟩ => Tot.bindq (Sample_tot hf hg1 hc hnn hkn) fun r4 ⟨d1, _, _⟩ => ?_
  have hl := seqS_len f n s n
  have hlk := seqS_len f n s k
  have hx : (seqS f n s n).1.take n = (seqS f n s n).1 := List.take_of_length_le (by omega)
  rw [hx] at c1
  simp only [Int.toNat_natCast] at a1 b1
  subst c1 d1
  generalize hX : (seqS f n s n).1 = X at *
  refine Tot.bindq (P := fun j => j = false) ?_ fun j hj => ?_
  · refine Tot.if_ (by rw [a2]; rfl) (Tot.if_ (by rw [b2]; rfl) (Tot.if_ rfl (Tot.if_ rfl (Tot.if_ (by rw [a1, byteL_len]; simp) (Tot.if_ (by rw [b1, byteL_len]; simp) (Tot.if_ (by simp [hl]) (Tot.if_ (by simp [hlk]; omega) ?_)))))))
    rw [a1, b1]
    refine Tot.bind0 (a := byteL c s k) (by
      rw [sub_ok (by decide) (by omega) (by rw [byteL_len]; omega)]
      simp [byteL, ← List.map_take, List.take_range, Nat.min_eq_left hkn]) ?_
    refine Tot.bind0 (a := true) (by show Option.bind (some _) _ = _; simp) (Tot.if_ rfl ?_)
    refine Tot.bind0 (a := X.take k) (by rw [sub_ok (by decide) (by omega) (by omega)]; simp) ?_
    have e : (seqS f n s k).1.take k = X.take k := by rw [← hX]; exact (seqS_take f n s k n hkn).symm
    rw [e]
    refine Tot.bindq (numbers_same _ (by simp; omega)) fun q hq => ?_
    subst hq
    exact Tot.ret rfl
  subst hj
  refine Tot.if_ rfl ?_
  refine Tot.bind0 (a := List.replicate n false) (by unfold mkC; rw [if_pos ⟨by omega, by omega, by omega⟩]; simp) ?_
  refine Tot.bindq (P := fun x => x = .inl ()) ?_ fun x hx => by subst hx; exact Tot.contl (Tot.ret rfl)
  refine Tot.loop (fun st => ∃ i : Nat, st.2 = (i : Int) ∧ i ≤ n ∧ st.1.length = n ∧ ∀ v : Nat, st.1[v]? = some true → ∃ j, j < i ∧ X.getD j 0 = (v : Int)) (fun st => n - st.2.toNat)
    ⟨0, rfl, by omega, by simp, fun v hv => by simp [List.getElem?_replicate] at hv⟩ fun st ⟨i, e, hi, hsl, hseen⟩ => ?_
  obtain ⟨seen, z⟩ := st
  simp only at e hsl hseen
  subst e
  refine Tot.ite (fun h => ?_) (fun h => Tot.ret rfl)
  have h : i < n := by have : ((i : Nat) : Int) < (n : Int) := of_decide_eq_true h; omega
  have hiX : i < X.length := by omega
  have hrg := c3 i hiX
  obtain ⟨v, hv⟩ : ∃ v : Nat, X.getD i 0 = (v : Int) := ⟨(X.getD i 0).toNat, by omega⟩
  have hxi : idx X (i : Int) = some (v : Int) := by rw [idx_nat hiX, ← getD_get hiX, hv]
  have hvn : v < n := by omega
  have hsv : seen[v]'(by omega) = false := by
    cases hb : seen[v]'(by omega) with
    | false => rfl
    | true =>
      obtain ⟨j, hj, e⟩ := hseen v (by rw [List.getElem?_eq_getElem (by omega), hb])
      have := c2 j i (by omega) hiX (by rw [e, hv])
      omega
  have hsi : idx seen (v : Int) = some false := by rw [idx_nat (by omega), hsv]
  refine Tot.bindq (P := fun j => j = false) ?_ fun j hj => ?_
  · exact Tot.bind0 hxi (Tot.if_ (decide_eq_false (by omega)) (Tot.bind0 hxi (Tot.if_ (decide_eq_false (by omega)) (Tot.bind0 hxi (Tot.bind0 hsi (Tot.ret rfl))))))
  subst hj
  refine Tot.if_ rfl (Tot.bind0 hxi (Tot.bind0 hsi (Tot.bind0 (a := seen.set v true) (by unfold upd; rw [if_pos ⟨by omega, by omega⟩]; rfl) (Tot.ret ?_))))
  have hw : IntKind.i64.wrap ((i : Int) + 1) = ((i + 1 : Nat) : Int) := by rw [i64_small (by omega) (by omega)]; omega
  simp only [hw]
  refine ⟨⟨i + 1, rfl, by omega, by simp [hsl], fun w hw => ?_⟩, by show n - (((i + 1 : Nat) : Int)).toNat < n - ((i : Nat) : Int).toNat; omega⟩
  rw [List.getElem?_set] at hw
  by_cases h1 : v = w
  · exact ⟨i, by omega, by rw [hv, h1]⟩
  · rw [if_neg h1] at hw
    obtain ⟨j, hj, e⟩ := hseen w hw
    exact ⟨j, by omega, e⟩

theorem RandomPrefixes_said (g : Int × Int) (n k : Int) (h0 : inK .u64 g.1 ∧ inK .u64 g.2) (h1 : inK .i64 n) (h2 : inK .i64 k) : Tot (fun fuel => law4_RandomPrefixes fuel g n k) (· = true) :=
  RandomPrefixes_law g n k (inK_u64 h0.1) (inK_u64 h0.2) h1 h2
end Go.Gv.R
