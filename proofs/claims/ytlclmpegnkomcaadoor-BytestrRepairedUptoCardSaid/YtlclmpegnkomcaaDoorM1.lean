import Derived.Test.YtlclmpegnkomcaaDoorU8
import Derived.Test.YtlclmpegnkomcaaDoorL9
set_option linter.all false
namespace Go.Gv.R
open Go Go.Gv Go.Gv.D Go.Lib

theorem at_tot (a b : Int) : Tot (fun fuel => ref4_At fuel a b) (fun r => r = (a, b)) := by unfold ref4_At; exact Tot.ret rfl
theorem rng_true {c : Int} (h : 0 ≤ c ∧ c ≤ 2) : ((decide (c ≥ 0)) && (decide (c ≤ 2))) = true := by rw [decide_eq_true h.1, decide_eq_true h.2]; rfl
theorem rng_false {c : Int} (h : ¬ (0 ≤ c ∧ c ≤ 2)) : ((decide (c ≥ 0)) && (decide (c ≤ 2))) = false := by
  cases e : ((decide (c ≥ 0)) && (decide (c ≤ 2)))
  · rfl
  · obtain ⟨a, b⟩ := Bool.and_eq_true_iff.1 e
    exact absurd ⟨of_decide_eq_true a, of_decide_eq_true b⟩ h
theorem Codes_tot {s : ByteArray} {b : List UInt8} {c m : Int} (hs : s.size ≤ 1048576) (hb : b.length ≤ 1048576) : Tot (fun fuel => law4_BytestrCodes fuel s b c m) (fun r => r = true) := by
  unfold law4_BytestrCodes
  refine Tot.bindq (Encode_tot hs) fun e he => Tot.bindq (Decode_tot hb) fun d hd => Tot.bindq bytesOf_tot fun r hr => ?_
  subst hr
  refine Tot.if_ rfl (Tot.bindq (TextFaults_tot hs) fun tf htf => ?_)
  have hsz := size_bytes s
  refine Tot.bindq (P := fun j => j = decide ((validD (bytesOf s) && decide (s.size ≤ 4000)) = true ∧ ¬ (0 ≤ c ∧ c ≤ 2))) ?_ fun j hj => ?_
  · by_cases hv : (validD (bytesOf s) && decide (s.size ≤ 4000)) = true
    · rw [if_pos hv] at htf
      subst htf
      refine Tot.it rfl (Tot.ret ?_)
      by_cases hc : 0 ≤ c ∧ c ≤ 2
      · rw [rng_true hc, decide_eq_false (fun h => h.2 hc)]; rfl
      · rw [rng_false hc, decide_eq_true ⟨hv, hc⟩]; rfl
    · rw [if_neg hv] at htf
      subst htf
      exact Tot.if_ rfl (Tot.ret (decide_eq_false (fun h => hv h.1)).symm)
  subst hj
  refine Tot.bindq (P := fun j => j = if (validD (bytesOf s) && decide (s.size ≤ 4000)) = true then (if 0 ≤ c ∧ c ≤ 2 then (0, 0) else (5, -2)) else (6, -1)) ?_ fun j hj => ?_
  · refine Tot.ite (fun h => ?_) (fun h => ?_)
    · obtain ⟨hv, hc⟩ := of_decide_eq_true h
      refine Tot.bindq (at_tot 5 (-2)) fun r hr => Tot.ret ?_
      subst hr
      rw [if_pos hv, if_neg hc]
    · have h := of_decide_eq_false h
      refine Tot.ret ?_
      by_cases hv : (validD (bytesOf s) && decide (s.size ≤ 4000)) = true
      · have hc : 0 ≤ c ∧ c ≤ 2 := Classical.byContradiction fun hc => h ⟨hv, hc⟩
        rw [if_pos hv] at htf
        subst htf
        rw [if_pos hv, if_pos hc]
      · rw [if_neg hv] at htf
        subst htf
        rw [if_neg hv]
  refine Tot.bindq (P := fun w => (e.2, e.1) = if w.2.1 ≠ 0 then (w.2, []) else (w.2, w.1)) ?_ fun w hw => ?_
  · by_cases hv : (validD (bytesOf s) && decide (s.size ≤ 4000)) = true
    · rw [if_pos hv] at hj he
      by_cases hc : 0 ≤ c ∧ c ≤ 2
      · rw [if_pos hc] at hj he
        subst hj
        obtain ⟨p, hp, hL, hq⟩ := he
        have hpl : p.length ≤ 1048576 := by have := enc_len_ge p; rw [← hL, ← hsz] at this; omega
        refine Tot.it rfl (Tot.bindq (Points_tot hs) fun r hr => ?_)
        have hr2 : r = (ints p, true) := by
          rcases hr with ⟨h1, _⟩ | ⟨p', hp', h1, h2⟩
          · rw [h1] at hv; cases hv
          · rw [h2, enc_inj hp' hp (h1.symm.trans hL)]
        subst hr2
        refine Tot.bindq (Coded_tot hp (by omega) hc) fun r hr => ?_
        rcases hq with ⟨c1, k, hk, k1, k2, k3⟩ | ⟨c1, k3⟩
        · rcases hr with ⟨_, k', hk', k1', k2', k3'⟩ | ⟨c1', _⟩
          · have : k = k' := by
              rcases Nat.lt_trichotomy k k' with h | h | h
              · have := k2' k h; omega
              · exact h
              · have := k2 k' h; omega
            subst this
            subst k3 k3'
            refine Tot.it (decide_eq_true (by dsimp only; omega)) (Tot.bindq (at_tot 4 _) fun r hr => Tot.ret ?_)
            subst hr
            rfl
          · have := c1' c1 _ (List.getElem_mem hk); omega
        · rcases hr with ⟨c1', k', hk', k1', k2', k3'⟩ | ⟨c1', k3'⟩
          · have := c1 c1' _ (List.getElem_mem hk'); omega
          · subst k3'
            refine Tot.if_ rfl (Tot.ite (fun g => ?_) (fun g => ?_))
            · have g : ((codeL c p).length : Int) > 4000 := of_decide_eq_true g
              refine Tot.bindq (at_tot 3 (-1)) fun r hr => Tot.ret ?_
              subst hr
              rw [k3, if_pos (by omega)]; rfl
            · have g : ¬ ((codeL c p).length : Int) > 4000 := of_decide_eq_false g
              refine Tot.ret ?_
              rw [k3, if_neg (by omega)]; rfl
      · rw [if_neg hc] at hj he
        subst hj
        refine Tot.if_ rfl (Tot.ret ?_)
        rw [he]; rfl
    · rw [if_neg hv] at hj he
      subst hj
      refine Tot.if_ rfl (Tot.ret ?_)
      rw [he]; rfl
  refine Tot.bindq (raw_tot hw) fun r hr => ?_
  subst hr
  refine Tot.if_ rfl (Tot.some_bind (Tot.ite (fun g => ?_) (fun g => ?_)))
  · have g : (b.length : Int) > 4000 := of_decide_eq_true g
    rw [if_pos (by omega)] at hd
    refine Tot.bindq (at_tot 3 (-1)) fun r hr => ?_
    subst hr
    refine Tot.bindq (text_tot ?_) fun r hr => Tot.ret hr
    rw [hd]; rfl
  have g : ¬ (b.length : Int) > 4000 := of_decide_eq_false g
  rw [if_neg (by omega)] at hd
  refine Tot.some_bind ?_
  by_cases hc : 0 ≤ c ∧ c ≤ 2
  rotate_left
  · rw [if_pos hc] at hd
    refine Tot.it (by rw [rng_false hc]; rfl) (Tot.bindq (at_tot 5 (-2)) fun r hr => ?_)
    subst hr
    refine Tot.bindq (text_tot ?_) fun r hr => Tot.ret hr
    rw [hd]; rfl
  rw [if_neg (fun h => h hc)] at hd
  refine Tot.if_ (by rw [rng_true hc]; rfl) ?_
  by_cases hm : 0 ≤ m ∧ m ≤ 2
  rotate_left
  · rw [if_pos hm] at hd
    refine Tot.it ?_ (Tot.bindq (at_tot 5 (-3)) fun r hr => ?_)
    · rcases (by omega : m < 0 ∨ m > 2) with h | h
      · rw [decide_eq_true h, Bool.true_or]
      · rw [decide_eq_true h, Bool.or_true]
    subst hr
    refine Tot.bindq (text_tot ?_) fun r hr => Tot.ret hr
    rw [hd]; rfl
  rw [if_neg (fun h => h hm)] at hd
  refine Tot.if_ (by rw [decide_eq_false (by omega : ¬ m < 0), decide_eq_false (by omega : ¬ m > 2)]; rfl) ?_
  refine Tot.bindq (Decoded_tot hb hc) fun r ⟨n, hn, h1, h2⟩ => ?_
  obtain ⟨n', hn', hdr⟩ := hd
  have := Ends_eq hn hn'
  subst this
  have hge := At_ge hn.1
  have hnl : n ≤ b.length := by omega
  refine Tot.ite (fun q => ?_) (fun q => ?_)
  · obtain ⟨q1, q2⟩ := Bool.and_eq_true_iff.1 q
    have q1 : m = 0 := eq_of_beq q1
    have q2 : r.2 ≥ 0 := of_decide_eq_true q2
    rcases h2 with ⟨e2, _⟩ | ⟨k, k1, k2, k3, k4⟩
    · omega
    rcases hdr with ⟨_, k', k1', k2', k3', k4'⟩ | ⟨hall, _⟩
    · have : k = k' := by
        rcases Nat.lt_trichotomy k k' with h | h | h
        · have := k3' k h; omega
        · exact h
        · have := k3 k' h; omega
      subst this
      rw [k4]
      refine Tot.bindq (at_tot 16 _) fun r hr => ?_
      subst hr
      refine Tot.bindq (text_tot ?_) fun r hr => Tot.ret hr
      rw [k4']; rfl
    · have := hall q1 k k1; omega
  · have hd2 : d = if 4000 < (outs c m b n).length then (strOf [], (3, -1)) else (strOf (outs c m b n), (0, 0)) := by
      rcases hdr with ⟨m0, k', k1', k2', k3', k4'⟩ | ⟨_, h⟩
      · exfalso
        rcases h2 with ⟨_, e3⟩ | ⟨k, k1, k2, k3, k4⟩
        · have := e3 k' k1'; omega
        · rw [beq_iff_eq.2 m0, decide_eq_true (by omega : r.2 ≥ 0)] at q; cases q
      · exact h
    have hl1 : r.1.length = n := by rw [h1, pts_len]
    refine Tot.bindq (ints_repl m (by omega)) fun x hx => ?_
    have hx2 : x = ints ((pts c b n).flatMap (putN m)) := by rw [hx, h1]
    rw [hx2]
    refine Tot.bindq (String_tot (p := (pts c b n).flatMap (putN m)) ?_ ?_) fun y hy => ?_
    · intro z hz
      obtain ⟨w, hw1, hw2⟩ := List.mem_flatMap.1 hz
      obtain ⟨j, hj1, hj2⟩ := List.mem_map.1 hw1
      have hj := List.mem_range.1 hj1
      have hv := V_pt c (drop_ne (hn.1 j hj))
      unfold putN at hw2
      split at hw2
      · rw [List.mem_singleton.1 hw2]
        rcases hv with e | ⟨a, ha, e⟩
        · rw [← hj2] at *
          rename_i h0
          have : pt c b j = -1 := e
          omega
        · have : pt c b j = (a : Int) := e
          rw [← hj2, this]
          simpa using ha
      · split at hw2
        · rw [List.mem_singleton.1 hw2]
          unfold Scal; omega
        · cases hw2
    · have := flatN_len m (pts c b n)
      rw [pts_len] at this; omega
    rw [enc_pts] at hy
    subst hy
    refine Tot.bindq (text_tot ?_) fun r hr => Tot.ret hr
    rw [hd2, size_str]
    by_cases h4 : 4000 < (outs c m b n).length
    · rw [if_pos h4, if_pos ⟨rfl, h4⟩]
    · rw [if_neg h4, if_neg (fun h => h4 h.2)]; rfl
theorem BytestrCodes_said (s : ByteArray) (b : List UInt8) (c m : Int) (_ : s.size ≤ maxLen) (_ : (∀ x ∈ b, (fun _ => True) x) ∧ b.length ≤ maxLen) (_ : inK .i64 c) (_ : inK .i64 m) (h : (s.size + 1) + (sumL (fun _ => 1) b + (1 + 1)) ≤ 1048576) : Tot (fun n => law4_BytestrCodes n s b c m) (· = true) :=
  Codes_tot (by omega) (by have := sumL_one b; omega)
end Go.Gv.R
