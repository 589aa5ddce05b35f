import Derived.Test.YtkmcegicngjhbaaDoorN2
set_option linter.all false
namespace Go.Gv.R
open Go Go.Gv Go.Gv.D Go.Lib

def sumB (L : List ByteArray) : Nat := (L.map ByteArray.size).sum
def firstBad : List ByteArray → Nat → Option Nat
  | [], _ => none
  | s :: l, i => if okS s = true then firstBad l (i + 1) else some i
theorem firstBad_drop : ∀ (l : List ByteArray) (k i : Nat), (∀ j (h : j < l.length), j < i → okS l[j] = true) → i ≤ l.length → firstBad l k = firstBad (l.drop i) (k + i)
  | _, k, 0, _, _ => rfl
  | [], k, i + 1, _, h => absurd h (by simp)
  | s :: l, k, i + 1, h, hi => by
    have h0 := h 0 (by simp) (by omega)
    simp only [List.getElem_cons_zero] at h0
    show (if okS s = true then firstBad l (k + 1) else some k) = _
    rw [if_pos h0, List.drop_succ_cons, firstBad_drop l (k + 1) i (fun j hj hji => by have := h (j + 1) (by simpa using hj) (by omega); simpa using this) (by simpa using hi), show k + 1 + i = k + (i + 1) by omega]
theorem lib_len (w : List UInt8) : ∀ l : List (List UInt8), (Lib.join l w).length = (l.map List.length).sum + (l.length - 1) * w.length
  | [] => by simp [Lib.join]
  | [x] => by simp [Lib.join, List.intercalate]
  | x :: y :: r => by
    rw [lib_cons (by simp), List.length_append, List.length_append, lib_len w (y :: r)]
    simp only [List.map_cons, List.sum_cons, List.length_cons, Nat.add_sub_cancel, Nat.succ_mul]
    omega
theorem sumB_take {L : List ByteArray} {i : Nat} (h : i < L.length) : sumB (L.take (i + 1)) = sumB (L.take i) + L[i].size := by
  unfold sumB
  rw [List.take_succ_eq_append_getElem h, List.map_append, List.sum_append]
  simp
theorem sumB_le {L : List ByteArray} (i : Nat) : sumB (L.take i) ≤ sumB L := by
  have := congrArg sumB (List.take_append_drop i L)
  unfold sumB at this ⊢
  rw [List.map_append, List.sum_append] at this; omega
theorem size_le {L : List ByteArray} {s : ByteArray} (h : s ∈ L) : s.size ≤ sumB L := by
  obtain ⟨a, b, e⟩ := List.append_of_mem h
  subst e
  unfold sumB
  simp; omega
def joinR (L : List ByteArray) (sep : ByteArray) : ByteArray × (Int × Int) := match firstBad L 0 with
  | some i => (strOf [], (6, (i : Int)))
  | none => if okS sep = false then (strOf [], (6, -2)) else if 4000 < sumB L + (L.length - 1) * sep.size then (strOf [], (3, -1)) else (strOf (Lib.join (L.map bytesOf) (bytesOf sep)), (0, 0))
theorem Join_tot {L : List ByteArray} {sep : ByteArray} (hL : sumB L + L.length ≤ 1048576) (hs : sep.size ≤ 1048576) : Tot (fun n => textstr_Join n L sep) (· = joinR L sep) := by
  unfold textstr_Join
  refine Tot.bindq (P := fun r => (∃ i, firstBad L 0 = some i ∧ r = .inr (strOf [], (6, (i : Int)))) ∨ (firstBad L 0 = none ∧ r = .inl ((sumB L : Int), (0, 0)))) ?_ fun r hr => ?_
  · refine Tot.loop (fun st => ∃ i : Nat, st = ((sumB (L.take i) : Int), (i : Int), (0, 0)) ∧ i ≤ L.length ∧ ∀ j (h : j < L.length), j < i → okS L[j] = true) (fun st => L.length - st.2.1.toNat) ⟨0, rfl, Nat.zero_le _, fun j _ h => absurd h (Nat.not_lt_zero _)⟩ fun st ⟨i, e, hi, hall⟩ => ?_
    subst e
    have hd := firstBad_drop L 0 i hall hi
    dsimp only
    refine Tot.ite (fun q => ?_) fun q => ?_
    · have q : i < L.length := by have := of_decide_eq_true q; omega
      have hsz := size_le (List.getElem_mem q)
      refine Tot.bind0 (idx_nat q) (Tot.bindq (tValid_tot (by omega)) fun r hr => ?_)
      subst hr
      rw [List.drop_eq_getElem_cons q, show firstBad (L[i] :: L.drop (i + 1)) (0 + i) = (if okS L[i] = true then firstBad (L.drop (i + 1)) (0 + i + 1) else some (0 + i)) from rfl] at hd
      refine Tot.ite (fun h => ?_) fun h => ?_
      · have h : okS L[i] = false := by cases hh : okS L[i] <;> rw [hh] at h <;> first | rfl | cases h
        refine Tot.bindq (tat_tot _ _) fun r hr => Tot.ret (.inl ⟨i, ?_, by rw [hr]⟩)
        rw [hd, h, Nat.zero_add]; rfl
      · have h : okS L[i] = true := by cases hh : okS L[i] <;> rw [hh] at h <;> first | rfl | cases h
        have h1 := sumB_take q
        have h2 := sumB_le (L := L) (i + 1)
        refine Tot.some_bind (Tot.ret ⟨⟨i + 1, ?_, q, fun j hj hji => ?_⟩, ?_⟩)
        · rw [iw (x := (sumB (L.take i) : Int) + ((L[i]).size : Int)) (n := sumB (L.take (i + 1))) (by omega) (by omega), iw (n := i + 1) (by omega) (by omega)]
        · rcases Nat.lt_or_ge j i with h' | h'
          · exact hall j hj h'
          · have : j = i := by omega
            subst this; exact h
        · dsimp only; rw [iw (n := i + 1) (by omega) (by omega)]; omega
    · have q : i = L.length := by have := of_decide_eq_false q; omega
      subst q
      rw [List.drop_length] at hd
      exact Tot.ret (.inr ⟨hd, by rw [List.take_length]⟩)
  · rcases hr with ⟨i, h, e⟩ | ⟨h, e⟩
    · subst e
      exact Tot.contr (by unfold joinR; rw [h])
    · subst e
      refine Tot.contl (Tot.bindq (tValid_tot hs) fun r hr => ?_)
      subst hr
      refine Tot.ite (fun g => ?_) fun g => ?_
      · have g : okS sep = false := by cases hh : okS sep <;> rw [hh] at g <;> first | rfl | cases g
        exact Tot.bindq (tat_tot _ _) fun r hr => Tot.ret (by unfold joinR; rw [h, hr]; simp only [g, if_true])
      · have g : okS sep = true := by cases hh : okS sep <;> rw [hh] at g <;> first | rfl | cases g
        dsimp only
        have hb : (L.length - 1) * sep.size ≤ 1048576 * 1048576 := Nat.mul_le_mul (by omega) hs
        have hmx : (if 0 < IntKind.i64.wrap (((L.length : Nat) : Int) - 1) then IntKind.i64.wrap (((L.length : Nat) : Int) - 1) else 0) = ((L.length - 1 : Nat) : Int) := by
          rw [i64_small (by omega) (by omega)]
          split <;> omega
        rw [hmx, ← Int.natCast_mul, iw (n := (L.length - 1) * sep.size) rfl (by omega), iw (n := sumB L + (L.length - 1) * sep.size) (by omega) (by omega)]
        refine Tot.ite (fun k => ?_) fun k => ?_
        · have k := of_decide_eq_true k
          exact Tot.bindq (tat_tot _ _) fun r hr => Tot.ret (by unfold joinR; rw [h, hr]; simp only [g]; rw [if_neg (by simp), if_pos (by omega)])
        · have k := of_decide_eq_false k
          unfold strings_Join
          have hll := lib_len (bytesOf sep) (L.map bytesOf)
          have hsum : ((L.map bytesOf).map List.length).sum = sumB L := by
            unfold sumB
            rw [List.map_map]
            refine congrArg List.sum (List.map_congr_left fun s _ => ?_)
            exact (size_bytes s).symm
          rw [hsum, List.length_map, ← size_bytes] at hll
          rw [if_pos ⟨by omega, by omega⟩]
          exact Tot.some_bind (Tot.ret (by unfold joinR; rw [h]; simp only [g]; rw [if_neg (by simp), if_neg (by omega)]))
theorem firstBad_none {L : List ByteArray} (h : ∀ s ∈ L, okS s = true) : firstBad L 0 = none := by
  have := firstBad_drop L 0 L.length (fun j hj _ => h _ (List.getElem_mem hj)) (Nat.le_refl _)
  rw [List.drop_length] at this; exact this
theorem sumB_strs (l : List (List Nat)) : sumB (strs l) = lenS (fun x => (enc x).length) l := by
  unfold sumB strs lenS
  rw [List.map_map]
  exact congrArg List.sum (List.map_congr_left fun x _ => size_str _)
theorem Join_strs {l : List (List Nat)} {w : List Nat} (hl : l ≠ []) (hs : ∀ x ∈ l, (∀ r ∈ x, Scal r) ∧ (enc x).length ≤ 4000) (hw : ∀ r ∈ w, Scal r) (hw2 : (enc w).length ≤ 4000) (hb : lenS (fun x => (enc x).length) l + l.length ≤ 1048576) :
    Tot (fun n => textstr_Join n (strs l) (strOf (enc w))) (fun r => r = if 4000 < (enc (jn w l)).length then (strOf [], (3, -1)) else (strOf (enc (jn w l)), (0, 0))) := by
  refine (Join_tot (by rw [sumB_strs]; unfold strs; rw [List.length_map]; exact hb) (by rw [size_str]; omega)).mono fun r hr => ?_
  have h1 : firstBad (strs l) 0 = none := firstBad_none fun s hs' => by
    obtain ⟨x, hx, e⟩ := List.mem_map.1 hs'
    rw [← e]; exact okS_enc (hs x hx).1 (hs x hx).2
  have h2 : ((strs l).map bytesOf) = l.map enc := by
    unfold strs
    rw [List.map_map]
    exact List.map_congr_left fun x _ => bytes_str _
  have h3 : sumB (strs l) + ((strs l).length - 1) * (strOf (enc w)).size = (enc (jn w l)).length := by
    have := jn_lenS (f := fun x => (enc x).length) (fun a b => by simp [enc_app]) w l hl
    have hlp := List.length_pos_iff.2 hl
    rw [sumB_strs, size_str]
    unfold strs
    rw [List.length_map]
    obtain ⟨m, hm⟩ : ∃ m, l.length = m + 1 := ⟨l.length - 1, by omega⟩
    rw [hm, Nat.succ_mul] at this
    rw [hm, Nat.add_sub_cancel]; omega
  rw [hr]
  unfold joinR
  rw [h1]
  simp only [okS_enc hw hw2]
  rw [if_neg (by simp), h3, h2, bytes_str, lib_jn]

theorem parts_small {q : List Nat} : ∀ (k : Nat) (p : List Nat), ∀ x ∈ partsK q k p, (enc x).length ≤ (enc p).length
  | 0, p, x, hx => by rw [List.mem_singleton.1 hx]; exact Nat.le_refl _
  | k + 1, p, x, hx => by
    cases hf : firstOcc q p with
    | none => rw [partsK_none hf] at hx; rw [List.mem_singleton.1 hx]; exact Nat.le_refl _
    | some i =>
      rw [partsK_some hf] at hx
      have e := congrArg (fun l => (enc l).length) (occ_parts hf).1
      simp only [enc_app, List.length_append] at e
      rcases List.mem_cons.1 hx with e2 | e2
      · rw [e2]; omega
      · have := parts_small k _ x e2
        omega
theorem fault3_bad {s t u : ByteArray} (h : ¬ (okS s = true ∧ okS t = true ∧ okS u = true)) : ∃ k : Int, faultL [s, t, u] 0 = (6, k) := by
  show ∃ k : Int, (if okS s = true then (if okS t = true then (if okS u = true then (0, 0) else (6, -1 - ((0 + 1 + 1 : Nat) : Int))) else (6, -1 - ((0 + 1 : Nat) : Int))) else (6, -1 - ((0 : Nat) : Int))) = (6, k)
  by_cases h1 : okS s = true
  · rw [if_pos h1]
    by_cases h2 : okS t = true
    · rw [if_pos h2, if_neg (fun h3 => h ⟨h1, h2, h3⟩)]; exact ⟨_, rfl⟩
    · rw [if_neg h2]; exact ⟨_, rfl⟩
  · rw [if_neg h1]; exact ⟨_, rfl⟩
theorem Replace_bad {s t u : ByteArray} {most k : Int} (hs : ∀ x ∈ [s, t, u], x.size ≤ 1048576) (h : faultL [s, t, u] 0 = (6, k)) : Tot (fun n => textstr_Replace n s t u most) (· = (strOf [], (6, k))) := by
  unfold textstr_Replace
  refine Tot.bindq (tcheck_tot (by simp) hs) fun r hr => ?_
  rw [h] at hr; subst hr
  exact Tot.it rfl (Tot.ret rfl)

theorem Replaced_tot {s t u : ByteArray} {most : Int} (hs : s.size ≤ 1048576) (ht : t.size ≤ 1048576) (hu : u.size ≤ 1048576) (hm : inK .i64 most) : Tot (fun n => law4_TextstrReplaced n s t u most) (· = true) := by
  have hss : ∀ x ∈ [s, t, u], x.size ≤ 1048576 := by simp; exact ⟨hs, ht, hu⟩
  unfold law4_TextstrReplaced
  by_cases hok : okS s = true ∧ okS t = true ∧ okS u = true
  · obtain ⟨p, hp, e, hl⟩ := okS_text hok.1
    obtain ⟨q, hq, e2, hl2⟩ := okS_text hok.2.1
    obtain ⟨w, hw, e3, hl3⟩ := okS_text hok.2.2
    subst e e2 e3
    refine Tot.bindq (Replace_tot hp hq hw hl hl2 hl3 hm) fun r1 h1 => Tot.bindq letters_tot fun x hx => ?_
    subst hx
    refine Tot.if_ rfl ?_
    by_cases hqe : q = []
    · rw [if_pos hqe] at h1; subst h1
      exact Tot.it rfl (Tot.ret (by rw [str_eq]; exact decide_eq_true rfl))
    · rw [if_neg hqe] at h1
      have hnum := parts_num (p := p) hqe most
      have hne := parts_ne q (kN q p most) p
      have hj := jn_parts (q := q) (kN q p most) p
      have hsc := parts_scal (q := q) (kN q p most) p hp
      have hsm := parts_small (q := q) (kN q p most) p
      have hcl := cN_le (p := p) hqe
      have hkc : kN q p most ≤ cN q p := by
        unfold kN
        by_cases g : most < 0
        · rw [if_pos g]; exact Nat.le_refl _
        · rw [if_neg g]; exact Nat.min_le_right _ _
      have hspl := Split_tot (most := most) hp hq hl hl2 hm
      generalize partsK q (kN q p most) p = L at h1 hnum hne hj hsc hsm hspl
      generalize hK : kN q p most = K at hnum hkc hspl
      have hpl := enc_len_ge p
      by_cases hbig : 4000 < (enc (jn w L)).length
      · rw [if_pos hbig] at h1; subst h1
        exact Tot.it rfl (Tot.ret (by rw [str_eq]; exact decide_eq_true rfl))
      · rw [if_neg hbig] at h1; subst h1
        refine Tot.if_ rfl (Tot.bindq hspl fun r2 h2 => Tot.bindq (rat_tot _ _) fun r3 h3 => ?_)
        subst h3
        rw [if_neg hqe] at h2
        by_cases hmany : 1000 < K + 1
        · rw [if_pos hmany] at h2; subst h2
          exact Tot.it rfl (Tot.ret rfl)
        · rw [if_neg hmany] at h2; subst h2
          refine Tot.if_ rfl ?_
          have jw := jn_lenS (f := fun x => (enc x).length) (fun a b => by simp [enc_app]) w L hne
          have jq := jn_lenS (f := fun x => (enc x).length) (fun a b => by simp [enc_app]) q L hne
          have pw := jn_lenS (f := List.length) (fun a b => by simp) w L hne
          have pq := jn_lenS (f := List.length) (fun a b => by simp) q L hne
          rw [hj] at jq pq
          have hlen : lenS (fun x => (enc x).length) L + L.length ≤ 1048576 := by
            have : lenS (fun x => (enc x).length) L ≤ (enc p).length + (enc q).length := by omega
            omega
          refine Tot.bindq (Join_strs hne (fun x hx => ⟨hsc x hx, Nat.le_trans (hsm x hx) hl⟩) hw hl3 hlen) fun r4 h4 => ?_
          rw [if_neg hbig] at h4; subst h4
          have hjs : ∀ r ∈ jn w L, Scal r := by
            have : ∀ (L : List (List Nat)), (∀ x ∈ L, ∀ r ∈ x, Scal r) → ∀ r ∈ jn w L, Scal r := by
              intro L
              induction L with
              | nil => intro _ r hr; cases hr
              | cons x L ih =>
                intro h r hr
                cases L with
                | nil => exact h x (by simp) r hr
                | cons y M =>
                  rw [jn_cons (by simp)] at hr
                  rcases List.mem_append.1 hr with g | g
                  · rcases List.mem_append.1 g with g | g
                    · exact h x (by simp) r g
                    · exact hw r g
                  · exact ih (fun z hz => h z (List.mem_cons_of_mem _ hz)) r g
            exact this L hsc
          refine Tot.bindq (Length_ok hp hl) fun r5 h5 => Tot.bindq (Length_ok hjs (by omega)) fun r6 h6 => Tot.bindq (Length_ok hq hl2) fun r7 h7 => Tot.bindq (Length_ok hw hl3) fun r8 h8 => ?_
          subst h5 h6 h7 h8
          refine Tot.bindq (P := fun j => j = true) ?_ fun j hj => Tot.ret hj
          refine Tot.it rfl (Tot.it rfl (Tot.it rfl (Tot.it rfl (Tot.it rfl (Tot.it rfl (Tot.it (by rw [str_eq]; exact decide_eq_true rfl) (Tot.some_bind (Tot.ret ?_))))))))
          dsimp only
          have hql := enc_len_ge q
          have hwl := enc_len_ge w
          have hjl := enc_len_ge (jn w L)
          have hLs : (strs L).length = K + 1 := by unfold strs; rw [List.length_map, hnum]
          rw [hLs]
          rw [hnum, Nat.succ_mul] at pw pq
          have b1 : K * w.length ≤ 4000 * 4000 := Nat.mul_le_mul (by omega) (by omega)
          have b2 : K * q.length ≤ 4000 * 4000 := Nat.mul_le_mul (by omega) (by omega)
          rw [i64_small (x := ((jn w L).length : Int) - (p.length : Int)) (by omega) (by omega), show IntKind.i64.wrap (((K + 1 : Nat) : Int) - 1) = (K : Int) by rw [i64_small (by omega) (by omega)]; omega,
            i64_small (x := (w.length : Int) - (q.length : Int)) (by omega) (by omega), Int.mul_sub, ← Int.natCast_mul, ← Int.natCast_mul, i64_small (by omega) (by omega)]
          exact beq_iff_eq.2 (by omega)
  · obtain ⟨k, hk⟩ := fault3_bad hok
    refine Tot.bindq (Replace_bad hss hk) fun r1 h1 => Tot.bindq letters_tot fun x hx => ?_
    subst hx h1
    exact Tot.if_ rfl (Tot.it rfl (Tot.ret (by rw [str_eq]; exact decide_eq_true rfl)))
theorem TextstrReplaced_said (s old w : ByteArray) (most : Int) (_ : s.size ≤ maxLen) (_ : old.size ≤ maxLen) (_ : w.size ≤ maxLen) (hm : inK .i64 most) (h : (s.size + 1) + ((old.size + 1) + ((w.size + 1) + 1)) ≤ 1048576) : Tot (fun n => law4_TextstrReplaced n s old w most) (· = true) := Replaced_tot (by omega) (by omega) (by omega) hm
end Go.Gv.R
