import Derived.Test.YtkmcegicngjhbaaDoorM6
set_option linter.all false
namespace Go.Gv.R
open Go Go.Gv Go.Gv.D Go.Lib

/-! the program's search -/
theorem CountA_tot {p q : List Nat} (hp : ∀ r ∈ p, Scal r) (hq : ∀ r ∈ q, Scal r) (hl : (enc p).length ≤ 4000) : Tot (fun n => strings_CountA n (strOf (enc p)) (strOf (enc q))) (fun r => r = if q = [] then ((p.length + 1 : Nat) : Int) else ((cutsK q p.length p 0).length : Int)) := by
  unfold strings_CountA
  have hpl := enc_len_ge p
  refine Tot.ite (fun h => ?_) fun h => ?_
  · have h : q = [] := by
      have h := beq_iff_eq.1 h
      have := enc_len_ge q
      rw [size_str] at h
      exact List.eq_nil_of_length_eq_zero (by omega)
    rw [if_pos h]
    exact Tot.bindq (RuneCount_tot hp (by omega)) fun r hr => Tot.ret (by rw [hr]; exact iw (by omega) (by omega))
  · have h : q ≠ [] := fun e => by subst e; rw [size_str] at h; simp [enc] at h
    have h1 := List.length_pos_iff.2 (enc_ne' h)
    unfold strings_Count
    rw [if_pos ⟨by rw [size_str]; omega, by rw [size_str]; exact h1⟩, if_neg h]
    refine Tot.ret ?_
    have := count_cuts h hq p.length p 0 (Nat.le_refl _) hp
    show ((Lib.count (bytesOf (strOf (enc p))) (bytesOf (strOf (enc q))) : Nat) : Int) = _
    rw [bytes_str, bytes_str, this]

end Go.Gv.R
namespace Go.Gv.R
open Go Go.Gv Go.Gv.D Go.Lib

/-! joined lists -/
def jn (w : List Nat) : List (List Nat) → List Nat
  | [] => []
  | [x] => x
  | x :: y :: r => x ++ w ++ jn w (y :: r)
theorem jn_cons {w x : List Nat} {l : List (List Nat)} (h : l ≠ []) : jn w (x :: l) = x ++ w ++ jn w l := by
  cases l with
  | nil => exact absurd rfl h
  | cons y r => rfl
theorem lib_cons {w x : List UInt8} {l : List (List UInt8)} (h : l ≠ []) : Lib.join (x :: l) w = x ++ w ++ Lib.join l w := by
  cases l with
  | nil => exact absurd rfl h
  | cons y r => simp [Lib.join, List.intercalate]
theorem lib_jn (w : List Nat) : ∀ l : List (List Nat), Lib.join (l.map enc) (enc w) = enc (jn w l)
  | [] => rfl
  | [x] => by simp [Lib.join, jn, List.intercalate]
  | x :: y :: r => by
    rw [List.map_cons, lib_cons (by simp), jn_cons (by simp), lib_jn w (y :: r), enc_app, enc_app]
theorem parts_ne (q : List Nat) (k : Nat) (p : List Nat) : partsK q k p ≠ [] := by
  intro e
  have := parts_len (q := q) k p 0
  rw [e] at this; simp at this
theorem jn_parts {q : List Nat} : ∀ (k : Nat) (p : List Nat), jn q (partsK q k p) = p
  | 0, p => rfl
  | k + 1, p => by
    cases h : firstOcc q p with
    | none => rw [partsK_none h]; rfl
    | some i => rw [partsK_some h, jn_cons (parts_ne q k _), jn_parts k, ← (occ_parts h).1]
/-- lengths: by points, and by bytes -/
def lenS (f : List Nat → Nat) (l : List (List Nat)) : Nat := (l.map f).sum
theorem jn_lenS {f : List Nat → Nat} (hf : ∀ a b, f (a ++ b) = f a + f b) (w : List Nat) : ∀ (l : List (List Nat)), l ≠ [] → f (jn w l) + f w = lenS f l + l.length * f w
  | [], h => absurd rfl h
  | [x], _ => by simp [jn, lenS]
  | x :: y :: r, _ => by
    have := jn_lenS hf w (y :: r) (by simp)
    rw [jn_cons (by simp), hf, hf]
    simp only [lenS, List.map_cons, List.sum_cons, List.length_cons, Nat.succ_mul] at this ⊢
    omega
/-- how many occurrences there are; how many are used -/
def cN (q p : List Nat) : Nat := (cutsK q p.length p 0).length
def kN (q p : List Nat) (most : Int) : Nat := if most < 0 then cN q p else min most.toNat (cN q p)
theorem cN_le {q p : List Nat} (hne : q ≠ []) : cN q p ≤ p.length := (cuts_le hne p.length p 0).2
theorem cuts_len_min {q p : List Nat} (hne : q ≠ []) (m : Nat) : (cutsK q m p 0).length = min m (cN q p) := by
  unfold cN
  rcases Nat.le_total m p.length with h | h
  · rw [← cuts_take m p.length p 0 h, List.length_take]
  · rw [cuts_more hne p.length p m 0 (Nat.le_refl _) h]
    have := (cuts_le hne p.length p 0).2
    omega
theorem parts_num {q p : List Nat} (hne : q ≠ []) (most : Int) : (partsK q (kN q p most) p).length = kN q p most + 1 := by
  rw [parts_len _ _ 0, cuts_len_min hne]
  unfold kN
  split <;> omega

/-! the program's divisions -/
theorem empty_str {q : List Nat} : ((strOf (enc q)).toList == (strOf []).toList) = decide (q = []) := by
  rw [str_eq]
  refine decide_eq_decide.2 ⟨fun h => ?_, fun h => by rw [h]; rfl⟩
  have := congrArg bytesOf h
  rw [bytes_str, bytes_str] at this
  cases q with
  | nil => rfl
  | cons c q => exact absurd this enc_ne
def strs (l : List (List Nat)) : List ByteArray := l.map fun x => strOf (enc x)
theorem Replace_tot {p q w : List Nat} {most : Int} (hp : ∀ r ∈ p, Scal r) (hq : ∀ r ∈ q, Scal r) (hw : ∀ r ∈ w, Scal r) (hl : (enc p).length ≤ 4000) (hl2 : (enc q).length ≤ 4000) (hl3 : (enc w).length ≤ 4000) (hm : inK .i64 most) :
    Tot (fun n => textstr_Replace n (strOf (enc p)) (strOf (enc q)) (strOf (enc w)) most) (fun r => r = if q = [] then (strOf [], (10, -2)) else if 4000 < (enc (jn w (partsK q (kN q p most) p))).length then (strOf [], (3, -1)) else (strOf (enc (jn w (partsK q (kN q p most) p))), (0, 0))) := by
  unfold textstr_Replace
  refine Tot.bindq (tcheck_tot (by simp) (by simp [size_str]; omega)) fun r hr => ?_
  rw [check_ok (by simp) (by simp; exact ⟨okS_enc hp hl, okS_enc hq hl2, okS_enc hw hl3⟩)] at hr; subst hr
  refine Tot.if_ rfl ?_
  rw [empty_str]
  refine Tot.ite (fun h => ?_) fun h => ?_
  · have h := of_decide_eq_true h
    exact Tot.bindq (tat_tot _ _) fun r hr => Tot.ret (by rw [if_pos h, hr])
  · have h := of_decide_eq_false h
    have hpl := enc_len_ge p
    have hc := cN_le (q := q) (p := p) h
    have hm := inK_i64 hm
    refine Tot.bindq (CountA_tot hp hq hl) fun r hr => ?_
    rw [if_neg h] at hr
    have hr : r = ((cN q p : Nat) : Int) := hr
    subst hr
    refine Tot.bindq (P := fun j => j = ((kN q p most : Nat) : Int)) ?_ fun j hj => ?_
    · refine Tot.ite (fun g => Tot.ret ?_) fun g => Tot.ret ?_
      · have g := of_decide_eq_true g
        have hk : kN q p most = min most.toNat (cN q p) := by unfold kN; rw [if_neg (by omega)]
        rw [hk]
        split <;> omega
      · have g := of_decide_eq_false g
        have hk : kN q p most = cN q p := by unfold kN; rw [if_pos (by omega)]
        rw [hk]
    subst hj
    have hk : kN q p most ≤ cN q p := by unfold kN; split <;> omega
    have hnum := parts_num (p := p) h most
    have j1 := jn_lenS (f := fun x => (enc x).length) (fun a b => by simp [enc_app]) w _ (parts_ne q (kN q p most) p)
    have j2 := jn_lenS (f := fun x => (enc x).length) (fun a b => by simp [enc_app]) q _ (parts_ne q (kN q p most) p)
    rw [jn_parts] at j2
    rw [hnum] at j1 j2
    rw [Nat.succ_mul] at j1 j2
    generalize hL : (enc (jn w (partsK q (kN q p most) p))).length = L at j1 ⊢
    generalize lenS _ _ = S at j1 j2
    have b1 : kN q p most * (enc w).length ≤ 4000 * 4000 := Nat.mul_le_mul (by omega) hl3
    have b2 : kN q p most * (enc q).length ≤ 4000 * 4000 := Nat.mul_le_mul (by omega) hl2
    have hsz : IntKind.i64.wrap (((strOf (enc p)).size : Int) + IntKind.i64.wrap ((kN q p most : Int) * IntKind.i64.wrap (((strOf (enc w)).size : Int) - ((strOf (enc q)).size : Int)))) = (L : Int) := by
      rw [size_str, size_str, size_str, i64_small (x := ((enc w).length : Int) - _) (by omega) (by omega), Int.mul_sub]
      rw [← Int.natCast_mul, ← Int.natCast_mul, i64_small (x := ((kN q p most * (enc w).length : Nat) : Int) - _) (by omega) (by omega), i64_small (by omega) (by omega)]
      omega
    rw [hsz]
    refine Tot.ite (fun g => ?_) fun g => ?_
    · have g := of_decide_eq_true g
      exact Tot.bindq (tat_tot _ _) fun r hr => Tot.ret (by rw [if_neg h, if_pos (by omega), hr])
    · have g := of_decide_eq_false g
      have hcb : Lib.count (enc p) (enc q) = cN q p := count_cuts h hq p.length p 0 (Nat.le_refl _) hp
      unfold strings_Replace
      have b3 : cN q p * (enc w).length ≤ 4000 * 4000 := Nat.mul_le_mul (by omega) hl3
      have hcb2 : Lib.countB (strOf (enc p)) (strOf (enc q)) = cN q p := by
        show Lib.count (bytesOf _) (bytesOf _) = _
        rw [bytes_str, bytes_str, hcb]
      rw [hcb2]
      rw [if_pos ⟨by rw [size_str]; omega, by rw [size_str]; exact List.length_pos_iff.2 (enc_ne' h), by rw [size_str, size_str]; omega⟩]
      refine Tot.some_bind (Tot.ret ?_)
      rw [if_neg h, if_neg (by omega), bytes_str, bytes_str, bytes_str]
      have : Lib.replace (enc p) (enc q) (enc w) ((kN q p most : Nat) : Int) = enc (jn w (partsK q (kN q p most) p)) := by
        unfold Lib.replace
        by_cases e : q = w
        · subst e
          rw [if_pos (beq_self_eq_true _), jn_parts]
        · rw [if_neg (by rw [beq_eq_false_iff_ne.2 (fun e2 => e (enc_inj hq hw e2))]; simp)]
          have hnm : Lib.replaceNum (enc p) (enc q) ((kN q p most : Nat) : Int) = kN q p most := by
            unfold Lib.replaceNum
            rw [hcb]
            split <;> omega
          rw [hnm, replace_parts h hq _ p hp, lib_jn]
      rw [this]
end Go.Gv.R
namespace Go.Gv.R
open Go Go.Gv Go.Gv.D Go.Lib

def sumB (L : List ByteArray) : Nat := (L.map ByteArray.size).sum
def firstBad : List ByteArray → Nat → Option Nat
  | [], _ => none
  | s :: l, i => if okS s = true then firstBad l (i + 1) else some i
theorem firstBad_drop : ∀ (l : List ByteArray) (k i : Nat), (∀ j (h : j < l.length), j < i → okS l[j] = true) → i ≤ l.length → firstBad l k = firstBad (l.drop i) (k + i)
  | _, k, 0, _, _ => rfl
  | [], k, i + 1, _, h => absurd h (by simp)
  | s :: l, k, i + 1, h, hi => by
    have h0 := h 0 (by simp) (by omega)
    simp only [List.getElem_cons_zero] at h0
    show (if okS s = true then firstBad l (k + 1) else some k) = _
    rw [if_pos h0, List.drop_succ_cons, firstBad_drop l (k + 1) i (fun j hj hji => by have := h (j + 1) (by simpa using hj) (by omega); simpa using this) (by simpa using hi), show k + 1 + i = k + (i + 1) by omega]
theorem lib_len (w : List UInt8) : ∀ l : List (List UInt8), (Lib.join l w).length = (l.map List.length).sum + (l.length - 1) * w.length
  | [] => by simp [Lib.join]
  | [x] => by simp [Lib.join, List.intercalate]
  | x :: y :: r => by
    rw [lib_cons (by simp), List.length_append, List.length_append, lib_len w (y :: r)]
    simp only [List.map_cons, List.sum_cons, List.length_cons, Nat.add_sub_cancel, Nat.succ_mul]
    omega
theorem sumB_take {L : List ByteArray} {i : Nat} (h : i < L.length) : sumB (L.take (i + 1)) = sumB (L.take i) + L[i].size := by
  unfold sumB
  rw [List.take_succ_eq_append_getElem h, List.map_append, List.sum_append]
  simp
theorem sumB_le {L : List ByteArray} (i : Nat) : sumB (L.take i) ≤ sumB L := by
  have := congrArg sumB (List.take_append_drop i L)
  unfold sumB at this ⊢
  rw [List.map_append, List.sum_append] at this; omega
theorem size_le {L : List ByteArray} {s : ByteArray} (h : s ∈ L) : s.size ≤ sumB L := by
  obtain ⟨a, b, e⟩ := List.append_of_mem h
  subst e
  unfold sumB
  simp; omega
def joinR (L : List ByteArray) (sep : ByteArray) : ByteArray × (Int × Int) := match firstBad L 0 with
  | some i => (strOf [], (6, (i : Int)))
  | none => if okS sep = false then (strOf [], (6, -2)) else if 4000 < sumB L + (L.length - 1) * sep.size then (strOf [], (3, -1)) else (strOf (Lib.join (L.map bytesOf) (bytesOf sep)), (0, 0))
theorem Join_tot {L : List ByteArray} {sep : ByteArray} (hL : sumB L + L.length ≤ 1048576) (hs : sep.size ≤ 1048576) : Tot (fun n => textstr_Join n L sep) (· = joinR L sep) := by
  unfold textstr_Join
  refine Tot.bindq (P := fun r => (∃ i, firstBad L 0 = some i ∧ r = .inr (strOf [], (6, (i : Int)))) ∨ (firstBad L 0 = none ∧ r = .inl ((sumB L : Int), (0, 0)))) ?_ fun r hr => ?_
  · refine Tot.loop (fun st => ∃ i : Nat, st = ((sumB (L.take i) : Int), (i : Int), (0, 0)) ∧ i ≤ L.length ∧ ∀ j (h : j < L.length), j < i → okS L[j] = true) (fun st => L.length - st.2.1.toNat) ⟨0, rfl, Nat.zero_le _, fun j _ h => absurd h (Nat.not_lt_zero _)⟩ fun st ⟨i, e, hi, hall⟩ => ?_
    subst e
    have hd := firstBad_drop L 0 i hall hi
    dsimp only
    refine Tot.ite (fun q => ?_) fun q => ?_
    · have q : i < L.length := by have := of_decide_eq_true q; omega
      have hsz := size_le (List.getElem_mem q)
      refine Tot.bind0 (idx_nat q) (Tot.bindq (tValid_tot (by omega)) fun r hr => ?_)
      subst hr
      rw [List.drop_eq_getElem_cons q, show firstBad (L[i] :: L.drop (i + 1)) (0 + i) = (if okS L[i] = true then firstBad (L.drop (i + 1)) (0 + i + 1) else some (0 + i)) from rfl] at hd
      refine Tot.ite (fun h => ?_) fun h => ?_
      · have h : okS L[i] = false := by cases hh : okS L[i] <;> rw [hh] at h <;> first | rfl | cases h
        refine Tot.bindq (tat_tot _ _) fun r hr => Tot.ret (.inl ⟨i, ?_, by rw [hr]⟩)
        rw [hd, h, Nat.zero_add]; rfl
      · have h : okS L[i] = true := by cases hh : okS L[i] <;> rw [hh] at h <;> first | rfl | cases h
        have h1 := sumB_take q
        have h2 := sumB_le (L := L) (i + 1)
        refine Tot.some_bind (Tot.ret ⟨⟨i + 1, ?_, q, fun j hj hji => ?_⟩, ?_⟩)
        · rw [iw (x := (sumB (L.take i) : Int) + ((L[i]).size : Int)) (n := sumB (L.take (i + 1))) (by omega) (by omega), iw (n := i + 1) (by omega) (by omega)]
        · rcases Nat.lt_or_ge j i with h' | h'
          · exact hall j hj h'
          · have : j = i := by omega
            subst this; exact h
        · dsimp only; rw [iw (n := i + 1) (by omega) (by omega)]; omega
    · have q : i = L.length := by have := of_decide_eq_false q; omega
      subst q
      rw [List.drop_length] at hd
      exact Tot.ret (.inr ⟨hd, by rw [List.take_length]⟩)
  · rcases hr with ⟨i, h, e⟩ | ⟨h, e⟩
    · subst e
      exact Tot.contr (by unfold joinR; rw [h])
    · subst e
      refine Tot.contl (Tot.bindq (tValid_tot hs) fun r hr => ?_)
      subst hr
      refine Tot.ite (fun g => ?_) fun g => ?_
      · have g : okS sep = false := by cases hh : okS sep <;> rw [hh] at g <;> first | rfl | cases g
        exact Tot.bindq (tat_tot _ _) fun r hr => Tot.ret (by unfold joinR; rw [h, hr]; simp only [g, if_true])
      · have g : okS sep = true := by cases hh : okS sep <;> rw [hh] at g <;> first | rfl | cases g
        dsimp only
        have hb : (L.length - 1) * sep.size ≤ 1048576 * 1048576 := Nat.mul_le_mul (by omega) hs
        have hmx : (if 0 < IntKind.i64.wrap (((L.length : Nat) : Int) - 1) then IntKind.i64.wrap (((L.length : Nat) : Int) - 1) else 0) = ((L.length - 1 : Nat) : Int) := by
          rw [i64_small (by omega) (by omega)]
          split <;> omega
        rw [hmx, ← Int.natCast_mul, iw (n := (L.length - 1) * sep.size) rfl (by omega), iw (n := sumB L + (L.length - 1) * sep.size) (by omega) (by omega)]
        refine Tot.ite (fun k => ?_) fun k => ?_
        · have k := of_decide_eq_true k
          exact Tot.bindq (tat_tot _ _) fun r hr => Tot.ret (by unfold joinR; rw [h, hr]; simp only [g]; rw [if_neg (by simp), if_pos (by omega)])
        · have k := of_decide_eq_false k
          unfold strings_Join
          have hll := lib_len (bytesOf sep) (L.map bytesOf)
          have hsum : ((L.map bytesOf).map List.length).sum = sumB L := by
            unfold sumB
            rw [List.map_map]
            refine congrArg List.sum (List.map_congr_left fun s _ => ?_)
            exact (size_bytes s).symm
          rw [hsum, List.length_map, ← size_bytes] at hll
          rw [if_pos ⟨by omega, by omega⟩]
          exact Tot.some_bind (Tot.ret (by unfold joinR; rw [h]; simp only [g]; rw [if_neg (by simp), if_neg (by omega)]))
theorem parts_small {q : List Nat} : ∀ (k : Nat) (p : List Nat), ∀ x ∈ partsK q k p, (enc x).length ≤ (enc p).length
  | 0, p, x, hx => by rw [List.mem_singleton.1 hx]; exact Nat.le_refl _
  | k + 1, p, x, hx => by
    cases hf : firstOcc q p with
    | none => rw [partsK_none hf] at hx; rw [List.mem_singleton.1 hx]; exact Nat.le_refl _
    | some i =>
      rw [partsK_some hf] at hx
      have e := congrArg (fun l => (enc l).length) (occ_parts hf).1
      simp only [enc_app, List.length_append] at e
      rcases List.mem_cons.1 hx with e2 | e2
      · rw [e2]; omega
      · have := parts_small k _ x e2
        omega
theorem fault3_bad {s t u : ByteArray} (h : ¬ (okS s = true ∧ okS t = true ∧ okS u = true)) : ∃ k : Int, faultL [s, t, u] 0 = (6, k) := by
  show ∃ k : Int, (if okS s = true then (if okS t = true then (if okS u = true then (0, 0) else (6, -1 - ((0 + 1 + 1 : Nat) : Int))) else (6, -1 - ((0 + 1 : Nat) : Int))) else (6, -1 - ((0 : Nat) : Int))) = (6, k)
  by_cases h1 : okS s = true
  · rw [if_pos h1]
    by_cases h2 : okS t = true
    · rw [if_pos h2, if_neg (fun h3 => h ⟨h1, h2, h3⟩)]; exact ⟨_, rfl⟩
    · rw [if_neg h2]; exact ⟨_, rfl⟩
  · rw [if_neg h1]; exact ⟨_, rfl⟩
theorem Replace_bad {s t u : ByteArray} {most k : Int} (hs : ∀ x ∈ [s, t, u], x.size ≤ 1048576) (h : faultL [s, t, u] 0 = (6, k)) : Tot (fun n => textstr_Replace n s t u most) (· = (strOf [], (6, k))) := by
  unfold textstr_Replace
  refine Tot.bindq (tcheck_tot (by simp) hs) fun r hr => ?_
  rw [h] at hr; subst hr
  exact Tot.it rfl (Tot.ret rfl)

end Go.Gv.R
namespace Go.Gv.R
open Go Go.Gv Go.Gv.D Go.Lib

/-! occurrences from the end -/
/-! as many from the end as from the beginning -/
theorem jn_snoc {w x : List Nat} : ∀ {l : List (List Nat)}, l ≠ [] → jn w (l ++ [x]) = jn w l ++ w ++ x
  | [], h => absurd rfl h
  | [y], _ => rfl
  | y :: z :: r, _ => by
    rw [List.cons_append, jn_cons (by simp), jn_snoc (l := z :: r) (by simp), jn_cons (l := z :: r) (by simp)]
    simp
end Go.Gv.R

