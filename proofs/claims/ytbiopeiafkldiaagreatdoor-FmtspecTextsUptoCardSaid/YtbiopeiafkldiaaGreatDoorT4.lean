import Derived.Test.YtbiopeiafkldiaaGreatDoorT3
set_option linter.all false
namespace Go.Gv.P
open Go Go.Gv Go.Gv.D Go.Gv.R Go.Lib
set_option maxRecDepth 100000

def hdC (S : List UInt8) (l : List Nat) : Bool := match l with | c :: _ => inC S c | [] => false
theorem tk_hd (S : List UInt8) (l : List Nat) : tk S l = if hdC S l then (l.headD 0, l.tail) else (0, l) := by
  cases l with
  | nil => rfl
  | cons c r => rfl
theorem drop_head {p : List Nat} {a : Nat} (h : a < p.length) : p.drop a = p[a] :: p.drop (a + 1) := List.drop_eq_getElem_cons h
theorem isAt_tot {S : List UInt8} (hS : SetOk S) {p : List Nat} (hp : ∀ r ∈ p, Scal r) (a : Nat) : Tot (fun n => ref4_isAt n (ints p) (a : Int) (strOf S)) (· = hdC S (p.drop a)) := by
  unfold ref4_isAt
  refine Tot.bindq (P := (· = hdC S (p.drop a))) ?_ fun j hj => Tot.ret hj
  rw [ints_len]
  refine Tot.ite (fun h => ?_) (fun h => ?_)
  · have h : a < p.length := by have := of_decide_eq_true h; omega
    rw [drop_head h]
    refine Tot.bind0 (ints_get h) (Tot.ite (fun h2 => ?_) (fun h2 => Tot.ret ?_))
    · have h2 : p[a] < 128 := by have := of_decide_eq_true h2; omega
      refine Tot.bind0 (ints_get h) ?_
      rw [u8_small (by omega) (by omega), show ((p[a] : Nat) : Int) = (((UInt8.ofNat p[a]).toNat : Nat) : Int) by rw [ofNat_toNat' h2]]
      refine Tot.bindq (one_tot hS _) fun r hr => Tot.ret ?_
      rw [hr]; simp only [hdC, inC, decide_eq_true h2, Bool.true_and]
    · have h2 : ¬ p[a] < 128 := by have := of_decide_eq_false h2; omega
      simp only [hdC, inC, decide_eq_false h2, Bool.false_and]
  · have h : p.length ≤ a := by have := of_decide_eq_false h; omega
    rw [List.drop_of_length_le h]
    exact Tot.ret rfl
theorem taken_tot {S : List UInt8} (hS : SetOk S) {p : List Nat} (hp : ∀ r ∈ p, Scal r) (hz : p.length ≤ 1000) {a : Nat} (ha : a ≤ p.length) :
    Tot (fun n => ref4_taken n (ints p) (a : Int) (strOf S)) (fun r => ∃ a' : Nat, r = (((tk S (p.drop a)).1 : Int), (a' : Int)) ∧ p.drop a' = (tk S (p.drop a)).2 ∧ a' ≤ p.length) := by
  unfold ref4_taken
  refine Tot.bindq (isAt_tot hS hp a) fun r hr => ?_
  subst hr
  rw [tk_hd]
  cases hc : hdC S (p.drop a)
  · exact Tot.it rfl (Tot.ret ⟨a, rfl, rfl, ha⟩)
  · have h : a < p.length := by
      rcases Nat.lt_or_ge a p.length with h | h
      · exact h
      · rw [List.drop_of_length_le h] at hc; cases hc
    have hc' := hc
    rw [drop_head h] at hc'
    have h128 : p[a] < 128 := by
      simp only [hdC, inC, Bool.and_eq_true, decide_eq_true_eq] at hc'; exact hc'.1
    refine Tot.if_ rfl (Tot.bind0 (ints_get h) (Tot.ret ⟨a + 1, ?_, ?_, h⟩))
    · rw [u8_small (by omega) (by omega), i64_small (by omega) (by omega), drop_head h]; rfl
    · rw [drop_head h]; rfl
theorem twN_dwN (l : List Nat) : twN l ++ dwN l = l := List.takeWhile_append_dropWhile
theorem twN_dg : ∀ {l : List Nat} {c : Nat}, c ∈ twN l → dgN c = true
  | [], c, h => by cases h
  | d :: r, c, h => by
    unfold twN at h
    rw [List.takeWhile_cons] at h
    split at h
    · rename_i hd
      rcases List.mem_cons.1 h with e | e
      · rw [e]; exact hd
      · exact twN_dg (l := r) e
    · cases h
theorem dwN_head : ∀ {l : List Nat} {c : Nat} {t : List Nat}, dwN l = c :: t → dgN c = false
  | [], c, t, h => by cases h
  | d :: r, c, t, h => by
    unfold dwN at h
    rw [List.dropWhile_cons] at h
    split at h
    · exact dwN_head (l := r) h
    · rename_i hd
      cases h; exact Bool.eq_false_iff.2 hd
theorem dg_range {c : Nat} (h : dgN c = true) : 48 ≤ c ∧ c ≤ 57 := by simpa [dgN] using h
theorem val_snoc {l : List Nat} {c : Nat} (h : dgN c = true) : valN 0 (enc (l ++ [c])) = 10 * valN 0 (enc l) + (c - 48) := by
  have hc := dg_range h
  rw [enc_app, show enc [c] = [UInt8.ofNat c] by rw [enc_cons, encR1 (by omega)]; rfl, valN_snoc, ofNat_toNat' (by omega)]
theorem digitsAt_tot {p : List Nat} (hz : p.length ≤ 1000) {a : Nat} (ha : a ≤ p.length) :
    Tot (fun n => ref4_digitsAt n (ints p) (a : Int)) (· = (((min (valN 0 (enc (twN (p.drop a)))) 401 : Nat) : Int), (((twN (p.drop a)).length : Nat) : Int))) := by
  unfold ref4_digitsAt
  have happ := twN_dwN (p.drop a)
  have hT : ∀ c ∈ twN (p.drop a), dgN c = true := fun c hc => twN_dg hc
  have hW : ∀ c t, dwN (p.drop a) = c :: t → dgN c = false := fun c t h => dwN_head h
  generalize twN (p.drop a) = T at *
  generalize dwN (p.drop a) = W at *
  have hlen : T.length + W.length = p.length - a := by rw [← List.length_append, happ, List.length_drop]
  have hget : ∀ (j : Nat) (h : j < T.length), ∃ hlt : a + j < p.length, p[a + j] = T[j] := fun j h => by
    have hlt : a + j < p.length := by omega
    have h1 : (p.drop a)[j]? = T[j]? := by rw [← happ, List.getElem?_append_left h]
    rw [List.getElem?_drop, List.getElem?_eq_getElem hlt, List.getElem?_eq_getElem h] at h1
    exact ⟨hlt, Option.some.inj h1⟩
  refine Tot.bindq (P := (· = (((min (valN 0 (enc T)) 401 : Nat) : Int), ((T.length : Nat) : Int)))) ?_ fun j hj => Tot.ret (by rw [hj])
  refine Tot.loop (fun st : Int × Int => ∃ j : Nat, j ≤ T.length ∧ st = (((min (valN 0 (enc (T.take j))) 401 : Nat) : Int), (j : Int))) (fun st => T.length - st.2.toNat) ⟨0, Nat.zero_le _, rfl⟩ fun st ⟨j, hj, e⟩ => ?_
  subst e
  have haj : IntKind.i64.wrap ((a : Int) + (j : Int)) = ((a + j : Nat) : Int) := by rw [i64_small (by omega) (by omega)]; omega
  simp only [haj, ints_len]
  refine Tot.bindq (P := (· = decide (j < T.length))) ?_ fun b hb => ?_
  · rcases Nat.lt_or_ge j T.length with h | h
    · obtain ⟨hlt, hg⟩ := hget j h
      have hd := dg_range (hT _ (List.getElem_mem h))
      rw [← hg] at hd
      rw [decide_eq_true h]
      exact Tot.it (decide_eq_true (by omega)) (Tot.bind0 (ints_get hlt) (Tot.it (decide_eq_true (by omega)) (Tot.bind0 (ints_get hlt) (Tot.ret (decide_eq_true (by omega))))))
    · have hn : ¬ j < T.length := by omega
      rw [decide_eq_false hn]
      refine Tot.ite (fun hh => ?_) (fun _ => Tot.ret rfl)
      have hlt : a + j < p.length := by have := of_decide_eq_true hh; omega
      have h1 : (p.drop a)[j]? = W[0]? := by rw [← happ, List.getElem?_append_right h]; congr 1; omega
      rw [List.getElem?_drop, List.getElem?_eq_getElem hlt] at h1
      cases hdw : W with
      | nil => rw [hdw] at h1; cases h1
      | cons c t =>
        rw [hdw] at h1
        have hc := hW c t hdw
        have e : p[a + j] = c := by simpa using h1
        have hn2 : ¬ (48 ≤ c ∧ c ≤ 57) := fun ⟨x, y⟩ => by rw [dgN, decide_eq_true x, decide_eq_true y] at hc; cases hc
        refine Tot.bind0 (ints_get hlt) (Tot.ite (fun h2 => ?_) (fun _ => Tot.ret rfl))
        have h2 := of_decide_eq_true h2
        exact Tot.bind0 (ints_get hlt) (Tot.ret (decide_eq_false (by omega)))
  subst hb
  refine Tot.ite (fun h => ?_) (fun h => ?_)
  · have h := of_decide_eq_true h
    obtain ⟨hlt, hg⟩ := hget j h
    have hdd := hT _ (List.getElem_mem h)
    have hd := dg_range hdd
    have hv := val_snoc (l := T.take j) hdd
    have htk : T.take (j + 1) = T.take j ++ [T[j]] := by simp
    rw [← htk] at hv
    refine Tot.bind0 (ints_get hlt) (Tot.some_bind ?_)
    rw [hg]
    generalize valN 0 (enc (T.take j)) = v at *
    have hw : IntKind.i64.wrap (IntKind.i64.wrap (IntKind.i64.wrap (10 * ((min v 401 : Nat) : Int)) + ((T[j] : Nat) : Int)) - 48) = ((10 * min v 401 + (T[j] - 48) : Nat) : Int) := by
      rw [i64_small (x := 10 * _) (by omega) (by omega), i64_small (x := _ + _) (by omega) (by omega), i64_small (by omega) (by omega)]; omega
    rw [hw]
    refine Tot.bindq (P := (· = ((min (valN 0 (enc (T.take (j + 1)))) 401 : Nat) : Int))) ?_ fun x hx => ?_
    · rw [hv]
      refine Tot.ite (fun h => Tot.ret ?_) (fun h => Tot.ret ?_)
      · have := of_decide_eq_true h; omega
      · have := of_decide_eq_false h; omega
    · subst hx
      refine Tot.ret ⟨⟨j + 1, h, ?_⟩, ?_⟩
      · rw [i64_small (by omega) (by omega)]; rfl
      · rw [i64_small (by omega) (by omega)]
        show T.length - ((j : Int) + 1).toNat < T.length - ((j : Int)).toNat
        omega
  · have h := of_decide_eq_false h
    refine Tot.ret ?_
    rw [show j = T.length by omega, List.take_length]
end Go.Gv.P

