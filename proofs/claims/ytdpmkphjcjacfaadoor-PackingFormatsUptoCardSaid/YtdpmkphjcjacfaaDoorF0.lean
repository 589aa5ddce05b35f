import Derived.Test.YtdpmkphjcjacfaaDoorL1
import Derived.Test.YtdpmkphjcjacfaaDoorGo
set_option linter.all false
namespace Go.Gv.P
open Go Go.Gv Go.Gv.D
set_option maxRecDepth 100000
theorem packs_tot : Tot (fun n => law4_packs n) (· = true) := Tot.of_all 60 (fun k => by kernel_rfl) rfl
end Go.Gv.P
namespace Go.Gv.P
open Go Go.Gv Go.Gv.D Go.Gv.R
set_option maxRecDepth 100000

/-! ### numerals, codes -/
def dg (b : UInt8) : Bool := decide (48 ≤ b.toNat) && decide (b.toNat ≤ 57)
def valN (acc : Nat) : List UInt8 → Nat
  | [] => acc
  | c :: r => valN (10 * acc + (c.toNat - 48)) r
theorem valN_ge : ∀ (l : List UInt8) (acc : Nat), acc ≤ valN acc l
  | [], _ => Nat.le_refl _
  | c :: r, acc => by
    have := valN_ge r (10 * acc + (c.toNat - 48))
    show acc ≤ valN (10 * acc + (c.toNat - 48)) r
    omega
theorem valN_snoc : ∀ (l : List UInt8) (acc : Nat) (c : UInt8), valN acc (l ++ [c]) = 10 * valN acc l + (c.toNat - 48)
  | [], _, _ => rfl
  | d :: r, acc, c => valN_snoc r (10 * acc + (d.toNat - 48)) c
theorem parse_dg : ∀ (l : List UInt8) (acc : Nat), (∀ b ∈ l, dg b = true) → Lib.parseUint10 acc l = .ok (valN acc l) ∨ (Lib.parseUint10 acc l = .range ∧ 9223372036854775808 ≤ valN acc l)
  | [], acc, _ => .inl rfl
  | c :: r, acc, h => by
    have hc : 48 ≤ c.toNat ∧ c.toNat ≤ 57 := by
      have := h c (List.mem_cons_self ..)
      simpa [dg] using this
    have hg := valN_ge r (10 * acc + (c.toNat - 48))
    have e : Lib.parseUint10 acc (c :: r) = if 1844674407370955162 ≤ acc then .range else if 18446744073709551616 ≤ acc * 10 + (c.toNat - 48) then .range else Lib.parseUint10 (acc * 10 + (c.toNat - 48)) r := by
      rw [Lib.parseUint10, if_pos hc]
    rw [e]
    show _ ∨ (_ ∧ 9223372036854775808 ≤ valN (10 * acc + (c.toNat - 48)) r)
    by_cases h1 : 1844674407370955162 ≤ acc
    · rw [if_pos h1]
      exact .inr ⟨rfl, by omega⟩
    rw [if_neg h1]
    by_cases h2 : 18446744073709551616 ≤ acc * 10 + (c.toNat - 48)
    · rw [if_pos h2]
      exact .inr ⟨rfl, by omega⟩
    rw [if_neg h2, Nat.mul_comm]
    exact parse_dg r _ fun b hb => h b (List.mem_cons_of_mem _ hb)
theorem atoi_dg {l : List UInt8} (h : ∀ b ∈ l, dg b = true) (hl : l ≠ []) : (Lib.atoiAll l = .ok (valN 0 l : Int)) ∨ (Lib.atoiAll l = .range ∧ 9223372036854775808 ≤ valN 0 l) := by
  cases l with
  | nil => exact absurd rfl hl
  | cons c r =>
    have hc : 48 ≤ c.toNat ∧ c.toNat ≤ 57 := by
      have := h c (List.mem_cons_self ..)
      simpa [dg] using this
    have hm : Lib.parseMag (c :: r) = Lib.parseUint10 0 (c :: r) := by unfold Lib.parseMag; rw [if_neg (by simp)]
    unfold Lib.atoiAll
    simp only
    rw [if_neg (show ¬ (c.toNat = 43 ∨ c.toNat = 45) by omega), hm]
    rcases parse_dg (c :: r) 0 h with e | ⟨e, e2⟩
    · rw [e]
      simp only
      have hn : ¬ c.toNat = 45 := by omega
      by_cases hb : 9223372036854775808 ≤ valN 0 (c :: r)
      · rw [if_pos ⟨hn, hb⟩]
        exact .inr ⟨rfl, hb⟩
      · rw [if_neg (by omega), if_neg (by omega)]
        rw [if_neg hn]; exact .inl rfl
    · rw [e]
      exact .inr ⟨rfl, e2⟩

def cds : List UInt8 := [98, 66, 104, 72, 105, 73, 113, 81, 118, 115, 112, 120, 63]
def isC (n : Nat) : Bool := cds.contains n.toUInt8
theorem ib_codes (x : UInt8) : decide (nIdxB (bytesOf (strOf cds)) (x.toNat : Int) < 0) = !isC x.toNat :=
  beq_iff_eq.1 (byte_all (p := fun n => decide (nIdxB (bytesOf (strOf cds)) (n : Int) < 0) == !isC n) (by kernel_rfl) x)
theorem IndexByte_tot (x : UInt8) : Tot (fun n => strings_IndexByte n (strOf cds) (x.toNat : Int)) (fun r => decide (r < 0) = !isC x.toNat) := by
  unfold strings_IndexByte stringslite_IndexByte
  exact Tot.ret (ib_codes x)
theorem oneOf_all (k : Nat) : (List.range 256).all (fun n => ref4_oneOf (k + 20) (n : Int) (strOf cds) == some (isC n)) = true := by kernel_rfl
theorem oneOf_tot (x : UInt8) : Tot (fun n => ref4_oneOf n (x.toNat : Int) (strOf cds)) (· = isC x.toNat) :=
  Tot.of_all 20 (fun k => beq_iff_eq.1 (byte_all (p := fun n => ref4_oneOf (k + 20) (n : Int) (strOf cds) == some (isC n)) (oneOf_all k) x)) rfl
theorem tens (x : UInt8) : ([48, 49, 50, 51, 52, 53, 54, 55, 56, 57] : List UInt8).contains x = dg x :=
  by
    have := beq_iff_eq.1 (byte_all (p := fun n => ([48, 49, 50, 51, 52, 53, 54, 55, 56, 57] : List UInt8).contains n.toUInt8 == (decide (48 ≤ n) && decide (n ≤ 57))) (by kernel_rfl) x)
    rw [show x.toNat.toUInt8 = x from UInt8.ofNat_toNat] at this
    exact this
def tw (L : List UInt8) : List UInt8 := L.takeWhile dg
def dw (L : List UInt8) : List UInt8 := L.dropWhile dg
theorem tw_dw (L : List UInt8) : tw L ++ dw L = L := List.takeWhile_append_dropWhile
theorem tw_dg (L : List UInt8) : ∀ b ∈ tw L, dg b = true := fun b hb => by
  have : ∀ (M : List UInt8), ∀ b ∈ M.takeWhile dg, dg b = true := by
    intro M
    induction M with
    | nil => intro b hb; simp at hb
    | cons c r ih =>
      intro b hb
      simp only [List.takeWhile_cons] at hb
      split at hb
      · rcases List.mem_cons.1 hb with e | e
        · subst e; assumption
        · exact ih b e
      · simp at hb
  exact this L b hb
theorem dw_head {L : List UInt8} {c : UInt8} {t : List UInt8} (h : dw L = c :: t) : dg c = false := by
  have : ∀ (M : List UInt8), M.dropWhile dg = c :: t → dg c = false := by
    intro M
    induction M with
    | nil => intro h; simp at h
    | cons d r ih =>
      intro h
      simp only [List.dropWhile_cons] at h
      split at h
      · exact ih h
      · cases h; simpa using ‹¬ dg c = true›
  exact this L h
theorem tw_take (L : List UInt8) : L.take (tw L).length = tw L := by
  have := List.take_left (l₁ := tw L) (l₂ := dw L)
  rwa [tw_dw] at this
theorem tw_drop (L : List UInt8) : L.drop (tw L).length = dw L := by
  have := List.drop_left (l₁ := tw L) (l₂ := dw L)
  rwa [tw_dw] at this
theorem tw_len (L : List UInt8) : (tw L).length + (dw L).length = L.length := by
  rw [← List.length_append, tw_dw]

/-- packing.number -/
theorem number_tot {L : List UInt8} (hl : L.length ≤ 1048576) : Tot (fun n => packing_number n (strOf L)) (fun r => r = if tw L = [] then (-1, strOf L) else (((min (valN 0 (tw L)) 101 : Nat) : Int), strOf (dw L))) := by
  unfold packing_number
  have hlen := tw_len L
  have h1 : ∀ n, strings_TrimLeft n (strOf L) (strOf [48, 49, 50, 51, 52, 53, 54, 55, 56, 57]) = some (strOf (dw L)) := fun n => by
    unfold strings_TrimLeft
    rw [if_pos ⟨by rw [size_str]; decide, by rfl⟩, bytes_str, bytes_str]
    congr 2
    unfold Lib.trimLeftS dw
    congr 1
    funext x
    exact tens x
  refine Tot.bindq (P := (· = strOf (dw L))) ⟨_, rfl, 0, fun n _ => h1 n⟩ fun r hr => ?_
  subst hr
  rw [size_str, size_str, i64_small (by omega) (by omega), show ((L.length : Int) - ((dw L).length : Int)) = ((tw L).length : Int) by omega]
  refine Tot.some_bind ?_
  by_cases h0 : tw L = []
  · rw [if_pos h0]
    refine Tot.it (by rw [h0]; rfl) (Tot.ret rfl)
  rw [if_neg h0]
  have hp : 0 < (tw L).length := List.length_pos_iff.2 h0
  refine Tot.if_ (by simpa using h0) ?_
  refine Tot.bind0 (ssub_str (i := 0) (by omega) (by omega)) ?_
  rw [List.drop_zero, tw_take]
  refine Tot.bindq (P := fun r : Int × Bool => (r = (((valN 0 (tw L) : Nat) : Int), false)) ∨ (r.2 = true ∧ 101 ≤ valN 0 (tw L))) ?_ fun r hr => ?_
  · unfold strconv_Atoi
    rw [if_pos (by rw [size_str]; omega), bytes_str]
    rcases atoi_dg (tw_dg L) h0 with e | ⟨e, e2⟩
    · rw [e]; exact Tot.ret (.inl rfl)
    · rw [e]; exact Tot.ret (.inr ⟨rfl, by omega⟩)
  · refine Tot.bindq (P := fun b => b = decide (101 ≤ valN 0 (tw L))) ?_ fun b hb => ?_
    · rcases hr with e | ⟨e, e2⟩
      · subst e
        refine Tot.if_ rfl (Tot.ret ?_)
        simp only [decide_eq_decide]
        omega
      · exact Tot.it e (Tot.ret (by simp; omega))
    refine Tot.bindq (P := fun x => x = ((min (valN 0 (tw L)) 101 : Nat) : Int)) ?_ fun x hx => ?_
    · subst hb
      refine Tot.ite (fun h => Tot.ret ?_) (fun h => Tot.ret ?_)
      · have := of_decide_eq_true h; omega
      · have := of_decide_eq_false h
        rcases hr with e | ⟨e, e2⟩
        · subst e; simp only; omega
        · omega
    subst hx
    refine Tot.bind0 (ssub_str (by omega) (Nat.le_refl _)) (Tot.ret ?_)
    rw [List.take_length, tw_drop]
end Go.Gv.P
namespace Go.Gv.P
open Go Go.Gv Go.Gv.D Go.Gv.R
set_option maxRecDepth 100000

/-! ### formats read -/
abbrev Fld := Int × Int × Bool
def item (b : Bool) (c : Nat) (v : Nat) : List Fld := if c == 115 || c == 120 then [((c : Int), (v : Int), b)] else List.replicate v ((c : Int), 1, b)
def bad (L : List UInt8) : Bool := match dw L with | [] => true | c :: _ => !isC c.toNat || (L.head? == some 48 && decide (1 < (tw L).length))
def val1 (L : List UInt8) : Nat := if tw L = [] then 1 else valN 0 (tw L)
def prs (b : Bool) : Nat → List UInt8 → Option (List Fld × Bool)
  | 0, _ => some ([], false)
  | n + 1, L => if L = [] then some ([], false) else if bad L = true then none else
      (prs b n (dw L).tail).map fun x => (item b ((dw L).headD 0).toNat (val1 L) ++ x.1, decide (100 < val1 L) || x.2)
theorem prs_any (b : Bool) : ∀ (n m : Nat) (L : List UInt8), L.length ≤ n → L.length ≤ m → prs b n L = prs b m L
  | 0, 0, _, _, _ => rfl
  | 0, m + 1, L, h, _ => by
    have : L = [] := List.length_eq_zero_iff.1 (by omega)
    subst this; rfl
  | n + 1, 0, L, _, h => by
    have : L = [] := List.length_eq_zero_iff.1 (by omega)
    subst this; rfl
  | n + 1, m + 1, L, h, h' => by
    show (if L = [] then _ else _) = (if L = [] then _ else _)
    by_cases h0 : L = []
    · rw [if_pos h0, if_pos h0]
    · rw [if_neg h0, if_neg h0]
      have hl := tw_len L
      have hp : 0 < L.length := List.length_pos_iff.2 h0
      have ht : (dw L).tail.length = (dw L).length - 1 := List.length_tail
      rw [prs_any b n m (dw L).tail (by omega) (by omega)]
def pr (b : Bool) (L : List UInt8) := prs b L.length L
theorem pr_nil (b : Bool) : pr b [] = some ([], false) := rfl
theorem pr_bad {b : Bool} {L : List UInt8} (h0 : L ≠ []) (h : bad L = true) : pr b L = none := by
  obtain ⟨c, r, rfl⟩ := List.exists_cons_of_ne_nil h0
  show prs b (r.length + 1) (c :: r) = _
  rw [prs, if_neg h0, if_pos h]
theorem pr_step {b : Bool} {L : List UInt8} (h0 : L ≠ []) (h : bad L = false) : pr b L = (pr b (dw L).tail).map fun x => (item b ((dw L).headD 0).toNat (val1 L) ++ x.1, decide (100 < val1 L) || x.2) := by
  have hl := tw_len L
  have hp : 0 < L.length := List.length_pos_iff.2 h0
  have ht : (dw L).tail.length = (dw L).length - 1 := List.length_tail
  unfold pr
  rw [prs_any b L.length ((L.length - 1) + 1) L (Nat.le_refl _) (by omega)]
  show (if _ then _ else _) = _
  rw [if_neg h0, if_neg (by rw [h]; decide), prs_any b (L.length - 1) (dw L).tail.length _ (by omega) (Nat.le_refl _)]
theorem tw_nil {L : List UInt8} (h : tw L = []) : dw L = L := by
  have := tw_dw L
  rwa [h, List.nil_append] at this
theorem not_bad {L : List UInt8} (h : bad L = false) : ∃ c t, dw L = c :: t ∧ isC c.toNat = true := by
  unfold bad at h
  cases hd : dw L with
  | nil => rw [hd] at h; cases h
  | cons c t =>
    rw [hd] at h
    simp only [Bool.or_eq_false_iff, Bool.not_eq_false'] at h
    exact ⟨c, t, rfl, h.1⟩

def body (F : List UInt8) : List UInt8 := if F.head? = some 62 ∨ F.head? = some 60 then F.tail else F
def bigF (F : List UInt8) : Bool := F.head? == some 62
def pres (F : List UInt8) : List Fld × (Int × Int) :=
  if 60 < F.length then ([], (3, -1)) else match pr (bigF F) (body F) with
    | none => ([], (1, -1))
    | some (o, g) => if g then ([], (4, -1)) else if 100 < o.length then ([], (2, -1)) else (o, (0, 0))

theorem HasPrefix_tot (L : List UInt8) (c : UInt8) (hl : L.length ≤ 1048576) : Tot (fun n => strings_HasPrefix n (strOf L) (strOf [c])) (· = (L.head? == some c)) := by
  unfold strings_HasPrefix stringslite_HasPrefix
  rw [size_str, size_str]
  refine Tot.bindq (P := (· = (L.head? == some c))) ?_ fun r hr => Tot.ret hr
  refine Tot.bindq (P := (· = (L.head? == some c))) (Tot.ite (fun h => ?_) (fun h => ?_)) fun r hr => Tot.ret hr
  · have h : ((L.length : Nat) : Int) ≥ (([c] : List UInt8).length : Int) := of_decide_eq_true h
    have h1 : 1 ≤ L.length := by have : (([c] : List UInt8).length : Int) = 1 := rfl; omega
    refine Tot.bind0 (ssub_str (i := 0) (j := 1) (by omega) h1) (Tot.ret ?_)
    rw [str_eq]
    obtain ⟨d, r, rfl⟩ : ∃ d r, L = d :: r := by
      cases L with
      | nil => simp at h1
      | cons d r => exact ⟨d, r, rfl⟩
    show decide (strOf [d] = strOf [c]) = (some d == some c)
    by_cases e : d = c
    · subst e; simp
    · rw [decide_eq_false (fun h => e ?_)]
      · simp [e]
      · have := congrArg bytesOf h
        rw [bytes_str, bytes_str] at this
        simpa using this
  · have h : ¬ ((L.length : Nat) : Int) ≥ (([c] : List UInt8).length : Int) := of_decide_eq_false h
    have h1 : L.length = 0 := by have : (([c] : List UInt8).length : Int) = 1 := rfl; omega
    have : L = [] := List.length_eq_zero_iff.1 h1
    subst this
    exact Tot.ret rfl

theorem take_same {α : Type} {a : List α} {f : α} {k m n : Nat} (h : (a ++ List.replicate m f).length = n) (hm : m ≤ k) : (a ++ List.replicate k f).take n = a ++ List.replicate m f := by
  rw [show k = m + (k - m) by omega, ← List.replicate_append_replicate, ← List.append_assoc]
  exact List.take_left' h

/-- the program's inner loop -/
theorem pinn {out0 : List Fld} {f : Fld} {cnt : Nat} (h0 : out0.length ≤ 101) (hc : cnt ≤ 1048576) : Tot (fun fuel => loopN (fun (s198 : ((List (Int × Int × Bool)) × Int)) => (if (decide (s198.2 < (if 101 < ((cnt : Nat) : Int) then 101 else ((cnt : Nat) : Int)))) then (Option.bind (if (decide (((List.length s198.1 : Nat) : Int) ≤ 100)) then (Option.bind (app s198.1 ([(f.1, f.2.1, f.2.2)] : List (Int × Int × Bool))) fun l229 => (some (l229))) else (some (s198.1))) fun (j215 : (List (Int × Int × Bool))) => (some (.inl (j215, (IntKind.i64.wrap (s198.2 + 1)))))) else (some (.inr (s198.1))))) fuel (out0, 0)) (· = (out0 ++ List.replicate (min 101 cnt) f).take 101) := by
  refine Tot.loop (fun st => ∃ k : Nat, st.2 = (k : Int) ∧ k ≤ min 101 cnt ∧ st.1 = (out0 ++ List.replicate k f).take 101) (fun st => 101 - st.2.toNat) ⟨0, rfl, by omega, ?_⟩ fun st ⟨k, e, hk, ho⟩ => ?_
  · rw [List.replicate_zero, List.append_nil, List.take_of_length_le (by omega)]
  obtain ⟨o, i⟩ := st
  simp only at e ho
  subst e
  refine Tot.ite (fun h => ?_) (fun h => ?_)
  · have h : (k : Int) < (if 101 < ((cnt : Nat) : Int) then 101 else ((cnt : Nat) : Int)) := of_decide_eq_true h
    have hk2 : k < min 101 cnt := by split at h <;> omega
    have hlen : o.length = min 101 (out0.length + k) := by rw [ho]; simp
    refine Tot.bindq (P := (· = (out0 ++ List.replicate (k + 1) f).take 101)) (Tot.ite (fun h2 => ?_) (fun h2 => ?_)) fun r hr => Tot.ret ?_
    · have h2 : ((o.length : Nat) : Int) ≤ 100 := of_decide_eq_true h2
      have ha : app o [f] = some (o ++ [f]) := by unfold app; rw [if_pos (by simp; omega)]
      refine Tot.bind0 ha (Tot.ret ?_)
      rw [ho, List.take_of_length_le (by simp; omega), List.take_of_length_le (by simp; omega), List.replicate_succ', List.append_assoc]
    · have h2 : ¬ ((o.length : Nat) : Int) ≤ 100 := of_decide_eq_false h2
      refine Tot.ret ?_
      have hge : 101 ≤ (out0 ++ List.replicate k f).length := by simp; omega
      rw [ho, List.replicate_succ', ← List.append_assoc, List.take_append_of_le_length hge]
    · subst hr
      rw [i64_small (by omega) (by omega)]
      refine ⟨⟨k + 1, by simp, by omega, rfl⟩, ?_⟩
      show 101 - ((k : Int) + 1).toNat < 101 - ((k : Int)).toNat
      omega
  · have h : ¬ (k : Int) < (if 101 < ((cnt : Nat) : Int) then 101 else ((cnt : Nat) : Int)) := of_decide_eq_false h
    have : k = min 101 cnt := by split at h <;> omega
    subst this
    exact Tot.ret ho
/-- the reference's -/
theorem rinn {out0 : List Fld} {f : Fld} {cnt : Nat} {many0 g : Bool} {w : Int} {lg : Bool} (hg : (lg || decide (w > 100)) = g) (h0 : out0.length ≤ 100) (hc : cnt ≤ 401) : Tot (fun fuel => loopN (fun (s300 : ((List (Int × Int × Bool)) × Bool × Int)) => (if ((decide (s300.2.2 > 0)) && (!(lg || (decide (w > 100))))) then (if (decide (((List.length s300.1 : Nat) : Int) ≥ 100)) then (some (.inr ((s300.1, true)))) else (Option.bind (app s300.1 ([(f.1, f.2.1, f.2.2)] : List (Int × Int × Bool))) fun l335 => (some (.inl (l335, s300.2.1, (IntKind.i64.wrap (s300.2.2 - 1))))))) else (some (.inr ((s300.1, s300.2.1)))))) fuel (out0, many0, ((cnt : Nat) : Int))) (fun r => r = if g = true then (out0, many0) else ((out0 ++ List.replicate cnt f).take 100, many0 || decide (100 < out0.length + cnt))) := by
  rw [hg]
  refine Tot.loop (fun st => ∃ m : Nat, m ≤ cnt ∧ st.2.2 = ((cnt - m : Nat) : Int) ∧ st.2.1 = many0 ∧ st.1 = out0 ++ List.replicate m f ∧ st.1.length ≤ 100 ∧ (g = true → m = 0)) (fun st => st.2.2.toNat) ⟨0, by omega, rfl, rfl, by simp, h0, fun _ => rfl⟩ fun st ⟨m, hm, e, em, eo, hl, hgm⟩ => ?_
  obtain ⟨o, mn, j⟩ := st
  simp only at e em eo hl
  subst e em
  have hlen : o.length = out0.length + m := by rw [eo]; simp
  refine Tot.ite (fun h => ?_) (fun h => ?_)
  · simp only [Bool.and_eq_true, Bool.not_eq_true', decide_eq_true_eq] at h
    obtain ⟨h1, h2⟩ := h
    have h1 : ((cnt - m : Nat) : Int) > 0 := h1
    refine Tot.ite (fun h3 => Tot.ret ?_) (fun h3 => ?_)
    · have h3 : ((o.length : Nat) : Int) ≥ 100 := of_decide_eq_true h3
      show _ = if g = true then _ else _
      rw [if_neg (by rw [h2]; decide), eo, take_same (by rw [← eo]; omega) hm, decide_eq_true (by omega), Bool.or_true]
    · have h3 : ¬ ((o.length : Nat) : Int) ≥ 100 := of_decide_eq_false h3
      have ha : app o [f] = some (o ++ [f]) := by unfold app; rw [if_pos (by simp; omega)]
      refine Tot.bind0 ha (Tot.ret ?_)
      rw [i64_small (by omega) (by omega)]
      refine ⟨⟨m + 1, by omega, by show ((cnt - m : Nat) : Int) - 1 = ((cnt - (m + 1) : Nat) : Int); omega, rfl, by rw [eo, List.replicate_succ', List.append_assoc], by show (o ++ [f]).length ≤ 100; simp; omega, fun e => by rw [h2] at e; cases e⟩, ?_⟩
      show (((cnt - m : Nat) : Int) - 1).toNat < (((cnt - m : Nat) : Int)).toNat
      omega
  · refine Tot.ret ?_
    show _ = if g = true then _ else _
    by_cases hgt : g = true
    · rw [if_pos hgt, eo, hgm hgt]; simp
    · rw [if_neg hgt]
      have hgf : g = false := by cases g <;> simp_all
      simp only [hgf, Bool.not_false, Bool.and_true, decide_eq_false_iff_not] at h
      have : m = cnt := by omega
      subst this
      rw [← eo, List.take_of_length_le hl, decide_eq_false (by omega), Bool.or_false]
end Go.Gv.P
namespace Go.Gv.P
open Go Go.Gv Go.Gv.D Go.Gv.R
set_option maxRecDepth 100000

theorem map_id_pr (x : Option (List Fld × Bool)) : x = x.map fun y => (([] : List Fld) ++ y.1, false || y.2) := by
  cases x with
  | none => rfl
  | some y => simp
theorem take_cut {α : Type} (P I : List α) (n : Nat) : (P.take n ++ I).take n = (P ++ I).take n := by
  rw [List.take_append, List.take_append, List.take_take, Nat.min_self, List.length_take, show n - min n P.length = n - P.length by omega]
theorem counted_tot (c : Int) : Tot (fun n => packing_counted n c) (· = (c == 115 || c == 120)) := Tot.ret rfl
theorem headD_cons {L : List UInt8} {c : UInt8} {t : List UInt8} (h : dw L = c :: t) : ((dw L).headD 0) = c ∧ (dw L).tail = t := by rw [h]; exact ⟨rfl, rfl⟩

/-- packing.Parse -/
theorem Parse_tot {F : List UInt8} (hF : F.length ≤ 1048576) : Tot (fun n => packing_Parse n (strOf F)) (· = pres F) := by
  unfold packing_Parse
  rw [size_str]
  refine Tot.ite (fun h => ?_) (fun h => ?_)
  · have h : ((F.length : Nat) : Int) > 60 := of_decide_eq_true h
    unfold packing_at
    refine Tot.some_bind (Tot.ret ?_)
    unfold pres
    rw [if_pos (by omega)]
  have h : ¬ ((F.length : Nat) : Int) > 60 := of_decide_eq_false h
  refine Tot.bindq (HasPrefix_tot F 62 hF) fun r hr => ?_
  refine Tot.bindq (P := fun j => j = decide (F.head? = some 62 ∨ F.head? = some 60)) ?_ fun j hj => ?_
  · refine Tot.ite (fun h1 => Tot.ret ?_) (fun h1 => ?_)
    · rw [h1] at hr
      have := beq_iff_eq.1 hr.symm
      rw [decide_eq_true (.inl this)]
    · rw [h1] at hr
      have h62 := beq_eq_false_iff_ne.1 hr.symm
      refine Tot.bindq (HasPrefix_tot F 60 hF) fun r2 hr2 => Tot.ret ?_
      subst hr2
      cases he : (F.head? == some 60) with
      | true => rw [decide_eq_true (.inr (beq_iff_eq.1 he))]
      | false => rw [decide_eq_false (fun e => e.elim h62 (beq_eq_false_iff_ne.1 he))]
  refine Tot.bindq (P := (· = strOf (body F))) ?_ fun s hs => ?_
  · refine Tot.ite (fun h1 => ?_) (fun h1 => Tot.ret ?_)
    · rw [hj] at h1
      have h2 := of_decide_eq_true h1
      have hp : 1 ≤ F.length := by
        cases F with
        | nil => simp at h2
        | cons a b => simp
      refine Tot.bind0 (ssub_str (i := 1) hp (Nat.le_refl _)) (Tot.ret ?_)
      unfold body
      rw [if_pos h2, List.take_length, List.drop_one]
    · rw [hj] at h1
      unfold body
      rw [if_neg (of_decide_eq_false h1)]
  subst hs hr
  have hb60 : (body F).length ≤ 60 := by unfold body; have := List.length_tail (l := F); split <;> omega
  refine Tot.bindq (P := fun x => match x with
    | .inl st => ∃ P G, pr (bigF F) (body F) = some (P, G) ∧ st.2.1 = G ∧ (G = false → st.1 = P.take 101) ∧ st.2.2 = (0, 0)
    | .inr r => pr (bigF F) (body F) = none ∧ r = ([], (1, -1))) ?_ fun x hx => ?_
  · refine Tot.loop (fun st => ∃ L P G, L.length ≤ 60 ∧ st.1 = strOf L ∧ pr (bigF F) (body F) = (pr (bigF F) L).map (fun y => (P ++ y.1, G || y.2)) ∧ st.2.2.1 = G ∧ st.2.1.length ≤ 101 ∧ (G = false → st.2.1 = P.take 101) ∧ st.2.2.2 = (0, 0)) (fun st => st.1.size)
      ⟨body F, [], false, hb60, rfl, map_id_pr _, rfl, Nat.zero_le _, fun _ => rfl, rfl⟩ fun st ⟨L, P, G, hL, es, epr, eG, hol, ho, ef⟩ => ?_
    obtain ⟨s, o, g, e1, e2⟩ := st
    simp only at es eG hol ho ef
    subst es eG
    refine Tot.ite (fun h1 => ?_) (fun h1 => Tot.ret ?_)
    · have hne : L ≠ [] := by
        rw [str_eq] at h1
        intro e
        subst e
        simp at h1
      have hp : 0 < L.length := List.length_pos_iff.2 hne
      have hlen := tw_len L
      have hbs : ∀ (M : List UInt8), bytesOf (strOf M) = M := bytes_str
      refine Tot.bind0 (sidx_nat (i := 0) (by rw [hbs]; exact hp)) ?_
      have h00 : ((bytesOf (strOf L))[0]'(by rw [hbs]; exact hp)) = L.headD 0 := by
        cases L with
        | nil => exact absurd rfl hne
        | cons a t => rfl
      rw [h00]
      refine Tot.bindq (number_tot (by omega)) fun r hr => ?_
      have hr2 : r.2 = strOf (dw L) := by
        rw [hr]
        split
        · rw [tw_nil (by assumption)]
        · rfl
      obtain ⟨rv, rs⟩ := r
      simp only at hr2
      subst hr2
      refine Tot.bindq (P := (· = bad L)) ?_ fun j hj => ?_
      · rw [str_eq]
        cases hd : dw L with
        | nil => exact Tot.it rfl (Tot.ret (by unfold bad; rw [hd]))
        | cons c t =>
          have hbad : bad L = (!isC c.toNat || (L.head? == some 48 && decide (1 < (tw L).length))) := by unfold bad; rw [hd]
          rw [hbad]
          refine Tot.if_ (decide_eq_false fun e => by have := congrArg bytesOf e; rw [bytes_str, bytes_str] at this; cases this) ?_
          refine Tot.bind0 (sidx_nat (i := 0) (by rw [hbs]; simp)) ?_
          have hc0 : ((bytesOf (strOf (c :: t)))[0]'(by rw [hbs]; simp)) = c := rfl
          rw [hc0]
          refine Tot.bindq (IndexByte_tot c) fun x hx => ?_
          refine Tot.ite (fun h2 => Tot.ret ?_) (fun h2 => ?_)
          · rw [h2] at hx; rw [← hx]; rfl
          · rw [h2] at hx
            rw [← hx, Bool.false_or]
            have hhead : L.head? = some (L.headD 0) := by
              cases L with
              | nil => exact absurd rfl hne
              | cons a t => rfl
            refine Tot.ite (fun h3 => Tot.ret ?_) (fun h3 => Tot.ret ?_)
            · have h3 : ((L.headD 0).toNat : Int) = 48 := beq_iff_eq.1 h3
              have h4 : L.headD 0 = 48 := UInt8.toNat_inj.1 (show (L.headD 0).toNat = 48 by omega)
              rw [hhead, h4, size_str, size_str, i64_small (by omega) (by omega)]
              have htp : tw L ≠ [] := fun e => by
                have := tw_nil e
                rw [hd] at this
                have hcc := dw_head hd
                rw [← this] at h4
                simp only [List.headD_cons] at h4
                rw [h4] at hcc
                cases hcc
              have : 0 < (tw L).length := List.length_pos_iff.2 htp
              rw [hd] at hlen
              simp only [beq_self_eq_true, Bool.true_and]
              by_cases hq : 1 < (tw L).length
              · rw [decide_eq_true hq]
                simp only [bne_iff_ne, ne_eq]
                omega
              · rw [decide_eq_false hq]
                have : (((c :: t).length : Nat) : Int) = (L.length : Int) - 1 := by omega
                rw [this]
                simp
            · have h3 : ¬ ((L.headD 0).toNat : Int) = 48 := fun e => by rw [e] at h3; cases h3
              have : ¬ L.headD 0 = 48 := fun e => h3 (by rw [e]; rfl)
              rw [hhead, show (some (L.headD 0) == some 48) = false from beq_eq_false_iff_ne.2 (fun e => this (Option.some.inj e)), Bool.false_and]
      subst hj
      refine Tot.ite (fun h2 => ?_) (fun h2 => ?_)
      · unfold packing_at
        refine Tot.some_bind (Tot.ret ?_)
        exact ⟨by rw [epr, pr_bad hne h2]; rfl, rfl⟩
      obtain ⟨c, t, hd, hc⟩ := not_bad h2
      have hst := pr_step (b := bigF F) hne h2
      rw [(headD_cons hd).1, (headD_cons hd).2] at hst
      rw [hd] at hlen ⊢
      refine Tot.bind0 (sidx_nat (i := 0) (by rw [hbs]; simp)) ?_
      have hc0 : ((bytesOf (strOf (c :: t)))[0]'(by rw [hbs]; simp)) = c := rfl
      rw [hc0]
      refine Tot.bind0 (by rw [size_str]; exact ssub_str (i := 1) (by simp) (Nat.le_refl _)) ?_
      rw [List.take_length, List.drop_one, List.tail_cons]
      have hv : (if rv < 0 then 1 else rv) = ((min (val1 L) 101 : Nat) : Int) ∧ (decide (rv > 100) = decide (100 < val1 L)) := by
        unfold val1
        by_cases h0 : tw L = []
        · rw [if_pos h0] at hr ⊢
          have hr := (Prod.ext_iff.1 hr).1
          simp only at hr
          subst hr
          exact ⟨rfl, rfl⟩
        · rw [if_neg h0] at hr ⊢
          have hr := (Prod.ext_iff.1 hr).1
          simp only at hr
          subst hr
          constructor
          · rw [if_neg (by omega)]
          · rw [decide_eq_decide]; omega
      refine Tot.bindq (P := (· = ((min (val1 L) 101 : Nat) : Int))) (Tot.ite (fun h3 => Tot.ret ?_) (fun h3 => Tot.ret ?_)) fun v hvv => ?_
      · rw [← hv.1, if_pos (of_decide_eq_true h3)]
      · rw [← hv.1, if_neg (of_decide_eq_false h3)]
      subst hvv
      refine Tot.bindq (counted_tot _) fun cn hcn => ?_
      have hcn2 : cn = (c.toNat == 115 || c.toNat == 120) := by
        rw [hcn]
        have : ∀ k : Nat, (((c.toNat : Nat) : Int) == (k : Int)) = (c.toNat == k) := fun k => by
          rw [Bool.eq_iff_iff, beq_iff_eq, beq_iff_eq]; omega
        exact congr (congrArg or (this 115)) (this 120)
      refine Tot.bindq (P := fun x : Int × Fld => ∃ n : Nat, n ≤ 101 ∧ x.1 = (n : Int) ∧ (val1 L ≤ 100 → List.replicate (min 101 n) x.2 = item (bigF F) c.toNat (val1 L))) (Tot.ite (fun h3 => Tot.ret ?_) (fun h3 => Tot.ret ?_)) fun x ⟨n, hn, hx1, hx2⟩ => ?_
      · refine ⟨1, by omega, rfl, fun hle => ?_⟩
        unfold item
        rw [← hcn2, if_pos h3, show min 101 1 = 1 from rfl, show min (val1 L) 101 = val1 L by omega]
        rfl
      · refine ⟨min (val1 L) 101, by omega, rfl, fun hle => ?_⟩
        unfold item
        rw [← hcn2, if_neg (by rw [h3]; decide), show min 101 (min (val1 L) 101) = val1 L by omega]
        rfl
      obtain ⟨xn, xf⟩ := x
      simp only at hx1 hx2
      subst hx1
      refine Tot.bindq (pinn (f := xf) hol (by omega)) fun o2 ho2 => Tot.ret ?_
      refine ⟨⟨t, P ++ item (bigF F) c.toNat (val1 L), g || decide (100 < val1 L), by simp only [List.length_cons] at hlen; omega, rfl, ?_, by rw [← hv.2], by rw [ho2]; simp; omega, fun hg => ?_, ef⟩, ?_⟩
      · rw [epr, hst, Option.map_map]
        congr 1
        funext y
        simp [Function.comp, Bool.or_assoc]
      · simp only [Bool.or_eq_false_iff, decide_eq_false_iff_not] at hg
        show o2 = _
        rw [ho2, hx2 (by omega), ho hg.1]
        exact take_cut _ _ _
      · show (strOf t).size < (strOf L).size
        rw [size_str, size_str]
        simp only [List.length_cons] at hlen
        omega
    · have : L = [] := by
        rw [str_eq] at h1
        have h1 : strOf L = strOf [] := by simpa using h1
        have := congrArg bytesOf h1
        rwa [bytes_str, bytes_str] at this
      subst this
      exact ⟨P, g, by rw [epr, pr_nil]; simp, rfl, ho, ef⟩
  · unfold pres
    rw [if_neg (by omega)]
    cases x with
    | inr r =>
      obtain ⟨hx1, hx2⟩ := hx
      refine Tot.contr ?_
      rw [hx2, hx1]
    | inl st =>
      obtain ⟨o, g, e1, e2⟩ := st
      obtain ⟨P, G, hpr, hg, ho, hf⟩ := hx
      simp only at hg ho hf
      subst hg
      rw [hpr]
      refine Tot.contl ?_
      refine Tot.ite (fun h1 => ?_) (fun h1 => ?_)
      · have h1 : g = true := h1
        subst h1
        unfold packing_at
        exact Tot.some_bind (Tot.ret rfl)
      · have h1 : g = false := h1
        subst h1
        have ho := ho rfl
        subst ho
        refine Tot.some_bind (Tot.ite (fun h2 => ?_) (fun h2 => ?_))
        · have h2 : (((P.take 101).length : Nat) : Int) > 100 := of_decide_eq_true h2
          have : 100 < P.length := by simp at h2; omega
          unfold packing_at
          refine Tot.some_bind (Tot.ret ?_)
          show _ = if false = true then _ else _
          rw [if_neg (by decide), if_pos this]
        · have h2 : ¬ (((P.take 101).length : Nat) : Int) > 100 := of_decide_eq_false h2
          have : ¬ 100 < P.length := by simp at h2; omega
          refine Tot.ret ?_
          show _ = if false = true then _ else _
          rw [if_neg (by decide), if_neg this, List.take_of_length_le (by omega)]
end Go.Gv.P
namespace Go.Gv.P
open Go Go.Gv Go.Gv.D Go.Gv.R
set_option maxRecDepth 100000

def ints (l : List UInt8) : List Int := l.map fun b => (b.toNat : Int)
theorem ints_len (l : List UInt8) : (ints l).length = l.length := by simp [ints]
theorem ints_at {F : List UInt8} {k : Nat} (h : k < F.length) : idx (ints F) (k : Int) = some ((F[k]).toNat : Int) := by
  rw [idx_nat (by rw [ints_len]; exact h)]
  simp [ints]
theorem drop_get {F : List UInt8} {k m : Nat} {c : UInt8} {t : List UInt8} (h : (F.drop k).drop m = c :: t) : ∃ h : k + m < F.length, F[k + m] = c := by
  rw [List.drop_drop] at h
  have hl : k + m < F.length := by
    have := congrArg List.length h
    simp only [List.length_drop, List.length_cons] at this
    omega
  refine ⟨hl, ?_⟩
  rw [List.drop_eq_getElem_cons hl] at h
  exact (List.cons.inj h).1
theorem digits_tot {F : List UInt8} {k : Nat} (hF : F.length ≤ 1048576) (hk : k ≤ F.length) : Tot (fun n => ref4_digitsAt n (ints F) (k : Int)) (· = (((min (valN 0 (tw (F.drop k))) 401 : Nat) : Int), (((tw (F.drop k)).length : Nat) : Int))) := by
  unfold ref4_digitsAt
  rw [ints_len]
  have hlen := tw_len (F.drop k)
  have hdl : (F.drop k).length = F.length - k := List.length_drop
  refine Tot.bindq (P := (· = (((min (valN 0 (tw (F.drop k))) 401 : Nat) : Int), (((tw (F.drop k)).length : Nat) : Int)))) ?_ fun x hx => Tot.ret (by rw [hx])
  refine Tot.loop (fun st => ∃ m : Nat, m ≤ (tw (F.drop k)).length ∧ st.2 = (m : Int) ∧ st.1 = ((min (valN 0 ((tw (F.drop k)).take m)) 401 : Nat) : Int)) (fun st => (tw (F.drop k)).length - st.2.toNat) ⟨0, Nat.zero_le _, rfl, rfl⟩ fun st ⟨m, hm, e2, e1⟩ => ?_
  obtain ⟨v, j⟩ := st
  simp only at e2 e1
  subst e2 e1
  have hw : IntKind.i64.wrap ((k : Int) + (m : Int)) = ((k + m : Nat) : Int) := by rw [i64_small (by omega) (by omega)]; omega
  rw [hw]
  by_cases hlt : m < (tw (F.drop k)).length
  · have hx : ∃ h : k + m < F.length, F[k + m] = (tw (F.drop k))[m] := by
      refine drop_get (t := (tw (F.drop k)).drop (m + 1) ++ dw (F.drop k)) ?_
      conv => lhs; arg 2; rw [← tw_dw (F.drop k)]
      rw [List.drop_append_of_le_length hm, List.drop_eq_getElem_cons hlt]
      rfl
    obtain ⟨hkm, hx⟩ := hx
    have hd := tw_dg (F.drop k) _ (List.getElem_mem hlt)
    rw [← hx] at hd
    have hd2 : 48 ≤ (F[k + m]).toNat ∧ (F[k + m]).toNat ≤ 57 := by simpa [dg] using hd
    refine Tot.bindq (P := (· = true)) ?_ fun j hj => ?_
    · refine Tot.it (decide_eq_true (by omega)) (Tot.bind0 (ints_at hkm) (Tot.it (decide_eq_true (by omega)) (Tot.bind0 (ints_at hkm) (Tot.ret (decide_eq_true (by omega))))))
    subst hj
    refine Tot.it rfl (Tot.bind0 (ints_at hkm) (Tot.some_bind ?_))
    have hV : valN 0 ((tw (F.drop k)).take (m + 1)) = 10 * valN 0 ((tw (F.drop k)).take m) + ((F[k + m]).toNat - 48) := by
      rw [take_snoc hlt, valN_snoc, hx]
    generalize valN 0 ((tw (F.drop k)).take m) = V at *
    have ha : IntKind.i64.wrap (10 * ((min V 401 : Nat) : Int)) = 10 * ((min V 401 : Nat) : Int) := i64_small (by omega) (by omega)
    rw [ha, i64_small (x := 10 * ((min V 401 : Nat) : Int) + ((F[k + m]).toNat : Int)) (by omega) (by omega), i64_small (by omega) (by omega)]
    refine Tot.bindq (P := (· = ((min (valN 0 ((tw (F.drop k)).take (m + 1))) 401 : Nat) : Int))) (Tot.ite (fun h => Tot.ret ?_) (fun h => Tot.ret ?_)) fun y hy => Tot.ret ?_
    · have := of_decide_eq_true h
      omega
    · have := of_decide_eq_false h
      omega
    · subst hy
      rw [i64_small (by omega) (by omega)]
      refine ⟨⟨m + 1, hlt, by simp, rfl⟩, ?_⟩
      show _ - ((m : Int) + 1).toNat < _ - ((m : Int)).toNat
      omega
  · have hme : m = (tw (F.drop k)).length := by omega
    subst hme
    refine Tot.bindq (P := (· = false)) ?_ fun j hj => ?_
    · cases hd : dw (F.drop k) with
      | nil =>
        rw [hd] at hlen
        simp only [List.length_nil] at hlen
        exact Tot.if_ (decide_eq_false (by omega)) (Tot.ret rfl)
      | cons c t =>
        obtain ⟨hkm, hx⟩ := drop_get (F := F) (k := k) (m := (tw (F.drop k)).length) (c := c) (t := t) (by rw [tw_drop, hd])
        refine Tot.it (decide_eq_true (by omega)) (Tot.bind0 (ints_at hkm) ?_)
        have hcd := dw_head hd
        rw [hx]
        have : ¬ (48 ≤ c.toNat ∧ c.toNat ≤ 57) := fun h => by
          unfold dg at hcd
          rw [decide_eq_true h.1, decide_eq_true h.2] at hcd
          cases hcd
        refine Tot.ite (fun h => Tot.bind0 (ints_at hkm) (Tot.ret ?_)) (fun h => Tot.ret rfl)
        have h : ((c.toNat : Nat) : Int) ≥ 48 := of_decide_eq_true h
        rw [hx]
        exact decide_eq_false (by omega)
    subst hj
    refine Tot.if_ rfl (Tot.ret ?_)
    show _ = _
    rw [List.take_of_length_le (Nat.le_refl _)]

theorem isC_hi (n : Nat) (hn : n < 256) (h : 127 < n) : isC n = false := by
  have h1 : (List.range 256).all (fun n => decide (n ≤ 127) || !isC n) = true := by kernel_rfl
  have := List.all_eq_true.1 h1 n (List.mem_range.2 hn)
  simpa [show ¬ n ≤ 127 by omega] using this
theorem isC_0 : isC 0 = false := by kernel_rfl
theorem u8_nat {n : Nat} (h : n < 256) : IntKind.u8.wrap (n : Int) = (n : Int) := u8_small (by omega) (by omega)

/-- the reference -/
theorem FieldsRead_tot {F : List UInt8} (hF : F.length ≤ 1048576) : Tot (fun n => ref4_FieldsRead n (strOf F)) (· = pres F) := by
  unfold ref4_FieldsRead
  rw [size_str]
  refine Tot.ite (fun h => ?_) (fun h => ?_)
  · have h : ((F.length : Nat) : Int) > 60 := of_decide_eq_true h
    unfold ref4_At
    refine Tot.some_bind (Tot.ret ?_)
    unfold pres
    rw [if_pos (by omega)]
  have h : ¬ ((F.length : Nat) : Int) > 60 := of_decide_eq_false h
  refine Tot.bindq (P := (· = ints F)) ?_ fun X hX => ?_
  · refine Tot.loop (fun st => ∃ i : Nat, i ≤ F.length ∧ st.2 = (i : Int) ∧ st.1 = ints (F.take i)) (fun st => F.length - st.2.toNat) ⟨0, Nat.zero_le _, rfl, rfl⟩ fun st ⟨i, hi, e2, e1⟩ => ?_
    obtain ⟨l, j⟩ := st
    simp only at e2 e1
    subst e2 e1
    refine Tot.ite (fun h1 => ?_) (fun h1 => Tot.ret ?_)
    · have h1 : (i : Int) < (F.length : Int) := of_decide_eq_true h1
      have hi2 : i < F.length := by omega
      refine Tot.bind0 (sidx_nat (i := i) (by rw [bytes_str]; exact hi2)) ?_
      have hg : (bytesOf (strOf F))[i]'(by rw [bytes_str]; exact hi2) = F[i] := List.getElem_of_eq (bytes_str F) _
      rw [hg]
      have hb := byte_lt F[i]
      have ha : app (ints (F.take i)) [IntKind.i64.wrap ((F[i]).toNat : Int)] = some (ints (F.take (i + 1))) := by
        unfold app
        rw [if_pos (by simp [ints]; omega), take_snoc hi2, i64_small (by omega) (by omega)]
        unfold ints
        rw [List.map_append]
        rfl
      refine Tot.bind0 ha (Tot.ret ?_)
      rw [i64_small (by omega) (by omega)]
      refine ⟨⟨i + 1, by omega, by simp, rfl⟩, ?_⟩
      show _ - ((i : Int) + 1).toNat < _ - ((i : Int)).toNat
      omega
    · have h1 : ¬ (i : Int) < (F.length : Int) := of_decide_eq_false h1
      show _ = _
      rw [List.take_of_length_le (by omega)]
  subst hX
  rw [ints_len]
  have hfirst : ∀ (q : Int) (hp : 0 < F.length), ∃ c, F.head? = some c ∧ idx (ints F) 0 = some ((c.toNat : Nat) : Int) := fun q hp => by
    cases F with
    | nil => simp at hp
    | cons c t => exact ⟨c, rfl, ints_at (k := 0) (by simp)⟩
  refine Tot.bindq (P := (· = bigF F)) ?_ fun b hb => ?_
  · refine Tot.ite (fun h1 => ?_) (fun h1 => Tot.ret ?_)
    · have h1 : (0 : Int) < (F.length : Int) := of_decide_eq_true h1
      obtain ⟨c, hc, hi⟩ := hfirst 0 (by omega)
      refine Tot.bind0 hi (Tot.ret ?_)
      unfold bigF
      rw [hc, Bool.eq_iff_iff, beq_iff_eq, beq_iff_eq]
      constructor
      · intro e; rw [show c = 62 from UInt8.toNat_inj.1 (show c.toNat = 62 by omega)]
      · intro e; cases e; rfl
    · have h1 : ¬ (0 : Int) < (F.length : Int) := of_decide_eq_false h1
      have : F = [] := List.length_eq_zero_iff.1 (by omega)
      subst this
      rfl
  subst hb
  refine Tot.bindq (P := (· = decide (F.head? = some 62 ∨ F.head? = some 60))) ?_ fun b hb => ?_
  · refine Tot.ite (fun h1 => ?_) (fun h1 => Tot.ret ?_)
    · have h1 : (0 : Int) < (F.length : Int) := of_decide_eq_true h1
      obtain ⟨c, hc, hi⟩ := hfirst 0 (by omega)
      refine Tot.bind0 hi (Tot.ite (fun h2 => Tot.ret ?_) (fun h2 => ?_))
      · have h2 := beq_iff_eq.1 h2
        rw [hc, show c = 60 from UInt8.toNat_inj.1 (show c.toNat = 60 by omega)]
        rfl
      · have h2 := beq_eq_false_iff_ne.1 h2
        refine Tot.bind0 hi (Tot.ret ?_)
        rw [hc, Bool.eq_iff_iff, beq_iff_eq, decide_eq_true_eq]
        constructor
        · intro e; exact .inl (by rw [show c = 62 from UInt8.toNat_inj.1 (show c.toNat = 62 by omega)])
        · rintro (e | e)
          · cases e; rfl
          · cases e; exact absurd rfl h2
    · have h1 : ¬ (0 : Int) < (F.length : Int) := of_decide_eq_false h1
      have : F = [] := List.length_eq_zero_iff.1 (by omega)
      subst this
      rfl
  refine Tot.bindq (P := fun x => ∃ k : Nat, k ≤ F.length ∧ x = (k : Int) ∧ F.drop k = body F) ?_ fun x ⟨k0, hk0, ex, hbody⟩ => ?_
  · subst hb
    unfold body
    refine Tot.ite (fun h2 => Tot.ret ?_) (fun h2 => Tot.ret ?_)
    · have h2 := of_decide_eq_true h2
      rw [if_pos h2]
      have hp : 1 ≤ F.length := by
        cases F with
        | nil => simp at h2
        | cons a b => simp
      exact ⟨1, hp, rfl, List.drop_one⟩
    · rw [if_neg (of_decide_eq_false h2)]
      exact ⟨0, Nat.zero_le _, rfl, rfl⟩
  subst ex
  refine Tot.bindq (P := fun x => match x with
    | .inl st => ∃ P G, pr (bigF F) (body F) = some (P, G) ∧ st.2.1 = G ∧ (G = false → st.1 = P.take 100 ∧ st.2.2.1 = decide (100 < P.length)) ∧ st.2.2.2 = (0, 0)
    | .inr r => pr (bigF F) (body F) = none ∧ r = ([], (1, -1))) ?_ fun x hx => ?_
  · refine Tot.loop (fun st => ∃ (k : Nat) (P : List Fld) (G : Bool), k ≤ F.length ∧ st.1 = (k : Int) ∧ pr (bigF F) (body F) = (pr (bigF F) (F.drop k)).map (fun y => (P ++ y.1, G || y.2)) ∧ st.2.2.1 = G ∧ st.2.1.length ≤ 100 ∧ (G = false → st.2.1 = P.take 100 ∧ st.2.2.2.1 = decide (100 < P.length)) ∧ st.2.2.2.2 = (0, 0)) (fun st => F.length - st.1.toNat)
      ⟨k0, [], false, hk0, rfl, by rw [hbody]; exact map_id_pr _, rfl, Nat.zero_le _, fun _ => ⟨rfl, rfl⟩, rfl⟩ fun st ⟨k, P, G, hk, es, epr, eG, hol, ho, ef⟩ => ?_
    obtain ⟨s, o, g, mn, e1, e2⟩ := st
    simp only at es eG hol ho ef
    subst es eG
    have hlen := tw_len (F.drop k)
    have hdl : (F.drop k).length = F.length - k := List.length_drop
    refine Tot.ite (fun h1 => ?_) (fun h1 => Tot.ret ?_)
    · have h1 : (k : Int) < (F.length : Int) := of_decide_eq_true h1
      have hkl : k < F.length := by omega
      have hne : F.drop k ≠ [] := fun e => by rw [e] at hdl; simp at hdl; omega
      refine Tot.bindq (digits_tot hF hk) fun r hr => ?_
      subst hr
      have hw : IntKind.i64.wrap ((k : Int) + (((tw (F.drop k)).length : Nat) : Int)) = ((k + (tw (F.drop k)).length : Nat) : Int) := by rw [i64_small (by omega) (by omega)]; omega
      simp only [hw]
      have hF0 : F.drop k = F[k] :: F.drop (k + 1) := List.drop_eq_getElem_cons hkl
      refine Tot.bindq (P := (· = bad (F.drop k))) ?_ fun j hj => ?_
      · cases hd : dw (F.drop k) with
        | nil =>
          have hb1 : bad (F.drop k) = true := by unfold bad; rw [hd]
          rw [hb1]
          rw [hd] at hlen
          simp only [List.length_nil] at hlen
          refine Tot.ite (fun h2 => ?_) (fun h2 => ?_)
          · exact Tot.bind0 (ints_at hkl) (Tot.ite (fun h3 => Tot.ret rfl) (fun h3 => Tot.it (decide_eq_true (by omega)) (Tot.ret rfl)))
          · exact Tot.it (decide_eq_true (by omega)) (Tot.ret rfl)
        | cons c t =>
          have hbad : bad (F.drop k) = (!isC c.toNat || ((F.drop k).head? == some 48 && decide (1 < (tw (F.drop k)).length))) := by unfold bad; rw [hd]
          obtain ⟨hkm, hx⟩ := drop_get (F := F) (k := k) (m := (tw (F.drop k)).length) (c := c) (t := t) (by rw [tw_drop, hd])
          have hia := ints_at hkm
          rw [hx] at hia
          have hcl := byte_lt c
          have hrest : ∀ (f : Nat → Option Bool), (∀ n, f n = (if (decide (((k + (tw (F.drop k)).length : Nat) : Int) ≥ ((F.length : Nat) : Int))) then (some (true)) else (Option.bind (idx (ints F) ((k + (tw (F.drop k)).length : Nat) : Int)) fun x176 => (if (x176 == 0) then (some (true)) else (Option.bind (idx (ints F) ((k + (tw (F.drop k)).length : Nat) : Int)) fun x183 => (if (decide (x183 > 127)) then (some (true)) else (Option.bind (idx (ints F) ((k + (tw (F.drop k)).length : Nat) : Int)) fun x189 => (Option.bind (ref4_oneOf n (IntKind.u8.wrap (x189)) (strOf [98, 66, 104, 72, 105, 73, 113, 81, 118, 115, 112, 120, 63])) fun r191 => (some ((!r191))))))))))) → Tot f (· = !isC c.toNat) := fun f hf => by
            rw [show f = _ from funext hf]
            refine Tot.if_ (decide_eq_false (by omega)) (Tot.bind0 hia (Tot.ite (fun h3 => Tot.ret ?_) (fun h3 => Tot.bind0 hia (Tot.ite (fun h4 => Tot.ret ?_) (fun h4 => Tot.bind0 hia ?_)))))
            · have h3 := beq_iff_eq.1 h3
              rw [show c.toNat = 0 by omega, isC_0]; rfl
            · have h4 : ((c.toNat : Nat) : Int) > 127 := of_decide_eq_true h4
              rw [isC_hi _ hcl (by omega)]; rfl
            · rw [u8_nat hcl]
              exact Tot.bindq (oneOf_tot c) fun y hy => Tot.ret (by rw [hy])
          refine Tot.ite (fun h2 => ?_) (fun h2 => ?_)
          · have h2 : (((tw (F.drop k)).length : Nat) : Int) > 1 := of_decide_eq_true h2
            refine Tot.bind0 (ints_at hkl) (Tot.ite (fun h3 => Tot.ret ?_) (fun h3 => ?_))
            · have h3 := beq_iff_eq.1 h3
              have : F[k] = 48 := UInt8.toNat_inj.1 (show (F[k]).toNat = 48 by omega)
              have hh : (F.drop k).head? = some F[k] := by rw [hF0]; rfl
              rw [hbad, hh, this, decide_eq_true (by omega)]
              simp
            · have h3 := beq_eq_false_iff_ne.1 h3
              refine (hrest _ fun n => rfl).mono fun y hy => ?_
              have : ¬ F[k] = 48 := fun e => h3 (by rw [e]; rfl)
              have hh : (F.drop k).head? = some F[k] := by rw [hF0]; rfl
              rw [hy, hbad, hh, show (some F[k] == some 48) = false from beq_eq_false_iff_ne.2 (fun e => this (Option.some.inj e)), Bool.false_and, Bool.or_false]
          · have h2 : ¬ (((tw (F.drop k)).length : Nat) : Int) > 1 := of_decide_eq_false h2
            refine (hrest _ fun n => rfl).mono fun y hy => ?_
            rw [hy, hbad, decide_eq_false (by omega), Bool.and_false, Bool.or_false]
      subst hj
      refine Tot.ite (fun h2 => ?_) (fun h2 => ?_)
      · unfold ref4_At
        refine Tot.some_bind (Tot.ret ?_)
        exact ⟨by rw [epr, pr_bad hne h2]; rfl, rfl⟩
      obtain ⟨c, t, hd, hc⟩ := not_bad h2
      have hst := pr_step (b := bigF F) hne h2
      rw [(headD_cons hd).1, (headD_cons hd).2] at hst
      obtain ⟨hkm, hx⟩ := drop_get (F := F) (k := k) (m := (tw (F.drop k)).length) (c := c) (t := t) (by rw [tw_drop, hd])
      have hia := ints_at hkm
      rw [hx] at hia
      have hcl := byte_lt c
      refine Tot.bind0 hia ?_
      simp only [u8_nat hcl]
      refine Tot.bindq (P := (· = ((min (val1 (F.drop k)) 401 : Nat) : Int))) ?_ fun v hv => ?_
      · unfold val1
        refine Tot.ite (fun h3 => Tot.ret ?_) (fun h3 => Tot.ret ?_)
        · have h3 := beq_iff_eq.1 h3
          rw [if_pos (List.length_eq_zero_iff.1 (by omega))]
          rfl
        · have h3 := beq_eq_false_iff_ne.1 h3
          rw [if_neg (fun e => h3 (by rw [e]; rfl))]
      subst hv
      have heq : ∀ q : Nat, (((c.toNat : Nat) : Int) == (q : Int)) = (c.toNat == q) := fun q => by
        rw [Bool.eq_iff_iff, beq_iff_eq, beq_iff_eq]; omega
      refine Tot.bindq (P := (· = (c.toNat == 115 || c.toNat == 120))) ?_ fun cn hcn => ?_
      · refine Tot.ite (fun h3 => Tot.ret ?_) (fun h3 => Tot.ret ?_)
        · rw [← heq 115, show (((c.toNat : Nat) : Int) == ((115 : Nat) : Int)) = true from h3]; rfl
        · rw [← heq 115, show (((c.toNat : Nat) : Int) == ((115 : Nat) : Int)) = false from h3, ← heq 120]; rfl
      refine Tot.bindq (P := fun x : Int × Fld => ∃ n : Nat, n ≤ 401 ∧ x.1 = (n : Int) ∧ (val1 (F.drop k) ≤ 100 → List.replicate n x.2 = item (bigF F) c.toNat (val1 (F.drop k)))) (Tot.ite (fun h3 => Tot.ret ?_) (fun h3 => Tot.ret ?_)) fun x ⟨n, hn, hx1, hx2⟩ => ?_
      · refine ⟨1, by omega, rfl, fun hle => ?_⟩
        unfold item
        rw [← hcn, if_pos h3, show min (val1 (F.drop k)) 401 = val1 (F.drop k) by omega]
        rfl
      · refine ⟨min (val1 (F.drop k)) 401, by omega, rfl, fun hle => ?_⟩
        unfold item
        rw [← hcn, if_neg (by rw [h3]; decide), show min (val1 (F.drop k)) 401 = val1 (F.drop k) by omega]
      obtain ⟨xn, xf⟩ := x
      simp only at hx1 hx2
      subst hx1
      have hbig : decide (((min (val1 (F.drop k)) 401 : Nat) : Int) > 100) = decide (100 < val1 (F.drop k)) := by
        rw [decide_eq_decide]; omega
      refine Tot.bindq (rinn (f := xf) (g := g || decide (100 < val1 (F.drop k))) (by rw [hbig]) hol hn) fun o2 ho2 => ?_
      rw [i64_small (x := (((tw (F.drop k)).length : Nat) : Int) + 1) (by omega) (by omega), i64_small (x := (k : Int) + ((((tw (F.drop k)).length : Nat) : Int) + 1)) (by omega) (by omega)]
      refine Tot.some_bind (Tot.ret ?_)
      have hdt : F.drop (k + (tw (F.drop k)).length + 1) = t := by
        have : (F.drop k).drop (tw (F.drop k)).length = c :: t := by rw [tw_drop, hd]
        rw [List.drop_drop] at this
        rw [← List.drop_drop, this]
        rfl
      refine ⟨⟨k + (tw (F.drop k)).length + 1, P ++ item (bigF F) c.toNat (val1 (F.drop k)), g || decide (100 < val1 (F.drop k)), by omega, by show (k : Int) + _ = _; omega, ?_, by show (g || _) = _; rw [hbig], ?_, fun hg => ?_, ef⟩, ?_⟩
      · rw [epr, hst, hdt, Option.map_map]
        congr 1
        funext y
        simp [Function.comp, Bool.or_assoc]
      · show o2.1.length ≤ 100
        rw [ho2]
        split
        · exact hol
        · simp only [List.length_take]; omega
      · show o2.1 = _ ∧ o2.2 = _
        rw [ho2, if_neg (by rw [hg]; decide)]
        simp only [Bool.or_eq_false_iff, decide_eq_false_iff_not] at hg
        obtain ⟨ho1, hm1⟩ := ho hg.1
        have hit := hx2 (by omega)
        rw [← hit, ho1, hm1]
        refine ⟨take_cut _ _ _, ?_⟩
        simp only [List.length_take, List.length_append, List.length_replicate]
        rw [Bool.eq_iff_iff, Bool.or_eq_true, decide_eq_true_eq, decide_eq_true_eq, decide_eq_true_eq]
        omega
      · show F.length - ((k : Int) + ((((tw (F.drop k)).length : Nat) : Int) + 1)).toNat < F.length - ((k : Int)).toNat
        omega
    · have h1 : ¬ (k : Int) < (F.length : Int) := of_decide_eq_false h1
      rw [List.drop_of_length_le (by omega), pr_nil] at epr
      exact ⟨P, g, by rw [epr]; simp, rfl, ho, ef⟩
  · unfold pres
    rw [if_neg (by omega)]
    cases x with
    | inr r =>
      obtain ⟨hx1, hx2⟩ := hx
      refine Tot.contr ?_
      rw [hx2, hx1]
    | inl st =>
      obtain ⟨o, g, mn, e1, e2⟩ := st
      obtain ⟨P, G, hpr, hg, ho, hf⟩ := hx
      simp only at hg ho hf
      subst hg
      rw [hpr]
      refine Tot.contl ?_
      refine Tot.ite (fun h1 => ?_) (fun h1 => ?_)
      · have h1 : g = true := h1
        subst h1
        unfold ref4_At
        exact Tot.some_bind (Tot.ret rfl)
      · have h1 : g = false := h1
        subst h1
        obtain ⟨ho1, ho2⟩ := ho rfl
        subst ho1 ho2
        refine Tot.ite (fun h2 => ?_) (fun h2 => ?_)
        · have h2 := of_decide_eq_true h2
          unfold ref4_At
          refine Tot.some_bind (Tot.ret ?_)
          show _ = if false = true then _ else _
          rw [if_neg (by decide), if_pos h2]
        · have h2 := of_decide_eq_false h2
          refine Tot.ret ?_
          show _ = if false = true then _ else _
          rw [if_neg (by decide), if_neg h2, List.take_of_length_le (by omega)]
end Go.Gv.P
namespace Go.Gv.P
open Go Go.Gv Go.Gv.D Go.Gv.R
set_option maxRecDepth 100000

/-! ### checks and sizes -/
def cnt (c : Nat) : Bool := c == 115 || c == 120
def bad5 (x : Fld) : Bool := x.1 == 0 || !isC x.1.toNat
def bad4 (x : Fld) : Bool := if cnt x.1.toNat then decide (x.2.1 < 0) || decide (x.2.1 > 100) else x.2.1 != 1
def chkF (b : Bool) : Nat → List Fld → Int × Int
  | _, [] => (0, 0)
  | i, x :: t => if bad5 x = true then (5, (i : Int)) else if bad4 x = true then (4, (i : Int)) else if (!(x.2.2 == b)) = true then (19, (i : Int)) else chkF b (i + 1) t
def fbig (l : List Fld) : Bool := match l with | [] => false | x :: _ => x.2.2
def check (l : List Fld) : Int × Int := if 100 < l.length then (2, -1) else chkF (fbig l) 0 l
def okF (x : Fld) : Prop := 0 ≤ x.1 ∧ x.1 < 256
theorem okF_byte {x : Fld} (h : okF x) : ∃ c : UInt8, x.1 = (c.toNat : Int) ∧ x.1.toNat = c.toNat := by
  refine ⟨x.1.toNat.toUInt8, ?_, ?_⟩
  · have : (x.1.toNat.toUInt8).toNat = x.1.toNat := UInt8.toNat_ofNat_of_lt' (show x.1.toNat < 256 by have := h.1; have := h.2; omega)
    rw [this]; have := h.1; omega
  · exact (UInt8.toNat_ofNat_of_lt' (show x.1.toNat < 256 by have := h.1; have := h.2; omega)).symm
theorem idx_head {l : List Fld} (h : 0 < l.length) : ∃ x0, idx l 0 = some x0 ∧ x0.2.2 = fbig l := by
  cases l with
  | nil => simp at h
  | cons x t => exact ⟨x, idx_nat (i := 0) (by simp), rfl⟩
theorem int_beq (a b : Nat) : (((a : Nat) : Int) == (b : Int)) = (a == b) := by
  rw [Bool.eq_iff_iff, beq_iff_eq, beq_iff_eq]; omega

theorem Check_tot {l : List Fld} (hl : l.length ≤ 1048576) (h : ∀ x ∈ l, okF x) : Tot (fun n => packing_Check n l) (· = check l) := by
  unfold packing_Check check
  refine Tot.ite (fun h1 => ?_) (fun h1 => ?_)
  · have h1 : ((l.length : Nat) : Int) > 100 := of_decide_eq_true h1
    unfold packing_at
    rw [if_pos (by omega)]
    exact Tot.some_bind (Tot.ret rfl)
  have h1 : ¬ ((l.length : Nat) : Int) > 100 := of_decide_eq_false h1
  rw [if_neg (by omega)]
  refine Tot.bindq (P := fun x => match x with | .inl _ => chkF (fbig l) 0 l = (0, 0) | .inr r => r = chkF (fbig l) 0 l) ?_ fun x hx => ?_
  · refine Tot.loop (fun st => ∃ i : Nat, i ≤ l.length ∧ st.1 = (i : Int) ∧ chkF (fbig l) 0 l = chkF (fbig l) i (l.drop i)) (fun st => l.length - st.1.toNat) ⟨0, Nat.zero_le _, rfl, rfl⟩ fun st ⟨i, hi, e1, hc⟩ => ?_
    obtain ⟨j, f1, f2⟩ := st
    simp only at e1
    subst e1
    refine Tot.ite (fun h2 => ?_) (fun h2 => Tot.ret ?_)
    · have h2 : (i : Int) < (l.length : Int) := of_decide_eq_true h2
      have hil : i < l.length := by omega
      refine Tot.bind0 (idx_nat hil) ?_
      rw [List.drop_eq_getElem_cons hil] at hc
      have hok := h _ (List.getElem_mem hil)
      generalize l[i] = y at hc hok ⊢
      obtain ⟨c, hcb, hcn⟩ := okF_byte hok
      have hc' : chkF (fbig l) 0 l = if bad5 y = true then (5, (i : Int)) else if bad4 y = true then (4, (i : Int)) else if (!(y.2.2 == fbig l)) = true then (19, (i : Int)) else chkF (fbig l) (i + 1) (l.drop (i + 1)) := hc
      have hcnt : (y.1 == 115 || y.1 == 120) = cnt y.1.toNat := by
        rw [hcb]
        exact congr (congrArg or (int_beq c.toNat 115)) (int_beq c.toNat 120)
      refine Tot.bindq (P := (· = bad5 y)) (Tot.ite (fun h3 => Tot.ret ?_) (fun h3 => ?_)) fun b hb => ?_
      · unfold bad5; rw [h3]; rfl
      · unfold bad5
        rw [h3, Bool.false_or, hcn, hcb]
        exact Tot.bindq (IndexByte_tot c) fun r hr => Tot.ret hr
      subst hb
      unfold packing_at
      refine Tot.ite (fun h3 => Tot.some_bind (Tot.ret ?_)) (fun h3 => ?_)
      · show _ = _
        rw [hc', if_pos h3]
      rw [if_neg (by rw [h3]; decide)] at hc'
      refine Tot.bindq (P := (· = (cnt y.1.toNat && (decide (y.2.1 < 0) || decide (y.2.1 > 100))))) (Tot.bindq (counted_tot _) fun b hb => ?_) fun b hb => ?_
      · rw [hcnt] at hb
        rw [← hb]
        refine Tot.ite (fun h4 => ?_) (fun h4 => Tot.ret (by rw [h4]; rfl))
        rw [h4, Bool.true_and]
        exact Tot.ite (fun h5 => Tot.ret (by rw [h5]; rfl)) (fun h5 => Tot.ret (by rw [h5]; rfl))
      refine Tot.bindq (P := (· = bad4 y)) ?_ fun b2 hb2 => ?_
      · unfold bad4
        refine Tot.ite (fun h4 => Tot.ret ?_) (fun h4 => Tot.bindq (counted_tot _) fun b3 hb3 => ?_)
        · rw [h4] at hb ⊢
          have := hb.symm
          simp only [Bool.and_eq_true] at this
          rw [if_pos this.1, this.2]
        · rw [hcnt] at hb3
          rw [hb3]
          rw [h4] at hb
          cases hq : cnt y.1.toNat with
          | true =>
            rw [hq, Bool.true_and] at hb
            refine Tot.if_ rfl (Tot.ret ?_)
            rw [if_pos rfl, ← hb]
          | false =>
            refine Tot.it rfl (Tot.ret ?_)
            rw [if_neg (by decide)]
      subst hb2
      refine Tot.ite (fun h4 => Tot.some_bind (Tot.ret ?_)) (fun h4 => ?_)
      · show _ = _
        rw [hc', if_pos h4]
      rw [if_neg (by rw [h4]; decide)] at hc'
      obtain ⟨x0, hx0, hx1⟩ := idx_head (l := l) (by omega)
      refine Tot.bind0 hx0 ?_
      rw [hx1]
      refine Tot.ite (fun h5 => Tot.some_bind (Tot.ret ?_)) (fun h5 => Tot.ret ?_)
      · show _ = _
        rw [hc', if_pos h5]
      rw [if_neg (by rw [h5]; decide)] at hc'
      rw [i64_small (by omega) (by omega)]
      refine ⟨⟨i + 1, hil, by simp, hc'⟩, ?_⟩
      show _ - ((i : Int) + 1).toNat < _ - ((i : Int)).toNat
      omega
    · have h2 : ¬ (i : Int) < (l.length : Int) := of_decide_eq_false h2
      show _ = _
      rw [hc, List.drop_of_length_le (by omega)]
      rfl
  · cases x with
    | inl s => exact Tot.contl (Tot.ret hx.symm)
    | inr r => exact Tot.contr hx

theorem Fault_tot {l : List Fld} (hl : l.length ≤ 1048576) (h : ∀ x ∈ l, okF x) : Tot (fun n => ref4_FieldsFault n l) (· = check l) := by
  unfold ref4_FieldsFault check
  refine Tot.ite (fun h1 => ?_) (fun h1 => ?_)
  · have h1 : ((l.length : Nat) : Int) > 100 := of_decide_eq_true h1
    unfold ref4_At
    rw [if_pos (by omega)]
    exact Tot.some_bind (Tot.ret rfl)
  have h1 : ¬ ((l.length : Nat) : Int) > 100 := of_decide_eq_false h1
  rw [if_neg (by omega)]
  refine Tot.bindq (P := fun x => match x with | .inl _ => chkF (fbig l) 0 l = (0, 0) | .inr r => r = chkF (fbig l) 0 l) ?_ fun x hx => ?_
  · refine Tot.loop (fun st => ∃ i : Nat, i ≤ l.length ∧ st.1 = (i : Int) ∧ chkF (fbig l) 0 l = chkF (fbig l) i (l.drop i)) (fun st => l.length - st.1.toNat) ⟨0, Nat.zero_le _, rfl, rfl⟩ fun st ⟨i, hi, e1, hc⟩ => ?_
    obtain ⟨j, f1, f2⟩ := st
    simp only at e1
    subst e1
    refine Tot.ite (fun h2 => ?_) (fun h2 => Tot.ret ?_)
    · have h2 : (i : Int) < (l.length : Int) := of_decide_eq_true h2
      have hil : i < l.length := by omega
      have hix := idx_nat hil
      rw [List.drop_eq_getElem_cons hil] at hc
      have hok := h _ (List.getElem_mem hil)
      generalize l[i] = y at hc hok hix
      obtain ⟨c, hcb, hcn⟩ := okF_byte hok
      have hc' : chkF (fbig l) 0 l = if bad5 y = true then (5, (i : Int)) else if bad4 y = true then (4, (i : Int)) else if (!(y.2.2 == fbig l)) = true then (19, (i : Int)) else chkF (fbig l) (i + 1) (l.drop (i + 1)) := hc
      have hcnt : (y.1 == 115 || y.1 == 120) = cnt y.1.toNat := by
        rw [hcb]
        exact congr (congrArg or (int_beq c.toNat 115)) (int_beq c.toNat 120)
      refine Tot.bindq (P := (· = cnt y.1.toNat)) (Tot.bind0 hix (Tot.ite (fun h3 => Tot.ret ?_) (fun h3 => Tot.bind0 hix (Tot.ret ?_)))) fun q hq => ?_
      · rw [← hcnt, h3]; rfl
      · rw [← hcnt, h3]; rfl
      subst hq
      refine Tot.bindq (P := (· = bad5 y)) (Tot.bind0 hix (Tot.ite (fun h3 => Tot.ret ?_) (fun h3 => Tot.bind0 hix ?_))) fun b hb => ?_
      · unfold bad5; rw [h3]; rfl
      · unfold bad5
        rw [h3, Bool.false_or, hcn, hcb]
        exact Tot.bindq (oneOf_tot c) fun r hr => Tot.ret (by rw [hr])
      subst hb
      unfold ref4_At
      refine Tot.ite (fun h3 => Tot.some_bind (Tot.ret ?_)) (fun h3 => ?_)
      · show _ = _
        rw [hc', if_pos h3]
      rw [if_neg (by rw [h3]; decide)] at hc'
      refine Tot.bindq (P := (· = bad4 y)) ?_ fun b2 hb2 => ?_
      · unfold bad4
        cases hq : cnt y.1.toNat with
        | true =>
          refine Tot.it rfl (Tot.bind0 hix ?_)
          rw [if_pos rfl]
          refine Tot.ite (fun h4 => Tot.ret (by rw [h4]; rfl)) (fun h4 => Tot.bind0 hix ?_)
          rw [h4, Bool.false_or]
          exact Tot.ite (fun h5 => Tot.ret h5.symm) (fun h5 => Tot.if_ rfl (Tot.ret h5.symm))
        | false =>
          refine Tot.if_ rfl (Tot.it rfl (Tot.bind0 hix (Tot.ret ?_)))
          rw [if_neg (by decide)]
      subst hb2
      refine Tot.ite (fun h4 => Tot.some_bind (Tot.ret ?_)) (fun h4 => ?_)
      · show _ = _
        rw [hc', if_pos h4]
      rw [if_neg (by rw [h4]; decide)] at hc'
      obtain ⟨x0, hx0, hx1⟩ := idx_head (l := l) (by omega)
      refine Tot.bind0 hix (Tot.bind0 hx0 ?_)
      rw [hx1]
      refine Tot.ite (fun h5 => Tot.some_bind (Tot.ret ?_)) (fun h5 => Tot.ret ?_)
      · show _ = _
        rw [hc', if_pos h5]
      rw [if_neg (by rw [h5]; decide)] at hc'
      rw [i64_small (by omega) (by omega)]
      refine ⟨⟨i + 1, hil, by simp, hc'⟩, ?_⟩
      show _ - ((i : Int) + 1).toNat < _ - ((i : Int)).toNat
      omega
    · have h2 : ¬ (i : Int) < (l.length : Int) := of_decide_eq_false h2
      show _ = _
      rw [hc, List.drop_of_length_le (by omega)]
      rfl
  · cases x with
    | inl s => exact Tot.contl (Tot.ret hx.symm)
    | inr r => exact Tot.contr hx
end Go.Gv.P
namespace Go.Gv.P
open Go Go.Gv Go.Gv.D Go.Gv.R
set_option maxRecDepth 100000

def wid (c : Nat) : Int := if c = 98 ∨ c = 66 then 1 else if c = 104 ∨ c = 72 then 2 else if c = 105 ∨ c = 73 then 4 else if c = 113 ∨ c = 81 then 8 else 0
theorem width_all (k : Nat) : (List.range 256).all (fun n => packing_width (k + 20) (n : Int) == some (wid n, decide (97 ≤ n))) = true := by kernel_rfl
theorem width_tot {c : Nat} (h : c < 256) : Tot (fun n => packing_width n (c : Int)) (· = (wid c, decide (97 ≤ c))) :=
  Tot.of_all 20 (fun k => beq_iff_eq.1 (List.all_eq_true.1 (width_all k) c (List.mem_range.2 h))) rfl
theorem widthOf_all (k : Nat) : (List.range 256).all (fun n => ref4_widthOf (k + 20) (n : Int) == some (wid n)) = true := by kernel_rfl
theorem widthOf_tot {c : Nat} (h : c < 256) : Tot (fun n => ref4_widthOf n (c : Int)) (· = wid c) :=
  Tot.of_all 20 (fun k => beq_iff_eq.1 (List.all_eq_true.1 (widthOf_all k) c (List.mem_range.2 h))) rfl
def loF (x : Fld) : Int := if 0 < wid x.1.toNat then wid x.1.toNat else if x.1.toNat = 118 then 1 else if x.1.toNat = 112 then 1 else x.2.1
def hiF (x : Fld) : Int := if 0 < wid x.1.toNat then wid x.1.toNat else if x.1.toNat = 118 then 10 else if x.1.toNat = 112 then 256 else x.2.1
def szF : Int × Int → List Fld → Int × Int
  | s, [] => s
  | s, x :: t => szF (IntKind.i64.wrap (s.1 + loF x), IntKind.i64.wrap (s.2 + hiF x)) t
def good (b : Bool) (x : Fld) : Prop := bad5 x = false ∧ bad4 x = false ∧ x.2.2 = b
theorem chk_good {b : Bool} : ∀ {l : List Fld} {i : Nat}, (∀ x ∈ l, good b x) → chkF b i l = (0, 0)
  | [], _, _ => rfl
  | x :: t, i, h => by
    obtain ⟨h1, h2, h3⟩ := h x (List.mem_cons_self ..)
    show (if _ then _ else _) = _
    rw [if_neg (by rw [h1]; decide), if_neg (by rw [h2]; decide), if_neg (by rw [h3]; simp)]
    exact chk_good fun y hy => h y (List.mem_cons_of_mem _ hy)
theorem good_chk {b : Bool} : ∀ {l : List Fld} {i : Nat}, (chkF b i l).1 = 0 → chkF b i l = (0, 0) ∧ ∀ x ∈ l, good b x
  | [], _, _ => ⟨rfl, fun x hx => by cases hx⟩
  | x :: t, i, h => by
    have e : chkF b i (x :: t) = if bad5 x = true then (5, (i : Int)) else if bad4 x = true then (4, (i : Int)) else if (!(x.2.2 == b)) = true then (19, (i : Int)) else chkF b (i + 1) t := rfl
    rw [e] at h ⊢
    by_cases h1 : bad5 x = true
    · rw [if_pos h1] at h; cases h
    rw [if_neg h1] at h ⊢
    by_cases h2 : bad4 x = true
    · rw [if_pos h2] at h; cases h
    rw [if_neg h2] at h ⊢
    by_cases h3 : (!(x.2.2 == b)) = true
    · rw [if_pos h3] at h; cases h
    rw [if_neg h3] at h ⊢
    obtain ⟨g1, g2⟩ := good_chk h
    refine ⟨g1, fun y hy => ?_⟩
    rcases List.mem_cons.1 hy with e | e
    · subst e
      exact ⟨by simpa using h1, by simpa using h2, by simpa using h3⟩
    · exact g2 y e
theorem check_zero {l : List Fld} (h : (check l).1 = 0) : check l = (0, 0) ∧ ∀ x ∈ l, good (fbig l) x := by
  unfold check at h ⊢
  by_cases h1 : 100 < l.length
  · rw [if_pos h1] at h; cases h
  rw [if_neg h1] at h ⊢
  exact good_chk h

theorem Sizes_tot {l : List Fld} (hl : l.length ≤ 1048576) (h : ∀ x ∈ l, okF x) : Tot (fun n => packing_Sizes n l) (fun r => r = if (check l).1 ≠ 0 then (0, 0, check l) else ((szF (0, 0) l).1, (szF (0, 0) l).2, (0, 0))) := by
  unfold packing_Sizes
  refine Tot.bindq (Check_tot hl h) fun r hr => ?_
  subst hr
  refine Tot.ite (fun h1 => Tot.ret ?_) (fun h1 => ?_)
  · rw [if_pos (by simpa using h1)]
  have h1 : (check l).1 = 0 := by simpa using h1
  rw [if_neg (by simp [h1])]
  refine Tot.bindq (P := (· = szF (0, 0) l)) ?_ fun x hx => Tot.ret (by rw [hx])
  refine Tot.loop (fun st => ∃ i : Nat, i ≤ l.length ∧ st.2.2 = (i : Int) ∧ szF (0, 0) l = szF (st.1, st.2.1) (l.drop i)) (fun st => l.length - st.2.2.toNat) ⟨0, Nat.zero_le _, rfl, rfl⟩ fun st ⟨i, hi, e1, hc⟩ => ?_
  obtain ⟨a, b, j⟩ := st
  simp only at e1 hc
  subst e1
  refine Tot.ite (fun h2 => ?_) (fun h2 => Tot.ret ?_)
  · have h2 : (i : Int) < (l.length : Int) := of_decide_eq_true h2
    have hil : i < l.length := by omega
    refine Tot.bind0 (idx_nat hil) ?_
    rw [List.drop_eq_getElem_cons hil] at hc
    have hok := h _ (List.getElem_mem hil)
    generalize l[i] = y at hc hok ⊢
    obtain ⟨c, hcb, hcn⟩ := okF_byte hok
    have hcl := byte_lt c
    have hw : Tot (fun n => packing_width n y.1) (· = (wid c.toNat, decide (97 ≤ c.toNat))) := by rw [hcb]; exact width_tot hcl
    refine Tot.bindq hw fun r hr => ?_
    subst hr
    refine Tot.bindq (P := (· = (loF y, hiF y))) ?_ fun p hp => Tot.ret ?_
    · unfold loF hiF
      rw [hcn]
      have h118 : (y.1 == 118) = decide (c.toNat = 118) := by rw [hcb, Bool.eq_iff_iff, beq_iff_eq, decide_eq_true_eq]; omega
      have h112 : (y.1 == 112) = decide (c.toNat = 112) := by rw [hcb, Bool.eq_iff_iff, beq_iff_eq, decide_eq_true_eq]; omega
      refine Tot.ite (fun h3 => Tot.ret ?_) (fun h3 => ?_)
      · have h3 : 0 < wid c.toNat := of_decide_eq_true h3
        rw [if_pos h3, if_pos h3]
      have h3 : ¬ 0 < wid c.toNat := of_decide_eq_false h3
      rw [if_neg h3, if_neg h3]
      refine Tot.ite (fun h4 => Tot.ret ?_) (fun h4 => ?_)
      · rw [h118] at h4
        rw [if_pos (of_decide_eq_true h4), if_pos (of_decide_eq_true h4)]
      rw [h118] at h4
      rw [if_neg (of_decide_eq_false h4), if_neg (of_decide_eq_false h4)]
      refine Tot.ite (fun h4 => Tot.ret ?_) (fun h4 => Tot.ret ?_)
      · rw [h112] at h4
        rw [if_pos (of_decide_eq_true h4), if_pos (of_decide_eq_true h4)]
      rw [h112] at h4
      rw [if_neg (of_decide_eq_false h4), if_neg (of_decide_eq_false h4)]
    · subst hp
      rw [i64_small (x := (i : Int) + 1) (by omega) (by omega)]
      refine ⟨⟨i + 1, hil, by simp, hc⟩, ?_⟩
      show _ - ((i : Int) + 1).toNat < _ - ((i : Int)).toNat
      omega
  · have h2 : ¬ (i : Int) < (l.length : Int) := of_decide_eq_false h2
    show _ = _
    rw [hc, List.drop_of_length_le (by omega)]
    rfl

theorem kinds : ∀ c, c < 256 → isC c = true → (0 < wid c ∧ c ≠ 118 ∧ c ≠ 112 ∧ cnt c = false ∧ c ≠ 63) ∨ (¬ 0 < wid c ∧ (c = 118 ∨ c = 112 ∨ cnt c = true ∨ c = 63)) := fun c hc h => by
  have h1 : (List.range 256).all (fun c => !isC c || (decide ((0 < wid c ∧ c ≠ 118 ∧ c ≠ 112 ∧ cnt c = false ∧ c ≠ 63) ∨ (¬ 0 < wid c ∧ (c = 118 ∨ c = 112 ∨ cnt c = true ∨ c = 63))))) = true := by kernel_rfl
  have := List.all_eq_true.1 h1 c (List.mem_range.2 hc)
  rw [h] at this
  exact of_decide_eq_true this
theorem SizesOf_tot {l : List Fld} (hl : l.length ≤ 1048576) (h : ∀ x ∈ l, okF x) (hg : ∀ x ∈ l, good (fbig l) x) : Tot (fun n => ref4_SizesOf n l) (· = szF (0, 0) l) := by
  unfold ref4_SizesOf
  refine Tot.bindq (P := (· = szF (0, 0) l)) ?_ fun x hx => Tot.ret (by rw [hx])
  refine Tot.loop (fun st => ∃ i : Nat, i ≤ l.length ∧ st.2.2 = (i : Int) ∧ szF (0, 0) l = szF (st.1, st.2.1) (l.drop i)) (fun st => l.length - st.2.2.toNat) ⟨0, Nat.zero_le _, rfl, rfl⟩ fun st ⟨i, hi, e1, hc⟩ => ?_
  obtain ⟨a, b, j⟩ := st
  simp only at e1 hc
  subst e1
  refine Tot.ite (fun h2 => ?_) (fun h2 => Tot.ret ?_)
  · have h2 : (i : Int) < (l.length : Int) := of_decide_eq_true h2
    have hil : i < l.length := by omega
    have hix := idx_nat hil
    refine Tot.bind0 hix ?_
    rw [List.drop_eq_getElem_cons hil] at hc
    have hok := h _ (List.getElem_mem hil)
    have hgd := hg _ (List.getElem_mem hil)
    generalize l[i] = y at hc hok hgd hix ⊢
    obtain ⟨c, hcb, hcn⟩ := okF_byte hok
    have hcl := byte_lt c
    have hw : Tot (fun n => ref4_widthOf n y.1) (· = wid c.toNat) := by rw [hcb]; exact widthOf_tot hcl
    refine Tot.bindq hw fun r hr => ?_
    subst hr
    refine Tot.bind0 hix ?_
    have hq : ∀ k : Nat, (y.1 == (k : Int)) = (c.toNat == k) := fun k => by rw [hcb]; exact int_beq _ _
    have hisC : isC c.toNat = true := by
      have := hgd.1
      unfold bad5 at this
      rw [hcn] at this
      simp only [Bool.or_eq_false_iff, Bool.not_eq_false'] at this
      exact this.2
    have hb4 := hgd.2.1
    unfold bad4 at hb4
    rw [hcn] at hb4
    have hk := kinds _ hcl hisC
    refine Tot.bindq (P := (· = (IntKind.i64.wrap (a + loF y), IntKind.i64.wrap (b + hiF y)))) ?_ fun p hp => Tot.ret ?_
    · unfold loF hiF
      rw [hcn]
      refine Tot.ite (fun h3 => Tot.ret ?_) (fun h3 => ?_)
      · have h3 : c.toNat = 118 := by rw [show (y.1 == 118) = (c.toNat == 118) from hq 118] at h3; exact beq_iff_eq.1 h3
        have h0 : ¬ 0 < wid c.toNat := by rcases hk with hk | hk; exact absurd h3 hk.2.1; exact hk.1
        rw [if_neg h0, if_neg h0, if_pos h3, if_pos h3]
      have n3 : ¬ c.toNat = 118 := by rw [show (y.1 == 118) = (c.toNat == 118) from hq 118] at h3; exact beq_eq_false_iff_ne.1 h3
      refine Tot.ite (fun h4 => Tot.ret ?_) (fun h4 => ?_)
      · have h4 : c.toNat = 112 := by rw [show (y.1 == 112) = (c.toNat == 112) from hq 112] at h4; exact beq_iff_eq.1 h4
        have h0 : ¬ 0 < wid c.toNat := by rcases hk with hk | hk; exact absurd h4 hk.2.2.1; exact hk.1
        rw [if_neg h0, if_neg h0, if_neg n3, if_neg n3, if_pos h4, if_pos h4]
      have n4 : ¬ c.toNat = 112 := by rw [show (y.1 == 112) = (c.toNat == 112) from hq 112] at h4; exact beq_eq_false_iff_ne.1 h4
      refine Tot.bindq (P := (· = cnt c.toNat)) (Tot.ite (fun h5 => Tot.ret ?_) (fun h5 => Tot.ret ?_)) fun q hqq => ?_
      · have e := hq 115
        show (y.1 == 115) = _
        unfold cnt
        rw [show (y.1 == 115) = (c.toNat == 115) from e] at h5 ⊢
        rw [h5]; rfl
      · have e := hq 120
        show (y.1 == 120) = _
        unfold cnt
        rw [show (y.1 == 115) = (c.toNat == 115) from hq 115] at h5
        rw [h5, Bool.false_or]
        exact e
      subst hqq
      refine Tot.ite (fun h5 => Tot.bind0 hix (Tot.bind0 hix (Tot.ret ?_))) (fun h5 => ?_)
      · have h0 : ¬ 0 < wid c.toNat := by rcases hk with hk | hk; exact absurd h5 (by rw [hk.2.2.2.1]; decide); exact hk.1
        rw [if_neg h0, if_neg h0, if_neg n3, if_neg n3, if_neg n4, if_neg n4]
      rw [if_neg (by rw [h5]; decide)] at hb4
      have hone : y.2.1 = 1 := by simpa using hb4
      refine Tot.ite (fun h6 => Tot.ret ?_) (fun h6 => Tot.ret ?_)
      · have h6 : c.toNat = 63 := by rw [show (y.1 == 63) = (c.toNat == 63) from hq 63] at h6; exact beq_iff_eq.1 h6
        have h0 : ¬ 0 < wid c.toNat := by rcases hk with hk | hk; exact absurd h6 hk.2.2.2.2; exact hk.1
        rw [if_neg h0, if_neg h0, if_neg n3, if_neg n3, if_neg n4, if_neg n4, hone]
      · have n6 : ¬ c.toNat = 63 := by rw [show (y.1 == 63) = (c.toNat == 63) from hq 63] at h6; exact beq_eq_false_iff_ne.1 h6
        have h0 : 0 < wid c.toNat := by
          rcases hk with hk | hk
          · exact hk.1
          · rcases hk.2 with e | e | e | e
            · exact absurd e n3
            · exact absurd e n4
            · rw [h5] at e; cases e
            · exact absurd e n6
        rw [if_pos h0, if_pos h0]
    · subst hp
      rw [i64_small (x := (i : Int) + 1) (by omega) (by omega)]
      refine ⟨⟨i + 1, hil, by simp, hc⟩, ?_⟩
      show _ - ((i : Int) + 1).toNat < _ - ((i : Int)).toNat
      omega
  · have h2 : ¬ (i : Int) < (l.length : Int) := of_decide_eq_false h2
    show _ = _
    rw [hc, List.drop_of_length_le (by omega)]
    rfl

theorem Same_tot {a : List Fld} (hl : a.length ≤ 1048576) : Tot (fun n => ref4_SameFields n a a) (· = true) := by
  unfold ref4_SameFields
  refine Tot.if_ (by simp) ?_
  refine Tot.bindq (P := fun x => match x with | .inl _ => True | .inr _ => False) ?_ fun x hx => ?_
  · refine Tot.loop (fun st => ∃ i : Nat, i ≤ a.length ∧ st = (i : Int)) (fun st => a.length - st.toNat) ⟨0, Nat.zero_le _, rfl⟩ fun st ⟨i, hi, e⟩ => ?_
    subst e
    refine Tot.ite (fun h2 => ?_) (fun h2 => Tot.ret trivial)
    have h2 : (i : Int) < (a.length : Int) := of_decide_eq_true h2
    have hil : i < a.length := by omega
    refine Tot.bind0 (idx_nat hil) (Tot.bind0 (idx_nat hil) (Tot.if_ (by simp) (Tot.ret ?_)))
    rw [i64_small (by omega) (by omega)]
    refine ⟨⟨i + 1, hil, by simp⟩, ?_⟩
    show _ - ((i : Int) + 1).toNat < _ - ((i : Int)).toNat
    omega
  · cases x with
    | inl _ => exact Tot.contl (Tot.ret rfl)
    | inr _ => cases hx

theorem item_good {b : Bool} {c : UInt8} {v : Nat} (hc : isC c.toNat = true) (hv : v ≤ 100) : ∀ x ∈ item b c.toNat v, good b x ∧ okF x := fun x hx => by
  have hcb := byte_lt c
  have h0 : c.toNat ≠ 0 := fun e => by rw [e, isC_0] at hc; cases hc
  unfold item at hx
  have h5 : ∀ (w : Int), bad5 ((c.toNat : Int), w, b) = false := fun w => by
    unfold bad5
    simp only [Int.toNat_natCast, hc, Bool.not_true, Bool.or_false]
    exact beq_eq_false_iff_ne.2 (by omega)
  by_cases h1 : (c.toNat == 115 || c.toNat == 120) = true
  · rw [if_pos h1] at hx
    simp only [List.mem_cons, List.not_mem_nil, or_false] at hx
    subst hx
    refine ⟨⟨h5 _, ?_, rfl⟩, by show (0 : Int) ≤ (c.toNat : Int); omega, by show (c.toNat : Int) < 256; omega⟩
    unfold bad4 cnt
    simp only [Int.toNat_natCast]
    rw [if_pos h1, decide_eq_false (by omega), decide_eq_false (by omega)]
    rfl
  · rw [if_neg h1] at hx
    have := List.eq_of_mem_replicate hx
    subst this
    refine ⟨⟨h5 _, ?_, rfl⟩, by show (0 : Int) ≤ (c.toNat : Int); omega, by show (c.toNat : Int) < 256; omega⟩
    unfold bad4 cnt
    simp only [Int.toNat_natCast]
    rw [if_neg h1]
    rfl
theorem prs_good {b : Bool} : ∀ (n : Nat) (L : List UInt8) (o : List Fld), prs b n L = some (o, false) → ∀ x ∈ o, good b x ∧ okF x
  | 0, L, o, h => by
    cases h
    intro x hx; cases hx
  | n + 1, L, o, h => by
    have e : prs b (n + 1) L = if L = [] then some ([], false) else if bad L = true then none else (prs b n (dw L).tail).map fun x => (item b ((dw L).headD 0).toNat (val1 L) ++ x.1, decide (100 < val1 L) || x.2) := rfl
    rw [e] at h
    by_cases h0 : L = []
    · rw [if_pos h0] at h
      cases h
      intro x hx; cases hx
    rw [if_neg h0] at h
    by_cases h1 : bad L = true
    · rw [if_pos h1] at h; cases h
    rw [if_neg h1] at h
    obtain ⟨c, t, hd, hc⟩ := not_bad (by simpa using h1)
    rw [(headD_cons hd).1] at h
    cases hp : prs b n (dw L).tail with
    | none => rw [hp] at h; cases h
    | some y =>
      rw [hp] at h
      obtain ⟨p, g⟩ := y
      simp only [Option.map_some, Option.some.injEq, Prod.mk.injEq, Bool.or_eq_false_iff, decide_eq_false_iff_not] at h
      obtain ⟨h2, h3, h4⟩ := h
      subst h4 h2
      intro x hx
      rcases List.mem_append.1 hx with hx | hx
      · exact item_good hc (by omega) x hx
      · exact prs_good n _ p hp x hx
theorem pres_ok (F : List UInt8) : (pres F).1.length ≤ 100 ∧ ((pres F).2.1 = 0 → (pres F).2 = (0, 0) ∧ check (pres F).1 = (0, 0)) ∧ ∀ x ∈ (pres F).1, okF x := by
  unfold pres
  by_cases h1 : 60 < F.length
  · rw [if_pos h1]
    exact ⟨Nat.zero_le _, (by intro h; cases h), fun x hx => by cases hx⟩
  rw [if_neg h1]
  cases hp : pr (bigF F) (body F) with
  | none => exact ⟨Nat.zero_le _, (by intro h; cases h), fun x hx => by cases hx⟩
  | some y =>
    obtain ⟨o, g⟩ := y
    cases g with
    | true => exact ⟨Nat.zero_le _, (by intro h; cases h), fun x hx => by cases hx⟩
    | false =>
      show (if false = true then _ else _ : List Fld × (Int × Int)).1.length ≤ 100 ∧ _
      simp only
      rw [if_neg (by decide)]
      by_cases h2 : 100 < o.length
      · rw [if_pos h2]
        exact ⟨Nat.zero_le _, (by intro h; cases h), fun x hx => by cases hx⟩
      rw [if_neg h2]
      have hg := prs_good _ _ _ hp
      refine ⟨by show o.length ≤ 100; omega, fun _ => ⟨rfl, ?_⟩, fun x hx => (hg x hx).2⟩
      · unfold check
        rw [if_neg h2]
        cases o with
        | nil => rfl
        | cons x t =>
          have : fbig (x :: t) = bigF F := (hg x (List.mem_cons_self ..)).1.2.2
          rw [this]
          exact chk_good fun y hy => (hg y hy).1
end Go.Gv.P
namespace Go.Gv.P
open Go Go.Gv Go.Gv.D Go.Gv.R
set_option maxRecDepth 100000

theorem u8_okF {x : Fld} (h : inK .u8 x.1) : okF x := by
  have : 0 ≤ x.1 ∧ x.1 ≤ 255 := by simpa [inK, Lit.wf, IntKind.min, IntKind.max, IntKind.signed, IntKind.bits] using h
  exact ⟨this.1, by omega⟩
theorem sumL_len {α : Type} (m : α → Nat) (hm : ∀ x, 1 ≤ m x) : ∀ (l : List α), l.length + 1 ≤ sumL m l
  | [] => Nat.le_refl _
  | x :: t => by
    have := sumL_len m hm t
    unfold sumL at this ⊢
    simp only [List.map_cons, List.sum_cons, List.length_cons]
    have := hm x
    omega
theorem PackingFormats_tot (F : List UInt8) {l : List Fld} (hF : F.length ≤ 1048576) (hl : l.length ≤ 1048576) (h : ∀ x ∈ l, okF x) : Tot (fun n => law4_PackingFormats n (strOf F) l) (· = true) := by
  unfold law4_PackingFormats
  refine Tot.bindq (Parse_tot hF) fun r1 h1 => ?_
  refine Tot.bindq (Sizes_tot hl h) fun r2 h2 => ?_
  refine Tot.bindq (FieldsRead_tot hF) fun r3 h3 => ?_
  refine Tot.bindq (Fault_tot hl h) fun r4 h4 => ?_
  subst h1 h3 h4
  obtain ⟨p1, p2, p3⟩ := pres_ok F
  have hr2 : r2.2.2 = check l := by
    rw [h2]
    by_cases hz : (check l).1 = 0
    · rw [if_neg (by simp [hz]), (check_zero hz).1]
    · rw [if_pos hz]
  refine Tot.bindq (P := (· = false)) ?_ fun j hj => ?_
  · refine Tot.bindq packs_tot fun r90 h90 => ?_
    subst h90
    refine Tot.if_ rfl (Tot.if_ (by simp) ?_)
    refine Tot.bindq (Same_tot (by omega)) fun b hb => ?_
    subst hb
    refine Tot.if_ rfl ?_
    refine Tot.bindq (Check_tot hl h) fun r5 h5 => ?_
    subst h5
    refine Tot.if_ (by simp) (Tot.if_ (by rw [hr2]; simp) ?_)
    refine Tot.ite (fun hz => ?_) (fun hz => Tot.ret rfl)
    refine Tot.bindq (Check_tot (by omega) p3) fun r6 h6 => Tot.ret ?_
    rw [h6, (p2 (beq_iff_eq.1 hz)).2]
    rfl
  subst hj
  refine Tot.if_ rfl (Tot.ite (fun hz => Tot.ret ?_) (fun hz => ?_))
  · have hz : (check l).1 ≠ 0 := by simpa using hz
    rw [h2, if_pos hz]
    rfl
  · have hz : (check l).1 = 0 := by simpa using hz
    refine Tot.bindq (SizesOf_tot hl h (check_zero hz).2) fun r7 h7 => Tot.ret ?_
    rw [h2, if_neg (by simp [hz]), h7]
    simp
theorem PackingFormats_said (s : ByteArray) (l : List (Int × Int × Bool)) (_ : s.size ≤ maxLen) (hl : (∀ x ∈ l, (fun x => inK .u8 x.1 ∧ (fun x => inK .i64 x.1 ∧ (fun _ => True) x.2) x.2) x) ∧ l.length ≤ maxLen) (hb : (s.size + 1) + (sumL (fun x => (fun x => (fun _ => 1) x.1 + (fun x => (fun _ => 1) x.1 + (fun _ => 1) x.2) x.2) x + 1) l) ≤ 1048576) : Tot (fun n => law4_PackingFormats n s l) (· = true) := by
  have := sumL_len (fun x : Int × Int × Bool => (fun x => (fun _ => 1) x.1 + (fun x => (fun _ => 1) x.1 + (fun _ => 1) x.2) x.2) x + 1) (fun x => by simp) l
  have h1 := PackingFormats_tot (bytesOf s) (l := l) (by rw [← size_bytes]; omega) (by omega) fun x hx => u8_okF (hl.1 x hx).1
  rwa [str_bytes] at h1
end Go.Gv.P

