import Derived.Test.YtdpmkphjcjacfaaGreatDoorV8
import Derived.Test.YtdpmkphjcjacfaaGreatDoorV8
set_option linter.all false
namespace Go.Gv.P
open Go Go.Gv Go.Gv.D Go.Gv.R
set_option maxRecDepth 100000
/-! what packing a value gives -/
def okI (a : Bool × List Int) : Prop := ∀ x ∈ a.2, 0 ≤ x ∧ x < 4294967296
def lastZ (l : List Int) : Bool := match l.getLast? with
  | some x => x == 0
  | none => false
/-- integer.Valid -/
def vld (a : Bool × List Int) : Bool := decide (a.2.length ≤ 128) && (!(a.1 && a.2.isEmpty) && !lastZ a.2)
def vldV (v : Val) : Bool := if v.1 = 2 then vld v.2.1 else if v.1 = 1 then v.2.2.2.2 == 0 || v.2.2.2.2 == 1 else true
/-- the number of two limbs at most -/
def iv2 (a : Bool × List Int) : Int := match a.2 with
  | [] => 0
  | [x] => if a.1 = true then -x else x
  | x :: y :: _ => if a.1 = true then -(x + 4294967296 * y) else x + 4294967296 * y
theorem iv2_spec {a : Bool × List Int} (ho : okI a) (hv : vld a = true) (hl : a.2.length ≤ 2) : a = (decide (iv2 a < 0), lim (iv2 a).natAbs) ∧ (iv2 a).natAbs < 18446744073709551616 := by
  obtain ⟨b, l⟩ := a
  unfold vld at hv
  simp only [Bool.and_eq_true, Bool.not_eq_true'] at hv
  obtain ⟨_, h1, h2⟩ := hv
  match l, ho, hl, h1, h2 with
  | [], _, _, h1, _ =>
    have : b = false := by simpa using h1
    subst this
    exact ⟨rfl, by decide⟩
  | [x], ho, _, _, h2 =>
    have hx : 0 ≤ x ∧ x < 4294967296 := ho x (List.mem_cons_self ..)
    have h2 : x ≠ 0 := by simpa [lastZ] using h2
    cases b with
    | false =>
      have e : iv2 (false, [x]) = x := rfl
      rw [e]
      refine ⟨?_, by omega⟩
      unfold lim
      rw [if_neg (by omega), if_pos (by omega), show ((x.natAbs : Nat) : Int) = x by omega, decide_eq_false (by omega)]
    | true =>
      have e : iv2 (true, [x]) = -x := rfl
      rw [e]
      refine ⟨?_, by omega⟩
      unfold lim
      rw [if_neg (by omega), if_pos (by omega), show (((-x).natAbs : Nat) : Int) = x by omega, decide_eq_true (by omega)]
  | [x, y], ho, _, _, h2 =>
    have hx : 0 ≤ x ∧ x < 4294967296 := ho x (List.mem_cons_self ..)
    have hy : 0 ≤ y ∧ y < 4294967296 := ho y (List.mem_cons_of_mem _ (List.mem_cons_self ..))
    have h2 : y ≠ 0 := by simpa [lastZ] using h2
    cases b with
    | false =>
      have e : iv2 (false, [x, y]) = x + 4294967296 * y := rfl
      rw [e]
      refine ⟨?_, by omega⟩
      unfold lim
      rw [if_neg (by omega), if_neg (by omega), decide_eq_false (by omega)]
      congr 3 <;> omega
    | true =>
      have e : iv2 (true, [x, y]) = -(x + 4294967296 * y) := rfl
      rw [e]
      refine ⟨?_, by omega⟩
      unfold lim
      rw [if_neg (by omega), if_neg (by omega), decide_eq_true (by omega)]
      congr 3 <;> omega
theorem getLast_idx {l : List Int} (h : l ≠ []) (hl : l.length ≤ 128) : ∃ x, idx l (IntKind.i64.wrap (((l.length : Nat) : Int) - 1)) = some x ∧ (x != 0) = !lastZ l := by
  have hp : 0 < l.length := List.length_pos_iff.2 h
  rw [i64_small (by omega) (by omega), show (l.length : Int) - 1 = ((l.length - 1 : Nat) : Int) by omega, idx_nat (show l.length - 1 < l.length by omega)]
  refine ⟨_, rfl, ?_⟩
  unfold lastZ
  rw [List.getLast?_eq_getElem?, List.getElem?_eq_getElem (show l.length - 1 < l.length by omega)]
  rfl
theorem IValid_tot (a : Bool × List Int) : Tot (fun n => integer_Valid n a) (· = vld a) := by
  unfold integer_Valid vld
  refine Tot.bindq (P := (· = _)) (Tot.ite (fun g => ?_) (fun g => Tot.ret ?_)) fun j hj => Tot.ret hj
  · have g : ((a.2.length : Nat) : Int) ≤ 128 := of_decide_eq_true g
    have hd : decide (a.2.length ≤ 128) = true := decide_eq_true (by omega)
    rw [hd, Bool.true_and]
    have rest : a.2 ≠ [] → Tot (fun n => if decide (((a.2.length : Nat) : Int) > 0) = true then Option.bind (idx a.2 (IntKind.i64.wrap (((a.2.length : Nat) : Int) - 1))) fun x19 => some (x19 != 0) else some false) (· = (!(a.1 && a.2.isEmpty) && !lastZ a.2)) := fun hne => by
      have hp : 0 < a.2.length := List.length_pos_iff.2 hne
      refine Tot.it (decide_eq_true (by omega)) ?_
      obtain ⟨x, e1, e2⟩ := getLast_idx hne (by omega)
      refine Tot.bind0 e1 (Tot.ret ?_)
      rw [e2]
      have : a.2.isEmpty = false := by simpa using hne
      rw [this, Bool.and_false]; rfl
    refine Tot.ite (fun g2 => ?_) (fun g2 => rest ?_)
    · have g2 : ((a.2.length : Nat) : Int) = 0 := by simpa using g2
      have e : a.2 = [] := List.length_eq_zero_iff.1 (by omega)
      rw [e]
      refine Tot.ite (fun g3 => Tot.ret ?_) (fun g3 => ?_)
      · have : a.1 = false := by simpa using g3
        rw [this]; rfl
      · refine Tot.if_ rfl (Tot.ret ?_)
        have : a.1 = true := by simpa using g3
        rw [this]; rfl
    · intro e
      rw [e] at g2
      cases g2
  · have g : ¬ ((a.2.length : Nat) : Int) ≤ 128 := of_decide_eq_false g
    rw [decide_eq_false (by omega)]; rfl
theorem pvalid_tot (v : Val) : Tot (fun n => packing_valid n v) (· = vldV v) := by
  unfold packing_valid vldV
  refine Tot.ite (fun g => ?_) (fun g => ?_)
  · have g : v.1 = 2 := by simpa using g
    rw [if_pos g]
    exact Tot.bindq (IValid_tot _) fun r hr => Tot.ret hr
  · have g : ¬ v.1 = 2 := by simpa using g
    rw [if_neg g]
    refine Tot.ite (fun g1 => ?_) (fun g1 => Tot.ret ?_)
    · have g1 : v.1 = 1 := by simpa using g1
      rw [if_pos g1]
      refine Tot.bindq (P := (· = (v.2.2.2.2 == 0 || v.2.2.2.2 == 1))) (Tot.ite (fun g2 => Tot.ret ?_) (fun g2 => Tot.ret ?_)) fun r hr => Tot.ret hr
      · rw [g2]; rfl
      · rw [g2]; rfl
    · have g1 : ¬ v.1 = 1 := by simpa using g1
      rw [if_neg g1]
def leB : Nat → Nat → List UInt8
  | 0, _ => []
  | n + 1, u => (u % 256).toUInt8 :: leB n (u / 256)
theorem leB_len : ∀ (n u : Nat), (leB n u).length = n
  | 0, _ => rfl
  | n + 1, u => by show (leB n _).length + 1 = _; rw [leB_len n]
theorem wLE_leB : ∀ (n u : Nat), wLE (leB n u) = u % 256 ^ n
  | 0, u => by simp [leB, wLE, Nat.mod_one]
  | n + 1, u => by
    show wLE ((u % 256).toUInt8 :: leB n (u / 256)) = _
    unfold wLE
    rw [wLE_leB n, toU8 (by omega), Nat.pow_succ, Nat.mul_comm (256 ^ n), Nat.mod_mul]
def ordB (big : Bool) (n : Nat) (v : Int) : List UInt8 := if big = true then (leB n (v % 18446744073709551616).toNat).reverse else leB n (v % 18446744073709551616).toNat
theorem ordB_len (big : Bool) (n : Nat) (v : Int) : (ordB big n v).length = n := by unfold ordB; split <;> simp [leB_len]
theorem word_ordB (big : Bool) (n : Nat) (v : Int) : word big (ordB big n v) = (v % 18446744073709551616).toNat % 256 ^ n := by
  unfold word ordB
  cases big <;> simp [wLE_leB]
instance (s : Bool) (n : Nat) (v : Int) : Decidable (inRange s n v) := by unfold inRange; exact inferInstance
def kindF (c : Nat) : Int := if c = 115 ∨ c = 112 then 5 else if c = 63 then 1 else 2
def pkF (x : Fld) (v : Val) : List UInt8 × Int :=
  if v.1 ≠ kindF x.1.toNat then ([], 13)
  else if x.1.toNat = 115 then (if ((v.2.2.2.1.size : Nat) : Int) ≠ x.2.1 then ([], 9) else (bytesOf v.2.2.2.1, 0))
  else if x.1.toNat = 112 then (if 255 < v.2.2.2.1.size then ([], 9) else (v.2.2.2.1.size.toUInt8 :: bytesOf v.2.2.2.1, 0))
  else if x.1.toNat = 63 then ([(v.2.2.2.2.toNat).toUInt8], 0)
  else if x.1.toNat = 118 then (if v.2.1.2.length ≤ 2 ∧ inRange true 8 (iv2 v.2.1) then (vint 9 (zig (iv2 v.2.1)), 0) else ([], 4))
  else if v.2.1.2.length ≤ 2 ∧ inRange (decide (97 ≤ x.1.toNat)) (wid x.1.toNat).toNat (iv2 v.2.1) then (ordB x.2.2 (wid x.1.toNat).toNat (iv2 v.2.1), 0) else ([], 4)
theorem word_any {a : Bool × List Int} {n : Nat} {s : Bool} (ho : okI a) (hv : vld a = true) (hn : n = 1 ∨ n = 2 ∨ n = 4 ∨ n = 8) :
    Tot (fun fuel => packing_word fuel a (n : Int) s) (fun r => r.2 = decide (a.2.length ≤ 2 ∧ inRange s n (iv2 a)) ∧ (r.2 = true → r.1 = iv2 a % 18446744073709551616)) := by
  by_cases hl : a.2.length ≤ 2
  · obtain ⟨e1, e2⟩ := iv2_spec ho hv hl
    have := word_gen (v := iv2 a) (s := s) e2 hn
    rw [← e1] at this
    refine this.mono fun r ⟨r1, r2⟩ => ⟨?_, r2⟩
    cases hr : r.2 with
    | true => exact (decide_eq_true ⟨hl, r1.1 hr⟩).symm
    | false => exact (decide_eq_false fun h => by have := r1.2 h.2; rw [hr] at this; cases this).symm
  · unfold packing_word
    refine Tot.it (decide_eq_true (by show (a.2.length : Int) > 2; omega)) (Tot.ret ⟨(decide_eq_false fun h => hl h.1).symm, fun h => by cases h⟩)
theorem pack_any {x : Fld} {b : Bool} (hg : good b x) (ho : okF x) {v : Val} {out : List UInt8} (hout : out.length ≤ 2000000) (hi : okI v.2.1) (hv : vldV v = true) (ht : v.2.2.2.1.size ≤ 1048576) (h120 : x.1.toNat ≠ 120) :
    Tot (fun fuel => packing_pack fuel out x v) (· = if (pkF x v).2 = 0 then (out ++ (pkF x v).1, 0) else ([], (pkF x v).2)) := by
  obtain ⟨h1, h2, h3, hk⟩ := kindsF hg ho
  unfold packing_pack
  have hw : Tot (fun n => packing_width n x.1) (· = (wid x.1.toNat, decide (97 ≤ x.1.toNat))) := by
    have := width_tot h2
    rwa [← h1] at this
  have e115 : (x.1 == 115) = decide (x.1.toNat = 115) := by rw [Bool.eq_iff_iff]; simp; omega
  have e112 : (x.1 == 112) = decide (x.1.toNat = 112) := by rw [Bool.eq_iff_iff]; simp; omega
  have e63 : (x.1 == 63) = decide (x.1.toNat = 63) := by rw [Bool.eq_iff_iff]; simp; omega
  have e118 : (x.1 == 118) = decide (x.1.toNat = 118) := by rw [Bool.eq_iff_iff]; simp; omega
  refine Tot.bindq (P := (· = (decide (x.1.toNat = 115) || decide (x.1.toNat = 112)))) (Tot.ite (fun g => Tot.ret ?_) (fun g => Tot.ret ?_)) fun j hj => ?_
  · rw [e115] at g; rw [e115, g]; rfl
  · rw [e115] at g; rw [g, e112]; rfl
  subst hj
  refine Tot.bindq (P := (· = kindF x.1.toNat)) (Tot.ite (fun g => Tot.ret ?_) (fun g => Tot.ite (fun g2 => Tot.ret ?_) (fun g2 => Tot.ret ?_))) fun j hj => ?_
  · unfold kindF; rw [if_pos (by simpa using g)]
  · rw [e63] at g2; unfold kindF; rw [if_neg (by simpa using g), if_pos (by simpa using g2)]
  · rw [e63] at g2; unfold kindF; rw [if_neg (by simpa using g), if_neg (by simpa using g2)]
  subst hj
  refine Tot.ite (fun g => Tot.ret ?_) (fun g => ?_)
  · have g : v.1 ≠ kindF x.1.toNat := by simpa using g
    rw [show pkF x v = ([], 13) by unfold pkF; rw [if_pos g]]; rfl
  have g : v.1 = kindF x.1.toNat := by simpa using g
  have gn : ¬ v.1 ≠ kindF x.1.toNat := fun h => h g
  refine Tot.ite (fun g1 => ?_) (fun g1 => ?_)
  · have g1 : x.1.toNat = 115 := by rw [e115] at g1; simpa using g1
    refine Tot.ite (fun g2 => Tot.ret ?_) (fun g2 => ?_)
    · have g2 : ((v.2.2.2.1.size : Nat) : Int) ≠ x.2.1 := by simpa using g2
      rw [show pkF x v = ([], 9) by unfold pkF; rw [if_neg gn, if_pos g1, if_pos g2]]; rfl
    · have g2 : ((v.2.2.2.1.size : Nat) : Int) = x.2.1 := by simpa using g2
      refine Tot.bind0 (app_ok (by rw [show (bytesOf v.2.2.2.1).length = v.2.2.2.1.size from rfl]; omega)) (Tot.ret ?_)
      rw [show pkF x v = (bytesOf v.2.2.2.1, 0) by unfold pkF; rw [if_neg gn, if_pos g1, if_neg (fun h => h g2)]]; rfl
  have g1 : ¬ x.1.toNat = 115 := by rw [e115] at g1; simpa using g1
  refine Tot.ite (fun g2 => ?_) (fun g2 => ?_)
  · have g2 : x.1.toNat = 112 := by rw [e112] at g2; simpa using g2
    refine Tot.ite (fun g3 => Tot.ret ?_) (fun g3 => ?_)
    · have g3 : ((v.2.2.2.1.size : Nat) : Int) > 255 := of_decide_eq_true g3
      rw [show pkF x v = ([], 9) by unfold pkF; rw [if_neg gn, if_neg g1, if_pos g2, if_pos (by omega)]]; rfl
    · have g3 : ¬ ((v.2.2.2.1.size : Nat) : Int) > 255 := of_decide_eq_false g3
      have hu8 : u8 (IntKind.u8.wrap ((v.2.2.2.1.size : Nat) : Int)) = some v.2.2.2.1.size.toUInt8 := by rw [u8_small (by omega) (by omega), u8_ok (by omega)]
      refine Tot.bind0 hu8 (Tot.bind0 (app_ok (by simp; omega)) (Tot.bind0 (app_ok (by rw [List.length_append, show (bytesOf v.2.2.2.1).length = v.2.2.2.1.size from rfl]; simp; omega)) (Tot.ret ?_)))
      rw [show pkF x v = (v.2.2.2.1.size.toUInt8 :: bytesOf v.2.2.2.1, 0) by unfold pkF; rw [if_neg gn, if_neg g1, if_pos g2, if_neg (by omega)]]
      simp
  have g2 : ¬ x.1.toNat = 112 := by rw [e112] at g2; simpa using g2
  refine Tot.ite (fun g3 => ?_) (fun g3 => ?_)
  · have g3 : x.1.toNat = 63 := by rw [e63] at g3; simpa using g3
    have hk1 : v.1 = 1 := by rw [g]; unfold kindF; rw [if_neg (by omega), if_pos g3]
    have hr : v.2.2.2.2 = 0 ∨ v.2.2.2.2 = 1 := by
      unfold vldV at hv
      rw [if_neg (by omega), if_pos hk1] at hv
      simpa using hv
    obtain ⟨m, hm, hm2⟩ : ∃ m : Nat, v.2.2.2.2 = (m : Int) ∧ m < 256 := ⟨v.2.2.2.2.toNat, by omega, by omega⟩
    have hu8 : u8 (IntKind.u8.wrap v.2.2.2.2) = some (v.2.2.2.2.toNat).toUInt8 := by rw [hm, u8_small (by omega) (by omega), u8_ok (by omega)]; rfl
    refine Tot.bind0 hu8 (Tot.bind0 (app_ok (by simp; omega)) (Tot.ret ?_))
    rw [show pkF x v = ([(v.2.2.2.2.toNat).toUInt8], 0) by unfold pkF; rw [if_neg gn, if_neg g1, if_neg g2, if_pos g3]]; rfl
  have g3 : ¬ x.1.toNat = 63 := by rw [e63] at g3; simpa using g3
  have hk2 : v.1 = 2 := by rw [g]; unfold kindF; rw [if_neg (by omega), if_neg g3]
  have hvl : vld v.2.1 = true := by unfold vldV at hv; rwa [if_pos hk2] at hv
  refine Tot.bindq hw fun r hr => ?_
  subst hr
  by_cases g4 : x.1.toNat = 118
  · have hpk : pkF x v = if v.2.1.2.length ≤ 2 ∧ inRange true 8 (iv2 v.2.1) then (vint 9 (zig (iv2 v.2.1)), 0) else ([], 4) := by
      unfold pkF; rw [if_neg gn, if_neg g1, if_neg g2, if_neg g3, if_pos g4]
    refine Tot.bindq (P := (· = 8)) (Tot.it (by rw [e118]; exact decide_eq_true g4) (Tot.ret rfl)) fun j hj => ?_
    subst hj
    have hs : decide (97 ≤ x.1.toNat) = true := decide_eq_true (by omega)
    rw [hs]
    refine Tot.bindq (word_any (a := (v.2.1.1, v.2.1.2)) (n := 8) (s := true) hi hvl (by omega)) fun r ⟨r1, r2⟩ => ?_
    refine Tot.ite (fun q => Tot.ret ?_) (fun q => Tot.it (by rw [e118]; exact decide_eq_true g4) ?_)
    · have q : r.2 = false := by simpa using q
      rw [q] at r1
      have := of_decide_eq_false r1.symm
      rw [hpk, if_neg this]; rfl
    · have q : r.2 = true := by simpa using q
      rw [r2 q]
      rw [q] at r1
      have hin := of_decide_eq_true r1.symm
      have hb : -9223372036854775808 ≤ iv2 v.2.1 ∧ iv2 v.2.1 ≤ 9223372036854775807 := by
        have := hin.2; unfold inRange at this; rw [if_pos rfl] at this; simp only [Nat.reduceMul, Nat.reduceSub, Int.reducePow, Int.reduceNeg] at this
        have h3 : iv2 (v.2.1.1, v.2.1.2) = iv2 v.2.1 := rfl
        omega
      refine Tot.bindq (zigzag_gen (out := out) (by omega) hb.1 hb.2) fun r hr => Tot.ret ?_
      rw [hpk, if_pos hin, hr]; rfl
  · have hwp : 0 < wid x.1.toNat := by
      rcases hk with ⟨k1, _⟩ | ⟨_, (⟨e, _⟩ | ⟨e, _⟩ | ⟨e, _⟩ | ⟨e, _, _⟩)⟩
      · exact k1
      · exact absurd e g4
      · exact absurd e g2
      · exact absurd e g3
      · rcases e with e | e
        · exact absurd e g1
        · exact absurd e h120
    have hn : (wid x.1.toNat).toNat = 1 ∨ (wid x.1.toNat).toNat = 2 ∨ (wid x.1.toNat).toNat = 4 ∨ (wid x.1.toNat).toNat = 8 := by have := wid_cases x.1.toNat; omega
    have hwn : wid x.1.toNat = (((wid x.1.toNat).toNat : Nat) : Int) := by omega
    have hpk : pkF x v = if v.2.1.2.length ≤ 2 ∧ inRange (decide (97 ≤ x.1.toNat)) (wid x.1.toNat).toNat (iv2 v.2.1) then (ordB x.2.2 (wid x.1.toNat).toNat (iv2 v.2.1), 0) else ([], 4) := by
      unfold pkF; rw [if_neg gn, if_neg g1, if_neg g2, if_neg g3, if_neg g4]
    rw [hpk]
    generalize hnn : (wid x.1.toNat).toNat = n at *
    rw [hwn]
    refine Tot.bindq (P := (· = (n : Int))) (Tot.if_ (by rw [e118]; exact decide_eq_false g4) (Tot.ret rfl)) fun j hj => ?_
    subst hj
    refine Tot.bindq (word_any (a := (v.2.1.1, v.2.1.2)) (n := n) (s := decide (97 ≤ x.1.toNat)) hi hvl hn) fun r ⟨r1, r2⟩ => ?_
    refine Tot.ite (fun q => Tot.ret ?_) (fun q => Tot.if_ (by rw [e118]; exact decide_eq_false g4) ?_)
    · have q : r.2 = false := by simpa using q
      rw [q] at r1
      rw [if_neg (of_decide_eq_false r1.symm)]; rfl
    · have q : r.2 = true := by simpa using q
      have r2 := r2 q
      rw [q] at r1
      have hin := of_decide_eq_true r1.symm
      rw [if_pos hin]
      have hord := order_tot (out := out) (b := ordB x.2.2 n (iv2 v.2.1)) (u := (iv2 v.2.1 % 18446744073709551616).toNat) (n := n) (big := x.2.2) (by omega) (ordB_len _ _ _) (by omega) (by rw [word_ordB, pow256])
      rw [Int.toNat_of_nonneg (Int.emod_nonneg _ (by decide))] at hord
      rw [r2]
      exact Tot.bindq hord fun r hr => Tot.ret (by rw [hr]; rfl)
end Go.Gv.P
namespace Go.Gv.P
open Go Go.Gv Go.Gv.D Go.Gv.R
set_option maxRecDepth 100000
/-! what Pack gives -/
def okVal (v : Val) : Prop := okI v.2.1 ∧ v.2.2.2.1.size ≤ 1048576
def pks : List Fld → List Val → Nat → List UInt8 → List UInt8 × (Int × Int)
  | [], _, _, out => (out, (0, 0))
  | x :: t, vs, j, out => if x.1 = 120 then pks t vs j (out ++ List.replicate x.2.1.toNat 0) else match vs with
    | [] => (out, (0, 0))
    | v :: vs => if vldV v = false then ([], (6, (j : Int))) else if (pkF x v).2 ≠ 0 then ([], ((pkF x v).2, (j : Int))) else pks t vs (j + 1) (out ++ (pkF x v).1)
def packS (l : List Fld) (vs : List Val) : List UInt8 × (Int × Int) :=
  if (check l).1 ≠ 0 then ([], check l) else if vs.length ≠ nv l then ([], (9, -2)) else pks l vs 0 []
theorem pkF_len {x : Fld} {b : Bool} (hg : good b x) (ho : okF x) (v : Val) : (pkF x v).1.length ≤ 256 := by
  obtain ⟨h1, h2, h3, hk⟩ := kindsF hg ho
  unfold pkF
  split
  · exact Nat.zero_le _
  split
  · rename_i h
    split
    · exact Nat.zero_le _
    · rename_i e
      have e : ((v.2.2.2.1.size : Nat) : Int) = x.2.1 := Classical.not_not.1 e
      show v.2.2.2.1.size ≤ 256
      rcases hk with ⟨k1, k2, k3, k4, k5, k6, k7⟩ | ⟨k1, (⟨e', ek⟩ | ⟨e', ek⟩ | ⟨e', ek⟩ | ⟨e', ek0, ek1⟩)⟩ <;> omega
  split
  · split
    · exact Nat.zero_le _
    · show v.2.2.2.1.size + 1 ≤ 256; omega
  split
  · show 1 ≤ 256; decide
  split
  · split
    · have := vint_len 9 (zig (iv2 v.2.1)); show (vint 9 _).length ≤ 256; omega
    · exact Nat.zero_le _
  split
  · show (ordB _ _ _).length ≤ 256
    rw [ordB_len]
    have := wid_cases x.1.toNat; omega
  · exact Nat.zero_le _
theorem cnt_rng {x : Fld} {b : Bool} (hg : good b x) (ho : okF x) (h : x.1 = 120) : 0 ≤ x.2.1 ∧ x.2.1 ≤ 100 := by
  obtain ⟨h1, h2, h3, hk⟩ := kindsF hg ho
  rcases hk with ⟨k1, k2, k3, k4, k5, k6, k7⟩ | ⟨k1, (⟨e, ek⟩ | ⟨e, ek⟩ | ⟨e, ek⟩ | ⟨e, ek0, ek1⟩)⟩
  · omega
  · omega
  · omega
  · omega
  · exact ⟨ek0, ek1⟩
theorem pks_cons (x : Fld) (t : List Fld) (vs : List Val) (j : Nat) (out : List UInt8) : pks (x :: t) vs j out = if x.1 = 120 then pks t vs j (out ++ List.replicate x.2.1.toNat 0) else match vs with
    | [] => (out, (0, 0))
    | v :: vs => if vldV v = false then ([], (6, (j : Int))) else if (pkF x v).2 ≠ 0 then ([], ((pkF x v).2, (j : Int))) else pks t vs (j + 1) (out ++ (pkF x v).1) := by cases vs <;> rw [pks]
theorem at_tot (a b : Int) : Tot (fun n => packing_at n a b) (· = (a, b)) := by unfold packing_at; exact Tot.ret rfl
theorem check_len {l : List Fld} (h : (check l).1 = 0) : l.length ≤ 100 := by
  unfold check at h
  split at h
  · cases h
  · omega
theorem Pack_spec {l : List Fld} {vs : List Val} (hl : l.length ≤ 1048576) (ho : ∀ x ∈ l, okF x) (hvl : vs.length ≤ 1048576) (hv : ∀ v ∈ vs, okVal v) :
    Tot (fun fuel => packing_Pack fuel l vs) (· = packS l vs) := by
  unfold packing_Pack packS
  refine Tot.bindq (Check_tot hl ho) fun r hr => ?_
  subst hr
  refine Tot.ite (fun g => Tot.ret ?_) (fun g => ?_)
  · have g : (check l).1 ≠ 0 := by simpa using g
    rw [if_pos g]
  have g : (check l).1 = 0 := by simpa using g
  rw [if_neg (fun h => h g)]
  have hgood := (check_zero g).2
  have hl100 := check_len g
  refine Tot.bindq (values_tot hl) fun r hr => ?_
  subst hr
  refine Tot.ite (fun g1 => ?_) (fun g1 => ?_)
  · have g1 : vs.length ≠ nv l := by
      have : ((vs.length : Nat) : Int) ≠ ((nv l : Nat) : Int) := by simpa using g1
      omega
    rw [if_pos g1]
    refine Tot.bindq (at_tot _ _) fun r hr => Tot.ret ?_
    subst hr; rfl
  have g1 : vs.length = nv l := by
    have : ((vs.length : Nat) : Int) = ((nv l : Nat) : Int) := by simpa using g1
    omega
  rw [if_neg (fun h => h g1)]
  refine Tot.bindq (P := fun z => (∃ o q, z = .inl (o, q) ∧ pks l vs 0 [] = (o, (0, 0))) ∨ z = .inr (pks l vs 0 [])) ?_ fun z hz => ?_
  · refine Tot.loop (fun st => ∃ i j : Nat, i ≤ l.length ∧ j ≤ vs.length ∧ (vs.drop j).length = nv (l.drop i) ∧ st.1.length ≤ 256 * i ∧ st.2.1 = (j : Int) ∧ st.2.2.1 = (i : Int) ∧ pks (l.drop i) (vs.drop j) j st.1 = pks l vs 0 []) (fun st => l.length - st.2.2.1.toNat)
      ⟨0, 0, by omega, by omega, by rw [List.drop_zero, List.drop_zero]; exact g1, by simp, rfl, rfl, rfl⟩ fun st ⟨i, j, hi, hj, hn, hlen, e1, e2, hp⟩ => ?_
    obtain ⟨out, jj, ii, ⟨f1, f2⟩⟩ := st
    simp only at e1 e2 hlen hp
    subst e1 e2
    refine Tot.ite (fun c => ?_) (fun c => Tot.ret ?_)
    · have c : (i : Int) < (l.length : Int) := of_decide_eq_true c
      have hil : i < l.length := by omega
      have hx := hgood _ (List.getElem_mem hil)
      have hxo := ho _ (List.getElem_mem hil)
      rw [drop_cons hil] at hn hp
      generalize hxx : l[i] = x at *
      have hidx : idx l (i : Int) = some x := by rw [idx_nat hil, hxx]
      have hnv : nv (x :: l.drop (i + 1)) = (if x.1 ≠ 120 then 1 else 0) + nv (l.drop (i + 1)) := rfl
      rw [hnv] at hn
      rw [pks_cons] at hp
      have e3 : IntKind.i64.wrap ((i : Int) + 1) = ((i + 1 : Nat) : Int) := by rw [i64_small (by omega) (by omega)]; omega
      refine Tot.bindq (P := fun z => (∃ o : List UInt8, ∃ j' : Nat, ∃ q, z = .inl (o, (j' : Int), q) ∧ j' ≤ vs.length ∧ (vs.drop j').length = nv (l.drop (i + 1)) ∧ o.length ≤ 256 * (i + 1) ∧ pks (l.drop (i + 1)) (vs.drop j') j' o = pks l vs 0 []) ∨ z = .inr (.inr (.inr (pks l vs 0 [])))) ?_ fun z hz => ?_
      · refine Tot.bind0 hidx (Tot.ite (fun d => ?_) (fun d => ?_))
        · have d : x.1 = 120 := by simpa using d
          rw [if_pos d] at hp
          rw [if_neg (fun h => h d), Nat.zero_add] at hn
          have hr := cnt_rng hx hxo d
          have hz : zeros x.2.1 = some (List.replicate x.2.1.toNat 0) := by unfold zeros; rw [if_pos ⟨by omega, by omega⟩]
          refine Tot.bind0 hz (Tot.bind0 (app_ok (by rw [List.length_replicate]; omega)) (Tot.ret (.inl ⟨_, j, (f1, f2), rfl, hj, hn, ?_, hp⟩)))
          show (out ++ List.replicate x.2.1.toNat 0).length ≤ 256 * (i + 1); rw [List.length_append, List.length_replicate]; omega
        · have d : x.1 ≠ 120 := by simpa using d
          rw [if_neg d] at hp
          rw [if_pos d] at hn
          have hjl : j < vs.length := by
            rw [List.length_drop] at hn; omega
          rw [drop_cons hjl] at hp
          have hvo := hv _ (List.getElem_mem hjl)
          have hidv : idx vs (j : Int) = some vs[j] := idx_nat hjl
          generalize vs[j] = v at *
          simp only at hp
          refine Tot.bind0 hidv (Tot.bindq (pvalid_tot v) fun r hr => ?_)
          subst hr
          refine Tot.ite (fun q => ?_) (fun q => ?_)
          · have q : vldV v = false := by simpa using q
            rw [if_pos q] at hp
            refine Tot.bindq (at_tot _ _) fun r hr => Tot.ret (.inr ?_)
            subst hr
            rw [← hp]
          · have q : vldV v = true := by simpa using q
            rw [if_neg (by rw [q]; decide)] at hp
            refine Tot.bind0 hidv (Tot.bindq (pack_any (out := out) (v := v) hx hxo (by omega) hvo.1 q hvo.2 (by omega)) fun r hr => ?_)
            have e4 : IntKind.i64.wrap ((j : Int) + 1) = ((j + 1 : Nat) : Int) := by rw [i64_small (by omega) (by omega)]; omega
            refine Tot.ite (fun u => ?_) (fun u => Tot.ret (.inl ?_))
            · have u : r.2 ≠ 0 := by simpa using u
              by_cases hz : (pkF x v).2 = 0
              · rw [if_pos hz] at hr
                rw [hr] at u
                exact absurd rfl u
              · rw [if_neg hz] at hr
                rw [if_pos hz] at hp
                subst hr
                refine Tot.bindq (at_tot _ _) fun r hr => Tot.ret (.inr ?_)
                subst hr
                rw [← hp]
            · have u : r.2 = 0 := by simpa using u
              by_cases hz : (pkF x v).2 = 0
              · rw [if_pos hz] at hr
                rw [if_neg (fun h => h hz)] at hp
                subst hr
                have := pkF_len hx hxo v
                refine ⟨_, j + 1, (f1, f2), ?_, by omega, ?_, ?_, hp⟩
                · rw [e4]
                · rw [List.length_drop] at hn ⊢; omega
                · show (out ++ _).length ≤ _; rw [List.length_append]; omega
              · rw [if_neg hz] at hr
                rw [hr] at u
                exact absurd u hz
      · rcases hz with ⟨o, j', q, hz, z1, z2, z3, z4⟩ | hz
        · subst hz
          refine Tot.contl (Tot.ret ?_)
          rw [e3]
          exact ⟨⟨i + 1, j', by omega, z1, z2, z3, rfl, rfl, z4⟩, by show l.length - (((i + 1 : Nat) : Int)).toNat < l.length - ((i : Int)).toNat; omega⟩
        · subst hz
          exact Tot.contr (.inr rfl)
    · have c : ¬ (i : Int) < (l.length : Int) := of_decide_eq_false c
      rw [List.drop_of_length_le (by omega)] at hp
      exact .inl ⟨out, (f1, f2), rfl, hp.symm⟩
  · rcases hz with ⟨o, q, hz, h⟩ | hz
    · subst hz
      refine Tot.contl (Tot.ret ?_)
      rw [h]
    · subst hz
      exact Tot.contr rfl
end Go.Gv.P

