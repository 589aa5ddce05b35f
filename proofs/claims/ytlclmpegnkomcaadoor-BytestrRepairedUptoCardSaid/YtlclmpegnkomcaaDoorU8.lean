import Derived.Test.YtlclmpegnkomcaaDoorU7
set_option linter.all false
namespace Go.Gv.R
open Go Go.Gv Go.Gv.D Go.Lib

theorem unit2 (l : List UInt8) (i : Nat) : IntKind.i64.wrap ((IntKind.i64.wrap ((IntKind.i64.wrap ((l.getD i 0).toNat : Int)) * 256)) + (IntKind.i64.wrap ((l.getD (i + 1) 0).toNat : Int))) = (b16 l i : Int) := by
  have h0 := byte_lt (l.getD i 0)
  have h1 := byte_lt (l.getD (i + 1) 0)
  rw [i64_small (x := ((l.getD i 0).toNat : Int)) (by omega) (by omega), i64_small (x := ((l.getD (i + 1) 0).toNat : Int)) (by omega) (by omega), i64_small (x := ((l.getD i 0).toNat : Int) * 256) (by omega) (by omega), i64_small (by omega) (by omega)]
  unfold b16
  omega
theorem sur_pair64 (x y : Nat) (h : 55296 ≤ x) (h' : x < 56320) (g : 56320 ≤ y) (g' : y ≤ 57343) : IntKind.i64.wrap ((IntKind.i64.wrap ((IntKind.i64.wrap (65536 + (IntKind.i64.wrap ((IntKind.i64.wrap ((x : Int) - 55296)) * 1024)))) + (y : Int))) - 56320) = ((65536 + (x - 55296) * 1024 + (y - 56320) : Nat) : Int) := by
  obtain ⟨a, rfl⟩ : ∃ a, x = 55296 + a := ⟨x - 55296, by omega⟩
  obtain ⟨b, rfl⟩ : ∃ b, y = 56320 + b := ⟨y - 56320, by omega⟩
  have ha : a < 1024 := by omega
  have hb : b < 1024 := by omega
  clear h h' g g'
  rw [i64_small (x := ((55296 + a : Nat) : Int) - 55296) (by omega) (by omega), i64_small (x := (((55296 + a : Nat) : Int) - 55296) * 1024) (by omega) (by omega), i64_small (x := 65536 + (((55296 + a : Nat) : Int) - 55296) * 1024) (by omega) (by omega), i64_small (x := 65536 + (((55296 + a : Nat) : Int) - 55296) * 1024 + ((56320 + b : Nat) : Int)) (by omega) (by omega), i64_small (by omega) (by omega)]
  omega
theorem b16_drop (L : List UInt8) (a i : Nat) : b16 (L.drop a) i = b16 L (a + i) := by
  unfold b16
  rw [drop_getD, drop_getD, Nat.add_assoc]
def pts (c : Int) (L : List UInt8) (k : Nat) : List Int := (List.range k).map (pt c L)
theorem pts_len (c : Int) (L : List UInt8) (k : Nat) : (pts c L k).length = k := by simp [pts]
theorem Decoded_tot {b_0 : List UInt8} {coding_1 : Int} (hb : b_0.length ≤ 1048576) (hc : 0 ≤ coding_1 ∧ coding_1 ≤ 2) : Tot (fun fuel => ref4_Decoded fuel b_0 coding_1) (fun r => ∃ n, Ends coding_1 b_0 n ∧ r.1 = pts coding_1 b_0 n ∧ ((r.2 = -1 ∧ ∀ j, j < n → 0 ≤ pt coding_1 b_0 j) ∨ ∃ k, k < n ∧ pt coding_1 b_0 k < 0 ∧ (∀ j, j < k → 0 ≤ pt coding_1 b_0 j) ∧ r.2 = (At coding_1 b_0 k : Int))) := by
  unfold ref4_Decoded
  generalize hL : b_0 = L at *
  refine Tot.bindq (P := fun r => ∃ n, Ends coding_1 L n ∧ r.1 = pts coding_1 L n ∧ ((r.2 = -1 ∧ ∀ j, j < n → 0 ≤ pt coding_1 L j) ∨ ∃ k, k < n ∧ pt coding_1 L k < 0 ∧ (∀ j, j < k → 0 ≤ pt coding_1 L j) ∧ r.2 = (At coding_1 L k : Int))) ?_ fun r hr => Tot.ret hr
  refine Tot.loop (fun st => ∃ k, st.2.2 = (At coding_1 L k : Int) ∧ st.1 = pts coding_1 L k ∧ (∀ j, j < k → At coding_1 L j < L.length) ∧ ((st.2.1 = -1 ∧ ∀ j, j < k → 0 ≤ pt coding_1 L j) ∨ ∃ k', k' < k ∧ pt coding_1 L k' < 0 ∧ (∀ j, j < k' → 0 ≤ pt coding_1 L j) ∧ st.2.1 = (At coding_1 L k' : Int))) (fun st => L.length - st.2.2.toNat) ⟨0, rfl, rfl, fun j h => absurd h (by omega), .inl ⟨rfl, fun j h => absurd h (by omega)⟩⟩ fun st ⟨k, g1, g2, g4, g5⟩ => ?_
  obtain ⟨out, fb, a⟩ := st
  simp only at g1 g2 g5
  subst g1 g2
  dsimp only
  have hge := At_ge g4
  refine Tot.ite (fun h => ?_) (fun h => ?_)
  · have h : At coding_1 L k < L.length := by have : ((At coding_1 L k : Nat) : Int) < (L.length : Int) := of_decide_eq_true h; omega
    have hne := drop_ne h
    have hst := At_step h
    have hAt : At coding_1 L (k + 1) = At coding_1 L k + (V coding_1 (L.drop (At coding_1 L k))).2 := rfl
    have hpt : pt coding_1 L k = (V coding_1 (L.drop (At coding_1 L k))).1 := rfl
    refine Tot.bindq (P := fun j => j = ((V coding_1 (L.drop (At coding_1 L k))).1, ((V coding_1 (L.drop (At coding_1 L k))).2 : Int))) ?_ fun j hj => ?_
    · clear hAt hpt g5 g4
      generalize hA : At coding_1 L k = A at *
      refine Tot.bindq (P := fun x => x = .inl ((V coding_1 (L.drop A)).1, ((V coding_1 (L.drop A)).2 : Int)) ∨ x = .inr ((V coding_1 (L.drop A)).1, ((V coding_1 (L.drop A)).2 : Int))) ?_ fun x hx => by
        rcases hx with e | e
        · subst e; exact Tot.contl (Tot.ret rfl)
        · subst e; exact Tot.contr rfl
      refine Tot.ite (fun c0 => ?_) (fun c0 => ?_)
      · have c0 : coding_1 = 0 := eq_of_beq c0
        refine Tot.bindq (unit_tot h (by omega)) fun r hr => ?_
        have hw := decodeL_width (L.drop A)
        by_cases hbad : bad (decodeL (L.drop A))
        · have e : V coding_1 (L.drop A) = (-1, 1) := by unfold V; rw [if_pos c0, if_pos hbad]
          have eu : r = (0, 0) := by rw [hr]; unfold U; rw [if_pos hbad]
          subst eu
          rw [e]
          exact Tot.if_ rfl (Tot.ret (.inl rfl))
        · have e : V coding_1 (L.drop A) = (((decodeL (L.drop A)).1 : Int), (decodeL (L.drop A)).2) := by unfold V; rw [if_pos c0, if_neg hbad]
          have eu : r = (((decodeL (L.drop A)).1 : Int), ((decodeL (L.drop A)).2 : Int)) := by rw [hr]; unfold U; rw [if_neg hbad]
          subst eu
          rw [e]
          exact Tot.it (decide_eq_true (by dsimp only; omega)) (Tot.ret (.inl rfl))
      have c0 : coding_1 ≠ 0 := fun e => by subst e; cases c0
      have h0 := byte_lt (L.getD A 0)
      refine Tot.ite (fun c1 => ?_) (fun c1 => ?_)
      · have c1 : coding_1 = 1 := eq_of_beq c1
        have e : V coding_1 (L.drop A) = (((L.getD A 0).toNat : Int), 1) := by unfold V; rw [if_neg c0, if_pos c1, drop_getD]; rfl
        rw [e]
        refine Tot.bind0 (getD_idx h) (Tot.ret (.inl ?_))
        rw [i64_small (by omega) (by omega)]; rfl
      have c1 : coding_1 ≠ 1 := fun e => by subst e; cases c1
      have hV : V coding_1 (L.drop A) = if L.length - A < 2 then (-1, 1)
          else if b16 L A < 55296 ∨ 57343 < b16 L A then ((b16 L A : Int), 2)
          else if b16 L A < 56320 ∧ 4 ≤ L.length - A ∧ 56320 ≤ b16 L (A + 2) ∧ b16 L (A + 2) ≤ 57343 then (((65536 + (b16 L A - 55296) * 1024 + (b16 L (A + 2) - 56320) : Nat) : Int), 4)
          else (-1, 2) := by
        unfold V
        rw [if_neg c0, if_neg c1, List.length_drop, b16_drop, b16_drop]; rfl
      have w1 : IntKind.i64.wrap ((A : Int) + 1) = ((A + 1 : Nat) : Int) := iw (by omega) (by omega)
      have w2 : IntKind.i64.wrap ((A : Int) + 2) = ((A + 2 : Nat) : Int) := iw (by omega) (by omega)
      have w3 : IntKind.i64.wrap ((A : Int) + 3) = ((A + 2 + 1 : Nat) : Int) := iw (by omega) (by omega)
      rw [w1, w2, w3]
      refine Tot.ite (fun q => ?_) (fun q => ?_)
      · have q : ((A + 1 : Nat) : Int) ≥ (L.length : Int) := of_decide_eq_true q
        have e : V coding_1 (L.drop A) = (-1, 1) := by rw [hV, if_pos (by omega)]
        rw [e]
        exact Tot.ret (.inr rfl)
      have q : ¬ ((A + 1 : Nat) : Int) ≥ (L.length : Int) := of_decide_eq_false q
      refine Tot.bind0 (getD_idx h) (Tot.bind0 (getD_idx (i := A + 1) (by omega)) (Tot.some_bind ?_))
      rw [unit2 L A]
      refine Tot.ite (fun o => ?_) (fun o => ?_)
      · have o : b16 L A < 55296 ∨ 57343 < b16 L A := by
          rcases Bool.or_eq_true_iff.1 o with x | x
          · have : ((b16 L A : Nat) : Int) < 55296 := of_decide_eq_true x; omega
          · have : ((b16 L A : Nat) : Int) > 57343 := of_decide_eq_true x; omega
        have e : V coding_1 (L.drop A) = ((b16 L A : Int), 2) := by rw [hV, if_neg (by omega), if_pos o]
        rw [e]
        exact Tot.ret (.inl rfl)
      have o : ¬ (b16 L A < 55296 ∨ 57343 < b16 L A) := by
        obtain ⟨x, y⟩ := Bool.or_eq_false_iff.1 o
        have x : ¬ ((b16 L A : Nat) : Int) < 55296 := of_decide_eq_false x
        have y : ¬ ((b16 L A : Nat) : Int) > 57343 := of_decide_eq_false y
        omega
      refine Tot.ite (fun p => ?_) (fun p => ?_)
      · obtain ⟨p1, p2⟩ := Bool.and_eq_true_iff.1 p
        have p1 : ((b16 L A : Nat) : Int) < 56320 := of_decide_eq_true p1
        have p2 : ((A + 2 + 1 : Nat) : Int) < (L.length : Int) := of_decide_eq_true p2
        refine Tot.bind0 (getD_idx (i := A + 2) (by omega)) (Tot.bind0 (getD_idx (i := A + 2 + 1) (by omega)) (Tot.some_bind ?_))
        rw [unit2 L (A + 2)]
        refine Tot.ite (fun s => ?_) (fun s => ?_)
        · obtain ⟨s1, s2⟩ := Bool.and_eq_true_iff.1 s
          have s1 : ((b16 L (A + 2) : Nat) : Int) ≥ 56320 := of_decide_eq_true s1
          have s2 : ((b16 L (A + 2) : Nat) : Int) ≤ 57343 := of_decide_eq_true s2
          have e : V coding_1 (L.drop A) = (((65536 + (b16 L A - 55296) * 1024 + (b16 L (A + 2) - 56320) : Nat) : Int), 4) := by rw [hV, if_neg (by omega), if_neg o, if_pos ⟨by omega, by omega, by omega, by omega⟩]
          rw [e]
          refine Tot.some_bind (Tot.ret (.inl ?_))
          rw [sur_pair64 _ _ (by omega) (by omega) (by omega) (by omega)]; rfl
        · have s : ¬ (56320 ≤ b16 L (A + 2) ∧ b16 L (A + 2) ≤ 57343) := fun ⟨x, y⟩ => by
            rw [decide_eq_true (by omega : ((b16 L (A + 2) : Nat) : Int) ≥ 56320), decide_eq_true (by omega : ((b16 L (A + 2) : Nat) : Int) ≤ 57343)] at s; cases s
          have e : V coding_1 (L.drop A) = (-1, 2) := by rw [hV, if_neg (by omega), if_neg o, if_neg (fun h => s h.2.2)]
          rw [e]
          exact Tot.ret (.inl rfl)
      · have p : ¬ (b16 L A < 56320 ∧ 4 ≤ L.length - A) := fun ⟨x, y⟩ => by
          rw [decide_eq_true (by omega : ((b16 L A : Nat) : Int) < 56320), decide_eq_true (by omega : ((A + 2 + 1 : Nat) : Int) < (L.length : Int))] at p; cases p
        have e : V coding_1 (L.drop A) = (-1, 2) := by rw [hV, if_neg (by omega), if_neg o, if_neg (fun h => p ⟨h.1, h.2.1⟩)]
        rw [e]
        exact Tot.ret (.inl rfl)
    · subst hj
      dsimp only
      rw [← hpt]
      refine Tot.bindq (P := fun f => (f = -1 ∧ ∀ j, j < k + 1 → 0 ≤ pt coding_1 L j) ∨ ∃ k', k' < k + 1 ∧ pt coding_1 L k' < 0 ∧ (∀ j, j < k' → 0 ≤ pt coding_1 L j) ∧ f = (At coding_1 L k' : Int)) ?_ fun f hf => ?_
      · refine Tot.ite (fun p => ?_) (fun p => ?_)
        · obtain ⟨p1, p2⟩ := Bool.and_eq_true_iff.1 p
          have p1 : pt coding_1 L k < 0 := of_decide_eq_true p1
          have p2 : fb < 0 := of_decide_eq_true p2
          rcases g5 with ⟨e, h5⟩ | ⟨k', h1, h2, h3, h4⟩
          · exact Tot.ret (.inr ⟨k, by omega, p1, h5, rfl⟩)
          · omega
        · rcases g5 with ⟨e, h5⟩ | ⟨k', h1, h2, h3, h4⟩
          · subst e
            have p : ¬ pt coding_1 L k < 0 := fun h => by
              rw [decide_eq_true h] at p; cases p
            refine Tot.ret (.inl ⟨rfl, fun j hj => ?_⟩)
            rcases (by omega : j < k ∨ j = k) with h' | h'
            · exact h5 j h'
            · subst h'; omega
          · exact Tot.ret (.inr ⟨k', by omega, h2, h3, h4⟩)
      · have hw : IntKind.i64.wrap ((At coding_1 L k : Int) + ((V coding_1 (L.drop (At coding_1 L k))).2 : Int)) = ((At coding_1 L (k + 1) : Nat) : Int) := iw (by rw [hAt]; omega) (by omega)
        rw [hw]
        refine Tot.bind0 (app_ok (by rw [pts_len]; simp only [List.length_cons, List.length_nil]; omega)) (Tot.ret ⟨⟨k + 1, rfl, ?_, fun j hj => ?_, hf⟩, ?_⟩)
        · show pts coding_1 L k ++ _ = _
          unfold pts
          rw [List.range_succ, List.map_append]; rfl
        · rcases (by omega : j < k ∨ j = k) with h' | h'
          · exact g4 j h'
          · subst h'; exact h
        · show L.length - ((At coding_1 L (k + 1) : Nat) : Int).toNat < L.length - ((At coding_1 L k : Nat) : Int).toNat
          omega
  · have h : At coding_1 L k = L.length := by have : ¬ ((At coding_1 L k : Nat) : Int) < (L.length : Int) := of_decide_eq_false h; omega
    exact Tot.ret ⟨k, ⟨g4, h⟩, rfl, g5⟩

/-! ### the points that are put into the text -/
def putN (mode x : Int) : List Nat := if 0 ≤ x then [x.toNat] else if mode = 1 then [65533] else []
theorem enc_putN (mode x : Int) : enc (putN mode x) = put mode x := by
  unfold putN put
  repeat' split
  all_goals simp [enc]
theorem enc_flat {α : Type} (f : α → List Nat) (l : List α) : enc (l.flatMap f) = l.flatMap fun x => enc (f x) := by
  induction l with
  | nil => rfl
  | cons x l ih => rw [List.flatMap_cons, enc_app, ih, List.flatMap_cons]
theorem enc_pts (c mode : Int) (L : List UInt8) (n : Nat) : enc ((pts c L n).flatMap (putN mode)) = outs c mode L n := by
  rw [enc_flat]
  unfold pts outs
  rw [List.flatMap_map]
  congr 1
  funext x
  exact enc_putN _ _
theorem putN_len (mode x : Int) : (putN mode x).length ≤ 1 := by
  unfold putN
  repeat' split
  all_goals simp
theorem flatN_len (mode : Int) (l : List Int) : (l.flatMap (putN mode)).length ≤ l.length := by
  induction l with
  | nil => simp
  | cons x l ih =>
    have := putN_len mode x
    rw [List.flatMap_cons, List.length_append, List.length_cons]; omega
theorem ints_repl (mode_3 : Int) {r412 : List Int × Int} (hl : r412.1.length ≤ 100000000) : Tot (fun fuel => (loopN (fun (s445 : ((List Int) × Int)) => (if (decide (s445.2 < ((List.length r412.1 : Nat) : Int))) then (Option.bind (idx r412.1 s445.2) fun x463 => (Option.bind (if (decide (x463 ≥ 0)) then (Option.bind (idx r412.1 s445.2) fun x468 => (Option.bind (app s445.1 ([x468] : List Int)) fun l481 => (some (l481)))) else (if (mode_3 == 1) then (Option.bind (app s445.1 ([65533] : List Int)) fun l518 => (some (l518))) else (some (s445.1)))) fun (j465 : (List Int)) => (some (.inl (j465, (IntKind.i64.wrap (s445.2 + 1))))))) else (some (.inr (s445.1))))) fuel (([] : List Int), 0))) (fun r => r = ints (r412.1.flatMap (putN mode_3))) := by
  refine Tot.loop (fun st => ∃ i : Nat, st.2 = (i : Int) ∧ i ≤ r412.1.length ∧ st.1 = ints ((r412.1.take i).flatMap (putN mode_3))) (fun st => r412.1.length - st.2.toNat) ⟨0, rfl, by omega, rfl⟩ fun st ⟨i, e, hi, g⟩ => ?_
  obtain ⟨out, q⟩ := st
  simp only at e g
  subst e g
  dsimp only
  refine Tot.ite (fun h => ?_) (fun h => ?_)
  · have hq : i < r412.1.length := by have : ((i : Nat) : Int) < (r412.1.length : Int) := of_decide_eq_true h; omega
    have hlen := flatN_len mode_3 (r412.1.take i)
    rw [List.length_take] at hlen
    have hst : ints ((r412.1.take (i + 1)).flatMap (putN mode_3)) = ints ((r412.1.take i).flatMap (putN mode_3)) ++ ints (putN mode_3 r412.1[i]) := by
      rw [take_snoc hq, List.flatMap_append, ints_app]
      simp
    refine Tot.bind0 (idx_nat hq) (Tot.bindq (P := fun r => r = ints ((r412.1.take (i + 1)).flatMap (putN mode_3))) ?_ fun r hr => ?_)
    · rw [hst]
      have happ : ∀ y : List Int, y.length ≤ 1 → app (ints ((r412.1.take i).flatMap (putN mode_3))) y = some (ints ((r412.1.take i).flatMap (putN mode_3)) ++ y) := fun y hy => app_ok (by rw [ints_len]; omega)
      refine Tot.ite (fun p => ?_) (fun p => ?_)
      · have p : r412.1[i] ≥ 0 := of_decide_eq_true p
        refine Tot.bind0 (idx_nat hq) (Tot.bind0 (happ _ (by simp)) (Tot.ret ?_))
        have : putN mode_3 r412.1[i] = [r412.1[i].toNat] := by unfold putN; rw [if_pos p]
        rw [this]
        simp [ints]
        omega
      have p : ¬ r412.1[i] ≥ 0 := of_decide_eq_false p
      refine Tot.ite (fun m => ?_) (fun m => ?_)
      · have m : mode_3 = 1 := eq_of_beq m
        have : putN mode_3 r412.1[i] = [65533] := by unfold putN; rw [if_neg p, if_pos m]
        rw [this]
        exact Tot.bind0 (happ _ (by simp)) (Tot.ret rfl)
      · have m : mode_3 ≠ 1 := fun e => by subst e; cases m
        have : putN mode_3 r412.1[i] = [] := by unfold putN; rw [if_neg p, if_neg m]
        rw [this]
        exact Tot.ret (by simp [ints])
    · subst hr
      refine Tot.ret ⟨⟨i + 1, iw (by omega) (by omega), hq, rfl⟩, ?_⟩
      show r412.1.length - (IntKind.i64.wrap ((i : Int) + 1)).toNat < r412.1.length - ((i : Nat) : Int).toNat
      rw [iw (n := i + 1) (by omega) (by omega)]; omega
  · have h : i = r412.1.length := by have : ¬ ((i : Nat) : Int) < (r412.1.length : Int) := of_decide_eq_false h; omega
    subst h
    exact Tot.ret (by rw [List.take_length])
end Go.Gv.R
