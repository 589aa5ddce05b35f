import Derived.Test.YtkmcegicngjhbaaDoorL7
set_option linter.all false
namespace Go.Gv.R
open Go Go.Gv Go.Gv.D

theorem text_tot {s : ByteArray} {f : Int × Int} {want : ByteArray} {w : Int × Int} (h : (f, s) = if w.1 = 0 ∧ 4000 < want.size then ((3, -1), strOf []) else if w.1 ≠ 0 then (w, strOf []) else (w, want)) : Tot (fun fuel => law4_text fuel s f want w) (fun r => r = true) := by
  unfold law4_text
  obtain ⟨w1, w2⟩ := w
  dsimp only at h ⊢
  by_cases h1 : w1 = 0
  · subst h1
    refine Tot.bindq (P := fun r => r = decide ((want.size : Int) > 4000)) (Tot.it rfl (Tot.ret rfl)) fun r hr => ?_
    subst hr
    by_cases h2 : 4000 < want.size
    · rw [if_pos ⟨rfl, h2⟩] at h
      obtain ⟨e1, e2⟩ := Prod.mk.inj h
      subst e1 e2
      refine Tot.bindq (P := fun r => r = (3, -1)) (Tot.it (decide_eq_true (by omega)) (Tot.bindq (P := fun r => r = (3, -1)) (by unfold ref4_At; exact Tot.ret rfl) fun r hr => Tot.ret (by subst hr; rfl))) fun r hr => ?_
      subst hr
      exact Tot.it rfl (Tot.bindq (P := fun r => r = true) (Tot.it rfl (Tot.ret (by rw [str_eq]; exact decide_eq_true rfl))) fun r hr => Tot.ret hr)
    · rw [if_neg (fun h => h2 h.2), if_neg (fun h => h rfl)] at h
      obtain ⟨e1, e2⟩ := Prod.mk.inj h
      subst e1 e2
      refine Tot.bindq (P := fun r => r = (0, w2)) (Tot.if_ (decide_eq_false (by omega)) (Tot.ret rfl)) fun r hr => ?_
      subst hr
      exact Tot.if_ rfl (Tot.bindq (P := fun r => r = true) (Tot.it (by simp) (Tot.ret (by rw [str_eq]; exact decide_eq_true rfl))) fun r hr => Tot.ret hr)
  · rw [if_neg (fun h => h1 h.1), if_pos h1] at h
    obtain ⟨e1, e2⟩ := Prod.mk.inj h
    subst e1 e2
    refine Tot.bindq (P := fun r => r = false) (Tot.if_ (beq_eq_false_iff_ne.2 h1) (Tot.ret rfl)) fun r hr => ?_
    subst hr
    refine Tot.bindq (P := fun r => r = (w1, w2)) (Tot.if_ rfl (Tot.ret rfl)) fun r hr => ?_
    subst hr
    exact Tot.it (bne_iff_ne.2 h1) (Tot.bindq (P := fun r => r = true) (Tot.it (by simp) (Tot.ret (by rw [str_eq]; exact decide_eq_true rfl))) fun r hr => Tot.ret hr)
theorem hi_sub (x : UInt8) : ssub (strOf [48, 49, 50, 51, 52, 53, 54, 55, 56, 57, 97, 98, 99, 100, 101, 102]) (IntKind.u8.wrap ((x.toNat : Int).tdiv 16)) (IntKind.u8.wrap ((IntKind.u8.wrap ((x.toNat : Int).tdiv 16)) + 1)) = some (strOf [hx (x.toNat / 16)]) := by
  have h : ((List.range 256).all fun n => decide (ssub (strOf hexT) (IntKind.u8.wrap (((n : Nat) : Int).tdiv 16)) (IntKind.u8.wrap ((IntKind.u8.wrap (((n : Nat) : Int).tdiv 16)) + 1)) = some (strOf [hx (n / 16)]))) = true := by kernel_rfl
  exact of_decide_eq_true (byte_all (p := fun n => decide (ssub (strOf hexT) (IntKind.u8.wrap (((n : Nat) : Int).tdiv 16)) (IntKind.u8.wrap ((IntKind.u8.wrap (((n : Nat) : Int).tdiv 16)) + 1)) = some (strOf [hx (n / 16)]))) h x)
theorem lo_sub (x : UInt8) : ssub (strOf [48, 49, 50, 51, 52, 53, 54, 55, 56, 57, 97, 98, 99, 100, 101, 102]) ((x.toNat : Int).tmod 16) (IntKind.u8.wrap (((x.toNat : Int).tmod 16) + 1)) = some (strOf [hx (x.toNat % 16)]) := by
  have h : ((List.range 256).all fun n => decide (ssub (strOf hexT) (((n : Nat) : Int).tmod 16) (IntKind.u8.wrap ((((n : Nat) : Int).tmod 16) + 1)) = some (strOf [hx (n % 16)]))) = true := by kernel_rfl
  exact of_decide_eq_true (byte_all (p := fun n => decide (ssub (strOf hexT) (((n : Nat) : Int).tmod 16) (IntKind.u8.wrap ((((n : Nat) : Int).tmod 16) + 1)) = some (strOf [hx (n % 16)]))) h x)

theorem hexOut_tot {b_0 : List UInt8} (hb : b_0.length ≤ 1048576) : Tot (fun fuel => (loopN (fun (s100 : (ByteArray × Int)) => (if ((decide (s100.2 < ((List.length b_0 : Nat) : Int))) && (decide (s100.2 ≤ 2001))) then (Option.bind (idx b_0 s100.2) fun x136 => (Option.bind (idx b_0 s100.2) fun x139 => (Option.bind (idx b_0 s100.2) fun x141 => (Option.bind (idx b_0 s100.2) fun x143 => (Option.bind (ssub (strOf [48, 49, 50, 51, 52, 53, 54, 55, 56, 57, 97, 98, 99, 100, 101, 102]) (IntKind.u8.wrap ((((x136).toNat : Int)).tdiv 16)) (IntKind.u8.wrap ((IntKind.u8.wrap ((((x139).toNat : Int)).tdiv 16)) + 1))) fun x146 => (Option.bind (ssub (strOf [48, 49, 50, 51, 52, 53, 54, 55, 56, 57, 97, 98, 99, 100, 101, 102]) ((((x141).toNat : Int)).tmod 16) (IntKind.u8.wrap (((((x143).toNat : Int)).tmod 16) + 1))) fun x148 => (Option.bind (cat x146 x148) fun x150 => (Option.bind (cat s100.1 x150) fun x152 => (some (.inl (x152, (IntKind.i64.wrap (s100.2 + 1))))))))))))) else (some (.inr (s100.1))))) fuel ((strOf []), 0))) (fun r => r = strOf (hexL (b_0.take 2002))) := by
  refine Tot.loop (fun st => ∃ i : Nat, st.2 = (i : Int) ∧ i ≤ b_0.length ∧ i ≤ 2002 ∧ st.1 = strOf (hexL (b_0.take i))) (fun st => b_0.length - st.2.toNat) ⟨0, rfl, by omega, by omega, rfl⟩ fun st ⟨i, e, hi, hi2, g⟩ => ?_
  obtain ⟨out, q⟩ := st
  simp only at e g
  subst e g
  dsimp only
  have hlen := hexL_len (b_0.take i)
  rw [List.length_take] at hlen
  refine Tot.ite (fun h => ?_) (fun h => ?_)
  · obtain ⟨h1, h2⟩ := Bool.and_eq_true_iff.1 h
    have h1 : ((i : Nat) : Int) < (b_0.length : Int) := of_decide_eq_true h1
    have h2 : ((i : Nat) : Int) ≤ 2001 := of_decide_eq_true h2
    have hq : i < b_0.length := by omega
    refine Tot.bind0 (idx_nat hq) (Tot.bind0 (idx_nat hq) (Tot.bind0 (idx_nat hq) (Tot.bind0 (idx_nat hq) (Tot.bind0 (hi_sub _) (Tot.bind0 (lo_sub _) (Tot.bind0 (cat_str (by simp)) (Tot.bind0 (cat_str ?_) (Tot.ret ⟨⟨i + 1, ?_, by omega, by omega, ?_⟩, ?_⟩))))))))
    · simp only [List.length_append, List.length_cons, List.length_nil]; omega
    · show IntKind.i64.wrap ((i : Int) + 1) = ((i + 1 : Nat) : Int)
      rw [i64_small (by omega) (by omega)]; omega
    · rw [take_snoc hq, hexL_snoc]; rfl
    · show b_0.length - (IntKind.i64.wrap ((i : Int) + 1)).toNat < b_0.length - ((i : Nat) : Int).toNat
      rw [i64_small (by omega) (by omega)]; omega
  · refine Tot.ret ?_
    have h : ¬ (((i : Nat) : Int) < (b_0.length : Int) ∧ ((i : Nat) : Int) ≤ 2001) := fun ⟨h1, h2⟩ => by
      rw [decide_eq_true h1, decide_eq_true h2] at h; cases h
    rcases (by omega : i = b_0.length ∨ i = 2002) with h | h
    · subst h
      rw [List.take_length, List.take_of_length_le hi2]
    · rw [h]

end Go.Gv.R
