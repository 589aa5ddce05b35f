import Derived.Test.YtlclmpegnkomcaaDoorL7
set_option linter.all false
namespace Go.Gv.R
open Go Go.Gv Go.Gv.D

theorem text_tot {s : ByteArray} {f : Int × Int} {want : ByteArray} {w : Int × Int} (h : (f, s) = if w.1 = 0 ∧ 4000 < want.size then ((3, -1), strOf []) else if w.1 ≠ 0 then (w, strOf []) else (w, want)) : Tot (fun fuel => law4_text fuel s f want w) (fun r => r = true) := by
  unfold law4_text
  obtain ⟨w1, w2⟩ := w
  dsimp only at h ⊢
  by_cases h1 : w1 = 0
  · subst h1
    refine Tot.bindq (P := fun r => r = decide ((want.size : Int) > 4000)) (Tot.it rfl (Tot.ret rfl)) fun r hr => ?_
    subst hr
    by_cases h2 : 4000 < want.size
    · rw [if_pos ⟨rfl, h2⟩] at h
      obtain ⟨e1, e2⟩ := Prod.mk.inj h
      subst e1 e2
      refine Tot.bindq (P := fun r => r = (3, -1)) (Tot.it (decide_eq_true (by omega)) (Tot.bindq (P := fun r => r = (3, -1)) (by unfold ref4_At; exact Tot.ret rfl) fun r hr => Tot.ret (by subst hr; rfl))) fun r hr => ?_
      subst hr
      exact Tot.it rfl (Tot.bindq (P := fun r => r = true) (Tot.it rfl (Tot.ret (by rw [str_eq]; exact decide_eq_true rfl))) fun r hr => Tot.ret hr)
    · rw [if_neg (fun h => h2 h.2), if_neg (fun h => h rfl)] at h
      obtain ⟨e1, e2⟩ := Prod.mk.inj h
      subst e1 e2
      refine Tot.bindq (P := fun r => r = (0, w2)) (Tot.if_ (decide_eq_false (by omega)) (Tot.ret rfl)) fun r hr => ?_
      subst hr
      exact Tot.if_ rfl (Tot.bindq (P := fun r => r = true) (Tot.it (by simp) (Tot.ret (by rw [str_eq]; exact decide_eq_true rfl))) fun r hr => Tot.ret hr)
  · rw [if_neg (fun h => h1 h.1), if_pos h1] at h
    obtain ⟨e1, e2⟩ := Prod.mk.inj h
    subst e1 e2
    refine Tot.bindq (P := fun r => r = false) (Tot.if_ (beq_eq_false_iff_ne.2 h1) (Tot.ret rfl)) fun r hr => ?_
    subst hr
    refine Tot.bindq (P := fun r => r = (w1, w2)) (Tot.if_ rfl (Tot.ret rfl)) fun r hr => ?_
    subst hr
    exact Tot.it (bne_iff_ne.2 h1) (Tot.bindq (P := fun r => r = true) (Tot.it (by simp) (Tot.ret (by rw [str_eq]; exact decide_eq_true rfl))) fun r hr => Tot.ret hr)
theorem raw_tot {b : List UInt8} {f : Int × Int} {want : List UInt8} {w : Int × Int} (h : (f, b) = if w.1 ≠ 0 then (w, []) else (w, want)) : Tot (fun fuel => law4_raw fuel b f want w) (fun r => r = true) := by
  unfold law4_raw
  obtain ⟨w1, w2⟩ := w
  dsimp only at h ⊢
  by_cases h1 : w1 = 0
  · subst h1
    rw [if_neg (fun h => h rfl)] at h
    obtain ⟨e1, e2⟩ := Prod.mk.inj h
    subst e1 e2
    refine Tot.if_ rfl (Tot.bindq (P := fun r => r = true) (Tot.it (by simp) (Tot.bindq (P := fun r => r = true) ?_ fun r hr => Tot.ret hr)) fun r hr => Tot.ret hr)
    unfold ref4_SameBytes
    exact Tot.some_bind (Tot.ret (by rw [str_eq]; exact decide_eq_true rfl))
  · rw [if_pos h1] at h
    obtain ⟨e1, e2⟩ := Prod.mk.inj h
    subst e1 e2
    exact Tot.it (bne_iff_ne.2 h1) (Tot.bindq (P := fun r => r = true) (Tot.it (by simp) (Tot.ret rfl)) fun r hr => Tot.ret hr)

theorem decode_abc : Tot (fun fuel => bytestr_Decode fuel ([(97 : UInt8), (255 : UInt8), (98 : UInt8)] : List UInt8) 0 2) (fun r => r = (strOf [97, 98], (0, 0))) := Tot.of_all 20 (fun k => by kernel_rfl) rfl
theorem translate_abc : Tot (fun fuel => bytestr_Translate fuel ([(98 : UInt8), (97 : UInt8), (110 : UInt8), (97 : UInt8), (110 : UInt8), (97 : UInt8)] : List UInt8) ([(97 : UInt8), (110 : UInt8)] : List UInt8) ([(120 : UInt8), (121 : UInt8)] : List UInt8) ([(98 : UInt8)] : List UInt8)) (fun r => r = ([120, 121, 120, 121, 120], (0, 0))) := Tot.of_all 20 (fun k => by kernel_rfl) rfl
theorem bytesOf_tot : Tot (fun fuel => law4_bytesOf fuel) (fun r => r = true) := by
  unfold law4_bytesOf
  refine Tot.bindq (Base64_tot (b := [255]) (by decide)) fun r hr => ?_
  have h64 : b64L [255] = [47, 119, 61, 61] := by kernel_rfl
  rw [if_neg (by decide), h64] at hr
  subst hr
  refine Tot.bindq decode_abc fun r hr => ?_
  subst hr
  refine Tot.bindq translate_abc fun r hr => ?_
  subst hr
  refine Tot.bindq (P := fun r => r = true) ?_ fun r hr => Tot.ret hr
  refine Tot.it rfl (Tot.it rfl (Tot.it rfl (Tot.it ?_ (Tot.it ?_ (Tot.some_bind (Tot.ret ?_)))))) <;> (rw [str_eq]; exact decide_eq_true rfl)

theorem hi_sub (x : UInt8) : ssub (strOf [48, 49, 50, 51, 52, 53, 54, 55, 56, 57, 97, 98, 99, 100, 101, 102]) (IntKind.u8.wrap ((x.toNat : Int).tdiv 16)) (IntKind.u8.wrap ((IntKind.u8.wrap ((x.toNat : Int).tdiv 16)) + 1)) = some (strOf [hx (x.toNat / 16)]) := by
  have h : ((List.range 256).all fun n => decide (ssub (strOf hexT) (IntKind.u8.wrap (((n : Nat) : Int).tdiv 16)) (IntKind.u8.wrap ((IntKind.u8.wrap (((n : Nat) : Int).tdiv 16)) + 1)) = some (strOf [hx (n / 16)]))) = true := by kernel_rfl
  exact of_decide_eq_true (byte_all (p := fun n => decide (ssub (strOf hexT) (IntKind.u8.wrap (((n : Nat) : Int).tdiv 16)) (IntKind.u8.wrap ((IntKind.u8.wrap (((n : Nat) : Int).tdiv 16)) + 1)) = some (strOf [hx (n / 16)]))) h x)
theorem lo_sub (x : UInt8) : ssub (strOf [48, 49, 50, 51, 52, 53, 54, 55, 56, 57, 97, 98, 99, 100, 101, 102]) ((x.toNat : Int).tmod 16) (IntKind.u8.wrap (((x.toNat : Int).tmod 16) + 1)) = some (strOf [hx (x.toNat % 16)]) := by
  have h : ((List.range 256).all fun n => decide (ssub (strOf hexT) (((n : Nat) : Int).tmod 16) (IntKind.u8.wrap ((((n : Nat) : Int).tmod 16) + 1)) = some (strOf [hx (n % 16)]))) = true := by kernel_rfl
  exact of_decide_eq_true (byte_all (p := fun n => decide (ssub (strOf hexT) (((n : Nat) : Int).tmod 16) (IntKind.u8.wrap ((((n : Nat) : Int).tmod 16) + 1)) = some (strOf [hx (n % 16)]))) h x)

theorem hexOut_tot {b_0 : List UInt8} (hb : b_0.length ≤ 1048576) : Tot (fun fuel => (loopN (fun (s100 : (ByteArray × Int)) => (if ((decide (s100.2 < ((List.length b_0 : Nat) : Int))) && (decide (s100.2 ≤ 2001))) then (Option.bind (idx b_0 s100.2) fun x136 => (Option.bind (idx b_0 s100.2) fun x139 => (Option.bind (idx b_0 s100.2) fun x141 => (Option.bind (idx b_0 s100.2) fun x143 => (Option.bind (ssub (strOf [48, 49, 50, 51, 52, 53, 54, 55, 56, 57, 97, 98, 99, 100, 101, 102]) (IntKind.u8.wrap ((((x136).toNat : Int)).tdiv 16)) (IntKind.u8.wrap ((IntKind.u8.wrap ((((x139).toNat : Int)).tdiv 16)) + 1))) fun x146 => (Option.bind (ssub (strOf [48, 49, 50, 51, 52, 53, 54, 55, 56, 57, 97, 98, 99, 100, 101, 102]) ((((x141).toNat : Int)).tmod 16) (IntKind.u8.wrap (((((x143).toNat : Int)).tmod 16) + 1))) fun x148 => (Option.bind (cat x146 x148) fun x150 => (Option.bind (cat s100.1 x150) fun x152 => (some (.inl (x152, (IntKind.i64.wrap (s100.2 + 1))))))))))))) else (some (.inr (s100.1))))) fuel ((strOf []), 0))) (fun r => r = strOf (hexL (b_0.take 2002))) := by
  refine Tot.loop (fun st => ∃ i : Nat, st.2 = (i : Int) ∧ i ≤ b_0.length ∧ i ≤ 2002 ∧ st.1 = strOf (hexL (b_0.take i))) (fun st => b_0.length - st.2.toNat) ⟨0, rfl, by omega, by omega, rfl⟩ fun st ⟨i, e, hi, hi2, g⟩ => ?_
  obtain ⟨out, q⟩ := st
  simp only at e g
  subst e g
  dsimp only
  have hlen := hexL_len (b_0.take i)
  rw [List.length_take] at hlen
  refine Tot.ite (fun h => ?_) (fun h => ?_)
  · obtain ⟨h1, h2⟩ := Bool.and_eq_true_iff.1 h
    have h1 : ((i : Nat) : Int) < (b_0.length : Int) := of_decide_eq_true h1
    have h2 : ((i : Nat) : Int) ≤ 2001 := of_decide_eq_true h2
    have hq : i < b_0.length := by omega
    refine Tot.bind0 (idx_nat hq) (Tot.bind0 (idx_nat hq) (Tot.bind0 (idx_nat hq) (Tot.bind0 (idx_nat hq) (Tot.bind0 (hi_sub _) (Tot.bind0 (lo_sub _) (Tot.bind0 (cat_str (by simp)) (Tot.bind0 (cat_str ?_) (Tot.ret ⟨⟨i + 1, ?_, by omega, by omega, ?_⟩, ?_⟩))))))))
    · simp only [List.length_append, List.length_cons, List.length_nil]; omega
    · show IntKind.i64.wrap ((i : Int) + 1) = ((i + 1 : Nat) : Int)
      rw [i64_small (by omega) (by omega)]; omega
    · rw [take_snoc hq, hexL_snoc]; rfl
    · show b_0.length - (IntKind.i64.wrap ((i : Int) + 1)).toNat < b_0.length - ((i : Nat) : Int).toNat
      rw [i64_small (by omega) (by omega)]; omega
  · refine Tot.ret ?_
    have h : ¬ (((i : Nat) : Int) < (b_0.length : Int) ∧ ((i : Nat) : Int) ≤ 2001) := fun ⟨h1, h2⟩ => by
      rw [decide_eq_true h1, decide_eq_true h2] at h; cases h
    rcases (by omega : i = b_0.length ∨ i = 2002) with h | h
    · subst h
      rw [List.take_length, List.take_of_length_le hi2]
    · rw [h]

theorem Digits_tot {b : List UInt8} {s : ByteArray} (hb : b.length ≤ 1048576) (hs : s.size ≤ 1048576) : Tot (fun fuel => law4_BytestrDigits fuel b s) (fun r => r = true) := by
  unfold law4_BytestrDigits
  refine Tot.bindq (Hex_tot hb) fun rh hrh => Tot.bindq (Base64_tot hb) fun r6 hr6 => Tot.bindq (FromHex_tot hs) fun fh hfh => Tot.bindq (FromBase64_tot hs) fun f6 hf6 => Tot.bindq bytesOf_tot fun r hr => ?_
  subst hr
  refine Tot.if_ rfl (Tot.bindq (hexOut_tot hb) fun j hj => ?_)
  subst hj
  have hat : ∀ a b, Tot (fun fuel => ref4_At fuel a b) (fun r => r = (a, b)) := fun a b => by unfold ref4_At; exact Tot.ret rfl
  refine Tot.bindq (hat 3 (-1)) fun r hr => ?_
  subst hr
  refine Tot.bindq (text_tot ?_) fun r hr => ?_
  · have h1 := hexL_len (b.take 2002)
    rw [List.length_take] at h1
    rw [hrh, size_str]
    by_cases h : 2000 < b.length
    · rw [if_pos h, if_pos ⟨rfl, by omega⟩]
    · rw [if_neg h, if_neg (fun h' => by have := h'.2; omega), if_neg (fun h => h rfl), List.take_of_length_le (by omega)]
  subst hr
  refine Tot.if_ rfl (Tot.bindq (P := fun r => r = .inl ()) ?_ fun r hr => ?_)
  · refine Tot.ite (fun h => ?_) (fun h => ?_)
    · have h : (b.length : Int) > 3000 := of_decide_eq_true h
      refine Tot.bindq (text_tot ?_) fun r hr => ?_
      · rw [hr6, if_pos (by omega)]; rfl
      · subst hr
        exact Tot.if_ rfl (Tot.ret rfl)
    · have h : ¬ (b.length : Int) > 3000 := of_decide_eq_false h
      refine Tot.bindq (Sixties_tot (by omega)) fun r hr => ?_
      subst hr
      refine Tot.bindq (text_tot ?_) fun r hr => ?_
      · have := b64L_len b
        rw [hr6, if_neg (by omega), if_neg (fun h' => by have h' := h'.2; rw [size_str] at h'; omega)]; rfl
      · subst hr
        exact Tot.if_ rfl (Tot.ret rfl)
  subst hr
  refine Tot.contl (Tot.ite (fun h => ?_) (fun h => ?_))
  · have h : (s.size : Int) > 4000 := of_decide_eq_true h
    rw [if_pos (by omega)] at hfh hf6
    subst hfh hf6
    refine Tot.bindq (P := fun r => r = true) (Tot.bindq (raw_tot rfl) fun r hr => ?_) fun r hr => Tot.ret hr
    subst hr
    exact Tot.it rfl (Tot.bindq (raw_tot rfl) fun r hr => Tot.ret hr)
  · have h : ¬ (s.size : Int) > 4000 := of_decide_eq_false h
    rw [if_neg (by omega)] at hfh hf6
    refine Tot.bindq (P := fun r => if s.size % 2 = 0 then r = (0, 0) else r = (9, -1)) ?_ fun r hr => ?_
    · refine Tot.ite (fun h2 => ?_) (fun h2 => ?_)
      · have h2 : (s.size : Int).tmod 2 ≠ 0 := by simpa using h2
        rw [Int.tmod_eq_emod_of_nonneg (by omega)] at h2
        refine Tot.bindq (hat 9 (-1)) fun r hr => Tot.ret ?_
        subst hr
        rw [if_neg (by omega)]
      · have h2 : (s.size : Int).tmod 2 = 0 := by simpa using h2
        rw [Int.tmod_eq_emod_of_nonneg (by omega)] at h2
        exact Tot.ret (by rw [if_pos (by omega)])
    refine Tot.bindq (P := fun j => (fh.2, fh.1) = if j.2.1 ≠ 0 then (j.2, []) else (j.2, j.1)) ?_ fun j hj => ?_
    · by_cases he : s.size % 2 = 0
      · rw [if_pos he] at hr
        rw [if_neg (by omega)] at hfh
        subst hr
        refine Tot.mono (ref_hex (by omega) he) fun j hj => ?_
        have huniq : ∀ {i i' : Nat} {h : i < (bytesOf s).length} {h' : i' < (bytesOf s).length}, hv (bytesOf s)[i] < 0 → (∀ k (hk : k < i), 0 ≤ hv (bytesOf s)[k]) → hv (bytesOf s)[i'] < 0 → (∀ k (hk : k < i'), 0 ≤ hv (bytesOf s)[k]) → i = i' := fun {i i' h h'} a b c d => by
          rcases Nat.lt_trichotomy i i' with h | h | h
          · have := d i h; omega
          · exact h
          · have := b i' h; omega
        rcases hj with ⟨e, hx⟩ | ⟨e, hx⟩
        · rw [e, if_neg (fun h => h rfl)]
          rcases hx with ⟨i, hi, h1, h2, h3⟩ | ⟨h1, h2⟩
          · rw [h3] at e; simp at e
          · rcases hfh with ⟨i', hi', h3, h4, h5⟩ | ⟨_, h5⟩
            · have := h1 _ (List.getElem_mem hi'); omega
            · rw [h5, h2]
        · rw [if_pos (by rw [e]; decide)]
          rcases hx with ⟨i, hi, h1, h2, h3⟩ | ⟨h1, h2⟩
          · rcases hfh with ⟨i', hi', h4, h5, h6⟩ | ⟨h4, h5⟩
            · have hii := huniq h1 h2 h4 h5
              subst hii
              rw [h6, (Prod.mk.inj h3).2]
            · have := h4 _ (List.getElem_mem hi); omega
          · have h2 := (Prod.mk.inj h2).2
            rw [h2] at e; simp at e
      · rw [if_neg he] at hr
        rw [if_pos he] at hfh
        subst hr hfh
        refine Tot.loop (fun st => st = ([], 0, (9, -1))) (fun _ => 0) rfl fun st e => ?_
        subst e
        refine Tot.bindq (P := fun r => r = false) (Tot.ite (fun _ => Tot.ret rfl) (fun _ => Tot.ret rfl)) fun r hr => ?_
        subst hr
        exact Tot.if_ rfl (Tot.ret rfl)
    refine Tot.bindq (raw_tot hj) fun r hr => ?_
    subst hr
    refine Tot.if_ rfl (Tot.ite (fun h4 => ?_) (fun h4 => ?_))
    · have h4 : (s.size : Int).tmod 4 ≠ 0 := by simpa using h4
      rw [Int.tmod_eq_emod_of_nonneg (by omega)] at h4
      rw [if_pos (by omega)] at hf6
      subst hf6
      refine Tot.bindq (hat 9 (-1)) fun r hr => ?_
      subst hr
      exact Tot.bindq (raw_tot rfl) fun r hr => Tot.ret hr
    · have h4 : (s.size : Int).tmod 4 = 0 := by simpa using h4
      rw [Int.tmod_eq_emod_of_nonneg (by omega)] at h4
      rw [if_neg (by omega)] at hf6
      refine Tot.bindq (Bytes64_tot (by omega)) fun r hr => ?_
      rcases hr with ⟨e, hx⟩ | ⟨e, hx⟩
      · refine Tot.if_ (by rw [e]; rfl) ?_
        rcases hf6 with ⟨_, h5⟩ | ⟨h5, h6, h7⟩
        · exact absurd hx (h5 _)
        · refine Tot.bindq (raw_tot ?_) fun r hr => Tot.ret hr
          rw [h5, h7 _ hx]; rfl
      · refine Tot.it (by rw [e]; rfl) ?_
        rcases hf6 with ⟨h5, _⟩ | ⟨h5, h6, h7⟩
        · refine Tot.bindq (hat 1 (-1)) fun r hr => ?_
          subst hr
          refine Tot.bindq (raw_tot ?_) fun r hr => Tot.ret hr
          rw [h5]; rfl
        · exact absurd h6 (hx _)
end Go.Gv.R
