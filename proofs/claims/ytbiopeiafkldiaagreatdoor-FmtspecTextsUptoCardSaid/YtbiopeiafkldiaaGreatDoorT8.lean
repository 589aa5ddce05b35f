import Derived.Test.YtbiopeiafkldiaaGreatDoorT7
set_option linter.all false
namespace Go.Gv.P
open Go Go.Gv Go.Gv.D Go.Gv.R Go.Lib
set_option maxRecDepth 100000

theorem u8_cast {x : Int} (h : 0 ≤ x ∧ x < 256) : u8 x = some (UInt8.ofNat x.toNat) := by
  have := u8_ok (n := x.toNat) (by omega)
  rwa [show ((x.toNat : Nat) : Int) = x by omega] at this
theorem cat_enc {acc l : List Nat} (h : acc.length + l.length ≤ 1000) : cat (strOf (enc acc)) (strOf (enc l)) = some (strOf (enc (acc ++ l))) := by
  have h1 := enc_len_le acc
  have h2 := enc_len_le l
  rw [cat_str (by omega), enc_app]
theorem byte_enc {S : List UInt8} (hS : SetOk S) {x : Int} (hx : 0 ≤ x ∧ x < 256) (h : inB S x = true) : [UInt8.ofNat x.toNat] = enc [x.toNat] := by
  obtain ⟨_, h1, h2⟩ := inB_nat hS hx h
  rw [enc_cons, encR1 (by omega)]; rfl
theorem ofNat_ne {x : Int} (hx : 0 ≤ x ∧ x < 256) : ((((UInt8.ofNat x.toNat).toNat : Nat) : Int) != 0) = (x != 0) := by rw [← byte_cast hx]
theorem cat_step {c : Bool} {acc l : List Nat} {t : ByteArray} (h : c = true → t = strOf (enc l)) (hl : acc.length + l.length ≤ 1000) : Tot (fun _ : Nat => if c = true then (cat (strOf (enc acc)) t).bind some else some (strOf (enc acc))) (· = strOf (enc (acc ++ optN c l))) := by
  cases c
  · exact Tot.if_ rfl (Tot.ret (by rw [show optN false l = [] from rfl, List.append_nil]))
  · rw [h rfl]
    exact Tot.it rfl (Tot.bind0 (cat_enc hl) (Tot.ret rfl))
theorem SpecText_tot {s : Sp} (g : Good s) : Tot (fun n => ref4_SpecText n s) (· = strOf (enc (wr s))) := by
  unfold ref4_SpecText
  have hw := itN_len (n := s.2.2.2.2.2.1.toNat) (by have := g.w; omega)
  have hp := itN_len (n := s.2.2.2.2.2.2.2.2.1.toNat) (by have := g.p; omega)
  have l1 := len1 (b := (s.1 != 0)) (x := s.1.toNat)
  have l2 := len1 (b := (s.2.1 != 0)) (x := s.2.1.toNat)
  have l3 := len1 (b := (s.2.2.1 != 0)) (x := s.2.2.1.toNat)
  have l4 := len1 (b := s.2.2.2.1) (x := 35)
  have l5 := len1 (b := s.2.2.2.2.1) (x := 48)
  have l6 := optN_len (b := decide (s.2.2.2.2.2.1 > 0)) (l := itN s.2.2.2.2.2.1.toNat)
  have l7 := len1 (b := (s.2.2.2.2.2.2.1 != 0)) (x := s.2.2.2.2.2.2.1.toNat)
  have l8 := optN_len (b := s.2.2.2.2.2.2.2.1) (l := 46 :: itN s.2.2.2.2.2.2.2.2.1.toNat)
  have l8' : (optN s.2.2.2.2.2.2.2.1 (46 :: itN s.2.2.2.2.2.2.2.2.1.toNat)).length ≤ 4 := by simp only [List.length_cons] at l8; omega
  refine Tot.bindq (P := (· = strOf (enc (optN (s.1 != 0) [s.1.toNat])))) ?_ fun j hj => ?_
  · refine Tot.ite (fun h => ?_) (fun h => Tot.ret (by rw [h]; rfl))
    rw [h]
    rcases g.fill with h0 | ⟨h1, h0, _⟩
    · rw [h0] at h; cases h
    · have := String_tot (p := [s.1.toNat]) (fun r hr => by rw [List.mem_singleton.1 hr]; exact h1) (by simp)
      rw [show ints [s.1.toNat] = [s.1] by simp [ints, Int.toNat_of_nonneg h0]] at this
      exact Tot.bindq this fun r hr => Tot.ret hr
  subst hj
  obtain ⟨F0, hF⟩ : ∃ F0, F0 = optN (s.1 != 0) [s.1.toNat] := ⟨_, rfl⟩
  rw [← hF] at l1 ⊢
  refine Tot.bind0 (u8_cast g.ok.al) (Tot.bind0 (u8_cast g.ok.sg) ?_)
  refine Tot.bindq (P := (· = strOf (enc (F0 ++ optN (s.2.1 != 0) [s.2.1.toNat] ++ optN (s.2.2.1 != 0) [s.2.2.1.toNat])))) ?_ fun j hj => ?_
  · refine Tot.loop (fun st : ByteArray × Int => st = (strOf (enc F0), 0) ∨ st = (strOf (enc (F0 ++ optN (s.2.1 != 0) [s.2.1.toNat])), 1) ∨ st = (strOf (enc (F0 ++ optN (s.2.1 != 0) [s.2.1.toNat] ++ optN (s.2.2.1 != 0) [s.2.2.1.toNat])), 2)) (fun st => 2 - st.2.toNat) (.inl rfl) fun st hst => ?_
    rcases hst with rfl | rfl | rfl
    · refine Tot.it rfl (Tot.bind0 (idx_nat (i := 0) (by simp)) ?_)
      refine Tot.bindq (P := (· = strOf (enc (F0 ++ optN (s.2.1 != 0) [s.2.1.toNat])))) ?_ fun x hx => Tot.ret (by subst hx; exact ⟨.inr (.inl rfl), show 2 - (IntKind.i64.wrap ((0 : Int) + 1)).toNat < 2 - ((0 : Int)).toNat by decide⟩)
      show Tot (fun n => if ((((UInt8.ofNat s.2.1.toNat).toNat : Nat) : Int) != 0) = true then _ else _) _
      rw [ofNat_ne g.ok.al]
      refine Tot.ite (fun h => ?_) (fun h => Tot.ret (by rw [h, show optN false [s.2.1.toNat] = [] from rfl, List.append_nil]))
      refine Tot.bind0 (idx_nat (i := 0) (by simp)) ?_
      rw [h]
      rcases g.al with h0 | h0
      · rw [h0] at h; cases h
      · show Tot (fun n => (cat (strOf (enc F0)) (strOf [UInt8.ofNat s.2.1.toNat])).bind _) _
        rw [byte_enc AL_ok g.ok.al h0]
        exact Tot.bind0 (cat_enc (by simp only [List.length_singleton]; omega)) (Tot.ret rfl)
    · refine Tot.it rfl (Tot.bind0 (idx_nat (i := 1) (by simp)) ?_)
      refine Tot.bindq (P := (· = strOf (enc (F0 ++ optN (s.2.1 != 0) [s.2.1.toNat] ++ optN (s.2.2.1 != 0) [s.2.2.1.toNat])))) ?_ fun x hx => Tot.ret (by subst hx; exact ⟨.inr (.inr rfl), show 2 - (IntKind.i64.wrap ((1 : Int) + 1)).toNat < 2 - ((1 : Int)).toNat by decide⟩)
      show Tot (fun n => if ((((UInt8.ofNat s.2.2.1.toNat).toNat : Nat) : Int) != 0) = true then _ else _) _
      rw [ofNat_ne g.ok.sg]
      refine Tot.ite (fun h => ?_) (fun h => Tot.ret (by rw [h, show optN false [s.2.2.1.toNat] = [] from rfl, List.append_nil]))
      refine Tot.bind0 (idx_nat (i := 1) (by simp)) ?_
      rw [h]
      rcases g.sg with h0 | h0
      · rw [h0] at h; cases h
      · show Tot (fun n => (cat (strOf (enc (F0 ++ optN (s.2.1 != 0) [s.2.1.toNat]))) (strOf [UInt8.ofNat s.2.2.1.toNat])).bind _) _
        rw [byte_enc SG_ok g.ok.sg h0]
        exact Tot.bind0 (cat_enc (by simp only [List.length_singleton, List.length_append]; omega)) (Tot.ret rfl)
    · exact Tot.if_ rfl (Tot.ret rfl)
  subst hj
  refine Tot.bindq (cat_step (l := [35]) (fun _ => rfl) (by simp only [List.length_singleton, List.length_append]; omega)) fun j hj => ?_
  subst hj
  refine Tot.bindq (cat_step (l := [48]) (fun _ => rfl) (by simp only [List.length_singleton, List.length_append]; omega)) fun j hj => ?_
  subst hj
  refine Tot.bindq (P := (· = strOf (enc (F0 ++ optN (s.2.1 != 0) [s.2.1.toNat] ++ optN (s.2.2.1 != 0) [s.2.2.1.toNat] ++ optN s.2.2.2.1 [35] ++ optN s.2.2.2.2.1 [48] ++ optN (decide (s.2.2.2.2.2.1 > 0)) (itN s.2.2.2.2.2.1.toNat))))) ?_ fun j hj => ?_
  · refine Tot.ite (fun h => ?_) (fun h => Tot.ret (by rw [h, show ∀ l, optN false l = [] from fun _ => rfl, List.append_nil]))
    refine Tot.bindq (decimal_tot g.w.1 g.w.2) fun r hr => ?_
    subst hr
    rw [← enc_itN (by have := g.w; omega), h]
    exact Tot.bind0 (cat_enc (by simp only [List.length_append]; omega)) (Tot.ret rfl)
  subst hj
  refine Tot.bindq (P := (· = strOf (enc (F0 ++ optN (s.2.1 != 0) [s.2.1.toNat] ++ optN (s.2.2.1 != 0) [s.2.2.1.toNat] ++ optN s.2.2.2.1 [35] ++ optN s.2.2.2.2.1 [48] ++ optN (decide (s.2.2.2.2.2.1 > 0)) (itN s.2.2.2.2.2.1.toNat) ++ optN (s.2.2.2.2.2.2.1 != 0) [s.2.2.2.2.2.2.1.toNat])))) ?_ fun j hj => ?_
  · refine Tot.ite (fun h => ?_) (fun h => Tot.ret (by rw [h, show ∀ l, optN false l = [] from fun _ => rfl, List.append_nil]))
    refine Tot.bind0 (u8_cast g.ok.gr) ?_
    rw [h]
    rcases g.gr with h0 | h0
    · rw [h0] at h; cases h
    · rw [byte_enc GR_ok g.ok.gr h0]
      exact Tot.bind0 (cat_enc (by simp only [List.length_append, List.length_singleton]; omega)) (Tot.ret rfl)
  subst hj
  refine Tot.bindq (P := (· = strOf (enc (F0 ++ optN (s.2.1 != 0) [s.2.1.toNat] ++ optN (s.2.2.1 != 0) [s.2.2.1.toNat] ++ optN s.2.2.2.1 [35] ++ optN s.2.2.2.2.1 [48] ++ optN (decide (s.2.2.2.2.2.1 > 0)) (itN s.2.2.2.2.2.1.toNat) ++ optN (s.2.2.2.2.2.2.1 != 0) [s.2.2.2.2.2.2.1.toNat] ++ optN s.2.2.2.2.2.2.2.1 (46 :: itN s.2.2.2.2.2.2.2.2.1.toNat))))) ?_ fun j hj => ?_
  · refine Tot.ite (fun h => ?_) (fun h => Tot.ret (by rw [h, show ∀ l, optN false l = [] from fun _ => rfl, List.append_nil]))
    refine Tot.bindq (decimal_tot g.p.1 g.p.2) fun r hr => ?_
    subst hr
    rw [← enc_itN (by have := g.p; omega), h]
    have e : strOf [46] = strOf (enc [46]) := rfl
    rw [e]
    refine Tot.bind0 (cat_enc (by simp only [List.length_singleton]; omega)) ?_
    exact Tot.bind0 (cat_enc (by simp only [List.length_append, List.length_singleton]; omega)) (Tot.ret rfl)
  subst hj
  refine Tot.bindq (P := (· = strOf (enc (F0 ++ optN (s.2.1 != 0) [s.2.1.toNat] ++ optN (s.2.2.1 != 0) [s.2.2.1.toNat] ++ optN s.2.2.2.1 [35] ++ optN s.2.2.2.2.1 [48] ++ optN (decide (s.2.2.2.2.2.1 > 0)) (itN s.2.2.2.2.2.1.toNat) ++ optN (s.2.2.2.2.2.2.1 != 0) [s.2.2.2.2.2.2.1.toNat] ++ optN s.2.2.2.2.2.2.2.1 (46 :: itN s.2.2.2.2.2.2.2.2.1.toNat) ++ optN (s.2.2.2.2.2.2.2.2.2 != 0) [s.2.2.2.2.2.2.2.2.2.toNat])))) ?_ fun j hj => Tot.ret ?_
  · refine Tot.ite (fun h => ?_) (fun h => Tot.ret (by rw [h, show ∀ l, optN false l = [] from fun _ => rfl, List.append_nil]))
    refine Tot.bind0 (u8_cast g.ok.ty) ?_
    rw [h]
    rcases g.ty with h0 | h0
    · rw [h0] at h; cases h
    · rw [byte_enc TY_ok g.ok.ty h0]
      exact Tot.bind0 (cat_enc (by simp only [List.length_append, List.length_singleton]; omega)) (Tot.ret rfl)
  rw [hj, hF]
  simp only [wr, T0, T1, T2, T3, T4, T5, T6, T7, List.append_assoc]
end Go.Gv.P

