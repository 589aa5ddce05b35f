import Derived.Test.YtbiopeiafkldiaaGreatDoorT5
set_option linter.all false
namespace Go.Gv.P
open Go Go.Gv Go.Gv.D Go.Gv.R Go.Lib
set_option maxRecDepth 100000
theorem encode_str {r : Nat} (h : Scal r) : Utf8.encode (r : Int) = strOf (encR r) := by
  have hv : Utf8.valid (r : Int) = true := by
    unfold Utf8.valid
    rcases h with h | ⟨h1, h2⟩
    · rw [decide_eq_true (show (0 : Int) ≤ (r : Int) by omega), decide_eq_true (show (r : Int) < 0xD800 by omega)]; rfl
    · rw [decide_eq_true (show (0xE000 : Int) ≤ (r : Int) by omega), decide_eq_true (show (r : Int) ≤ 0x10FFFF by omega), Bool.and_true, Bool.or_true]
  have hs : r ≤ 1114111 := by unfold Scal at h; omega
  unfold Utf8.encode
  simp only [hv, if_true, Int.toNat_natCast]
  by_cases h1 : r < 0x80
  · rw [if_pos h1, encR1 (by omega)]; rfl
  · rw [if_neg h1]
    by_cases h2 : r < 0x800
    · rw [if_pos h2, encR2 (by omega) (by omega)]; rfl
    · rw [if_neg h2]
      by_cases h3 : r < 0x10000
      · rw [if_pos h3, encR3 (by omega) (by omega) h]; rfl
      · rw [if_neg h3, encR4 (by omega) hs]; rfl

def itoaB (n : Nat) : List UInt8 := Lib.itoa (n : Int)
theorem itoa_all : (List.range 401).all (fun n => let l := itoaB n; l.all dg && ((valN 0 l == n) && ((if n = 0 then l == [48] else !(l.headD 48 == 48)) && (!l.isEmpty && decide (l.length ≤ 3))))) = true := by kernel_rfl
structure ItOk (n : Nat) : Prop where
  dg : ∀ b ∈ itoaB n, dg b = true
  val : valN 0 (itoaB n) = n
  zero : n = 0 → itoaB n = [48]
  head : n ≠ 0 → (itoaB n).headD 48 ≠ 48
  ne : itoaB n ≠ []
  len : (itoaB n).length ≤ 3
theorem itOk {n : Nat} (h : n ≤ 400) : ItOk n := by
  have := List.all_eq_true.1 itoa_all n (List.mem_range.2 (by omega))
  simp only [Bool.and_eq_true, beq_iff_eq, decide_eq_true_eq] at this
  obtain ⟨h1, h2, h3, h4, h5⟩ := this
  refine ⟨fun b hb => List.all_eq_true.1 h1 b hb, h2, fun e => ?_, fun e => ?_, fun e => (by rw [e] at h4; cases h4), h5⟩
  · rw [if_pos e] at h3; exact eq_of_beq h3
  · rw [if_neg e] at h3
    simpa using h3
theorem itoa_some {x : Int} (h0 : 0 ≤ x) (h1 : x ≤ 400) (n : Nat) : strconv_Itoa n x = some (strOf (itoaB x.toNat)) := by
  unfold strconv_Itoa itoaB
  rw [if_pos ⟨by omega, by omega⟩, show ((x.toNat : Nat) : Int) = x by omega]
def itN (n : Nat) : List Nat := (itoaB n).map (·.toNat)
theorem enc_bytes : ∀ {l : List UInt8}, (∀ b ∈ l, b.toNat < 128) → enc (l.map (·.toNat)) = l
  | [], _ => rfl
  | b :: r, h => by
    rw [List.map_cons, enc_cons, encR1 (by have := h b (List.mem_cons_self ..); omega), enc_bytes fun x hx => h x (List.mem_cons_of_mem _ hx), UInt8.ofNat_toNat]; rfl
theorem dg_byte {b : UInt8} (h : dg b = true) : 48 ≤ b.toNat ∧ b.toNat ≤ 57 := by simpa [dg] using h
theorem enc_itN {n : Nat} (h : n ≤ 400) : enc (itN n) = itoaB n := enc_bytes fun b hb => by have := dg_byte ((itOk h).dg b hb); omega
theorem itN_dg {n : Nat} (h : n ≤ 400) : ∀ c ∈ itN n, dgN c = true := fun c hc => by
  obtain ⟨b, hb, rfl⟩ := List.mem_map.1 hc
  exact (itOk h).dg b hb
theorem itN_len {n : Nat} (h : n ≤ 400) : (itN n).length ≤ 3 := by unfold itN; rw [List.length_map]; exact (itOk h).len
def optN (b : Bool) (l : List Nat) : List Nat := if b then l else []
def T7 (s : Sp) : List Nat := optN (s.2.2.2.2.2.2.2.2.2 != 0) [s.2.2.2.2.2.2.2.2.2.toNat]
def T6 (s : Sp) : List Nat := optN s.2.2.2.2.2.2.2.1 (46 :: itN s.2.2.2.2.2.2.2.2.1.toNat) ++ T7 s
def T5 (s : Sp) : List Nat := optN (s.2.2.2.2.2.2.1 != 0) [s.2.2.2.2.2.2.1.toNat] ++ T6 s
def T4 (s : Sp) : List Nat := optN (decide (s.2.2.2.2.2.1 > 0)) (itN s.2.2.2.2.2.1.toNat) ++ T5 s
def T3 (s : Sp) : List Nat := optN s.2.2.2.2.1 [48] ++ T4 s
def T2 (s : Sp) : List Nat := optN s.2.2.2.1 [35] ++ T3 s
def T1 (s : Sp) : List Nat := optN (s.2.2.1 != 0) [s.2.2.1.toNat] ++ T2 s
def T0 (s : Sp) : List Nat := optN (s.2.1 != 0) [s.2.1.toNat] ++ T1 s
/-- how a specification is written -/
def wr (s : Sp) : List Nat := optN (s.1 != 0) [s.1.toNat] ++ T0 s
structure Good (s : Sp) : Prop where
  ok : SpOk s
  fill : s.1 = 0 ∨ (Scal s.1.toNat ∧ 0 ≤ s.1 ∧ s.1 ≠ 123 ∧ s.1 ≠ 125 ∧ s.2.1 ≠ 0)
  al : s.2.1 = 0 ∨ inB AL s.2.1 = true
  sg : s.2.2.1 = 0 ∨ inB SG s.2.2.1 = true
  gr : s.2.2.2.2.2.2.1 = 0 ∨ inB GR s.2.2.2.2.2.2.1 = true
  ty : s.2.2.2.2.2.2.2.2.2 = 0 ∨ inB TY s.2.2.2.2.2.2.2.2.2 = true
  w : 0 ≤ s.2.2.2.2.2.1 ∧ s.2.2.2.2.2.1 ≤ 400
  p : 0 ≤ s.2.2.2.2.2.2.2.2.1 ∧ s.2.2.2.2.2.2.2.2.1 ≤ 400
  pz : s.2.2.2.2.2.2.2.1 = false → s.2.2.2.2.2.2.2.2.1 = 0
theorem put_step {b : Bool} {t : ByteArray} {l acc : List Nat} (h : b = true → bytesOf t = enc l) (hl : l.length ≤ 100) (ha : acc.length ≤ 1000) : Tot (fun n => fmtspec_Print_1 n b t (enc acc)) (· = enc (acc ++ optN b l)) := by
  unfold fmtspec_Print_1
  refine Tot.bindq (P := (· = enc (acc ++ optN b l))) ?_ fun j hj => Tot.ret hj
  cases b
  · exact Tot.if_ rfl (Tot.ret (by rw [show optN false l = [] from rfl, List.append_nil]))
  · have h1 := enc_len_le acc
    have h2 := enc_len_le l
    refine Tot.it rfl ?_
    rw [h rfl]
    refine Tot.bind0 (app_ok (by omega)) (Tot.ret ?_)
    rw [show optN true l = l from rfl, enc_app]
theorem inB_nat {S : List UInt8} (hS : SetOk S) {x : Int} (hx : 0 ≤ x ∧ x < 256) (h : inB S x = true) : inC S x.toNat = true ∧ 0 < x ∧ x < 128 := by
  have hl := hS.low _ h
  have hc := byte_cast hx
  have h2 : x < 128 := by omega
  refine ⟨?_, by omega, h2⟩
  unfold inC
  rw [decide_eq_true (by omega), Bool.true_and]
  exact h
theorem byte_put {S : List UInt8} (hS : SetOk S) {x : Int} (hx : 0 ≤ x ∧ x < 256) (h : x = 0 ∨ inB S x = true) : (x != 0) = true → bytesOf (Utf8.encode (IntKind.i32.wrap x)) = enc [x.toNat] := fun hne => by
  rcases h with h | h
  · rw [h] at hne; cases hne
  · obtain ⟨_, h1, h2⟩ := inB_nat hS hx h
    rw [i32_in (by omega) (by omega), show x = ((x.toNat : Nat) : Int) by omega, encode_str (by unfold Scal; omega), bytes_str, Int.toNat_natCast]
    simp [enc]
theorem len1 {b : Bool} {x : Nat} : (optN b [x]).length ≤ 1 := by cases b <;> simp [optN]
theorem optN_len {b : Bool} {l : List Nat} : (optN b l).length ≤ l.length := by cases b <;> simp [optN]
theorem Print_tot {s : Sp} (g : Good s) (hv : spF s = (0, 0)) : Tot (fun n => fmtspec_Print n s) (· = (strOf (enc (wr s)), (0, 0))) := by
  unfold fmtspec_Print
  refine Tot.bindq (Check_tot g.ok) fun r hr => ?_
  rw [hv] at hr
  subst hr
  refine Tot.if_ rfl ?_
  have hw := itN_len (n := s.2.2.2.2.2.1.toNat) (by have := g.w; omega)
  have hp := itN_len (n := s.2.2.2.2.2.2.2.2.1.toNat) (by have := g.p; omega)
  have l1 := len1 (b := (s.1 != 0)) (x := s.1.toNat)
  have l2 := len1 (b := (s.2.1 != 0)) (x := s.2.1.toNat)
  have l3 := len1 (b := (s.2.2.1 != 0)) (x := s.2.2.1.toNat)
  have l4 := len1 (b := s.2.2.2.1) (x := 35)
  have l5 := len1 (b := s.2.2.2.2.1) (x := 48)
  have l6 := optN_len (b := decide (s.2.2.2.2.2.1 > 0)) (l := itN s.2.2.2.2.2.1.toNat)
  have l7 := len1 (b := (s.2.2.2.2.2.2.1 != 0)) (x := s.2.2.2.2.2.2.1.toNat)
  have l8 := optN_len (b := s.2.2.2.2.2.2.2.1) (l := 46 :: itN s.2.2.2.2.2.2.2.2.1.toNat)
  have hf : (s.1 != 0) = true → bytesOf (Utf8.encode (IntKind.i32.wrap s.1)) = enc [s.1.toNat] := fun hne => by
    rcases g.fill with h | ⟨h, h0, _⟩
    · rw [h] at hne; cases hne
    · have : s.1 ≤ 1114111 := by unfold Scal at h; omega
      rw [i32_in h0 this, show s.1 = ((s.1.toNat : Nat) : Int) by omega, encode_str h, bytes_str, Int.toNat_natCast]
      simp [enc]
  refine Tot.bindq (put_step (acc := []) hf (by simp) (by simp)) fun r hr => ?_
  subst hr
  refine Tot.bindq (put_step (byte_put AL_ok g.ok.al g.al) (by simp) (by simp only [List.length_append, List.length_nil]; omega)) fun r hr => ?_
  subst hr
  refine Tot.bindq (put_step (byte_put SG_ok g.ok.sg g.sg) (by simp) (by simp only [List.length_append, List.length_nil]; omega)) fun r hr => ?_
  subst hr
  refine Tot.bindq (put_step (l := [35]) (fun _ => by rw [bytes_str]; rfl) (by simp) (by simp only [List.length_append, List.length_nil]; omega)) fun r hr => ?_
  subst hr
  refine Tot.bindq (put_step (l := [48]) (fun _ => by rw [bytes_str]; rfl) (by simp) (by simp only [List.length_append, List.length_nil]; omega)) fun r hr => ?_
  subst hr
  refine Tot.bindq (P := (· = strOf (itoaB s.2.2.2.2.2.1.toNat))) ⟨_, rfl, 0, fun n _ => itoa_some g.w.1 g.w.2 n⟩ fun r hr => ?_
  subst hr
  refine Tot.bindq (put_step (l := itN s.2.2.2.2.2.1.toNat) (fun _ => by rw [bytes_str, enc_itN (by have := g.w; omega)]) (by omega) (by simp only [List.length_append, List.length_nil]; omega)) fun r hr => ?_
  subst hr
  refine Tot.bindq (put_step (byte_put GR_ok g.ok.gr g.gr) (by simp) (by simp only [List.length_append, List.length_nil]; omega)) fun r hr => ?_
  subst hr
  refine Tot.bindq (P := (· = strOf (itoaB s.2.2.2.2.2.2.2.2.1.toNat))) ⟨_, rfl, 0, fun n _ => itoa_some g.p.1 g.p.2 n⟩ fun r hr => ?_
  subst hr
  have hil := (itOk (n := s.2.2.2.2.2.2.2.2.1.toNat) (by have := g.p; omega)).len
  refine Tot.bind0 (cat_str (l := [46]) (m := itoaB s.2.2.2.2.2.2.2.2.1.toNat) (by simp only [List.length_cons, List.length_nil]; omega)) ?_
  refine Tot.bindq (put_step (l := 46 :: itN s.2.2.2.2.2.2.2.2.1.toNat) (fun _ => by rw [bytes_str, enc_cons, enc_itN (by have := g.p; omega)]; rfl) (by simp only [List.length_cons]; omega) (by simp only [List.length_append, List.length_nil]; omega)) fun r hr => ?_
  subst hr
  have l8' : (optN s.2.2.2.2.2.2.2.1 (46 :: itN s.2.2.2.2.2.2.2.2.1.toNat)).length ≤ 4 := by simp only [List.length_cons] at l8; omega
  refine Tot.bindq (put_step (byte_put TY_ok g.ok.ty g.ty) (by simp) (by simp only [List.length_append, List.length_nil]; omega)) fun r hr => ?_
  subst hr
  refine Tot.ret ?_
  simp only [wr, T0, T1, T2, T3, T4, T5, T6, T7, List.nil_append, List.append_assoc]
end Go.Gv.P
namespace Go.Gv.P
open Go Go.Gv Go.Gv.D Go.Gv.R Go.Lib
set_option maxRecDepth 100000

end Go.Gv.P

