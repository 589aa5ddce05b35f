import Derived.Test.YtdpmkphjcjacfaaGreatDoorL1
set_option linter.all false
namespace Go.Gv.P
open Go Go.Gv Go.Gv.D
set_option maxRecDepth 100000
theorem packs_tot : Tot (fun n => law4_packs n) (· = true) := Tot.of_all 60 (fun k => by kernel_rfl) rfl
end Go.Gv.P
namespace Go.Gv.P
open Go Go.Gv Go.Gv.D Go.Gv.R
set_option maxRecDepth 100000

/-! ### numerals, codes -/
def cds : List UInt8 := [98, 66, 104, 72, 105, 73, 113, 81, 118, 115, 112, 120, 63]
def isC (n : Nat) : Bool := cds.contains n.toUInt8
theorem ib_codes (x : UInt8) : decide (nIdxB (bytesOf (strOf cds)) (x.toNat : Int) < 0) = !isC x.toNat :=
  beq_iff_eq.1 (byte_all (p := fun n => decide (nIdxB (bytesOf (strOf cds)) (n : Int) < 0) == !isC n) (by kernel_rfl) x)
theorem IndexByte_tot (x : UInt8) : Tot (fun n => strings_IndexByte n (strOf cds) (x.toNat : Int)) (fun r => decide (r < 0) = !isC x.toNat) := by
  unfold strings_IndexByte stringslite_IndexByte
  exact Tot.ret (ib_codes x)
theorem oneOf_all (k : Nat) : (List.range 256).all (fun n => ref4_oneOf (k + 20) (n : Int) (strOf cds) == some (isC n)) = true := by kernel_rfl
theorem oneOf_tot (x : UInt8) : Tot (fun n => ref4_oneOf n (x.toNat : Int) (strOf cds)) (· = isC x.toNat) :=
  Tot.of_all 20 (fun k => beq_iff_eq.1 (byte_all (p := fun n => ref4_oneOf (k + 20) (n : Int) (strOf cds) == some (isC n)) (oneOf_all k) x)) rfl
end Go.Gv.P
namespace Go.Gv.P
open Go Go.Gv Go.Gv.D Go.Gv.R
set_option maxRecDepth 100000

/-! ### formats read -/
abbrev Fld := Int × Int × Bool
end Go.Gv.P
namespace Go.Gv.P
open Go Go.Gv Go.Gv.D Go.Gv.R
set_option maxRecDepth 100000

theorem counted_tot (c : Int) : Tot (fun n => packing_counted n c) (· = (c == 115 || c == 120)) := Tot.ret rfl
end Go.Gv.P
namespace Go.Gv.P
open Go Go.Gv Go.Gv.D Go.Gv.R
set_option maxRecDepth 100000

end Go.Gv.P
namespace Go.Gv.P
open Go Go.Gv Go.Gv.D Go.Gv.R
set_option maxRecDepth 100000

/-! ### checks and sizes -/
def cnt (c : Nat) : Bool := c == 115 || c == 120
def bad5 (x : Fld) : Bool := x.1 == 0 || !isC x.1.toNat
def bad4 (x : Fld) : Bool := if cnt x.1.toNat then decide (x.2.1 < 0) || decide (x.2.1 > 100) else x.2.1 != 1
def chkF (b : Bool) : Nat → List Fld → Int × Int
  | _, [] => (0, 0)
  | i, x :: t => if bad5 x = true then (5, (i : Int)) else if bad4 x = true then (4, (i : Int)) else if (!(x.2.2 == b)) = true then (19, (i : Int)) else chkF b (i + 1) t
def fbig (l : List Fld) : Bool := match l with | [] => false | x :: _ => x.2.2
def check (l : List Fld) : Int × Int := if 100 < l.length then (2, -1) else chkF (fbig l) 0 l
def okF (x : Fld) : Prop := 0 ≤ x.1 ∧ x.1 < 256
theorem okF_byte {x : Fld} (h : okF x) : ∃ c : UInt8, x.1 = (c.toNat : Int) ∧ x.1.toNat = c.toNat := by
  refine ⟨x.1.toNat.toUInt8, ?_, ?_⟩
  · have : (x.1.toNat.toUInt8).toNat = x.1.toNat := UInt8.toNat_ofNat_of_lt' (show x.1.toNat < 256 by have := h.1; have := h.2; omega)
    rw [this]; have := h.1; omega
  · exact (UInt8.toNat_ofNat_of_lt' (show x.1.toNat < 256 by have := h.1; have := h.2; omega)).symm
theorem idx_head {l : List Fld} (h : 0 < l.length) : ∃ x0, idx l 0 = some x0 ∧ x0.2.2 = fbig l := by
  cases l with
  | nil => simp at h
  | cons x t => exact ⟨x, idx_nat (i := 0) (by simp), rfl⟩
theorem int_beq (a b : Nat) : (((a : Nat) : Int) == (b : Int)) = (a == b) := by
  rw [Bool.eq_iff_iff, beq_iff_eq, beq_iff_eq]; omega

theorem Check_tot {l : List Fld} (hl : l.length ≤ 1048576) (h : ∀ x ∈ l, okF x) : Tot (fun n => packing_Check n l) (· = check l) := by
  unfold packing_Check check
  refine Tot.ite (fun h1 => ?_) (fun h1 => ?_)
  · have h1 : ((l.length : Nat) : Int) > 100 := of_decide_eq_true h1
    unfold packing_at
    rw [if_pos (by omega)]
    exact Tot.some_bind (Tot.ret rfl)
  have h1 : ¬ ((l.length : Nat) : Int) > 100 := of_decide_eq_false h1
  rw [if_neg (by omega)]
  refine Tot.bindq (P := fun x => match x with | .inl _ => chkF (fbig l) 0 l = (0, 0) | .inr r => r = chkF (fbig l) 0 l) ?_ fun x hx => ?_
  · refine Tot.loop (fun st => ∃ i : Nat, i ≤ l.length ∧ st.1 = (i : Int) ∧ chkF (fbig l) 0 l = chkF (fbig l) i (l.drop i)) (fun st => l.length - st.1.toNat) ⟨0, Nat.zero_le _, rfl, rfl⟩ fun st ⟨i, hi, e1, hc⟩ => ?_
    obtain ⟨j, f1, f2⟩ := st
    simp only at e1
    subst e1
    refine Tot.ite (fun h2 => ?_) (fun h2 => Tot.ret ?_)
    · have h2 : (i : Int) < (l.length : Int) := of_decide_eq_true h2
      have hil : i < l.length := by omega
      refine Tot.bind0 (idx_nat hil) ?_
      rw [List.drop_eq_getElem_cons hil] at hc
      have hok := h _ (List.getElem_mem hil)
      generalize l[i] = y at hc hok ⊢
      obtain ⟨c, hcb, hcn⟩ := okF_byte hok
      have hc' : chkF (fbig l) 0 l = if bad5 y = true then (5, (i : Int)) else if bad4 y = true then (4, (i : Int)) else if (!(y.2.2 == fbig l)) = true then (19, (i : Int)) else chkF (fbig l) (i + 1) (l.drop (i + 1)) := hc
      have hcnt : (y.1 == 115 || y.1 == 120) = cnt y.1.toNat := by
        rw [hcb]
        exact congr (congrArg or (int_beq c.toNat 115)) (int_beq c.toNat 120)
      refine Tot.bindq (P := (· = bad5 y)) (Tot.ite (fun h3 => Tot.ret ?_) (fun h3 => ?_)) fun b hb => ?_
      · unfold bad5; rw [h3]; rfl
      · unfold bad5
        rw [h3, Bool.false_or, hcn, hcb]
        exact Tot.bindq (IndexByte_tot c) fun r hr => Tot.ret hr
      subst hb
      unfold packing_at
      refine Tot.ite (fun h3 => Tot.some_bind (Tot.ret ?_)) (fun h3 => ?_)
      · show _ = _
        rw [hc', if_pos h3]
      rw [if_neg (by rw [h3]; decide)] at hc'
      refine Tot.bindq (P := (· = (cnt y.1.toNat && (decide (y.2.1 < 0) || decide (y.2.1 > 100))))) (Tot.bindq (counted_tot _) fun b hb => ?_) fun b hb => ?_
      · rw [hcnt] at hb
        rw [← hb]
        refine Tot.ite (fun h4 => ?_) (fun h4 => Tot.ret (by rw [h4]; rfl))
        rw [h4, Bool.true_and]
        exact Tot.ite (fun h5 => Tot.ret (by rw [h5]; rfl)) (fun h5 => Tot.ret (by rw [h5]; rfl))
      refine Tot.bindq (P := (· = bad4 y)) ?_ fun b2 hb2 => ?_
      · unfold bad4
        refine Tot.ite (fun h4 => Tot.ret ?_) (fun h4 => Tot.bindq (counted_tot _) fun b3 hb3 => ?_)
        · rw [h4] at hb ⊢
          have := hb.symm
          simp only [Bool.and_eq_true] at this
          rw [if_pos this.1, this.2]
        · rw [hcnt] at hb3
          rw [hb3]
          rw [h4] at hb
          cases hq : cnt y.1.toNat with
          | true =>
            rw [hq, Bool.true_and] at hb
            refine Tot.if_ rfl (Tot.ret ?_)
            rw [if_pos rfl, ← hb]
          | false =>
            refine Tot.it rfl (Tot.ret ?_)
            rw [if_neg (by decide)]
      subst hb2
      refine Tot.ite (fun h4 => Tot.some_bind (Tot.ret ?_)) (fun h4 => ?_)
      · show _ = _
        rw [hc', if_pos h4]
      rw [if_neg (by rw [h4]; decide)] at hc'
      obtain ⟨x0, hx0, hx1⟩ := idx_head (l := l) (by omega)
      refine Tot.bind0 hx0 ?_
      rw [hx1]
      refine Tot.ite (fun h5 => Tot.some_bind (Tot.ret ?_)) (fun h5 => Tot.ret ?_)
      · show _ = _
        rw [hc', if_pos h5]
      rw [if_neg (by rw [h5]; decide)] at hc'
      rw [i64_small (by omega) (by omega)]
      refine ⟨⟨i + 1, hil, by simp, hc'⟩, ?_⟩
      show _ - ((i : Int) + 1).toNat < _ - ((i : Int)).toNat
      omega
    · have h2 : ¬ (i : Int) < (l.length : Int) := of_decide_eq_false h2
      show _ = _
      rw [hc, List.drop_of_length_le (by omega)]
      rfl
  · cases x with
    | inl s => exact Tot.contl (Tot.ret hx.symm)
    | inr r => exact Tot.contr hx

theorem Fault_tot {l : List Fld} (hl : l.length ≤ 1048576) (h : ∀ x ∈ l, okF x) : Tot (fun n => ref4_FieldsFault n l) (· = check l) := by
  unfold ref4_FieldsFault check
  refine Tot.ite (fun h1 => ?_) (fun h1 => ?_)
  · have h1 : ((l.length : Nat) : Int) > 100 := of_decide_eq_true h1
    unfold ref4_At
    rw [if_pos (by omega)]
    exact Tot.some_bind (Tot.ret rfl)
  have h1 : ¬ ((l.length : Nat) : Int) > 100 := of_decide_eq_false h1
  rw [if_neg (by omega)]
  refine Tot.bindq (P := fun x => match x with | .inl _ => chkF (fbig l) 0 l = (0, 0) | .inr r => r = chkF (fbig l) 0 l) ?_ fun x hx => ?_
  · refine Tot.loop (fun st => ∃ i : Nat, i ≤ l.length ∧ st.1 = (i : Int) ∧ chkF (fbig l) 0 l = chkF (fbig l) i (l.drop i)) (fun st => l.length - st.1.toNat) ⟨0, Nat.zero_le _, rfl, rfl⟩ fun st ⟨i, hi, e1, hc⟩ => ?_
    obtain ⟨j, f1, f2⟩ := st
    simp only at e1
    subst e1
    refine Tot.ite (fun h2 => ?_) (fun h2 => Tot.ret ?_)
    · have h2 : (i : Int) < (l.length : Int) := of_decide_eq_true h2
      have hil : i < l.length := by omega
      have hix := idx_nat hil
      rw [List.drop_eq_getElem_cons hil] at hc
      have hok := h _ (List.getElem_mem hil)
      generalize l[i] = y at hc hok hix
      obtain ⟨c, hcb, hcn⟩ := okF_byte hok
      have hc' : chkF (fbig l) 0 l = if bad5 y = true then (5, (i : Int)) else if bad4 y = true then (4, (i : Int)) else if (!(y.2.2 == fbig l)) = true then (19, (i : Int)) else chkF (fbig l) (i + 1) (l.drop (i + 1)) := hc
      have hcnt : (y.1 == 115 || y.1 == 120) = cnt y.1.toNat := by
        rw [hcb]
        exact congr (congrArg or (int_beq c.toNat 115)) (int_beq c.toNat 120)
      refine Tot.bindq (P := (· = cnt y.1.toNat)) (Tot.bind0 hix (Tot.ite (fun h3 => Tot.ret ?_) (fun h3 => Tot.bind0 hix (Tot.ret ?_)))) fun q hq => ?_
      · rw [← hcnt, h3]; rfl
      · rw [← hcnt, h3]; rfl
      subst hq
      refine Tot.bindq (P := (· = bad5 y)) (Tot.bind0 hix (Tot.ite (fun h3 => Tot.ret ?_) (fun h3 => Tot.bind0 hix ?_))) fun b hb => ?_
      · unfold bad5; rw [h3]; rfl
      · unfold bad5
        rw [h3, Bool.false_or, hcn, hcb]
        exact Tot.bindq (oneOf_tot c) fun r hr => Tot.ret (by rw [hr])
      subst hb
      unfold ref4_At
      refine Tot.ite (fun h3 => Tot.some_bind (Tot.ret ?_)) (fun h3 => ?_)
      · show _ = _
        rw [hc', if_pos h3]
      rw [if_neg (by rw [h3]; decide)] at hc'
      refine Tot.bindq (P := (· = bad4 y)) ?_ fun b2 hb2 => ?_
      · unfold bad4
        cases hq : cnt y.1.toNat with
        | true =>
          refine Tot.it rfl (Tot.bind0 hix ?_)
          rw [if_pos rfl]
          refine Tot.ite (fun h4 => Tot.ret (by rw [h4]; rfl)) (fun h4 => Tot.bind0 hix ?_)
          rw [h4, Bool.false_or]
          exact Tot.ite (fun h5 => Tot.ret h5.symm) (fun h5 => Tot.if_ rfl (Tot.ret h5.symm))
        | false =>
          refine Tot.if_ rfl (Tot.it rfl (Tot.bind0 hix (Tot.ret ?_)))
          rw [if_neg (by decide)]
      subst hb2
      refine Tot.ite (fun h4 => Tot.some_bind (Tot.ret ?_)) (fun h4 => ?_)
      · show _ = _
        rw [hc', if_pos h4]
      rw [if_neg (by rw [h4]; decide)] at hc'
      obtain ⟨x0, hx0, hx1⟩ := idx_head (l := l) (by omega)
      refine Tot.bind0 hix (Tot.bind0 hx0 ?_)
      rw [hx1]
      refine Tot.ite (fun h5 => Tot.some_bind (Tot.ret ?_)) (fun h5 => Tot.ret ?_)
      · show _ = _
        rw [hc', if_pos h5]
      rw [if_neg (by rw [h5]; decide)] at hc'
      rw [i64_small (by omega) (by omega)]
      refine ⟨⟨i + 1, hil, by simp, hc'⟩, ?_⟩
      show _ - ((i : Int) + 1).toNat < _ - ((i : Int)).toNat
      omega
    · have h2 : ¬ (i : Int) < (l.length : Int) := of_decide_eq_false h2
      show _ = _
      rw [hc, List.drop_of_length_le (by omega)]
      rfl
  · cases x with
    | inl s => exact Tot.contl (Tot.ret hx.symm)
    | inr r => exact Tot.contr hx
end Go.Gv.P
namespace Go.Gv.P
open Go Go.Gv Go.Gv.D Go.Gv.R
set_option maxRecDepth 100000

def wid (c : Nat) : Int := if c = 98 ∨ c = 66 then 1 else if c = 104 ∨ c = 72 then 2 else if c = 105 ∨ c = 73 then 4 else if c = 113 ∨ c = 81 then 8 else 0
theorem width_all (k : Nat) : (List.range 256).all (fun n => packing_width (k + 20) (n : Int) == some (wid n, decide (97 ≤ n))) = true := by kernel_rfl
theorem width_tot {c : Nat} (h : c < 256) : Tot (fun n => packing_width n (c : Int)) (· = (wid c, decide (97 ≤ c))) :=
  Tot.of_all 20 (fun k => beq_iff_eq.1 (List.all_eq_true.1 (width_all k) c (List.mem_range.2 h))) rfl
theorem widthOf_all (k : Nat) : (List.range 256).all (fun n => ref4_widthOf (k + 20) (n : Int) == some (wid n)) = true := by kernel_rfl
theorem widthOf_tot {c : Nat} (h : c < 256) : Tot (fun n => ref4_widthOf n (c : Int)) (· = wid c) :=
  Tot.of_all 20 (fun k => beq_iff_eq.1 (List.all_eq_true.1 (widthOf_all k) c (List.mem_range.2 h))) rfl
def loF (x : Fld) : Int := if 0 < wid x.1.toNat then wid x.1.toNat else if x.1.toNat = 118 then 1 else if x.1.toNat = 112 then 1 else x.2.1
def hiF (x : Fld) : Int := if 0 < wid x.1.toNat then wid x.1.toNat else if x.1.toNat = 118 then 10 else if x.1.toNat = 112 then 256 else x.2.1
def szF : Int × Int → List Fld → Int × Int
  | s, [] => s
  | s, x :: t => szF (IntKind.i64.wrap (s.1 + loF x), IntKind.i64.wrap (s.2 + hiF x)) t
def good (b : Bool) (x : Fld) : Prop := bad5 x = false ∧ bad4 x = false ∧ x.2.2 = b
theorem good_chk {b : Bool} : ∀ {l : List Fld} {i : Nat}, (chkF b i l).1 = 0 → chkF b i l = (0, 0) ∧ ∀ x ∈ l, good b x
  | [], _, _ => ⟨rfl, fun x hx => by cases hx⟩
  | x :: t, i, h => by
    have e : chkF b i (x :: t) = if bad5 x = true then (5, (i : Int)) else if bad4 x = true then (4, (i : Int)) else if (!(x.2.2 == b)) = true then (19, (i : Int)) else chkF b (i + 1) t := rfl
    rw [e] at h ⊢
    by_cases h1 : bad5 x = true
    · rw [if_pos h1] at h; cases h
    rw [if_neg h1] at h ⊢
    by_cases h2 : bad4 x = true
    · rw [if_pos h2] at h; cases h
    rw [if_neg h2] at h ⊢
    by_cases h3 : (!(x.2.2 == b)) = true
    · rw [if_pos h3] at h; cases h
    rw [if_neg h3] at h ⊢
    obtain ⟨g1, g2⟩ := good_chk h
    refine ⟨g1, fun y hy => ?_⟩
    rcases List.mem_cons.1 hy with e | e
    · subst e
      exact ⟨by simpa using h1, by simpa using h2, by simpa using h3⟩
    · exact g2 y e
theorem check_zero {l : List Fld} (h : (check l).1 = 0) : check l = (0, 0) ∧ ∀ x ∈ l, good (fbig l) x := by
  unfold check at h ⊢
  by_cases h1 : 100 < l.length
  · rw [if_pos h1] at h; cases h
  rw [if_neg h1] at h ⊢
  exact good_chk h

theorem Sizes_tot {l : List Fld} (hl : l.length ≤ 1048576) (h : ∀ x ∈ l, okF x) : Tot (fun n => packing_Sizes n l) (fun r => r = if (check l).1 ≠ 0 then (0, 0, check l) else ((szF (0, 0) l).1, (szF (0, 0) l).2, (0, 0))) := by
  unfold packing_Sizes
  refine Tot.bindq (Check_tot hl h) fun r hr => ?_
  subst hr
  refine Tot.ite (fun h1 => Tot.ret ?_) (fun h1 => ?_)
  · rw [if_pos (by simpa using h1)]
  have h1 : (check l).1 = 0 := by simpa using h1
  rw [if_neg (by simp [h1])]
  refine Tot.bindq (P := (· = szF (0, 0) l)) ?_ fun x hx => Tot.ret (by rw [hx])
  refine Tot.loop (fun st => ∃ i : Nat, i ≤ l.length ∧ st.2.2 = (i : Int) ∧ szF (0, 0) l = szF (st.1, st.2.1) (l.drop i)) (fun st => l.length - st.2.2.toNat) ⟨0, Nat.zero_le _, rfl, rfl⟩ fun st ⟨i, hi, e1, hc⟩ => ?_
  obtain ⟨a, b, j⟩ := st
  simp only at e1 hc
  subst e1
  refine Tot.ite (fun h2 => ?_) (fun h2 => Tot.ret ?_)
  · have h2 : (i : Int) < (l.length : Int) := of_decide_eq_true h2
    have hil : i < l.length := by omega
    refine Tot.bind0 (idx_nat hil) ?_
    rw [List.drop_eq_getElem_cons hil] at hc
    have hok := h _ (List.getElem_mem hil)
    generalize l[i] = y at hc hok ⊢
    obtain ⟨c, hcb, hcn⟩ := okF_byte hok
    have hcl := byte_lt c
    have hw : Tot (fun n => packing_width n y.1) (· = (wid c.toNat, decide (97 ≤ c.toNat))) := by rw [hcb]; exact width_tot hcl
    refine Tot.bindq hw fun r hr => ?_
    subst hr
    refine Tot.bindq (P := (· = (loF y, hiF y))) ?_ fun p hp => Tot.ret ?_
    · unfold loF hiF
      rw [hcn]
      have h118 : (y.1 == 118) = decide (c.toNat = 118) := by rw [hcb, Bool.eq_iff_iff, beq_iff_eq, decide_eq_true_eq]; omega
      have h112 : (y.1 == 112) = decide (c.toNat = 112) := by rw [hcb, Bool.eq_iff_iff, beq_iff_eq, decide_eq_true_eq]; omega
      refine Tot.ite (fun h3 => Tot.ret ?_) (fun h3 => ?_)
      · have h3 : 0 < wid c.toNat := of_decide_eq_true h3
        rw [if_pos h3, if_pos h3]
      have h3 : ¬ 0 < wid c.toNat := of_decide_eq_false h3
      rw [if_neg h3, if_neg h3]
      refine Tot.ite (fun h4 => Tot.ret ?_) (fun h4 => ?_)
      · rw [h118] at h4
        rw [if_pos (of_decide_eq_true h4), if_pos (of_decide_eq_true h4)]
      rw [h118] at h4
      rw [if_neg (of_decide_eq_false h4), if_neg (of_decide_eq_false h4)]
      refine Tot.ite (fun h4 => Tot.ret ?_) (fun h4 => Tot.ret ?_)
      · rw [h112] at h4
        rw [if_pos (of_decide_eq_true h4), if_pos (of_decide_eq_true h4)]
      rw [h112] at h4
      rw [if_neg (of_decide_eq_false h4), if_neg (of_decide_eq_false h4)]
    · subst hp
      rw [i64_small (x := (i : Int) + 1) (by omega) (by omega)]
      refine ⟨⟨i + 1, hil, by simp, hc⟩, ?_⟩
      show _ - ((i : Int) + 1).toNat < _ - ((i : Int)).toNat
      omega
  · have h2 : ¬ (i : Int) < (l.length : Int) := of_decide_eq_false h2
    show _ = _
    rw [hc, List.drop_of_length_le (by omega)]
    rfl

theorem kinds : ∀ c, c < 256 → isC c = true → (0 < wid c ∧ c ≠ 118 ∧ c ≠ 112 ∧ cnt c = false ∧ c ≠ 63) ∨ (¬ 0 < wid c ∧ (c = 118 ∨ c = 112 ∨ cnt c = true ∨ c = 63)) := fun c hc h => by
  have h1 : (List.range 256).all (fun c => !isC c || (decide ((0 < wid c ∧ c ≠ 118 ∧ c ≠ 112 ∧ cnt c = false ∧ c ≠ 63) ∨ (¬ 0 < wid c ∧ (c = 118 ∨ c = 112 ∨ cnt c = true ∨ c = 63))))) = true := by kernel_rfl
  have := List.all_eq_true.1 h1 c (List.mem_range.2 hc)
  rw [h] at this
  exact of_decide_eq_true this
end Go.Gv.P

