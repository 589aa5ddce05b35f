import Derived.Test.YtbiopeiafkldiaaGreatDoorT9
import Derived.Test.YtbiopeiafkldiaaGreatDoorB0
set_option linter.all false
namespace Go.Gv.P
open Go Go.Gv Go.Gv.D Go.Gv.R Go.Lib
open Go.Gv.RI (val Dg Nz OkL OkI vb Db IsBase Digits_tot From_tot)
set_option maxRecDepth 100000

/-! Own work: the text of a number, in small or great letters, in groups, filled up. -/
def dch (d : Int) : UInt8 := if d < 10 then UInt8.ofNat (48 + d.toNat) else UInt8.ofNat (87 + d.toNat)
def uch (d : Int) : UInt8 := if d < 10 then UInt8.ofNat (48 + d.toNat) else UInt8.ofNat (55 + d.toNat)
theorem dig16 {p : Int → Bool} (h : (List.range 16).all (fun n => p (n : Int)) = true) {B d : Int} (hB : IsBase B) (hd : 0 ≤ d ∧ d < B) : p d = true := by
  have := hB.le
  have := List.all_eq_true.1 h d.toNat (List.mem_range.2 (by omega))
  rwa [show ((d.toNat : Nat) : Int) = d by omega] at this
theorem dch_sidx {B d : Int} (hB : IsBase B) (hd : 0 ≤ d ∧ d < B) : sidx (strOf [48, 49, 50, 51, 52, 53, 54, 55, 56, 57, 97, 98, 99, 100, 101, 102, 103, 104, 105, 106, 107, 108, 109, 110, 111, 112, 113, 114, 115, 116, 117, 118, 119, 120, 121, 122]) d = some ((dch d).toNat : Int) :=
  eq_of_beq (dig16 (p := fun d => sidx (strOf [48, 49, 50, 51, 52, 53, 54, 55, 56, 57, 97, 98, 99, 100, 101, 102, 103, 104, 105, 106, 107, 108, 109, 110, 111, 112, 113, 114, 115, 116, 117, 118, 119, 120, 121, 122]) d == some ((dch d).toNat : Int)) (by kernel_rfl) hB hd)
theorem Text_tot {a : List Int} {B : Int} (ha : OkL a) (hB : IsBase B) : Tot (fun n => integer_Text n (false, a) B) (fun r => ∃ ds, r = (strOf (ds.map dch), (0, 0)) ∧ ds ≠ [] ∧ Db B ds ∧ vb B ds.reverse = val a ∧ ds.length ≤ 5000) := by
  unfold integer_Text
  refine Tot.bindq (RI.icheck (l := [(false, a)]) (fun x hx => by simp at hx; subst hx; exact ⟨ha, fun _ => rfl⟩) (by simp)) fun r hr => ?_
  subst hr
  refine Tot.if_ rfl (Tot.bindq (Digits_tot ha hB) fun r ⟨hr, l, e, h1, h2, h3⟩ => ?_)
  obtain ⟨ds, f⟩ := r
  simp only at hr e
  subst hr; subst e
  refine Tot.if_ rfl (Tot.bindq (P := (· = [])) (Tot.if_ rfl (Tot.ret rfl)) fun j hj => ?_)
  subst hj
  have hd : Db B l.reverse := fun x hx => h1 x (List.mem_reverse.1 hx)
  refine Tot.bindq (P := (· = l.reverse.map dch)) ?_ fun j hj => ?_
  · refine Tot.loop (fun st => ∃ i : Nat, st.2 = (i : Int) ∧ i ≤ l.reverse.length ∧ st.1 = (l.reverse.take i).map dch) (fun st => l.reverse.length - st.2.toNat) ⟨0, rfl, by omega, by simp⟩ fun st ⟨i, e, hi, e2⟩ => ?_
    obtain ⟨out, k⟩ := st
    simp only at e e2
    subst e; subst e2
    refine Tot.ite (fun h => ?_) (fun h => ?_)
    · have h : i < l.reverse.length := by have : (i : Int) < (l.reverse.length : Int) := of_decide_eq_true h; omega
      refine Tot.bind0 (idx_nat h) (Tot.bind0 (dch_sidx hB (hd _ (List.getElem_mem h))) (Tot.bind0 (u8_byte _) (Tot.bind0 (app_ok (by have := h3; simp at h ⊢; omega)) (Tot.ret ?_))))
      rw [iw (n := i + 1) (by omega) (by simp at h; omega)]
      refine ⟨⟨i + 1, rfl, by omega, ?_⟩, by simp only; omega⟩
      rw [List.take_succ_eq_append_getElem h, List.map_append]
      rfl
    · have h : i = l.reverse.length := by have : ¬ (i : Int) < (l.reverse.length : Int) := of_decide_eq_false h; omega
      subst h
      exact Tot.ret (by rw [List.take_length])
  · subst hj
    by_cases h0 : l = []
    · subst h0
      refine Tot.bindq (P := (· = [48])) (Tot.it rfl (Tot.bind0 (app_ok (by simp)) (Tot.ret rfl))) fun j hj => ?_
      subst hj
      refine Tot.ret ⟨[0], rfl, by simp, fun x hx => ?_, ?_, by simp⟩
      · simp at hx; subst hx; exact ⟨by decide, by have := hB.one; omega⟩
      · rw [← h2]; simp [vb]
    · have h4 : 0 < l.length := List.length_pos_iff.2 h0
      refine Tot.bindq (P := (· = l.reverse.map dch)) (Tot.if_ (beq_eq_false_iff_ne.2 (by simp; exact h0)) (Tot.ret rfl)) fun j hj => ?_
      subst hj
      exact Tot.ret ⟨l.reverse, rfl, by simpa using h0, hd, by rw [List.reverse_reverse]; exact h2, by simpa using h3⟩
theorem upper_some {B : Int} (hB : IsBase B) {ds : List Int} (hd : Db B ds) (hl : ds.length ≤ 5000) (n : Nat) : strings_ToUpper n (strOf (ds.map dch)) = some (strOf (ds.map uch)) := by
  unfold strings_ToUpper asciiB
  rw [size_str, bytes_str]
  have h1 : ((ds.map dch).all fun b => decide (b.toNat < 128)) = true := List.all_eq_true.2 fun b hb => by
    obtain ⟨d, hd', rfl⟩ := List.mem_map.1 hb
    exact dig16 (p := fun d => decide ((dch d).toNat < 128)) (by kernel_rfl) hB (hd d hd')
  rw [if_pos ⟨by simp; omega, h1⟩]
  congr 2
  unfold toUpperA
  rw [List.map_map]
  exact List.map_congr_left fun d hd' => eq_of_beq (dig16 (p := fun d => upperB (dch d) == uch d) (by kernel_rfl) hB (hd d hd'))
/-- texts without the sign between groups -/
def nu (l : List UInt8) : List UInt8 := l.filter fun c => c != 95
theorem nu_app (a b : List UInt8) : nu (a ++ b) = nu a ++ nu b := List.filter_append ..
theorem join_facts : ∀ (x : List UInt8) (r : List (List UInt8)), nu (join (x :: r) [95]) = nu (x ++ r.flatten) ∧ (∀ c ∈ join (x :: r) [95], c ∈ x ++ r.flatten ∨ c = 95) ∧ (join (x :: r) [95]).length = (x ++ r.flatten).length + r.length
  | x, [] => by rw [join_one]; exact ⟨by simp, fun c hc => .inl (by simpa using hc), by simp⟩
  | x, y :: r => by
    obtain ⟨h1, h2, h3⟩ := join_facts y r
    have e : join (x :: y :: r) [95] = x ++ 95 :: join (y :: r) [95] := by
      rw [join_cons, join_cons]
      simp [joinTail]
    rw [e]
    refine ⟨?_, fun c hc => ?_, ?_⟩
    · rw [nu_app, nu_app, show (95 :: join (y :: r) [95]) = [95] ++ join (y :: r) [95] from rfl, nu_app, h1]
      rfl
    · rcases List.mem_append.1 hc with h | h
      · exact .inl (List.mem_append_left _ h)
      · rcases List.mem_cons.1 h with h | h
        · exact .inr h
        · rcases h2 c h with h | h
          · exact .inl (List.mem_append_right _ h)
          · exact .inr h
    · simp only [List.length_append, List.length_cons, List.flatten_cons, h3]; omega
theorem grouped_tot {l : List UInt8} {g : Int} (hg : g = 0 ∨ g = 95) (hl : l.length ≤ 10000) :
    Tot (fun n => fmtspec_grouped n (strOf l) g 4) (fun r => ∃ t, r = strOf t ∧ nu t = nu l ∧ (∀ c ∈ t, c ∈ l ∨ c = 95) ∧ t.length ≤ 2 * l.length + 1) := by
  unfold fmtspec_grouped
  rcases hg with hg | hg
  · subst hg
    exact Tot.it rfl (Tot.ret ⟨l, rfl, rfl, fun c hc => .inl hc, by omega⟩)
  · subst hg
    refine Tot.if_ rfl ?_
    refine Tot.bindq (P := fun j => ∃ (p : List UInt8) (ps : List (List UInt8)), j = (strOf p, ps.map strOf) ∧ p ++ ps.reverse.flatten = l ∧ ps.length + p.length ≤ l.length) ?_ fun j ⟨p, ps, hj, e, hlen⟩ => ?_
    · refine Tot.loop (fun st => ∃ (p : List UInt8) (ps : List (List UInt8)), st = (strOf p, ps.map strOf) ∧ p ++ ps.reverse.flatten = l ∧ ps.length + p.length ≤ l.length) (fun st => st.1.size) ⟨l, [], rfl, by simp, by simp⟩ fun st ⟨p, ps, hst, e, hlen⟩ => ?_
      subst hst
      simp only [size_str]
      refine Tot.ite (fun h => ?_) (fun h => Tot.ret ⟨p, ps, rfl, e, hlen⟩)
      have h : 4 < p.length := by have : (p.length : Int) > 4 := of_decide_eq_true h; omega
      rw [iw (x := (p.length : Int) - 4) (n := p.length - 4) (by omega) (by omega)]
      refine Tot.bind0 (ssub_str (l := p) (by omega) (Nat.le_refl _)) (Tot.bind0 (app_ok (by simp; omega)) (Tot.bind0 (ssub_str (l := p) (i := 0) (by omega) (by omega)) (Tot.ret ?_)))
      refine ⟨⟨p.take (p.length - 4), ps ++ [p.drop (p.length - 4)], by simp, ?_, by simp; omega⟩, by simp [size_str]; omega⟩
      rw [← e, List.reverse_append]
      simp
      rw [← List.append_assoc, List.take_append_drop]
    · subst hj
      refine Tot.bind0 (app_ok (by simp; omega)) ?_
      have hr : ∀ n, slices_Reverse_sstring_string n (ps.map strOf ++ [strOf p]) = some ((p :: ps.reverse).map strOf) := fun n => by
        unfold slices_Reverse_sstring_string
        rw [if_pos (by simp; omega), List.reverse_append, ← List.map_reverse]
        rfl
      refine Tot.bindq (RI.Tot.all hr) fun r hr => ?_
      subst hr
      obtain ⟨j1, j2, j3⟩ := join_facts p ps.reverse
      rw [e] at j1 j2 j3
      simp at j3
      have hu : bytesOf (Utf8.encode (IntKind.i32.wrap 95)) = [95] := by kernel_rfl
      have hmap : ((p :: ps.reverse).map strOf).map bytesOf = p :: ps.reverse := by
        rw [List.map_map]
        exact (List.map_congr_left fun x _ => bytes_str x).trans (List.map_id _)
      have hjn : ∀ n, strings_Join n ((p :: ps.reverse).map strOf) (Utf8.encode (IntKind.i32.wrap 95)) = some (strOf (join (p :: ps.reverse) [95])) := fun n => by
        unfold strings_Join
        rw [hmap, hu, if_pos ⟨by simp; omega, by omega⟩]
      refine Tot.bindq (RI.Tot.all hjn) fun r hr => ?_
      subst hr
      exact Tot.ret ⟨_, rfl, j1, j2, by omega⟩
theorem count_tot {l : List UInt8} (ha : ∀ b ∈ l, b.toNat < 128) (hl : l.length ≤ 1048576) : Tot (fun n => utf8_RuneCountInString n (strOf l)) (· = (l.length : Int)) := by
  unfold utf8_RuneCountInString
  simp only [size_str]
  refine Tot.bindq (P := fun j => j = (l.length : Int)) ?_ fun j hj => Tot.ret hj
  refine Tot.loop (fun st => ∃ i : Nat, i ≤ l.length ∧ st = ((i : Int), i)) (fun st => l.length - st.2) ⟨0, by omega, rfl⟩ fun st ⟨i, hi, hst⟩ => ?_
  subst hst
  dsimp only
  refine Tot.ite (fun h => ?_) (fun h => ?_)
  · have h : i < l.length := of_decide_eq_true h
    have e : l.take i = enc ((l.take i).map (·.toNat)) := (enc_bytes fun b hb => ha b (List.mem_of_mem_take hb)).symm
    have ea : l = enc (l.map (·.toNat)) := (enc_bytes ha).symm
    have hr : runeN (strOf l) i = 1 := by
      have h0 := ha _ (List.getElem_mem h)
      have hs : Scal l[i].toNat := by unfold Scal; omega
      have := (rune_at (s := strOf l) (p := (l.take i).map (·.toNat)) (t := (l.drop (i + 1)).map (·.toNat)) hs (by
        rw [bytes_str]
        refine ea.trans (congrArg enc ?_)
        conv => lhs; rw [← List.take_append_drop i l, List.drop_eq_getElem_cons h]
        rw [List.map_append, List.map_cons])).2
      rw [← e, List.length_take, Nat.min_eq_left (by omega)] at this
      have e1 : enc ([l[i]].map (·.toNat)) = [l[i]] := enc_bytes fun b hb => by simp at hb; subst hb; exact h0
      rw [List.map_cons, List.map_nil, enc_cons] at e1
      have e2 := congrArg List.length e1
      simp [enc] at e2
      rw [this, e2]
    rw [hr, iw (n := i + 1) (by omega) (by omega)]
    exact Tot.ret ⟨⟨i + 1, by omega, rfl⟩, by dsimp only; omega⟩
  · have h : i = l.length := by have := of_decide_eq_false h; omega
    subst h
    exact Tot.ret rfl
end Go.Gv.P
namespace Go.Gv.P
open Go Go.Gv Go.Gv.D Go.Gv.R Go.Lib
open Go.Gv.RI (val Dg Nz OkL OkI vb Db IsBase Digits_tot From_tot)
set_option maxRecDepth 100000

/-! Own work: Format of an integer in a base that is a power of two. -/
def Kd (ty B : Int) (up : Bool) : Prop := (ty = 98 ∧ B = 2 ∧ up = false) ∨ (ty = 111 ∧ B = 8 ∧ up = false) ∨ (ty = 120 ∧ B = 16 ∧ up = false) ∨ (ty = 88 ∧ B = 16 ∧ up = true)
def Sx (bs : Bool) (w g ty : Int) : Sp := (0, 0, 0, bs, true, w, g, false, 0, ty)
section
variable {ty B : Int} {up : Bool} (hk : Kd ty B up)
include hk
theorem Kd.isBase : IsBase B := by
  rcases hk with ⟨_, h, _⟩ | ⟨_, h, _⟩ | ⟨_, h, _⟩ | ⟨_, h, _⟩ <;> subst h
  · exact .inl rfl
  · exact .inr (.inl rfl)
  · exact .inr (.inr rfl)
  · exact .inr (.inr rfl)
theorem Kd.base (n : Nat) : fmtspec_base n ty = some (B, strOf [48, UInt8.ofNat ty.toNat]) := by
  rcases hk with ⟨h, h2, _⟩ | ⟨h, h2, _⟩ | ⟨h, h2, _⟩ | ⟨h, h2, _⟩ <;> subst h <;> subst h2 <;> rfl
theorem Kd.great : (ty == 88) = up := by
  rcases hk with ⟨h, _, h2⟩ | ⟨h, _, h2⟩ | ⟨h, _, h2⟩ | ⟨h, _, h2⟩ <;> subst h <;> subst h2 <;> rfl
theorem Kd.ten : (B != 10) = true ∧ (B == 10) = false := by
  rcases hk with ⟨_, h2, _⟩ | ⟨_, h2, _⟩ | ⟨_, h2, _⟩ | ⟨_, h2, _⟩ <;> subst h2 <;> exact ⟨rfl, rfl⟩
theorem Kd.num : (ty == 115) = false ∧ (ty != 0) = true ∧ Tot (fun n => fmtspec_in n ty (strOf [102, 101, 37])) (· = false) := by
  rcases hk with ⟨h, _, _⟩ | ⟨h, _, _⟩ | ⟨h, _, _⟩ | ⟨h, _, _⟩ <;> subst h <;> exact ⟨rfl, rfl, Tot.of_all 30 (fun k => by kernel_rfl) rfl⟩
theorem Kd.low : 0 ≤ ty ∧ ty < 128 ∧ inB TY ty = true ∧ offS TY ty = false := by
  rcases hk with ⟨h, _, _⟩ | ⟨h, _, _⟩ | ⟨h, _, _⟩ | ⟨h, _, _⟩ <;> subst h <;> exact ⟨by decide, by decide, by rfl, by rfl⟩
theorem Sx_ok {bs : Bool} {w g : Int} (hw : 0 ≤ w ∧ w ≤ 400) (hg : g = 0 ∨ g = 95) : Good (Sx bs w g ty) ∧ spF (Sx bs w g ty) = (0, 0) := by
  obtain ⟨t0, t1, t2, t3⟩ := Kd.low hk
  have gg : (0 ≤ g ∧ g < 256) ∧ (g = 0 ∨ inB GR g = true) ∧ offS GR g = false := by
    rcases hg with h | h <;> subst h
    · exact ⟨⟨by decide, by decide⟩, .inl rfl, by rfl⟩
    · exact ⟨⟨by decide, by decide⟩, .inr (by rfl), by rfl⟩
  refine ⟨⟨⟨⟨Int.le_refl _, show (0 : Int) < 256 by decide⟩, ⟨Int.le_refl _, show (0 : Int) < 256 by decide⟩, gg.1, ⟨t0, by show ty < 256; omega⟩⟩, .inl rfl, .inl rfl, .inl rfl, gg.2.1, .inr t2, hw, ⟨Int.le_refl _, show (0 : Int) ≤ 400 by decide⟩, fun _ => rfl⟩, spF_ok ?_ ?_⟩
  · show ((((!(okFill 0) || ((0 : Int) == 123 || (0 : Int) == 125)) || ((0 : Int) != 0 && (0 : Int) == 0)) || (offS AL 0 || offS SG 0)) || (offS GR g || (offS TY ty || (!false && (0 : Int) != 0)))) = false
    rw [gg.2.2, t3]
    rfl
  · exact decide_eq_false (by show ¬ (w < 0 ∨ w > 400 ∨ (0 : Int) < 0 ∨ (0 : Int) > 400); omega)
def chF (up : Bool) (d : Int) : UInt8 := if up = true then uch d else dch d
def sgB (neg : Bool) : List UInt8 := if neg = true then [45] else []
def pfB (bs : Bool) (ty : Int) : List UInt8 := if bs = true then [48, UInt8.ofNat ty.toNat] else []
theorem whole_tot {n : Bool × List Int} (hn : OkI n) {bs : Bool} {w g : Int} (hg : g = 0 ∨ g = 95) :
    Tot (fun k => fmtspec_whole k n (Sx bs w g ty)) (fun r => ∃ ds t, r = ((strOf (sgB n.1 ++ pfB bs ty), strOf t, false), (0, 0)) ∧ nu t = nu (ds.map (chF up)) ∧ (∀ c ∈ t, c ∈ ds.map (chF up) ∨ c = 95) ∧ t.length ≤ 10001 ∧ ds ≠ [] ∧ Db B ds ∧ vb B ds.reverse = val n.2 ∧ ds.length ≤ 5000) := by
  obtain ⟨k1, k2⟩ := Kd.ten hk
  unfold fmtspec_whole
  refine Tot.bindq (RI.Tot.all (Kd.base hk)) fun r hr => ?_
  subst hr
  refine Tot.bindq (P := (· = false)) ?_ fun j hj => ?_
  · refine Tot.if_ rfl (Tot.if_ k2 (Tot.it k1 (Tot.ret ?_)))
    rcases hg with h | h <;> subst h <;> rfl
  subst hj
  refine Tot.if_ rfl (Tot.bindq (Text_tot hn.1 (Kd.isBase hk)) fun r ⟨ds, hr, d1, d2, d3, d4⟩ => ?_)
  subst hr
  refine Tot.bindq (P := (· = strOf (ds.map (chF up)))) ?_ fun j hj => ?_
  · have hu := Kd.great hk
    cases up with
    | true => exact Tot.it hu (Tot.bindq (RI.Tot.all (upper_some (Kd.isBase hk) d2 d4)) fun r hr => by subst hr; exact Tot.ret rfl)
    | false => exact Tot.if_ hu (Tot.ret rfl)
  subst hj
  refine Tot.bindq (P := (· = 4)) (Tot.it k1 (Tot.ret rfl)) fun j hj => ?_
  subst hj
  refine Tot.bindq (P := (· = strOf (pfB bs ty))) ?_ fun j hj => ?_
  · cases bs with
    | true => exact Tot.if_ rfl (Tot.ret rfl)
    | false => exact Tot.it rfl (Tot.ret rfl)
  subst hj
  refine Tot.bindq (P := (· = strOf (sgB n.1))) ?_ fun r hr => ?_
  · unfold fmtspec_sign
    cases h : n.1 with
    | true => exact Tot.it rfl (Tot.ret rfl)
    | false => exact Tot.if_ rfl (Tot.bindq (P := (· = false)) (Tot.if_ rfl (Tot.ret rfl)) fun j hj => by subst hj; exact Tot.if_ rfl (Tot.ret rfl))
  subst hr
  refine Tot.bind0 (cat_str (by have : (sgB n.1).length ≤ 1 := by { unfold sgB; split <;> simp }; have : (pfB bs ty).length ≤ 2 := by { unfold pfB; split <;> simp }; omega)) ?_
  refine Tot.bindq (grouped_tot hg (by simp; omega)) fun r ⟨t, hr, t1, t2, t3⟩ => ?_
  subst hr
  exact Tot.ret ⟨ds, t, rfl, t1, t2, by simp at t3; omega, d1, d2, d3, d4⟩
theorem pad_tot {h t : List UInt8} {bs : Bool} {w g : Int} (hw : 0 ≤ w ∧ w ≤ 400) (ha : ∀ b ∈ h, b.toNat < 128) (hb : ∀ b ∈ t, b.toNat < 128) (lh : h.length ≤ 10) (lt : t.length ≤ 100000) :
    Tot (fun n => fmtspec_pad n (strOf h, strOf t, false) (Sx bs w g ty)) (fun r => ∃ z, r = strOf (h ++ List.replicate z 48 ++ t) ∧ w ≤ ((h ++ List.replicate z 48 ++ t).length : Int) ∧ z ≤ 400) := by
  clear hk
  unfold fmtspec_pad
  refine Tot.bindq (P := (· = true)) (Tot.it rfl (Tot.ret (by rfl))) fun j hj => ?_
  subst hj
  refine Tot.bindq (P := (· = 48)) (Tot.it rfl (Tot.ret rfl)) fun j hj => ?_
  subst hj
  refine Tot.bindq (P := (· = 48)) (Tot.if_ rfl (Tot.ret rfl)) fun j hj => ?_
  subst hj
  refine Tot.bindq (P := (· = 61)) (Tot.it rfl (Tot.bindq (P := (· = 61)) (Tot.if_ rfl (Tot.it rfl (Tot.ret rfl))) fun j hj => by subst hj; exact Tot.ret rfl)) fun j hj => ?_
  subst hj
  refine Tot.bindq (count_tot ha (by omega)) fun r hr => ?_
  subst hr
  refine Tot.bindq (count_tot hb (by omega)) fun r hr => ?_
  subst hr
  have hw1 : IntKind.i64.wrap ((Sx bs w g ty).2.2.2.2.2.1 - (h.length : Int)) = w - (h.length : Int) := i64_small (by show -4611686018427387904 ≤ w - (h.length : Int); omega) (by show w - (h.length : Int) ≤ 4611686018427387904; omega)
  have hw2 : IntKind.i64.wrap (w - (h.length : Int) - (t.length : Int)) = w - (h.length : Int) - (t.length : Int) := i64_small (by omega) (by omega)
  simp only [hw1, hw2]
  obtain ⟨z, hz⟩ : ∃ z : Nat, z = (w - (h.length : Int) - (t.length : Int)).toNat := ⟨_, rfl⟩
  have e : (if 0 < w - (h.length : Int) - (t.length : Int) then w - (h.length : Int) - (t.length : Int) else 0) = (z : Int) := by split <;> omega
  rw [e]
  refine Tot.some_bind (Tot.if_ rfl (Tot.if_ rfl (Tot.it rfl ?_)))
  have hr : ∀ n, fmtspec_pad_1 n (z : Int) 48 = some (strOf (List.replicate z 48)) := fun n => by
    unfold fmtspec_pad_1 strings_Repeat
    have hu : Utf8.encode 48 = strOf [48] := by kernel_rfl
    rw [hu, if_pos ⟨by omega, by omega, by rw [size_str]; simp; omega⟩, bytes_str, Int.toNat_natCast]
    have := repeatL_replicate 48 1 z
    rw [Nat.mul_one] at this
    show some (strOf (repeatL [48] z)) = _
    rw [← this]
    rfl
  refine Tot.bindq (RI.Tot.all hr) fun r hr => ?_
  subst hr
  refine Tot.bind0 (cat_str (by simp; omega)) (Tot.bind0 (cat_str (by simp; omega)) (Tot.ret ⟨z, rfl, by simp; omega, by omega⟩))
theorem Format_tot {n : Bool × List Int} (hn : OkI n) {bs : Bool} {w g : Int} (hw : 0 ≤ w ∧ w ≤ 400) (hg : g = 0 ∨ g = 95) :
    Tot (fun k => fmtspec_Format k (2, n, (false, ([] : List Int)), strOf [], 0) (strOf (enc (wr (Sx bs w g ty))))) (fun r => r = (strOf [], (3, -1)) ∨ ∃ ds t z, r = (strOf (sgB n.1 ++ pfB bs ty ++ List.replicate z 48 ++ t), (0, 0)) ∧
      nu t = nu (ds.map (chF up)) ∧ (∀ c ∈ t, c ∈ ds.map (chF up) ∨ c = 95) ∧ ds ≠ [] ∧ Db B ds ∧ vb B ds.reverse = val n.2 ∧ ds.length ≤ 5000 ∧ w ≤ ((sgB n.1 ++ pfB bs ty ++ List.replicate z 48 ++ t).length : Int) ∧ (sgB n.1 ++ pfB bs ty ++ List.replicate z 48 ++ t).length ≤ 4000) := by
  obtain ⟨g1, g2⟩ := Sx_ok hk (bs := bs) hw hg
  obtain ⟨n1, n2, n3⟩ := Kd.num hk
  unfold fmtspec_Format
  refine Tot.bindq (P := (· = true)) ?_ fun r hr => ?_
  · unfold fmtspec_valid
    refine Tot.if_ rfl (Tot.it rfl (Tot.bindq (RI.Tot.all (fun k => RI.OkI.valid hn k)) fun r hr => by subst hr; exact Tot.ret rfl))
  subst hr
  refine Tot.if_ rfl (Tot.bindq (P := (· = (Sx bs w g ty, (0, 0)))) ((Parse_tot (wr_scal g1) (wr_len g1)).mono fun r hr => by rw [hr, rd_wr g1]) fun r hr => ?_)
  subst hr
  refine Tot.if_ rfl ?_
  refine Tot.bindq (P := fun j => ∃ ds t, j = ((0, 0), (strOf (sgB n.1 ++ pfB bs ty), strOf t, false)) ∧ nu t = nu (ds.map (chF up)) ∧ (∀ c ∈ t, c ∈ ds.map (chF up) ∨ c = 95) ∧ t.length ≤ 10001 ∧ ds ≠ [] ∧ Db B ds ∧ vb B ds.reverse = val n.2 ∧ ds.length ≤ 5000) ?_ fun j ⟨ds, t, hj, t1, t2, t3, d1, d2, d3, d4⟩ => ?_
  · refine Tot.it rfl (Tot.bindq (P := fun r => ∃ ds t, r = ((strOf (sgB n.1 ++ pfB bs ty), strOf t, false), (0, 0)) ∧ nu t = nu (ds.map (chF up)) ∧ (∀ c ∈ t, c ∈ ds.map (chF up) ∨ c = 95) ∧ t.length ≤ 10001 ∧ ds ≠ [] ∧ Db B ds ∧ vb B ds.reverse = val n.2 ∧ ds.length ≤ 5000) ?_ fun r ⟨ds, t, hr, hh⟩ => by subst hr; exact Tot.ret ⟨ds, t, rfl, hh⟩)
    unfold fmtspec_number
    refine Tot.if_ n1 (Tot.bindq (P := (· = false)) (Tot.it n2 (Tot.bindq n3 fun r hr => by subst hr; exact Tot.ret rfl)) fun j hj => ?_)
    subst hj
    exact Tot.if_ rfl (Tot.bindq (whole_tot hk hn (bs := bs) (w := w) hg) fun r ⟨ds, t, hr, hh⟩ => by subst hr; exact Tot.ret ⟨ds, t, rfl, hh⟩)
  subst hj
  refine Tot.if_ rfl ?_
  have hlow : ∀ c ∈ t, c.toNat < 128 := fun c hc => by
    rcases t2 c hc with h | h
    · obtain ⟨d, hd, rfl⟩ := List.mem_map.1 h
      cases up
      · exact of_decide_eq_true (dig16 (p := fun d => decide ((chF false d).toNat < 128)) (by kernel_rfl) (Kd.isBase hk) (d2 d hd))
      · exact of_decide_eq_true (dig16 (p := fun d => decide ((chF true d).toNat < 128)) (by kernel_rfl) (Kd.isBase hk) (d2 d hd))
    · subst h; decide
  have hh : ∀ c ∈ sgB n.1 ++ pfB bs ty, c.toNat < 128 := fun c hc => by
    obtain ⟨t0, t1, _, _⟩ := Kd.low hk
    rcases List.mem_append.1 hc with h | h
    · unfold sgB at h; split at h <;> simp at h; subst h; decide
    · unfold pfB at h
      split at h
      · rcases List.mem_cons.1 h with h | h
        · subst h; decide
        · simp at h; subst h; rw [UInt8.toNat_ofNat', Nat.mod_eq_of_lt (by omega)]; omega
      · simp at h
  have hl : (sgB n.1 ++ pfB bs ty).length ≤ 10 := by
    have : (sgB n.1).length ≤ 1 := by { unfold sgB; split <;> simp }
    have : (pfB bs ty).length ≤ 2 := by { unfold pfB; split <;> simp }
    rw [List.length_append]; omega
  refine Tot.bindq (pad_tot (ty := ty) (bs := bs) (g := g) hk hw hh hlow hl (by omega)) fun r ⟨z, hr, z1, z2⟩ => ?_
  subst hr
  simp only [size_str]
  refine Tot.ite (fun h => Tot.ret (.inr ⟨ds, t, z, rfl, t1, t2, d1, d2, d3, d4, z1, ?_⟩)) (fun h => ?_)
  · have h := of_decide_eq_true h; omega
  · exact Tot.bindq (P := (· = (3, -1))) (Tot.ret rfl) fun r hr => by subst hr; exact Tot.ret (.inl rfl)
end
end Go.Gv.P

