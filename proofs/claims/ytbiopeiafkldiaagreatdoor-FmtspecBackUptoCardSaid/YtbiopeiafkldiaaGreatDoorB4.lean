import Derived.Test.YtbiopeiafkldiaaGreatDoorB2
set_option linter.all false
namespace Go.Gv.P
open Go Go.Gv Go.Gv.D Go.Gv.R Go.Lib
open Go.Gv.RI (val Dg Nz OkL OkI vb Db IsBase Digits_tot From_tot)
set_option maxRecDepth 100000

/-! Own work: the number read again from its digits. -/
def DS : List UInt8 := [48, 49, 50, 51, 52, 53, 54, 55, 56, 57, 97, 98, 99, 100, 101, 102, 103, 104, 105, 106, 107, 108, 109, 110, 111, 112, 113, 114, 115, 116, 117, 118, 119, 120, 121, 122]
theorem index_tot {B d : Int} (hB : IsBase B) (hd : 0 ≤ d ∧ d < B) : Tot (fun n => slices_Index_sbyte_byte n (bytesOf (strOf (DS.take B.toNat))) ((dch d).toNat : Int)) (· = d) := by
  have hk : ∀ k, slices_Index_sbyte_byte (k + 40) (bytesOf (strOf (DS.take B.toNat))) ((dch d).toNat : Int) = some d := fun k => by
    rcases hB with h | h | h <;> subst h
    · exact eq_of_beq (by
        have := List.all_eq_true.1 (show (List.range 2).all (fun n => slices_Index_sbyte_byte (k + 40) (bytesOf (strOf (DS.take (2 : Int).toNat))) ((dch (n : Int)).toNat : Int) == some (n : Int)) = true by kernel_rfl) d.toNat (List.mem_range.2 (by omega))
        rwa [show ((d.toNat : Nat) : Int) = d by omega] at this)
    · exact eq_of_beq (by
        have := List.all_eq_true.1 (show (List.range 8).all (fun n => slices_Index_sbyte_byte (k + 40) (bytesOf (strOf (DS.take (8 : Int).toNat))) ((dch (n : Int)).toNat : Int) == some (n : Int)) = true by kernel_rfl) d.toNat (List.mem_range.2 (by omega))
        rwa [show ((d.toNat : Nat) : Int) = d by omega] at this)
    · exact eq_of_beq (by
        have := List.all_eq_true.1 (show (List.range 16).all (fun n => slices_Index_sbyte_byte (k + 40) (bytesOf (strOf (DS.take (16 : Int).toNat))) ((dch (n : Int)).toNat : Int) == some (n : Int)) = true by kernel_rfl) d.toNat (List.mem_range.2 (by omega))
        rwa [show ((d.toNat : Nat) : Int) = d by omega] at this)
  exact Tot.of_all 40 hk rfl
theorem dch_facts {B d : Int} (hB : IsBase B) (hd : 0 ≤ d ∧ d < B) : (((dch d).toNat : Int) == 45) = false ∧ (((dch d).toNat : Int) == 48) = (d == 0) ∧ dch d ≠ 95 := by
  have h := dig16 (p := fun d => (!(((dch d).toNat : Int) == 45)) && ((((dch d).toNat : Int) == 48) == (d == 0)) && !(dch d == 95)) (by kernel_rfl) hB hd
  simp only [Bool.and_eq_true, Bool.not_eq_true'] at h
  exact ⟨h.1.1, eq_of_beq h.1.2, fun e => by rw [e] at h; exact absurd h.2 (by decide)⟩
theorem Parsed_tot {D : List Int} {B V : Int} (hB : IsBase B) (hd : Db B D) (hne : D ≠ []) (hv : vb B D.reverse = V) (hV : V < RI.Big) (hx : D.length ≤ 1 ∨ D.head? ≠ some 0) :
    Tot (fun n => integer_Parse n (strOf (D.map dch)) B) (fun r => r.2 = (0, 0) ∧ OkI r.1 ∧ RI.ival r.1 = V) := by
  have hB1 := hB.one
  have hB2 := hB.le
  obtain ⟨d, r, rfl⟩ : ∃ d r, D = d :: r := by
    cases D with
    | nil => exact absurd rfl hne
    | cons d r => exact ⟨d, r, rfl⟩
  have hd0 := hd d (List.mem_cons_self ..)
  have hdr : Db B r.reverse := fun x hx => hd x (List.mem_cons_of_mem _ (List.mem_reverse.1 hx))
  obtain ⟨f1, f2, f3⟩ := dch_facts hB hd0
  have hlen : (d :: r).length ≤ 4097 := by
    rcases hx with h | h
    · omega
    · have h0 : d ≠ 0 := fun e => h (by rw [e]; rfl)
      have : B ^ r.reverse.length < RI.Big := by
        rw [List.reverse_cons, RI.vb_snoc] at hv
        have h1 := (RI.vb_bound hB1 hdr).1
        have h2 := RI.pow_pos' hB1 r.reverse.length
        have h3 : B ^ r.reverse.length * 1 ≤ B ^ r.reverse.length * d := Int.mul_le_mul_of_nonneg_left (by omega) (by omega)
        omega
      have := RI.len_lt hB1 this
      rw [List.length_reverse] at this
      simp only [List.length_cons]; omega
  have hsz : (strOf ((d :: r).map dch)).size = (d :: r).length := by rw [size_str, List.length_map]
  have hcons : (d :: r).map dch = dch d :: r.map dch := rfl
  unfold integer_Parse
  refine Tot.if_ (by simp; omega) (Tot.some_bind (Tot.if_ (decide_eq_false (by rw [hsz]; omega)) ?_))
  refine Tot.bindq (P := (· = false)) ?_ fun j hj => ?_
  · refine Tot.it (decide_eq_true (by rw [hsz]; simp)) (Tot.bind0 (sidx0 _ _) (Tot.ret f1))
  subst hj
  refine Tot.bindq (P := (· = (strOf ((d :: r).map dch), false))) (Tot.if_ rfl (Tot.ret rfl)) fun j hj => ?_
  subst hj
  refine Tot.bindq (P := (· = false)) ?_ fun j hj => ?_
  · refine Tot.if_ str_ne (Tot.bind0 (sidx0 _ _) (Tot.ite (fun h => Tot.ret ?_) (fun h => Tot.ret rfl)))
    have h : (((dch d).toNat : Int) == 48) = true := h
    rw [f2] at h
    have h0 : d = 0 := eq_of_beq h
    have : r = [] := by
      rcases hx with h | h
      · simpa using h
      · exact absurd (by rw [h0]; rfl) h
    subst this; subst h0
    have e : List.map dch [0] = [48] := rfl
    show (!((strOf (List.map dch [0])).toList == (strOf [48]).toList)) = false
    rw [e, str_eq, decide_eq_true rfl]
    rfl
  subst hj
  refine Tot.if_ rfl ?_
  refine Tot.bindq (P := (· = .inl (d :: r, (false, ([] : List Int)), (0, 0)))) ?_ fun j hj => ?_
  · refine Tot.loop (fun st => ∃ i : Nat, i ≤ (d :: r).length ∧ st = ((d :: r).take i, (i : Int), (false, ([] : List Int)), (0, 0))) (fun st => (d :: r).length - st.2.1.toNat) ⟨0, by omega, by simp⟩ fun st ⟨i, hi, hst⟩ => ?_
    subst hst
    dsimp only
    rw [hsz]
    refine Tot.ite (fun h => ?_) (fun h => ?_)
    · have h : i < (d :: r).length := by have : (i : Int) < ((d :: r).length : Int) := of_decide_eq_true h; omega
      have hdi := hd _ (List.getElem_mem h)
      have hs := ssub_str (l := DS) (i := 0) (j := B.toNat) (by omega) (by show B.toNat ≤ 36; omega)
      rw [show ((B.toNat : Nat) : Int) = B by omega] at hs
      refine Tot.bind0 hs (Tot.bind0 (sidx_nat (by rw [bytes_str, List.length_map]; exact h)) ?_)
      have hg : (bytesOf (strOf ((d :: r).map dch)))[i]'(by rw [bytes_str, List.length_map]; exact h) = dch (d :: r)[i] := by
        simp only [bytes_str, List.getElem_map]
      rw [hg]
      refine Tot.bindq (index_tot hB hdi) fun q hq => ?_
      subst hq
      refine Tot.if_ (decide_eq_false (by omega)) (Tot.bind0 (app_ok (by rw [List.length_take]; simp at h hlen ⊢; omega)) (Tot.ret ?_))
      rw [iw (n := i + 1) (by omega) (by omega)]
      exact ⟨⟨i + 1, by omega, by rw [List.take_succ_eq_append_getElem h]⟩, by dsimp only; omega⟩
    · have h : i = (d :: r).length := by have : ¬ (i : Int) < ((d :: r).length : Int) := of_decide_eq_false h; omega
      subst h
      exact Tot.ret (by rw [List.take_length])
  subst hj
  refine Tot.contl ?_
  refine Tot.bindq (From_tot (ds := d :: r) hd (by rw [hv]; exact hV) (by omega) hB) fun q ⟨q1, q2, q3⟩ => ?_
  obtain ⟨l, f⟩ := q
  simp only at q1 q2 q3
  subst q1
  refine Tot.if_ rfl (Tot.bindq (RI.signed_tot (l := l) false q2.1 q2.2.1 (by have := q2.2.2; omega)) fun s hs => Tot.ret ?_)
  rw [if_pos (by rw [q3, hv]; exact hV)] at hs
  exact ⟨hs.1, hs.2.1, by rw [hs.2.2, ← hv, ← q3]; rfl⟩
/-- the law's own reading -/
def cv (up : Bool) (c : UInt8) : UInt8 := if up = true ∧ 65 ≤ c.toNat ∧ c.toNat ≤ 70 then UInt8.ofNat (c.toNat + 32) else c
theorem cv_chF {B d : Int} {up : Bool} (hB : IsBase B) (hd : 0 ≤ d ∧ d < B) : cv up (chF up d) = dch d ∧ chF up d ≠ 95 ∧ chF up d ≠ 45 ∧ (65 ≤ (chF up d).toNat → (chF up d).toNat ≤ 70 → up = true) := by
  have h : ∀ u : Bool, (List.range 16).all (fun n => (cv u (chF u (n : Int)) == dch (n : Int)) && (!(chF u (n : Int) == 95)) && (!(chF u (n : Int) == 45)) && (!(decide (65 ≤ (chF u (n : Int)).toNat) && decide ((chF u (n : Int)).toNat ≤ 70)) || u)) = true := by
    intro u; cases u <;> kernel_rfl
  have h := dig16 (p := fun d => (cv up (chF up d) == dch d) && (!(chF up d == 95)) && (!(chF up d == 45)) && (!(decide (65 ≤ (chF up d).toNat) && decide ((chF up d).toNat ≤ 70)) || up)) (h up) hB hd
  simp only [Bool.and_eq_true, Bool.not_eq_true', Bool.or_eq_true] at h
  obtain ⟨⟨⟨h1, h2⟩, h3⟩, h4⟩ := h
  refine ⟨eq_of_beq h1, fun e => by rw [e] at h2; exact absurd h2 (by decide), fun e => by rw [e] at h3; exact absurd h3 (by decide), fun a b => ?_⟩
  rcases h4 with h4 | h4
  · rw [decide_eq_true a, decide_eq_true b] at h4; cases h4
  · exact h4
end Go.Gv.P
namespace Go.Gv.P
open Go Go.Gv Go.Gv.D Go.Gv.R Go.Lib
open Go.Gv.RI (val Dg Nz OkL OkI vb Db IsBase Digits_tot From_tot)
set_option maxRecDepth 100000

/-! Own work: the law. -/
theorem and3 (x : Int) : 0 ≤ bwAnd .i64 x 3 ∧ bwAnd .i64 x 3 ≤ 3 := by
  unfold bwAnd
  have h : (BitVec.ofInt 64 x &&& BitVec.ofInt 64 3).toNat ≤ 3 := by
    rw [BitVec.toNat_and]
    exact Nat.and_le_right
  have h2 : IntKind.i64.wrap ((BitVec.ofInt 64 x &&& BitVec.ofInt 64 3).toNat : Int) = ((BitVec.ofInt 64 x &&& BitVec.ofInt 64 3).toNat : Int) := i64_small (by omega) (by omega)
  show 0 ≤ IntKind.i64.wrap ((BitVec.ofInt 64 x &&& BitVec.ofInt 64 3).toNat : Int) ∧ IntKind.i64.wrap ((BitVec.ofInt 64 x &&& BitVec.ofInt 64 3).toNat : Int) ≤ 3
  rw [h2]
  omega
theorem kinds {k : Int} (h : 0 ≤ k ∧ k ≤ 3) : ∃ ty B up, Kd ty B up ∧ sidx (strOf [98, 111, 120, 88]) k = some ty ∧ idx ([2, 8, 16, 16] : List Int) k = some B ∧ (k == 3) = up := by
  have : k = 0 ∨ k = 1 ∨ k = 2 ∨ k = 3 := by omega
  rcases this with e | e | e | e <;> subst e
  · exact ⟨98, 2, false, .inl ⟨rfl, rfl, rfl⟩, rfl, rfl, rfl⟩
  · exact ⟨111, 8, false, .inr (.inl ⟨rfl, rfl, rfl⟩), rfl, rfl, rfl⟩
  · exact ⟨120, 16, false, .inr (.inr (.inl ⟨rfl, rfl, rfl⟩)), rfl, rfl, rfl⟩
  · exact ⟨88, 16, true, .inr (.inr (.inr ⟨rfl, rfl, rfl⟩)), rfl, rfl, rfl⟩
theorem nu_one {c : UInt8} (h : c ≠ 95) : nu [c] = [c] := by
  unfold nu
  rw [List.filter_cons_of_pos (by simpa using h)]; rfl
theorem nu_all {l : List UInt8} (h : ∀ c ∈ l, c ≠ 95) : nu l = l := List.filter_eq_self.2 fun c hc => by simpa using h c hc
theorem zeros_dch (z : Nat) : List.replicate z (48 : UInt8) = (List.replicate z (0 : Int)).map dch := by rw [List.map_replicate]; rfl
theorem FmtspecBack_said (n : Bool × List Int) (kind : Int) (group : Bool) (width : Int) (hn : True ∧ (∀ x ∈ n.2, inK .u32 x) ∧ n.2.length ≤ maxLen) (_ : inK .i64 kind) (_ : True) (_ : inK .i64 width) (_ : (0 : Nat) ≤ 1048576) :
    Tot (fun fuel => law4_FmtspecBack fuel n kind group width) (· = true) := by
  have hdg : Dg n.2 := fun x hx => inK_u32 (hn.2.1 x hx)
  unfold law4_FmtspecBack
  refine Tot.bindq (P := fun j => j = false → OkI n ∧ 0 ≤ width ∧ width ≤ 400) ?_ fun j hj => ?_
  · refine Tot.bindq formats_tot fun r hr => ?_
    subst hr
    refine Tot.if_ rfl (Tot.bindq (RI.Tot.all (fun k => RI.IntOk_eq k n)) fun r hr => ?_)
    subst hr
    refine Tot.ite (fun _ => Tot.ret fun e => by cases e) (fun h => Tot.ite (fun _ => Tot.ret fun e => by cases e) (fun h2 => Tot.ret fun h3 => ⟨(RI.OkI_iff hdg).1 (by simpa using h), ?_, ?_⟩))
    · have := of_decide_eq_false h2; omega
    · have := of_decide_eq_false h3; omega
  refine Tot.ite (fun _ => Tot.bindq formats_tot fun r hr => by subst hr; exact Tot.ret rfl) (fun h => ?_)
  obtain ⟨ho, w0, w1⟩ := hj h
  obtain ⟨ty, B, up, hk, k1, k2, k3⟩ := kinds (and3 kind)
  generalize bwAnd .i64 kind 3 = k at *
  refine Tot.bind0 k1 ?_
  generalize decide (bwAnd .i64 kind 4 > 0) = bs
  refine Tot.bindq (P := fun j => ∃ g, (g = 0 ∨ g = 95) ∧ j = Sx bs width g ty) ?_ fun j ⟨g, hg, hj⟩ => ?_
  · exact Tot.ite (fun _ => Tot.ret ⟨95, .inr rfl, rfl⟩) (fun _ => Tot.ret ⟨0, .inl rfl, rfl⟩)
  subst hj
  obtain ⟨g1, g2⟩ := Sx_ok hk (bs := bs) ⟨w0, w1⟩ hg
  refine Tot.bindq (P := (· = (strOf (enc (wr (Sx bs width g ty))), (0, 0)))) (Print_tot g1 g2) fun r hr => ?_
  subst hr
  have hB := Kd.isBase hk
  refine Tot.bindq (Format_tot hk ho (bs := bs) ⟨w0, w1⟩ hg) fun r hr => ?_
  rcases hr with hr | ⟨ds, t, z, hr, t1, t2, d1, d2, d3, d4, f1, f2⟩
  · subst hr
    refine Tot.bindq (P := (· = true)) (Tot.if_ rfl (Tot.bindq (P := (· = (3, -1))) (Tot.ret rfl) fun r hr => by subst hr; exact Tot.ret rfl)) fun j hj => ?_
    subst hj
    exact Tot.it rfl (Tot.ret rfl)
  subst hr
  refine Tot.bindq (P := (· = false)) (Tot.if_ rfl (Tot.bindq (P := (· = (3, -1))) (Tot.ret rfl) fun r hr => by subst hr; exact Tot.ret rfl)) fun j hj => ?_
  subst hj
  refine Tot.if_ rfl ?_
  obtain ⟨ty0, ty1, _, _⟩ := Kd.low hk
  obtain ⟨rest, hrest⟩ : ∃ rest, rest = pfB bs ty ++ List.replicate z 48 ++ t := ⟨_, rfl⟩
  have hL : sgB n.1 ++ pfB bs ty ++ List.replicate z 48 ++ t = sgB n.1 ++ rest := by rw [hrest]; simp
  rw [hL] at f1 f2 ⊢
  have hty : ty = 98 ∨ ty = 111 ∨ ty = 120 ∨ ty = 88 := by
    rcases hk with ⟨h, _⟩ | ⟨h, _⟩ | ⟨h, _⟩ | ⟨h, _⟩ <;> simp [h]
  have hpf : ∀ c ∈ pfB bs ty, c ≠ 95 ∧ c ≠ 45 ∧ (65 ≤ c.toNat → c.toNat ≤ 70 → up = true) ∧ cv up c = c := fun c hc => by
    unfold pfB at hc
    split at hc
    · rcases List.mem_cons.1 hc with e | e
      · subst e; exact ⟨by decide, by decide, fun h => absurd h (by decide), by cases up <;> decide⟩
      · simp at e
        subst e
        rcases hty with e | e | e | e <;> subst e <;> refine ⟨by decide, by decide, fun h h' => absurd h' (by decide), by cases up <;> decide⟩
    · simp at hc
  have hz : ∀ c ∈ List.replicate z (48 : UInt8), c = 48 := fun c hc => (List.mem_replicate.1 hc).2
  have hall : ∀ c ∈ rest, c ≠ 45 ∧ (65 ≤ c.toNat → c.toNat ≤ 70 → up = true) := fun c hc => by
    rw [hrest] at hc
    rcases List.mem_append.1 hc with hc | hc
    · rcases List.mem_append.1 hc with hc | hc
      · exact ⟨(hpf c hc).2.1, (hpf c hc).2.2.1⟩
      · rw [hz c hc]; exact ⟨by decide, fun h => absurd h (by decide)⟩
    · rcases t2 c hc with h | h
      · obtain ⟨d, hd, rfl⟩ := List.mem_map.1 h
        have := cv_chF (up := up) hB (d2 d hd)
        exact ⟨this.2.2.1, this.2.2.2⟩
      · subst h; exact ⟨by decide, fun _ h => absurd h (by decide)⟩
  have hread : (nu rest).map (cv up) = pfB bs ty ++ (List.replicate z (0 : Int) ++ ds).map dch := by
    have e1 : nu (ds.map (chF up)) = ds.map (chF up) := nu_all fun c hc => by
      obtain ⟨d, hd, rfl⟩ := List.mem_map.1 hc
      exact (cv_chF hB (d2 d hd)).2.1
    rw [hrest, nu_app, nu_app, t1, e1, nu_all (fun c hc => (hpf c hc).1), nu_all (fun c hc => by rw [hz c hc]; decide), List.map_append, List.map_append, List.map_append, List.append_assoc, ← zeros_dch]
    congr 1
    · exact (List.map_congr_left fun c hc => (hpf c hc).2.2.2).trans (List.map_id _)
    · congr 1
      · rw [List.map_replicate]
        congr 1
        cases up <;> decide
      · rw [List.map_map]
        exact List.map_congr_left fun d hd => (cv_chF hB (d2 d hd)).1
  have sl : (sgB n.1).length ≤ 1 := by unfold sgB; split <;> simp
  rw [List.length_append] at f2
  refine Tot.bindq (P := (· = .inl (n.1, (nu rest).map (cv up)))) ?_ fun j hj => ?_
  · refine Tot.loop (fun st => ∃ i : Nat, i ≤ (sgB n.1 ++ rest).length ∧ st = (if i = 0 then false else n.1, (nu (((sgB n.1 ++ rest).take i).drop (sgB n.1).length)).map (cv up), (i : Int))) (fun st => (sgB n.1 ++ rest).length - st.2.2.toNat) ⟨0, by omega, by simp [nu]⟩ fun st ⟨i, hi, hst⟩ => ?_
    subst hst
    dsimp only
    rw [size_str]
    rw [List.length_append] at hi ⊢
    refine Tot.ite (fun h => ?_) (fun h => ?_)
    · have h : i < (sgB n.1 ++ rest).length := by
        rw [List.length_append]
        have : (i : Int) < (((sgB n.1).length + rest.length : Nat) : Int) := of_decide_eq_true h
        omega
      have hlen : (sgB n.1 ++ rest).length = (sgB n.1).length + rest.length := List.length_append
      refine Tot.bind0 (sidx_nat (by rw [bytes_str]; exact h)) ?_
      have hg : (bytesOf (strOf (sgB n.1 ++ rest)))[i]'(by rw [bytes_str]; exact h) = (sgB n.1 ++ rest)[i] := by simp only [bytes_str]
      rw [hg]
      refine Tot.bindq (P := (· = .inl (n.1, (nu (((sgB n.1 ++ rest).take (i + 1)).drop (sgB n.1).length)).map (cv up)))) ?_ fun j hj => ?_
      · by_cases hfirst : i = 0 ∧ n.1 = true
        · obtain ⟨h0, h1⟩ := hfirst
          subst h0
          have e1 : sgB n.1 = [45] := by rw [h1]; rfl
          refine Tot.it ?_ (Tot.ret ?_)
          · have : (sgB n.1 ++ rest)[0] = 45 := by simp only [e1]; rfl
            rw [this]; rfl
          · rw [e1, h1]
            simp [nu]
        · have hx : i < (sgB n.1).length → False := fun hlt => hfirst (by
            cases hb : n.1 with
            | false => rw [hb] at hlt; exact absurd hlt (by simp [sgB])
            | true => exact ⟨by omega, rfl⟩)
          have hge : (sgB n.1).length ≤ i := Nat.le_of_not_lt hx
          have hi0 : (if i = 0 then false else n.1) = n.1 := by
            split
            · rename_i h0
              cases hb : n.1 with
              | false => rfl
              | true => exact absurd ⟨h0, hb⟩ hfirst
            · rfl
          rw [hi0]
          have hc : (sgB n.1 ++ rest)[i] ∈ rest := by
            rw [List.getElem_append_right hge]
            exact List.getElem_mem _
          have htk : ((sgB n.1 ++ rest).take (i + 1)).drop (sgB n.1).length = ((sgB n.1 ++ rest).take i).drop (sgB n.1).length ++ [(sgB n.1 ++ rest)[i]] := by
            rw [List.take_succ_eq_append_getElem h, List.drop_append_of_le_length (by rw [List.length_take]; omega)]
          obtain ⟨c1, c2⟩ := hall _ hc
          have hacc : ((nu (((sgB n.1 ++ rest).take i).drop (sgB n.1).length)).map (cv up)).length ≤ 4000 := by
            rw [List.length_map]
            refine Nat.le_trans (List.length_filter_le _ _) ?_
            rw [List.length_drop, List.length_take]; omega
          rw [htk]
          generalize (sgB n.1 ++ rest)[i] = c at *
          generalize ((sgB n.1 ++ rest).take i).drop (sgB n.1).length = acc at *
          have hcb := byte_lt c
          refine Tot.if_ ?_ ?_
          · rw [Bool.and_eq_false_iff]
            right
            refine beq_eq_false_iff_ne.2 fun e => c1 ?_
            exact UInt8.toNat_inj.1 (by show c.toNat = 45; omega)
          refine Tot.ite (fun h95 => ?_) (fun h95 => ?_)
          · have : c = 95 := UInt8.toNat_inj.1 (by have := eq_of_beq h95; show c.toNat = 95; omega)
            subst this
            refine Tot.ret ?_
            rw [nu_app]
            simp [nu]
          have hne : c ≠ 95 := fun e => by rw [e] at h95; exact absurd h95 (by decide)
          rw [nu_app, nu_one hne, List.map_append]
          refine Tot.ite (fun hu => ?_) (fun hu => ?_)
          · simp only [Bool.and_eq_true, decide_eq_true_eq] at hu
            obtain ⟨u1, u2, u3⟩ := hu
            have hup : up = true := by rw [← k3]; exact u3
            have e1 : IntKind.u8.wrap ((c.toNat : Int) + 32) = ((c.toNat + 32 : Nat) : Int) := by rw [u8_small (by omega) (by omega)]; omega
            rw [e1]
            refine Tot.bind0 (u8_ok (by omega)) (Tot.bind0 (app_ok (by simp at hacc ⊢; omega)) (Tot.ret ?_))
            have : [c].map (cv up) = [UInt8.ofNat (c.toNat + 32)] := by
              show [cv up c] = _
              unfold cv
              rw [if_pos ⟨hup, by omega, by omega⟩]
            rw [this]
          · have hcv : cv up c = c := by
              unfold cv
              refine if_neg fun hh => ?_
              obtain ⟨a1, a2, a3⟩ := hh
              rw [a1] at k3
              rw [k3] at hu
              simp only [Bool.and_true, Bool.and_eq_false_iff, decide_eq_false_iff_not] at hu
              omega
            have : [c].map (cv up) = [c] := by show [cv up c] = _; rw [hcv]
            rw [this]
            refine Tot.if_ ?_ (Tot.bind0 (u8_byte c) (Tot.bind0 (app_ok (by simp at hacc ⊢; omega)) (Tot.ret rfl)))
            rw [Bool.and_eq_false_iff, decide_eq_false_iff_not, decide_eq_false_iff_not]
            refine Classical.byContradiction fun hh => ?_
            have hup := c2 (by omega) (by omega)
            rw [hup] at k3
            rw [k3] at hu
            simp only [Bool.and_true, Bool.and_eq_false_iff, decide_eq_false_iff_not] at hu
            omega
      · subst hj
        refine Tot.contl (Tot.ret ?_)
        rw [iw (n := i + 1) (by omega) (by omega)]
        exact ⟨⟨i + 1, by omega, by rw [if_neg (by omega)]⟩, by dsimp only; omega⟩
    · have h : i = (sgB n.1 ++ rest).length := by
        rw [List.length_append]
        have : ¬ (i : Int) < (((sgB n.1).length + rest.length : Nat) : Int) := of_decide_eq_false h
        omega
      refine Tot.ret ?_
      rw [h, List.take_length, List.drop_left]
      congr 2
      cases hb : n.1 with
      | false => split <;> rfl
      | true => rw [if_neg (by rw [List.length_append]; simp [sgB])]
  subst hj
  refine Tot.contl ?_
  rw [hread]
  have hD : Db B (List.replicate z (0 : Int) ++ ds) := fun x hx => by
    rcases List.mem_append.1 hx with h | h
    · rw [(List.mem_replicate.1 h).2]; exact ⟨by decide, by have := hB.one; omega⟩
    · exact d2 x h
  have hDv : vb B (List.replicate z (0 : Int) ++ ds).reverse = val n.2 := by
    rw [List.reverse_append, List.reverse_replicate, RI.vb_append, RI.vb_zeros, d3]; simp
  have hDn : List.replicate z (0 : Int) ++ ds ≠ [] := fun e => d1 (List.append_eq_nil_iff.1 e).2
  have hDl : (List.replicate z (0 : Int) ++ ds).length ≤ 100000 := by
    have h1 : z ≤ 4000 := by
      have : rest.length = (pfB bs ty).length + z + t.length := by rw [hrest]; simp [Nat.add_assoc]
      omega
    simp; omega
  generalize List.replicate z (0 : Int) ++ ds = D at *
  refine Tot.bindq (P := (· = .inl (D.map dch))) ?_ fun j hj => ?_
  · cases bs with
    | false => exact Tot.if_ rfl (Tot.ret rfl)
    | true =>
      have e : pfB true ty = [48, UInt8.ofNat ty.toNat] := rfl
      rw [e]
      have hDp := List.length_pos_iff.2 hDn
      refine Tot.it rfl (Tot.bindq (P := (· = false)) ?_ fun j hj => ?_)
      · refine Tot.if_ (decide_eq_false (by simp only [List.length_append, List.length_cons, List.length_nil, List.length_map]; omega)) (Tot.bind0 (a := 48) rfl (Tot.if_ rfl (Tot.bind0 (a := UInt8.ofNat ty.toNat) rfl (Tot.bind0 k1 (Tot.ret ?_)))))
        rcases hty with e | e | e | e <;> subst e <;> rfl
      · subst hj
        refine Tot.if_ rfl (Tot.bind0 (sub_ok (by decide) (by simp only [List.length_append, List.length_cons, List.length_nil, List.length_map]; omega) (Int.le_refl _)) (Tot.ret ?_))
        rw [Int.toNat_natCast, List.take_length]
        rfl
  subst hj
  refine Tot.contl ?_
  refine Tot.bindq (P := fun s => ∃ D, s = D.map dch ∧ Db B D ∧ D ≠ [] ∧ vb B D.reverse = val n.2 ∧ (D.length ≤ 1 ∨ D.head? ≠ some 0)) ?_ fun s ⟨E, hs, e1, e2, e3, e4⟩ => ?_
  · refine Tot.loop (fun s => ∃ D, s = D.map dch ∧ Db B D ∧ D ≠ [] ∧ vb B D.reverse = val n.2) (fun s => s.length) ⟨D, rfl, hD, hDn, hDv⟩ fun s ⟨E, hs, e1, e2, e3⟩ => ?_
    subst hs
    obtain ⟨d, r, rfl⟩ : ∃ d r, E = d :: r := by
      cases E with
      | nil => exact absurd rfl e2
      | cons d r => exact ⟨d, r, rfl⟩
    have hd := e1 d (List.mem_cons_self ..)
    refine Tot.bindq (P := (· = (decide (1 < (d :: r).length) && (d == 0)))) ?_ fun j hj => ?_
    · refine Tot.ite (fun h => ?_) (fun h => Tot.ret ?_)
      · have h : 1 < (d :: r).length := by
          have : (((d :: r).map dch).length : Int) > 1 := of_decide_eq_true h
          rw [List.length_map] at this; omega
        refine Tot.bind0 (a := dch d) rfl (Tot.ret ?_)
        rw [decide_eq_true h, (dch_facts hB hd).2.1]
        rfl
      · have h : ¬ 1 < (d :: r).length := by
          have : ¬ (((d :: r).map dch).length : Int) > 1 := of_decide_eq_false h
          rw [List.length_map] at this; omega
        rw [decide_eq_false h]; rfl
    · subst hj
      refine Tot.ite (fun h => ?_) (fun h => Tot.ret ⟨d :: r, rfl, e1, e2, e3, ?_⟩)
      · obtain ⟨h1, h2⟩ := Bool.and_eq_true_iff.1 h
        have h1 := of_decide_eq_true h1
        have h2 : d = 0 := eq_of_beq h2
        subst h2
        refine Tot.bind0 (sub_ok (by decide) (by simp only [List.length_map, List.length_cons]; omega) (Int.le_refl _)) (Tot.ret ?_)
        rw [Int.toNat_natCast, List.take_length]
        refine ⟨⟨r, rfl, fun x hx => e1 x (List.mem_cons_of_mem _ hx), fun e => by rw [e] at h1; simp at h1, ?_⟩, by simp⟩
        rw [List.reverse_cons, RI.vb_snoc] at e3
        simpa using e3
      · rcases Bool.and_eq_false_iff.1 h with h | h
        · exact .inl (by have := of_decide_eq_false h; omega)
        · exact .inr (by simpa using h)
  subst hs
  refine Tot.bind0 k2 ?_
  have hV := (RI.val_lt_big ho.1).2
  refine Tot.bindq (Parsed_tot hB e1 e2 e3 hV e4) fun p ⟨p1, p2, p3⟩ => ?_
  obtain ⟨p, f⟩ := p
  simp only at p1 p2 p3
  subst p1
  refine Tot.bindq (P := (· = true)) ?_ fun j hj => by subst hj; exact Tot.ret rfl
  refine Tot.it rfl (Tot.it rfl (Tot.it (decide_eq_true (by rw [size_str]; exact f1)) (Tot.it (beq_self_eq_true _) ?_)))
  refine Tot.bindq (RI.Of3_tot hdg (by have := ho.1.2.2; omega)) fun q ⟨q1, q2, q3⟩ => ?_
  exact Tot.bindq (RI.SameInt_tot (b := (false, q)) p2 q1 (by rw [p3, ← q2]; rfl)) fun r hr => Tot.ret hr
end Go.Gv.P

