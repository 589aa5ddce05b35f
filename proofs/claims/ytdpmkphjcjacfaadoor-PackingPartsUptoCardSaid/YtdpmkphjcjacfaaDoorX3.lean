import Derived.Test.YtdpmkphjcjacfaaDoorX1
import Derived.Test.YtdpmkphjcjacfaaDoorGo
set_option linter.all false
namespace Go.Gv.P
open Go Go.Gv Go.Gv.D Go.Gv.R
set_option maxRecDepth 100000
/-! packing by parts: pure lists -/
def parts : List Fld → List Val → Option (List (List UInt8))
  | [], _ => some []
  | x :: t, vs => if x.1 = 120 then (parts t vs).map (List.replicate x.2.1.toNat 0 :: ·) else match vs with
    | [] => none
    | v :: vs => if vldV v = true ∧ (pkF x v).2 = 0 then (parts t vs).map ((pkF x v).1 :: ·) else none
theorem parts_cons (x : Fld) (t : List Fld) (vs : List Val) : parts (x :: t) vs = if x.1 = 120 then (parts t vs).map (List.replicate x.2.1.toNat 0 :: ·) else match vs with
    | [] => none
    | v :: vs => if vldV v = true ∧ (pkF x v).2 = 0 then (parts t vs).map ((pkF x v).1 :: ·) else none := by cases vs <;> rw [parts]
theorem pks_ok : ∀ (l : List Fld) (vs : List Val) (j : Nat) (out : List UInt8), vs.length = nv l → (pks l vs j out).2.1 = 0 → ∃ ps, parts l vs = some ps ∧ pks l vs j out = (out ++ ps.flatten, (0, 0))
  | [], vs, j, out, _, _ => ⟨[], rfl, by simp [pks]⟩
  | x :: t, vs, j, out, hn, h => by
    have hnv : nv (x :: t) = (if x.1 ≠ 120 then 1 else 0) + nv t := rfl
    rw [hnv] at hn
    rw [pks_cons] at h ⊢
    rw [parts_cons]
    by_cases d : x.1 = 120
    · rw [if_pos d] at h ⊢
      rw [if_neg (fun h => h d), Nat.zero_add] at hn
      rw [if_pos d]
      obtain ⟨ps, e1, e2⟩ := pks_ok t vs j _ hn h
      exact ⟨_, by rw [e1]; rfl, by rw [e2]; simp⟩
    · rw [if_neg d] at h ⊢
      rw [if_pos d] at hn
      rw [if_neg d]
      match vs, hn, h with
      | [], hn, _ => rw [List.length_nil] at hn; omega
      | v :: vs, hn, h =>
        simp only [List.length_cons] at hn h ⊢
        by_cases q : vldV v = false
        · rw [if_pos q] at h; cases h
        rw [if_neg q] at h ⊢
        by_cases z : (pkF x v).2 ≠ 0
        · rw [if_pos z] at h; exact absurd h z
        rw [if_neg z] at h ⊢
        obtain ⟨ps, e1, e2⟩ := pks_ok t vs (j + 1) _ (by omega) h
        refine ⟨_, by rw [if_pos ⟨by simpa using q, Classical.not_not.1 z⟩, e1]; rfl, by rw [e2]; simp⟩
theorem ok_pks : ∀ (l : List Fld) (vs : List Val) (j : Nat) (out : List UInt8) (ps : List (List UInt8)), parts l vs = some ps → pks l vs j out = (out ++ ps.flatten, (0, 0))
  | [], vs, j, out, ps, h => by
    have : ps = [] := by simpa [parts] using h.symm
    subst this
    simp [pks]
  | x :: t, vs, j, out, ps, h => by
    rw [parts_cons] at h
    rw [pks_cons]
    by_cases d : x.1 = 120
    · rw [if_pos d] at h ⊢
      obtain ⟨qs, e1, rfl⟩ := Option.map_eq_some_iff.1 h
      rw [ok_pks t vs j _ qs e1]; simp
    · rw [if_neg d] at h ⊢
      match vs, h with
      | v :: vs, h =>
        simp only at h ⊢
        by_cases z : vldV v = true ∧ (pkF x v).2 = 0
        · rw [if_pos z] at h
          obtain ⟨qs, e1, rfl⟩ := Option.map_eq_some_iff.1 h
          rw [if_neg (by rw [z.1]; decide), if_neg (fun h => h z.2), ok_pks t vs (j + 1) _ qs e1]; simp
        · rw [if_neg z] at h; cases h
theorem parts_len : ∀ {l : List Fld} {vs : List Val} {ps : List (List UInt8)}, parts l vs = some ps → ps.length = l.length
  | [], vs, ps, h => by
    have : ps = [] := by simpa [parts] using h.symm
    subst this; rfl
  | x :: t, vs, ps, h => by
    rw [parts_cons] at h
    by_cases d : x.1 = 120
    · rw [if_pos d] at h
      obtain ⟨qs, e1, rfl⟩ := Option.map_eq_some_iff.1 h
      simp [parts_len e1]
    · rw [if_neg d] at h
      match vs, h with
      | v :: vs, h =>
        simp only at h
        by_cases z : vldV v = true ∧ (pkF x v).2 = 0
        · rw [if_pos z] at h
          obtain ⟨qs, e1, rfl⟩ := Option.map_eq_some_iff.1 h
          simp [parts_len e1]
        · rw [if_neg z] at h; cases h
theorem nv_app : ∀ (a b : List Fld), nv (a ++ b) = nv a + nv b
  | [], b => by show _ = 0 + _; rw [Nat.zero_add]; rfl
  | x :: a, b => by
    show (if x.1 ≠ 120 then 1 else 0) + nv (a ++ b) = ((if x.1 ≠ 120 then 1 else 0) + nv a) + nv b
    rw [nv_app a b, Nat.add_assoc]
theorem parts_cut : ∀ {l : List Fld} {vs : List Val} {ps : List (List UInt8)} (c : Nat), parts l vs = some ps → c ≤ l.length → parts (l.take c) (vs.take (nv (l.take c))) = some (ps.take c) ∧ parts (l.drop c) (vs.drop (nv (l.take c))) = some (ps.drop c)
  | l, vs, ps, 0, h, _ => by
    rw [List.take_zero, List.drop_zero]
    exact ⟨by simp [parts], by rw [show nv [] = 0 from rfl, List.drop_zero, List.drop_zero]; exact h⟩
  | [], vs, ps, c + 1, h, hc => by simp at hc
  | x :: t, vs, ps, c + 1, h, hc => by
    have hc : c ≤ t.length := by simpa using hc
    rw [List.take_succ_cons, List.drop_succ_cons]
    have hnv : nv (x :: t.take c) = (if x.1 ≠ 120 then 1 else 0) + nv (t.take c) := rfl
    rw [hnv]
    rw [parts_cons] at h ⊢
    by_cases d : x.1 = 120
    · rw [if_pos d] at h
      have h0 : (if x.1 ≠ 120 then 1 else 0) = 0 := if_neg (fun h => h d)
      rw [h0, Nat.zero_add, if_pos d]
      obtain ⟨qs, e1, rfl⟩ := Option.map_eq_some_iff.1 h
      obtain ⟨a1, a2⟩ := parts_cut c e1 hc
      exact ⟨by rw [a1]; rfl, a2⟩
    · rw [if_neg d] at h
      have h0 : (if x.1 ≠ 120 then 1 else 0) = 1 := if_pos d
      rw [h0, if_neg d]
      match vs, h with
      | v :: vs, h =>
        simp only at h
        rw [Nat.add_comm 1, List.take_succ_cons, List.drop_succ_cons]
        by_cases z : vldV v = true ∧ (pkF x v).2 = 0
        · rw [if_pos z] at h
          obtain ⟨qs, e1, rfl⟩ := Option.map_eq_some_iff.1 h
          obtain ⟨a1, a2⟩ := parts_cut c e1 hc
          exact ⟨by simp only; rw [if_pos z, a1]; rfl, a2⟩
        · rw [if_neg z] at h; cases h
def tn (x : Fld) : Fld := (x.1, x.2.1, !x.2.2)
theorem nv_tn : ∀ l : List Fld, nv (l.map tn) = nv l
  | [] => rfl
  | x :: t => by
    show (if x.1 ≠ 120 then 1 else 0) + nv (t.map tn) = (if x.1 ≠ 120 then 1 else 0) + nv t
    rw [nv_tn t]
theorem good_tn {b : Bool} {x : Fld} (h : good b x) : good (!b) (tn x) := by
  obtain ⟨h1, h2, h3⟩ := h
  exact ⟨h1, h2, by show (!x.2.2) = !b; rw [h3]⟩
def rv (x : Fld) (p : List UInt8) : List UInt8 := if 0 < wid x.1.toNat then p.reverse else p
theorem wid_not {c : Nat} (h : 0 < wid c) : c ≠ 115 ∧ c ≠ 112 ∧ c ≠ 63 ∧ c ≠ 118 ∧ c ≠ 120 := by
  unfold wid at h
  refine ⟨?_, ?_, ?_, ?_, ?_⟩ <;> (intro e; subst e; revert h; decide)
theorem pkF_tn {b : Bool} {x : Fld} (hg : good b x) (ho : okF x) (v : Val) (h120 : x.1 ≠ 120) (hz : (pkF x v).2 = 0) : (pkF (tn x) v).2 = 0 ∧ (pkF (tn x) v).1 = rv x (pkF x v).1 := by
  have e : pkF (tn x) v =
    if v.1 ≠ kindF x.1.toNat then ([], 13)
    else if x.1.toNat = 115 then (if ((v.2.2.2.1.size : Nat) : Int) ≠ x.2.1 then ([], 9) else (bytesOf v.2.2.2.1, 0))
    else if x.1.toNat = 112 then (if 255 < v.2.2.2.1.size then ([], 9) else (v.2.2.2.1.size.toUInt8 :: bytesOf v.2.2.2.1, 0))
    else if x.1.toNat = 63 then ([(v.2.2.2.2.toNat).toUInt8], 0)
    else if x.1.toNat = 118 then (if v.2.1.2.length ≤ 2 ∧ inRange true 8 (iv2 v.2.1) then (vint 9 (zig (iv2 v.2.1)), 0) else ([], 4))
    else if v.2.1.2.length ≤ 2 ∧ inRange (decide (97 ≤ x.1.toNat)) (wid x.1.toNat).toNat (iv2 v.2.1) then (ordB (!x.2.2) (wid x.1.toNat).toNat (iv2 v.2.1), 0) else ([], 4) := rfl
  unfold rv
  obtain ⟨h1, h2, h3, hk⟩ := kindsF hg ho
  by_cases hw : 0 < wid x.1.toNat
  · rw [e]
    obtain ⟨n1, n2, n3, n4, n5⟩ := wid_not hw
    rw [if_pos hw]
    unfold pkF at hz ⊢
    rw [if_neg n1, if_neg n2, if_neg n3, if_neg n4] at hz ⊢
    rw [if_neg n1, if_neg n2, if_neg n3, if_neg n4]
    split at hz
    · cases hz
    rename_i g
    rw [if_neg g, if_neg g]
    split at hz
    · rename_i g2
      rw [if_pos g2, if_pos g2]
      exact ⟨rfl, ordB_not _ _ _⟩
    · cases hz
  · rw [if_neg hw]
    have hx : x.1.toNat = 115 ∨ x.1.toNat = 112 ∨ x.1.toNat = 63 ∨ x.1.toNat = 118 := by
      rcases hk with ⟨k1, _⟩ | ⟨_, (⟨e, _⟩ | ⟨e, _⟩ | ⟨e, _⟩ | ⟨e, _, _⟩)⟩
      · exact absurd k1 hw
      · omega
      · omega
      · omega
      · rcases e with e | e
        · omega
        · omega
    have hE : pkF (tn x) v = pkF x v := by rw [e]; unfold pkF; rcases hx with c | c | c | c <;> simp [c]
    rw [hE]
    exact ⟨hz, rfl⟩
theorem rv_rep {x : Fld} (n : Nat) : rv x (List.replicate n 0) = List.replicate n 0 := by unfold rv; split <;> simp
theorem parts_tn {b : Bool} : ∀ {l : List Fld} {vs : List Val} {ps : List (List UInt8)}, (∀ x ∈ l, good b x) → (∀ x ∈ l, okF x) → parts l vs = some ps → parts (l.map tn) vs = some (List.zipWith rv l ps)
  | [], vs, ps, _, _, h => by
    have : ps = [] := by simpa [parts] using h.symm
    subst this; rfl
  | x :: t, vs, ps, hg, ho, h => by
    rw [List.map_cons, parts_cons]
    rw [parts_cons] at h
    have hg' := fun y hy => hg y (List.mem_cons_of_mem x hy)
    have ho' := fun y hy => ho y (List.mem_cons_of_mem x hy)
    by_cases d : x.1 = 120
    · rw [if_pos d] at h
      rw [if_pos (show (tn x).1 = 120 from d)]
      obtain ⟨qs, e1, rfl⟩ := Option.map_eq_some_iff.1 h
      rw [parts_tn hg' ho' e1, List.zipWith_cons_cons, rv_rep]
      rfl
    · rw [if_neg d] at h
      rw [if_neg (show ¬ (tn x).1 = 120 from d)]
      match vs, h with
      | v :: vs, h =>
        simp only at h ⊢
        by_cases z : vldV v = true ∧ (pkF x v).2 = 0
        · rw [if_pos z] at h
          obtain ⟨qs, e1, rfl⟩ := Option.map_eq_some_iff.1 h
          obtain ⟨p1, p2⟩ := pkF_tn (hg x (List.mem_cons_self ..)) (ho x (List.mem_cons_self ..)) v d z.2
          rw [if_pos ⟨z.1, p1⟩, parts_tn hg' ho' e1, List.zipWith_cons_cons, p2]
          rfl
        · rw [if_neg z] at h; cases h
theorem check_sub {b : Bool} {l : List Fld} (hl : l.length ≤ 100) (hg : ∀ x ∈ l, good b x) : check l = (0, 0) := by
  unfold check
  rw [if_neg (by omega)]
  cases l with
  | nil => rfl
  | cons x t =>
    have : fbig (x :: t) = b := (hg x (List.mem_cons_self ..)).2.2
    rw [this]
    exact chk_good hg
theorem packS_ok {l : List Fld} {vs : List Val} (h : (packS l vs).2.1 = 0) : check l = (0, 0) ∧ (∀ x ∈ l, good (fbig l) x) ∧ vs.length = nv l ∧ ∃ ps, parts l vs = some ps ∧ packS l vs = (ps.flatten, (0, 0)) := by
  unfold packS at h ⊢
  split at h
  · rename_i g; exact absurd h g
  rename_i g
  have g : (check l).1 = 0 := Classical.not_not.1 g
  obtain ⟨c1, c2⟩ := check_zero g
  split at h
  · cases h
  rename_i g2
  have g2 : vs.length = nv l := Classical.not_not.1 g2
  obtain ⟨ps, e1, e2⟩ := pks_ok l vs 0 [] g2 h
  refine ⟨c1, c2, g2, ps, e1, ?_⟩
  rw [if_neg (fun h => h g), if_neg (fun h => h g2), e2]
  simp
theorem ok_packS {b : Bool} {l : List Fld} {vs : List Val} {ps : List (List UInt8)} (hl : l.length ≤ 100) (hg : ∀ x ∈ l, good b x) (hv : vs.length = nv l) (h : parts l vs = some ps) : packS l vs = (ps.flatten, (0, 0)) := by
  unfold packS
  rw [check_sub hl hg, if_neg (fun h => h rfl), if_neg (fun h => h hv), ok_pks l vs 0 [] ps h]
  simp
theorem pks_err : ∀ (l : List Fld) (vs : List Val) (j : Nat) (out : List UInt8), (pks l vs j out).2.1 ≠ 0 → (pks l vs j out).1 = []
  | [], vs, j, out, h => absurd rfl h
  | x :: t, vs, j, out, h => by
    rw [pks_cons] at h ⊢
    by_cases d : x.1 = 120
    · rw [if_pos d] at h ⊢; exact pks_err t vs j _ h
    · rw [if_neg d] at h ⊢
      match vs, h with
      | [], h => exact absurd rfl h
      | v :: vs, h =>
        simp only at h ⊢
        by_cases q : vldV v = false
        · rw [if_pos q]
        rw [if_neg q] at h ⊢
        by_cases z : (pkF x v).2 ≠ 0
        · rw [if_pos z]
        rw [if_neg z] at h ⊢
        exact pks_err t vs (j + 1) _ h
theorem packS_err {l : List Fld} {vs : List Val} (h : (packS l vs).2.1 ≠ 0) : (packS l vs).1 = [] := by
  unfold packS at h ⊢
  split
  · rfl
  rename_i g
  rw [if_neg g] at h
  split
  · rfl
  rename_i g2
  rw [if_neg g2] at h
  exact pks_err _ _ _ _ h
theorem part_len {b : Bool} : ∀ {l : List Fld} {vs : List Val} {ps : List (List UInt8)}, (∀ x ∈ l, good b x) → (∀ x ∈ l, okF x) → parts l vs = some ps → ∀ p ∈ ps, p.length ≤ 256
  | [], vs, ps, _, _, h, p, hp => by
    have : ps = [] := by simpa [parts] using h.symm
    subst this; cases hp
  | x :: t, vs, ps, hg, ho, h, p, hp => by
    rw [parts_cons] at h
    have hg' := fun y hy => hg y (List.mem_cons_of_mem x hy)
    have ho' := fun y hy => ho y (List.mem_cons_of_mem x hy)
    by_cases d : x.1 = 120
    · rw [if_pos d] at h
      obtain ⟨qs, e1, rfl⟩ := Option.map_eq_some_iff.1 h
      rcases List.mem_cons.1 hp with e | e
      · have := cnt_rng (hg x (List.mem_cons_self ..)) (ho x (List.mem_cons_self ..)) d
        subst e; rw [List.length_replicate]; omega
      · exact part_len hg' ho' e1 p e
    · rw [if_neg d] at h
      match vs, h with
      | v :: vs, h =>
        simp only at h
        by_cases z : vldV v = true ∧ (pkF x v).2 = 0
        · rw [if_pos z] at h
          obtain ⟨qs, e1, rfl⟩ := Option.map_eq_some_iff.1 h
          rcases List.mem_cons.1 hp with e | e
          · subst e; exact pkF_len (hg x (List.mem_cons_self ..)) (ho x (List.mem_cons_self ..)) v
          · exact part_len hg' ho' e1 p e
        · rw [if_neg z] at h; cases h
theorem flat_len {k : Nat} : ∀ {ps : List (List UInt8)}, (∀ p ∈ ps, p.length ≤ k) → ps.flatten.length ≤ k * ps.length
  | [], _ => by simp
  | p :: ps, h => by
    have h1 := h p (List.mem_cons_self ..)
    have h2 := flat_len fun q hq => h q (List.mem_cons_of_mem p hq)
    rw [List.flatten_cons, List.length_append, List.length_cons, Nat.mul_succ]
    omega
theorem flat_at {ps : List (List UInt8)} {i : Nat} (h : i < ps.length) : (ps.flatten.drop (ps.take i).flatten.length).take (ps[i]).length = ps[i] ∧ (ps.take (i + 1)).flatten.length = (ps.take i).flatten.length + (ps[i]).length ∧ (ps.take (i + 1)).flatten.length ≤ ps.flatten.length := by
  have e : ps.flatten = (ps.take i).flatten ++ (ps[i] ++ (ps.drop (i + 1)).flatten) := by
    conv => lhs; rw [← List.take_append_drop i ps, List.flatten_append, List.drop_eq_getElem_cons h, List.flatten_cons]
  have e2 : (ps.take (i + 1)).flatten = (ps.take i).flatten ++ ps[i] := by
    rw [List.take_succ_eq_append_getElem h, List.flatten_append]; simp
  refine ⟨?_, by rw [e2, List.length_append], ?_⟩
  · rw [e, List.drop_left, List.take_left]
  · rw [e2, e]; simp
theorem zip_len : ∀ (l : List Fld) (ps : List (List UInt8)), (List.zipWith rv l ps).map List.length = (ps.take l.length).map List.length
  | [], _ => by simp
  | _ :: _, [] => by simp
  | x :: l, p :: ps => by
    have : (rv x p).length = p.length := by unfold rv; split <;> simp
    simp [zip_len l ps, this]
end Go.Gv.P
namespace Go.Gv.P
open Go Go.Gv Go.Gv.D Go.Gv.R
set_option maxRecDepth 100000
theorem oneOf8_all (k : Nat) : (List.range 256).all (fun n => law4_oneOf (k + 20) (n : Int) == some (decide (0 < wid n))) = true := by kernel_rfl
theorem oneOf8_tot {c : Nat} (h : c < 256) : Tot (fun n => law4_oneOf n (c : Int)) (· = decide (0 < wid c)) :=
  Tot.of_all 20 (fun k => beq_iff_eq.1 (List.all_eq_true.1 (oneOf8_all k) c (List.mem_range.2 h))) rfl
theorem sub_nat {α : Type} {l : List α} {a b : Nat} (h1 : a ≤ b) (h2 : b ≤ l.length) : sub l (a : Int) (b : Int) = some ((l.take b).drop a) := by
  unfold sub; rw [if_pos ⟨by omega, by omega, by omega⟩]; simp
theorem PackingParts_tot {l : List Fld} {vs : List Val} {cut : Int} (hl : l.length ≤ 1048576) (ho : ∀ x ∈ l, okF x) (hvl : vs.length ≤ 1048576) (hv : ∀ v ∈ vs, okVal v) : Tot (fun n => law4_PackingParts n l vs cut) (· = true) := by
  unfold law4_PackingParts
  refine Tot.bindq (Pack_spec hl ho hvl hv) fun r hr => ?_
  subst hr
  refine Tot.bindq packs_tot fun r1 h1 => ?_
  subst h1
  refine Tot.if_ rfl (Tot.ite (fun g => Tot.ret ?_) (fun g => ?_))
  · have g : (packS l vs).2.1 ≠ 0 := by simpa using g
    rw [packS_err g]; rfl
  have g : (packS l vs).2.1 = 0 := by simpa using g
  obtain ⟨c1, hg, hn, ps, hps, hpk⟩ := packS_ok g
  generalize fbig l = bg at hg
  have hl100 : l.length ≤ 100 := check_len (by rw [c1])
  rw [hpk]
  have hpl := parts_len hps
  have hp256 := part_len hg ho hps
  have hfl : ps.flatten.length ≤ 25600 := by have := flat_len hp256; omega
  refine Tot.ite (fun gc => Tot.ret rfl) (fun gc => ?_)
  have gc : 0 ≤ cut ∧ cut ≤ (l.length : Int) := by
    rw [Bool.or_eq_false_iff] at gc
    have a1 : ¬ cut < 0 := of_decide_eq_false gc.1
    have a2 : ¬ cut > ((l.length : Nat) : Int) := of_decide_eq_false gc.2
    omega
  obtain ⟨c, rfl⟩ : ∃ c : Nat, cut = (c : Int) := ⟨cut.toNat, by omega⟩
  have hc : c ≤ l.length := by omega
  have hnvc : nv (l.take c) ≤ nv l := by
    have := nv_app (l.take c) (l.drop c)
    rw [List.take_append_drop] at this; omega
  refine Tot.bindq (P := (· = (((nv (l.take c) : Nat) : Int), l.map tn))) ?_ fun j hj => ?_
  · refine Tot.loop (fun st => ∃ i : Nat, i ≤ l.length ∧ st = (((nv ((l.take c).take i) : Nat) : Int), (l.take i).map tn, (i : Int))) (fun st => l.length - st.2.2.toNat) ⟨0, by omega, rfl⟩ fun st ⟨i, hi, e⟩ => ?_
    subst e
    refine Tot.ite (fun d => ?_) (fun d => Tot.ret ?_)
    · have d : (i : Int) < (l.length : Int) := of_decide_eq_true d
      have hil : i < l.length := by omega
      have hidx : idx l (i : Int) = some l[i] := idx_nat hil
      have e3 : IntKind.i64.wrap ((i : Int) + 1) = ((i + 1 : Nat) : Int) := by rw [i64_small (by omega) (by omega)]; omega
      refine Tot.bindq (P := (· = (decide (i < c) && (l[i].1 != 120)))) (Tot.ite (fun q => ?_) (fun q => Tot.ret ?_)) fun j hj => ?_
      · have q : (i : Int) < (c : Int) := of_decide_eq_true q
        refine Tot.bind0 hidx (Tot.ret ?_)
        rw [decide_eq_true (by omega : i < c)]; rfl
      · have q : ¬ (i : Int) < (c : Int) := of_decide_eq_false q
        rw [decide_eq_false (by omega : ¬ i < c)]; rfl
      subst hj
      have hnv1 : nv ((l.take c).take (i + 1)) = nv ((l.take c).take i) + (if i < c ∧ l[i].1 ≠ 120 then 1 else 0) := by
        by_cases q : i < c
        · have hil2 : i < (l.take c).length := by rw [List.length_take]; omega
          rw [List.take_succ_eq_append_getElem hil2, nv_app, List.getElem_take]
          congr 1
          show (if l[i].1 ≠ 120 then 1 else 0) + 0 = _
          by_cases q2 : l[i].1 = 120
          · rw [if_neg (fun h => h q2), if_neg (fun h => h.2 q2)]
          · rw [if_pos q2, if_pos ⟨q, q2⟩]
        · rw [if_neg (fun h => q h.1), List.take_of_length_le (l := l.take c) (i := i + 1) (by rw [List.length_take]; omega), List.take_of_length_le (l := l.take c) (i := i) (by rw [List.length_take]; omega)]; rfl
      have hle : nv ((l.take c).take i) ≤ 100 := by have := nv_le ((l.take c).take i); rw [List.length_take, List.length_take] at this; omega
      refine Tot.bindq (P := (· = ((nv ((l.take c).take (i + 1)) : Nat) : Int))) (Tot.ite (fun q => Tot.ret ?_) (fun q => Tot.ret ?_)) fun j hj => ?_
      · have q : i < c ∧ l[i].1 ≠ 120 := by simpa using q
        rw [hnv1, if_pos q, i64_small (by omega) (by omega)]; omega
      · have q : ¬ (i < c ∧ l[i].1 ≠ 120) := by
          intro h
          rw [decide_eq_true h.1, Bool.true_and] at q
          have : l[i].1 = 120 := by simpa using q
          exact h.2 this
        rw [hnv1, if_neg q]; rfl
      subst hj
      refine Tot.bind0 hidx (Tot.bind0 (app_ok (by simp; omega)) (Tot.ret ?_))
      rw [e3]
      refine ⟨⟨i + 1, by omega, ?_⟩, by show l.length - (((i + 1 : Nat) : Int)).toNat < l.length - ((i : Int)).toNat; omega⟩
      rw [List.take_succ_eq_append_getElem hil, List.map_append]
      rfl
    · have d : ¬ (i : Int) < (l.length : Int) := of_decide_eq_false d
      rw [List.take_of_length_le (l := l.take c) (i := i) (by rw [List.length_take]; omega), List.take_of_length_le (l := l) (i := i) (by omega)]
  subst hj
  refine Tot.if_ (decide_eq_false (by show ¬ ((nv (l.take c) : Nat) : Int) > ((vs.length : Nat) : Int); omega)) ?_
  obtain ⟨pc1, pc2⟩ := parts_cut c hps hc
  have s1 : sub l 0 (c : Int) = some (l.take c) := by have := sub_nat (l := l) (a := 0) (b := c) (by omega) hc; simpa using this
  have s2 : sub vs 0 ((nv (l.take c) : Nat) : Int) = some (vs.take (nv (l.take c))) := by have := sub_nat (l := vs) (a := 0) (b := nv (l.take c)) (by omega) (by omega); simpa using this
  have s3 : sub l (c : Int) ((l.length : Nat) : Int) = some (l.drop c) := by rw [sub_nat hc (Nat.le_refl _), List.take_length]
  have s4 : sub vs ((nv (l.take c) : Nat) : Int) ((vs.length : Nat) : Int) = some (vs.drop (nv (l.take c))) := by rw [sub_nat (by omega) (Nat.le_refl _), List.take_length]
  have hgt : ∀ x ∈ l.take c, good bg x := fun x hx => hg x (List.mem_of_mem_take hx)
  have hgd : ∀ x ∈ l.drop c, good bg x := fun x hx => hg x (List.mem_of_mem_drop hx)
  have nsum := nv_app (l.take c) (l.drop c)
  rw [List.take_append_drop] at nsum
  have q1 : packS (l.take c) (vs.take (nv (l.take c))) = ((ps.take c).flatten, (0, 0)) := ok_packS (by rw [List.length_take]; omega) hgt (by rw [List.length_take]; omega) pc1
  have q2 : packS (l.drop c) (vs.drop (nv (l.take c))) = ((ps.drop c).flatten, (0, 0)) := ok_packS (by rw [List.length_drop]; omega) hgd (by rw [List.length_drop]; omega) pc2
  have hgn : ∀ x ∈ l.map tn, good (!bg) x := fun x hx => by
    obtain ⟨y, hy, rfl⟩ := List.mem_map.1 hx
    exact good_tn (hg y hy)
  have hon : ∀ x ∈ l.map tn, okF x := fun x hx => by
    obtain ⟨y, hy, rfl⟩ := List.mem_map.1 hx
    exact ho y hy
  have q3 : packS (l.map tn) vs = ((List.zipWith rv l ps).flatten, (0, 0)) := ok_packS (by rw [List.length_map]; omega) hgn (by rw [nv_tn]; exact hn) (parts_tn hg ho hps)
  refine Tot.bind0 s1 (Tot.bind0 s2 (Tot.bindq (Pack_spec (by rw [List.length_take]; omega) (fun x hx => ho x (List.mem_of_mem_take hx)) (by rw [List.length_take]; omega) (fun x hx => hv x (List.mem_of_mem_take hx))) fun r hr => ?_))
  rw [q1] at hr; subst hr
  refine Tot.bind0 s3 (Tot.bind0 s4 (Tot.bindq (Pack_spec (by rw [List.length_drop]; omega) (fun x hx => ho x (List.mem_of_mem_drop hx)) (by rw [List.length_drop]; omega) (fun x hx => hv x (List.mem_of_mem_drop hx))) fun r hr => ?_))
  rw [q2] at hr; subst hr
  refine Tot.bindq (Pack_spec (by rw [List.length_map]; exact hl) hon hvl hv) fun r hr => ?_
  rw [q3] at hr; subst hr
  have hzl : (List.zipWith rv l ps).length = l.length := by rw [List.length_zipWith]; omega
  have hflen : (List.zipWith rv l ps).flatten.length = ps.flatten.length := by
    rw [List.length_flatten, List.length_flatten, zip_len, List.take_of_length_le (by omega)]
  have hsplit : (ps.take c).flatten ++ (ps.drop c).flatten = ps.flatten := by rw [← List.flatten_append, List.take_append_drop]
  refine Tot.bindq (P := (· = false)) ?_ fun j hj => ?_
  · refine Tot.if_ rfl (Tot.if_ rfl (Tot.if_ rfl ?_))
    have t1 : (ps.take c).flatten.length + (ps.drop c).flatten.length = ps.flatten.length := by rw [← List.length_append, hsplit]
    refine Tot.bind0 (app_ok (by show 0 + (ps.take c).flatten.length ≤ _; omega)) (Tot.bind0 (app_ok (by rw [List.nil_append]; show (ps.take c).flatten.length + (ps.drop c).flatten.length ≤ _; omega)) (Tot.bindq (SameBytes_tot _ _) fun r hr => ?_))
    subst hr
    rw [List.nil_append, hsplit]
    refine Tot.if_ (by simp) (Tot.ret ?_)
    rw [hflen]; simp
  subst hj
  refine Tot.if_ rfl ?_
  refine Tot.bindq (P := fun z => z = .inl ((ps.flatten.length : Nat) : Int)) ?_ fun z hz => by
    subst hz
    refine Tot.contl (Tot.some_bind (Tot.ret ?_))
    simp
  refine Tot.loop (fun st => ∃ i : Nat, i ≤ l.length ∧ st = ((((ps.take i).flatten.length : Nat) : Int), ((nv (l.take i) : Nat) : Int), (i : Int))) (fun st => l.length - st.2.2.toNat) ⟨0, by omega, rfl⟩ fun st ⟨i, hi, e⟩ => ?_
  subst e
  refine Tot.ite (fun d => ?_) (fun d => Tot.ret ?_)
  · have d : (i : Int) < (l.length : Int) := of_decide_eq_true d
    have hil : i < l.length := by omega
    have hip : i < ps.length := by omega
    have hidx : idx l (i : Int) = some l[i] := idx_nat hil
    have e3 : IntKind.i64.wrap ((i : Int) + 1) = ((i + 1 : Nat) : Int) := by rw [i64_small (by omega) (by omega)]; omega
    obtain ⟨f1, f2, f3⟩ := flat_at hip
    have hiz : i < (List.zipWith rv l ps).length := by omega
    obtain ⟨z1, z2, z3⟩ := flat_at hiz
    have hzi : (List.zipWith rv l ps)[i] = rv l[i] ps[i] := List.getElem_zipWith
    have hzt : ((List.zipWith rv l ps).take i).flatten.length = (ps.take i).flatten.length := by
      rw [List.take_zipWith, List.length_flatten, List.length_flatten, zip_len, List.take_of_length_le (by rw [List.length_take, List.length_take]; omega)]
    obtain ⟨d1, d2⟩ := parts_cut i hps hi
    have hni : nv (l.take (i + 1)) = nv (l.take i) + (if l[i].1 ≠ 120 then 1 else 0) := by
      rw [List.take_succ_eq_append_getElem hil, nv_app]; rfl
    have hnle : nv (l.take (i + 1)) ≤ vs.length := by
      have := nv_app (l.take (i + 1)) (l.drop (i + 1))
      rw [List.take_append_drop] at this; omega
    have hone := (parts_cut 1 d2 (by rw [List.length_drop]; omega)).1
    have hl1 : (l.drop i).take 1 = [l[i]] := by rw [List.drop_eq_getElem_cons hil]; rfl
    have hp1 : (ps.drop i).take 1 = [ps[i]] := by rw [List.drop_eq_getElem_cons hip]; rfl
    rw [hl1, hp1] at hone
    have hn1 : nv [l[i]] = if l[i].1 ≠ 120 then 1 else 0 := rfl
    have hxg := hg _ (List.getElem_mem hil)
    have hxo := ho _ (List.getElem_mem hil)
    generalize hx : l[i] = x at *
    generalize hp : ps[i] = p at *
    have hplen : p.length ≤ 256 := by rw [← hp]; exact hp256 _ (List.getElem_mem hip)
    refine Tot.bind0 hidx ?_
    refine Tot.bindq (P := (· = (((nv (l.take (i + 1)) : Nat) : Int), (vs.drop (nv (l.take i))).take (nv [x])))) (Tot.ite (fun q => ?_) (fun q => Tot.ret ?_)) fun j hj => ?_
    · have q : x.1 ≠ 120 := by simpa using q
      rw [if_pos q] at hni hn1
      have e4 : IntKind.i64.wrap (((nv (l.take i) : Nat) : Int) + 1) = ((nv (l.take i) + 1 : Nat) : Int) := by rw [i64_small (by omega) (by omega)]; omega
      rw [e4]
      refine Tot.bind0 (sub_nat (by omega) (by omega)) (Tot.ret ?_)
      rw [hni, hn1, List.drop_take]; congr 2; omega
    · have q : x.1 = 120 := by simpa using q
      rw [if_neg (fun h => h q)] at hni hn1
      rw [hni, hn1]; rfl
    subst hj
    have s5 : sub l (i : Int) (IntKind.i64.wrap ((i : Int) + 1)) = some [x] := by
      rw [e3, sub_nat (by omega) (by omega), List.take_succ_eq_append_getElem hil, List.drop_left' (by rw [List.length_take]; omega), hx]
    refine Tot.bind0 s5 (Tot.bindq (Pack_spec (l := [x]) (by simp) (fun y hy => by rw [List.mem_singleton.1 hy]; exact hxo) (by rw [List.length_take, List.length_drop]; omega) (fun v hv' => hv v (List.mem_of_mem_drop (List.mem_of_mem_take hv')))) fun r hr => ?_)
    have q5 : packS [x] ((vs.drop (nv (l.take i))).take (nv [x])) = (p, (0, 0)) := by
      have := ok_packS (b := bg) (l := [x]) (by simp) (fun y hy => by rw [List.mem_singleton.1 hy]; exact hxg) (by rw [List.length_take, List.length_drop]; omega) hone
      rw [this]; simp
    rw [q5] at hr
    subst hr
    have e5 : IntKind.i64.wrap ((((ps.take i).flatten.length : Nat) : Int) + ((p.length : Nat) : Int)) = (((ps.take (i + 1)).flatten.length : Nat) : Int) := by rw [i64_small (by omega) (by omega)]; omega
    refine Tot.bindq (P := (· = false)) ?_ fun j hj => ?_
    · refine Tot.if_ rfl ?_
      rw [e5]
      refine Tot.if_ (decide_eq_false (by show ¬ (((ps.take (i + 1)).flatten.length : Nat) : Int) > ((ps.flatten.length : Nat) : Int); omega)) ?_
      refine Tot.bind0 (sub_nat (by omega) f3) (Tot.bindq (SameBytes_tot _ _) fun r hr => Tot.ret ?_)
      subst hr
      have : (ps.flatten.take (ps.take (i + 1)).flatten.length).drop (ps.take i).flatten.length = p := by
        rw [List.drop_take, f2, Nat.add_sub_cancel_left]; exact f1
      rw [this]; simp
    subst hj
    refine Tot.if_ rfl ?_
    refine Tot.bindq (P := fun z => z = .inl ()) ?_ fun z hz => by
      subst hz
      refine Tot.contl (Tot.some_bind (Tot.ret ?_))
      rw [e3, e5]
      exact ⟨⟨i + 1, by omega, rfl⟩, by show l.length - (((i + 1 : Nat) : Int)).toNat < l.length - ((i : Int)).toNat; omega⟩
    refine Tot.loop (fun st : Int => ∃ k : Nat, k ≤ p.length ∧ st = (k : Int)) (fun st : Int => p.length - st.toNat) ⟨0, by omega, rfl⟩ fun st ⟨k, hk, e⟩ => ?_
    subst e
    refine Tot.ite (fun d => ?_) (fun d => Tot.ret rfl)
    have d : (k : Int) < (p.length : Int) := of_decide_eq_true d
    have hkl : k < p.length := by omega
    have e6 : IntKind.i64.wrap ((k : Int) + 1) = ((k + 1 : Nat) : Int) := by rw [i64_small (by omega) (by omega)]; omega
    obtain ⟨h1, h2, _, _⟩ := kindsF hxg hxo
    have hof := oneOf8_tot h2
    rw [← h1] at hof
    refine Tot.bind0 hidx (Tot.bindq hof fun r hr => ?_)
    subst hr
    refine Tot.bindq (P := (· = (((if 0 < wid x.1.toNat then p.length - 1 - k else k) : Nat) : Int))) (Tot.ite (fun q => ?_) (fun q => Tot.ret ?_)) fun j hj => ?_
    · have q : 0 < wid x.1.toNat := of_decide_eq_true q
      refine Tot.some_bind (Tot.ret ?_)
      rw [if_pos q, i64_small (x := ((p.length : Nat) : Int) - 1) (by omega) (by omega), i64_small (by omega) (by omega)]; omega
    · have q : ¬ 0 < wid x.1.toNat := of_decide_eq_false q
      rw [if_neg q]
    generalize hkk : (if 0 < wid x.1.toNat then p.length - 1 - k else k) = kk at hj
    subst hj
    have hkkl : kk < p.length := by rw [← hkk]; split <;> omega
    have hrl : (rv x p).length = p.length := by unfold rv; split <;> simp
    rw [hzi] at z1 z2
    have hzget : (List.zipWith rv l ps).flatten[(ps.take i).flatten.length + kk]? = some p[k] := by
      have h5 : ((List.zipWith rv l ps).flatten.drop (ps.take i).flatten.length)[kk]? = (rv x p)[kk]? := by
        rw [← z1, hzt, List.getElem?_take, if_pos (by rw [hrl]; exact hkkl)]
      rw [List.getElem?_drop] at h5
      rw [h5]
      unfold rv
      by_cases q : 0 < wid x.1.toNat
      · rw [if_pos q]
        rw [if_pos q] at hkk
        rw [List.getElem?_reverse (by omega), ← hkk, show p.length - 1 - (p.length - 1 - k) = k by omega, List.getElem?_eq_getElem hkl]
      · rw [if_neg q]
        rw [if_neg q] at hkk
        subst hkk
        rw [List.getElem?_eq_getElem hkl]
    have e7 : IntKind.i64.wrap ((((ps.take i).flatten.length : Nat) : Int) + (kk : Int)) = (((ps.take i).flatten.length + kk : Nat) : Int) := by rw [i64_small (by omega) (by omega)]; omega
    rw [e7]
    refine Tot.bind0 (a := p[k]) (by unfold idx; rw [if_pos (by omega), Int.toNat_natCast]; exact hzget) (Tot.bind0 (idx_nat hkl) (Tot.if_ (by simp) (Tot.ret ?_)))
    rw [e6]
    exact ⟨⟨k + 1, by omega, rfl⟩, by show p.length - (((k + 1 : Nat) : Int)).toNat < p.length - ((k : Int)).toNat; omega⟩
  · have d : ¬ (i : Int) < (l.length : Int) := of_decide_eq_false d
    show Sum.inl (((ps.take i).flatten.length : Nat) : Int) = _
    rw [List.take_of_length_le (by omega)]
theorem u32_okI {l : List Int} (h : ∀ x ∈ l, inK .u32 x) : ∀ x ∈ l, 0 ≤ x ∧ x < 4294967296 := fun x hx => by
  have : 0 ≤ x ∧ x ≤ 4294967295 := by simpa [inK, Lit.wf, IntKind.min, IntKind.max, IntKind.signed, IntKind.bits] using h x hx
  omega
theorem sumL_mem {α : Type} (m : α → Nat) {x : α} : ∀ {l : List α}, x ∈ l → m x + 1 ≤ sumL m l
  | y :: t, h => by
    unfold sumL
    simp only [List.map_cons, List.sum_cons]
    rcases List.mem_cons.1 h with e | e
    · subst e; omega
    · have := sumL_mem m e
      unfold sumL at this; omega
def mF (x : Int × Int × Bool) : Nat := 1 + (1 + 1) + 1
def mV (x : Val) : Nat := 1 + ((1 + sumL (fun _ => 1) x.2.1.2 + 1) + ((1 + sumL (fun _ => 1) x.2.2.1.2 + 1) + (x.2.2.2.1.size + 1 + 1))) + 1
theorem PackingParts_said (l : List (Int × Int × Bool)) (vs : List (Int × (Bool × (List Int)) × (Bool × (List Int)) × ByteArray × Int)) (cut : Int) (hl : (∀ x ∈ l, (fun x => (inK .u8) x.1 ∧ (fun x => (inK .i64) x.1 ∧ (fun _ => True) x.2) x.2) x) ∧ l.length ≤ maxLen)
    (hv : (∀ x ∈ vs, (fun x => (inK .i64) x.1 ∧ (fun x => (fun x => (fun _ => True) x.1 ∧ (fun xs => (∀ x ∈ xs, (inK .u32) x) ∧ xs.length ≤ maxLen) x.2) x.1 ∧ (fun x => (fun x => (fun _ => True) x.1 ∧ (fun xs => (∀ x ∈ xs, (inK .u32) x) ∧ xs.length ≤ maxLen) x.2) x.1 ∧ (fun x => (fun s => s.size ≤ maxLen) x.1 ∧ (inK .i64) x.2) x.2) x.2) x.2) x) ∧ vs.length ≤ maxLen) (_ : inK .i64 cut)
    (hb : (sumL (fun x => (fun x => (fun _ => 1) x.1 + (fun x => (fun _ => 1) x.1 + (fun _ => 1) x.2) x.2) x + 1)) l + ((sumL (fun x => (fun x => (fun _ => 1) x.1 + (fun x => (fun x => (fun x => (fun _ => 1) x.1 + (sumL (fun _ => 1)) x.2) x + 1) x.1 + (fun x => (fun x => (fun x => (fun _ => 1) x.1 + (sumL (fun _ => 1)) x.2) x + 1) x.1 + (fun x => (fun s => s.size + 1) x.1 + (fun _ => 1) x.2) x.2) x.2) x.2) x + 1)) vs + 1) ≤ 1048576) : Tot (fun n => law4_PackingParts n l vs cut) (· = true) := by
  have hb : sumL mF l + (sumL mV vs + 1) ≤ 1048576 := hb
  have h1 := sumL_len mF (fun x => by unfold mF; omega) l
  have h2 := sumL_len mV (fun x => by unfold mV; omega) vs
  refine PackingParts_tot (by omega) (fun x hx => u8_okF (hl.1 x hx).1) (by omega) (fun v hv' => ⟨u32_okI (hv.1 v hv').2.1.2.1, ?_⟩)
  have h3 := sumL_mem mV hv'
  have h4 : v.2.2.2.1.size ≤ mV v := by unfold mV; omega
  omega
end Go.Gv.P

