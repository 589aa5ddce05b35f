/-
  Own helper lemmas: a region that draws its order, stage by stage. No condition of its own.
-/
import Derived.Test.YtdpmkphjcjacfaaGreatDoorGb
set_option linter.all false
namespace Go.Gv
open Go.RowKit

def ClB (l : List Oper) (listed0 listed : Array Bool) : Prop := Closed l.toArray listed ∧ ∀ i, listed0.getD i false = true → listed.getD i false = true

theorem getD_keep {A : Array Bool} {i j : Nat} (h : A.getD i false = true) : (A.setIfInBounds j true).getD i false = true := by
  by_cases hij : j = i
  · subst hij
    have hlt : j < A.size := by
      rcases Nat.lt_or_ge j A.size with h1 | h1
      · exact h1
      · simp [h1] at h
    simp [hlt]
  · rw [getD_set_ne false hij]; exact h

theorem ClB.set {l : List Oper} {listed0 listed : Array Bool} {j : Nat} (h : ClB l listed0 listed) (hj : j ∈ Region.ready .any l.toArray listed) : ClB l listed0 (listed.setIfInBounds j true) :=
  ⟨h.1.set hj, fun i hi => getD_keep (h.2 i hi)⟩

def tailS (l : List Oper) (heads : List Nat) (listed0 : Array Bool) : Bool :=
  Region.noSelect l.toArray && (heads.all (fun i => Nat.blt i l.length) && (List.range l.length).all fun j => heads.contains j || subB (clos l (20 * l.length) (preds l j) []) listed0 heads)

theorem tailS_of {l : List Oper} {heads : List Nat} {listed0 : Array Bool} (h : tailS l heads listed0 = true) :
    Region.noSelect l.toArray = true ∧ (∀ i ∈ heads, i < l.length) ∧ ∀ listed, ClB l listed0 listed → ∀ j ∈ Region.ready .any l.toArray listed, j ∉ heads → heads.all (listed.getD · false) = true := by
  simp only [tailS, Bool.and_eq_true] at h
  refine ⟨h.1, fun i hi => Nat.le_of_ble_eq_true (List.all_eq_true.1 h.2.1 i hi), fun listed hc j hj hjh => ?_⟩
  obtain ⟨_, o, ho, hall⟩ := mem_ready.1 hj
  have hlt : j < l.length := by have := (Array.getElem?_eq_some_iff.1 ho).1; simpa using this
  have h1 := List.all_eq_true.1 h.2.2 j (List.mem_range.2 hlt)
  rw [Bool.or_eq_true] at h1
  rcases h1 with h1 | h1
  · exact absurd (List.contains_iff_mem.1 h1) hjh
  · rw [List.all_eq_true]
    intro i hi
    rcases subB_of h1 i hi with h2 | h2
    · exact hc.2 i h2
    · exact clos_listed hc.1 _ _ _ (preds_listed ho hall) (fun x hx => by cases hx) i h2

def okS (l : List Oper) (heads : List Nat) (goal : Array Bool) : List (Nat × Mk) → Array Bool → Bool
  | [], listed => heads.all (listed.getD · false) && listed == goal
  | (i, m) :: r, listed => match m with
    | some true => heads.contains i && ((Region.ready .any l.toArray listed).contains i && (Region.free .any l.toArray listed i && okS l heads goal r (listed.setIfInBounds i true)))
    | some false => heads.contains i && (decide (Region.ready .any l.toArray listed = [i]) && okS l heads goal r (listed.setIfInBounds i true))
    | none => false

theorem wpH_of_okS {P : Program} {l : List Oper} {C : World → Prop} {Q : Exit → Act → World → Prop} {heads : List Nat} {listed0 goal : Array Bool} {G : Act → World → Prop} (hs : tailS l heads listed0 = true) :
    ∀ (hl : List (Nat × Mk)) (listed : Array Bool) (a : Act) (w : World), okS l heads goal hl listed = true → ClB l listed0 listed → C w →
    wpO P l.toArray C (fun e a w => e = .normal ∧ G a w) (ordL l hl) a w → wpH P l.toArray C (nQ Q) heads (fun listed a w => listed = goal ∧ G a w) hl.length listed a w
  | [], listed, a, w, hk, _, _, h => by
    simp only [okS, Bool.and_eq_true, beq_iff_eq] at hk
    exact ⟨hk.1, hk.2, h.2⟩
  | (i, m) :: r, listed, a, w, hk, hc, hC, h => by
    have htl := tailS_of hs
    cases m with
    | none => cases hk
    | some q =>
      cases q with
      | true =>
        simp only [okS, Bool.and_eq_true, List.contains_iff_mem] at hk
        obtain ⟨hin, hr, hf, hk⟩ := hk
        obtain ⟨_, o, ho, _⟩ := mem_ready.1 hr
        have hlt : i < l.length := by have := (Array.getElem?_eq_some_iff.1 ho).1; simpa using this
        have hn : l.toArray[i]? = some (nth l i) := by simpa using nth_spec l i hlt
        obtain ⟨v, hy, h⟩ := h
        exact wpH_firstG (fun _ _ hc hj => ClB.set hc hj) hn hin (Region.noSelect_spec htl.1) htl.2.2 _ _ _ _ hc hC (Region.free_spec hn hf) hr hy (wpH_of_okS hs r _ _ w hk (hc.set hr) hC h)
      | false =>
        simp only [okS, Bool.and_eq_true, List.contains_iff_mem, decide_eq_true_eq] at hk
        obtain ⟨hin, hr, hk⟩ := hk
        have hmem : i ∈ Region.ready .any l.toArray listed := by rw [hr]; simp
        obtain ⟨hun, o, ho, _⟩ := mem_ready.1 hmem
        have hlt : i < l.length := by have := (Array.getElem?_eq_some_iff.1 ho).1; simpa using this
        have hn : l.toArray[i]? = some (nth l i) := by simpa using nth_spec l i hlt
        refine ⟨?_, fun h0 => (by rw [hr] at h0; cases h0), fun j hj => ?_⟩
        · rw [List.all_eq_false]
          exact ⟨i, hin, by rw [getD_both hun]; decide⟩
        · rw [hr] at hj
          obtain rfl : j = i := by simpa using hj
          unfold wpOp
          simp only [hn]
          have h' : (if Region.wanted (nth l j) (yielded l.toArray a.tmps) then (nth l j).wp P a w (fun a' w' => C w' ∧ wpO P l.toArray C (fun e a w => e = .normal ∧ G a w) (ordL l r) a' w') (fun e a w => e = .normal ∧ G a w)
            else wpO P l.toArray C (fun e a w => e = .normal ∧ G a w) (ordL l r) (a.put (nth l j).dst undef) w) := h
          split at h'
          · rename_i hw
            rw [if_pos hw]
            exact .inl (Oper.upon_monoQ (fun a w hh => ⟨hh.1, wpH_of_okS hs r _ a w hk (hc.set hmem) hh.1 hh.2⟩) (fun e a w he hh => absurd hh.1 he) h')
          · rename_i hw; rw [if_neg hw]; exact ⟨hC, wpH_of_okS hs r _ _ w hk (hc.set hmem) hC h'⟩

def wpN (P : Program) (l : List Oper) (Q : Exit → Act → World → Prop) (f : Nat) (listed : Array Bool) (a : Act) (w : World) : Prop :=
  wpH P l.toArray (fun _ => True) (nQ Q) (List.range l.length) (fun listed a w => Region.ready .any l.toArray listed = [] ∧ nQ Q .normal a w) f listed a w

theorem wpN_of_wpH {P : Program} {l : List Oper} {C : World → Prop} {Q : Exit → Act → World → Prop} {heads : List Nat} {L : Array Bool → Act → World → Prop} {g : Nat} (hh : ∀ i ∈ heads, i < l.length) (hL : ∀ listed a w, L listed a w → wpN P l Q g listed a w) :
    ∀ (f : Nat) (listed : Array Bool) (a : Act) (w : World), wpH P l.toArray C (nQ Q) heads L f listed a w → wpN P l Q (f + g) listed a w
  | 0, listed, a, w, h => by rw [Nat.zero_add]; exact hL _ _ _ h.2
  | f + 1, listed, a, w, h => by
    rw [show f + 1 + g = (f + g) + 1 by omega]
    refine ⟨?_, h.2.1, fun i hi => wpOp_mono (fun a' w' h' => ⟨trivial, wpN_of_wpH hh hL f _ a' w' h'.2⟩) (h.2.2 i hi)⟩
    obtain ⟨i, hi, hf⟩ := List.all_eq_false.1 h.1
    exact List.all_eq_false.2 ⟨i, List.mem_range.2 (hh i hi), hf⟩

def RunA (P : Program) (R : RR) (n : Nat) (k : List It) (l : List Oper) (f : Nat) (listed : Array Bool) (σ : List (Nat × Value)) (w : World) : Prop :=
  ∀ a : Act, a.defers = R.ds → a.tmps.size = n → Ok σ a.tmps → wpN P l (K P R k) f listed a w

section
variable {P : Program} {R : RR} {n : Nat} {k : List It} {σ : List (Nat × Value)} {w : World} {l : List Oper} {listed : Array Bool}

theorem gv_drawA {id : Nat} (hm : P.follows .mixedOrders = true) (h : ∀ w2, w.grownBy w2 none → RunA P R n k l l.length (Array.replicate l.length false) σ w2) (hr : R.r = none := by rfl) : Run P R n (.code (.region id l.toArray true) :: k) .normal σ w := fun a hd hs hok => by
  refine wpr_of_wp hr ?_
  refine wp_mono (wp_region_any (Q := nQ (K P R k)) hm ?_) (fun e a w h => by cases e <;> first | exact h | exact h.elim)
  rw [List.size_toArray]
  exact wpAny_of_wpH (g := 0) (fun listed a w hh => hh) _ _ _ _ (h w.drew (grown_drew w) a hd hs hok)

theorem gv_stage (C : World → Prop) (heads : List Nat) (hl : List (Nat × Mk)) (goal : Array Bool) {f : Nat} (f' : Nat) (hB : (tailS l heads listed && (closedB l listed && okS l heads goal hl listed)) = true) (hf : Nat.beq f (hl.length + f') = true) (hC : C w)
    (h : Run P R n (.ops l.toArray C (ordL l hl) :: .goal (fun a' w' => wpN P l (K P R k) f' goal a' w') :: k) .normal σ w) : RunA P R n k l f listed σ w := fun a hd hs hok => by
  simp only [Bool.and_eq_true] at hB
  obtain ⟨ht, hcl, hk⟩ := hB
  rw [Nat.eq_of_beq_eq_true hf]
  refine wpN_of_wpH (tailS_of ht).2.1 (fun listed a w hh => ?_) _ _ _ _ (wpH_of_okS (G := fun a w => wpN P l (K P R k) f' goal a w) ht hl listed a w hk ⟨closed_of hcl, fun _ h => h⟩ hC (wpO_mono (fun e a w hh => ?_) _ _ _ (h a hd hs hok)))
  · obtain ⟨rfl, hh⟩ := hh
    exact hh
  · cases e <;> first | exact ⟨rfl, hh⟩ | exact hh.elim

theorem wpN_quiet {Q : Exit → Act → World → Prop} {f : Nat} (hs : Region.noSelect l.toArray = true) : ∀ (is : List Nat) (listed : Array Bool) (a : Act) (w : World), okQ l (List.range l.length) is listed = true → Closed l.toArray listed →
    wpO P l.toArray (fun _ => True) (fun e a w => e = .normal ∧ wpN P l Q f (sets is listed) a w) (ordL l (qs is)) a w → wpN P l Q (f + is.length) listed a w
  | [], listed, a, w, _, _, h => h.2
  | i :: is, listed, a, w, hk, hc, h => by
    simp only [okQ, Bool.and_eq_true, List.contains_iff_mem] at hk
    obtain ⟨hin, hr, hf, hk⟩ := hk
    obtain ⟨_, o, ho, _⟩ := mem_ready.1 hr
    have hlt : i < l.length := by have := (Array.getElem?_eq_some_iff.1 ho).1; simpa using this
    have hn : l.toArray[i]? = some (nth l i) := by simpa using nth_spec l i hlt
    obtain ⟨v, hy, h⟩ := h
    have ih := wpN_quiet hs is (listed.setIfInBounds i true) _ w hk (hc.set hr) h
    exact wpH_first hn hin (Region.noSelect_spec hs) (fun listed _ j hj hjh => by
      obtain ⟨_, o, ho, _⟩ := mem_ready.1 hj
      have hlt : j < l.length := by have := (Array.getElem?_eq_some_iff.1 ho).1; simpa using this
      exact absurd (List.mem_range.2 hlt) hjh) _ _ _ _ hc trivial (Region.free_spec hn hf) hr hy ih

theorem gv_pre (is : List Nat) (goal : Array Bool) {f : Nat} (f' : Nat) (hB : (Region.noSelect l.toArray && (closedB l listed && (okQ l (List.range l.length) is listed && sets is listed == goal))) = true) (hf : Nat.beq f (f' + is.length) = true)
    (h : Run P R n (.ops l.toArray (fun _ => True) (ordL l (qs is)) :: .goal (fun a' w' => wpN P l (K P R k) f' goal a' w') :: k) .normal σ w) : RunA P R n k l f listed σ w := fun a hd hs hok => by
  simp only [Bool.and_eq_true, beq_iff_eq] at hB
  obtain ⟨ht, hcl, hk, hg⟩ := hB
  rw [Nat.eq_of_beq_eq_true hf]
  refine wpN_quiet ht is listed a w hk (closed_of hcl) (wpO_mono (fun e a w hh => ?_) _ _ _ (h a hd hs hok))
  rw [hg]
  cases e <;> first | exact ⟨rfl, hh⟩ | exact hh.elim

theorem gv_goA {f : Nat} {goal : Array Bool} (h : RunA P R n k l f goal σ w) : Run P R n (.goal (fun a' w' => wpN P l (K P R k) f goal a' w') :: k) .normal σ w := fun a hd hs hok => h a hd hs hok
def bA (n : Nat) (S : List Nat) : Array Bool := ((List.range n).map fun i => S.contains i).toArray
theorem gv_stageE (hr : ((List.range l.length).all (listed.getD · false) && (Region.ready .any l.toArray listed).isEmpty) = true) (h : Run P R n k .normal σ w) : RunA P R n k l 0 listed σ w := fun a hd hs hok => by
  simp only [Bool.and_eq_true] at hr
  exact ⟨hr.1, List.isEmpty_iff.1 hr.2, h a hd hs hok⟩
end
end Go.Gv
