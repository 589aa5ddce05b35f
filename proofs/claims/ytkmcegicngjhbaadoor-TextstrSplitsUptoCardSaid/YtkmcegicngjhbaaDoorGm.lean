/-
  Own rules: a range over a function that keeps its place in a variable of its own (a captured variable, in a box). No condition of its own.
-/
import Derived.Test.YtkmcegicngjhbaaDoorGh
set_option linter.all false
namespace Go.Gv
open Go.RowKit

def FarB (B bs : Nat) (t : TypeId) (W W' : World) (row : Option Nat) : Prop := ∀ r, row = some r → (r = bs ∧ ∃ c, Box W' bs t #[c]) ∨ (B ≤ r ∧ ∃ o : Obj, W.heap[r]? = some o ∧ o.isCells = false)
theorem FarB.box {B bs : Nat} {t : TypeId} {W W' : World} {row : Option Nat} {b : Nat} {t' : TypeId} {cs : Array Value} (h : FarB B bs t W W' row) (hb : Box W b t' cs) (hne : b ≠ bs) : ∀ g, row = some g → g ≠ b := fun g e e' => by
  subst e'
  rcases h g e with ⟨h, _⟩ | ⟨_, o, h1, h2⟩
  · exact hne h
  · exact kf_box (B := 0) hb ⟨Nat.zero_le _, o, h1, h2⟩
theorem FarB.own {α : Type} {E : Enc α} {e : TypeId} {B bs : Nat} {t : TypeId} {W W' : World} {row : Option Nat} {X : Nat → Prop} {a : Option Addr} {cap : Nat} {xs : List α} (h : FarB B bs t W W' row) (ho : Own E e W X a cap xs) (hX : ∀ k, X k → k < B) (hXs : ¬ X bs) (hne : blk a ≠ some bs) : ∀ g, row = some g → ¬ X g ∧ blk a ≠ some g := fun g e => by
  rcases h g e with ⟨h, _⟩ | ⟨hB, o, h1, h2⟩
  · subst h; exact ⟨hXs, hne⟩
  · exact ⟨fun hx => Nat.not_lt_of_le hB (hX g hx), fun hg => kf_own (B := 0) ho g hg ⟨Nat.zero_le _, o, h1, h2⟩⟩
theorem FarB.rd {B bs : Nat} {t : TypeId} {W W' : World} {row : Option Nat} {X : Nat → Prop} (h : FarB B bs t W W' row) (hX : ∀ k, X k → k < B) (hXs : ¬ X bs) : ∀ g, row = some g → ¬ X g := fun g e hx => by
  rcases h g e with ⟨h, _⟩ | ⟨hB, _⟩
  · subst h; exact hXs hx
  · exact Nat.not_lt_of_le hB (hX g hx)
theorem FarB.lo {B bs lo : Nat} {t : TypeId} {W W' : World} {row : Option Nat} (h : FarB B bs t W W' row) (h1 : lo ≤ B) (h2 : lo ≤ bs) : ∀ g, row = some g → lo ≤ g := fun g e => by
  rcases h g e with ⟨h, _⟩ | ⟨hB, _⟩
  · subst h; exact h2
  · exact Nat.le_trans h1 hB

def SeqBox {α : Type} (P : Program) (gf bs : Nat) (t : TypeId) (enc : α → Value) (xs : List α) (w : World) : Prop :=
  ∀ (l : Nat) (J : List α → World → Prop) (W : World), W.heap[bs]? = w.heap[bs]? →
    (∀ pre A B row, J pre A → A.grownBy B row → (∀ r, row = some r → r = bs ∧ ∃ c, Box B bs t #[c]) → J pre B) →
    (∀ pre x rest W1 c, xs = pre ++ x :: rest → J pre W1 → Box W1 bs t #[c] → YieldAt Fence.wide 0 P l #[enc x] W1 fun e W' => e = .returned (.bool true) ∧ J (pre ++ [x]) W' ∧ Box W' bs t #[c]) →
    J [] W → CallsIn Fence.wide 1 P gf (#[.func (.yield l) #[] #[]] ++ #[bp bs]) W fun e W' => (∃ v, e = .returned v) ∧ J xs W'

def postB {α : Type} (B bs : Nat) (t : TypeId) (c : Value) (I : List α → World → Prop) (xs : List α) (W : World) : Exit → Act → World → Prop
  | .normal, _, W' => KeepsFrom B W W' ∧ Box W' bs t #[c] ∧ I xs W'
  | _, _, _ => False

theorem gv_rangeBox {P : Program} {R : RR} {n : Nat} {k : List It} {σ : List (Nat × Value)} {w : World} {α : Type} {g : Operand} {p d id : Nat} {oa : Oper} {body : Code} {gf bs : Nat} {t : TypeId} {c0 : Value} {enc : α → Value} {xs : List α}
    (hg : ev σ g = some (.func (.func gf) #[] #[bp bs])) (eg : Enters P gf) (hoa : (oa.op, oa.dst, oa.guard) = (.assign (.tmp p), some d, none)) (hpn : Nat.blt p n = true) (hdn : Nat.blt d n = true)
    (hb0 : Box w bs t #[c0]) (hseq : SeqBox P gf bs t enc xs w) (I : List α → World → Prop)
    (hbody : ∀ l pre x rest W c, xs = pre ++ x :: rest → I pre W → Box W bs t #[c] → Run P ⟨some l, postB w.heap.size bs t c I (pre ++ [x]) W, []⟩ n [.code body] .normal (put (put σ p (enc x)) d (enc x)) W) (h0 : I [] w)
    (hI : ∀ pre W W' row, I pre W → W.grownBy W' row → FarB w.heap.size bs t W W' row → I pre W')
    (hdone : ∀ D W, w.heap.size ≤ D → I xs W → At W D (.deferred (some [])) → Run P { R with ds := [{ target := .collected D, args := #[] }] } n k .normal σ W)
    (hr : R.r = none := by rfl) (hds : R.ds = [] := by rfl) : Run P R n (.code (.rangeFunc g #[p] (.region id #[oa] false) body) :: k) .normal σ w := fun a hd hs hok => by
  have hpn' : p < n := Nat.lt_of_succ_le (by simpa [Nat.blt] using hpn)
  have hdn' : d < n := Nat.lt_of_succ_le (by simpa [Nat.blt] using hdn)
  obtain ⟨fn0, hfn0, hname, hbody0⟩ := eg
  obtain ⟨ho1, ho2⟩ := Prod.mk.inj hoa
  obtain ⟨ho2, ho3⟩ := Prod.mk.inj ho2
  have hbl := hb0.lt
  let tp : α → Array Value := fun x => a.tmps.setIfInBounds p (enc x)
  let a1 : α → Act := fun x => ({ tmps := tp x, defers := [] } : Act).put (some d) (enc x)
  have hokp : ∀ x, Ok (put σ p (enc x)) (tp x) := fun x => hok.put (by omega) _
  have hsp : ∀ x, (tp x).size = n := fun x => by simp [tp, hs]
  have hoka : ∀ x, Ok (put (put σ p (enc x)) d (enc x)) (a1 x).tmps := fun x => (hokp x).put (by rw [hsp]; exact hdn') _
  have hassign : ∀ (l : Nat) (x : α) (W : World) (K : Act → World → Prop), K (a1 x) W →
      (Code.region id #[oa] false).wpIn (FR (some l)) 0 P (Exit.then K (fun _ _ _ => False)) { tmps := tp x, defers := [] } W := by
    intro l x W K hK
    refine wpIn_region_lit (l := [oa]) ?_
    have hw : Region.wanted oa (yielded [oa].toArray (tp x)) = true := by unfold Region.wanted; rw [ho3]
    unfold wpListIn
    rw [if_pos hw]
    refine ⟨fun _ _ => trivial, ?_⟩
    rw [Oper.semAt_eq _ _ _ (fun c => by rw [ho1]; simp)]
    have : (execOp (Act.eval { tmps := tp x, defers := [] }) oa).run P W = .ok (.value (enc x)) W := by
      unfold execOp
      rw [ho1]
      have : (tp x).getD p undef = enc x := by simp [tp, Array.getD_eq_getD_getElem?, hs, hpn']
      simp [Act.eval, this]
    show oa.uponIn _ _ P _ _ _ ((execOp (Act.eval { tmps := tp x, defers := [] }) oa).run P W)
    rw [this, Oper.uponIn_value, ho2]
    exact hK
  have eg : ∀ args w, (callFunc gf args).run P w = .ok (.enter gf args) w := fun args w => by
    have hname : ¬ (fn0.name = "runtime.NumGoroutine") := by simpa using hname
    have hbody : ¬ (fn0.body = none) := fun e => (by rw [e] at hbody0; cases hbody0)
    simp [callFunc, hfn0, hname, hbody, program, Sem.run]
  show (Code.rangeFunc g #[p] (.region id #[oa] false) body).wpIn (FR R.r) 0 P (K P R k) a w
  rw [hr]
  refine wpIn_n (m := 2) ?_
  refine wpIn_rangeFunc ?_
  intro fn hfn
  show ∃ l mark w₁ dd w₁' f args w₂, (Instr.enterLoop fn a.tmps #[p] _ body none).run P w = .ok (l, mark) w₁ ∧ _
  obtain ⟨rec, hrec⟩ : ∃ rec : LoopState → Option Code → Loop, rec = fun st pe => { state := st, pending := pe, fn, tmps := a.tmps, params := #[p], assign := .region id #[oa] false, body, defers := w.heap.size } := ⟨_, rfl⟩
  obtain ⟨W1, hW1⟩ : ∃ W1, (w.alloc (.deferred (some []))).alloc (.loop (rec .ready none)) = W1 := ⟨_, rfl⟩
  have hL1 : W1.heap[w.heap.size + 1]? = some (.loop (rec .ready none)) := by
    rw [← hW1]; have := World.alloc_heap_new (w.alloc (.deferred (some []))) (.loop (rec .ready none)); rwa [World.size_alloc] at this
  have hK1 : W1.heap[w.heap.size]? = some (.deferred (some [])) := by
    rw [← hW1]; exact (Below.heap_alloc _ _ _ (by simp)).trans (World.alloc_heap_new w _)
  have noFar : ∀ {A B : World}, FarB w.heap.size bs t A B none := fun r e => by cases e
  have hI1 : I [] W1 := by
    rw [← hW1]
    exact hI _ _ _ none (hI _ _ _ none h0 (World.grownBy_alloc w _ none) noFar) (World.grownBy_alloc _ _ none) noFar
  have hbs1 : W1.heap[bs]? = w.heap[bs]? := by
    rw [← hW1]
    exact (Below.heap_alloc _ _ _ (by simp; omega)).trans (Below.heap_alloc _ _ _ hbl)
  refine ⟨w.heap.size + 1, [{ target := .collected w.heap.size, args := #[] }], W1, { target := .fn (.func gf) #[bp bs], args := #[.func (.yield (w.heap.size + 1)) #[] #[]] }, W1, gf,
    #[.func (.yield (w.heap.size + 1)) #[] #[]] ++ #[bp bs], W1, ?_, ?_, ?_, ?_, fun _ => by decide, ?_⟩
  · rw [← hW1, hrec]; exact run_enterLoop_outer _ _ _ _ _
  · simp only [resolve, ev_ok hok hg]
    simp [go_sem]
  · intro f' hf'; simp [Target.leads] at hf'; subst hf'; trivial
  · simp [invoke, go_sem, eg]
  have putFar : ∀ {A : World} {o : Obj} (o' : Obj), A.heap[w.heap.size + 1]? = some o → o.isCells = false → FarB w.heap.size bs t A (A.putObj (w.heap.size + 1) o') (some (w.heap.size + 1)) := fun {A o} o' h1 h2 r e => by
    cases e; exact .inr ⟨Nat.le_succ _, o, h1, h2⟩
  refine (hseq (w.heap.size + 1) (fun pre W => I pre W ∧ W.heap[w.heap.size + 1]? = some (.loop (rec .ready none)) ∧ W.heap[w.heap.size]? = some (.deferred (some []))) W1 hbs1
    (fun pre A B row ⟨g1, g2, g3⟩ hgr hrow => ?_) ?_ ⟨hI1, hL1, hK1⟩).mono ?_
  · have hne : ∀ j, w.heap.size ≤ j → some j ≠ row := fun j hj e => by have := (hrow j e.symm).1; omega
    refine ⟨hI _ _ _ row g1 hgr (fun r e => .inl (hrow r e)), ?_, ?_⟩
    · exact (hgr.block _ (Array.getElem?_eq_some_iff.1 g2).1 (hne _ (Nat.le_succ _))).trans g2
    · exact (hgr.block _ (Array.getElem?_eq_some_iff.1 g3).1 (hne _ (Nat.le_refl _))).trans g3
  · -- one round
    rintro pre x rest W c he ⟨hi, hl, hk⟩ hbc
    have hlt : w.heap.size + 1 < W.heap.size := (Array.getElem?_eq_some_iff.1 hl).1
    have hy := run_yield (P := P) (args := #[enc x]) hl (by rw [hrec]; rfl)
    rw [hrec] at hy
    refine ⟨fn, _, _, body, hy, roundIn_of_wpIn hfn ?_⟩
    show (Code.region id #[oa] false).wpIn (FR (some (w.heap.size + 1))) 0 P _ { tmps := (#[p].zip #[enc x]).foldl (fun tmps (t, a) => tmps.setIfInBounds t a) a.tmps, defers := [] } W
    rw [show (#[p].zip #[enc x]).foldl (fun tmps (t, a) => tmps.setIfInBounds t a) a.tmps = tp x by simp [tp]]
    refine hassign _ x W _ ⟨_, run_beginRound hl (by rw [hrec]), ?_⟩
    have hl2 : (W.putObj (w.heap.size + 1) (.loop { rec .ready none with state := .busy })).heap[w.heap.size + 1]? = some (.loop { rec .ready none with state := .busy }) := World.putObj_heap_same hlt
    have hk2 : (W.putObj (w.heap.size + 1) (.loop { rec .ready none with state := .busy })).heap[w.heap.size]? = some (.deferred (some [])) := (World.putObj_heap_other (by omega)).trans hk
    have hbc2 : Box (W.putObj (w.heap.size + 1) (.loop { rec .ready none with state := .busy })) bs t #[c] := (World.putObj_heap_other (by omega)).trans hbc
    have hi2 := hI _ _ _ _ hi (grownBy_putObj' W (w.heap.size + 1) (.loop { rec .ready none with state := .busy })) (putFar _ hl rfl)
    refine wpIn_mono (show body.wpIn (FR (some (w.heap.size + 1))) 0 P _ (a1 x) _ from hbody (w.heap.size + 1) pre x rest _ c he hi2 hbc2 (a1 x) rfl (by simp [a1, Act.put, hsp]) (hoka x)) ?_
    rintro e a3 W3 hp
    cases e with
    | normal =>
      obtain ⟨hk3, hb3, hi3⟩ := (show KeepsFrom w.heap.size _ W3 ∧ Box W3 bs t #[c] ∧ I (pre ++ [x]) W3 from hp)
      have hl3 := hk3.same _ _ (Nat.le_succ _) hl2 rfl
      have hlt3 := (Array.getElem?_eq_some_iff.1 hl3).1
      have hr3 := run_endRound (P := P) none hl3
      rw [hrec] at hr3
      refine ⟨_, _, hr3, rfl, ⟨hI _ _ _ _ hi3 (grownBy_putObj' W3 (w.heap.size + 1) _) (putFar _ hl3 rfl), ?_, ?_⟩, ?_⟩
      · rw [hrec]; exact World.putObj_heap_same hlt3
      · exact (World.putObj_heap_other (by omega)).trans (hk3.same _ _ (Nat.le_refl _) hk2 rfl)
      · exact (World.putObj_heap_other (by omega)).trans hb3
    | _ => exact (show False from hp).elim
  · -- behind the iterator
    rintro e W2 ⟨⟨v, rfl⟩, hi, hl, hk⟩
    refine ⟨none, _, by have := run_endLoop (P := P) hl (by rw [hrec]; simp); rw [hrec] at this; exact this, ?_⟩
    have hlt := (Array.getElem?_eq_some_iff.1 hl).1
    have := hdone w.heap.size _ (Nat.le_refl _) (hI _ _ _ _ hi (grownBy_putObj' W2 (w.heap.size + 1) (.loop { rec .ready none with state := .exhausted })) (putFar _ hl rfl)) ((World.putObj_heap_other (by omega)).trans hk)
      { a with defers := { target := .collected w.heap.size, args := #[] } :: a.defers } (by rw [show a.defers = [] from hd.trans hds]) hs hok
    rw [K_ds] at this
    rw [hrec] at this
    exact this
end Go.Gv
