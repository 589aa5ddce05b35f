/-
  Own rules: ranges over functions. No condition of its own.
-/
import Derived.RangeFuncWrites
import Derived.RangeFuncLeaves
import Derived.RangeFuncCalls
import Derived.OrdersIn
import Derived.Test.YtlclmpegnkomcaaDoorGg
set_option linter.all false
namespace Go.Gv
open Go.RowKit

/-! ### pure counterparts -/
def foldO {α τ : Type} (f : τ → α → Option τ) : τ → List α → Option τ
  | st, [] => some st
  | st, x :: l => (f st x).bind fun st' => foldO f st' l
theorem foldO_snoc {α τ : Type} {f : τ → α → Option τ} : ∀ {l : List α} {st st1 : τ} {x : α}, foldO f st l = some st1 → foldO f st (l ++ [x]) = f st1 x
  | [], st, st1, x, h => by
    cases h
    show (f st x).bind (fun st' => some st') = _
    cases f st x <;> rfl
  | y :: l, st, st1, x, h => by
    show (f st y).bind _ = _
    cases hy : f st y with
    | none =>
      have : (f st y).bind (fun st' => foldO f st' l) = some st1 := h
      rw [hy] at this; cases this
    | some st' =>
      have : (f st y).bind (fun st' => foldO f st' l) = some st1 := h
      rw [hy] at this
      exact foldO_snoc this
def chunk {α : Type} (xs : List α) (k : Nat) : List α := (xs.drop (3 * k)).take 3
def chunks {α : Type} (xs : List α) : List (List α) := (List.range ((xs.length + 2) / 3)).map (chunk xs)
def Able {α τ : Type} (f : τ → α → Option τ) (st : τ) (l : List α) : Prop := ∀ m : List α, (∀ x ∈ m, x ∈ l) → m.length ≤ l.length → (foldO f st m).isSome = true
def lenOk {α : Type} (xs : List α) : Option Unit := if xs.length ≤ 4611686018427387904 then some () else none
theorem lenOk_spec {α : Type} {xs : List α} {u : Unit} (h : lenOk xs = some u) : xs.length ≤ 4611686018427387904 := by
  unfold lenOk at h
  split at h
  · assumption
  · cases h
open Classical in
noncomputable def foldC {α τ : Type} (f : τ → α → Option τ) (st : τ) (l : List α) : Option τ := if Able f st l then foldO f st l else none
theorem foldC_able {α τ : Type} {f : τ → α → Option τ} {st r : τ} {l : List α} (h : foldC f st l = some r) : Able f st l ∧ foldO f st l = some r := by
  unfold foldC at h
  split at h
  · rename_i h1; exact ⟨h1, h⟩
  · cases h
theorem Able.step {α τ : Type} {f : τ → α → Option τ} {st st1 : τ} {l m : List α} {x : α} (h : Able f st l) (h1 : foldO f st m = some st1) (hm : ∀ y ∈ m, y ∈ l) (hx : x ∈ l) (hl : m.length < l.length) : ∃ st2, f st1 x = some st2 := by
  have := h (m ++ [x]) (fun y hy => (List.mem_append.1 hy).elim (hm y) (fun e => by simp at e; subst e; exact hx)) (by simp; omega)
  rw [foldO_snoc h1] at this
  exact Option.isSome_iff_exists.1 this

/-! ### what a round keeps -/
def KfF (B : Nat) (W : World) (k : Nat) : Prop := B ≤ k ∧ ∃ o : Obj, W.heap[k]? = some o ∧ o.isCells = false
theorem KfF.lt {B : Nat} {W w : World} (h : KeepsFrom B W w) : ∀ k, KfF B W k → k < w.heap.size := fun k ⟨_, o, h1, _⟩ => Nat.lt_of_lt_of_le (Array.getElem?_eq_some_iff.1 h1).1 h.size
theorem kf_grown {B : Nat} {W w w' : World} {row : Option Nat} (h : KeepsFrom B W w) (hg : w.grownBy w' row) (hr : ∀ g, row = some g → ¬ KfF B W g) : KeepsFrom B W w' :=
  ⟨Nat.le_trans h.size hg.size, fun k o hB hk ho => by
    have h1 := h.same k o hB hk ho
    rw [hg.block k (Array.getElem?_eq_some_iff.1 h1).1 (fun e => hr k e.symm ⟨hB, o, hk, ho⟩)]
    exact h1⟩
theorem kf_box {B : Nat} {W : World} {b : Nat} {t : TypeId} {cs : Array Value} (h : Box W b t cs) : ¬ KfF B W b := fun ⟨_, o, h1, h2⟩ => by
  rw [show W.heap[b]? = _ from h] at h1
  cases h1
  cases h2
theorem kf_own {α : Type} {E : Enc α} {e : TypeId} {B : Nat} {W : World} {X : Nat → Prop} {a : Option Addr} {cap : Nat} {xs : List α} (h : Own E e W X a cap xs) : ∀ g, blk a = some g → ¬ KfF B W g := fun g hg ⟨_, o, h1, h2⟩ => by
  obtain ⟨fl, ⟨_, hrow⟩, _⟩ := h
  rcases hrow with ⟨hv, _⟩ | ⟨g', c', cur, hv, _, hb, _⟩
  · have := (Value.slice.inj hv).1; rw [this] at hg; cases hg
  · have := (Value.slice.inj hv).1; rw [this] at hg
    have : g' = g := Option.some.inj hg
    subst this
    rw [hb] at h1
    cases h1
    cases h2

def Fars (B : Nat) (W : World) (row : Option Nat) : Prop := ∀ r, row = some r → B ≤ r ∧ ∃ o : Obj, W.heap[r]? = some o ∧ o.isCells = false
theorem Fars.box {B : Nat} {W : World} {row : Option Nat} {b : Nat} {t : TypeId} {cs : Array Value} (h : Fars B W row) (hb : Box W b t cs) : ∀ g, row = some g → g ≠ b := fun g e e' => by
  subst e'
  obtain ⟨_, o, h1, h2⟩ := h g e
  exact kf_box (B := 0) hb ⟨Nat.zero_le _, o, h1, h2⟩
theorem Fars.own {α : Type} {E : Enc α} {e : TypeId} {B : Nat} {W : World} {row : Option Nat} {X : Nat → Prop} {a : Option Addr} {cap : Nat} {xs : List α} (h : Fars B W row) (ho : Own E e W X a cap xs) (hX : ∀ k, X k → k < B) : ∀ g, row = some g → ¬ X g ∧ blk a ≠ some g := fun g e => by
  obtain ⟨hB, o, h1, h2⟩ := h g e
  exact ⟨fun hx => Nat.not_lt_of_le hB (hX g hx), fun hg => kf_own (B := 0) ho g hg ⟨Nat.zero_le _, o, h1, h2⟩⟩
theorem Fars.rd {B : Nat} {W : World} {row : Option Nat} {X : Nat → Prop} (h : Fars B W row) (hX : ∀ k, X k → k < B) : ∀ g, row = some g → ¬ X g := fun g e hx => Nat.not_lt_of_le (h g e).1 (hX g hx)
theorem Fars.lo {B A : Nat} {W : World} {row : Option Nat} (h : Fars B W row) (hA : A ≤ B) : ∀ g, row = some g → A ≤ g := fun g e => Nat.le_trans hA (h g e).1

def KpC (bs bn : Nat) (W W' : World) : Prop := W'.heap[bs]? = W.heap[bs]? ∧ W'.heap[bn]? = W.heap[bn]?

theorem wpIn_n {P : Program} {c : Code} {Q : Exit → Act → World → Prop} {a : Act} {w : World} {r : Option Nat} {m m' : Nat} (h : c.wpIn (FR r) m P Q a w) : c.wpIn (FR r) m' P Q a w :=
  fun b k cs h1 h2 _ => h b k cs h1 h2 (fun d hd => by cases hd)
theorem K_ds {P : Program} {R : RR} (ds : List Deferred) : ∀ k, K P { R with ds := ds } k = K P R k
  | [] => rfl
  | .code c :: k => by
    have := K_ds (P := P) (R := R) ds k
    funext e a w
    cases e <;> simp only [K, this]
  | .blk id :: k => by
    have := K_ds (P := P) (R := R) ds k
    funext e a w
    cases e <;> simp only [K, this]
  | .ops .. :: k => by
    have := K_ds (P := P) (R := R) ds k
    funext e a w
    cases e <;> simp only [K, this]
  | .any .. :: k => by
    have := K_ds (P := P) (R := R) ds k
    funext e a w
    cases e <;> simp only [K, this]
  | .goal J :: k => by
    have := K_ds (P := P) (R := R) ds k
    funext e a w
    cases e <;> simp only [K, this]

/-! ### regions within a round -/
theorem wpIn_of_wp {P : Program} {o : Oper} {a : Act} {w : World} {nx : Act → World → Prop} {Q : Exit → Act → World → Prop} {r : Option Nat} (hnd : ∀ c, o.op ≠ .defer c) (h : o.wp P a w nx Q) : o.wpIn (FR r) 0 P a w nx Q := by
  refine ⟨fun _ _ => trivial, ?_⟩
  rw [Oper.semAt_eq _ _ _ hnd]
  unfold Oper.wp at h
  have hd : (FR r).depth = none := rfl
  have hc : ∀ {f : FuncId} {args : Array Value} {w' : World} {S : Ending → World → Prop}, Calls P f args w' S → CallsIn (FR r) (0 - 1) P f args w' S := fun h => by
    have h := (callsIn_wide (n := 0 - 1)).2 h
    cases r with
    | none => exact h
    | some l => exact CallsIn.inRound l h
  cases hr : (execOp a.eval o).run P w with
  | ok v w' =>
    rw [hr] at h
    cases v with
    | enter f args => exact ⟨fun e => (by rw [hd] at e; cases e), hc h⟩
    | row row args =>
      refine ⟨fun e => (by rw [hd] at e; cases e), fun c cs _ => ?_⟩
      obtain ⟨v, w2, h1, h2⟩ := (show Rows P row args w' _ from h) c cs
      exact ⟨v, w2, h1, stepsIn_wide.2 h2⟩
    | _ => first | exact h | exact h.elim
  | halt x w' =>
    rw [hr] at h
    cases x <;> first | exact h | exact h.elim

def noDefer : List Oper → Bool
  | [] => true
  | o :: l => (match o.op with | .defer _ => false | _ => true) && noDefer l
theorem wpListIn_of_wpO {P : Program} {all : Array Oper} {C : World → Prop} {Q : Exit → Act → World → Prop} {r : Option Nat} : ∀ (l : List Oper) (a : Act) (w : World), noDefer l = true → wpO P all C Q (mk0 l) a w → wpListIn (FR r) 0 P all Q l a w
  | [], _, _, _, h => h
  | o :: l, a, w, hn, h => by
    simp only [noDefer, Bool.and_eq_true] at hn
    have hnd : ∀ c, o.op ≠ .defer c := fun c e => by rw [e] at hn; cases hn.1
    unfold mk0 wpO at h
    unfold wpListIn
    split at h
    · rename_i hw; rw [if_pos hw]; exact wpIn_of_wp hnd (Oper.upon_monoQ (fun a w hh => wpListIn_of_wpO l _ _ hn.2 hh) (fun _ _ _ _ h => h) h)
    · rename_i hw; rw [if_neg hw]; exact ⟨fun _ _ => trivial, wpListIn_of_wpO l _ _ hn.2 h⟩
theorem gv_regionR {P : Program} {R : RR} {n : Nat} {k : List It} {σ : List (Nat × Value)} {w : World} {id : Nat} {l : List Oper}
    (h : Run P R n (.ops l.toArray (fun _ => True) (mk0 l) :: k) .normal σ w) (hn : noDefer l = true := by rfl) : Run P R n (.code (.region id l.toArray false) :: k) .normal σ w :=
  fun a hd hs hok => wpIn_region_lit (wpListIn_of_wpO l a w hn (wpO_mono (fun e a w h => by cases e <;> first | exact h | exact h.elim) _ _ _ (h a hd hs hok)))

theorem noDefer_of {l : List Oper} (hn : noDefer l = true) {i : Nat} {o : Oper} (h : l[i]? = some o) : ∀ c, o.op ≠ .defer c := by
  induction l generalizing i with
  | nil => simp at h
  | cons p l ih =>
    simp only [noDefer, Bool.and_eq_true] at hn
    cases i with
    | zero =>
      have : p = o := by simpa using h
      subst this
      intro c e
      have h1 := hn.1
      simp only [e] at h1
      cases h1
    | succ i => exact ih hn.2 (by simpa using h)
theorem wpOpIn_of_wpOp {P : Program} {l : List Oper} {Q : Exit → Act → World → Prop} {r : Option Nat} (hn : noDefer l = true) {i : Nat} {K1 K2 : Act → World → Prop} (hk : ∀ a w, K1 a w → K2 a w) {a : Act} {w : World} (h : wpOp P l.toArray (nQ Q) i K1 a w) : wpOpIn (FR r) 0 P l.toArray (nQ Q) i K2 a w := by
  unfold wpOp at h
  unfold wpOpIn
  cases hi : l.toArray[i]? with
  | none => rw [hi] at h; exact hk _ _ h
  | some o =>
    rw [hi] at h
    have hnd := noDefer_of hn (i := i) (o := o) (by simpa using hi)
    simp only at h ⊢
    split at h
    · rename_i hw
      rw [if_pos hw]
      rcases h with h | ⟨_, a', w', h⟩
      · exact wpIn_of_wp hnd (Oper.upon_monoQ hk (fun _ _ _ _ h => h) h)
      · exact h.elim
    · rename_i hw
      rw [if_neg hw]
      exact ⟨fun _ _ => trivial, hk _ _ h⟩
theorem wpAnyIn_of_wpAny {P : Program} {l : List Oper} {Q : Exit → Act → World → Prop} {r : Option Nat} (hn : noDefer l = true) : ∀ (f : Nat) (listed : Array Bool) (a : Act) (w : World), wpAny P .any l.toArray (nQ Q) f listed a w → wpAnyIn (FR r) 0 P .any l.toArray (nQ Q) f listed a w
  | 0, _, _, _, h => h
  | f + 1, _, _, _, h => ⟨h.1, fun i hi => wpOpIn_of_wpOp hn (fun a w hh => wpAnyIn_of_wpAny hn f _ a w hh) (h.2 i hi)⟩
theorem gv_drawAR {P : Program} {R : RR} {n : Nat} {k : List It} {σ : List (Nat × Value)} {w : World} {l : List Oper} {id : Nat} (hm : P.follows .mixedOrders = true) (h : ∀ w2, w.grownBy w2 none → RunA P R n k l l.length (Array.replicate l.length false) σ w2) (hn : noDefer l = true := by rfl) :
    Run P R n (.code (.region id l.toArray true) :: k) .normal σ w := fun a hd hs hok => by
  show (Code.region id l.toArray true).wpIn (FR R.r) 0 P (K P R k) a w
  refine wpIn_mono (wpIn_region_any (Q := nQ (K P R k)) hm ?_) (fun e a w h => by cases e <;> first | exact h | exact h.elim)
  rw [List.size_toArray]
  exact wpAnyIn_of_wpAny hn _ _ _ _ (wpAny_of_wpH (g := 0) (fun listed a w hh => hh) _ _ _ _ (h w.drew (grown_drew w) a hd hs hok (closed_none l)))

theorem gv_rangeFunc {P : Program} {R : RR} {n : Nat} {k : List It} {σ : List (Nat × Value)} {w : World} {α : Type} {g : Operand} {p d id : Nat} {oa : Oper} {body : Code} {gf : Nat} {lb : Array Value} {enc : α → Value} {Kp : World → World → Prop} {N : Nat} {S Sp : List α → Prop}
    (hg : ev σ g = some (.func (.func gf) #[] lb)) (eg : Enters P gf) (hoa : (oa.op, oa.dst, oa.guard) = (.assign (.tmp p), some d, none)) (hpn : Nat.blt p n = true) (hdn : Nat.blt d n = true)
    (hseq : SeqStopsK Fence.wide 1 P gf lb (fun x => #[enc x]) Kp S Sp N w) (hKt : ∀ {A B C : World}, Kp A B → Kp B C → Kp A C)
    (hKb : ∀ (W : World) (l : Nat) (o o' : Obj), w.heap.size ≤ l → W.heap[l]? = some o → o.isCells = false → o.isWalk = false → Kp W (W.putObj l o'))
    (I : List α → World → Prop)
    (hbody : ∀ l pre x W, I pre W → pre.length < N → Run P ⟨some l, ownPostG w.heap.size Kp I (fun _ _ _ => False) (pre ++ [x]) W, []⟩ n [.code body] .normal (put (put σ p (enc x)) d (enc x)) W) (h0 : I [] w)
    (hI : ∀ pre W W' row, I pre W → W.grownBy W' row → Fars w.heap.size W row → I pre W')
    (hdone : ∀ D xs W, w.heap.size ≤ D → S xs → I xs W → At W D (.deferred (some [])) → Run P { R with ds := [{ target := .collected D, args := #[] }] } n k .normal σ W)
    (hr : R.r = none := by rfl) (hds : R.ds = [] := by rfl) : Run P R n (.code (.rangeFunc g #[p] (.region id #[oa] false) body) :: k) .normal σ w := fun a hd hs hok => by
  have hpn' : p < n := Nat.lt_of_succ_le (by simpa [Nat.blt] using hpn)
  have hdn' : d < n := Nat.lt_of_succ_le (by simpa [Nat.blt] using hdn)
  obtain ⟨fn, hfn, hname, hb⟩ := eg
  obtain ⟨ho1, ho2⟩ := Prod.mk.inj hoa
  obtain ⟨ho2, ho3⟩ := Prod.mk.inj ho2
  let tp : α → Array Value := fun x => a.tmps.setIfInBounds p (enc x)
  let a1 : α → Act := fun x => ({ tmps := tp x, defers := [] } : Act).put (some d) (enc x)
  have hds' : a.defers = [] := hd.trans hds
  have hokp : ∀ x, Ok (put σ p (enc x)) (tp x) := fun x => hok.put (by omega) _
  have hsp : ∀ x, (tp x).size = n := fun x => by simp [tp, hs]
  have hoka : ∀ x, Ok (put (put σ p (enc x)) d (enc x)) (a1 x).tmps := fun x => (hokp x).put (by rw [hsp]; exact hdn') _
  show (Code.rangeFunc g #[p] (.region id #[oa] false) body).wpIn (FR R.r) 0 P (K P R k) a w
  rw [hr]
  refine wpIn_n (m := 2) ?_
  refine wpIn_rangeFunc_ownG (α := α) (F := FR none) (n := 2) (encs := fun x => #[enc x]) (Kp := Kp) (S := S) (Sp := Sp) (N := N) (w0 := w) rfl (by decide) (ev_ok hok hg) trivial (fun args w => ?_) hseq hKt hKb (Below.refl _ _) (fun _ => rfl) I (fun _ _ _ => False)
    (fun s W W' row hs hg hr => hI s W W' row hs hg hr) (fun _ _ _ _ _ hs _ _ => hs) h0 a1 ?_ ?_ ?_ ?_
  · have hname : ¬ (fn.name = "runtime.NumGoroutine") := by simpa using hname
    have hbody : ¬ (fn.body = none) := fun e => (by rw [e] at hb; cases hb)
    simp [callFunc, hfn, hname, hbody, program, Sem.run]
  · intro l x W K hK
    refine wpIn_region_lit (l := [oa]) ?_
    have hw : Region.wanted oa (yielded [oa].toArray (tp x)) = true := by unfold Region.wanted; rw [ho3]
    rw [show (#[p].zip #[enc x]).foldl (fun t (p, v) => t.setIfInBounds p v) a.tmps = tp x by simp [tp]]
    unfold wpListIn
    rw [if_pos hw]
    refine ⟨fun _ _ => trivial, ?_⟩
    rw [Oper.semAt_eq _ _ _ (fun c => by rw [ho1]; simp)]
    have : (execOp (Act.eval { tmps := tp x, defers := [] }) oa).run P W = .ok (.value (enc x)) W := by
      unfold execOp
      rw [ho1]
      have : (tp x).getD p undef = enc x := by simp [tp, Array.getD_eq_getD_getElem?, hs, hpn']
      simp [Act.eval, this]
    show oa.uponIn _ _ P _ _ _ ((execOp (Act.eval { tmps := tp x, defers := [] }) oa).run P W)
    rw [this, Oper.uponIn_value, ho2]
    exact hK
  · intro l pre x W hIW hlen
    have := hbody l pre x W hIW hlen (a1 x) rfl (by simp [a1, Act.put, hsp]) (hoka x)
    exact wpIn_n (show body.wpIn (FR (some l)) 0 P _ _ _ from wpIn_mono this fun e a w h => h)
  · intro D xs W hD hS hIW hW
    have := hdone D xs W hD hS hIW hW { a with defers := { target := .collected D, args := #[] } :: a.defers } (by rw [hds']) hs hok
    rw [K_ds] at this
    exact this
  · intro D c pre W _ _ hf _
    exact hf.elim

/-! ### the end of a function that has such a loop -/
theorem calls_runM {P : Program} {n : Nat} {w : World} {f : FuncId} {fn : Func} {c : Code} {args : List Value} {S : Value → World → Prop} (hf : P.funcs[f]? = some fn) (hb : fn.body = some c) (hn : fn.ntmps = n) (hle : Nat.ble args.length n = true)
    (h : Run P ⟨none, bodyPostM (FR none) 0 P fn (Ret S), []⟩ n [.code c] .normal (enumV 0 args) w) : Calls P f args.toArray w (Ret S) := by
  refine (callsIn_wide (n := 0)).1 ?_
  refine callsIn_of_wp_marks (F := FR none) hf hb trivial ?_ rfl
  have hle := Nat.le_of_ble_eq_true hle
  refine wpIn_mono (h _ rfl (by simp [hn]; omega) (enumV_ok _ 0 args fun j v hj => ?_)) (fun e a w hh => ?_)
  · obtain ⟨hlt, _⟩ := List.getElem?_eq_some_iff.1 hj
    rw [Nat.zero_add, Array.getElem?_append_left (by simpa using hlt)]
    simpa using hj
  · cases e <;> exact hh
section
variable {P : Program} {n : Nat} {σ : List (Nat × Value)} {w : World}
theorem gv_doneM {fn : Func} {Rr : Ending → World → Prop} {rs : List ResultVar} (vs : List Value) (hr : fn.results = rs.toArray) (h : ResOk P σ w rs vs) (hR : Rr (.returned (tup vs)) w) :
    Run P ⟨none, bodyPostM (FR none) 0 P fn Rr, []⟩ n [] .ret σ w := fun a hd hs hok => by
  show LeavesInM (FR none) 0 P fn a.tmps Rr a.defers .returning w
  rw [show a.defers = [] from hd]
  refine ⟨tup vs, ?_, hR⟩
  have h1 := resOk_run hok h
  rw [results_eq, hr]
  simp only [List.mapM_toArray, Sem.run_bind, Sem.run_map, h1, Result.andThen, Sem.run_pure]
  match vs with
  | [] => rfl
  | [v] => rfl
  | v :: u :: vs => simp [tup]
theorem gv_mark {fn : Func} {Rr : Ending → World → Prop} {D : Nat} (hD : At w D (.deferred (some [])))
    (h : ∀ w', w.grownBy w' (some D) → w'.heap.size = w.heap.size → Run P ⟨none, bodyPostM (FR none) 0 P fn Rr, []⟩ n [] .ret σ w') :
    Run P ⟨none, bodyPostM (FR none) 0 P fn Rr, [{ target := .collected D, args := #[] }]⟩ n [] .ret σ w := fun a hd hs hok => by
  show LeavesInM (FR none) 0 P fn a.tmps Rr a.defers .returning w
  rw [show a.defers = [{ target := .collected D, args := #[] }] from hd]
  refine ⟨by simp, .inl ⟨D, w.putObj D (.deferred none), rfl, run_takeDeferred hD, ?_⟩⟩
  have := h _ (grownBy_putObj' w D (.deferred none)) (by simp [World.putObj]) { a with defers := [] } rfl hs hok
  exact this
end

/-! ### slices.Chunk by three -/
def chunkL (a : Option Addr) (xs : List UInt8) (k : Nat) : Value := .slice (a.map (·.add (3 * k))) (chunk xs k).length (chunk xs k).length
theorem chunk_len {α : Type} (xs : List α) (k : Nat) : (chunk xs k).length = min 3 (xs.length - 3 * k) := by simp [chunk]
theorem chunk_val {w : World} {X : Nat → Prop} {a : Option Addr} {cap : Nat} {xs : List UInt8} (h : Rd bE w X a cap xs) (k : Nat) :
    ∃ a' c' y, chunkL a xs k = .slice a' (List.length y) c' ∧ y = chunk xs k ∧ Rd bE w X a' c' y := by
  refine ⟨_, _, _, rfl, rfl, Nat.le_refl _, fun i x hx => ?_⟩
  have hl := (List.getElem?_eq_some_iff.1 hx).1
  rw [chunk_len] at hl
  have hx' : xs[3 * k + i]? = some x := by
    unfold chunk at hx
    rw [List.getElem?_take, List.getElem?_drop] at hx
    split at hx
    · exact hx
    · cases hx
  obtain ⟨b, off, c, e1, e2, e3, e4⟩ := h.2 _ _ hx'
  subst e1
  refine ⟨b, off + 3 * k, c, ?_, e2, e3, ?_⟩
  · show some ((⟨b, off, none⟩ : Addr).add _) = _
    rw [add_lit]
  · have e4 : cellsAt w ⟨b, off + (3 * k + i) * 1, none⟩ c := e4
    show cellsAt w ⟨b, off + 3 * k + i * 1, none⟩ c
    rw [show off + 3 * k + i * 1 = off + (3 * k + i) * 1 by omega]
    exact e4
theorem chunk_mem {α : Type} {xs : List α} (x : Fin ((xs.length + 2) / 3)) : chunk xs x.1 ∈ chunks xs := List.mem_map.2 ⟨x.1, List.mem_range.2 x.2, rfl⟩
theorem chunk_mems {α : Type} {xs : List α} (l : List (Fin ((xs.length + 2) / 3))) : ∀ y ∈ l.map (fun x => chunk xs x.1), y ∈ chunks xs := fun y hy => by
  obtain ⟨x, _, e⟩ := List.mem_map.1 hy
  rw [← e]; exact chunk_mem x
theorem chunk_lt {α : Type} {xs : List α} {l : List (Fin ((xs.length + 2) / 3))} (h : l.length < (xs.length + 2) / 3) : (l.map (fun x => chunk xs x.1)).length < (chunks xs).length := by simpa [chunks] using h
theorem chunks_fin {α : Type} (xs : List α) : (List.finRange ((xs.length + 2) / 3)).map (fun x => chunk xs x.1) = chunks xs := by
  unfold chunks
  apply List.ext_getElem
  · simp
  · intro i h1 h2
    simp
theorem chunk_snoc {α τ : Type} {f : τ → List α → Option τ} {st st1 st2 : τ} {xs y : List α} {l : List (Fin ((xs.length + 2) / 3))} {x : Fin ((xs.length + 2) / 3)} (h : foldO f st (l.map fun x => chunk xs x.1) = some st1) (hy : y = chunk xs x.1) (h2 : f st1 y = some st2) :
    foldO f st ((l ++ [x]).map fun x => chunk xs x.1) = some st2 := by
  rw [List.map_append]
  show foldO f st (_ ++ [chunk xs x.1]) = _
  rw [foldO_snoc h, ← hy, h2]
theorem KpC.trans {bs bn : Nat} {A B C : World} (h : KpC bs bn A B) (h' : KpC bs bn B C) : KpC bs bn A C := ⟨h'.1.trans h.1, h'.2.trans h.2⟩
theorem KpC.put {bs bn : Nat} {w : World} (h1 : bs < w.heap.size) (h2 : bn < w.heap.size) : ∀ (W : World) (l : Nat) (o o' : Obj), w.heap.size ≤ l → W.heap[l]? = some o → o.isCells = false → o.isWalk = false → KpC bs bn W (W.putObj l o') := fun W l o o' hl _ _ _ =>
  ⟨World.putObj_heap_other (by omega), World.putObj_heap_other (by omega)⟩
theorem KpC.box {bs bn : Nat} {t t' : TypeId} {c c' : Array Value} {W W' : World} (h1 : Box W bs t c) (h2 : Box W bn t' c') (h1' : Box W' bs t c) (h2' : Box W' bn t' c') : KpC bs bn W W' := ⟨Eq.trans (show W'.heap[bs]? = _ from h1') (Eq.symm (show W.heap[bs]? = _ from h1)), Eq.trans (show W'.heap[bn]? = _ from h2') (Eq.symm (show W.heap[bn]? = _ from h2))⟩
theorem at_box {w : World} {D b : Nat} {o : Obj} {t : TypeId} {cs : Array Value} (h : At w D o) (ho : o.isCells = false) (hb : Box w b t cs) : ¬ D = b := fun e => by subst e; exact kf_box (B := 0) hb ⟨Nat.zero_le _, o, h, ho⟩
end Go.Gv
