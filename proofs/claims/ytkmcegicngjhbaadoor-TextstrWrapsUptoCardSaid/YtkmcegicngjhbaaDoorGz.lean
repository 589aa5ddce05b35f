/-
  Own helper lemmas: slices of slices, rows made and written in place, ranging over a string, structs compared. No condition of its own.
-/
import Derived.Test.YtkmcegicngjhbaaDoorGy
set_option linter.all false
namespace Go.Gv
open Go.RowKit

/-! ### slices as elements -/
def slE {α : Type} (E : Enc α) : Enc (List α) where
  n := 1
  rep w X cs xs := ∃ a cap, cs = [.slice a xs.length cap] ∧ Rd E w X a cap xs
  len := fun ⟨_, _, e, _⟩ => by rw [e]; rfl
  one := fun ⟨_, _, e, _⟩ v hv => by rw [e] at hv; rw [List.mem_singleton.1 hv]; rfl
  keep := fun ⟨a, cap, e, h⟩ hk => ⟨a, cap, e, h.keep hk⟩
  wide := fun ⟨a, cap, e, h⟩ hk => ⟨a, cap, e, h.wide hk⟩

theorem add_zero' (A : Addr) : A.add 0 = A := by unfold Addr.add; rw [if_pos rfl]

theorem Rd.cellK {α : Type} {E : Enc α} {w : World} {X : Nat → Prop} {a : Option Addr} {cap : Nat} {xs : List α} (h : Rd E w X a cap xs) {i : Int} {x : α} (hi : idx xs i = some x)
    (hc : ∀ c', E.rep w X c' x → c'.length = 1) :
    ∃ v, E.rep w X [v] x ∧ ∀ w' : World, (∀ k, X k → w'.heap[k]? = w.heap[k]?) → w'.cell? (elemAddr a (i.toNat * E.n)) = some v := by
  obtain ⟨_, _, h3⟩ := idx_spec hi
  obtain ⟨b, off, c', e, hX, e3, e4⟩ := h.2 _ _ h3
  have hl := hc c' e3
  match c', hl with
  | [v], _ =>
    refine ⟨v, e3, fun w' hk => ?_⟩
    rw [e]
    show w'.cell? ((⟨b, off, none⟩ : Addr).add _) = _
    have := e4 0 v rfl
    rw [add_zero'] at this
    rw [add_lit, World.cell?_of_block (w := w) (hk b hX)]
    exact this

theorem Rd.cellS {α : Type} {E : Enc α} {w : World} {X : Nat → Prop} {a : Option Addr} {cap : Nat} {xs : List (List α)} (h : Rd (slE E) w X a cap xs) {i : Int} {x : List α} (hi : idx xs i = some x) :
    ∃ a' cap', (∀ w' : World, (∀ k, X k → w'.heap[k]? = w.heap[k]?) → w'.cell? (elemAddr a (i.toNat * 1)) = some (Value.slice a' x.length cap')) ∧ Rd E w X a' cap' x := by
  obtain ⟨v, ⟨a', cap', e, hr⟩, hv⟩ := h.cellK hi (fun c' hc' => (slE E).len hc')
  cases e
  exact ⟨a', cap', hv, hr⟩

def RowS {α : Type} (E : Enc α) (w : World) (X : Nat → Prop) : List Value → List (List α) → Prop
  | [], [] => True
  | v :: vs, x :: xs => (∃ a cap, v = .slice a x.length cap ∧ Rd E w X a cap x) ∧ RowS E w X vs xs
  | _, _ => False

theorem RowS.at {α : Type} {E : Enc α} {w : World} {X : Nat → Prop} : ∀ {vs : List Value} {xs : List (List α)}, RowS E w X vs xs → vs.length = xs.length ∧ ∀ (i : Nat) (x : List α), xs[i]? = some x → ∃ a cap, vs[i]? = some (Value.slice a x.length cap) ∧ Rd E w X a cap x
  | [], [], _ => ⟨rfl, fun i x hx => by simp at hx⟩
  | v :: vs, y :: ys, ⟨⟨a, cap, e, hr⟩, h⟩ => by
    obtain ⟨h1, h2⟩ := RowS.at h
    refine ⟨by simp [h1], fun i x hx => ?_⟩
    cases i with
    | zero => cases hx; exact ⟨a, cap, by rw [e]; rfl, hr⟩
    | succ i => exact h2 i x (by simpa using hx)
  | [], _ :: _, h => h.elim
  | _ :: _, [], h => h.elim

theorem Box.rdS {α : Type} {E : Enc α} {w : World} {b : Nat} {t : TypeId} {cs : Array Value} (h : Box w b t cs) {X : Nat → Prop} {xs : List (List α)} (hx : RowS E w X cs.toList xs) (hb : X b) : Rd (slE E) w X (some ⟨b, 0, none⟩) xs.length xs := by
  obtain ⟨_, h2⟩ := hx.at
  refine ⟨Nat.le_refl _, fun i x hi => ?_⟩
  obtain ⟨a, cap, e, hr⟩ := h2 i x hi
  refine ⟨b, 0, [.slice a x.length cap], rfl, hb, ⟨a, cap, rfl, hr⟩, fun j v hv => ?_⟩
  cases j with
  | zero =>
    cases hv
    rw [add_lit]
    have := h.cell i (by rw [← Array.getElem?_toList]; exact e)
    simpa [slE] using this
  | succ j => simp at hv

def PBox {τ : Type} (w : World) (lo : Nat) (ty : TypeId) (f : τ → Array Value) (p : Option Addr) (o : Option τ) : Prop :=
  (o = none ∧ p = none) ∨ ∃ x b, o = some x ∧ p = some ⟨b, 0, none⟩ ∧ Box w b ty (f x) ∧ lo ≤ b
def optc {τ ρ : Type} (o : Option τ) (a : Option ρ) (f : τ → Option ρ) : Option ρ :=
  match o with
  | none => a
  | some x => f x
theorem optc_none {τ ρ : Type} {o : Option τ} {a r : Option ρ} {f : τ → Option ρ} (hn : o = none) (h : optc o a f = r) : a = r := by subst hn; exact h
theorem optc_some {τ ρ : Type} {o : Option τ} {a r : Option ρ} {f : τ → Option ρ} {x : τ} (hn : o = some x) (h : optc o a f = r) : f x = r := by subst hn; exact h
theorem grown_step {a b c : World} {p : Nat} {r : Option Nat} (h : a.grownBy b (some p)) (h' : b.grownBy c r) (hr : ∀ g, r = some g → g = p ∨ a.heap.size ≤ g) : a.grownBy c (some p) :=
  ⟨h'.os.trans h.os, h'.tape.trans h.tape, h'.output.trans h.output, Nat.le_trans h.size h'.size, fun k hk hne => (h'.block k (Nat.lt_of_lt_of_le hk h.size) fun e => by
    rcases hr k e.symm with h1 | h1
    · exact hne (by rw [h1])
    · omega).trans (h.block k hk hne)⟩

/-! ### make, stores -/
def mk {α : Type} (n : Int) (z : α) : Option (List α) := if 0 ≤ n ∧ n ≤ 1073741824 then some (List.replicate n.toNat z) else none
theorem mk_spec {α : Type} {n : Int} {z : α} {xs : List α} (h : mk n z = some xs) : 0 ≤ n ∧ n ≤ 1073741824 ∧ xs = List.replicate n.toNat z := by
  unfold mk at h
  split at h
  · rename_i hh; cases h; exact ⟨hh.1, hh.2, rfl⟩
  · cases h
theorem upd_spec {α : Type} {xs ys : List α} {i : Int} {x : α} (h : upd xs i x = some ys) : 0 ≤ i ∧ i < xs.length ∧ ys = xs.set i.toNat x := by
  unfold upd at h
  split at h
  · rename_i hh; cases h; exact ⟨hh.1, hh.2, rfl⟩
  · cases h

section
variable {P : Program} {R : RR} {n : Nat} {k : List It} {σ σ' : List (Nat × Value)} {w : World} {all : Array Oper} {C : World → Prop} {o : Oper} {m : Mk} {rest : List (Oper × Mk)}

theorem gv_eqs {op : BinOp} {t : TypeId} {x y : Operand} {xs ys : Array Value} (b : Bool) (ss : List Nat) {d : Nat} (hm : m = some false → C w) (hd' : o.dst = some d) (hdn : Nat.blt d n = true) (hg : guardB all σ o = some true)
    (hk : (noSel o.op && known σ o.op.operands.toList) = true) (hop : execOp (evr σ) o = (do pure (.value (← (do eqGuard op t x y (.agg xs) (.agg ys); binOp op t (.agg xs) (.agg ys)))))) (he : ∀ w, (do eqGuard op t x y (.agg xs) (.agg ys); binOp op t (.agg xs) (.agg ys) : Sem Value).run P w = .ok (.bool b) w)
    (hp : pk ss (put σ d (.bool b)) = some σ') (h : Run P R n (.ops all C rest :: k) .normal σ' w) : Run P R n (.ops all C ((o, m) :: rest) :: k) .normal σ w :=
  gv_eqv _ ss hm hd' hdn hg hk (fun w' _ => by
    rw [hop, Sem.run_bind, he w']
    simp [Result.andThen]) hp h

theorem gv_make {α : Type} {f : α → Value} {hf : ∀ x, (f x).oneCell' = true} {t e : TypeId} {kl kc : IntKind} {l : Int} (z : α) (xs : List α) (hm : m ≠ some true) (hdn : dstOk n o.dst = true) (hg : guardB all σ o = some true)
    (hk : (noSel o.op && known σ o.op.operands.toList) = true) (hop : execOp (evr σ) o = (do pure (.value (← Instr.makeSlice t (.int kl l) (.int kc l)))))
    (ht : P.underlying t = some (.slice e)) {bytes : Nat} (hi : (P.info? e).map (fun i => (i.zero, i.size, i.bytes)) = some (some (f z), 1, bytes)) (hb : Nat.ble bytes 32768 = true) (hr : mk l z = some xs)
    (h : ∀ b w', w.grownBy w' none → Own (flat f hf) e w' (fun _ => False) (some ⟨b, 0, none⟩) xs.length xs → b = w.heap.size → w'.heap.size = w.heap.size + 1 →
      (m = some false → C w') ∧ Run P R n (.ops all C rest :: k) .normal (putO σ o.dst (.slice (some ⟨b, 0, none⟩) xs.length xs.length)) w') :
    Run P R n (.ops all C ((o, m) :: rest) :: k) .normal σ w := by
  obtain ⟨h0, h1, rfl⟩ := mk_spec hr
  obtain ⟨i, hi1, hz, hs, hby⟩ := info_parts hi
  have hbb : i.bytes ≤ 32768 := by rw [hby]; exact Nat.le_of_ble_eq_true hb
  have hlen : (List.replicate l.toNat z).length = l.toNat := by simp
  have hcells : (f z).cells = #[f z] := by
    have := hf z
    cases hv : f z <;> rw [hv] at this <;> first | rfl | cases this
  have hrun := run_make (P := P) w t e i (f z) ht hi1 hz kl kc l l h0 (Int.le_refl _) (by
    have h2 : (i.bytes : Int) * l ≤ 32768 * 1073741824 := Int.mul_le_mul (by omega) h1 h0 (by omega)
    omega) (by omega)
  have hmade : madeCells (f z).cells (l.toNat * i.size) = (List.replicate l.toNat (f z)).toArray := by
    rw [hs, Nat.mul_one, hcells]
    apply Array.ext
    · simp [madeCells]
    · intro j h1 h2
      simp [madeCells, Nat.mod_one]
  rw [hmade] at hrun
  refine gv_eff (fun v w' => v = .slice (some ⟨w.heap.size, 0, none⟩) (List.replicate l.toNat z).length (List.replicate l.toNat z).length ∧ w' = w.alloc (.cells (List.replicate l.toNat (f z)).toArray e)) hm hdn hg hk ⟨_, _, .inl ?_, rfl, rfl⟩ fun v w' ⟨hv, hw⟩ => ?_
  · rw [hop, hlen]
    simp only [Sem.run_bind, hrun, Result.andThen, Sem.run_pure]
  · subst hv; subst hw
    have hbox : Box (w.alloc (.cells (List.replicate l.toNat (f z)).toArray e)) w.heap.size e (List.replicate l.toNat (f z)).toArray := heap_alloc_new w _
    refine h _ _ (grown_alloc w _) ?_ rfl (by simp)
    exact Box.own hbox (by simp) (by rw [hlen]; unfold maxLen; omega)

theorem gv_upd {α : Type} {f : α → Value} {hf : ∀ x, (f x).oneCell' = true} {t e : TypeId} {a : Option Addr} {cap : Nat} {xs : List α} {i : Int} (x : α) (ys : List α) (hm : m ≠ some true) (hdn : dstOk n o.dst = true) (hg : guardB all σ o = some true)
    (hk : (noSel o.op && known σ o.op.operands.toList) = true) {v : Value} (hv : v = f x) (hop : execOp (evr σ) o = (do Instr.storeAt t (.pointer (some (elemAddr a (i.toNat * 1)))) v; pure .skip))
    (hsz : (P.info? t).map (·.size) = some 1) (hown : Own (flat f hf) e w (fun _ => False) a cap xs) (hr : upd xs i x = some ys)
    (h : ∀ w', w.grownBy w' (blk a) → Own (flat f hf) e w' (fun _ => False) a cap ys → w'.heap.size = w.heap.size → (m = some false → C w') ∧ Run P R n (.ops all C rest :: k) .normal (putO σ o.dst undef) w') :
    Run P R n (.ops all C ((o, m) :: rest) :: k) .normal σ w := by
  obtain ⟨h0, h1, rfl⟩ := upd_spec hr
  subst hv
  have hcells : (f x).cells = #[f x] := by
    have := hf x
    cases hv : f x <;> rw [hv] at this <;> first | rfl | cases this
  have hlt : i.toNat < xs.length := by omega
  obtain ⟨fl, ⟨hl, hrow⟩, o2, _⟩ := hown
  rcases hrow with ⟨hv, hn⟩ | ⟨g, cap', cur, hv, _, hgb, hnc, hcm, hcs, htake⟩
  · omega
  · cases hv
    have hn1 : (flat f hf).n = 1 := rfl
    simp only [hn1, Nat.mul_one] at hl hcs htake o2
    have hbox : Box w g e cur := hgb
    have hfit : i.toNat + 1 ≤ cur.size := by omega
    let cs' := (cur.toList.take i.toNat ++ [f x] ++ cur.toList.drop (i.toNat + 1)).toArray
    have hstore := run_storeCells_at P g i.toNat e [f x] 0 cur w hgb (by simpa using hfit) (by intro u hu; rw [List.mem_singleton.1 hu]; exact hf x)
    simp only [Nat.add_zero] at hstore
    refine gv_eff (fun u w' => u = undef ∧ w' = w.setRow g cs') hm hdn hg hk ⟨undef, w.setRow g cs', .inr ⟨?_, rfl⟩, rfl, rfl⟩ fun u w' ⟨hu, hw⟩ => ?_
    · rw [hop]
      have ha : elemAddr (some ⟨g, 0, none⟩) (i.toNat * 1) = ⟨g, i.toNat, none⟩ := by
        show (⟨g, 0, none⟩ : Addr).add _ = _
        rw [add_lit]; congr 1; omega
      rw [ha]
      simp [Instr.storeAt, Instr.sureAddr, storeVar, run_sizeOf' hsz, hcells, hstore, cs']
    · subst hu; subst hw
      have hset : cs'.toList = cur.toList.set i.toNat (f x) := by
        show cur.toList.take i.toNat ++ [f x] ++ cur.toList.drop (i.toNat + 1) = _
        rw [List.set_eq_take_append_cons_drop, if_pos (by simpa using (show i.toNat < cur.size by omega))]
        simp
      refine h _ ⟨rfl, rfl, rfl, by simp [World.setRow], fun kk _ hk' => setRow_other w g kk _ (fun e => hk' (by simp [blk, e]))⟩ ⟨fl.set i.toNat (f x), ⟨?_, .inr ⟨g, cap, cs', ?_, Nat.zero_le _, setRow_heap w g cur _ e _ hgb, ?_, hcm, ?_, ?_⟩⟩, fun j y hj => ?_, fun _ _ h => h⟩ (by simp [World.setRow])
      · simp only [List.length_set, hn1, Nat.mul_one]; exact hl
      · simp only [List.length_set]
      · simp only [List.length_set]; exact hnc
      · rw [← Array.length_toList, hset, List.length_set, Array.length_toList, hcs, hn1, Nat.mul_one]
      · rw [hset, ← htake, hn1, Nat.mul_one, List.length_set, List.take_set]
      · show List.take 1 (List.drop (j * 1) (fl.set i.toNat (f x))) = [f y]
        rw [Nat.mul_one]
        rw [List.getElem?_set] at hj
        by_cases hij : i.toNat = j
        · rw [if_pos hij, if_pos hlt] at hj
          cases hj
          subst hij
          have hl' : i.toNat < (fl.set i.toNat (f x)).length := by rw [List.length_set]; omega
          rw [List.drop_eq_getElem_cons hl', List.getElem_set_self]
          rfl
        · rw [if_neg hij] at hj
          have h2 : List.take 1 (List.drop j fl) = [f y] := o2 j y hj
          rw [← h2]
          apply List.ext_getElem?
          intro q
          simp only [List.getElem?_take, List.getElem?_drop, List.getElem?_set]
          split
          · have : q = 0 := by omega
            subst this
            rw [if_neg (by omega)]
          · rfl
end
end Go.Gv
