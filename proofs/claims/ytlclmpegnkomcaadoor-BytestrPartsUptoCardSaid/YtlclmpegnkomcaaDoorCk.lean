import Derived.RangeFuncBox
import Derived.RangeFuncLeaves
import Derived.RangeFuncWrites
import Derived.WalkKit
import Derived.OwnWalkIn
import Derived.TacticsInMore
import Derived.LoopNIn
import Derived.LoopIn
import Derived.Sort.QuietIn
import Derived.Test.YtlclmpegnkomcaaDoorProg
import Derived.Test.YtlclmpegnkomcaaDoorGh
set_option linter.all false
namespace Go.Proofs.YtlclmpegnkomcaaDoor
open Go.RowKit Go.Gv
attribute [local go_sem] Oper.semAt_some

theorem kpc_cell {W W' : World} {b : Nat} (h : W'.heap[b]? = W.heap[b]?) : W'.cell? ⟨b, 0, none⟩ = W.cell? ⟨b, 0, none⟩ := by unfold World.cell?; rw [h]
def chunkV (b off len k : Nat) : Value := .slice (some ⟨b, off + 3 * k, none⟩) (min 3 (len - 3 * k)) (min 3 (len - 3 * k))

theorem yieldStep {n : Nat} {P : Program} {o : Oper} {a : Act} {K : Act → World → Prop} {Q : Exit → Act → World → Prop} {v v' : Value} {l : Nat} {w w1 : World} {fn : FuncId} {tmps : Array Value} {assign body : Code} {R : Ending → World → Prop} (hv : v = v')
    (hy : (Instr.yield l #[v']).run P w = .ok (.round l fn tmps assign body) w1) (hR : RoundIn Fence.wide (n - 1) P l fn tmps assign body w1 R)
    (h : ∀ e W', R e W' → (match e with | .returned v => K (a.put o.dst v) W' | .panicked chain => Q (.panic chain) a W' | .outgrown => LetsOut Q)) : o.uponIn Fence.wide n P a K Q ((Instr.yield l #[v]).run P w) := by
  subst hv
  rw [hy, Oper.uponIn_round]
  exact ⟨fun h => by simp [Fence.wide] at h, hR.mono fun e W' he => by have := h e W' he; cases e <;> exact this⟩

set_option maxRecDepth 100000 in
set_option maxHeartbeats 2000000 in
theorem chunk1_in (n : Nat) (l Bs Bn b off len cap : Nat) (hlen : len ≤ 4611686018427387904) (hcap : len ≤ cap) (J Jx : Nat → World → Prop) (hJa : ∀ s A B, J s A → A.grownBy B none → J s B)
    (hY : ∀ k W, J k W → k < (len + 2) / 3 → YieldAt Fence.wide (n - 1) Tryd.prog l #[chunkV b off len k] W fun e W' =>
      (e = .returned (.bool true) ∧ J (k + 1) W' ∧ KpC Bs Bn W W') ∨ (e = .returned (.bool false) ∧ Jx (k + 1) W'))
    (W : World) (hBs : W.cell? ⟨Bs, 0, none⟩ = some (.slice (some ⟨b, off, none⟩) len cap)) (hBn : W.cell? ⟨Bn, 0, none⟩ = some (.int .i64 3)) (h0 : J 0 W) :
    CallsIn Fence.wide n Tryd.prog 60 #[.func (.yield l) #[] #[], .pointer (some ⟨Bs, 0, none⟩), .pointer (some ⟨Bn, 0, none⟩)] W fun e W' => (∃ v, e = .returned v) ∧
      (J ((len + 2) / 3) W' ∨ ∃ k, Jx k W') := by
  refine callsIn_of_wp Tryd.func60 rfl trivial ?_ rfl
  simp only [Tryd.ntmps60, List.size_toArray, List.length_cons, List.length_nil, Nat.reduceAdd, Nat.reduceSub, Array.replicate_succ, Array.replicate_zero, List.push_toArray, List.append_toArray, List.nil_append, List.cons_append]
  gi_wp2
  gi_loopw [4] (fun i wr => ∃ k : Nat, k ≤ (len + 2) / 3 ∧ i = .int .i64 (3 * k : Nat) ∧ J k wr ∧ KpC Bs Bn W wr)
    (fun i _ => len + 3 - (intOf i).toNat)
  case atStart => exact ⟨0, Nat.zero_le _, rfl, h0, ⟨rfl, rfl⟩⟩
  case round =>
    obtain ⟨k, hk, rfl, hJs, hnx⟩ := hrel
    have hs' := (kpc_cell hnx.1).trans hBs
    have hn' := (kpc_cell hnx.2).trans hBn
    by_cases hlt : 3 * k < len
    · gi_wp2
      gi_quiet (fail)
      have hq : ∀ m : Nat, wr.grownBy (wr.drewN m) none ∧ (∀ p, (wr.drewN m).cell? p = wr.cell? p) := fun m => ⟨⟨rfl, rfl, rfl, Nat.le_refl _, fun _ _ _ => rfl⟩, fun _ => rfl⟩
      generalize hwq : wr.drewN _ = wq
      obtain ⟨hg, hc⟩ : wr.grownBy wq none ∧ (∀ p, wq.cell? p = wr.cell? p) := by rw [← hwq]; exact hq _
      have hnx' : KpC Bs Bn W wq := by rw [← hwq]; exact hnx
      rw [← hc] at hs' hn'
      obtain ⟨fn, tmps, assign, body, hy, hR⟩ := hY k wq (hJa _ _ _ hJs hg) (by omega)
      gi_wp2
      all_goals refine yieldStep (v' := chunkV b off len k) (by unfold chunkV; congr 1 <;> omega) hy hR ?_
      all_goals rintro e W3 (⟨rfl, hJ3, hk3⟩ | ⟨rfl, hJx3⟩)
      · have hn3 : W3.cell? ⟨Bn, 0, none⟩ = some (.int .i64 3) := (kpc_cell hk3.2).trans hn'
        gi_wp2
        go_roundw
        case rel => exact ⟨k + 1, by omega, by simp; omega, hJ3, hnx'.trans hk3⟩
        case measure => simp [intOf]; omega
      · gi_wp2
        refine bodyPost_ret (results_none rfl _ _ _) rfl ?_
        exact ⟨⟨_, rfl⟩, .inr ⟨k + 1, hJx3⟩⟩
      · have hn3 : W3.cell? ⟨Bn, 0, none⟩ = some (.int .i64 3) := (kpc_cell hk3.2).trans hn'
        gi_wp2
        go_roundw
        case rel => exact ⟨k + 1, by omega, by simp; omega, hJ3, hnx'.trans hk3⟩
        case measure => simp [intOf]; omega
      · gi_wp2
        refine bodyPost_ret (results_none rfl _ _ _) rfl ?_
        exact ⟨⟨_, rfl⟩, .inr ⟨k + 1, hJx3⟩⟩
    · obtain rfl : k = (len + 2) / 3 := by omega
      gi_wp2
      go_end0
      exact ⟨⟨_, rfl⟩, .inl hJs⟩

set_option maxRecDepth 100000 in
set_option maxHeartbeats 2000000 in
theorem chunk1_nil (n : Nat) (l Bs Bn cap : Nat) (a : Option Addr) (J : Nat → World → Prop) (W : World) (hBs : W.cell? ⟨Bs, 0, none⟩ = some (.slice a 0 cap)) (h0 : J 0 W) :
    CallsIn Fence.wide n Tryd.prog 60 #[.func (.yield l) #[] #[], .pointer (some ⟨Bs, 0, none⟩), .pointer (some ⟨Bn, 0, none⟩)] W fun e W' => (∃ v, e = .returned v) ∧ J 0 W' := by
  refine callsIn_of_wp Tryd.func60 rfl trivial ?_ rfl
  simp only [Tryd.ntmps60, List.size_toArray, List.length_cons, List.length_nil, Nat.reduceAdd, Nat.reduceSub, Array.replicate_succ, Array.replicate_zero, List.push_toArray, List.append_toArray, List.nil_append, List.cons_append]
  gi_wp2
  gi_loopw [4] (fun i wr => i = .int .i64 0 ∧ J 0 wr ∧ wr = W) (fun _ _ => 0)
  case atStart => exact ⟨rfl, h0, rfl⟩
  case round =>
    obtain ⟨rfl, hJs, rfl⟩ := hrel
    gi_wp2
    go_end0
    exact ⟨⟨_, rfl⟩, hJs⟩

set_option maxHeartbeats 1000000 in
theorem chunk_call (a : Option Addr) (len cap : Nat) (w : World) :
    Calls Tryd.prog 41 #[.slice a len cap, .int .i64 3] w fun e w' => e = .returned (.func (.func 60) #[] #[.pointer (some ⟨w.heap.size, 0, none⟩), .pointer (some ⟨w.heap.size + 1, 0, none⟩)]) ∧ w' = (w.alloc (.cells #[.slice a len cap] 22)).alloc (.cells #[.int .i64 3] 3) := by
  refine (callsIn_wide (n := 3)).1 ?_
  refine callsIn_of_wp Tryd.func41 rfl trivial ?_ rfl
  simp only [Tryd.ntmps41, List.size_toArray, List.length_cons, List.length_nil, Nat.reduceAdd, Nat.reduceSub, Array.replicate_succ, Array.replicate_zero, List.push_toArray, List.append_toArray, List.nil_append, List.cons_append]
  gi_wp2
  go_ret
  exact ⟨rfl, rfl⟩

theorem chunk_ok (a : Option Addr) (cap : Nat) (xs : List UInt8) (w0 : World) :
    Calls Tryd.prog 41 #[.slice a (List.length xs) cap, .int .i64 3] w0 (Ret fun v w' => w0.grownBy w' none ∧ ∃ bs bn, v = tup [.func (.func 60) #[] #[.pointer (some ⟨bs, 0, none⟩), .pointer (some ⟨bn, 0, none⟩)]] ∧
      Box w' bs 22 #[.slice a (List.length xs) cap] ∧ Box w' bn 3 #[.int .i64 3] ∧ w0.heap.size ≤ bs ∧ w0.heap.size ≤ bn ∧ bs < bn) := by
  refine (chunk_call a (List.length xs) cap w0).mono ?_
  rintro e w' ⟨rfl, rfl⟩
  refine ⟨grown_trans (grown_alloc _ _) (grown_alloc _ _), _, _, rfl, ?_, ?_, Nat.le_refl _, Nat.le_succ _, Nat.lt_succ_self _⟩
  · exact (show Box (w0.alloc (.cells #[.slice a (List.length xs) cap] 22)) _ _ _ from heap_alloc_new w0 _).grown (grown_alloc _ _) (fun g e => by cases e)
  · have := heap_alloc_new (w0.alloc (.cells #[.slice a (List.length xs) cap] 22)) (.cells #[.int .i64 3] 3)
    rw [World.size_alloc] at this
    exact this

theorem chunk_stops {n : Nat} {a : Option Addr} {cap : Nat} {xs : List UInt8} {bs bn : Nat} {w : World} {X : Nat → Prop} (h1 : Box w bs 22 #[.slice a (List.length xs) cap]) (h2 : Box w bn 3 #[.int .i64 3]) (hr : Rd bE w X a cap xs) (hl : xs.length ≤ 4611686018427387904) :
    SeqStopsK Fence.wide n Tryd.prog 60 #[.pointer (some ⟨bs, 0, none⟩), .pointer (some ⟨bn, 0, none⟩)] (fun x : Fin ((xs.length + 2) / 3) => #[chunkL a xs x.1]) (KpC bs bn) (fun l => l = List.finRange ((xs.length + 2) / 3)) (fun _ => True) ((xs.length + 2) / 3) w := fun l J Jx W hW hJ hJx hY h0 => by
  have b1 : Box W bs 22 #[.slice a (List.length xs) cap] := (show W.heap[bs]? = _ from (hW.block bs h1.lt).trans h1)
  have b2 : Box W bn 3 #[.int .i64 3] := (show W.heap[bn]? = _ from (hW.block bn h2.lt).trans h2)
  have hfin : ∀ k (hk : k < (xs.length + 2) / 3), (List.finRange ((xs.length + 2) / 3)).take (k + 1) = (List.finRange ((xs.length + 2) / 3)).take k ++ [⟨k, hk⟩] := fun k hk => by
    rw [List.take_succ, List.getElem?_eq_getElem (by simpa using hk)]
    simp
  have hlast : (List.finRange ((xs.length + 2) / 3)).take ((xs.length + 2) / 3) = List.finRange ((xs.length + 2) / 3) := List.take_of_length_le (by simp)
  rcases Nat.eq_zero_or_pos xs.length with hz | hz
  · have hN : (xs.length + 2) / 3 = 0 := by omega
    have b1' : Box W bs 22 #[.slice a 0 cap] := by rw [← hz]; exact b1
    refine (chunk1_nil n l bs bn cap a (fun _ W => J [] W) W (b1'.cell 0 rfl) h0).mono ?_
    rintro e W' ⟨he, hj⟩
    refine ⟨he, .inl ⟨_, rfl, ?_⟩⟩
    have : List.finRange ((xs.length + 2) / 3) = [] := List.eq_nil_of_length_eq_zero (by simp [hN])
    rw [this]; exact hj
  · obtain ⟨b, off, c, ha, _⟩ := hr.2 0 _ (List.getElem?_eq_getElem hz)
    subst ha
    refine (chunk1_in n l bs bn b off xs.length cap hl hr.1 (fun k W => J ((List.finRange ((xs.length + 2) / 3)).take k) W) (fun k W => True ∧ ∃ pre, Jx pre W) (fun s A B hs hg => hJ _ _ _ none hs hg (fun r e => by cases e)) (fun k W1 hs hk => ?_) W (b1.cell 0 rfl) (b2.cell 0 rfl) (by simpa using h0)).mono ?_
    · have := hY _ ⟨k, hk⟩ W1 hs (by simp; omega)
      have e : chunkL (some ⟨b, off, none⟩) xs k = chunkV b off xs.length k := by
        unfold chunkL chunkV
        rw [chunk_len]
        simp only [Option.map_some, add_lit]
      have this : YieldAt Fence.wide (n - 1) Tryd.prog l #[chunkL (some ⟨b, off, none⟩) xs k] W1 _ := this
      rw [e] at this
      obtain ⟨f1, t1, a1, c1, y1, y2⟩ := this
      refine ⟨f1, t1, a1, c1, y1, y2.mono ?_⟩
      rintro e W' (⟨g1, g2, g3⟩ | ⟨g1, g2⟩)
      · exact .inl ⟨g1, by rw [hfin k hk]; exact g2, g3⟩
      · exact .inr ⟨g1, trivial, _, g2⟩
    · rintro e W' ⟨he, hj | ⟨k, _, pre, hj⟩⟩
      · exact ⟨he, .inl ⟨_, rfl, by rw [hlast] at hj; exact hj⟩⟩
      · exact ⟨he, .inr ⟨pre, trivial, hj⟩⟩
end Go.Proofs.YtlclmpegnkomcaaDoor
