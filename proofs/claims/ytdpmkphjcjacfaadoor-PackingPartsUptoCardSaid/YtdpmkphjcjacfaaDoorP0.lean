import Derived.Test.YtdpmkphjcjacfaaDoorRows
import Derived.Test.YtdpmkphjcjacfaaDoorGh
import Derived.Test.YtdpmkphjcjacfaaDoorD
import Derived.Test.YtdpmkphjcjacfaaDoorSt
set_option linter.all false
set_option maxHeartbeats 4000000
set_option maxRecDepth 100000
/- Own work, printed by a program of mine: the walk of each function: a call returns what the plain function says. -/
namespace Go.Proofs.YtdpmkphjcjacfaaDoor
open Go.Gv Go.Gv.D Go.RowKit
open List (length)
theorem nl {a b : Nat} (h : a ≤ b) : ¬ b < a := Nat.not_lt_of_le h
theorem sj {α : Type _} {a b : α} (h : some a = some b) : a = b := Option.some.inj h
theorem ng {a b : Nat} (h : b < a) : a ≠ b := Nat.ne_of_gt h
theorem ltl {a b c : Nat} (h : a < b) (h' : b ≤ c) : a < c := Nat.lt_of_lt_of_le h h'
theorem ltt {a b c : Nat} (h : a < b) (h' : b < c) : a < c := Nat.lt_trans h h'
section
variable {P : Program} {R : RR} {n : Nat} {k : List It} {σ σ' : List (Nat × Value)} {w : World} {all : Array Oper} {C : World → Prop}
theorem pN (c : Nat) (ds : List Nat) (news : List (Nat × Value)) {l : List (Oper × Mk)} (h : Run P R n (.ops all C (drops c l) :: k) .normal (nw news ds σ) w) (hp : (match stepsP false P n all c l σ with | some σ1 => picks ((nw news ds σ).map (·.1)) σ1 | none => none) = some (nw news ds σ) := by kernel_rfl) : Run P R n (.ops all C l :: k) .normal σ w := gv_pureN c ds news hp h
theorem okp (ss : List Nat) {t : Array Value} (h : Ok σ t) (hp : picks ss σ = some σ' := by kernel_rfl) : Ok σ' t := ok_pick ss h hp
theorem nrf {a : Nat} : a ≤ a := Nat.le_refl a
end
open List (length)
theorem enters6 : Go.Gv.Enters Tryd.prog 6 := ⟨Tryd.f6, Tryd.func6, by kernel_rfl, by kernel_rfl⟩
theorem enters7 : Go.Gv.Enters Tryd.prog 7 := ⟨Tryd.f7, Tryd.func7, by kernel_rfl, by kernel_rfl⟩
theorem enters8 : Go.Gv.Enters Tryd.prog 8 := ⟨Tryd.f8, Tryd.func8, by kernel_rfl, by kernel_rfl⟩
theorem enters9 : Go.Gv.Enters Tryd.prog 9 := ⟨Tryd.f9, Tryd.func9, by kernel_rfl, by kernel_rfl⟩
theorem enters10 : Go.Gv.Enters Tryd.prog 10 := ⟨Tryd.f10, Tryd.func10, by kernel_rfl, by kernel_rfl⟩
theorem enters15 : Go.Gv.Enters Tryd.prog 15 := ⟨Tryd.f15, Tryd.func15, by kernel_rfl, by kernel_rfl⟩
theorem enters17 : Go.Gv.Enters Tryd.prog 17 := ⟨Tryd.f17, Tryd.func17, by kernel_rfl, by kernel_rfl⟩
theorem enters18 : Go.Gv.Enters Tryd.prog 18 := ⟨Tryd.f18, Tryd.func18, by kernel_rfl, by kernel_rfl⟩
theorem enters20 : Go.Gv.Enters Tryd.prog 20 := ⟨Tryd.f20, Tryd.func20, by kernel_rfl, by kernel_rfl⟩
theorem enters21 : Go.Gv.Enters Tryd.prog 21 := ⟨Tryd.f21, Tryd.func21, by kernel_rfl, by kernel_rfl⟩
theorem enters22 : Go.Gv.Enters Tryd.prog 22 := ⟨Tryd.f22, Tryd.func22, by kernel_rfl, by kernel_rfl⟩
theorem enters23 : Go.Gv.Enters Tryd.prog 23 := ⟨Tryd.f23, Tryd.func23, by kernel_rfl, by kernel_rfl⟩
theorem enters24 : Go.Gv.Enters Tryd.prog 24 := ⟨Tryd.f24, Tryd.func24, by kernel_rfl, by kernel_rfl⟩
theorem enters25 : Go.Gv.Enters Tryd.prog 25 := ⟨Tryd.f25, Tryd.func25, by kernel_rfl, by kernel_rfl⟩
theorem enters26 : Go.Gv.Enters Tryd.prog 26 := ⟨Tryd.f26, Tryd.func26, by kernel_rfl, by kernel_rfl⟩
theorem enters27 : Go.Gv.Enters Tryd.prog 27 := ⟨Tryd.f27, Tryd.func27, by kernel_rfl, by kernel_rfl⟩
theorem enters28 : Go.Gv.Enters Tryd.prog 28 := ⟨Tryd.f28, Tryd.func28, by kernel_rfl, by kernel_rfl⟩
theorem enters29 : Go.Gv.Enters Tryd.prog 29 := ⟨Tryd.f29, Tryd.func29, by kernel_rfl, by kernel_rfl⟩
theorem enters33 : Go.Gv.Enters Tryd.prog 33 := ⟨Tryd.f33, Tryd.func33, by kernel_rfl, by kernel_rfl⟩
theorem enters34 : Go.Gv.Enters Tryd.prog 34 := ⟨Tryd.f34, Tryd.func34, by kernel_rfl, by kernel_rfl⟩
theorem enters35 : Go.Gv.Enters Tryd.prog 35 := ⟨Tryd.f35, Tryd.func35, by kernel_rfl, by kernel_rfl⟩
theorem enters36 : Go.Gv.Enters Tryd.prog 36 := ⟨Tryd.f36, Tryd.func36, by kernel_rfl, by kernel_rfl⟩
theorem enters37 : Go.Gv.Enters Tryd.prog 37 := ⟨Tryd.f37, Tryd.func37, by kernel_rfl, by kernel_rfl⟩
theorem enters38 : Go.Gv.Enters Tryd.prog 38 := ⟨Tryd.f38, Tryd.func38, by kernel_rfl, by kernel_rfl⟩
theorem enters39 : Go.Gv.Enters Tryd.prog 39 := ⟨Tryd.f39, Tryd.func39, by kernel_rfl, by kernel_rfl⟩
theorem enters40 : Go.Gv.Enters Tryd.prog 40 := ⟨Tryd.f40, Tryd.func40, by kernel_rfl, by kernel_rfl⟩
theorem enters41 : Go.Gv.Enters Tryd.prog 41 := ⟨Tryd.f41, Tryd.func41, by kernel_rfl, by kernel_rfl⟩
theorem enters42 : Go.Gv.Enters Tryd.prog 42 := ⟨Tryd.f42, Tryd.func42, by kernel_rfl, by kernel_rfl⟩
theorem enters43 : Go.Gv.Enters Tryd.prog 43 := ⟨Tryd.f43, Tryd.func43, by kernel_rfl, by kernel_rfl⟩
theorem enters44 : Go.Gv.Enters Tryd.prog 44 := ⟨Tryd.f44, Tryd.func44, by kernel_rfl, by kernel_rfl⟩
theorem enters45 : Go.Gv.Enters Tryd.prog 45 := ⟨Tryd.f45, Tryd.func45, by kernel_rfl, by kernel_rfl⟩
theorem enters46 : Go.Gv.Enters Tryd.prog 46 := ⟨Tryd.f46, Tryd.func46, by kernel_rfl, by kernel_rfl⟩
theorem enters47 : Go.Gv.Enters Tryd.prog 47 := ⟨Tryd.f47, Tryd.func47, by kernel_rfl, by kernel_rfl⟩
theorem enters48 : Go.Gv.Enters Tryd.prog 48 := ⟨Tryd.f48, Tryd.func48, by kernel_rfl, by kernel_rfl⟩
theorem enters56 : Go.Gv.Enters Tryd.prog 56 := ⟨Tryd.f56, Tryd.func56, by kernel_rfl, by kernel_rfl⟩
theorem enters57 : Go.Gv.Enters Tryd.prog 57 := ⟨Tryd.f57, Tryd.func57, by kernel_rfl, by kernel_rfl⟩
theorem enters61 : Go.Gv.Enters Tryd.prog 61 := ⟨Tryd.f61, Tryd.func61, by kernel_rfl, by kernel_rfl⟩
theorem native55 : Go.Gv.Native Tryd.prog 55 Extern.BytealgIndexByte.indexByte := ⟨Tryd.f55, Tryd.func55, by kernel_rfl, by kernel_rfl, by kernel_rfl, by kernel_rfl⟩
theorem info5 : InfoOk Tryd.prog 5 1 := infoOk (z := (.int .u8 0)) (bytes := 1) (by kernel_rfl) (by kernel_rfl) (by kernel_rfl) (by kernel_rfl)
theorem info31 : InfoOk Tryd.prog 31 3 := infoOk (z := (.agg #[(.int .u8 0), (.int .i64 0), (.bool false)])) (bytes := 24) (by kernel_rfl) (by kernel_rfl) (by kernel_rfl) (by kernel_rfl)
theorem info48 : InfoOk Tryd.prog 48 7 := infoOk (z := (.agg #[(.int .i64 0), (.bool false), (.slice none 0 0), (.bool false), (.slice none 0 0), (.string ⟨#[]⟩), (.int .i64 0)])) (bytes := 96) (by kernel_rfl) (by kernel_rfl) (by kernel_rfl) (by kernel_rfl)

theorem packing_at_ok (fuel : Nat) (code_0 : Int) (index_1 : Int) (w0 : World)  (r0 : (Int × Int)) (h0 : packing_at fuel code_0 index_1 = some r0) :
    Calls Tryd.prog 21 ([(.int .i64 code_0), (.int .i64 index_1)] : List Value).toArray w0 (Ret fun v w' => w0.grownBy w' none ∧ v = tup [(.agg #[(.int .i64 r0.1), (.int .i64 r0.2)])]) := by
 have hB0 : Below w0.heap.size w0 w0 := Below.refl _ _
 unfold packing_at at h0
 refine calls_run Tryd.func21 rfl Tryd.ntmps21 (by kernel_rfl) ?_
 refine gv_sub [0, 1] (σ' := [(0, (.int .i64 code_0)), (1, (.int .i64 index_1))]) (by kernel_rfl) ?_
 refine gv_seq <| gv_region <| gv_new0 (fun b => .pointer (some ⟨b, 0, none⟩)) #[(.int .i64 0), (.int .i64 0)] 26 (by kernel_rfl) (by kernel_rfl) ?_
 intro b1 w2 hg3 hb4 hbe5 hz6
 refine gv_nil <| gv_seq <| gv_region <| pN 3 [5, 6, 7] [(7, (.agg #[(.int .i64 code_0), (.int .i64 index_1)]))] ?_
 refine gv_store0 26 0 (.agg #[(.int .i64 code_0), (.int .i64 index_1)]) #[(.int .i64 code_0), (.int .i64 index_1)] hb4 (by kernel_rfl) (by kernel_rfl) (by kernel_rfl) ?_
 intro w7 hg8 hb9 hz10
 refine gv_nil <| gv_cret ?_
 have e := sj h0; subst e
 refine gv_ret (gv_done [(.agg #[(.int .i64 code_0), (.int .i64 index_1)])] rfl ⟨⟨⟨b1, 0, none⟩, (by kernel_rfl), run_loadVar_row w7 b1 _ 26 _ _ _ hb9 Tryd.underlying26 rfl (by kernel_rfl)⟩, trivial⟩ ?_)
 have hB11 := bg hB0 hg3 nb
 have hlo12 : w0.heap.size ≤ b1 := lob hbe5 hB0.size
 have hB13 := bg hB11 hg8 (rowlo hlo12)
 exact ⟨grown_of_below hB13, rfl⟩

theorem stringslite_IndexByte_ok (fuel : Nat) (s_0 : ByteArray) (c_1 : Int) (w0 : World)  (r0 : Int) (h0 : stringslite_IndexByte fuel s_0 c_1 = some r0) :
    Calls Tryd.prog 43 ([(.string s_0), (.int .u8 c_1)] : List Value).toArray w0 (Ret fun v w' => w0.grownBy w' none ∧ v = tup [(.int .i64 r0)]) := by
 have hB0 : Below w0.heap.size w0 w0 := Below.refl _ _
 unfold stringslite_IndexByte at h0
 refine calls_run Tryd.func43 rfl Tryd.ntmps43 (by kernel_rfl) ?_
 refine gv_sub [0, 1] (σ' := [(0, (.string s_0)), (1, (.int .u8 c_1))]) (by kernel_rfl) ?_
 refine gv_seq <| gv_region <| pN 1 [4] [] ?_
 refine gv_nil <| gv_seq <| gv_region <| pN 2 [5, 6] [(5, (.string s_0)), (6, (.int .u8 c_1))] ?_
 refine gv_nat (f := 55) (vs := [(.string s_0), (.int .u8 c_1)]) (.int .i64 (nIdxB (bytesOf s_0) c_1)) [] (fun e => by cases e) rfl rfl rfl (by kernel_rfl) rfl (by kernel_rfl) (by kernel_rfl) native55 (fun w' _ => nat_idxS _ _ w') rfl ?_
 refine pN 1 [4] [(4, (.int .i64 (nIdxB (bytesOf s_0) c_1)))] ?_
 refine gv_nil <| gv_cret ?_
 have e := sj h0; subst e
 refine gv_ret (gv_done [(.int .i64 (nIdxB (bytesOf s_0) c_1))] rfl ⟨(by kernel_rfl), trivial⟩ ?_)
 exact ⟨grown_of_below hB0, rfl⟩

theorem strings_IndexByte_ok (fuel : Nat) (s_0 : ByteArray) (c_1 : Int) (w0 : World)  (r0 : Int) (h0 : strings_IndexByte fuel s_0 c_1 = some r0) :
    Calls Tryd.prog 27 ([(.string s_0), (.int .u8 c_1)] : List Value).toArray w0 (Ret fun v w' => w0.grownBy w' none ∧ v = tup [(.int .i64 r0)]) := by
 have hB0 : Below w0.heap.size w0 w0 := Below.refl _ _
 unfold strings_IndexByte at h0
 refine calls_run Tryd.func27 rfl Tryd.ntmps27 (by kernel_rfl) ?_
 refine gv_sub [0, 1] (σ' := [(0, (.string s_0)), (1, (.int .u8 c_1))]) (by kernel_rfl) ?_
 refine gv_seq <| gv_region <| pN 1 [4] [] ?_
 refine gv_nil <| gv_seq <| gv_region <| pN 2 [5, 6] [(5, (.string s_0)), (6, (.int .u8 c_1))] ?_
 refine bindE h0 ?_; clear h0; intro r1 hr2 h0
 refine gv_call0 (by kernel_rfl) rfl (by kernel_rfl) enters43 (stringslite_IndexByte_ok fuel s_0 c_1 w0  r1 hr2) ?_
 rintro v5 w3 ⟨hg4, rfl⟩
 refine pN 1 [4] [(4, (.int .i64 r1))] ?_
 refine gv_nil <| gv_cret ?_
 have e := sj h0; subst e
 refine gv_ret (gv_done [(.int .i64 r1)] rfl ⟨(by kernel_rfl), trivial⟩ ?_)
 have hB6 := bg hB0 hg4 nb
 exact ⟨grown_of_below hB6, rfl⟩

theorem packing_counted_ok (fuel : Nat) (code_0 : Int) (w0 : World)  (r0 : Bool) (h0 : packing_counted fuel code_0 = some r0) :
    Calls Tryd.prog 28 ([(.int .u8 code_0)] : List Value).toArray w0 (Ret fun v w' => w0.grownBy w' none ∧ v = tup [(.bool r0)]) := by
 have hB0 : Below w0.heap.size w0 w0 := Below.refl _ _
 unfold packing_counted at h0
 refine calls_run Tryd.func28 rfl Tryd.ntmps28 (by kernel_rfl) ?_
 refine gv_sub [0] (σ' := [(0, (.int .u8 code_0))]) (by kernel_rfl) ?_
 refine gv_seq <| gv_region <| pN 1 [2] [] ?_
 refine gv_nil <| gv_seq <| gv_region <| gv_cut_ops (J := fun a w1 => w0 = w1 ∧ a.defers = [] ∧ a.tmps.size = 9 ∧ Ok [(2, (.bool ((code_0 == 115) || (code_0 == 120))))] a.tmps) ?_ ?_
 ·skip
  refine pN 3 [3, 4, 5] [(5, (.bool (code_0 == 115)))] ?_
  refine gv_split (s := 5) (g := (code_0 == 115)) (by kernel_rfl) (fun hc2 => ?_) (fun hc2 => ?_)
  ·skip
   refine pN 4 [2, 6, 7, 8] [(2, (.bool true))] ?_
   refine gv_nil <| gv_sub [2] (σ' := [(2, (.bool true))]) (by kernel_rfl) ?_
   refine gv_goal fun a hd hs hok => ⟨rfl, hd, hs, ?_⟩
   obtain ⟨q2, _⟩ := hok
   exact ⟨(by rw [hc2]; exact q2), trivial⟩
  ·skip
   refine pN 4 [2, 6, 7, 8] [(2, (.bool (code_0 == 120)))] ?_
   refine gv_nil <| gv_sub [2] (σ' := [(2, (.bool (code_0 == 120)))]) (by kernel_rfl) ?_
   refine gv_goal fun a hd hs hok => ⟨rfl, hd, hs, ?_⟩
   obtain ⟨q2, _⟩ := hok
   exact ⟨(by rw [hc2]; exact q2), trivial⟩
 ·rintro a w1 ⟨e, hd, hs, hok⟩; subst e
  refine gv_in ?_ hd hs hok
  clear hd hs hok
  refine gv_cret ?_
  have e := sj h0; subst e
  refine gv_ret (gv_done [(.bool ((code_0 == 115) || (code_0 == 120)))] rfl ⟨(by kernel_rfl), trivial⟩ ?_)
  exact ⟨grown_of_below hB0, rfl⟩

theorem packing_Check_ok (fuel : Nat) (pa0_0 : Option Addr) (pc0_0 : Nat) (l_0 : (List (Int × Int × Bool))) (w0 : World) (X0 : Nat → Prop) (hX0 : ∀ k, X0 k → k < w0.heap.size) (hpa0_0 : Rd (prE (iE .u8) (prE (iE .i64) tE)) w0 X0 pa0_0 pc0_0 l_0) (r0 : (Int × Int)) (h0 : packing_Check fuel l_0 = some r0) :
    Calls Tryd.prog 15 ([(.slice pa0_0 (length l_0) pc0_0)] : List Value).toArray w0 (Ret fun v w' => w0.grownBy w' none ∧ v = tup [(.agg #[(.int .i64 r0.1), (.int .i64 r0.2)])]) := by
 have hB0 : Below w0.heap.size w0 w0 := Below.refl _ _
 unfold packing_Check at h0
 refine calls_run Tryd.func15 rfl Tryd.ntmps15 (by kernel_rfl) ?_
 refine gv_sub [0] (σ' := [(0, (.slice pa0_0 (length l_0) pc0_0))]) (by kernel_rfl) ?_
 refine gv_seq <| gv_region <| gv_new0 (fun b => .pointer (some ⟨b, 0, none⟩)) #[(.int .i64 0), (.int .i64 0)] 26 (by kernel_rfl) (by kernel_rfl) ?_
 intro b1 w2 hg3 hb4 hbe5 hz6
 refine gv_nil <| gv_seq <| gv_seq <| gv_region <| pN 3 [5, 6, 7] [(7, (.bool (decide (((length l_0 : Nat) : Int) > 100))))] ?_
 refine gv_nil <| gv_cond (b := (decide (((length l_0 : Nat) : Int) > 100))) (by kernel_rfl) (fun hc7 => ?_) (fun hc7 => ?_)
 ·replace h0 := ite_t hc7 h0
  refine gv_seq <| gv_region <| bindE h0 ?_; clear h0; intro r8 hr9 h0
  refine gv_call0 (by kernel_rfl) rfl (by kernel_rfl) enters21 (packing_at_ok fuel 2 (-1) w2  r8 hr9) ?_
  rintro v12 w10 ⟨hg11, rfl⟩
  have hk17 := hb4.grown hg11 nb
  refine gv_store0 26 0 (.agg #[(.int .i64 r8.1), (.int .i64 r8.2)]) #[(.int .i64 r8.1), (.int .i64 r8.2)] hk17 (by kernel_rfl) (by kernel_rfl) (by kernel_rfl) ?_
  intro w13 hg14 hb15 hz16
  refine gv_nil <| gv_cret ?_
  have e := sj h0; subst e
  refine gv_ret (gv_done [(.agg #[(.int .i64 r8.1), (.int .i64 r8.2)])] rfl ⟨⟨⟨b1, 0, none⟩, (by kernel_rfl), run_loadVar_row w13 b1 _ 26 _ _ _ hb15 Tryd.underlying26 rfl (by kernel_rfl)⟩, trivial⟩ ?_)
  have hg18 := (grown_trans hg3 hg11)
  have hB19 := bg hB0 hg18 nb
  have hlo20 : w0.heap.size ≤ b1 := lob hbe5 hB0.size
  have hB21 := bg hB19 hg14 (rowlo hlo20)
  exact ⟨grown_of_below hB21, rfl⟩
 ·replace h0 := ite_f hc7 h0
  refine gv_skip <| gv_seq <| gv_seq <| gv_region <| pN 3 [9, 10, 11] [(9, (.slice pa0_0 (length l_0) pc0_0)), (10, (.int .i64 ((length l_0 : Nat) : Int))), (11, (.int .i64 0))] ?_
  refine gv_nil <| bindE h0 ?_; clear h0; intro j22 h1 h0
  refine gv_cut_code (J := fun a w24 => ∃ s23 : (Int × Int), j22 = .inl s23 ∧ Below w0.heap.size w0 w24 ∧ w2.heap.size ≤ w24.heap.size ∧ Box w24 b1 26 #[(.int .i64 s23.1), (.int .i64 s23.2)] ∧ a.defers = [] ∧ a.tmps.size = 65 ∧ Ok [(2, (bp b1))] a.tmps) ?_ ?_
  ·skip
   refine gv_block <| gv_loop (A := fun (s25 : (Int × (Int × Int))) a w26 => Below w0.heap.size w0 w26 ∧ w2.heap.size ≤ w26.heap.size ∧ Box w26 b1 26 #[(.int .i64 s25.2.1), (.int .i64 s25.2.2)] ∧ a.defers = [] ∧ a.tmps.size = 65 ∧ Ok [(0, (.slice pa0_0 (length l_0) pc0_0)), (2, (bp b1)), (9, (.slice pa0_0 (length l_0) pc0_0)), (10, (.int .i64 ((length l_0 : Nat) : Int))), (11, (.int .i64 s25.1))] a.tmps) h1 ?_ ?_
   ·intro a hd hs hok
    have hB27 := bg hB0 hg3 nb
    exact ⟨hB27, nrf, hb4, hd, hs, okp [0, 2, 9, 10, 11] hok⟩
   ·rintro s25 r2 h2 hR2 a w26 ⟨hB28, hz29, hb30, hd, hs, hok⟩
    refine gv_in ?_ hd hs hok
    clear hd hs hok
    clear hc7 hz6 hb4 hg3
    refine gv_seq <| gv_region <| pN 1 [12] [(12, (.bool (decide (s25.1 < ((length l_0 : Nat) : Int)))))] ?_
    refine gv_nil <| gv_seq <| gv_cond (b := (decide (s25.1 < ((length l_0 : Nat) : Int)))) (by kernel_rfl) (fun hc31 => ?_) (fun hc31 => ?_)
    ·replace h2 := ite_t hc31 h2
     refine gv_skip <| gv_seq <| gv_block <| gv_seq <| gv_region <| pN 1 [13] [(13, (.int .i64 s25.1))] ?_
     refine bindE h2 ?_; clear h2; intro x32 hx33 h2
     refine gv_idxaddr (t := 22) (e := 31) (a := pa0_0) (len := length l_0) (cap := pc0_0) (kk := .i64) (i := s25.1) (sz := 3) [] (fun e => by cases e) rfl rfl rfl (by kernel_rfl) (by kernel_rfl) Tryd.underlying22 (by kernel_rfl) ((hpa0_0.below hB28 hX0).has hx33) (idx_spec hx33).1 (idx_spec hx33).2.1 rfl ?_
     obtain ⟨_, ⟨_, _, rfl, rfl, ⟨_, _, rfl, rfl, rfl⟩⟩, hc34⟩ := hpa0_0.cellsK hx33
     refine gv_loadAgg (t := 31) (A := (elemAddr pa0_0 ((s25.1 : Int).toNat * 3))) #[(.int .u8 x32.1), (.int .i64 x32.2.1), (.bool x32.2.2)] [] (fun e => by cases e) rfl rfl rfl (by kernel_rfl) (by kernel_rfl) (by kernel_rfl) (by kernel_rfl) (inw0 (hc34 w26 (fun k hk => hB28.block k (hX0 k hk)))) rfl ?_
     refine gv_new0 (fun b => .pointer (some ⟨b, 0, none⟩)) #[(.int .u8 0), (.int .i64 0), (.bool false)] 31 (by kernel_rfl) (by kernel_rfl) ?_
     intro b35 w36 hg37 hb38 hbe39 hz40
     refine pN 1 [3] [(3, (.int .i64 s25.1))] ?_
     refine gv_store0 31 0 (.agg #[(.int .u8 x32.1), (.int .i64 x32.2.1), (.bool x32.2.2)]) #[(.int .u8 x32.1), (.int .i64 x32.2.1), (.bool x32.2.2)] hb38 (by kernel_rfl) (by kernel_rfl) (by kernel_rfl) ?_
     intro w41 hg42 hb43 hz44
     refine gv_nil <| gv_block <| gv_seq <| gv_region <| bindE h2 ?_; clear h2; intro j45 h3 h2
     refine gv_cut_ops (J := fun a w46 => Below w0.heap.size w0 w46 ∧ w41.heap.size ≤ w46.heap.size ∧ Box w46 b1 26 #[(.int .i64 s25.2.1), (.int .i64 s25.2.2)] ∧ Box w46 b35 31 #[(.int .u8 x32.1), (.int .i64 x32.2.1), (.bool x32.2.2)] ∧ a.defers = [] ∧ a.tmps.size = 65 ∧ Ok [(0, (.slice pa0_0 (length l_0) pc0_0)), (2, (bp b1)), (3, (.int .i64 s25.1)), (4, (bp b35)), (9, (.slice pa0_0 (length l_0) pc0_0)), (10, (.int .i64 ((length l_0 : Nat) : Int))), (11, (.int .i64 s25.1)), (16, (.bool j45))] a.tmps) ?_ ?_
     ·skip
      refine pN 1 [17] [(17, (bp b35))] ?_
      refine gv_load (t := 5) (A := ⟨b35, 0, none⟩) (.int .u8 x32.1) [] (fun e => by cases e) rfl rfl rfl (by kernel_rfl) (by kernel_rfl) (by kernel_rfl) (inw0 (hb43.cell 0 rfl)) rfl ?_
      refine pN 2 [19, 20] [(20, (.bool (x32.1 == 0)))] ?_
      refine gv_split (s := 20) (g := (x32.1 == 0)) (by kernel_rfl) (fun hc47 => ?_) (fun hc47 => ?_)
      ·skip
       replace h3 := ite_t hc47 h3
       refine pN 6 [16, 21, 22, 23, 24, 25] [(16, (.bool true))] ?_
       refine gv_nil ?_
       have e := sj h3; subst e
       refine gv_goal fun a hd hs hok => ?_
       have hB48 := bg hB28 hg37 nb
       have hlo49 : w0.heap.size ≤ b35 := lob hbe39 hB28.size
       have hB50 := bg hB48 hg42 (rowlo hlo49)
       have lt51 := ltl ((ltb hb30) _ rfl) ((lowb hbe39) _ rfl)
       have hk52 := (hb30.grown hg37 nb).grown hg42 (rowne (ng lt51))
       exact ⟨hB50, nrf, hk52, hb43, hd, hs, okp [0, 2, 3, 4, 9, 10, 11, 16] hok⟩
      ·skip
       replace h3 := ite_f hc47 h3
       refine pN 1 [21] [(21, (bp b35))] ?_
       refine gv_load (t := 5) (A := ⟨b35, 0, none⟩) (.int .u8 x32.1) [] (fun e => by cases e) rfl rfl rfl (by kernel_rfl) (by kernel_rfl) (by kernel_rfl) (inw0 (hb43.cell 0 rfl)) rfl ?_
       refine bindE h3 ?_; clear h3; intro r53 hr54 h3
       refine gv_call0 (by kernel_rfl) rfl (by kernel_rfl) enters27 (strings_IndexByte_ok fuel (strOf [98, 66, 104, 72, 105, 73, 113, 81, 118, 115, 112, 120, 63]) x32.1 w41  r53 hr54) ?_
       rintro v57 w55 ⟨hg56, rfl⟩
       refine pN 3 [16, 24, 25] [(16, (.bool (decide (r53 < 0))))] ?_
       refine gv_sub [0, 2, 3, 4, 9, 10, 11, 16] (σ' := [(0, (.slice pa0_0 (length l_0) pc0_0)), (2, (bp b1)), (3, (.int .i64 s25.1)), (4, (bp b35)), (9, (.slice pa0_0 (length l_0) pc0_0)), (10, (.int .i64 ((length l_0 : Nat) : Int))), (11, (.int .i64 s25.1)), (16, (.bool (decide (r53 < 0))))]) (by kernel_rfl) ?_
       refine gv_nil ?_
       have e := sj h3; subst e
       refine gv_goal fun a hd hs hok => ?_
       have hB58 := bg hB28 hg37 nb
       have hlo59 : w0.heap.size ≤ b35 := lob hbe39 hB28.size
       have hB60 := bg hB58 hg42 (rowlo hlo59)
       have hB61 := bg hB60 hg56 nb
       have hz62 := hg56.size
       have lt63 := ltl ((ltb hb30) _ rfl) ((lowb hbe39) _ rfl)
       have hk64 := ((hb30.grown hg37 nb).grown hg42 (rowne (ng lt63))).grown hg56 nb
       have hk65 := hb43.grown hg56 nb
       exact ⟨hB61, hz62, hk64, hk65, hd, hs, okp [0, 2, 3, 4, 9, 10, 11, 16] hok⟩
     ·rintro a w46 ⟨hB66, hz67, hb68, hb69, hd, hs, hok⟩
      refine gv_in ?_ hd hs hok
      clear hd hs hok
      have hz70 := (nt (nt (nt hz29 hg37.size) hg42.size) hz67)
      clear hz67 hz44 hb43 hg42 hz40 hb38 hg37 hc34 hx33 hc31 hz29
      refine gv_cond (b := j45) (by kernel_rfl) (fun hc71 => ?_) (fun hc71 => ?_)
      ·replace h2 := ite_t hc71 h2
       refine gv_seq <| gv_region <| pN 1 [26] [(26, (.int .i64 s25.1))] ?_
       refine bindE h2 ?_; clear h2; intro r72 hr73 h2
       refine gv_call0 (by kernel_rfl) rfl (by kernel_rfl) enters21 (packing_at_ok fuel 5 s25.1 w46  r72 hr73) ?_
       rintro v76 w74 ⟨hg75, rfl⟩
       have hk81 := hb68.grown hg75 nb
       refine gv_store0 26 0 (.agg #[(.int .i64 r72.1), (.int .i64 r72.2)]) #[(.int .i64 r72.1), (.int .i64 r72.2)] hk81 (by kernel_rfl) (by kernel_rfl) (by kernel_rfl) ?_
       intro w77 hg78 hb79 hz80
       have hz82 := (nt (nt hz70 hg75.size) hg78.size)
       clear hz80 hk81 hr73 hc71 hz70 hb69 hb68 hbe39 hb30 hB28
       refine gv_nil <| gv_cret ?_
       have e := sj h2; subst e
       replace h1 := congrArg some (hR2 _ rfl)
       have e := sj h1; subst e
       replace h0 := cont_inr h0
       have e := sj h0; subst e
       refine gv_ret (gv_done [(.agg #[(.int .i64 r72.1), (.int .i64 r72.2)])] rfl ⟨⟨⟨b1, 0, none⟩, (by kernel_rfl), run_loadVar_row w77 b1 _ 26 _ _ _ hb79 Tryd.underlying26 rfl (by kernel_rfl)⟩, trivial⟩ ?_)
       have hB83 := bg hB66 hg75 nb
       have hlo84 : w0.heap.size ≤ b1 := lob hbe5 hB0.size
       have hB85 := bg hB83 hg78 (rowlo hlo84)
       exact ⟨grown_of_below hB85, rfl⟩
      ·replace h2 := ite_f hc71 h2
       refine gv_seq <| gv_seq <| gv_region <| bindE h2 ?_; clear h2; intro j86 h3 h2
       refine gv_cut_ops (J := fun a w87 => Below w0.heap.size w0 w87 ∧ w46.heap.size ≤ w87.heap.size ∧ Box w87 b1 26 #[(.int .i64 s25.2.1), (.int .i64 s25.2.2)] ∧ Box w87 b35 31 #[(.int .u8 x32.1), (.int .i64 x32.2.1), (.bool x32.2.2)] ∧ a.defers = [] ∧ a.tmps.size = 65 ∧ Ok [(0, (.slice pa0_0 (length l_0) pc0_0)), (2, (bp b1)), (3, (.int .i64 s25.1)), (4, (bp b35)), (9, (.slice pa0_0 (length l_0) pc0_0)), (10, (.int .i64 ((length l_0 : Nat) : Int))), (11, (.int .i64 s25.1)), (28, (.bool j86))] a.tmps) ?_ ?_
       ·skip
        refine pN 1 [29] [(29, (bp b35))] ?_
        refine gv_load (t := 5) (A := ⟨b35, 0, none⟩) (.int .u8 x32.1) [] (fun e => by cases e) rfl rfl rfl (by kernel_rfl) (by kernel_rfl) (by kernel_rfl) (inw0 (hb69.cell 0 rfl)) rfl ?_
        refine bindE h3 ?_; clear h3; intro r88 hr89 h3
        refine gv_call0 (by kernel_rfl) rfl (by kernel_rfl) enters28 (packing_counted_ok fuel x32.1 w46  r88 hr89) ?_
        rintro v92 w90 ⟨hg91, rfl⟩
        refine pN 1 [32] [(32, (.bool r88))] ?_
        refine gv_split (s := 32) (g := r88) (by kernel_rfl) (fun hc93 => ?_) (fun hc93 => ?_)
        ·skip
         replace h3 := ite_t hc93 h3
         refine pN 1 [33] [(33, (.pointer (some ⟨b35, 1, none⟩)))] ?_
         have hk94 := hb69.grown hg91 nb
         refine gv_load (t := 3) (A := ⟨b35, 1, none⟩) (.int .i64 x32.2.1) [] (fun e => by cases e) rfl rfl rfl (by kernel_rfl) (by kernel_rfl) (by kernel_rfl) (inw0 (hk94.cell 1 rfl)) rfl ?_
         refine pN 2 [35, 36] [(36, (.bool (decide (x32.2.1 < 0))))] ?_
         refine gv_split (s := 36) (g := (decide (x32.2.1 < 0))) (by kernel_rfl) (fun hc95 => ?_) (fun hc95 => ?_)
         ·skip
          replace h3 := ite_t hc95 h3
          refine pN 6 [28, 37, 38, 39, 40, 41] [(28, (.bool true))] ?_
          refine gv_nil ?_
          have e := sj h3; subst e
          refine gv_goal fun a hd hs hok => ?_
          have hB96 := bg hB66 hg91 nb
          have hz97 := hg91.size
          have hk98 := hb68.grown hg91 nb
          exact ⟨hB96, hz97, hk98, hk94, hd, hs, okp [0, 2, 3, 4, 9, 10, 11, 28] hok⟩
         ·skip
          replace h3 := ite_f hc95 h3
          refine pN 1 [37] [(37, (.pointer (some ⟨b35, 1, none⟩)))] ?_
          refine gv_load (t := 3) (A := ⟨b35, 1, none⟩) (.int .i64 x32.2.1) [] (fun e => by cases e) rfl rfl rfl (by kernel_rfl) (by kernel_rfl) (by kernel_rfl) (inw0 (hk94.cell 1 rfl)) rfl ?_
          refine pN 4 [28, 39, 40, 41] [(28, (.bool (decide (x32.2.1 > 100))))] ?_
          refine gv_nil ?_
          have e := sj h3; subst e
          refine gv_goal fun a hd hs hok => ?_
          have hB99 := bg hB66 hg91 nb
          have hz100 := hg91.size
          have hk101 := hb68.grown hg91 nb
          exact ⟨hB99, hz100, hk101, hk94, hd, hs, okp [0, 2, 3, 4, 9, 10, 11, 28] hok⟩
        ·skip
         replace h3 := ite_f hc93 h3
         refine pN 10 [28, 33, 34, 35, 36, 37, 38, 39, 40, 41] [(28, (.bool false))] ?_
         refine gv_nil ?_
         have e := sj h3; subst e
         refine gv_goal fun a hd hs hok => ?_
         have hB102 := bg hB66 hg91 nb
         have hz103 := hg91.size
         have hk104 := hb68.grown hg91 nb
         have hk105 := hb69.grown hg91 nb
         exact ⟨hB102, hz103, hk104, hk105, hd, hs, okp [0, 2, 3, 4, 9, 10, 11, 28] hok⟩
       ·rintro a w87 ⟨hB106, hz107, hb108, hb109, hd, hs, hok⟩
        refine gv_in ?_ hd hs hok
        clear hd hs hok
        have hz110 := (nt hz70 hz107)
        clear hz107 hc71 hz70 hb69 hb68 hB66
        refine bindE h2 ?_; clear h2; intro j111 h3 h2
        refine gv_cut_code (J := fun a w112 => Below w0.heap.size w0 w112 ∧ w87.heap.size ≤ w112.heap.size ∧ Box w112 b1 26 #[(.int .i64 s25.2.1), (.int .i64 s25.2.2)] ∧ Box w112 b35 31 #[(.int .u8 x32.1), (.int .i64 x32.2.1), (.bool x32.2.2)] ∧ a.defers = [] ∧ a.tmps.size = 65 ∧ Ok [(0, (.slice pa0_0 (length l_0) pc0_0)), (2, (bp b1)), (3, (.int .i64 s25.1)), (4, (bp b35)), (9, (.slice pa0_0 (length l_0) pc0_0)), (10, (.int .i64 ((length l_0 : Nat) : Int))), (11, (.int .i64 s25.1)), (28, (.bool j111))] a.tmps) ?_ ?_
        ·skip
         refine gv_cond (b := j86) (by kernel_rfl) (fun hc113 => ?_) (fun hc113 => ?_)
         ·replace h3 := ite_t hc113 h3
          refine gv_skip ?_
          have e := sj h3; subst e
          refine gv_goal fun a hd hs hok => ?_
          exact ⟨hB106, nrf, hb108, hb109, hd, hs, okp [0, 2, 3, 4, 9, 10, 11, 28] hok⟩
         ·replace h3 := ite_f hc113 h3
          refine gv_region <| pN 1 [42] [(42, (bp b35))] ?_
          refine gv_load (t := 5) (A := ⟨b35, 0, none⟩) (.int .u8 x32.1) [] (fun e => by cases e) rfl rfl rfl (by kernel_rfl) (by kernel_rfl) (by kernel_rfl) (inw0 (hb109.cell 0 rfl)) rfl ?_
          refine bindE h3 ?_; clear h3; intro r114 hr115 h3
          refine gv_call0 (by kernel_rfl) rfl (by kernel_rfl) enters28 (packing_counted_ok fuel x32.1 w87  r114 hr115) ?_
          rintro v118 w116 ⟨hg117, rfl⟩
          refine pN 2 [45, 46] [(46, (.bool (!r114)))] ?_
          refine gv_split (s := 46) (g := (!r114)) (by kernel_rfl) (fun hc119 => ?_) (fun hc119 => ?_)
          ·skip
           replace h3 := ite_t hc119 h3
           refine pN 1 [47] [(47, (.pointer (some ⟨b35, 1, none⟩)))] ?_
           have hk120 := hb109.grown hg117 nb
           refine gv_load (t := 3) (A := ⟨b35, 1, none⟩) (.int .i64 x32.2.1) [] (fun e => by cases e) rfl rfl rfl (by kernel_rfl) (by kernel_rfl) (by kernel_rfl) (inw0 (hk120.cell 1 rfl)) rfl ?_
           refine pN 3 [28, 49, 50] [(28, (.bool (x32.2.1 != 1)))] ?_
           refine gv_nil ?_
           have e := sj h3; subst e
           refine gv_goal fun a hd hs hok => ?_
           have hB121 := bg hB106 hg117 nb
           have hz122 := hg117.size
           have hk123 := hb108.grown hg117 nb
           exact ⟨hB121, hz122, hk123, hk120, hd, hs, okp [0, 2, 3, 4, 9, 10, 11, 28] hok⟩
          ·skip
           replace h3 := ite_f hc119 h3
           refine pN 5 [28, 47, 48, 49, 50] [(28, (.bool false))] ?_
           refine gv_nil ?_
           have e := sj h3; subst e
           refine gv_goal fun a hd hs hok => ?_
           have hB124 := bg hB106 hg117 nb
           have hz125 := hg117.size
           have hk126 := hb108.grown hg117 nb
           have hk127 := hb109.grown hg117 nb
           exact ⟨hB124, hz125, hk126, hk127, hd, hs, okp [0, 2, 3, 4, 9, 10, 11, 28] hok⟩
        ·rintro a w112 ⟨hB128, hz129, hb130, hb131, hd, hs, hok⟩
         refine gv_in ?_ hd hs hok
         clear hd hs hok
         have hz132 := (nt hz110 hz129)
         clear hz129 hz110 hb109 hb108 hB106
         refine gv_cond (b := j111) (by kernel_rfl) (fun hc133 => ?_) (fun hc133 => ?_)
         ·replace h2 := ite_t hc133 h2
          refine gv_seq <| gv_region <| pN 1 [51] [(51, (.int .i64 s25.1))] ?_
          refine bindE h2 ?_; clear h2; intro r134 hr135 h2
          refine gv_call0 (by kernel_rfl) rfl (by kernel_rfl) enters21 (packing_at_ok fuel 4 s25.1 w112  r134 hr135) ?_
          rintro v138 w136 ⟨hg137, rfl⟩
          have hk143 := hb130.grown hg137 nb
          refine gv_store0 26 0 (.agg #[(.int .i64 r134.1), (.int .i64 r134.2)]) #[(.int .i64 r134.1), (.int .i64 r134.2)] hk143 (by kernel_rfl) (by kernel_rfl) (by kernel_rfl) ?_
          intro w139 hg140 hb141 hz142
          refine gv_nil <| gv_cret ?_
          have e := sj h2; subst e
          replace h1 := congrArg some (hR2 _ rfl)
          have e := sj h1; subst e
          replace h0 := cont_inr h0
          have e := sj h0; subst e
          refine gv_ret (gv_done [(.agg #[(.int .i64 r134.1), (.int .i64 r134.2)])] rfl ⟨⟨⟨b1, 0, none⟩, (by kernel_rfl), run_loadVar_row w139 b1 _ 26 _ _ _ hb141 Tryd.underlying26 rfl (by kernel_rfl)⟩, trivial⟩ ?_)
          have hB144 := bg hB128 hg137 nb
          have hlo145 : w0.heap.size ≤ b1 := lob hbe5 hB0.size
          have hB146 := bg hB144 hg140 (rowlo hlo145)
          exact ⟨grown_of_below hB146, rfl⟩
         ·replace h2 := ite_f hc133 h2
          refine gv_seq <| gv_drawA (by kernel_rfl) ?_
          intro w147 hg148
          refine gv_pre [0, 2, 3, 4] (bA 8 [0, 2, 3, 4]) 4 (by kernel_rfl) (by kernel_rfl) ?_
          refine pN 2 [54, 56] [(54, (.pointer (some ⟨b35, 2, none⟩))), (56, (.slice pa0_0 (length l_0) pc0_0))] ?_
          refine bindE h2 ?_; clear h2; intro x149 hx150 h2
          have hB151 := bg hB128 hg148 nb
          refine gv_idxaddr (t := 22) (e := 31) (a := pa0_0) (len := length l_0) (cap := pc0_0) (kk := .i64) (i := 0) (sz := 3) [] (fun e => by cases e) rfl rfl rfl (by kernel_rfl) (by kernel_rfl) Tryd.underlying22 (by kernel_rfl) ((hpa0_0.below hB151 hX0).has hx150) (idx_spec hx150).1 (idx_spec hx150).2.1 rfl ?_
          refine pN 1 [58] [(58, (.pointer (some (Addr.add (elemAddr pa0_0 ((0 : Int).toNat * 3)) 2))))] ?_
          refine gv_nil <| gv_goA ?_
          refine gv_stage (Cls w147 []) [1, 5] [(1, some true), (5, some true)] (bA 8 [0, 1, 2, 3, 4, 5]) 2 (by kernel_rfl) (by kernel_rfl) (Cls.refl _ _) ?_
          have hC152 := Cls.refl w147 []
          have hk153 := hb131.grown hg148 nb
          refine gv_load (t := 4) (A := ⟨b35, 2, none⟩) (.bool x32.2.2) [] (fun e => by cases e) rfl rfl rfl (by kernel_rfl) (by kernel_rfl) (by kernel_rfl) (inw1 fun w' hC' => ((hC'.box hk153 nm_nil).cell 2 rfl)) rfl ?_
          obtain ⟨_, ⟨_, _, rfl, rfl, ⟨_, _, rfl, rfl, rfl⟩⟩, hc154⟩ := hpa0_0.cellsK hx150
          refine gv_load (t := 4) (A := (Addr.add (elemAddr pa0_0 ((0 : Int).toNat * 3)) 2)) (.bool x149.2.2) [] (fun e => by cases e) rfl rfl rfl (by kernel_rfl) (by kernel_rfl) (by kernel_rfl) (inw1 fun w' hC' => ((hc154 w' (fun k hk => (hC'.2 k ((fun k (hk : X0 k) => ltl (hX0 k hk) hB151.size) k hk) (fun hg => nmx_nil k hg hk)).trans (hB151.block k (hX0 k hk)))) 2 _ rfl)) rfl ?_
          refine gv_nil <| gv_goA ?_
          refine gv_pre [6, 7] (bA 8 [0, 1, 2, 3, 4, 5, 6, 7]) 0 (by kernel_rfl) (by kernel_rfl) ?_
          refine pN 2 [53, 60] [(53, (.bool (!(x32.2.2 == x149.2.2))))] ?_
          refine gv_nil <| gv_goA ?_
          refine gv_stageE (by kernel_rfl) ?_
          refine gv_cond (b := (!(x32.2.2 == x149.2.2))) (by kernel_rfl) (fun hc155 => ?_) (fun hc155 => ?_)
          ·replace h2 := ite_t hc155 h2
           refine gv_seq <| gv_region <| pN 1 [61] [(61, (.int .i64 s25.1))] ?_
           refine bindE h2 ?_; clear h2; intro r156 hr157 h2
           refine gv_call0 (by kernel_rfl) rfl (by kernel_rfl) enters21 (packing_at_ok fuel 19 s25.1 w147  r156 hr157) ?_
           rintro v160 w158 ⟨hg159, rfl⟩
           have hg165 := (grown_trans hg148 hg159)
           have hk166 := hb130.grown hg165 nb
           refine gv_store0 26 0 (.agg #[(.int .i64 r156.1), (.int .i64 r156.2)]) #[(.int .i64 r156.1), (.int .i64 r156.2)] hk166 (by kernel_rfl) (by kernel_rfl) (by kernel_rfl) ?_
           intro w161 hg162 hb163 hz164
           refine gv_nil <| gv_cret ?_
           have e := sj h2; subst e
           replace h1 := congrArg some (hR2 _ rfl)
           have e := sj h1; subst e
           replace h0 := cont_inr h0
           have e := sj h0; subst e
           refine gv_ret (gv_done [(.agg #[(.int .i64 r156.1), (.int .i64 r156.2)])] rfl ⟨⟨⟨b1, 0, none⟩, (by kernel_rfl), run_loadVar_row w161 b1 _ 26 _ _ _ hb163 Tryd.underlying26 rfl (by kernel_rfl)⟩, trivial⟩ ?_)
           have hB167 := bg hB151 hg159 nb
           have hlo168 : w0.heap.size ≤ b1 := lob hbe5 hB0.size
           have hB169 := bg hB167 hg162 (rowlo hlo168)
           exact ⟨grown_of_below hB169, rfl⟩
          ·replace h2 := ite_f hc155 h2
           refine gv_skip <| gv_blk <| gv_blk <| gv_region <| pN 2 [11, 63] [(11, (.int .i64 (IntKind.i64.wrap (s25.1 + 1))))] ?_
           refine gv_nil ?_
           have e := sj h2; subst e
           refine gv_goal fun a hd hs hok => ?_
           have hz170 := (nt hz132 hg148.size)
           have hk171 := hb130.grown hg148 nb
           exact ⟨((IntKind.i64.wrap (s25.1 + 1)), (s25.2.1, s25.2.2)), rfl, hB151, hz170, hk171, hd, hs, okp [0, 2, 9, 10, 11] hok⟩
    ·replace h2 := ite_f hc31 h2
     refine gv_cexit <| gv_exit rfl ?_
     have e := sj h2; subst e
     replace h1 := congrArg some (hR2 _ rfl)
     have e := sj h1; subst e
     refine gv_goal fun a hd hs hok => ?_
     have hz172 := hz29
     exact ⟨(s25.2.1, s25.2.2), rfl, hB28, hz172, hb30, hd, hs, okp [2] hok⟩
  ·rintro a w24 ⟨s23, e, hB173, hz174, hb175, hd, hs, hok⟩
   subst e
   refine gv_in ?_ hd hs hok
   clear hd hs hok
   replace h0 := cont_inl h0
   clear hz174 hc7 hz6 hb4 hg3
   refine gv_seq <| gv_region <| pN 1 [64] [(64, (.agg #[(.int .i64 0), (.int .i64 0)]))] ?_
   refine gv_store0 26 0 (.agg #[(.int .i64 0), (.int .i64 0)]) #[(.int .i64 0), (.int .i64 0)] hb175 (by kernel_rfl) (by kernel_rfl) (by kernel_rfl) ?_
   intro w176 hg177 hb178 hz179
   refine gv_nil <| gv_cret ?_
   have e := sj h0; subst e
   refine gv_ret (gv_done [(.agg #[(.int .i64 0), (.int .i64 0)])] rfl ⟨⟨⟨b1, 0, none⟩, (by kernel_rfl), run_loadVar_row w176 b1 _ 26 _ _ _ hb178 Tryd.underlying26 rfl (by kernel_rfl)⟩, trivial⟩ ?_)
   have hlo180 : w0.heap.size ≤ b1 := lob hbe5 hB0.size
   have hB181 := bg hB173 hg177 (rowlo hlo180)
   exact ⟨grown_of_below hB181, rfl⟩

theorem packing_values_ok (fuel : Nat) (pa0_0 : Option Addr) (pc0_0 : Nat) (l_0 : (List (Int × Int × Bool))) (w0 : World) (X0 : Nat → Prop) (hX0 : ∀ k, X0 k → k < w0.heap.size) (hpa0_0 : Rd (prE (iE .u8) (prE (iE .i64) tE)) w0 X0 pa0_0 pc0_0 l_0) (r0 : Int) (h0 : packing_values fuel l_0 = some r0) :
    Calls Tryd.prog 20 ([(.slice pa0_0 (length l_0) pc0_0)] : List Value).toArray w0 (Ret fun v w' => w0.grownBy w' none ∧ v = tup [(.int .i64 r0)]) := by
 have hB0 : Below w0.heap.size w0 w0 := Below.refl _ _
 unfold packing_values at h0
 refine calls_run Tryd.func20 rfl Tryd.ntmps20 (by kernel_rfl) ?_
 refine gv_sub [0] (σ' := [(0, (.slice pa0_0 (length l_0) pc0_0))]) (by kernel_rfl) ?_
 refine gv_seq <| gv_region <| pN 1 [2] [] ?_
 refine gv_nil <| gv_seq <| gv_region <| pN 1 [3] [(3, (.int .i64 0))] ?_
 refine gv_nil <| gv_seq <| gv_seq <| gv_region <| pN 3 [6, 7, 8] [(6, (.slice pa0_0 (length l_0) pc0_0)), (7, (.int .i64 ((length l_0 : Nat) : Int))), (8, (.int .i64 0))] ?_
 refine gv_nil <| bindE h0 ?_; clear h0; intro j1 h1 h0
 refine gv_cut_code (J := fun a w2 => Below w0.heap.size w0 w2 ∧ w0.heap.size ≤ w2.heap.size ∧ a.defers = [] ∧ a.tmps.size = 19 ∧ Ok [(3, (.int .i64 j1))] a.tmps) ?_ ?_
 ·skip
  refine gv_block <| gv_loop (A := fun (s3 : (Int × Int)) a w4 => Below w0.heap.size w0 w4 ∧ w0.heap.size ≤ w4.heap.size ∧ a.defers = [] ∧ a.tmps.size = 19 ∧ Ok [(3, (.int .i64 s3.1)), (6, (.slice pa0_0 (length l_0) pc0_0)), (7, (.int .i64 ((length l_0 : Nat) : Int))), (8, (.int .i64 s3.2))] a.tmps) h1 ?_ ?_
  ·intro a hd hs hok
   exact ⟨hB0, nrf, hd, hs, okp [3, 6, 7, 8] hok⟩
  ·rintro s3 r2 h2 hR2 a w4 ⟨hB5, hz6, hd, hs, hok⟩
   refine gv_in ?_ hd hs hok
   clear hd hs hok
   refine gv_seq <| gv_region <| pN 1 [9] [(9, (.bool (decide (s3.2 < ((length l_0 : Nat) : Int)))))] ?_
   refine gv_nil <| gv_seq <| gv_cond (b := (decide (s3.2 < ((length l_0 : Nat) : Int)))) (by kernel_rfl) (fun hc7 => ?_) (fun hc7 => ?_)
   ·replace h2 := ite_t hc7 h2
    refine gv_skip <| gv_seq <| gv_block <| gv_seq <| gv_region <| bindE h2 ?_; clear h2; intro x8 hx9 h2
    refine gv_idxaddr (t := 22) (e := 31) (a := pa0_0) (len := length l_0) (cap := pc0_0) (kk := .i64) (i := s3.2) (sz := 3) [] (fun e => by cases e) rfl rfl rfl (by kernel_rfl) (by kernel_rfl) Tryd.underlying22 (by kernel_rfl) ((hpa0_0.below hB5 hX0).has hx9) (idx_spec hx9).1 (idx_spec hx9).2.1 rfl ?_
    obtain ⟨_, ⟨_, _, rfl, rfl, ⟨_, _, rfl, rfl, rfl⟩⟩, hc10⟩ := hpa0_0.cellsK hx9
    refine gv_loadAgg (t := 31) (A := (elemAddr pa0_0 ((s3.2 : Int).toNat * 3))) #[(.int .u8 x8.1), (.int .i64 x8.2.1), (.bool x8.2.2)] [] (fun e => by cases e) rfl rfl rfl (by kernel_rfl) (by kernel_rfl) (by kernel_rfl) (by kernel_rfl) (inw0 (hc10 w4 (fun k hk => hB5.block k (hX0 k hk)))) rfl ?_
    refine gv_new0 (fun b => .pointer (some ⟨b, 0, none⟩)) #[(.int .u8 0), (.int .i64 0), (.bool false)] 31 (by kernel_rfl) (by kernel_rfl) ?_
    intro b11 w12 hg13 hb14 hbe15 hz16
    refine gv_store0 31 0 (.agg #[(.int .u8 x8.1), (.int .i64 x8.2.1), (.bool x8.2.2)]) #[(.int .u8 x8.1), (.int .i64 x8.2.1), (.bool x8.2.2)] hb14 (by kernel_rfl) (by kernel_rfl) (by kernel_rfl) ?_
    intro w17 hg18 hb19 hz20
    refine gv_nil <| gv_seq <| gv_region <| pN 1 [12] [(12, (bp b11))] ?_
    refine gv_load (t := 5) (A := ⟨b11, 0, none⟩) (.int .u8 x8.1) [] (fun e => by cases e) rfl rfl rfl (by kernel_rfl) (by kernel_rfl) (by kernel_rfl) (inw0 (hb19.cell 0 rfl)) rfl ?_
    refine pN 1 [14] [(14, (.bool (x8.1 != 120)))] ?_
    refine gv_nil <| bindE h2 ?_; clear h2; intro j21 h3 h2
    refine gv_cut_code (J := fun a w22 => Below w0.heap.size w0 w22 ∧ w17.heap.size ≤ w22.heap.size ∧ a.defers = [] ∧ a.tmps.size = 19 ∧ Ok [(3, (.int .i64 j21)), (6, (.slice pa0_0 (length l_0) pc0_0)), (7, (.int .i64 ((length l_0 : Nat) : Int))), (8, (.int .i64 s3.2))] a.tmps) ?_ ?_
    ·skip
     refine gv_cond (b := (x8.1 != 120)) (by kernel_rfl) (fun hc23 => ?_) (fun hc23 => ?_)
     ·replace h3 := ite_t hc23 h3
      refine gv_region <| pN 3 [3, 15, 16] [(3, (.int .i64 (IntKind.i64.wrap (s3.1 + 1))))] ?_
      refine gv_nil ?_
      have e := sj h3; subst e
      refine gv_goal fun a hd hs hok => ?_
      have hB24 := bg hB5 hg13 nb
      have hlo25 : w0.heap.size ≤ b11 := lob hbe15 hB5.size
      have hB26 := bg hB24 hg18 (rowlo hlo25)
      exact ⟨hB26, nrf, hd, hs, okp [3, 6, 7, 8] hok⟩
     ·replace h3 := ite_f hc23 h3
      refine gv_skip ?_
      have e := sj h3; subst e
      refine gv_goal fun a hd hs hok => ?_
      have hB27 := bg hB5 hg13 nb
      have hlo28 : w0.heap.size ≤ b11 := lob hbe15 hB5.size
      have hB29 := bg hB27 hg18 (rowlo hlo28)
      exact ⟨hB29, nrf, hd, hs, okp [3, 6, 7, 8] hok⟩
    ·rintro a w22 ⟨hB30, hz31, hd, hs, hok⟩
     refine gv_in ?_ hd hs hok
     clear hd hs hok
     have hz32 := (nt (nt (nt hz6 hg13.size) hg18.size) hz31)
     clear hz31 hz20 hb19 hg18 hz16 hbe15 hb14 hg13 hc10 hx9 hc7 hz6 hB5
     refine gv_blk <| gv_region <| pN 2 [8, 17] [(8, (.int .i64 (IntKind.i64.wrap (s3.2 + 1))))] ?_
     refine gv_nil ?_
     have e := sj h2; subst e
     refine gv_goal fun a hd hs hok => ?_
     have hz33 := hz32
     exact ⟨(j21, (IntKind.i64.wrap (s3.2 + 1))), rfl, hB30, hz33, hd, hs, okp [3, 6, 7, 8] hok⟩
   ·replace h2 := ite_f hc7 h2
    refine gv_cexit <| gv_exit rfl ?_
    have e := sj h2; subst e
    replace h1 := congrArg some (hR2 _ rfl)
    have e := sj h1; subst e
    refine gv_goal fun a hd hs hok => ?_
    have hz34 := hz6
    exact ⟨hB5, hz34, hd, hs, okp [3] hok⟩
 ·rintro a w2 ⟨hB35, hz36, hd, hs, hok⟩
  refine gv_in ?_ hd hs hok
  clear hd hs hok
  refine gv_seq <| gv_region <| pN 2 [2, 18] [(2, (.int .i64 j1))] ?_
  refine gv_nil <| gv_cret ?_
  have e := sj h0; subst e
  refine gv_ret (gv_done [(.int .i64 j1)] rfl ⟨(by kernel_rfl), trivial⟩ ?_)
  exact ⟨grown_of_below hB35, rfl⟩

theorem integer_Valid_ok (fuel : Nat) (pa0_0 : Option Addr) (pc0_0 : Nat) (a_0 : (Bool × (List Int))) (w0 : World) (X0 : Nat → Prop) (hX0 : ∀ k, X0 k → k < w0.heap.size) (hpa0_0 : Rd (iE .u32) w0 X0 pa0_0 pc0_0 a_0.2) (r0 : Bool) (h0 : integer_Valid fuel a_0 = some r0) :
    Calls Tryd.prog 35 ([(.agg #[(.bool a_0.1), (.slice pa0_0 (length a_0.2) pc0_0)])] : List Value).toArray w0 (Ret fun v w' => w0.grownBy w' none ∧ v = tup [(.bool r0)]) := by
 have hB0 : Below w0.heap.size w0 w0 := Below.refl _ _
 unfold integer_Valid at h0
 refine calls_run Tryd.func35 rfl Tryd.ntmps35 (by kernel_rfl) ?_
 refine gv_sub [0] (σ' := [(0, (.agg #[(.bool a_0.1), (.slice pa0_0 (length a_0.2) pc0_0)]))]) (by kernel_rfl) ?_
 refine gv_seq <| gv_region <| gv_new0 (fun b => .pointer (some ⟨b, 0, none⟩)) #[(.bool a_0.1), (.slice pa0_0 (length a_0.2) pc0_0)] 46 (by kernel_rfl) (by kernel_rfl) ?_
 intro b1 w2 hg3 hb4 hbe5 hz6
 refine pN 1 [2] [] ?_
 refine gv_nil <| gv_seq <| gv_region <| pN 1 [4] [(4, (.pointer (some ⟨b1, 1, none⟩)))] ?_
 refine gv_load (t := 44) (A := ⟨b1, 1, none⟩) (.slice pa0_0 (length a_0.2) pc0_0) [] (fun e => by cases e) rfl rfl rfl (by kernel_rfl) (by kernel_rfl) (by kernel_rfl) (inw0 (hb4.cell 1 rfl)) rfl ?_
 refine pN 2 [3, 6] [(3, (.int .i64 ((length a_0.2 : Nat) : Int)))] ?_
 refine gv_nil <| gv_seq <| gv_region <| bindE h0 ?_; clear h0; intro j7 h1 h0
 refine gv_cut_ops (J := fun a w8 => Below w0.heap.size w0 w8 ∧ w2.heap.size ≤ w8.heap.size ∧ a.defers = [] ∧ a.tmps.size = 31 ∧ Ok [(2, (.bool j7))] a.tmps) ?_ ?_
 ·skip
  refine pN 3 [7, 8, 9] [(9, (.bool (decide (((length a_0.2 : Nat) : Int) ≤ 128))))] ?_
  refine gv_split (s := 9) (g := (decide (((length a_0.2 : Nat) : Int) ≤ 128))) (by kernel_rfl) (fun hc9 => ?_) (fun hc9 => ?_)
  ·skip
   replace h1 := ite_t hc9 h1
   refine pN 3 [10, 11, 12] [(12, (.bool (((length a_0.2 : Nat) : Int) == 0)))] ?_
   refine gv_split (s := 12) (g := (((length a_0.2 : Nat) : Int) == 0)) (by kernel_rfl) (fun hc10 => ?_) (fun hc10 => ?_)
   ·skip
    replace h1 := ite_t hc10 h1
    refine pN 1 [13] [(13, (bp b1))] ?_
    refine gv_load (t := 4) (A := ⟨b1, 0, none⟩) (.bool a_0.1) [] (fun e => by cases e) rfl rfl rfl (by kernel_rfl) (by kernel_rfl) (by kernel_rfl) (inw0 (hb4.cell 0 rfl)) rfl ?_
    refine pN 3 [15, 16, 17] [(17, (.bool (!a_0.1)))] ?_
    refine gv_split (s := 17) (g := (!a_0.1)) (by kernel_rfl) (fun hc11 => ?_) (fun hc11 => ?_)
    ·skip
     replace h1 := ite_t hc11 h1
     refine pN 14 [2, 18, 19, 20, 21, 22, 23, 24, 25, 26, 27, 28, 29, 30] [(2, (.bool true))] ?_
     refine gv_nil ?_
     have e := sj h1; subst e
     refine gv_goal fun a hd hs hok => ?_
     have hB12 := bg hB0 hg3 nb
     exact ⟨hB12, nrf, hd, hs, okp [2] hok⟩
    ·skip
     replace h1 := ite_f hc11 h1
     refine pN 3 [18, 19, 20] [(20, (.bool (decide (((length a_0.2 : Nat) : Int) > 0))))] ?_
     refine gv_split (s := 20) (g := (decide (((length a_0.2 : Nat) : Int) > 0))) (by kernel_rfl) (fun hc13 => ?_) (fun hc13 => ?_)
     ·skip
      replace h1 := ite_t hc13 h1
      refine pN 1 [21] [(21, (.pointer (some ⟨b1, 1, none⟩)))] ?_
      refine gv_load (t := 44) (A := ⟨b1, 1, none⟩) (.slice pa0_0 (length a_0.2) pc0_0) [] (fun e => by cases e) rfl rfl rfl (by kernel_rfl) (by kernel_rfl) (by kernel_rfl) (inw0 (hb4.cell 1 rfl)) rfl ?_
      refine pN 2 [23, 24] [(24, (.int .i64 (IntKind.i64.wrap (((length a_0.2 : Nat) : Int) - 1))))] ?_
      refine gv_sub [9, 17, 20, 22, 24] (σ' := [(9, (.bool true)), (17, (.bool false)), (20, (.bool true)), (22, (.slice pa0_0 (length a_0.2) pc0_0)), (24, (.int .i64 (IntKind.i64.wrap (((length a_0.2 : Nat) : Int) - 1))))]) (by kernel_rfl) ?_
      refine bindE h1 ?_; clear h1; intro x14 hx15 h1
      have hB16 := bg hB0 hg3 nb
      refine gv_idxaddr (t := 44) (e := 87) (a := pa0_0) (len := length a_0.2) (cap := pc0_0) (kk := .i64) (i := (IntKind.i64.wrap (((length a_0.2 : Nat) : Int) - 1))) (sz := 1) [] (fun e => by cases e) rfl rfl rfl (by kernel_rfl) (by kernel_rfl) Tryd.underlying44 (by kernel_rfl) ((hpa0_0.below hB16 hX0).has hx15) (idx_spec hx15).1 (idx_spec hx15).2.1 rfl ?_
      refine gv_load (t := 87) (A := (elemAddr pa0_0 (((IntKind.i64.wrap (((length a_0.2 : Nat) : Int) - 1)) : Int).toNat * 1))) (.int .u32 x14) [] (fun e => by cases e) rfl rfl rfl (by kernel_rfl) (by kernel_rfl) (by kernel_rfl) (inw0 ((hpa0_0.below hB16 hX0).cell hx15)) rfl ?_
      refine pN 5 [2, 27, 28, 29, 30] [(2, (.bool (x14 != 0)))] ?_
      refine gv_nil ?_
      have e := sj h1; subst e
      refine gv_goal fun a hd hs hok => ?_
      exact ⟨hB16, nrf, hd, hs, okp [2] hok⟩
     ·skip
      replace h1 := ite_f hc13 h1
      refine pN 11 [2, 21, 22, 23, 24, 25, 26, 27, 28, 29, 30] [(2, (.bool false))] ?_
      refine gv_nil ?_
      have e := sj h1; subst e
      refine gv_goal fun a hd hs hok => ?_
      have hB17 := bg hB0 hg3 nb
      exact ⟨hB17, nrf, hd, hs, okp [2] hok⟩
   ·skip
    replace h1 := ite_f hc10 h1
    refine pN 8 [13, 14, 15, 16, 17, 18, 19, 20] [(17, (.bool false)), (20, (.bool (decide (((length a_0.2 : Nat) : Int) > 0))))] ?_
    refine gv_split (s := 20) (g := (decide (((length a_0.2 : Nat) : Int) > 0))) (by kernel_rfl) (fun hc18 => ?_) (fun hc18 => ?_)
    ·skip
     replace h1 := ite_t hc18 h1
     refine pN 1 [21] [(21, (.pointer (some ⟨b1, 1, none⟩)))] ?_
     refine gv_load (t := 44) (A := ⟨b1, 1, none⟩) (.slice pa0_0 (length a_0.2) pc0_0) [] (fun e => by cases e) rfl rfl rfl (by kernel_rfl) (by kernel_rfl) (by kernel_rfl) (inw0 (hb4.cell 1 rfl)) rfl ?_
     refine pN 2 [23, 24] [(24, (.int .i64 (IntKind.i64.wrap (((length a_0.2 : Nat) : Int) - 1))))] ?_
     refine bindE h1 ?_; clear h1; intro x19 hx20 h1
     have hB21 := bg hB0 hg3 nb
     refine gv_idxaddr (t := 44) (e := 87) (a := pa0_0) (len := length a_0.2) (cap := pc0_0) (kk := .i64) (i := (IntKind.i64.wrap (((length a_0.2 : Nat) : Int) - 1))) (sz := 1) [] (fun e => by cases e) rfl rfl rfl (by kernel_rfl) (by kernel_rfl) Tryd.underlying44 (by kernel_rfl) ((hpa0_0.below hB21 hX0).has hx20) (idx_spec hx20).1 (idx_spec hx20).2.1 rfl ?_
     refine gv_load (t := 87) (A := (elemAddr pa0_0 (((IntKind.i64.wrap (((length a_0.2 : Nat) : Int) - 1)) : Int).toNat * 1))) (.int .u32 x19) [] (fun e => by cases e) rfl rfl rfl (by kernel_rfl) (by kernel_rfl) (by kernel_rfl) (inw0 ((hpa0_0.below hB21 hX0).cell hx20)) rfl ?_
     refine pN 5 [2, 27, 28, 29, 30] [(2, (.bool (x19 != 0)))] ?_
     refine gv_sub [2] (σ' := [(2, (.bool (x19 != 0)))]) (by kernel_rfl) ?_
     refine gv_nil ?_
     have e := sj h1; subst e
     refine gv_goal fun a hd hs hok => ?_
     exact ⟨hB21, nrf, hd, hs, okp [2] hok⟩
    ·skip
     replace h1 := ite_f hc18 h1
     refine pN 11 [2, 21, 22, 23, 24, 25, 26, 27, 28, 29, 30] [(2, (.bool false))] ?_
     refine gv_nil ?_
     have e := sj h1; subst e
     refine gv_goal fun a hd hs hok => ?_
     have hB22 := bg hB0 hg3 nb
     exact ⟨hB22, nrf, hd, hs, okp [2] hok⟩
  ·skip
   replace h1 := ite_f hc9 h1
   refine pN 22 [2, 10, 11, 12, 13, 14, 15, 16, 17, 18, 19, 20, 21, 22, 23, 24, 25, 26, 27, 28, 29, 30] [(2, (.bool false))] ?_
   refine gv_nil ?_
   have e := sj h1; subst e
   refine gv_goal fun a hd hs hok => ?_
   have hB23 := bg hB0 hg3 nb
   exact ⟨hB23, nrf, hd, hs, okp [2] hok⟩
 ·rintro a w8 ⟨hB24, hz25, hd, hs, hok⟩
  refine gv_in ?_ hd hs hok
  clear hd hs hok
  clear hz25 hz6 hbe5 hb4 hg3
  refine gv_cret ?_
  have e := sj h0; subst e
  refine gv_ret (gv_done [(.bool j7)] rfl ⟨(by kernel_rfl), trivial⟩ ?_)
  exact ⟨grown_of_below hB24, rfl⟩

theorem packing_valid_ok (fuel : Nat) (pa0_0 : Option Addr) (pc0_0 : Nat) (pa0_1 : Option Addr) (pc0_1 : Nat) (v_0 : (Int × (Bool × (List Int)) × (Bool × (List Int)) × ByteArray × Int)) (w0 : World) (X0 : Nat → Prop) (hX0 : ∀ k, X0 k → k < w0.heap.size) (hpa0_0 : Rd (iE .u32) w0 X0 pa0_0 pc0_0 v_0.2.1.2) (hpa0_1 : Rd (iE .u32) w0 X0 pa0_1 pc0_1 v_0.2.2.1.2) (r0 : Bool) (h0 : packing_valid fuel v_0 = some r0) :
    Calls Tryd.prog 22 ([(.agg #[(.int .i64 v_0.1), (.bool v_0.2.1.1), (.slice pa0_0 (length v_0.2.1.2) pc0_0), (.bool v_0.2.2.1.1), (.slice pa0_1 (length v_0.2.2.1.2) pc0_1), (.string v_0.2.2.2.1), (.int .i64 v_0.2.2.2.2)])] : List Value).toArray w0 (Ret fun v w' => w0.grownBy w' none ∧ v = tup [(.bool r0)]) := by
 have hB0 : Below w0.heap.size w0 w0 := Below.refl _ _
 unfold packing_valid at h0
 refine calls_run Tryd.func22 rfl Tryd.ntmps22 (by kernel_rfl) ?_
 refine gv_sub [0] (σ' := [(0, (.agg #[(.int .i64 v_0.1), (.bool v_0.2.1.1), (.slice pa0_0 (length v_0.2.1.2) pc0_0), (.bool v_0.2.2.1.1), (.slice pa0_1 (length v_0.2.2.1.2) pc0_1), (.string v_0.2.2.2.1), (.int .i64 v_0.2.2.2.2)]))]) (by kernel_rfl) ?_
 refine gv_seq <| gv_region <| gv_new0 (fun b => .pointer (some ⟨b, 0, none⟩)) #[(.int .i64 v_0.1), (.bool v_0.2.1.1), (.slice pa0_0 (length v_0.2.1.2) pc0_0), (.bool v_0.2.2.1.1), (.slice pa0_1 (length v_0.2.2.1.2) pc0_1), (.string v_0.2.2.2.1), (.int .i64 v_0.2.2.2.2)] 48 (by kernel_rfl) (by kernel_rfl) ?_
 intro b1 w2 hg3 hb4 hbe5 hz6
 refine pN 1 [2] [] ?_
 refine gv_nil <| gv_seq <| gv_seq <| gv_region <| pN 1 [3] [(3, (bp b1))] ?_
 refine gv_load (t := 3) (A := ⟨b1, 0, none⟩) (.int .i64 v_0.1) [] (fun e => by cases e) rfl rfl rfl (by kernel_rfl) (by kernel_rfl) (by kernel_rfl) (inw0 (hb4.cell 0 rfl)) rfl ?_
 refine gv_nil <| gv_block <| gv_seq <| gv_region <| pN 2 [5, 6] [(5, (.bool (v_0.1 == 2)))] ?_
 refine gv_nil <| gv_cond (b := (v_0.1 == 2)) (by kernel_rfl) (fun hc7 => ?_) (fun hc7 => ?_)
 ·replace h0 := ite_t hc7 h0
  refine gv_seq <| gv_region <| pN 1 [7] [(7, (.pointer (some ⟨b1, 1, none⟩)))] ?_
  refine gv_loadAgg (t := 46) (A := ⟨b1, 1, none⟩) #[(.bool v_0.2.1.1), (.slice pa0_0 (length v_0.2.1.2) pc0_0)] [] (fun e => by cases e) rfl rfl rfl (by kernel_rfl) (by kernel_rfl) (by kernel_rfl) (by kernel_rfl) (inw0 (Box.part hb4 1 _ rfl)) rfl ?_
  refine bindE h0 ?_; clear h0; intro r8 hr9 h0
  have hB10 := bg hB0 hg3 nb
  refine gv_call0 (by kernel_rfl) rfl (by kernel_rfl) enters35 (integer_Valid_ok fuel pa0_0 pc0_0 (v_0.2.1.1, v_0.2.1.2) w2 (fun k => X0 k) (fun k hk => (fun k (hk : X0 k) => ltl (hX0 k hk) hB10.size) k hk) ((hpa0_0.below hB10 hX0).wide (fun k hk => hk)) r8 hr9) ?_
  rintro v13 w11 ⟨hg12, rfl⟩
  refine pN 1 [2] [(2, (.bool r8))] ?_
  refine gv_nil <| gv_cret ?_
  have e := sj h0; subst e
  refine gv_ret (gv_done [(.bool r8)] rfl ⟨(by kernel_rfl), trivial⟩ ?_)
  have hB14 := bg hB10 hg12 nb
  exact ⟨grown_of_below hB14, rfl⟩
 ·replace h0 := ite_f hc7 h0
  refine gv_seq <| gv_region <| pN 2 [10, 11] [(10, (.bool (v_0.1 == 1)))] ?_
  refine gv_nil <| gv_cond (b := (v_0.1 == 1)) (by kernel_rfl) (fun hc15 => ?_) (fun hc15 => ?_)
  ·replace h0 := ite_t hc15 h0
   refine gv_seq <| gv_region <| bindE h0 ?_; clear h0; intro j16 h1 h0
   refine gv_cut_ops (J := fun a w17 => Below w0.heap.size w0 w17 ∧ w2.heap.size ≤ w17.heap.size ∧ a.defers = [] ∧ a.tmps.size = 20 ∧ Ok [(2, (.bool j16))] a.tmps) ?_ ?_
   ·skip
    refine pN 1 [12] [(12, (.pointer (some ⟨b1, 6, none⟩)))] ?_
    refine gv_load (t := 3) (A := ⟨b1, 6, none⟩) (.int .i64 v_0.2.2.2.2) [] (fun e => by cases e) rfl rfl rfl (by kernel_rfl) (by kernel_rfl) (by kernel_rfl) (inw0 (hb4.cell 6 rfl)) rfl ?_
    refine pN 2 [14, 15] [(15, (.bool (v_0.2.2.2.2 == 0)))] ?_
    refine gv_split (s := 15) (g := (v_0.2.2.2.2 == 0)) (by kernel_rfl) (fun hc18 => ?_) (fun hc18 => ?_)
    ·skip
     replace h1 := ite_t hc18 h1
     refine pN 5 [2, 16, 17, 18, 19] [(2, (.bool true))] ?_
     refine gv_nil ?_
     have e := sj h1; subst e
     refine gv_goal fun a hd hs hok => ?_
     have hB19 := bg hB0 hg3 nb
     exact ⟨hB19, nrf, hd, hs, okp [2] hok⟩
    ·skip
     replace h1 := ite_f hc18 h1
     refine pN 1 [16] [(16, (.pointer (some ⟨b1, 6, none⟩)))] ?_
     refine gv_load (t := 3) (A := ⟨b1, 6, none⟩) (.int .i64 v_0.2.2.2.2) [] (fun e => by cases e) rfl rfl rfl (by kernel_rfl) (by kernel_rfl) (by kernel_rfl) (inw0 (hb4.cell 6 rfl)) rfl ?_
     refine pN 3 [2, 18, 19] [(2, (.bool (v_0.2.2.2.2 == 1)))] ?_
     refine gv_nil ?_
     have e := sj h1; subst e
     refine gv_goal fun a hd hs hok => ?_
     have hB20 := bg hB0 hg3 nb
     exact ⟨hB20, nrf, hd, hs, okp [2] hok⟩
   ·rintro a w17 ⟨hB21, hz22, hd, hs, hok⟩
    refine gv_in ?_ hd hs hok
    clear hd hs hok
    clear hz22 hc15 hc7 hz6 hbe5 hb4 hg3
    refine gv_cret ?_
    have e := sj h0; subst e
    refine gv_ret (gv_done [(.bool j16)] rfl ⟨(by kernel_rfl), trivial⟩ ?_)
    exact ⟨grown_of_below hB21, rfl⟩
  ·replace h0 := ite_f hc15 h0
   refine gv_skip <| gv_blk <| gv_seq <| gv_region <| pN 1 [2] [(2, (.bool true))] ?_
   refine gv_nil <| gv_cret ?_
   have e := sj h0; subst e
   refine gv_ret (gv_done [(.bool true)] rfl ⟨(by kernel_rfl), trivial⟩ ?_)
   have hB23 := bg hB0 hg3 nb
   exact ⟨grown_of_below hB23, rfl⟩

theorem packing_width_ok (fuel : Nat) (code_0 : Int) (w0 : World)  (r0 : (Int × Bool)) (h0 : packing_width fuel code_0 = some r0) :
    Calls Tryd.prog 29 ([(.int .u8 code_0)] : List Value).toArray w0 (Ret fun v w' => w0.grownBy w' none ∧ v = tup [(.int .i64 r0.1), (.bool r0.2)]) := by
 have hB0 : Below w0.heap.size w0 w0 := Below.refl _ _
 unfold packing_width at h0
 refine calls_run Tryd.func29 rfl Tryd.ntmps29 (by kernel_rfl) ?_
 refine gv_sub [0] (σ' := [(0, (.int .u8 code_0))]) (by kernel_rfl) ?_
 refine gv_seq <| gv_region <| pN 2 [2, 3] [(2, (.int .i64 0))] ?_
 refine gv_nil <| gv_seq <| gv_seq <| gv_region <| pN 1 [4] [(4, (.int .u8 code_0))] ?_
 refine gv_nil <| gv_block <| gv_seq <| gv_seq <| gv_region <| pN 2 [5, 6] [(5, (.bool (code_0 == 98)))] ?_
 refine gv_nil <| bindE h0 ?_; clear h0; intro j1 h1 h0
 refine gv_cut_code (J := fun a w2 => Below w0.heap.size w0 w2 ∧ w0.heap.size ≤ w2.heap.size ∧ a.defers = [] ∧ a.tmps.size = 20 ∧ Ok [(0, (.int .u8 code_0)), (2, (.int .i64 0)), (4, (.int .u8 code_0)), (5, (.bool j1))] a.tmps) ?_ ?_
 ·skip
  refine gv_cond (b := (code_0 == 98)) (by kernel_rfl) (fun hc3 => ?_) (fun hc3 => ?_)
  ·replace h1 := ite_t hc3 h1
   refine gv_skip ?_
   have e := sj h1; subst e
   refine gv_goal fun a hd hs hok => ?_
   exact ⟨hB0, nrf, hd, hs, okp [0, 2, 4, 5] hok⟩
  ·replace h1 := ite_f hc3 h1
   refine gv_region <| pN 2 [5, 7] [(5, (.bool (code_0 == 66)))] ?_
   refine gv_nil ?_
   have e := sj h1; subst e
   refine gv_goal fun a hd hs hok => ?_
   exact ⟨hB0, nrf, hd, hs, okp [0, 2, 4, 5] hok⟩
 ·rintro a w2 ⟨hB4, hz5, hd, hs, hok⟩
  refine gv_in ?_ hd hs hok
  clear hd hs hok
  refine bindE h0 ?_; clear h0; intro j6 h1 h0
  refine gv_cut_code (J := fun a w7 => Below w0.heap.size w0 w7 ∧ w2.heap.size ≤ w7.heap.size ∧ a.defers = [] ∧ a.tmps.size = 20 ∧ Ok [(0, (.int .u8 code_0)), (2, (.int .i64 j6))] a.tmps) ?_ ?_
  ·skip
   refine gv_cond (b := j1) (by kernel_rfl) (fun hc8 => ?_) (fun hc8 => ?_)
   ·replace h1 := ite_t hc8 h1
    refine gv_region <| pN 1 [2] [(2, (.int .i64 1))] ?_
    refine gv_nil ?_
    have e := sj h1; subst e
    refine gv_goal fun a hd hs hok => ?_
    exact ⟨hB4, nrf, hd, hs, okp [0, 2] hok⟩
   ·replace h1 := ite_f hc8 h1
    refine gv_seq <| gv_seq <| gv_region <| pN 2 [8, 9] [(8, (.bool (code_0 == 104)))] ?_
    refine gv_nil <| bindE h1 ?_; clear h1; intro j9 h2 h1
    refine gv_cut_code (J := fun a w10 => Below w0.heap.size w0 w10 ∧ w2.heap.size ≤ w10.heap.size ∧ a.defers = [] ∧ a.tmps.size = 20 ∧ Ok [(0, (.int .u8 code_0)), (2, (.int .i64 0)), (4, (.int .u8 code_0)), (8, (.bool j9))] a.tmps) ?_ ?_
    ·skip
     refine gv_cond (b := (code_0 == 104)) (by kernel_rfl) (fun hc11 => ?_) (fun hc11 => ?_)
     ·replace h2 := ite_t hc11 h2
      refine gv_skip ?_
      have e := sj h2; subst e
      refine gv_goal fun a hd hs hok => ?_
      exact ⟨hB4, nrf, hd, hs, okp [0, 2, 4, 8] hok⟩
     ·replace h2 := ite_f hc11 h2
      refine gv_region <| pN 2 [8, 10] [(8, (.bool (code_0 == 72)))] ?_
      refine gv_nil ?_
      have e := sj h2; subst e
      refine gv_goal fun a hd hs hok => ?_
      exact ⟨hB4, nrf, hd, hs, okp [0, 2, 4, 8] hok⟩
    ·rintro a w10 ⟨hB12, hz13, hd, hs, hok⟩
     refine gv_in ?_ hd hs hok
     clear hd hs hok
     refine gv_cond (b := j9) (by kernel_rfl) (fun hc14 => ?_) (fun hc14 => ?_)
     ·replace h1 := ite_t hc14 h1
      refine gv_region <| pN 1 [2] [(2, (.int .i64 2))] ?_
      refine gv_nil ?_
      have e := sj h1; subst e
      refine gv_goal fun a hd hs hok => ?_
      have hz15 := hz13
      exact ⟨hB12, hz15, hd, hs, okp [0, 2] hok⟩
     ·replace h1 := ite_f hc14 h1
      refine gv_seq <| gv_seq <| gv_region <| pN 2 [11, 12] [(11, (.bool (code_0 == 105)))] ?_
      refine gv_nil <| bindE h1 ?_; clear h1; intro j16 h2 h1
      refine gv_cut_code (J := fun a w17 => Below w0.heap.size w0 w17 ∧ w10.heap.size ≤ w17.heap.size ∧ a.defers = [] ∧ a.tmps.size = 20 ∧ Ok [(0, (.int .u8 code_0)), (2, (.int .i64 0)), (4, (.int .u8 code_0)), (11, (.bool j16))] a.tmps) ?_ ?_
      ·skip
       refine gv_cond (b := (code_0 == 105)) (by kernel_rfl) (fun hc18 => ?_) (fun hc18 => ?_)
       ·replace h2 := ite_t hc18 h2
        refine gv_skip ?_
        have e := sj h2; subst e
        refine gv_goal fun a hd hs hok => ?_
        exact ⟨hB12, nrf, hd, hs, okp [0, 2, 4, 11] hok⟩
       ·replace h2 := ite_f hc18 h2
        refine gv_region <| pN 2 [11, 13] [(11, (.bool (code_0 == 73)))] ?_
        refine gv_nil ?_
        have e := sj h2; subst e
        refine gv_goal fun a hd hs hok => ?_
        exact ⟨hB12, nrf, hd, hs, okp [0, 2, 4, 11] hok⟩
      ·rintro a w17 ⟨hB19, hz20, hd, hs, hok⟩
       refine gv_in ?_ hd hs hok
       clear hd hs hok
       have hz21 := (nt hz13 hz20)
       clear hz20 hc14 hz13 hB12 hc8 hz5 hB4
       refine gv_cond (b := j16) (by kernel_rfl) (fun hc22 => ?_) (fun hc22 => ?_)
       ·replace h1 := ite_t hc22 h1
        refine gv_region <| pN 1 [2] [(2, (.int .i64 4))] ?_
        refine gv_nil ?_
        have e := sj h1; subst e
        refine gv_goal fun a hd hs hok => ?_
        have hz23 := hz21
        exact ⟨hB19, hz23, hd, hs, okp [0, 2] hok⟩
       ·replace h1 := ite_f hc22 h1
        refine gv_seq <| gv_seq <| gv_region <| pN 2 [14, 15] [(14, (.bool (code_0 == 113)))] ?_
        refine gv_nil <| bindE h1 ?_; clear h1; intro j24 h2 h1
        refine gv_cut_code (J := fun a w25 => Below w0.heap.size w0 w25 ∧ w17.heap.size ≤ w25.heap.size ∧ a.defers = [] ∧ a.tmps.size = 20 ∧ Ok [(0, (.int .u8 code_0)), (2, (.int .i64 0)), (14, (.bool j24))] a.tmps) ?_ ?_
        ·skip
         refine gv_cond (b := (code_0 == 113)) (by kernel_rfl) (fun hc26 => ?_) (fun hc26 => ?_)
         ·replace h2 := ite_t hc26 h2
          refine gv_skip ?_
          have e := sj h2; subst e
          refine gv_goal fun a hd hs hok => ?_
          exact ⟨hB19, nrf, hd, hs, okp [0, 2, 14] hok⟩
         ·replace h2 := ite_f hc26 h2
          refine gv_region <| pN 2 [14, 16] [(14, (.bool (code_0 == 81)))] ?_
          refine gv_nil ?_
          have e := sj h2; subst e
          refine gv_goal fun a hd hs hok => ?_
          exact ⟨hB19, nrf, hd, hs, okp [0, 2, 14] hok⟩
        ·rintro a w25 ⟨hB27, hz28, hd, hs, hok⟩
         refine gv_in ?_ hd hs hok
         clear hd hs hok
         have hz29 := (nt hz21 hz28)
         clear hz28 hc22 hz21 hB19
         refine gv_cond (b := j24) (by kernel_rfl) (fun hc30 => ?_) (fun hc30 => ?_)
         ·replace h1 := ite_t hc30 h1
          refine gv_region <| pN 1 [2] [(2, (.int .i64 8))] ?_
          refine gv_nil ?_
          have e := sj h1; subst e
          refine gv_goal fun a hd hs hok => ?_
          have hz31 := hz29
          exact ⟨hB27, hz31, hd, hs, okp [0, 2] hok⟩
         ·replace h1 := ite_f hc30 h1
          refine gv_skip ?_
          have e := sj h1; subst e
          refine gv_goal fun a hd hs hok => ?_
          have hz32 := hz29
          exact ⟨hB27, hz32, hd, hs, okp [0, 2] hok⟩
  ·rintro a w7 ⟨hB33, hz34, hd, hs, hok⟩
   refine gv_in ?_ hd hs hok
   clear hd hs hok
   refine gv_blk <| gv_seq <| gv_region <| pN 5 [2, 3, 17, 18, 19] [(2, (.int .i64 j6)), (3, (.bool (decide (code_0 ≥ 97))))] ?_
   refine gv_nil <| gv_cret ?_
   have e := sj h0; subst e
   refine gv_ret (gv_done [(.int .i64 j6), (.bool (decide (code_0 ≥ 97)))] rfl ⟨(by kernel_rfl), (by kernel_rfl), trivial⟩ ?_)
   exact ⟨grown_of_below hB33, rfl⟩

theorem packing_word_ok (fuel : Nat) (pa0_0 : Option Addr) (pc0_0 : Nat) (a_0 : (Bool × (List Int))) (n_1 : Int) (signed_2 : Bool) (w0 : World) (X0 : Nat → Prop) (hX0 : ∀ k, X0 k → k < w0.heap.size) (hpa0_0 : Rd (iE .u32) w0 X0 pa0_0 pc0_0 a_0.2) (r0 : (Int × Bool)) (h0 : packing_word fuel a_0 n_1 signed_2 = some r0) :
    Calls Tryd.prog 36 ([(.agg #[(.bool a_0.1), (.slice pa0_0 (length a_0.2) pc0_0)]), (.int .i64 n_1), (.bool signed_2)] : List Value).toArray w0 (Ret fun v w' => w0.grownBy w' none ∧ v = tup [(.int .u64 r0.1), (.bool r0.2)]) := by
 have hB0 : Below w0.heap.size w0 w0 := Below.refl _ _
 unfold packing_word at h0
 refine calls_run Tryd.func36 rfl Tryd.ntmps36 (by kernel_rfl) ?_
 refine gv_sub [0, 1, 2] (σ' := [(0, (.agg #[(.bool a_0.1), (.slice pa0_0 (length a_0.2) pc0_0)])), (1, (.int .i64 n_1)), (2, (.bool signed_2))]) (by kernel_rfl) ?_
 refine gv_seq <| gv_region <| gv_new0 (fun b => .pointer (some ⟨b, 0, none⟩)) #[(.bool a_0.1), (.slice pa0_0 (length a_0.2) pc0_0)] 46 (by kernel_rfl) (by kernel_rfl) ?_
 intro b1 w2 hg3 hb4 hbe5 hz6
 refine pN 2 [6, 7] [] ?_
 refine gv_nil <| gv_seq <| gv_region <| pN 1 [8] [(8, (.int .u64 0))] ?_
 refine gv_nil <| gv_seq <| gv_seq <| gv_region <| pN 1 [12] [(12, (.pointer (some ⟨b1, 1, none⟩)))] ?_
 refine gv_load (t := 44) (A := ⟨b1, 1, none⟩) (.slice pa0_0 (length a_0.2) pc0_0) [] (fun e => by cases e) rfl rfl rfl (by kernel_rfl) (by kernel_rfl) (by kernel_rfl) (inw0 (hb4.cell 1 rfl)) rfl ?_
 refine pN 2 [14, 15] [(15, (.bool (decide (((length a_0.2 : Nat) : Int) > 2))))] ?_
 refine gv_nil <| gv_cond (b := (decide (((length a_0.2 : Nat) : Int) > 2))) (by kernel_rfl) (fun hc7 => ?_) (fun hc7 => ?_)
 ·replace h0 := ite_t hc7 h0
  refine gv_seq <| gv_region <| pN 2 [6, 7] [(6, (.int .u64 0)), (7, (.bool false))] ?_
  refine gv_nil <| gv_cret ?_
  have e := sj h0; subst e
  refine gv_ret (gv_done [(.int .u64 0), (.bool false)] rfl ⟨(by kernel_rfl), (by kernel_rfl), trivial⟩ ?_)
  have hB8 := bg hB0 hg3 nb
  exact ⟨grown_of_below hB8, rfl⟩
 ·replace h0 := ite_f hc7 h0
  refine gv_skip <| gv_seq <| gv_seq <| gv_region <| pN 1 [16] [(16, (.pointer (some ⟨b1, 1, none⟩)))] ?_
  refine gv_load (t := 44) (A := ⟨b1, 1, none⟩) (.slice pa0_0 (length a_0.2) pc0_0) [] (fun e => by cases e) rfl rfl rfl (by kernel_rfl) (by kernel_rfl) (by kernel_rfl) (inw0 (hb4.cell 1 rfl)) rfl ?_
  refine pN 2 [18, 19] [(18, (.int .i64 ((length a_0.2 : Nat) : Int))), (19, (.int .i64 0))] ?_
  refine gv_nil <| bindE h0 ?_; clear h0; intro j9 h1 h0
  refine gv_cut_code (J := fun a w10 => Below w0.heap.size w0 w10 ∧ w2.heap.size ≤ w10.heap.size ∧ Box w10 b1 46 #[(.bool a_0.1), (.slice pa0_0 (length a_0.2) pc0_0)] ∧ a.defers = [] ∧ a.tmps.size = 61 ∧ Ok [(1, (.int .i64 n_1)), (2, (.bool signed_2)), (3, (bp b1)), (8, (.int .u64 j9))] a.tmps) ?_ ?_
  ·skip
   refine gv_block <| gv_loop (A := fun (s11 : (Int × Int)) a w12 => Below w0.heap.size w0 w12 ∧ w2.heap.size ≤ w12.heap.size ∧ Box w12 b1 46 #[(.bool a_0.1), (.slice pa0_0 (length a_0.2) pc0_0)] ∧ a.defers = [] ∧ a.tmps.size = 61 ∧ Ok [(1, (.int .i64 n_1)), (2, (.bool signed_2)), (3, (bp b1)), (8, (.int .u64 s11.1)), (17, (.slice pa0_0 (length a_0.2) pc0_0)), (18, (.int .i64 ((length a_0.2 : Nat) : Int))), (19, (.int .i64 s11.2))] a.tmps) h1 ?_ ?_
   ·intro a hd hs hok
    have hB13 := bg hB0 hg3 nb
    exact ⟨hB13, nrf, hb4, hd, hs, okp [1, 2, 3, 8, 17, 18, 19] hok⟩
   ·rintro s11 r2 h2 hR2 a w12 ⟨hB14, hz15, hb16, hd, hs, hok⟩
    refine gv_in ?_ hd hs hok
    clear hd hs hok
    clear hc7 hz6 hb4 hg3
    refine gv_seq <| gv_region <| pN 1 [20] [(20, (.bool (decide (s11.2 < ((length a_0.2 : Nat) : Int)))))] ?_
    refine gv_nil <| gv_seq <| gv_cond (b := (decide (s11.2 < ((length a_0.2 : Nat) : Int)))) (by kernel_rfl) (fun hc17 => ?_) (fun hc17 => ?_)
    ·replace h2 := ite_t hc17 h2
     refine gv_skip <| gv_seq <| gv_block <| gv_seq <| gv_region <| pN 1 [21] [(21, (.int .i64 s11.2))] ?_
     refine bindE h2 ?_; clear h2; intro x18 hx19 h2
     refine gv_idxaddr (t := 44) (e := 87) (a := pa0_0) (len := length a_0.2) (cap := pc0_0) (kk := .i64) (i := s11.2) (sz := 1) [] (fun e => by cases e) rfl rfl rfl (by kernel_rfl) (by kernel_rfl) Tryd.underlying44 (by kernel_rfl) ((hpa0_0.below hB14 hX0).has hx19) (idx_spec hx19).1 (idx_spec hx19).2.1 rfl ?_
     refine gv_load (t := 87) (A := (elemAddr pa0_0 ((s11.2 : Int).toNat * 1))) (.int .u32 x18) [] (fun e => by cases e) rfl rfl rfl (by kernel_rfl) (by kernel_rfl) (by kernel_rfl) (inw0 ((hpa0_0.below hB14 hX0).cell hx19)) rfl ?_
     refine pN 2 [9, 10] [(9, (.int .i64 s11.2)), (10, (.int .u32 x18))] ?_
     refine gv_nil <| gv_region <| pN 5 [24, 25, 26, 27, 28] [(24, (.int .u64 s11.1)), (26, (.int .u64 (IntKind.u64.wrap (x18)))), (28, (.int .i64 (IntKind.i64.wrap (32 * s11.2))))] ?_
     refine bindE h2 ?_; clear h2; intro _ hx20 h2
     refine gv_shift .shl (t := 76) (kk := .u64) (ky := .i64) (x := (IntKind.u64.wrap (x18))) (y := (IntKind.i64.wrap (32 * s11.2))) (shlI .u64 (IntKind.u64.wrap (x18)) (IntKind.i64.wrap (32 * s11.2))) [] (fun e => by cases e) rfl rfl rfl (by kernel_rfl) (by kernel_rfl) (nn_spec hx20) (.inl ⟨rfl, rfl⟩) rfl ?_
     refine pN 2 [8, 30] [(8, (.int .u64 (bwOr .u64 s11.1 (shlI .u64 (IntKind.u64.wrap (x18)) (IntKind.i64.wrap (32 * s11.2))))))] ?_
     refine bindE h2 ?_; clear h2; intro n21 hn22 h2
     refine gv_name (s := 8) (v := (.int .u64 (bwOr .u64 s11.1 (shlI .u64 (IntKind.u64.wrap (x18)) (IntKind.i64.wrap (32 * s11.2)))))) (v' := (.int .u64 n21)) (by kernel_rfl) (congrArg (Value.int .u64) (sj hn22)) ?_
     refine gv_nil <| gv_blk <| gv_region <| pN 2 [19, 31] [(19, (.int .i64 (IntKind.i64.wrap (s11.2 + 1))))] ?_
     refine gv_nil ?_
     have e := sj h2; subst e
     refine gv_goal fun a hd hs hok => ?_
     have hz23 := hz15
     exact ⟨(n21, (IntKind.i64.wrap (s11.2 + 1))), rfl, hB14, hz23, hb16, hd, hs, okp [1, 2, 3, 8, 17, 18, 19] hok⟩
    ·replace h2 := ite_f hc17 h2
     refine gv_cexit <| gv_exit rfl ?_
     have e := sj h2; subst e
     replace h1 := congrArg some (hR2 _ rfl)
     have e := sj h1; subst e
     refine gv_goal fun a hd hs hok => ?_
     have hz24 := hz15
     exact ⟨hB14, hz24, hb16, hd, hs, okp [1, 2, 3, 8] hok⟩
  ·rintro a w10 ⟨hB25, hz26, hb27, hd, hs, hok⟩
   refine gv_in ?_ hd hs hok
   clear hd hs hok
   clear hz26 hc7 hz6 hb4 hg3
   refine gv_seq <| gv_region <| pN 3 [32, 33, 34] [(34, (.int .i64 (IntKind.i64.wrap ((IntKind.i64.wrap (8 * n_1)) - 1))))] ?_
   refine bindE h0 ?_; clear h0; intro _ hx28 h0
   refine gv_shift .shl (t := 76) (kk := .u64) (ky := .i64) (x := 1) (y := (IntKind.i64.wrap ((IntKind.i64.wrap (8 * n_1)) - 1))) (shlI .u64 1 (IntKind.i64.wrap ((IntKind.i64.wrap (8 * n_1)) - 1))) [] (fun e => by cases e) rfl rfl rfl (by kernel_rfl) (by kernel_rfl) (nn_spec hx28) (.inl ⟨rfl, rfl⟩) rfl ?_
   refine pN 1 [11] [(11, (.int .u64 (shlI .u64 1 (IntKind.i64.wrap ((IntKind.i64.wrap (8 * n_1)) - 1)))))] ?_
   refine bindE h0 ?_; clear h0; intro n29 hn30 h0
   refine gv_name (s := 11) (v := (.int .u64 (shlI .u64 1 (IntKind.i64.wrap ((IntKind.i64.wrap (8 * n_1)) - 1))))) (v' := (.int .u64 n29)) (by kernel_rfl) (congrArg (Value.int .u64) (sj hn30)) ?_
   refine gv_nil <| gv_seq <| gv_block <| gv_seq <| gv_region <| pN 3 [36, 37, 38] [(36, (.bool (!signed_2)))] ?_
   refine gv_nil <| gv_cond (b := (!signed_2)) (by kernel_rfl) (fun hc31 => ?_) (fun hc31 => ?_)
   ·replace h0 := ite_t hc31 h0
    refine gv_seq <| gv_region <| bindE h0 ?_; clear h0; intro j32 h1 h0
    refine gv_cut_ops (J := fun a w33 => Below w0.heap.size w0 w33 ∧ w10.heap.size ≤ w33.heap.size ∧ a.defers = [] ∧ a.tmps.size = 61 ∧ Ok [(6, (.int .u64 j32.1)), (7, (.bool j32.2))] a.tmps) ?_ ?_
    ·skip
     refine pN 2 [39, 40] [(39, (.int .u64 j9)), (40, (bp b1))] ?_
     refine gv_load (t := 4) (A := ⟨b1, 0, none⟩) (.bool a_0.1) [] (fun e => by cases e) rfl rfl rfl (by kernel_rfl) (by kernel_rfl) (by kernel_rfl) (inw0 (hb27.cell 0 rfl)) rfl ?_
     refine pN 2 [42, 43] [(43, (.bool (!a_0.1)))] ?_
     refine gv_split (s := 43) (g := (!a_0.1)) (by kernel_rfl) (fun hc34 => ?_) (fun hc34 => ?_)
     ·skip
      replace h1 := ite_t hc34 h1
      refine pN 7 [6, 7, 44, 45, 46, 47, 48] [(6, (.int .u64 j9)), (7, (.bool (decide (((j9).fdiv (2 ^ 1)) < n29))))] ?_
      refine gv_nil ?_
      have e := sj h1; subst e
      refine gv_goal fun a hd hs hok => ?_
      exact ⟨hB25, nrf, hd, hs, okp [6, 7] hok⟩
     ·skip
      replace h1 := ite_f hc34 h1
      refine pN 7 [6, 7, 44, 45, 46, 47, 48] [(6, (.int .u64 j9)), (7, (.bool false))] ?_
      refine gv_nil ?_
      have e := sj h1; subst e
      refine gv_goal fun a hd hs hok => ?_
      exact ⟨hB25, nrf, hd, hs, okp [6, 7] hok⟩
    ·rintro a w33 ⟨hB35, hz36, hd, hs, hok⟩
     refine gv_in ?_ hd hs hok
     clear hd hs hok
     clear hz36 hc31 hn30 hx28 hb27 hB25 hbe5
     refine gv_cret ?_
     have e := sj h0; subst e
     refine gv_ret (gv_done [(.int .u64 j32.1), (.bool j32.2)] rfl ⟨(by kernel_rfl), (by kernel_rfl), trivial⟩ ?_)
     exact ⟨grown_of_below hB35, rfl⟩
   ·replace h0 := ite_f hc31 h0
    refine gv_seq <| gv_region <| pN 1 [50] [(50, (bp b1))] ?_
    refine gv_load (t := 4) (A := ⟨b1, 0, none⟩) (.bool a_0.1) [] (fun e => by cases e) rfl rfl rfl (by kernel_rfl) (by kernel_rfl) (by kernel_rfl) (inw0 (hb27.cell 0 rfl)) rfl ?_
    refine pN 1 [49] [(49, (.bool a_0.1))] ?_
    refine gv_nil <| gv_cond (b := a_0.1) (by kernel_rfl) (fun hc37 => ?_) (fun hc37 => ?_)
    ·replace h0 := ite_t hc37 h0
     refine gv_seq <| gv_region <| pN 7 [6, 7, 52, 53, 54, 55, 56] [(6, (.int .u64 (IntKind.u64.wrap (0 - j9)))), (7, (.bool (decide (j9 ≤ n29))))] ?_
     refine gv_nil <| gv_cret ?_
     have e := sj h0; subst e
     refine gv_ret (gv_done [(.int .u64 (IntKind.u64.wrap (0 - j9))), (.bool (decide (j9 ≤ n29)))] rfl ⟨(by kernel_rfl), (by kernel_rfl), trivial⟩ ?_)
     exact ⟨grown_of_below hB25, rfl⟩
    ·replace h0 := ite_f hc37 h0
     refine gv_skip <| gv_blk <| gv_seq <| gv_region <| pN 6 [6, 7, 57, 58, 59, 60] [(6, (.int .u64 j9)), (7, (.bool (decide (j9 < n29))))] ?_
     refine gv_nil <| gv_cret ?_
     have e := sj h0; subst e
     refine gv_ret (gv_done [(.int .u64 j9), (.bool (decide (j9 < n29)))] rfl ⟨(by kernel_rfl), (by kernel_rfl), trivial⟩ ?_)
     exact ⟨grown_of_below hB25, rfl⟩

theorem packing_zigzag_ok (fuel : Nat) (pa0_0 : Option Addr) (pc0_0 : Nat) (out_0 : (List UInt8)) (u_1 : Int) (w0 : World) (hpa0_0 : Gv.Own bE 5 w0 (fun _ => False) pa0_0 pc0_0 out_0) (r0 : (List UInt8)) (h0 : packing_zigzag fuel out_0 u_1 = some r0) :
    Calls Tryd.prog 37 ([(.slice pa0_0 (length out_0) pc0_0), (.int .u64 u_1)] : List Value).toArray w0 (Ret fun v w' => w0.grownBy w' (blk pa0_0) ∧ ∃ (a0_0r : Option Addr) (c0_0r : Nat), v = tup [(.slice a0_0r (length r0) c0_0r)] ∧ Gv.Own bE 5 w' (fun _ => False) a0_0r c0_0r r0 ∧ (∀ g, blk a0_0r = some g → blk pa0_0 = some g ∨ w0.heap.size ≤ g)) := by
 have hB0 : w0.grownBy w0 (blk pa0_0) := grown_refl _ _
 unfold packing_zigzag at h0
 refine calls_run Tryd.func37 rfl Tryd.ntmps37 (by kernel_rfl) ?_
 refine gv_sub [0, 1] (σ' := [(0, (.slice pa0_0 (length out_0) pc0_0)), (1, (.int .u64 u_1))]) (by kernel_rfl) ?_
 refine gv_seq <| gv_region <| pN 1 [4] [] ?_
 refine gv_nil <| gv_seq <| gv_region <| pN 7 [1, 5, 6, 7, 8, 9, 10] [(1, (.int .u64 (bwXor .u64 (IntKind.u64.wrap (u_1 * 2 ^ 1)) (IntKind.u64.wrap (0 - ((u_1).fdiv (2 ^ 63)))))))] ?_
 refine bindE h0 ?_; clear h0; intro n1 hn2 h0
 refine gv_name (s := 1) (v := (.int .u64 (bwXor .u64 (IntKind.u64.wrap (u_1 * 2 ^ 1)) (IntKind.u64.wrap (0 - ((u_1).fdiv (2 ^ 63))))))) (v' := (.int .u64 n1)) (by kernel_rfl) (congrArg (Value.int .u64) (sj hn2)) ?_
 refine gv_nil <| gv_seq <| bindE h0 ?_; clear h0; intro j3 h1 h0
 refine gv_cut_code (J := fun a w4 => ∃ (a0_0j : Option Addr) (c0_0j : Nat), w0.grownBy w4 (blk pa0_0) ∧ w0.heap.size ≤ w4.heap.size ∧ Gv.Own bE 5 w4 (fun _ => False) a0_0j c0_0j j3.1 ∧ (∀ g, blk a0_0j = some g → blk pa0_0 = some g ∨ w0.heap.size ≤ g) ∧ a.defers = [] ∧ a.tmps.size = 26 ∧ Ok [(0, (.slice a0_0j (length j3.1) c0_0j)), (1, (.int .u64 j3.2))] a.tmps) ?_ ?_
 ·skip
  refine gv_block <| gv_loop (A := fun (s5 : ((List UInt8) × Int)) a w6 => ∃ (a0_0j : Option Addr) (c0_0j : Nat), w0.grownBy w6 (blk pa0_0) ∧ w0.heap.size ≤ w6.heap.size ∧ Gv.Own bE 5 w6 (fun _ => False) a0_0j c0_0j s5.1 ∧ (∀ g, blk a0_0j = some g → blk pa0_0 = some g ∨ w0.heap.size ≤ g) ∧ a.defers = [] ∧ a.tmps.size = 26 ∧ Ok [(0, (.slice a0_0j (length s5.1) c0_0j)), (1, (.int .u64 s5.2))] a.tmps) h1 ?_ ?_
  ·intro a hd hs hok
   exact ⟨pa0_0, pc0_0, hB0, nrf, hpa0_0, (fun g e => Or.inl e), hd, hs, okp [0, 1] hok⟩
  ·rintro s5 r2 h2 hR2 a w6 ⟨a9, c10, hB7, hz8, ho11, hl12, hd, hs, hok⟩
   refine gv_in ?_ hd hs hok
   clear hd hs hok
   refine gv_seq <| gv_seq <| gv_region <| pN 2 [11, 12] [(12, (.bool (decide (s5.2 ≥ 128))))] ?_
   refine gv_nil <| gv_cond (b := (decide (s5.2 ≥ 128))) (by kernel_rfl) (fun hc13 => ?_) (fun hc13 => ?_)
   ·replace h2 := ite_t hc13 h2
    refine gv_skip <| gv_seq <| gv_block <| gv_region <| pN 4 [15, 16, 17, 18] [(15, (.slice a9 (length s5.1) c10)), (18, (.int .u8 (bwOr .u8 (IntKind.u8.wrap (s5.2)) 128)))] ?_
    refine bindE h2 ?_; clear h2; intro b14 hb15 h2
    have hu16 := u8_spec hb15
    refine gv_new0 (fun b => .slice (some ⟨b, 0, none⟩) 1 1) #[(.int .u8 (bwOr .u8 (IntKind.u8.wrap (s5.2)) 128))] 5 (by kernel_rfl) (by kernel_rfl) ?_
    intro b17 w18 hg19 hb20 hbe21 hz22
    have ho23 : Gv.Own bE 5 w18 (fun _ => False) (some ⟨b17, 0, none⟩) 1 ([b14] : List UInt8) := Box.ownE hb20 ⟨[(.int .u8 (bwOr .u8 (IntKind.u8.wrap (s5.2)) 128))], [], rfl, (by simp only [bE, flat, hu16]), rfl⟩ (show 1 ≤ maxLen by decide) (fun h => h)
    have hl24 : ∀ g, blk (some ⟨b17, 0, none⟩) = some g → w0.heap.size ≤ g := loo hbe21 hB7.size
    refine bindE h2 ?_; clear h2; intro l28 hx29 h2
    have hk36 := ho11.grown hg19 (fun _ h => h.elim) nb
    refine gv_append bE (t := 24) (ty := 24) (e := 5) (a := a9) (ax := (some ⟨b17, 0, none⟩)) (cap := c10) (cx := 1) (xs := s5.1) (ys := ([b14] : List UInt8)) l28 (X := (fun _ => False)) (Y := (fun k => blk (some ⟨b17, 0, none⟩) = some k)) (by decide) rfl rfl (by kernel_rfl) (by kernel_rfl) Tryd.underlying24 info5 hk36 (ho23.rd (Y := fun k => blk (some ⟨b17, 0, none⟩) = some k) (fun _ h => h.elim) (fun g e => e)) hx29 (.inr fun _ _ _ _ _ h => h) (fun _ h => h.elim) ?_
    intro a30 c31 w32 hg33 ho34 hk35
    refine ⟨(fun e => by cases e), ?_⟩
    have hB38 := grown_stepO hB7 hg19 nb
    have hl37 : ∀ g, blk a30 = some g → blk pa0_0 = some g ∨ w0.heap.size ≤ g := blkw_tr (blkw_of hk35) hl12 hB38.size
    have ap40 : ∀ g, blk a9 = some g → ¬ (fun k => blk (some ⟨b17, 0, none⟩) = some k) g := fun g e hx => nl ((lowo hbe21) _ hx) ((fun k (hk : blk a9 = some k) => ho11.lt k hk) g e)
    have ap39 : ∀ g, blk a30 = some g → ¬ (fun k => blk (some ⟨b17, 0, none⟩) = some k) g := blk_neX hk35 ap40 (fun k (hk : blk (some ⟨b17, 0, none⟩) = some k) => ho23.lt k hk)
    have ap42 : ∀ g, blk (some ⟨b17, 0, none⟩) = some g → ¬ (fun k => blk a9 = some k) g := fun g e hx => nl ((lowo hbe21) g e) ((fun k (hk : blk a9 = some k) => ho11.lt k hk) _ hx)
    have ap41 : ∀ g, blk (some ⟨b17, 0, none⟩) = some g → ¬ (fun k => blk a30 = some k) g := fun g e h => blk_rev hk35 (fun h => ((ap42) g e) h) (ho23.lt g e) h
    refine pN 1 [0] [(0, (.slice a30 (length l28) c31))] ?_
    refine gv_nil <| gv_blk <| gv_region <| pN 3 [1, 13, 14] [(1, (.int .u64 ((s5.2).fdiv (2 ^ 7))))] ?_
    refine gv_nil ?_
    have e := sj h2; subst e
    refine gv_goal fun a hd hs hok => ?_
    have hB43 := grown_stepO hB38 hg33 hl12
    have hz44 := (nt (nt hz8 hg19.size) hg33.size)
    exact ⟨(l28, ((s5.2).fdiv (2 ^ 7))), rfl, a30, c31, hB43, hz44, ho34, hl37, hd, hs, okp [0, 1] hok⟩
   ·replace h2 := ite_f hc13 h2
    refine gv_cexit <| gv_exit rfl ?_
    have e := sj h2; subst e
    replace h1 := congrArg some (hR2 _ rfl)
    have e := sj h1; subst e
    refine gv_goal fun a hd hs hok => ?_
    have hz45 := hz8
    exact ⟨a9, c10, hB7, hz45, ho11, hl12, hd, hs, okp [0, 1] hok⟩
 ·rintro a w4 ⟨a48, c49, hB46, hz47, ho50, hl51, hd, hs, hok⟩
  refine gv_in ?_ hd hs hok
  clear hd hs hok
  refine gv_seq <| gv_region <| pN 3 [21, 22, 23] [(21, (.slice a48 (length j3.1) c49)), (23, (.int .u8 (IntKind.u8.wrap (j3.2))))] ?_
  refine bindE h0 ?_; clear h0; intro b52 hb53 h0
  have hu54 := u8_spec hb53
  refine gv_new0 (fun b => .slice (some ⟨b, 0, none⟩) 1 1) #[(.int .u8 (IntKind.u8.wrap (j3.2)))] 5 (by kernel_rfl) (by kernel_rfl) ?_
  intro b55 w56 hg57 hb58 hbe59 hz60
  have ho61 : Gv.Own bE 5 w56 (fun _ => False) (some ⟨b55, 0, none⟩) 1 ([b52] : List UInt8) := Box.ownE hb58 ⟨[(.int .u8 (IntKind.u8.wrap (j3.2)))], [], rfl, (by simp only [bE, flat, hu54]), rfl⟩ (show 1 ≤ maxLen by decide) (fun h => h)
  have hl62 : ∀ g, blk (some ⟨b55, 0, none⟩) = some g → w0.heap.size ≤ g := loo hbe59 hB46.size
  refine bindE h0 ?_; clear h0; intro l66 hx67 h0
  have hk74 := ho50.grown hg57 (fun _ h => h.elim) nb
  refine gv_append bE (t := 24) (ty := 24) (e := 5) (a := a48) (ax := (some ⟨b55, 0, none⟩)) (cap := c49) (cx := 1) (xs := j3.1) (ys := ([b52] : List UInt8)) l66 (X := (fun _ => False)) (Y := (fun k => blk (some ⟨b55, 0, none⟩) = some k)) (by decide) rfl rfl (by kernel_rfl) (by kernel_rfl) Tryd.underlying24 info5 hk74 (ho61.rd (Y := fun k => blk (some ⟨b55, 0, none⟩) = some k) (fun _ h => h.elim) (fun g e => e)) hx67 (.inr fun _ _ _ _ _ h => h) (fun _ h => h.elim) ?_
  intro a68 c69 w70 hg71 ho72 hk73
  refine ⟨(fun e => by cases e), ?_⟩
  have hB76 := grown_stepO hB46 hg57 nb
  have hl75 : ∀ g, blk a68 = some g → blk pa0_0 = some g ∨ w0.heap.size ≤ g := blkw_tr (blkw_of hk73) hl51 hB76.size
  have ap78 : ∀ g, blk a48 = some g → ¬ (fun k => blk (some ⟨b55, 0, none⟩) = some k) g := fun g e hx => nl ((lowo hbe59) _ hx) ((fun k (hk : blk a48 = some k) => ho50.lt k hk) g e)
  have ap77 : ∀ g, blk a68 = some g → ¬ (fun k => blk (some ⟨b55, 0, none⟩) = some k) g := blk_neX hk73 ap78 (fun k (hk : blk (some ⟨b55, 0, none⟩) = some k) => ho61.lt k hk)
  have ap80 : ∀ g, blk (some ⟨b55, 0, none⟩) = some g → ¬ (fun k => blk a48 = some k) g := fun g e hx => nl ((lowo hbe59) g e) ((fun k (hk : blk a48 = some k) => ho50.lt k hk) _ hx)
  have ap79 : ∀ g, blk (some ⟨b55, 0, none⟩) = some g → ¬ (fun k => blk a68 = some k) g := fun g e h => blk_rev hk73 (fun h => ((ap80) g e) h) (ho61.lt g e) h
  refine pN 1 [4] [(4, (.slice a68 (length l66) c69))] ?_
  refine gv_nil <| gv_cret ?_
  have e := sj h0; subst e
  refine gv_ret (gv_done [(.slice a68 (length l66) c69)] rfl ⟨(by kernel_rfl), trivial⟩ ?_)
  have hB81 := grown_stepO hB76 hg71 hl51
  exact ⟨hB81, a68, c69, rfl, ho72, hl75⟩

theorem packing_order_ok (fuel : Nat) (pa0_0 : Option Addr) (pc0_0 : Nat) (out_0 : (List UInt8)) (u_1 : Int) (n_2 : Int) (big_3 : Bool) (w0 : World) (hpa0_0 : Gv.Own bE 5 w0 (fun _ => False) pa0_0 pc0_0 out_0) (r0 : (List UInt8)) (h0 : packing_order fuel out_0 u_1 n_2 big_3 = some r0) :
    Calls Tryd.prog 38 ([(.slice pa0_0 (length out_0) pc0_0), (.int .u64 u_1), (.int .i64 n_2), (.bool big_3)] : List Value).toArray w0 (Ret fun v w' => w0.grownBy w' (blk pa0_0) ∧ ∃ (a0_0r : Option Addr) (c0_0r : Nat), v = tup [(.slice a0_0r (length r0) c0_0r)] ∧ Gv.Own bE 5 w' (fun _ => False) a0_0r c0_0r r0 ∧ (∀ g, blk a0_0r = some g → blk pa0_0 = some g ∨ w0.heap.size ≤ g)) := by
 have hB0 : w0.grownBy w0 (blk pa0_0) := grown_refl _ _
 unfold packing_order at h0
 refine calls_run Tryd.func38 rfl Tryd.ntmps38 (by kernel_rfl) ?_
 refine gv_sub [0, 1, 2, 3] (σ' := [(0, (.slice pa0_0 (length out_0) pc0_0)), (1, (.int .u64 u_1)), (2, (.int .i64 n_2)), (3, (.bool big_3))]) (by kernel_rfl) ?_
 refine gv_seq <| gv_region <| pN 1 [8] [] ?_
 refine gv_nil <| gv_seq <| gv_seq <| gv_region <| pN 2 [11, 12] [(11, (.int .i64 n_2)), (12, (.int .i64 0))] ?_
 refine gv_nil <| bindE h0 ?_; clear h0; intro j1 h1 h0
 refine gv_cut_code (J := fun a w2 => ∃ (a0_0j : Option Addr) (c0_0j : Nat), w0.grownBy w2 (blk pa0_0) ∧ w0.heap.size ≤ w2.heap.size ∧ Gv.Own bE 5 w2 (fun _ => False) a0_0j c0_0j j1 ∧ (∀ g, blk a0_0j = some g → blk pa0_0 = some g ∨ w0.heap.size ≤ g) ∧ a.defers = [] ∧ a.tmps.size = 31 ∧ Ok [(0, (.slice a0_0j (length j1) c0_0j))] a.tmps) ?_ ?_
 ·skip
  refine gv_block <| gv_loop (A := fun (s3 : ((List UInt8) × Int)) a w4 => ∃ (a0_0j : Option Addr) (c0_0j : Nat), w0.grownBy w4 (blk pa0_0) ∧ w0.heap.size ≤ w4.heap.size ∧ Gv.Own bE 5 w4 (fun _ => False) a0_0j c0_0j s3.1 ∧ (∀ g, blk a0_0j = some g → blk pa0_0 = some g ∨ w0.heap.size ≤ g) ∧ a.defers = [] ∧ a.tmps.size = 31 ∧ Ok [(0, (.slice a0_0j (length s3.1) c0_0j)), (1, (.int .u64 u_1)), (2, (.int .i64 n_2)), (3, (.bool big_3)), (11, (.int .i64 n_2)), (12, (.int .i64 s3.2))] a.tmps) h1 ?_ ?_
  ·intro a hd hs hok
   exact ⟨pa0_0, pc0_0, hB0, nrf, hpa0_0, (fun g e => Or.inl e), hd, hs, okp [0, 1, 2, 3, 11, 12] hok⟩
  ·rintro s3 r2 h2 hR2 a w4 ⟨a7, c8, hB5, hz6, ho9, hl10, hd, hs, hok⟩
   refine gv_in ?_ hd hs hok
   clear hd hs hok
   refine gv_seq <| gv_region <| pN 1 [13] [(13, (.bool (decide (s3.2 < n_2))))] ?_
   refine gv_nil <| gv_seq <| gv_cond (b := (decide (s3.2 < n_2))) (by kernel_rfl) (fun hc11 => ?_) (fun hc11 => ?_)
   ·replace h2 := ite_t hc11 h2
    refine gv_skip <| gv_seq <| gv_block <| gv_seq <| gv_region <| pN 2 [9, 14] [(9, (.int .i64 s3.2))] ?_
    refine gv_nil <| gv_seq <| gv_region <| pN 2 [10, 15] [(10, (.int .i64 s3.2))] ?_
    refine gv_nil <| gv_seq <| gv_seq <| gv_region <| pN 1 [16] [(16, (.bool big_3))] ?_
    refine gv_nil <| bindE h2 ?_; clear h2; intro j12 h3 h2
    refine gv_cut_code (J := fun a w13 => w0.grownBy w13 (blk pa0_0) ∧ w4.heap.size ≤ w13.heap.size ∧ Gv.Own bE 5 w13 (fun _ => False) a7 c8 s3.1 ∧ a.defers = [] ∧ a.tmps.size = 31 ∧ Ok [(0, (.slice a7 (length s3.1) c8)), (1, (.int .u64 u_1)), (2, (.int .i64 n_2)), (3, (.bool big_3)), (10, (.int .i64 j12)), (11, (.int .i64 n_2)), (12, (.int .i64 s3.2))] a.tmps) ?_ ?_
    ·skip
     refine gv_cond (b := big_3) (by kernel_rfl) (fun hc14 => ?_) (fun hc14 => ?_)
     ·replace h3 := ite_t hc14 h3
      refine gv_region <| pN 5 [10, 17, 18, 19, 20] [(10, (.int .i64 (IntKind.i64.wrap ((IntKind.i64.wrap (n_2 - 1)) - s3.2))))] ?_
      refine bindE h3 ?_; clear h3; intro n15 hn16 h3
      refine gv_name (s := 10) (v := (.int .i64 (IntKind.i64.wrap ((IntKind.i64.wrap (n_2 - 1)) - s3.2)))) (v' := (.int .i64 n15)) (by kernel_rfl) (congrArg (Value.int .i64) (sj hn16)) ?_
      refine gv_nil ?_
      have e := sj h3; subst e
      refine gv_goal fun a hd hs hok => ?_
      exact ⟨hB5, nrf, ho9, hd, hs, okp [0, 1, 2, 3, 10, 11, 12] hok⟩
     ·replace h3 := ite_f hc14 h3
      refine gv_skip ?_
      have e := sj h3; subst e
      refine gv_goal fun a hd hs hok => ?_
      exact ⟨hB5, nrf, ho9, hd, hs, okp [0, 1, 2, 3, 10, 11, 12] hok⟩
    ·rintro a w13 ⟨hB17, hz18, hk19, hd, hs, hok⟩
     refine gv_in ?_ hd hs hok
     clear hd hs hok
     have hz20 := (nt hz6 hz18)
     clear hz18 hc11 ho9 hz6 hB5
     refine gv_region <| pN 4 [21, 22, 23, 24] [(21, (.slice a7 (length s3.1) c8)), (22, (.int .u64 u_1)), (24, (.int .i64 (IntKind.i64.wrap (8 * j12))))] ?_
     refine bindE h2 ?_; clear h2; intro _ hx21 h2
     refine gv_shift .shr (t := 76) (kk := .u64) (ky := .i64) (x := u_1) (y := (IntKind.i64.wrap (8 * j12))) (shrI .u64 u_1 (IntKind.i64.wrap (8 * j12))) [] (fun e => by cases e) rfl rfl rfl (by kernel_rfl) (by kernel_rfl) (nn_spec hx21) (.inr ⟨rfl, rfl⟩) rfl ?_
     refine pN 1 [26] [(26, (.int .u8 (IntKind.u8.wrap ((shrI .u64 u_1 (IntKind.i64.wrap (8 * j12)))))))] ?_
     refine bindE h2 ?_; clear h2; intro b22 hb23 h2
     have hu24 := u8_spec hb23
     refine gv_new0 (fun b => .slice (some ⟨b, 0, none⟩) 1 1) #[(.int .u8 (IntKind.u8.wrap ((shrI .u64 u_1 (IntKind.i64.wrap (8 * j12))))))] 5 (by kernel_rfl) (by kernel_rfl) ?_
     intro b25 w26 hg27 hb28 hbe29 hz30
     have ho31 : Gv.Own bE 5 w26 (fun _ => False) (some ⟨b25, 0, none⟩) 1 ([b22] : List UInt8) := Box.ownE hb28 ⟨[(.int .u8 (IntKind.u8.wrap ((shrI .u64 u_1 (IntKind.i64.wrap (8 * j12))))))], [], rfl, (by simp only [bE, flat, hu24]), rfl⟩ (show 1 ≤ maxLen by decide) (fun h => h)
     have hl32 : ∀ g, blk (some ⟨b25, 0, none⟩) = some g → w0.heap.size ≤ g := loo hbe29 hB17.size
     refine bindE h2 ?_; clear h2; intro l36 hx37 h2
     have hk44 := hk19.grown hg27 (fun _ h => h.elim) nb
     refine gv_append bE (t := 24) (ty := 24) (e := 5) (a := a7) (ax := (some ⟨b25, 0, none⟩)) (cap := c8) (cx := 1) (xs := s3.1) (ys := ([b22] : List UInt8)) l36 (X := (fun _ => False)) (Y := (fun k => blk (some ⟨b25, 0, none⟩) = some k)) (by decide) rfl rfl (by kernel_rfl) (by kernel_rfl) Tryd.underlying24 info5 hk44 (ho31.rd (Y := fun k => blk (some ⟨b25, 0, none⟩) = some k) (fun _ h => h.elim) (fun g e => e)) hx37 (.inr fun _ _ _ _ _ h => h) (fun _ h => h.elim) ?_
     intro a38 c39 w40 hg41 ho42 hk43
     refine ⟨(fun e => by cases e), ?_⟩
     have hB46 := grown_stepO hB17 hg27 nb
     have hl45 : ∀ g, blk a38 = some g → blk pa0_0 = some g ∨ w0.heap.size ≤ g := blkw_tr (blkw_of hk43) hl10 hB46.size
     have ap48 : ∀ g, blk a7 = some g → ¬ (fun k => blk (some ⟨b25, 0, none⟩) = some k) g := fun g e hx => nl ((lowo hbe29) _ hx) ((fun k (hk : blk a7 = some k) => hk19.lt k hk) g e)
     have ap47 : ∀ g, blk a38 = some g → ¬ (fun k => blk (some ⟨b25, 0, none⟩) = some k) g := blk_neX hk43 ap48 (fun k (hk : blk (some ⟨b25, 0, none⟩) = some k) => ho31.lt k hk)
     have ap50 : ∀ g, blk (some ⟨b25, 0, none⟩) = some g → ¬ (fun k => blk a7 = some k) g := fun g e hx => nl ((lowo hbe29) g e) ((fun k (hk : blk a7 = some k) => hk19.lt k hk) _ hx)
     have ap49 : ∀ g, blk (some ⟨b25, 0, none⟩) = some g → ¬ (fun k => blk a38 = some k) g := fun g e h => blk_rev hk43 (fun h => ((ap50) g e) h) (ho31.lt g e) h
     refine pN 1 [0] [(0, (.slice a38 (length l36) c39))] ?_
     refine gv_nil <| gv_blk <| gv_region <| pN 2 [12, 29] [(12, (.int .i64 (IntKind.i64.wrap (s3.2 + 1))))] ?_
     refine gv_nil ?_
     have e := sj h2; subst e
     refine gv_goal fun a hd hs hok => ?_
     have hB51 := grown_stepO hB46 hg41 hl10
     have hz52 := (nt (nt hz20 hg27.size) hg41.size)
     exact ⟨(l36, (IntKind.i64.wrap (s3.2 + 1))), rfl, a38, c39, hB51, hz52, ho42, hl45, hd, hs, okp [0, 1, 2, 3, 11, 12] hok⟩
   ·replace h2 := ite_f hc11 h2
    refine gv_cexit <| gv_exit rfl ?_
    have e := sj h2; subst e
    replace h1 := congrArg some (hR2 _ rfl)
    have e := sj h1; subst e
    refine gv_goal fun a hd hs hok => ?_
    have hz53 := hz6
    exact ⟨a7, c8, hB5, hz53, ho9, hl10, hd, hs, okp [0] hok⟩
 ·rintro a w2 ⟨a56, c57, hB54, hz55, ho58, hl59, hd, hs, hok⟩
  refine gv_in ?_ hd hs hok
  clear hd hs hok
  refine gv_seq <| gv_region <| pN 2 [8, 30] [(8, (.slice a56 (length j1) c57))] ?_
  refine gv_nil <| gv_cret ?_
  have e := sj h0; subst e
  refine gv_ret (gv_done [(.slice a56 (length j1) c57)] rfl ⟨(by kernel_rfl), trivial⟩ ?_)
  exact ⟨hB54, a56, c57, rfl, ho58, hl59⟩

theorem packing_pack_ok (fuel : Nat) (pa0_0 : Option Addr) (pc0_0 : Nat) (out_0 : (List UInt8)) (f_1 : (Int × Int × Bool)) (pa2_0 : Option Addr) (pc2_0 : Nat) (pa2_1 : Option Addr) (pc2_1 : Nat) (v_2 : (Int × (Bool × (List Int)) × (Bool × (List Int)) × ByteArray × Int)) (w0 : World) (X0 : Nat → Prop) (hX0 : ∀ k, X0 k → k < w0.heap.size ∧ blk pa0_0 ≠ some k) (hpa0_0 : Gv.Own bE 5 w0 (fun _ => False) pa0_0 pc0_0 out_0) (hpa2_0 : Rd (iE .u32) w0 X0 pa2_0 pc2_0 v_2.2.1.2) (hpa2_1 : Rd (iE .u32) w0 X0 pa2_1 pc2_1 v_2.2.2.1.2) (r0 : ((List UInt8) × Int)) (h0 : packing_pack fuel out_0 f_1 v_2 = some r0) :
    Calls Tryd.prog 23 ([(.slice pa0_0 (length out_0) pc0_0), (.agg #[(.int .u8 f_1.1), (.int .i64 f_1.2.1), (.bool f_1.2.2)]), (.agg #[(.int .i64 v_2.1), (.bool v_2.2.1.1), (.slice pa2_0 (length v_2.2.1.2) pc2_0), (.bool v_2.2.2.1.1), (.slice pa2_1 (length v_2.2.2.1.2) pc2_1), (.string v_2.2.2.2.1), (.int .i64 v_2.2.2.2.2)])] : List Value).toArray w0 (Ret fun v w' => w0.grownBy w' (blk pa0_0) ∧ ∃ (a0_0r : Option Addr) (c0_0r : Nat), v = tup [(.slice a0_0r (length r0.1) c0_0r), (.int .i64 r0.2)] ∧ Gv.Own bE 5 w' (fun _ => False) a0_0r c0_0r r0.1 ∧ (∀ g, blk a0_0r = some g → blk pa0_0 = some g ∨ w0.heap.size ≤ g)) := by
 have hB0 : w0.grownBy w0 (blk pa0_0) := grown_refl _ _
 unfold packing_pack at h0
 refine calls_run Tryd.func23 rfl Tryd.ntmps23 (by kernel_rfl) ?_
 refine gv_sub [0, 1, 2] (σ' := [(0, (.slice pa0_0 (length out_0) pc0_0)), (1, (.agg #[(.int .u8 f_1.1), (.int .i64 f_1.2.1), (.bool f_1.2.2)])), (2, (.agg #[(.int .i64 v_2.1), (.bool v_2.2.1.1), (.slice pa2_0 (length v_2.2.1.2) pc2_0), (.bool v_2.2.2.1.1), (.slice pa2_1 (length v_2.2.2.1.2) pc2_1), (.string v_2.2.2.2.1), (.int .i64 v_2.2.2.2.2)]))]) (by kernel_rfl) ?_
 refine gv_seq <| gv_region <| gv_new0 (fun b => .pointer (some ⟨b, 0, none⟩)) #[(.int .u8 f_1.1), (.int .i64 f_1.2.1), (.bool f_1.2.2)] 31 (by kernel_rfl) (by kernel_rfl) ?_
 intro b1 w2 hg3 hb4 hbe5 hz6
 refine gv_new0 (fun b => .pointer (some ⟨b, 0, none⟩)) #[(.int .i64 v_2.1), (.bool v_2.2.1.1), (.slice pa2_0 (length v_2.2.1.2) pc2_0), (.bool v_2.2.2.1.1), (.slice pa2_1 (length v_2.2.2.1.2) pc2_1), (.string v_2.2.2.2.1), (.int .i64 v_2.2.2.2.2)] 48 (by kernel_rfl) (by kernel_rfl) ?_
 intro b7 w8 hg9 hb10 hbe11 hz12
 refine pN 2 [6, 7] [] ?_
 refine gv_nil <| gv_seq <| gv_region <| pN 1 [8] [(8, (.int .i64 2))] ?_
 refine gv_nil <| gv_seq <| gv_seq <| gv_region <| pN 1 [13] [(13, (bp b1))] ?_
 have hk13 := hb4.grown hg9 nb
 refine gv_load (t := 5) (A := ⟨b1, 0, none⟩) (.int .u8 f_1.1) [] (fun e => by cases e) rfl rfl rfl (by kernel_rfl) (by kernel_rfl) (by kernel_rfl) (inw0 (hk13.cell 0 rfl)) rfl ?_
 refine gv_nil <| gv_block <| gv_seq <| gv_seq <| gv_region <| pN 2 [15, 16] [(15, (.bool (f_1.1 == 115)))] ?_
 refine gv_nil <| bindE h0 ?_; clear h0; intro j14 h1 h0
 refine gv_cut_code (J := fun a w15 => w0.grownBy w15 (blk pa0_0) ∧ w8.heap.size ≤ w15.heap.size ∧ Box w15 b1 31 #[(.int .u8 f_1.1), (.int .i64 f_1.2.1), (.bool f_1.2.2)] ∧ Box w15 b7 48 #[(.int .i64 v_2.1), (.bool v_2.2.1.1), (.slice pa2_0 (length v_2.2.1.2) pc2_0), (.bool v_2.2.2.1.1), (.slice pa2_1 (length v_2.2.2.1.2) pc2_1), (.string v_2.2.2.2.1), (.int .i64 v_2.2.2.2.2)] ∧ Gv.Own bE 5 w15 (fun _ => False) pa0_0 pc0_0 out_0 ∧ a.defers = [] ∧ a.tmps.size = 95 ∧ Ok [(0, (.slice pa0_0 (length out_0) pc0_0)), (4, (bp b1)), (5, (bp b7)), (8, (.int .i64 2)), (14, (.int .u8 f_1.1)), (15, (.bool j14))] a.tmps) ?_ ?_
 ·skip
  refine gv_cond (b := (f_1.1 == 115)) (by kernel_rfl) (fun hc16 => ?_) (fun hc16 => ?_)
  ·replace h1 := ite_t hc16 h1
   refine gv_skip ?_
   have e := sj h1; subst e
   refine gv_goal fun a hd hs hok => ?_
   have hg17 := (grown_trans hg3 hg9)
   have hB18 := grown_stepO hB0 hg17 nb
   have hk19 := hpa0_0.grown hg17 (fun _ h => h.elim) nb
   exact ⟨hB18, nrf, hk13, hb10, hk19, hd, hs, okp [0, 4, 5, 8, 14, 15] hok⟩
  ·replace h1 := ite_f hc16 h1
   refine gv_region <| pN 2 [15, 17] [(15, (.bool (f_1.1 == 112)))] ?_
   refine gv_nil ?_
   have e := sj h1; subst e
   refine gv_goal fun a hd hs hok => ?_
   have hg20 := (grown_trans hg3 hg9)
   have hB21 := grown_stepO hB0 hg20 nb
   have hk22 := hpa0_0.grown hg20 (fun _ h => h.elim) nb
   exact ⟨hB21, nrf, hk13, hb10, hk22, hd, hs, okp [0, 4, 5, 8, 14, 15] hok⟩
 ·rintro a w15 ⟨hB23, hz24, hb25, hb26, hk27, hd, hs, hok⟩
  refine gv_in ?_ hd hs hok
  clear hd hs hok
  clear hz24 hk13 hz12 hb10 hg9 hz6
  refine bindE h0 ?_; clear h0; intro j28 h1 h0
  refine gv_cut_code (J := fun a w29 => w0.grownBy w29 (blk pa0_0) ∧ w15.heap.size ≤ w29.heap.size ∧ Box w29 b1 31 #[(.int .u8 f_1.1), (.int .i64 f_1.2.1), (.bool f_1.2.2)] ∧ Box w29 b7 48 #[(.int .i64 v_2.1), (.bool v_2.2.1.1), (.slice pa2_0 (length v_2.2.1.2) pc2_0), (.bool v_2.2.2.1.1), (.slice pa2_1 (length v_2.2.2.1.2) pc2_1), (.string v_2.2.2.2.1), (.int .i64 v_2.2.2.2.2)] ∧ Gv.Own bE 5 w29 (fun _ => False) pa0_0 pc0_0 out_0 ∧ a.defers = [] ∧ a.tmps.size = 95 ∧ Ok [(0, (.slice pa0_0 (length out_0) pc0_0)), (4, (bp b1)), (5, (bp b7)), (8, (.int .i64 j28))] a.tmps) ?_ ?_
  ·skip
   refine gv_cond (b := j14) (by kernel_rfl) (fun hc30 => ?_) (fun hc30 => ?_)
   ·replace h1 := ite_t hc30 h1
    refine gv_region <| pN 1 [8] [(8, (.int .i64 5))] ?_
    refine gv_nil ?_
    have e := sj h1; subst e
    refine gv_goal fun a hd hs hok => ?_
    exact ⟨hB23, nrf, hb25, hb26, hk27, hd, hs, okp [0, 4, 5, 8] hok⟩
   ·replace h1 := ite_f hc30 h1
    refine gv_seq <| gv_region <| pN 2 [18, 19] [(18, (.bool (f_1.1 == 63)))] ?_
    refine gv_nil <| gv_cond (b := (f_1.1 == 63)) (by kernel_rfl) (fun hc31 => ?_) (fun hc31 => ?_)
    ·replace h1 := ite_t hc31 h1
     refine gv_region <| pN 1 [8] [(8, (.int .i64 1))] ?_
     refine gv_nil ?_
     have e := sj h1; subst e
     refine gv_goal fun a hd hs hok => ?_
     exact ⟨hB23, nrf, hb25, hb26, hk27, hd, hs, okp [0, 4, 5, 8] hok⟩
    ·replace h1 := ite_f hc31 h1
     refine gv_skip ?_
     have e := sj h1; subst e
     refine gv_goal fun a hd hs hok => ?_
     exact ⟨hB23, nrf, hb25, hb26, hk27, hd, hs, okp [0, 4, 5, 8] hok⟩
  ·rintro a w29 ⟨hB32, hz33, hb34, hb35, hk36, hd, hs, hok⟩
   refine gv_in ?_ hd hs hok
   clear hd hs hok
   clear hz33 hk27 hb26 hb25 hB23
   refine gv_blk <| gv_seq <| gv_seq <| gv_region <| pN 1 [20] [(20, (bp b7))] ?_
   refine gv_load (t := 3) (A := ⟨b7, 0, none⟩) (.int .i64 v_2.1) [] (fun e => by cases e) rfl rfl rfl (by kernel_rfl) (by kernel_rfl) (by kernel_rfl) (inw0 (hb35.cell 0 rfl)) rfl ?_
   refine pN 2 [22, 23] [(23, (.bool (v_2.1 != j28)))] ?_
   refine gv_nil <| gv_cond (b := (v_2.1 != j28)) (by kernel_rfl) (fun hc37 => ?_) (fun hc37 => ?_)
   ·replace h0 := ite_t hc37 h0
    refine gv_seq <| gv_region <| pN 2 [6, 7] [(6, (.slice none (length ([] : List UInt8)) 0)), (7, (.int .i64 13))] ?_
    refine gv_nil <| gv_cret ?_
    have e := sj h0; subst e
    refine gv_ret (gv_done [(.slice none (length ([] : List UInt8)) 0), (.int .i64 13)] rfl ⟨(by kernel_rfl), (by kernel_rfl), trivial⟩ ?_)
    exact ⟨hB32, none, 0, rfl, (Gv.Own.nil bE 5 w29 (fun _ => False)), (fun g e => .inr ((fun _ h => by cases h) g e))⟩
   ·replace h0 := ite_f hc37 h0
    refine gv_skip <| gv_seq <| gv_seq <| gv_region <| pN 1 [24] [(24, (bp b1))] ?_
    refine gv_load (t := 5) (A := ⟨b1, 0, none⟩) (.int .u8 f_1.1) [] (fun e => by cases e) rfl rfl rfl (by kernel_rfl) (by kernel_rfl) (by kernel_rfl) (inw0 (hb34.cell 0 rfl)) rfl ?_
    refine gv_nil <| gv_block <| gv_seq <| gv_region <| pN 2 [26, 27] [(26, (.bool (f_1.1 == 115)))] ?_
    refine gv_nil <| gv_cond (b := (f_1.1 == 115)) (by kernel_rfl) (fun hc38 => ?_) (fun hc38 => ?_)
    ·replace h0 := ite_t hc38 h0
     refine gv_seq <| gv_seq <| gv_region <| pN 1 [28] [(28, (.pointer (some ⟨b7, 5, none⟩)))] ?_
     refine gv_load (t := 9) (A := ⟨b7, 5, none⟩) (.string v_2.2.2.2.1) [] (fun e => by cases e) rfl rfl rfl (by kernel_rfl) (by kernel_rfl) (by kernel_rfl) (inw0 (hb35.cell 5 rfl)) rfl ?_
     refine pN 2 [30, 31] [(30, (.int .i64 ((ByteArray.size v_2.2.2.2.1 : Nat) : Int))), (31, (.pointer (some ⟨b1, 1, none⟩)))] ?_
     refine gv_load (t := 3) (A := ⟨b1, 1, none⟩) (.int .i64 f_1.2.1) [] (fun e => by cases e) rfl rfl rfl (by kernel_rfl) (by kernel_rfl) (by kernel_rfl) (inw0 (hb34.cell 1 rfl)) rfl ?_
     refine pN 1 [33] [(33, (.bool (((ByteArray.size v_2.2.2.2.1 : Nat) : Int) != f_1.2.1)))] ?_
     refine gv_nil <| gv_cond (b := (((ByteArray.size v_2.2.2.2.1 : Nat) : Int) != f_1.2.1)) (by kernel_rfl) (fun hc39 => ?_) (fun hc39 => ?_)
     ·replace h0 := ite_t hc39 h0
      refine gv_seq <| gv_region <| pN 2 [6, 7] [(6, (.slice none (length ([] : List UInt8)) 0)), (7, (.int .i64 9))] ?_
      refine gv_nil <| gv_cret ?_
      have e := sj h0; subst e
      refine gv_ret (gv_done [(.slice none (length ([] : List UInt8)) 0), (.int .i64 9)] rfl ⟨(by kernel_rfl), (by kernel_rfl), trivial⟩ ?_)
      exact ⟨hB32, none, 0, rfl, (Gv.Own.nil bE 5 w29 (fun _ => False)), (fun g e => .inr ((fun _ h => by cases h) g e))⟩
     ·replace h0 := ite_f hc39 h0
      refine gv_skip <| gv_seq <| gv_region <| pN 2 [34, 35] [(34, (.slice pa0_0 (length out_0) pc0_0)), (35, (.pointer (some ⟨b7, 5, none⟩)))] ?_
      refine gv_load (t := 9) (A := ⟨b7, 5, none⟩) (.string v_2.2.2.2.1) [] (fun e => by cases e) rfl rfl rfl (by kernel_rfl) (by kernel_rfl) (by kernel_rfl) (inw0 (hb35.cell 5 rfl)) rfl ?_
      refine bindE h0 ?_; clear h0; intro l40 hx41 h0
      refine gv_appendA (t := 24) (tx := 9) (ty := 24) (e := 5) (z := .int .u8 0) (x := (.string v_2.2.2.2.1)) (a := pa0_0) (cap := pc0_0) (xs := out_0) (bytesOf v_2.2.2.2.1) l40 (by decide) rfl rfl (by kernel_rfl) (by kernel_rfl) (asrc_strB w29 Tryd.underlying24 Tryd.underlying9 (by kernel_rfl) v_2.2.2.2.1) rfl hk36 hx41 ?_
      intro a42 c43 w44 hg45 ho46 hk47
      refine ⟨(fun e => by cases e), ?_⟩
      have hl48 : ∀ g, blk a42 = some g → blk pa0_0 = some g ∨ w0.heap.size ≤ g := blkw_tr (blkw_of hk47) (fun g e => Or.inl e) hB32.size
      have ap50 : ∀ g, blk pa0_0 = some g → ¬ (· = b1) g := fun g e hx => nl ((lowb hbe5) _ hx) ((fun k (hk : blk pa0_0 = some k) => hpa0_0.lt k hk) g e)
      have ap49 : ∀ g, blk a42 = some g → ¬ (· = b1) g := blk_neX hk47 ap50 (ltb hb34)
      have ap52 : ¬ (fun k => blk pa0_0 = some k) b1 := fun hx => nl ((lowb hbe5) _ rfl) ((fun k (hk : blk pa0_0 = some k) => hpa0_0.lt k hk) _ hx)
      have ap51 : ¬ (fun k => blk a42 = some k) b1 := fun h => blk_rev hk47 (fun h => (ap52) h) (hb34.lt) h
      have hk54 := hpa0_0.grown hg3 (fun _ h => h.elim) nb
      have ap55 : ∀ g, blk pa0_0 = some g → ¬ (· = b7) g := fun g e hx => nl ((lowb hbe11) _ hx) ((fun k (hk : blk pa0_0 = some k) => hk54.lt k hk) g e)
      have ap53 : ∀ g, blk a42 = some g → ¬ (· = b7) g := blk_neX hk47 ap55 (ltb hb35)
      have ap57 : ¬ (fun k => blk pa0_0 = some k) b7 := fun hx => nl ((lowb hbe11) _ rfl) ((fun k (hk : blk pa0_0 = some k) => hk54.lt k hk) _ hx)
      have ap56 : ¬ (fun k => blk a42 = some k) b7 := fun h => blk_rev hk47 (fun h => (ap57) h) (hb35.lt) h
      refine pN 2 [6, 7] [(6, (.slice a42 (length l40) c43)), (7, (.int .i64 0))] ?_
      refine gv_sub [6, 7] (σ' := [(6, (.slice a42 (length l40) c43)), (7, (.int .i64 0))]) (by kernel_rfl) ?_
      refine gv_nil <| gv_cret ?_
      have e := sj h0; subst e
      refine gv_ret (gv_done [(.slice a42 (length l40) c43), (.int .i64 0)] rfl ⟨(by kernel_rfl), (by kernel_rfl), trivial⟩ ?_)
      have hB58 := grown_stepO hB32 hg45 (fun g e => Or.inl e)
      exact ⟨hB58, a42, c43, rfl, ho46, hl48⟩
    ·replace h0 := ite_f hc38 h0
     refine gv_seq <| gv_region <| pN 2 [38, 39] [(38, (.bool (f_1.1 == 112)))] ?_
     refine gv_nil <| gv_cond (b := (f_1.1 == 112)) (by kernel_rfl) (fun hc59 => ?_) (fun hc59 => ?_)
     ·replace h0 := ite_t hc59 h0
      refine gv_seq <| gv_seq <| gv_region <| pN 1 [40] [(40, (.pointer (some ⟨b7, 5, none⟩)))] ?_
      refine gv_load (t := 9) (A := ⟨b7, 5, none⟩) (.string v_2.2.2.2.1) [] (fun e => by cases e) rfl rfl rfl (by kernel_rfl) (by kernel_rfl) (by kernel_rfl) (inw0 (hb35.cell 5 rfl)) rfl ?_
      refine pN 2 [42, 43] [(43, (.bool (decide (((ByteArray.size v_2.2.2.2.1 : Nat) : Int) > 255))))] ?_
      refine gv_nil <| gv_cond (b := (decide (((ByteArray.size v_2.2.2.2.1 : Nat) : Int) > 255))) (by kernel_rfl) (fun hc60 => ?_) (fun hc60 => ?_)
      ·replace h0 := ite_t hc60 h0
       refine gv_seq <| gv_region <| pN 2 [6, 7] [(6, (.slice none (length ([] : List UInt8)) 0)), (7, (.int .i64 9))] ?_
       refine gv_nil <| gv_cret ?_
       have e := sj h0; subst e
       refine gv_ret (gv_done [(.slice none (length ([] : List UInt8)) 0), (.int .i64 9)] rfl ⟨(by kernel_rfl), (by kernel_rfl), trivial⟩ ?_)
       exact ⟨hB32, none, 0, rfl, (Gv.Own.nil bE 5 w29 (fun _ => False)), (fun g e => .inr ((fun _ h => by cases h) g e))⟩
      ·replace h0 := ite_f hc60 h0
       refine gv_skip <| gv_seq <| gv_drawA (by kernel_rfl) ?_
       intro w61 hg62
       refine gv_pre [0, 1, 7] (bA 12 [0, 1, 7]) 9 (by kernel_rfl) (by kernel_rfl) ?_
       refine pN 3 [44, 45, 51] [(44, (.slice pa0_0 (length out_0) pc0_0)), (45, (.pointer (some ⟨b7, 5, none⟩))), (51, (.pointer (some ⟨b7, 5, none⟩)))] ?_
       refine gv_nil <| gv_goA ?_
       refine gv_stage (Cls w61 (ownL pa0_0 [])) [2, 3, 4, 5, 6, 8] [(2, some true), (3, some true), (4, some true), (8, some true), (5, some false), (6, some false)] (bA 12 [0, 1, 2, 3, 4, 5, 6, 7, 8]) 3 (by kernel_rfl) (by kernel_rfl) (Cls.refl _ _) ?_
       have hC63 := Cls.refl w61 (ownL pa0_0 [])
       have hk64 := hb35.grown hg62 nb
       have hk65 := hpa0_0.grown hg3 (fun _ h => h.elim) nb
       have ap66 : ∀ g, blk pa0_0 = some g → ¬ (· = b7) g := fun g e hx => nl ((lowb hbe11) _ hx) ((fun k (hk : blk pa0_0 = some k) => hk65.lt k hk) g e)
       refine gv_load (t := 9) (A := ⟨b7, 5, none⟩) (.string v_2.2.2.2.1) [] (fun e => by cases e) rfl rfl rfl (by kernel_rfl) (by kernel_rfl) (by kernel_rfl) (inw1 fun w' hC' => ((hC'.box hk64 (nm_own ap66 nm_nil)).cell 5 rfl)) rfl ?_
       refine pN 2 [47, 48] [(48, (.int .u8 (IntKind.u8.wrap (((ByteArray.size v_2.2.2.2.1 : Nat) : Int)))))] ?_
       refine gv_load (t := 9) (A := ⟨b7, 5, none⟩) (.string v_2.2.2.2.1) [] (fun e => by cases e) rfl rfl rfl (by kernel_rfl) (by kernel_rfl) (by kernel_rfl) (inw1 fun w' hC' => ((hC'.box hk64 (nm_own ap66 nm_nil)).cell 5 rfl)) rfl ?_
       refine gv_sub [44, 48, 52] (σ' := [(44, (.slice pa0_0 (length out_0) pc0_0)), (48, (.int .u8 (IntKind.u8.wrap (((ByteArray.size v_2.2.2.2.1 : Nat) : Int))))), (52, (.string v_2.2.2.2.1))]) (by kernel_rfl) ?_
       refine bindE h0 ?_; clear h0; intro b67 hb68 h0
       have hu69 := u8_spec hb68
       refine gv_new (fun b => .slice (some ⟨b, 0, none⟩) 1 1) #[(.int .u8 (IntKind.u8.wrap (((ByteArray.size v_2.2.2.2.1 : Nat) : Int))))] 5 (by decide) rfl rfl (by kernel_rfl) (by kernel_rfl) ?_
       intro b70 w71 hg72 hb73 hbe74 hz75
       refine ⟨(fun _ => hC63.grown hg72 nb), ?_⟩
       have ho76 : Gv.Own bE 5 w71 (fun _ => False) (some ⟨b70, 0, none⟩) 1 ([b67] : List UInt8) := Box.ownE hb73 ⟨[(.int .u8 (IntKind.u8.wrap (((ByteArray.size v_2.2.2.2.1 : Nat) : Int))))], [], rfl, (by simp only [bE, flat, hu69]), rfl⟩ (show 1 ≤ maxLen by decide) (fun h => h)
       have hB81 := grown_stepO hB32 hg62 nb
       have hl77 : ∀ g, blk (some ⟨b70, 0, none⟩) = some g → w0.heap.size ≤ g := loo hbe74 hB81.size
       refine bindE h0 ?_; clear h0; intro l82 hx83 h0
       have hg90 := (grown_trans hg62 hg72)
       have hk91 := hk36.grown hg90 (fun _ h => h.elim) nb
       refine gv_append bE (t := 24) (ty := 24) (e := 5) (a := pa0_0) (ax := (some ⟨b70, 0, none⟩)) (cap := pc0_0) (cx := 1) (xs := out_0) (ys := ([b67] : List UInt8)) l82 (X := (fun _ => False)) (Y := (fun k => blk (some ⟨b70, 0, none⟩) = some k)) (by decide) rfl rfl (by kernel_rfl) (by kernel_rfl) Tryd.underlying24 info5 hk91 (ho76.rd (Y := fun k => blk (some ⟨b70, 0, none⟩) = some k) (fun _ h => h.elim) (fun g e => e)) hx83 (.inr fun _ _ _ _ _ h => h) (fun _ h => h.elim) ?_
       intro a84 c85 w86 hg87 ho88 hk89
       have hC92 := hC63.grown hg72 nb
       refine ⟨(fun _ => hC92.grown hg87 fo_own), ?_⟩
       have hB94 := grown_stepO hB81 hg72 nb
       have hl93 : ∀ g, blk a84 = some g → blk pa0_0 = some g ∨ w0.heap.size ≤ g := blkw_tr (blkw_of hk89) (fun g e => Or.inl e) hB94.size
       have ap96 : ∀ g, blk pa0_0 = some g → ¬ (· = b1) g := fun g e hx => nl ((lowb hbe5) _ hx) ((fun k (hk : blk pa0_0 = some k) => hpa0_0.lt k hk) g e)
       have hk97 := hb34.grown hg90 nb
       have ap95 : ∀ g, blk a84 = some g → ¬ (· = b1) g := blk_neX hk89 ap96 (ltb hk97)
       have ap99 : ¬ (fun k => blk pa0_0 = some k) b1 := fun hx => nl ((lowb hbe5) _ rfl) ((fun k (hk : blk pa0_0 = some k) => hpa0_0.lt k hk) _ hx)
       have ap98 : ¬ (fun k => blk a84 = some k) b1 := fun h => blk_rev hk89 (fun h => (ap99) h) (hk97.lt) h
       have hk101 := hk64.grown hg72 nb
       have ap100 : ∀ g, blk a84 = some g → ¬ (· = b7) g := blk_neX hk89 ap66 (ltb hk101)
       have ap103 : ¬ (fun k => blk pa0_0 = some k) b7 := fun hx => nl ((lowb hbe11) _ rfl) ((fun k (hk : blk pa0_0 = some k) => hk65.lt k hk) _ hx)
       have ap102 : ¬ (fun k => blk a84 = some k) b7 := fun h => blk_rev hk89 (fun h => (ap103) h) (hk101.lt) h
       have hk105 := hk36.grown hg62 (fun _ h => h.elim) nb
       have ap106 : ∀ g, blk pa0_0 = some g → ¬ (fun k => blk (some ⟨b70, 0, none⟩) = some k) g := fun g e hx => nl ((lowo hbe74) _ hx) ((fun k (hk : blk pa0_0 = some k) => hk105.lt k hk) g e)
       have ap104 : ∀ g, blk a84 = some g → ¬ (fun k => blk (some ⟨b70, 0, none⟩) = some k) g := blk_neX hk89 ap106 (fun k (hk : blk (some ⟨b70, 0, none⟩) = some k) => ho76.lt k hk)
       have ap108 : ∀ g, blk (some ⟨b70, 0, none⟩) = some g → ¬ (fun k => blk pa0_0 = some k) g := fun g e hx => nl ((lowo hbe74) g e) ((fun k (hk : blk pa0_0 = some k) => hk105.lt k hk) _ hx)
       have ap107 : ∀ g, blk (some ⟨b70, 0, none⟩) = some g → ¬ (fun k => blk a84 = some k) g := fun g e h => blk_rev hk89 (fun h => ((ap108) g e) h) (ho76.lt g e) h
       refine gv_nil <| gv_goA ?_
       refine gv_stage (fun _ => True) [9] [(9, some false)] (bA 12 [0, 1, 2, 3, 4, 5, 6, 7, 8, 9]) 2 (by kernel_rfl) (by kernel_rfl) trivial ?_
       refine bindE h0 ?_; clear h0; intro l109 hx110 h0
       refine gv_appendA (t := 24) (tx := 9) (ty := 24) (e := 5) (z := .int .u8 0) (x := (.string v_2.2.2.2.1)) (a := a84) (cap := c85) (xs := l82) (bytesOf v_2.2.2.2.1) l109 (by decide) rfl rfl (by kernel_rfl) (by kernel_rfl) (asrc_strB w86 Tryd.underlying24 Tryd.underlying9 (by kernel_rfl) v_2.2.2.2.1) rfl ho88 hx110 ?_
       intro a111 c112 w113 hg114 ho115 hk116
       refine ⟨(fun _ => trivial), ?_⟩
       have hB118 := grown_stepO hB94 hg87 (fun g e => Or.inl e)
       have hl117 : ∀ g, blk a111 = some g → blk pa0_0 = some g ∨ w0.heap.size ≤ g := blkw_tr (blkw_of hk116) hl93 hB118.size
       have hk120 := hk97.grown hg87 ap96
       have ap119 : ∀ g, blk a111 = some g → ¬ (· = b1) g := blk_neX hk116 ap95 (ltb hk120)
       have ap121 : ¬ (fun k => blk a111 = some k) b1 := fun h => blk_rev hk116 (fun h => (ap98) h) (hk120.lt) h
       have hk123 := hk101.grown hg87 ap66
       have ap122 : ∀ g, blk a111 = some g → ¬ (· = b7) g := blk_neX hk116 ap100 (ltb hk123)
       have ap124 : ¬ (fun k => blk a111 = some k) b7 := fun h => blk_rev hk116 (fun h => (ap102) h) (hk123.lt) h
       have hk126 := ho76.grown hg87 (fun _ h => h.elim) (rdnn ap106)
       have ap125 : ∀ g, blk a111 = some g → ¬ (fun k => blk (some ⟨b70, 0, none⟩) = some k) g := blk_neX hk116 ap104 (fun k (hk : blk (some ⟨b70, 0, none⟩) = some k) => hk126.lt k hk)
       have ap127 : ∀ g, blk (some ⟨b70, 0, none⟩) = some g → ¬ (fun k => blk a111 = some k) g := fun g e h => blk_rev hk116 (fun h => ((ap107) g e) h) (hk126.lt g e) h
       refine gv_nil <| gv_goA ?_
       refine gv_pre [10, 11] (bA 12 [0, 1, 2, 3, 4, 5, 6, 7, 8, 9, 10, 11]) 0 (by kernel_rfl) (by kernel_rfl) ?_
       refine pN 2 [6, 7] [(6, (.slice a111 (length l109) c112)), (7, (.int .i64 0))] ?_
       refine gv_nil <| gv_goA ?_
       refine gv_stageE (by kernel_rfl) ?_
       refine gv_cret ?_
       have e := sj h0; subst e
       refine gv_ret (gv_done [(.slice a111 (length l109) c112), (.int .i64 0)] rfl ⟨(by kernel_rfl), (by kernel_rfl), trivial⟩ ?_)
       have hB128 := grown_stepO hB118 hg114 hl93
       exact ⟨hB128, a111, c112, rfl, ho115, hl117⟩
     ·replace h0 := ite_f hc59 h0
      refine gv_seq <| gv_region <| pN 2 [54, 55] [(54, (.bool (f_1.1 == 63)))] ?_
      refine gv_nil <| gv_cond (b := (f_1.1 == 63)) (by kernel_rfl) (fun hc129 => ?_) (fun hc129 => ?_)
      ·replace h0 := ite_t hc129 h0
       refine gv_seq <| gv_region <| pN 2 [56, 57] [(56, (.slice pa0_0 (length out_0) pc0_0)), (57, (.pointer (some ⟨b7, 6, none⟩)))] ?_
       refine gv_load (t := 3) (A := ⟨b7, 6, none⟩) (.int .i64 v_2.2.2.2.2) [] (fun e => by cases e) rfl rfl rfl (by kernel_rfl) (by kernel_rfl) (by kernel_rfl) (inw0 (hb35.cell 6 rfl)) rfl ?_
       refine pN 1 [59] [(59, (.int .u8 (IntKind.u8.wrap (v_2.2.2.2.2))))] ?_
       refine bindE h0 ?_; clear h0; intro b130 hb131 h0
       have hu132 := u8_spec hb131
       refine gv_new0 (fun b => .slice (some ⟨b, 0, none⟩) 1 1) #[(.int .u8 (IntKind.u8.wrap (v_2.2.2.2.2)))] 5 (by kernel_rfl) (by kernel_rfl) ?_
       intro b133 w134 hg135 hb136 hbe137 hz138
       have ho139 : Gv.Own bE 5 w134 (fun _ => False) (some ⟨b133, 0, none⟩) 1 ([b130] : List UInt8) := Box.ownE hb136 ⟨[(.int .u8 (IntKind.u8.wrap (v_2.2.2.2.2)))], [], rfl, (by simp only [bE, flat, hu132]), rfl⟩ (show 1 ≤ maxLen by decide) (fun h => h)
       have hl140 : ∀ g, blk (some ⟨b133, 0, none⟩) = some g → w0.heap.size ≤ g := loo hbe137 hB32.size
       clear hz138 hb136 hu132 hb131 hc129 hc59 hc38 hc37 hb35 hb34 hbe11 hbe5 hb4 hg3
       refine bindE h0 ?_; clear h0; intro l144 hx145 h0
       have hk152 := hk36.grown hg135 (fun _ h => h.elim) nb
       refine gv_append bE (t := 24) (ty := 24) (e := 5) (a := pa0_0) (ax := (some ⟨b133, 0, none⟩)) (cap := pc0_0) (cx := 1) (xs := out_0) (ys := ([b130] : List UInt8)) l144 (X := (fun _ => False)) (Y := (fun k => blk (some ⟨b133, 0, none⟩) = some k)) (by decide) rfl rfl (by kernel_rfl) (by kernel_rfl) Tryd.underlying24 info5 hk152 (ho139.rd (Y := fun k => blk (some ⟨b133, 0, none⟩) = some k) (fun _ h => h.elim) (fun g e => e)) hx145 (.inr fun _ _ _ _ _ h => h) (fun _ h => h.elim) ?_
       intro a146 c147 w148 hg149 ho150 hk151
       refine ⟨(fun e => by cases e), ?_⟩
       have hB154 := grown_stepO hB32 hg135 nb
       have hl153 : ∀ g, blk a146 = some g → blk pa0_0 = some g ∨ w0.heap.size ≤ g := blkw_tr (blkw_of hk151) (fun g e => Or.inl e) hB154.size
       have ap156 : ∀ g, blk pa0_0 = some g → ¬ (fun k => blk (some ⟨b133, 0, none⟩) = some k) g := fun g e hx => nl ((lowo hbe137) _ hx) ((fun k (hk : blk pa0_0 = some k) => hk36.lt k hk) g e)
       have ap155 : ∀ g, blk a146 = some g → ¬ (fun k => blk (some ⟨b133, 0, none⟩) = some k) g := blk_neX hk151 ap156 (fun k (hk : blk (some ⟨b133, 0, none⟩) = some k) => ho139.lt k hk)
       have ap158 : ∀ g, blk (some ⟨b133, 0, none⟩) = some g → ¬ (fun k => blk pa0_0 = some k) g := fun g e hx => nl ((lowo hbe137) g e) ((fun k (hk : blk pa0_0 = some k) => hk36.lt k hk) _ hx)
       have ap157 : ∀ g, blk (some ⟨b133, 0, none⟩) = some g → ¬ (fun k => blk a146 = some k) g := fun g e h => blk_rev hk151 (fun h => ((ap158) g e) h) (ho139.lt g e) h
       refine pN 2 [6, 7] [(6, (.slice a146 (length l144) c147)), (7, (.int .i64 0))] ?_
       refine gv_sub [6, 7] (σ' := [(6, (.slice a146 (length l144) c147)), (7, (.int .i64 0))]) (by kernel_rfl) ?_
       refine gv_nil <| gv_cret ?_
       have e := sj h0; subst e
       refine gv_ret (gv_done [(.slice a146 (length l144) c147), (.int .i64 0)] rfl ⟨(by kernel_rfl), (by kernel_rfl), trivial⟩ ?_)
       have hB159 := grown_stepO hB154 hg149 (fun g e => Or.inl e)
       exact ⟨hB159, a146, c147, rfl, ho150, hl153⟩
      ·replace h0 := ite_f hc129 h0
       refine gv_skip <| gv_blk <| gv_seq <| gv_region <| pN 1 [63] [(63, (bp b1))] ?_
       refine gv_load (t := 5) (A := ⟨b1, 0, none⟩) (.int .u8 f_1.1) [] (fun e => by cases e) rfl rfl rfl (by kernel_rfl) (by kernel_rfl) (by kernel_rfl) (inw0 (hb34.cell 0 rfl)) rfl ?_
       refine bindE h0 ?_; clear h0; intro r160 hr161 h0
       refine gv_call0 (by kernel_rfl) rfl (by kernel_rfl) enters29 (packing_width_ok fuel f_1.1 w29  r160 hr161) ?_
       rintro v164 w162 ⟨hg163, rfl⟩
       refine pN 5 [9, 10, 62, 66, 67] [(9, (.int .i64 r160.1)), (10, (.bool r160.2))] ?_
       refine gv_nil <| gv_seq <| gv_seq <| gv_region <| pN 1 [68] [(68, (bp b1))] ?_
       have hk165 := hb34.grown hg163 nb
       refine gv_load (t := 5) (A := ⟨b1, 0, none⟩) (.int .u8 f_1.1) [] (fun e => by cases e) rfl rfl rfl (by kernel_rfl) (by kernel_rfl) (by kernel_rfl) (inw0 (hk165.cell 0 rfl)) rfl ?_
       refine pN 1 [70] [(70, (.bool (f_1.1 == 118)))] ?_
       refine gv_sub [0, 4, 5, 9, 10, 70] (σ' := [(0, (.slice pa0_0 (length out_0) pc0_0)), (4, (bp b1)), (5, (bp b7)), (9, (.int .i64 r160.1)), (10, (.bool r160.2)), (70, (.bool (f_1.1 == 118)))]) (by kernel_rfl) ?_
       refine gv_nil <| bindE h0 ?_; clear h0; intro j166 h1 h0
       refine gv_cut_code (J := fun a w167 => w0.grownBy w167 (blk pa0_0) ∧ w162.heap.size ≤ w167.heap.size ∧ Box w167 b1 31 #[(.int .u8 f_1.1), (.int .i64 f_1.2.1), (.bool f_1.2.2)] ∧ Box w167 b7 48 #[(.int .i64 v_2.1), (.bool v_2.2.1.1), (.slice pa2_0 (length v_2.2.1.2) pc2_0), (.bool v_2.2.2.1.1), (.slice pa2_1 (length v_2.2.2.1.2) pc2_1), (.string v_2.2.2.2.1), (.int .i64 v_2.2.2.2.2)] ∧ Gv.Own bE 5 w167 (fun _ => False) pa0_0 pc0_0 out_0 ∧ a.defers = [] ∧ a.tmps.size = 95 ∧ Ok [(0, (.slice pa0_0 (length out_0) pc0_0)), (4, (bp b1)), (5, (bp b7)), (9, (.int .i64 j166)), (10, (.bool r160.2))] a.tmps) ?_ ?_
       ·skip
        refine gv_cond (b := (f_1.1 == 118)) (by kernel_rfl) (fun hc168 => ?_) (fun hc168 => ?_)
        ·replace h1 := ite_t hc168 h1
         refine gv_region <| pN 1 [9] [(9, (.int .i64 8))] ?_
         refine gv_nil ?_
         have e := sj h1; subst e
         refine gv_goal fun a hd hs hok => ?_
         have hB169 := grown_stepO hB32 hg163 nb
         have hk170 := hb35.grown hg163 nb
         have hk171 := hk36.grown hg163 (fun _ h => h.elim) nb
         exact ⟨hB169, nrf, hk165, hk170, hk171, hd, hs, okp [0, 4, 5, 9, 10] hok⟩
        ·replace h1 := ite_f hc168 h1
         refine gv_skip ?_
         have e := sj h1; subst e
         refine gv_goal fun a hd hs hok => ?_
         have hB172 := grown_stepO hB32 hg163 nb
         have hk173 := hb35.grown hg163 nb
         have hk174 := hk36.grown hg163 (fun _ h => h.elim) nb
         exact ⟨hB172, nrf, hk165, hk173, hk174, hd, hs, okp [0, 4, 5, 9, 10] hok⟩
       ·rintro a w167 ⟨hB175, hz176, hb177, hb178, hk179, hd, hs, hok⟩
        refine gv_in ?_ hd hs hok
        clear hd hs hok
        clear hz176 hk165 hg163 hr161 hc129 hc59 hc38 hc37 hk36 hb35 hb34 hB32
        refine gv_seq <| gv_region <| pN 1 [72] [(72, (.pointer (some ⟨b7, 1, none⟩)))] ?_
        refine gv_loadAgg (t := 46) (A := ⟨b7, 1, none⟩) #[(.bool v_2.2.1.1), (.slice pa2_0 (length v_2.2.1.2) pc2_0)] [] (fun e => by cases e) rfl rfl rfl (by kernel_rfl) (by kernel_rfl) (by kernel_rfl) (by kernel_rfl) (inw0 (Box.part hb178 1 _ rfl)) rfl ?_
        refine pN 2 [74, 75] [(74, (.int .i64 j166)), (75, (.bool r160.2))] ?_
        refine bindE h0 ?_; clear h0; intro r180 hr181 h0
        refine gv_call0 (by kernel_rfl) rfl (by kernel_rfl) enters36 (packing_word_ok fuel pa2_0 pc2_0 (v_2.2.1.1, v_2.2.1.2) j166 r160.2 w167 (fun k => X0 k) (fun k hk => (fun k (hk : X0 k) => ltl (hX0 k hk).1 hB175.size) k hk) ((hpa2_0.grown hB175 (fun k hk => (hX0 k hk).1) (fun g e hk => (hX0 g hk).2 e)).wide (fun k hk => hk)) r180 hr181) ?_
        rintro v184 w182 ⟨hg183, rfl⟩
        refine pN 5 [11, 12, 71, 77, 78] [(11, (.int .u64 r180.1)), (12, (.bool r180.2))] ?_
        refine gv_nil <| gv_seq <| gv_block <| gv_seq <| gv_region <| pN 3 [79, 80, 81] [(79, (.bool (!r180.2)))] ?_
        refine gv_nil <| gv_cond (b := (!r180.2)) (by kernel_rfl) (fun hc185 => ?_) (fun hc185 => ?_)
        ·replace h0 := ite_t hc185 h0
         refine gv_seq <| gv_region <| pN 2 [6, 7] [(6, (.slice none (length ([] : List UInt8)) 0)), (7, (.int .i64 4))] ?_
         refine gv_nil <| gv_cret ?_
         have e := sj h0; subst e
         refine gv_ret (gv_done [(.slice none (length ([] : List UInt8)) 0), (.int .i64 4)] rfl ⟨(by kernel_rfl), (by kernel_rfl), trivial⟩ ?_)
         have hB186 := grown_stepO hB175 hg183 nb
         exact ⟨hB186, none, 0, rfl, (Gv.Own.nil bE 5 w182 (fun _ => False)), (fun g e => .inr ((fun _ h => by cases h) g e))⟩
        ·replace h0 := ite_f hc185 h0
         refine gv_seq <| gv_region <| pN 1 [83] [(83, (bp b1))] ?_
         have hk187 := hb177.grown hg183 nb
         refine gv_load (t := 5) (A := ⟨b1, 0, none⟩) (.int .u8 f_1.1) [] (fun e => by cases e) rfl rfl rfl (by kernel_rfl) (by kernel_rfl) (by kernel_rfl) (inw0 (hk187.cell 0 rfl)) rfl ?_
         refine pN 2 [82, 85] [(82, (.bool (f_1.1 == 118)))] ?_
         refine gv_nil <| gv_cond (b := (f_1.1 == 118)) (by kernel_rfl) (fun hc188 => ?_) (fun hc188 => ?_)
         ·replace h0 := ite_t hc188 h0
          refine gv_seq <| gv_region <| pN 2 [86, 87] [(86, (.slice pa0_0 (length out_0) pc0_0)), (87, (.int .u64 r180.1))] ?_
          refine bindE h0 ?_; clear h0; intro r189 hr190 h0
          have hk191 := hk179.grown hg183 (fun _ h => h.elim) nb
          refine gv_call0 (by kernel_rfl) rfl (by kernel_rfl) enters37 (packing_zigzag_ok fuel pa0_0 pc0_0 out_0 r180.1 w182 hk191 r189 hr190) ?_
          rintro v194 w192 ⟨hg193, a195, c196, rfl, ho197, hk198⟩
          have hB200 := grown_stepO hB175 hg183 nb
          have hl199 : ∀ g, blk a195 = some g → blk pa0_0 = some g ∨ w0.heap.size ≤ g := blkw_tr hk198 (fun g e => Or.inl e) hB200.size
          refine pN 2 [6, 7] [(6, (.slice a195 (length r189) c196)), (7, (.int .i64 0))] ?_
          refine gv_nil <| gv_cret ?_
          have e := sj h0; subst e
          refine gv_ret (gv_done [(.slice a195 (length r189) c196), (.int .i64 0)] rfl ⟨(by kernel_rfl), (by kernel_rfl), trivial⟩ ?_)
          have hB201 := grown_stepO hB200 hg193 (fun g e => Or.inl e)
          exact ⟨hB201, a195, c196, rfl, ho197, hl199⟩
         ·replace h0 := ite_f hc188 h0
          refine gv_skip <| gv_blk <| gv_seq <| gv_region <| pN 4 [89, 90, 91, 92] [(89, (.slice pa0_0 (length out_0) pc0_0)), (90, (.int .u64 r180.1)), (91, (.int .i64 j166)), (92, (.pointer (some ⟨b1, 2, none⟩)))] ?_
          refine gv_load (t := 4) (A := ⟨b1, 2, none⟩) (.bool f_1.2.2) [] (fun e => by cases e) rfl rfl rfl (by kernel_rfl) (by kernel_rfl) (by kernel_rfl) (inw0 (hk187.cell 2 rfl)) rfl ?_
          refine bindE h0 ?_; clear h0; intro r202 hr203 h0
          have hk204 := hk179.grown hg183 (fun _ h => h.elim) nb
          refine gv_call0 (by kernel_rfl) rfl (by kernel_rfl) enters38 (packing_order_ok fuel pa0_0 pc0_0 out_0 r180.1 j166 f_1.2.2 w182 hk204 r202 hr203) ?_
          rintro v207 w205 ⟨hg206, a208, c209, rfl, ho210, hk211⟩
          have hB213 := grown_stepO hB175 hg183 nb
          have hl212 : ∀ g, blk a208 = some g → blk pa0_0 = some g ∨ w0.heap.size ≤ g := blkw_tr hk211 (fun g e => Or.inl e) hB213.size
          refine pN 2 [6, 7] [(6, (.slice a208 (length r202) c209)), (7, (.int .i64 0))] ?_
          refine gv_nil <| gv_cret ?_
          have e := sj h0; subst e
          refine gv_ret (gv_done [(.slice a208 (length r202) c209), (.int .i64 0)] rfl ⟨(by kernel_rfl), (by kernel_rfl), trivial⟩ ?_)
          have hB214 := grown_stepO hB213 hg206 (fun g e => Or.inl e)
          exact ⟨hB214, a208, c209, rfl, ho210, hl212⟩

theorem packing_Pack_ok (fuel : Nat) (pa0_0 : Option Addr) (pc0_0 : Nat) (l_0 : (List (Int × Int × Bool))) (pa1_0 : Option Addr) (pc1_0 : Nat) (vs_1 : (List (Int × (Bool × (List Int)) × (Bool × (List Int)) × ByteArray × Int))) (w0 : World) (X0 : Nat → Prop) (hX0 : ∀ k, X0 k → k < w0.heap.size) (hpa0_0 : Rd (prE (iE .u8) (prE (iE .i64) tE)) w0 X0 pa0_0 pc0_0 l_0) (hpa1_0 : Rd (prE (iE .i64) (prE (prE tE (slE (iE .u32))) (prE (prE tE (slE (iE .u32))) (prE sE (iE .i64))))) w0 X0 pa1_0 pc1_0 vs_1) (r0 : ((List UInt8) × (Int × Int))) (h0 : packing_Pack fuel l_0 vs_1 = some r0) :
    Calls Tryd.prog 6 ([(.slice pa0_0 (length l_0) pc0_0), (.slice pa1_0 (length vs_1) pc1_0)] : List Value).toArray w0 (Ret fun v w' => w0.grownBy w' none ∧ ∃ (a0_0r : Option Addr) (c0_0r : Nat), v = tup [(.slice a0_0r (length r0.1) c0_0r), (.agg #[(.int .i64 r0.2.1), (.int .i64 r0.2.2)])] ∧ Gv.Own bE 5 w' (fun _ => False) a0_0r c0_0r r0.1 ∧ (∀ g, blk a0_0r = some g → w0.heap.size ≤ g)) := by
 have hB0 : Below w0.heap.size w0 w0 := Below.refl _ _
 unfold packing_Pack at h0
 refine calls_run Tryd.func6 rfl Tryd.ntmps6 (by kernel_rfl) ?_
 refine gv_sub [0, 1] (σ' := [(0, (.slice pa0_0 (length l_0) pc0_0)), (1, (.slice pa1_0 (length vs_1) pc1_0))]) (by kernel_rfl) ?_
 refine gv_seq <| gv_region <| pN 1 [4] [] ?_
 refine gv_new0 (fun b => .pointer (some ⟨b, 0, none⟩)) #[(.int .i64 0), (.int .i64 0)] 26 (by kernel_rfl) (by kernel_rfl) ?_
 intro b1 w2 hg3 hb4 hbe5 hz6
 refine gv_nil <| gv_seq <| gv_seq <| gv_region <| pN 1 [13] [(13, (.slice pa0_0 (length l_0) pc0_0))] ?_
 refine bindE h0 ?_; clear h0; intro r7 hr8 h0
 have hB9 := bg hB0 hg3 nb
 refine gv_call0 (by kernel_rfl) rfl (by kernel_rfl) enters15 (packing_Check_ok fuel pa0_0 pc0_0 l_0 w2 (fun k => X0 k) (fun k hk => (fun k (hk : X0 k) => ltl (hX0 k hk) hB9.size) k hk) ((hpa0_0.below hB9 hX0).wide (fun k hk => hk)) r7 hr8) ?_
 rintro v12 w10 ⟨hg11, rfl⟩
 refine gv_new0 (fun b => .pointer (some ⟨b, 0, none⟩)) #[(.int .i64 0), (.int .i64 0)] 26 (by kernel_rfl) (by kernel_rfl) ?_
 intro b13 w14 hg15 hb16 hbe17 hz18
 refine gv_store0 26 0 (.agg #[(.int .i64 r7.1), (.int .i64 r7.2)]) #[(.int .i64 r7.1), (.int .i64 r7.2)] hb16 (by kernel_rfl) (by kernel_rfl) (by kernel_rfl) ?_
 intro w19 hg20 hb21 hz22
 refine gv_nil <| gv_seq <| gv_region <| pN 1 [15] [(15, (bp b13))] ?_
 refine gv_load (t := 3) (A := ⟨b13, 0, none⟩) (.int .i64 r7.1) [] (fun e => by cases e) rfl rfl rfl (by kernel_rfl) (by kernel_rfl) (by kernel_rfl) (inw0 (hb21.cell 0 rfl)) rfl ?_
 refine pN 1 [17] [(17, (.bool (r7.1 != 0)))] ?_
 refine gv_nil <| gv_cond (b := (r7.1 != 0)) (by kernel_rfl) (fun hc23 => ?_) (fun hc23 => ?_)
 ·replace h0 := ite_t hc23 h0
  refine gv_seq <| gv_drawA (by kernel_rfl) ?_
  intro w24 hg25
  refine gv_pre [1] (bA 3 [1]) 2 (by kernel_rfl) (by kernel_rfl) ?_
  refine pN 1 [4] [(4, (.slice none (length ([] : List UInt8)) 0))] ?_
  refine gv_nil <| gv_goA ?_
  refine gv_stage (Cls w24 []) [0] [(0, some true)] (bA 3 [0, 1]) 1 (by kernel_rfl) (by kernel_rfl) (Cls.refl _ _) ?_
  have hC26 := Cls.refl w24 []
  have hk27 := hb21.grown hg25 nb
  refine gv_loadBox (t := 26) (b := b13) (t' := 26) (fr := (0, 0)) #[(.int .i64 r7.1), (.int .i64 r7.2)] [] (fun e => by cases e) rfl rfl rfl (by kernel_rfl) (by kernel_rfl) (by kernel_rfl) (by kernel_rfl) (inw1 fun w' hC' => (hC'.box hk27 nm_nil)) rfl ?_
  refine gv_nil <| gv_goA ?_
  refine gv_stage (fun _ => True) [2] [(2, some false)] (bA 3 [0, 1, 2]) 0 (by kernel_rfl) (by kernel_rfl) trivial ?_
  have hg32 := (grown_trans hg11 hg15)
  have hk33 := hb4.grown hg11 nb
  have lt34 := ltl ((ltb hk33) _ rfl) ((lowb hbe17) _ rfl)
  have hk35 := ((hb4.grown hg32 nb).grown hg20 (rowne (ng lt34))).grown hg25 nb
  refine gv_store (t := 26) (b := b1) (off := 0) (v := (.agg #[(.int .i64 r7.1), (.int .i64 r7.2)])) (t' := 26) (cs := #[(.int .i64 0), (.int .i64 0)]) #[(.int .i64 r7.1), (.int .i64 r7.2)] (by decide) rfl rfl (by kernel_rfl) (by kernel_rfl) (by kernel_rfl) (by intro u hu; simp [Value.cells] at hu; rcases hu with rfl | rfl <;> rfl) (show 0 + 2 ≤ 2 by decide) (by rfl) hk35 ?_
  intro w28 hg29 hb30 hz31
  refine ⟨(fun _ => trivial), ?_⟩
  refine gv_nil <| gv_goA ?_
  refine gv_stageE (by kernel_rfl) ?_
  refine gv_cret ?_
  have e := sj h0; subst e
  refine gv_ret (gv_done [(.slice none (length ([] : List UInt8)) 0), (.agg #[(.int .i64 r7.1), (.int .i64 r7.2)])] rfl ⟨(by kernel_rfl), ⟨⟨b1, 0, none⟩, (by kernel_rfl), run_loadVar_row w28 b1 _ 26 _ _ _ hb30 Tryd.underlying26 rfl (by kernel_rfl)⟩, trivial⟩ ?_)
  have hB36 := bg hB9 hg32 nb
  have hB37 := bg hB9 hg11 nb
  have hlo38 : w0.heap.size ≤ b13 := lob hbe17 hB37.size
  have hB39 := bg hB36 hg20 (rowlo hlo38)
  have hB40 := bg hB39 hg25 nb
  have hlo41 : w0.heap.size ≤ b1 := lob hbe5 hB0.size
  have hB42 := bg hB40 hg29 (rowlo hlo41)
  exact ⟨grown_of_below hB42, none, 0, rfl, (Gv.Own.nil bE 5 w28 (fun _ => False)), (fun _ h => by cases h)⟩
 ·replace h0 := ite_f hc23 h0
  refine gv_skip <| gv_seq <| gv_seq <| gv_region <| pN 3 [19, 20, 21] [(20, (.int .i64 ((length vs_1 : Nat) : Int))), (21, (.slice pa0_0 (length l_0) pc0_0))] ?_
  refine bindE h0 ?_; clear h0; intro r43 hr44 h0
  have hg45 := (grown_trans hg11 hg15)
  have hB46 := bg hB9 hg45 nb
  have hB47 := bg hB9 hg11 nb
  have hlo48 : w0.heap.size ≤ b13 := lob hbe17 hB47.size
  have hB49 := bg hB46 hg20 (rowlo hlo48)
  refine gv_call0 (by kernel_rfl) rfl (by kernel_rfl) enters20 (packing_values_ok fuel pa0_0 pc0_0 l_0 w19 (fun k => X0 k) (fun k hk => (fun k (hk : X0 k) => ltl (hX0 k hk) hB49.size) k hk) ((hpa0_0.below hB49 hX0).wide (fun k hk => hk)) r43 hr44) ?_
  rintro v52 w50 ⟨hg51, rfl⟩
  refine pN 1 [23] [(23, (.bool (((length vs_1 : Nat) : Int) != r43)))] ?_
  refine gv_nil <| gv_cond (b := (((length vs_1 : Nat) : Int) != r43)) (by kernel_rfl) (fun hc53 => ?_) (fun hc53 => ?_)
  ·replace h0 := ite_t hc53 h0
   refine gv_seq <| gv_region <| bindE h0 ?_; clear h0; intro r54 hr55 h0
   refine gv_call0 (by kernel_rfl) rfl (by kernel_rfl) enters21 (packing_at_ok fuel 9 (-2) w50  r54 hr55) ?_
   rintro v58 w56 ⟨hg57, rfl⟩
   clear hr55 hc53 hlo48 hB47 hB46 hg45 hr44 hc23 hz22 hb21 hz18 hb16 hB9 hr8 hz6 hg3
   refine pN 1 [4] [(4, (.slice none (length ([] : List UInt8)) 0))] ?_
   refine gv_sub [4, 5, 24] (σ' := [(4, (.slice none (length ([] : List UInt8)) 0)), (5, (bp b1)), (24, (.agg #[(.int .i64 r54.1), (.int .i64 r54.2)]))]) (by kernel_rfl) ?_
   have hg63 := (grown_trans hg11 hg15)
   have hk64 := hb4.grown hg11 nb
   have lt65 := ltl ((ltb hk64) _ rfl) ((lowb hbe17) _ rfl)
   have hg66 := (grown_trans hg51 hg57)
   have hk67 := ((hb4.grown hg63 nb).grown hg20 (rowne (ng lt65))).grown hg66 nb
   refine gv_store0 26 0 (.agg #[(.int .i64 r54.1), (.int .i64 r54.2)]) #[(.int .i64 r54.1), (.int .i64 r54.2)] hk67 (by kernel_rfl) (by kernel_rfl) (by kernel_rfl) ?_
   intro w59 hg60 hb61 hz62
   refine gv_nil <| gv_cret ?_
   have e := sj h0; subst e
   refine gv_ret (gv_done [(.slice none (length ([] : List UInt8)) 0), (.agg #[(.int .i64 r54.1), (.int .i64 r54.2)])] rfl ⟨(by kernel_rfl), ⟨⟨b1, 0, none⟩, (by kernel_rfl), run_loadVar_row w59 b1 _ 26 _ _ _ hb61 Tryd.underlying26 rfl (by kernel_rfl)⟩, trivial⟩ ?_)
   have hB68 := bg hB49 hg66 nb
   have hlo69 : w0.heap.size ≤ b1 := lob hbe5 hB0.size
   have hB70 := bg hB68 hg60 (rowlo hlo69)
   exact ⟨grown_of_below hB70, none, 0, rfl, (Gv.Own.nil bE 5 w59 (fun _ => False)), (fun _ h => by cases h)⟩
  ·replace h0 := ite_f hc53 h0
   refine gv_skip <| gv_seq <| gv_region <| pN 1 [7] [(7, (.slice none (length ([] : List UInt8)) 0))] ?_
   refine gv_nil <| gv_seq <| gv_region <| pN 1 [8] [(8, (.int .i64 0))] ?_
   refine gv_sub [0, 1, 5, 7, 8] (σ' := [(0, (.slice pa0_0 (length l_0) pc0_0)), (1, (.slice pa1_0 (length vs_1) pc1_0)), (5, (bp b1)), (7, (.slice none (length ([] : List UInt8)) 0)), (8, (.int .i64 0))]) (by kernel_rfl) ?_
   refine gv_nil <| gv_seq <| gv_seq <| gv_region <| pN 3 [25, 26, 27] [(25, (.slice pa0_0 (length l_0) pc0_0)), (26, (.int .i64 ((length l_0 : Nat) : Int))), (27, (.int .i64 0))] ?_
   refine gv_nil <| bindE h0 ?_; clear h0; intro j71 h1 h0
   refine gv_cut_code (J := fun a w73 => ∃ s72 : ((List UInt8) × (Int × Int)), j71 = .inl s72 ∧ ∃ (a7_0j : Option Addr) (c7_0j : Nat), Below w0.heap.size w0 w73 ∧ w50.heap.size ≤ w73.heap.size ∧ Gv.Own bE 5 w73 (fun _ => False) a7_0j c7_0j s72.1 ∧ (∀ g, blk a7_0j = some g → w0.heap.size ≤ g) ∧ (∀ g, blk a7_0j = some g → ¬ (· = b1) g) ∧ ¬ (fun k => blk a7_0j = some k) b1 ∧ Box w73 b1 26 #[(.int .i64 s72.2.1), (.int .i64 s72.2.2)] ∧ a.defers = [] ∧ a.tmps.size = 67 ∧ Ok [(5, (bp b1)), (7, (.slice a7_0j (length s72.1) c7_0j))] a.tmps) ?_ ?_
   ·skip
    refine gv_block <| gv_loop (A := fun (s74 : ((List UInt8) × Int × Int × (Int × Int))) a w75 => ∃ (a7_0j : Option Addr) (c7_0j : Nat), Below w0.heap.size w0 w75 ∧ w50.heap.size ≤ w75.heap.size ∧ Gv.Own bE 5 w75 (fun _ => False) a7_0j c7_0j s74.1 ∧ (∀ g, blk a7_0j = some g → w0.heap.size ≤ g) ∧ (∀ g, blk a7_0j = some g → ¬ (· = b1) g) ∧ ¬ (fun k => blk a7_0j = some k) b1 ∧ Box w75 b1 26 #[(.int .i64 s74.2.2.2.1), (.int .i64 s74.2.2.2.2)] ∧ a.defers = [] ∧ a.tmps.size = 67 ∧ Ok [(1, (.slice pa1_0 (length vs_1) pc1_0)), (5, (bp b1)), (7, (.slice a7_0j (length s74.1) c7_0j)), (8, (.int .i64 s74.2.1)), (25, (.slice pa0_0 (length l_0) pc0_0)), (26, (.int .i64 ((length l_0 : Nat) : Int))), (27, (.int .i64 s74.2.2.1))] a.tmps) h1 ?_ ?_
    ·intro a hd hs hok
     have hB76 := bg hB49 hg51 nb
     have hk77 := hb4.grown hg11 nb
     have lt78 := ltl ((ltb hk77) _ rfl) ((lowb hbe17) _ rfl)
     have hk79 := ((hb4.grown hg45 nb).grown hg20 (rowne (ng lt78))).grown hg51 nb
     exact ⟨none, 0, hB76, nrf, (Gv.Own.nil bE 5 w50 (fun _ => False)), (fun _ h => by cases h), (fun _ h => by cases h), (fun h => by cases h), hk79, hd, hs, okp [1, 5, 7, 8, 25, 26, 27] hok⟩
    ·rintro s74 r2 h2 hR2 a w75 ⟨a82, c83, hB80, hz81, ho84, hl85, ap86, ap87, hb88, hd, hs, hok⟩
     refine gv_in ?_ hd hs hok
     clear hd hs hok
     clear hc53 hg51 hB49 hlo48 hB47 hB46 hg45 hr44 hc23 hz22 hb21 hg20 hz18 hbe17 hb16 hg15 hg11 hB9 hr8 hz6 hb4 hg3
     refine gv_seq <| gv_region <| pN 1 [28] [(28, (.bool (decide (s74.2.2.1 < ((length l_0 : Nat) : Int)))))] ?_
     refine gv_nil <| gv_seq <| gv_cond (b := (decide (s74.2.2.1 < ((length l_0 : Nat) : Int)))) (by kernel_rfl) (fun hc89 => ?_) (fun hc89 => ?_)
     ·replace h2 := ite_t hc89 h2
      refine gv_skip <| gv_seq <| bindE h2 ?_; clear h2; intro j90 h3 h2
      refine gv_cut_code (J := fun a w92 => ∃ s91 : ((List UInt8) × Int × (Int × Int)), j90 = .inl s91 ∧ ∃ (a7_0j : Option Addr) (c7_0j : Nat), Below w0.heap.size w0 w92 ∧ w75.heap.size ≤ w92.heap.size ∧ Gv.Own bE 5 w92 (fun _ => False) a7_0j c7_0j s91.1 ∧ (∀ g, blk a7_0j = some g → w0.heap.size ≤ g) ∧ (∀ g, blk a7_0j = some g → ¬ (· = b1) g) ∧ ¬ (fun k => blk a7_0j = some k) b1 ∧ Box w92 b1 26 #[(.int .i64 s91.2.2.1), (.int .i64 s91.2.2.2)] ∧ a.defers = [] ∧ a.tmps.size = 67 ∧ Ok [(1, (.slice pa1_0 (length vs_1) pc1_0)), (5, (bp b1)), (7, (.slice a7_0j (length s91.1) c7_0j)), (8, (.int .i64 s91.2.1)), (25, (.slice pa0_0 (length l_0) pc0_0)), (26, (.int .i64 ((length l_0 : Nat) : Int))), (27, (.int .i64 s74.2.2.1))] a.tmps) ?_ ?_
      ·skip
       refine gv_block <| gv_seq <| gv_region <| bindE h3 ?_; clear h3; intro x93 hx94 h3
       refine gv_idxaddr (t := 22) (e := 31) (a := pa0_0) (len := length l_0) (cap := pc0_0) (kk := .i64) (i := s74.2.2.1) (sz := 3) [] (fun e => by cases e) rfl rfl rfl (by kernel_rfl) (by kernel_rfl) Tryd.underlying22 (by kernel_rfl) ((hpa0_0.below hB80 hX0).has hx94) (idx_spec hx94).1 (idx_spec hx94).2.1 rfl ?_
       obtain ⟨_, ⟨_, _, rfl, rfl, ⟨_, _, rfl, rfl, rfl⟩⟩, hc95⟩ := hpa0_0.cellsK hx94
       refine gv_loadAgg (t := 31) (A := (elemAddr pa0_0 ((s74.2.2.1 : Int).toNat * 3))) #[(.int .u8 x93.1), (.int .i64 x93.2.1), (.bool x93.2.2)] [] (fun e => by cases e) rfl rfl rfl (by kernel_rfl) (by kernel_rfl) (by kernel_rfl) (by kernel_rfl) (inw0 (hc95 w75 (fun k hk => hB80.block k (hX0 k hk)))) rfl ?_
       refine gv_new0 (fun b => .pointer (some ⟨b, 0, none⟩)) #[(.int .u8 0), (.int .i64 0), (.bool false)] 31 (by kernel_rfl) (by kernel_rfl) ?_
       intro b96 w97 hg98 hb99 hbe100 hz101
       refine gv_store0 31 0 (.agg #[(.int .u8 x93.1), (.int .i64 x93.2.1), (.bool x93.2.2)]) #[(.int .u8 x93.1), (.int .i64 x93.2.1), (.bool x93.2.2)] hb99 (by kernel_rfl) (by kernel_rfl) (by kernel_rfl) ?_
       intro w102 hg103 hb104 hz105
       refine gv_nil <| gv_seq <| gv_seq <| gv_region <| pN 1 [31] [(31, (bp b96))] ?_
       refine gv_load (t := 5) (A := ⟨b96, 0, none⟩) (.int .u8 x93.1) [] (fun e => by cases e) rfl rfl rfl (by kernel_rfl) (by kernel_rfl) (by kernel_rfl) (inw0 (hb104.cell 0 rfl)) rfl ?_
       refine pN 1 [33] [(33, (.bool (x93.1 == 120)))] ?_
       refine gv_nil <| gv_cond (b := (x93.1 == 120)) (by kernel_rfl) (fun hc106 => ?_) (fun hc106 => ?_)
       ·replace h3 := ite_t hc106 h3
        refine gv_seq <| gv_region <| pN 2 [34, 35] [(34, (.slice a82 (length s74.1) c83)), (35, (.pointer (some ⟨b96, 1, none⟩)))] ?_
        refine gv_load (t := 3) (A := ⟨b96, 1, none⟩) (.int .i64 x93.2.1) [] (fun e => by cases e) rfl rfl rfl (by kernel_rfl) (by kernel_rfl) (by kernel_rfl) (inw0 (hb104.cell 1 rfl)) rfl ?_
        refine bindE h3 ?_; clear h3; intro l107 hx108 h3
        refine bindE h3 ?_; clear h3; intro l109 hx110 h3
        have ap117 : ¬ (fun k => blk a82 = some k) b96 := fun hx => nl ((lowb hbe100) _ rfl) ((fun k (hk : blk a82 = some k) => ho84.lt k hk) _ hx)
        have hk118 := (ho84.grown hg98 (fun _ h => h.elim) nb).grown hg103 (fun _ h => h.elim) (rdnn (rowne ap117))
        refine gv_appendA (t := 24) (tx := 3) (ty := 24) (e := 5) (z := .int .u8 0) (x := (.int .i64 x93.2.1)) (a := a82) (cap := c83) (xs := s74.1) l107 l109 (by decide) rfl rfl (by kernel_rfl) (by kernel_rfl) (asrc_zeroB w102 Tryd.underlying24 Tryd.underlying3 (by kernel_rfl) hx108) rfl hk118 hx110 ?_
        intro a111 c112 w113 hg114 ho115 hk116
        refine ⟨(fun e => by cases e), ?_⟩
        have hB120 := bg hB80 hg98 nb
        have hlo121 : w0.heap.size ≤ b96 := lob hbe100 hB80.size
        have hB122 := bg hB120 hg103 (rowlo hlo121)
        have hl119 : ∀ g, blk a111 = some g → w0.heap.size ≤ g := blk_step hk116 hl85 hB122.size
        have lt124 := ltl ((ltb hb88) _ rfl) ((lowb hbe100) _ rfl)
        have hk125 := (hb88.grown hg98 nb).grown hg103 (rowne (ng lt124))
        have ap123 : ∀ g, blk a111 = some g → ¬ (· = b1) g := blk_neX hk116 ap86 (ltb hk125)
        have ap126 : ¬ (fun k => blk a111 = some k) b1 := fun h => blk_rev hk116 (fun h => (ap87) h) (hk125.lt) h
        have ap128 : ∀ g, blk a82 = some g → ¬ (· = b96) g := fun g e hx => nl ((lowb hbe100) _ hx) ((fun k (hk : blk a82 = some k) => ho84.lt k hk) g e)
        have ap127 : ∀ g, blk a111 = some g → ¬ (· = b96) g := blk_neX hk116 ap128 (ltb hb104)
        have ap129 : ¬ (fun k => blk a111 = some k) b96 := fun h => blk_rev hk116 (fun h => (ap117) h) (hb104.lt) h
        refine pN 1 [7] [(7, (.slice a111 (length l109) c112))] ?_
        refine gv_nil <| gv_cexit <| gv_exit rfl ?_
        have e := sj h3; subst e
        refine gv_goal fun a hd hs hok => ?_
        have hB130 := bg hB122 hg114 hl85
        have hz131 := (nt (nt hg98.size hg103.size) hg114.size)
        have hk132 := hk125.grown hg114 ap86
        exact ⟨(l109, s74.2.1, (s74.2.2.2.1, s74.2.2.2.2)), rfl, a111, c112, hB130, hz131, ho115, hl119, ap123, ap126, hk132, hd, hs, okp [1, 5, 7, 8, 25, 26, 27] hok⟩
       ·replace h3 := ite_f hc106 h3
        refine gv_skip <| gv_seq <| gv_seq <| gv_region <| pN 2 [38, 39] [(38, (.slice pa1_0 (length vs_1) pc1_0)), (39, (.int .i64 s74.2.1))] ?_
        refine bindE h3 ?_; clear h3; intro x133 hx134 h3
        have hB135 := bg hB80 hg98 nb
        have hlo136 : w0.heap.size ≤ b96 := lob hbe100 hB80.size
        have hB137 := bg hB135 hg103 (rowlo hlo136)
        refine gv_idxaddr (t := 23) (e := 48) (a := pa1_0) (len := length vs_1) (cap := pc1_0) (kk := .i64) (i := s74.2.1) (sz := 7) [] (fun e => by cases e) rfl rfl rfl (by kernel_rfl) (by kernel_rfl) Tryd.underlying23 (by kernel_rfl) ((hpa1_0.below hB137 hX0).has hx134) (idx_spec hx134).1 (idx_spec hx134).2.1 rfl ?_
        obtain ⟨_, ⟨_, _, rfl, rfl, ⟨_, _, rfl, ⟨_, _, rfl, rfl, ⟨a139, c140, rfl, hr141⟩⟩, ⟨_, _, rfl, ⟨_, _, rfl, rfl, ⟨a142, c143, rfl, hr144⟩⟩, ⟨_, _, rfl, rfl, rfl⟩⟩⟩⟩, hc138⟩ := hpa1_0.cellsK hx134
        refine gv_loadAgg (t := 48) (A := (elemAddr pa1_0 ((s74.2.1 : Int).toNat * 7))) #[(.int .i64 x133.1), (.bool x133.2.1.1), (.slice a139 (length x133.2.1.2) c140), (.bool x133.2.2.1.1), (.slice a142 (length x133.2.2.1.2) c143), (.string x133.2.2.2.1), (.int .i64 x133.2.2.2.2)] [] (fun e => by cases e) rfl rfl rfl (by kernel_rfl) (by kernel_rfl) (by kernel_rfl) (by kernel_rfl) (inw0 (hc138 w102 (fun k hk => hB137.block k (hX0 k hk)))) rfl ?_
        refine bindE h3 ?_; clear h3; intro r145 hr146 h3
        refine gv_call0 (by kernel_rfl) rfl (by kernel_rfl) enters22 (packing_valid_ok fuel a139 c140 a142 c143 (x133.1, (x133.2.1.1, x133.2.1.2), (x133.2.2.1.1, x133.2.2.1.2), x133.2.2.2.1, x133.2.2.2.2) w102 (fun k => X0 k ∨ X0 k) (fun k hk => (hk).elim (fun h => (fun k (hk : X0 k) => ltl (hX0 k hk) hB137.size) k h) (fun h => (fun k (hk : X0 k) => ltl (hX0 k hk) hB137.size) k h)) ((hr141.below hB137 hX0).wide (fun k hk => (.inl hk))) ((hr144.below hB137 hX0).wide (fun k hk => (.inr hk))) r145 hr146) ?_
        rintro v149 w147 ⟨hg148, rfl⟩
        refine pN 1 [43] [(43, (.bool (!r145)))] ?_
        refine gv_nil <| gv_cond (b := (!r145)) (by kernel_rfl) (fun hc150 => ?_) (fun hc150 => ?_)
        ·replace h3 := ite_t hc150 h3
         refine gv_seq <| gv_region <| pN 1 [44] [(44, (.int .i64 s74.2.1))] ?_
         refine gv_sub [5, 44] (σ' := [(5, (bp b1)), (44, (.int .i64 s74.2.1))]) (by kernel_rfl) ?_
         refine bindE h3 ?_; clear h3; intro r151 hr152 h3
         refine gv_call0 (by kernel_rfl) rfl (by kernel_rfl) enters21 (packing_at_ok fuel 6 s74.2.1 w147  r151 hr152) ?_
         rintro v155 w153 ⟨hg154, rfl⟩
         refine pN 1 [4] [(4, (.slice none (length ([] : List UInt8)) 0))] ?_
         have lt160 := ltl ((ltb hb88) _ rfl) ((lowb hbe100) _ rfl)
         have hg161 := (grown_trans hg148 hg154)
         have hk162 := ((hb88.grown hg98 nb).grown hg103 (rowne (ng lt160))).grown hg161 nb
         refine gv_store0 26 0 (.agg #[(.int .i64 r151.1), (.int .i64 r151.2)]) #[(.int .i64 r151.1), (.int .i64 r151.2)] hk162 (by kernel_rfl) (by kernel_rfl) (by kernel_rfl) ?_
         intro w156 hg157 hb158 hz159
         refine gv_nil <| gv_cret ?_
         have e := sj h3; subst e
         replace h2 := cont_inr h2
         have e := sj h2; subst e
         replace h1 := congrArg some (hR2 _ rfl)
         have e := sj h1; subst e
         replace h0 := cont_inr h0
         have e := sj h0; subst e
         refine gv_ret (gv_done [(.slice none (length ([] : List UInt8)) 0), (.agg #[(.int .i64 r151.1), (.int .i64 r151.2)])] rfl ⟨(by kernel_rfl), ⟨⟨b1, 0, none⟩, (by kernel_rfl), run_loadVar_row w156 b1 _ 26 _ _ _ hb158 Tryd.underlying26 rfl (by kernel_rfl)⟩, trivial⟩ ?_)
         have hB163 := bg hB137 hg161 nb
         have hlo164 : w0.heap.size ≤ b1 := lob hbe5 hB0.size
         have hB165 := bg hB163 hg157 (rowlo hlo164)
         exact ⟨grown_of_below hB165, none, 0, rfl, (Gv.Own.nil bE 5 w156 (fun _ => False)), (fun _ h => by cases h)⟩
        ·replace h3 := ite_f hc150 h3
         refine gv_skip <| gv_seq <| gv_drawA (by kernel_rfl) ?_
         intro w166 hg167
         refine gv_pre [0, 2, 3, 4] (bA 12 [0, 2, 3, 4]) 8 (by kernel_rfl) (by kernel_rfl) ?_
         have hz168 := (nt (nt (nt hg98.size hg103.size) hg148.size) hg167.size)
         clear hc150 hr146 hc138 hB135 hx134 hc106 hz105 hz101 hb99 hc95 hx94 hc89 hB80
         refine pN 3 [47, 49, 50] [(47, (.slice a82 (length s74.1) c83)), (49, (.slice pa1_0 (length vs_1) pc1_0)), (50, (.int .i64 s74.2.1))] ?_
         refine gv_sub [1, 5, 8, 10, 25, 26, 27, 47, 49, 50] (σ' := [(1, (.slice pa1_0 (length vs_1) pc1_0)), (5, (bp b1)), (8, (.int .i64 s74.2.1)), (10, (bp b96)), (25, (.slice pa0_0 (length l_0) pc0_0)), (26, (.int .i64 ((length l_0 : Nat) : Int))), (27, (.int .i64 s74.2.2.1)), (47, (.slice a82 (length s74.1) c83)), (49, (.slice pa1_0 (length vs_1) pc1_0)), (50, (.int .i64 s74.2.1))]) (by kernel_rfl) ?_
         refine bindE h3 ?_; clear h3; intro x169 hx170 h3
         have hg171 := (grown_trans hg148 hg167)
         have hB172 := bg hB137 hg171 nb
         refine gv_idxaddr (t := 23) (e := 48) (a := pa1_0) (len := length vs_1) (cap := pc1_0) (kk := .i64) (i := s74.2.1) (sz := 7) [] (fun e => by cases e) rfl rfl rfl (by kernel_rfl) (by kernel_rfl) Tryd.underlying23 (by kernel_rfl) ((hpa1_0.below hB172 hX0).has hx170) (idx_spec hx170).1 (idx_spec hx170).2.1 rfl ?_
         refine gv_nil <| gv_goA ?_
         refine gv_stage (Cls w166 []) [1, 5] [(1, some true), (5, some true)] (bA 12 [0, 1, 2, 3, 4, 5]) 6 (by kernel_rfl) (by kernel_rfl) (Cls.refl _ _) ?_
         have hC173 := Cls.refl w166 []
         have hk174 := hb104.grown hg171 nb
         refine gv_loadBox (t := 31) (b := b96) (t' := 31) (fr := (0, 0)) #[(.int .u8 x93.1), (.int .i64 x93.2.1), (.bool x93.2.2)] [] (fun e => by cases e) rfl rfl rfl (by kernel_rfl) (by kernel_rfl) (by kernel_rfl) (by kernel_rfl) (inw1 fun w' hC' => (hC'.box hk174 nm_nil)) rfl ?_
         obtain ⟨_, ⟨_, _, rfl, rfl, ⟨_, _, rfl, ⟨_, _, rfl, rfl, ⟨a176, c177, rfl, hr178⟩⟩, ⟨_, _, rfl, ⟨_, _, rfl, rfl, ⟨a179, c180, rfl, hr181⟩⟩, ⟨_, _, rfl, rfl, rfl⟩⟩⟩⟩, hc175⟩ := hpa1_0.cellsK hx170
         refine gv_loadAgg (t := 48) (A := (elemAddr pa1_0 ((s74.2.1 : Int).toNat * 7))) #[(.int .i64 x169.1), (.bool x169.2.1.1), (.slice a176 (length x169.2.1.2) c177), (.bool x169.2.2.1.1), (.slice a179 (length x169.2.2.1.2) c180), (.string x169.2.2.2.1), (.int .i64 x169.2.2.2.2)] [] (fun e => by cases e) rfl rfl rfl (by kernel_rfl) (by kernel_rfl) (by kernel_rfl) (by kernel_rfl) (inw1 fun w' hC' => (hc175 w' (fun k hk => (hC'.2 k ((fun k (hk : X0 k) => ltl (hX0 k hk) hB172.size) k hk) (fun hg => nmx_nil k hg hk)).trans (hB172.block k (hX0 k hk))))) rfl ?_
         refine gv_nil <| gv_goA ?_
         refine gv_stage (fun _ => True) [6] [(6, some false)] (bA 12 [0, 1, 2, 3, 4, 5, 6]) 5 (by kernel_rfl) (by kernel_rfl) trivial ?_
         refine bindE h3 ?_; clear h3; intro r182 hr183 h3
         have ap184 : ¬ (fun k => blk a82 = some k) b96 := fun hx => nl ((lowb hbe100) _ rfl) ((fun k (hk : blk a82 = some k) => ho84.lt k hk) _ hx)
         have hk185 := ((ho84.grown hg98 (fun _ h => h.elim) nb).grown hg103 (fun _ h => h.elim) (rdnn (rowne ap184))).grown hg171 (fun _ h => h.elim) nb
         refine gv_call (f := 23) (vs := [(.slice a82 (length s74.1) c83), (.agg #[(.int .u8 x93.1), (.int .i64 x93.2.1), (.bool x93.2.2)]), (.agg #[(.int .i64 x169.1), (.bool x169.2.1.1), (.slice a176 (length x169.2.1.2) c177), (.bool x169.2.2.1.1), (.slice a179 (length x169.2.2.1.2) c180), (.string x169.2.2.2.1), (.int .i64 x169.2.2.2.2)])]) (cap := []) _ (by decide) rfl rfl rfl (by kernel_rfl) (by kernel_rfl) enters23 (packing_pack_ok fuel a82 c83 s74.1 (x93.1, x93.2.1, x93.2.2) a176 c177 a179 c180 (x169.1, (x169.2.1.1, x169.2.1.2), (x169.2.2.1.1, x169.2.2.1.2), x169.2.2.2.1, x169.2.2.2.2) w166 (fun k => X0 k ∨ X0 k) (fun k hk => ⟨(hk).elim (fun h => (fun k (hk : X0 k) => ltl (hX0 k hk) hB172.size) k h) (fun h => (fun k (hk : X0 k) => ltl (hX0 k hk) hB172.size) k h), fun e => (hk).elim (fun h => ((fun g (e : blk a82 = some g) (hx : X0 g) => nl (hl85 g e) (hX0 _ hx)) k e h)) (fun h => ((fun g (e : blk a82 = some g) (hx : X0 g) => nl (hl85 g e) (hX0 _ hx)) k e h))⟩) hk185 ((hr178.below hB172 hX0).wide (fun k hk => (.inl hk))) ((hr181.below hB172 hX0).wide (fun k hk => (.inr hk))) r182 hr183) ?_
         rintro v188 w186 ⟨hg187, a189, c190, rfl, ho191, hk192⟩
         refine ⟨(fun _ => trivial), ?_⟩
         have hl193 : ∀ g, blk a189 = some g → w0.heap.size ≤ g := blkw_step hk192 hl85 hB172.size
         refine gv_nil <| gv_goA ?_
         refine gv_pre [7, 8, 9, 10, 11] (bA 12 [0, 1, 2, 3, 4, 5, 6, 7, 8, 9, 10, 11]) 0 (by kernel_rfl) (by kernel_rfl) ?_
         refine pN 5 [11, 12, 46, 54, 55] [(11, (.slice a189 (length r182.1) c190)), (12, (.int .i64 r182.2))] ?_
         refine gv_nil <| gv_goA ?_
         refine gv_stageE (by kernel_rfl) ?_
         refine gv_seq <| gv_seq <| gv_region <| pN 2 [56, 57] [(57, (.bool (r182.2 != 0)))] ?_
         refine gv_nil <| gv_cond (b := (r182.2 != 0)) (by kernel_rfl) (fun hc194 => ?_) (fun hc194 => ?_)
         ·replace h3 := ite_t hc194 h3
          refine gv_seq <| gv_region <| pN 2 [58, 59] [(58, (.int .i64 r182.2)), (59, (.int .i64 s74.2.1))] ?_
          refine bindE h3 ?_; clear h3; intro r195 hr196 h3
          refine gv_call0 (by kernel_rfl) rfl (by kernel_rfl) enters21 (packing_at_ok fuel r182.2 s74.2.1 w186  r195 hr196) ?_
          rintro v199 w197 ⟨hg198, rfl⟩
          refine pN 1 [4] [(4, (.slice none (length ([] : List UInt8)) 0))] ?_
          have lt204 := ltl ((ltb hb88) _ rfl) ((lowb hbe100) _ rfl)
          have hk205 := ((((hb88.grown hg98 nb).grown hg103 (rowne (ng lt204))).grown hg171 nb).grown hg187 ap86).grown hg198 nb
          refine gv_store0 26 0 (.agg #[(.int .i64 r195.1), (.int .i64 r195.2)]) #[(.int .i64 r195.1), (.int .i64 r195.2)] hk205 (by kernel_rfl) (by kernel_rfl) (by kernel_rfl) ?_
          intro w200 hg201 hb202 hz203
          refine gv_nil <| gv_cret ?_
          have e := sj h3; subst e
          replace h2 := cont_inr h2
          have e := sj h2; subst e
          replace h1 := congrArg some (hR2 _ rfl)
          have e := sj h1; subst e
          replace h0 := cont_inr h0
          have e := sj h0; subst e
          refine gv_ret (gv_done [(.slice none (length ([] : List UInt8)) 0), (.agg #[(.int .i64 r195.1), (.int .i64 r195.2)])] rfl ⟨(by kernel_rfl), ⟨⟨b1, 0, none⟩, (by kernel_rfl), run_loadVar_row w200 b1 _ 26 _ _ _ hb202 Tryd.underlying26 rfl (by kernel_rfl)⟩, trivial⟩ ?_)
          have hB206 := bg hB172 hg187 hl85
          have hB207 := bg hB206 hg198 nb
          have hlo208 : w0.heap.size ≤ b1 := lob hbe5 hB0.size
          have hB209 := bg hB207 hg201 (rowlo hlo208)
          exact ⟨grown_of_below hB209, none, 0, rfl, (Gv.Own.nil bE 5 w200 (fun _ => False)), (fun _ h => by cases h)⟩
         ·replace h3 := ite_f hc194 h3
          refine gv_skip <| gv_seq <| gv_region <| pN 2 [7, 61] [(7, (.slice a189 (length r182.1) c190))] ?_
          refine gv_nil <| gv_region <| pN 3 [8, 62, 63] [(8, (.int .i64 (IntKind.i64.wrap (s74.2.1 + 1))))] ?_
          refine gv_nil <| gv_blk ?_
          have e := sj h3; subst e
          refine gv_goal fun a hd hs hok => ?_
          have hB210 := bg hB172 hg187 hl85
          have hz211 := (nt hz168 hg187.size)
          have lt212 := ltl ((ltb hb88) _ rfl) ((lowb hbe100) _ rfl)
          have hk213 := ((hb88.grown hg98 nb).grown hg103 (rowne (ng lt212))).grown hg171 nb
          have ap214 : ∀ g, blk a189 = some g → ¬ (· = b1) g := blkw_neX hk192 ap86 (ltb hk213)
          have ap215 : ¬ (fun k => blk a189 = some k) b1 := fun h => blkw_rev hk192 (fun h => (ap87) h) (hk213.lt) h
          have hk216 := hk213.grown hg187 ap86
          exact ⟨(r182.1, (IntKind.i64.wrap (s74.2.1 + 1)), (s74.2.2.2.1, s74.2.2.2.2)), rfl, a189, c190, hB210, hz211, ho191, hl193, ap214, ap215, hk216, hd, hs, okp [1, 5, 7, 8, 25, 26, 27] hok⟩
      ·rintro a w92 ⟨s91, e, a219, c220, hB217, hz218, ho221, hl222, ap223, ap224, hb225, hd, hs, hok⟩
       subst e
       refine gv_in ?_ hd hs hok
       clear hd hs hok
       replace h2 := cont_inl h2
       have hz226 := (nt hz81 hz218)
       clear hz218 hc89 hb88 ap87 ap86 hl85 ho84 hz81 hB80
       refine gv_region <| pN 2 [27, 64] [(27, (.int .i64 (IntKind.i64.wrap (s74.2.2.1 + 1))))] ?_
       refine gv_nil ?_
       have e := sj h2; subst e
       refine gv_goal fun a hd hs hok => ?_
       have hz227 := hz226
       exact ⟨(s91.1, s91.2.1, (IntKind.i64.wrap (s74.2.2.1 + 1)), (s91.2.2.1, s91.2.2.2)), rfl, a219, c220, hB217, hz227, ho221, hl222, ap223, ap224, hb225, hd, hs, okp [1, 5, 7, 8, 25, 26, 27] hok⟩
     ·replace h2 := ite_f hc89 h2
      refine gv_cexit <| gv_exit rfl ?_
      have e := sj h2; subst e
      replace h1 := congrArg some (hR2 _ rfl)
      have e := sj h1; subst e
      refine gv_goal fun a hd hs hok => ?_
      have hz228 := hz81
      exact ⟨(s74.1, (s74.2.2.2.1, s74.2.2.2.2)), rfl, a82, c83, hB80, hz228, ho84, hl85, ap86, ap87, hb88, hd, hs, okp [5, 7] hok⟩
   ·rintro a w73 ⟨s72, e, a231, c232, hB229, hz230, ho233, hl234, ap235, ap236, hb237, hd, hs, hok⟩
    subst e
    refine gv_in ?_ hd hs hok
    clear hd hs hok
    replace h0 := cont_inl h0
    clear hz230 hc53 hg51 hB49 hlo48 hB47 hB46 hg45 hr44 hc23 hz22 hb21 hg20 hz18 hbe17 hb16 hg15 hg11 hB9 hr8 hz6 hb4 hg3
    refine gv_seq <| gv_region <| pN 3 [4, 65, 66] [(4, (.slice a231 (length s72.1) c232)), (66, (.agg #[(.int .i64 0), (.int .i64 0)]))] ?_
    refine gv_store0 26 0 (.agg #[(.int .i64 0), (.int .i64 0)]) #[(.int .i64 0), (.int .i64 0)] hb237 (by kernel_rfl) (by kernel_rfl) (by kernel_rfl) ?_
    intro w238 hg239 hb240 hz241
    refine gv_nil <| gv_cret ?_
    have e := sj h0; subst e
    refine gv_ret (gv_done [(.slice a231 (length s72.1) c232), (.agg #[(.int .i64 0), (.int .i64 0)])] rfl ⟨(by kernel_rfl), ⟨⟨b1, 0, none⟩, (by kernel_rfl), run_loadVar_row w238 b1 _ 26 _ _ _ hb240 Tryd.underlying26 rfl (by kernel_rfl)⟩, trivial⟩ ?_)
    have hlo242 : w0.heap.size ≤ b1 := lob hbe5 hB0.size
    have hB243 := bg hB229 hg239 (rowlo hlo242)
    have hk244 := ho233.grown hg239 (fun _ h => h.elim) (rdnn (rowne ap236))
    exact ⟨grown_of_below hB243, a231, c232, rfl, hk244, hl234⟩

theorem stringslite_HasPrefix_ok (fuel : Nat) (s_0 : ByteArray) (prefix_1 : ByteArray) (w0 : World)  (r0 : Bool) (h0 : stringslite_HasPrefix fuel s_0 prefix_1 = some r0) :
    Calls Tryd.prog 40 ([(.string s_0), (.string prefix_1)] : List Value).toArray w0 (Ret fun v w' => w0.grownBy w' none ∧ v = tup [(.bool r0)]) := by
 have hB0 : Below w0.heap.size w0 w0 := Below.refl _ _
 unfold stringslite_HasPrefix at h0
 refine calls_run Tryd.func40 rfl Tryd.ntmps40 (by kernel_rfl) ?_
 refine gv_sub [0, 1] (σ' := [(0, (.string s_0)), (1, (.string prefix_1))]) (by kernel_rfl) ?_
 refine gv_seq <| gv_region <| pN 1 [4] [] ?_
 refine gv_nil <| gv_seq <| gv_region <| bindE h0 ?_; clear h0; intro j1 h1 h0
 refine gv_cut_ops (J := fun a w2 => Below w0.heap.size w0 w2 ∧ w0.heap.size ≤ w2.heap.size ∧ a.defers = [] ∧ a.tmps.size = 18 ∧ Ok [(4, (.bool j1))] a.tmps) ?_ ?_
 ·skip
  refine pN 6 [5, 6, 7, 8, 9, 10] [(10, (.bool (decide (((ByteArray.size s_0 : Nat) : Int) ≥ ((ByteArray.size prefix_1 : Nat) : Int)))))] ?_
  refine gv_split (s := 10) (g := (decide (((ByteArray.size s_0 : Nat) : Int) ≥ ((ByteArray.size prefix_1 : Nat) : Int)))) (by kernel_rfl) (fun hc3 => ?_) (fun hc3 => ?_)
  ·skip
   replace h1 := ite_t hc3 h1
   refine pN 3 [11, 12, 13] [(11, (.string s_0)), (13, (.int .i64 ((ByteArray.size prefix_1 : Nat) : Int)))] ?_
   refine bindE h1 ?_; clear h1; intro x4 hx5 h1
   refine gv_ssub (t := 9) (s := s_0) (lo := none) (hi := (some (.int .i64 ((ByteArray.size prefix_1 : Nat) : Int)))) 0 ((ByteArray.size prefix_1 : Nat) : Int) x4 [] (fun e => by cases e) rfl rfl rfl (by kernel_rfl) (by kernel_rfl) Tryd.underlying9 (.inl ⟨rfl, rfl⟩) (.inr ⟨_, rfl⟩) hx5 rfl ?_
   refine pN 4 [4, 15, 16, 17] [(4, (.bool (x4.toList == prefix_1.toList)))] ?_
   refine gv_nil ?_
   have e := sj h1; subst e
   refine gv_goal fun a hd hs hok => ?_
   exact ⟨hB0, nrf, hd, hs, okp [4] hok⟩
  ·skip
   replace h1 := ite_f hc3 h1
   refine pN 8 [4, 11, 12, 13, 14, 15, 16, 17] [(4, (.bool false))] ?_
   refine gv_nil ?_
   have e := sj h1; subst e
   refine gv_goal fun a hd hs hok => ?_
   exact ⟨hB0, nrf, hd, hs, okp [4] hok⟩
 ·rintro a w2 ⟨hB6, hz7, hd, hs, hok⟩
  refine gv_in ?_ hd hs hok
  clear hd hs hok
  refine gv_cret ?_
  have e := sj h0; subst e
  refine gv_ret (gv_done [(.bool j1)] rfl ⟨(by kernel_rfl), trivial⟩ ?_)
  exact ⟨grown_of_below hB6, rfl⟩

theorem strings_HasPrefix_ok (fuel : Nat) (s_0 : ByteArray) (prefix_1 : ByteArray) (w0 : World)  (r0 : Bool) (h0 : strings_HasPrefix fuel s_0 prefix_1 = some r0) :
    Calls Tryd.prog 25 ([(.string s_0), (.string prefix_1)] : List Value).toArray w0 (Ret fun v w' => w0.grownBy w' none ∧ v = tup [(.bool r0)]) := by
 have hB0 : Below w0.heap.size w0 w0 := Below.refl _ _
 unfold strings_HasPrefix at h0
 refine calls_run Tryd.func25 rfl Tryd.ntmps25 (by kernel_rfl) ?_
 refine gv_sub [0, 1] (σ' := [(0, (.string s_0)), (1, (.string prefix_1))]) (by kernel_rfl) ?_
 refine gv_seq <| gv_region <| pN 1 [4] [] ?_
 refine gv_nil <| gv_seq <| gv_region <| pN 2 [5, 6] [(5, (.string s_0)), (6, (.string prefix_1))] ?_
 refine bindE h0 ?_; clear h0; intro r1 hr2 h0
 refine gv_call0 (by kernel_rfl) rfl (by kernel_rfl) enters40 (stringslite_HasPrefix_ok fuel s_0 prefix_1 w0  r1 hr2) ?_
 rintro v5 w3 ⟨hg4, rfl⟩
 refine pN 1 [4] [(4, (.bool r1))] ?_
 refine gv_nil <| gv_cret ?_
 have e := sj h0; subst e
 refine gv_ret (gv_done [(.bool r1)] rfl ⟨(by kernel_rfl), trivial⟩ ?_)
 have hB6 := bg hB0 hg4 nb
 exact ⟨grown_of_below hB6, rfl⟩

theorem packing_number_ok (fuel : Nat) (s_0 : ByteArray) (w0 : World) (X0 : Nat → Prop) (hX0 : ∀ k, X0 k → k < w0.heap.size) {erx : TypeId × Value} (hG2 : Rd eE w0 X0 (some ⟨2, 0, none⟩) 1 [erx]) (r0 : (Int × ByteArray)) (h0 : packing_number fuel s_0 = some r0) :
    Calls Tryd.prog 26 ([(.string s_0)] : List Value).toArray w0 (Ret fun v w' => w0.grownBy w' none ∧ v = tup [(.int .i64 r0.1), (.string r0.2)]) := by
 have hB0 : Below w0.heap.size w0 w0 := Below.refl _ _
 unfold packing_number at h0
 refine calls_run Tryd.func26 rfl Tryd.ntmps26 (by kernel_rfl) ?_
 refine gv_sub [0] (σ' := [(0, (.string s_0))]) (by kernel_rfl) ?_
 refine gv_seq <| gv_region <| pN 2 [2, 3] [] ?_
 refine gv_nil <| gv_seq <| gv_region <| pN 3 [7, 8, 9] [(8, (.int .i64 ((ByteArray.size s_0 : Nat) : Int))), (9, (.string s_0))] ?_
 refine bindE h0 ?_; clear h0; intro r1 hr2 h0
 refine gv_call0 (by kernel_rfl) rfl (by kernel_rfl) enters41 (strings_TrimLeft_ok fuel s_0 (strOf [48, 49, 50, 51, 52, 53, 54, 55, 56, 57]) w0  r1 hr2) ?_
 rintro v5 w3 ⟨hg4, rfl⟩
 refine pN 3 [4, 11, 12] [(4, (.int .i64 (IntKind.i64.wrap (((ByteArray.size s_0 : Nat) : Int) - ((ByteArray.size r1 : Nat) : Int)))))] ?_
 refine bindE h0 ?_; clear h0; intro n6 hn7 h0
 refine gv_name (s := 4) (v := (.int .i64 (IntKind.i64.wrap (((ByteArray.size s_0 : Nat) : Int) - ((ByteArray.size r1 : Nat) : Int))))) (v' := (.int .i64 n6)) (by kernel_rfl) (congrArg (Value.int .i64) (sj hn7)) ?_
 refine gv_nil <| gv_seq <| gv_seq <| gv_region <| pN 2 [13, 14] [(14, (.bool (n6 == 0)))] ?_
 refine gv_nil <| gv_cond (b := (n6 == 0)) (by kernel_rfl) (fun hc8 => ?_) (fun hc8 => ?_)
 ·replace h0 := ite_t hc8 h0
  refine gv_seq <| gv_region <| pN 3 [2, 3, 15] [(2, (.int .i64 (-1))), (3, (.string s_0))] ?_
  refine gv_nil <| gv_cret ?_
  have e := sj h0; subst e
  refine gv_ret (gv_done [(.int .i64 (-1)), (.string s_0)] rfl ⟨(by kernel_rfl), (by kernel_rfl), trivial⟩ ?_)
  have hB9 := bg hB0 hg4 nb
  exact ⟨grown_of_below hB9, rfl⟩
 ·replace h0 := ite_f hc8 h0
  refine gv_skip <| gv_seq <| gv_region <| pN 2 [17, 18] [(17, (.string s_0)), (18, (.int .i64 n6))] ?_
  refine bindE h0 ?_; clear h0; intro x10 hx11 h0
  refine gv_ssub (t := 9) (s := s_0) (lo := none) (hi := (some (.int .i64 n6))) 0 n6 x10 [] (fun e => by cases e) rfl rfl rfl (by kernel_rfl) (by kernel_rfl) Tryd.underlying9 (.inl ⟨rfl, rfl⟩) (.inr ⟨_, rfl⟩) hx11 rfl ?_
  refine bindE h0 ?_; clear h0; intro r12 hr13 h0
  have hB14 := bg hB0 hg4 nb
  refine gv_call0 (by kernel_rfl) rfl (by kernel_rfl) enters42 (strconv_Atoi_ok fuel x10 w3 (fun k => X0 k) (fun k hk => (fun k (hk : X0 k) => ltl (hX0 k hk) hB14.size) k hk) ((hG2.below hB14 hX0).wide (fun k hk => hk)) r12 hr13) ?_
  rintro v17 w15 ⟨hg16, te18, pe19, rfl⟩
  refine pN 5 [5, 6, 16, 21, 22] [(5, (.int .i64 r12.1)), (6, (ifE r12.2 te18 pe19))] ?_
  refine gv_nil <| gv_seq <| gv_seq <| gv_region <| bindE h0 ?_; clear h0; intro j20 h1 h0
  refine gv_cut_ops (J := fun a w21 => Below w0.heap.size w0 w21 ∧ w15.heap.size ≤ w21.heap.size ∧ a.defers = [] ∧ a.tmps.size = 33 ∧ Ok [(0, (.string s_0)), (4, (.int .i64 n6)), (5, (.int .i64 r12.1)), (28, (.bool j20))] a.tmps) ?_ ?_
  ·skip
   refine pN 1 [23] [(23, (ifE r12.2 te18 pe19))] ?_
   refine gv_errneq (t := 84) (x := (.tmp 23)) (b := r12.2) (te := te18) (p := pe19) [] (fun e => by cases e) rfl rfl rfl (by kernel_rfl) (by kernel_rfl) (by kernel_rfl) rfl ?_
   refine pN 1 [25] [(25, (.bool r12.2))] ?_
   refine gv_split (s := 25) (g := r12.2) (by kernel_rfl) (fun hc22 => ?_) (fun hc22 => ?_)
   ·skip
    replace h1 := ite_t hc22 h1
    refine pN 3 [26, 27, 28] [(28, (.bool true))] ?_
    refine gv_nil ?_
    have e := sj h1; subst e
    refine gv_goal fun a hd hs hok => ?_
    have hB23 := bg hB14 hg16 nb
    exact ⟨hB23, nrf, hd, hs, okp [0, 4, 5, 28] hok⟩
   ·skip
    replace h1 := ite_f hc22 h1
    refine pN 3 [26, 27, 28] [(28, (.bool (decide (r12.1 > 100))))] ?_
    refine gv_nil ?_
    have e := sj h1; subst e
    refine gv_goal fun a hd hs hok => ?_
    have hB24 := bg hB14 hg16 nb
    exact ⟨hB24, nrf, hd, hs, okp [0, 4, 5, 28] hok⟩
  ·rintro a w21 ⟨hB25, hz26, hd, hs, hok⟩
   refine gv_in ?_ hd hs hok
   clear hd hs hok
   clear hz26 hg16 hB14 hr13 hx11 hc8 hn7 hg4 hr2
   refine bindE h0 ?_; clear h0; intro j27 h1 h0
   refine gv_cut_code (J := fun a w28 => Below w0.heap.size w0 w28 ∧ w21.heap.size ≤ w28.heap.size ∧ a.defers = [] ∧ a.tmps.size = 33 ∧ Ok [(0, (.string s_0)), (4, (.int .i64 n6)), (5, (.int .i64 j27))] a.tmps) ?_ ?_
   ·skip
    refine gv_cond (b := j20) (by kernel_rfl) (fun hc29 => ?_) (fun hc29 => ?_)
    ·replace h1 := ite_t hc29 h1
     refine gv_region <| pN 1 [5] [(5, (.int .i64 101))] ?_
     refine gv_nil ?_
     have e := sj h1; subst e
     refine gv_goal fun a hd hs hok => ?_
     exact ⟨hB25, nrf, hd, hs, okp [0, 4, 5] hok⟩
    ·replace h1 := ite_f hc29 h1
     refine gv_skip ?_
     have e := sj h1; subst e
     refine gv_goal fun a hd hs hok => ?_
     exact ⟨hB25, nrf, hd, hs, okp [0, 4, 5] hok⟩
   ·rintro a w28 ⟨hB30, hz31, hd, hs, hok⟩
    refine gv_in ?_ hd hs hok
    clear hd hs hok
    refine gv_seq <| gv_drawA (by kernel_rfl) ?_
    intro w32 hg33
    refine gv_pre [0, 1, 2, 3, 4, 5] (bA 6 [0, 1, 2, 3, 4, 5]) 0 (by kernel_rfl) (by kernel_rfl) ?_
    refine pN 3 [29, 30, 31] [(29, (.int .i64 j27)), (30, (.string s_0)), (31, (.int .i64 n6))] ?_
    refine bindE h0 ?_; clear h0; intro x34 hx35 h0
    refine gv_ssub (t := 9) (s := s_0) (lo := (some (.int .i64 n6))) (hi := none) n6 ((ByteArray.size s_0 : Nat) : Int) x34 [] (fun e => by cases e) rfl rfl rfl (by kernel_rfl) (by kernel_rfl) Tryd.underlying9 (.inr ⟨_, rfl⟩) (.inl ⟨rfl, rfl⟩) hx35 rfl ?_
    refine pN 2 [2, 3] [(2, (.int .i64 j27)), (3, (.string x34))] ?_
    refine gv_nil <| gv_goA ?_
    refine gv_stageE (by kernel_rfl) ?_
    refine gv_cret ?_
    have e := sj h0; subst e
    refine gv_ret (gv_done [(.int .i64 j27), (.string x34)] rfl ⟨(by kernel_rfl), (by kernel_rfl), trivial⟩ ?_)
    have hB36 := bg hB30 hg33 nb
    exact ⟨grown_of_below hB36, rfl⟩

theorem packing_Parse_ok (fuel : Nat) (format_0 : ByteArray) (w0 : World) (X0 : Nat → Prop) (hX0 : ∀ k, X0 k → k < w0.heap.size) {erx : TypeId × Value} (hG2 : Rd eE w0 X0 (some ⟨2, 0, none⟩) 1 [erx]) (r0 : ((List (Int × Int × Bool)) × (Int × Int))) (h0 : packing_Parse fuel format_0 = some r0) :
    Calls Tryd.prog 10 ([(.string format_0)] : List Value).toArray w0 (Ret fun v w' => w0.grownBy w' none ∧ ∃ (a0_0r : Option Addr) (c0_0r : Nat), v = tup [(.slice a0_0r (length r0.1) c0_0r), (.agg #[(.int .i64 r0.2.1), (.int .i64 r0.2.2)])] ∧ Gv.Own (prE (iE .u8) (prE (iE .i64) tE)) 31 w' (fun _ => False) a0_0r c0_0r r0.1 ∧ (∀ g, blk a0_0r = some g → w0.heap.size ≤ g)) := by
 have hB0 : Below w0.heap.size w0 w0 := Below.refl _ _
 unfold packing_Parse at h0
 refine calls_run Tryd.func10 rfl Tryd.ntmps10 (by kernel_rfl) ?_
 refine gv_sub [0] (σ' := [(0, (.string format_0))]) (by kernel_rfl) ?_
 refine gv_seq <| gv_region <| pN 1 [2] [] ?_
 refine gv_new0 (fun b => .pointer (some ⟨b, 0, none⟩)) #[(.int .i64 0), (.int .i64 0)] 26 (by kernel_rfl) (by kernel_rfl) ?_
 intro b1 w2 hg3 hb4 hbe5 hz6
 refine gv_nil <| gv_seq <| gv_seq <| gv_region <| pN 3 [12, 13, 14] [(14, (.bool (decide (((ByteArray.size format_0 : Nat) : Int) > 60))))] ?_
 refine gv_nil <| gv_cond (b := (decide (((ByteArray.size format_0 : Nat) : Int) > 60))) (by kernel_rfl) (fun hc7 => ?_) (fun hc7 => ?_)
 ·replace h0 := ite_t hc7 h0
  refine gv_seq <| gv_region <| bindE h0 ?_; clear h0; intro r8 hr9 h0
  refine gv_call0 (by kernel_rfl) rfl (by kernel_rfl) enters21 (packing_at_ok fuel 3 (-1) w2  r8 hr9) ?_
  rintro v12 w10 ⟨hg11, rfl⟩
  refine pN 1 [2] [(2, (.slice none (length ([] : List (Int × Int × Bool))) 0))] ?_
  have hk17 := hb4.grown hg11 nb
  refine gv_store0 26 0 (.agg #[(.int .i64 r8.1), (.int .i64 r8.2)]) #[(.int .i64 r8.1), (.int .i64 r8.2)] hk17 (by kernel_rfl) (by kernel_rfl) (by kernel_rfl) ?_
  intro w13 hg14 hb15 hz16
  refine gv_nil <| gv_cret ?_
  have e := sj h0; subst e
  refine gv_ret (gv_done [(.slice none (length ([] : List (Int × Int × Bool))) 0), (.agg #[(.int .i64 r8.1), (.int .i64 r8.2)])] rfl ⟨(by kernel_rfl), ⟨⟨b1, 0, none⟩, (by kernel_rfl), run_loadVar_row w13 b1 _ 26 _ _ _ hb15 Tryd.underlying26 rfl (by kernel_rfl)⟩, trivial⟩ ?_)
  have hg18 := (grown_trans hg3 hg11)
  have hB19 := bg hB0 hg18 nb
  have hlo20 : w0.heap.size ≤ b1 := lob hbe5 hB0.size
  have hB21 := bg hB19 hg14 (rowlo hlo20)
  exact ⟨grown_of_below hB21, none, 0, rfl, (Gv.Own.nil (prE (iE .u8) (prE (iE .i64) tE)) 31 w13 (fun _ => False)), (fun _ h => by cases h)⟩
 ·replace h0 := ite_f hc7 h0
  refine gv_skip <| gv_seq <| gv_region <| pN 1 [16] [(16, (.string format_0))] ?_
  refine bindE h0 ?_; clear h0; intro r22 hr23 h0
  refine gv_call0 (by kernel_rfl) rfl (by kernel_rfl) enters25 (strings_HasPrefix_ok fuel format_0 (strOf [62]) w2  r22 hr23) ?_
  rintro v26 w24 ⟨hg25, rfl⟩
  refine pN 1 [4] [(4, (.bool r22))] ?_
  refine gv_nil <| gv_seq <| gv_seq <| gv_region <| bindE h0 ?_; clear h0; intro j27 h1 h0
  refine gv_cut_ops (J := fun a w28 => Below w0.heap.size w0 w28 ∧ w24.heap.size ≤ w28.heap.size ∧ Box w28 b1 26 #[(.int .i64 0), (.int .i64 0)] ∧ a.defers = [] ∧ a.tmps.size = 95 ∧ Ok [(0, (.string format_0)), (3, (bp b1)), (4, (.bool r22)), (22, (.bool j27))] a.tmps) ?_ ?_
  ·skip
   refine pN 2 [18, 19] [(19, (.bool r22))] ?_
   refine gv_split (s := 19) (g := r22) (by kernel_rfl) (fun hc29 => ?_) (fun hc29 => ?_)
   ·skip
    replace h1 := ite_t hc29 h1
    refine pN 3 [20, 21, 22] [(22, (.bool true))] ?_
    refine gv_nil ?_
    have e := sj h1; subst e
    refine gv_goal fun a hd hs hok => ?_
    have hg30 := (grown_trans hg3 hg25)
    have hB31 := bg hB0 hg30 nb
    have hk32 := hb4.grown hg25 nb
    exact ⟨hB31, nrf, hk32, hd, hs, okp [0, 3, 4, 22] hok⟩
   ·skip
    replace h1 := ite_f hc29 h1
    refine pN 1 [20] [(20, (.string format_0))] ?_
    refine bindE h1 ?_; clear h1; intro r33 hr34 h1
    refine gv_call0 (by kernel_rfl) rfl (by kernel_rfl) enters25 (strings_HasPrefix_ok fuel format_0 (strOf [60]) w24  r33 hr34) ?_
    rintro v37 w35 ⟨hg36, rfl⟩
    refine pN 1 [22] [(22, (.bool r33))] ?_
    refine gv_nil ?_
    have e := sj h1; subst e
    refine gv_goal fun a hd hs hok => ?_
    have hg38 := (grown_trans (grown_trans hg3 hg25) hg36)
    have hB39 := bg hB0 hg38 nb
    have hz40 := hg36.size
    have hg41 := (grown_trans hg25 hg36)
    have hk42 := hb4.grown hg41 nb
    exact ⟨hB39, hz40, hk42, hd, hs, okp [0, 3, 4, 22] hok⟩
  ·rintro a w28 ⟨hB43, hz44, hb45, hd, hs, hok⟩
   refine gv_in ?_ hd hs hok
   clear hd hs hok
   clear hz44 hg25 hr23 hc7 hz6 hb4 hg3
   refine bindE h0 ?_; clear h0; intro j46 h1 h0
   refine gv_cut_code (J := fun a w47 => Below w0.heap.size w0 w47 ∧ w28.heap.size ≤ w47.heap.size ∧ Box w47 b1 26 #[(.int .i64 0), (.int .i64 0)] ∧ a.defers = [] ∧ a.tmps.size = 95 ∧ Ok [(0, (.string j46)), (3, (bp b1)), (4, (.bool r22))] a.tmps) ?_ ?_
   ·skip
    refine gv_cond (b := j27) (by kernel_rfl) (fun hc48 => ?_) (fun hc48 => ?_)
    ·replace h1 := ite_t hc48 h1
     refine gv_region <| pN 1 [23] [(23, (.string format_0))] ?_
     refine bindE h1 ?_; clear h1; intro x49 hx50 h1
     refine gv_ssub (t := 9) (s := format_0) (lo := (some (.int .i64 1))) (hi := none) 1 ((ByteArray.size format_0 : Nat) : Int) x49 [] (fun e => by cases e) rfl rfl rfl (by kernel_rfl) (by kernel_rfl) Tryd.underlying9 (.inr ⟨_, rfl⟩) (.inl ⟨rfl, rfl⟩) hx50 rfl ?_
     refine pN 1 [0] [(0, (.string x49))] ?_
     refine gv_nil ?_
     have e := sj h1; subst e
     refine gv_goal fun a hd hs hok => ?_
     exact ⟨hB43, nrf, hb45, hd, hs, okp [0, 3, 4] hok⟩
    ·replace h1 := ite_f hc48 h1
     refine gv_skip ?_
     have e := sj h1; subst e
     refine gv_goal fun a hd hs hok => ?_
     exact ⟨hB43, nrf, hb45, hd, hs, okp [0, 3, 4] hok⟩
   ·rintro a w47 ⟨hB51, hz52, hb53, hd, hs, hok⟩
    refine gv_in ?_ hd hs hok
    clear hd hs hok
    refine gv_seq <| gv_region <| pN 1 [5] [(5, (.slice none (length ([] : List (Int × Int × Bool))) 0))] ?_
    refine gv_nil <| gv_seq <| gv_region <| pN 1 [6] [(6, (.bool false))] ?_
    refine gv_nil <| gv_seq <| bindE h0 ?_; clear h0; intro j54 h1 h0
    refine gv_cut_code (J := fun a w56 => ∃ s55 : ((List (Int × Int × Bool)) × Bool × (Int × Int)), j54 = .inl s55 ∧ ∃ (a5_0j : Option Addr) (c5_0j : Nat), Below w0.heap.size w0 w56 ∧ w47.heap.size ≤ w56.heap.size ∧ Gv.Own (prE (iE .u8) (prE (iE .i64) tE)) 31 w56 (fun _ => False) a5_0j c5_0j s55.1 ∧ (∀ g, blk a5_0j = some g → w0.heap.size ≤ g) ∧ (∀ g, blk a5_0j = some g → ¬ (· = b1) g) ∧ ¬ (fun k => blk a5_0j = some k) b1 ∧ Box w56 b1 26 #[(.int .i64 s55.2.2.1), (.int .i64 s55.2.2.2)] ∧ a.defers = [] ∧ a.tmps.size = 95 ∧ Ok [(3, (bp b1)), (5, (.slice a5_0j (length s55.1) c5_0j)), (6, (.bool s55.2.1))] a.tmps) ?_ ?_
    ·skip
     refine gv_block <| gv_loop (A := fun (s57 : (ByteArray × (List (Int × Int × Bool)) × Bool × (Int × Int))) a w58 => ∃ (a5_0j : Option Addr) (c5_0j : Nat), Below w0.heap.size w0 w58 ∧ w47.heap.size ≤ w58.heap.size ∧ Gv.Own (prE (iE .u8) (prE (iE .i64) tE)) 31 w58 (fun _ => False) a5_0j c5_0j s57.2.1 ∧ (∀ g, blk a5_0j = some g → w0.heap.size ≤ g) ∧ (∀ g, blk a5_0j = some g → ¬ (· = b1) g) ∧ ¬ (fun k => blk a5_0j = some k) b1 ∧ Box w58 b1 26 #[(.int .i64 s57.2.2.2.1), (.int .i64 s57.2.2.2.2)] ∧ a.defers = [] ∧ a.tmps.size = 95 ∧ Ok [(0, (.string s57.1)), (3, (bp b1)), (4, (.bool r22)), (5, (.slice a5_0j (length s57.2.1) c5_0j)), (6, (.bool s57.2.2.1))] a.tmps) h1 ?_ ?_
     ·intro a hd hs hok
      exact ⟨none, 0, hB51, nrf, (Gv.Own.nil (prE (iE .u8) (prE (iE .i64) tE)) 31 w47 (fun _ => False)), (fun _ h => by cases h), (fun _ h => by cases h), (fun h => by cases h), hb53, hd, hs, okp [0, 3, 4, 5, 6] hok⟩
     ·rintro s57 r2 h2 hR2 a w58 ⟨a61, c62, hB59, hz60, ho63, hl64, ap65, ap66, hb67, hd, hs, hok⟩
      refine gv_in ?_ hd hs hok
      clear hd hs hok
      clear hb53 hz52 hB51 hb45 hB43
      refine gv_seq <| gv_seq <| gv_region <| pN 2 [25, 26] [(26, (.bool (!(s57.1.toList == (strOf []).toList))))] ?_
      refine gv_nil <| gv_cond (b := (!(s57.1.toList == (strOf []).toList))) (by kernel_rfl) (fun hc68 => ?_) (fun hc68 => ?_)
      ·replace h2 := ite_t hc68 h2
       refine gv_skip <| gv_block <| gv_seq <| gv_region <| pN 1 [27] [(27, (.string s57.1))] ?_
       refine bindE h2 ?_; clear h2; intro x69 hx70 h2
       refine gv_sindex (t := 9) (s := s57.1) (kk := .i64) (i := 0) x69 [] (fun e => by cases e) rfl rfl rfl (by kernel_rfl) (by kernel_rfl) Tryd.underlying9 hx70 rfl ?_
       refine pN 2 [7, 29] [(7, (.bool (x69 == 48)))] ?_
       refine gv_nil <| gv_seq <| gv_region <| pN 1 [31] [(31, (.string s57.1))] ?_
       refine bindE h2 ?_; clear h2; intro r71 hr72 h2
       refine gv_call0 (by kernel_rfl) rfl (by kernel_rfl) enters26 (packing_number_ok fuel s57.1 w58 (fun k => X0 k) (fun k hk => (fun k (hk : X0 k) => ltl (hX0 k hk) hB59.size) k hk) ((hG2.below hB59 hX0).wide (fun k hk => hk)) r71 hr72) ?_
       rintro v75 w73 ⟨hg74, rfl⟩
       refine pN 5 [8, 9, 30, 33, 34] [(8, (.int .i64 r71.1)), (9, (.string r71.2))] ?_
       refine gv_nil <| gv_seq <| gv_seq <| gv_region <| bindE h2 ?_; clear h2; intro j76 h3 h2
       refine gv_cut_ops (J := fun a w77 => Below w0.heap.size w0 w77 ∧ w73.heap.size ≤ w77.heap.size ∧ Box w77 b1 26 #[(.int .i64 s57.2.2.2.1), (.int .i64 s57.2.2.2.2)] ∧ Gv.Own (prE (iE .u8) (prE (iE .i64) tE)) 31 w77 (fun _ => False) a61 c62 s57.2.1 ∧ a.defers = [] ∧ a.tmps.size = 95 ∧ Ok [(3, (bp b1)), (4, (.bool r22)), (5, (.slice a61 (length s57.2.1) c62)), (6, (.bool s57.2.2.1)), (8, (.int .i64 r71.1)), (9, (.string r71.2)), (53, (.bool j76))] a.tmps) ?_ ?_
       ·skip
        refine pN 3 [35, 36, 37] [(37, (.bool (r71.2.toList == (strOf []).toList)))] ?_
        refine gv_split (s := 37) (g := (r71.2.toList == (strOf []).toList)) (by kernel_rfl) (fun hc78 => ?_) (fun hc78 => ?_)
        ·skip
         replace h3 := ite_t hc78 h3
         refine pN 16 [38, 39, 40, 41, 42, 43, 44, 45, 46, 47, 48, 49, 50, 51, 52, 53] [(53, (.bool true))] ?_
         refine gv_nil ?_
         have e := sj h3; subst e
         refine gv_goal fun a hd hs hok => ?_
         have hB79 := bg hB59 hg74 nb
         have hk80 := hb67.grown hg74 nb
         have hk81 := ho63.grown hg74 (fun _ h => h.elim) nb
         exact ⟨hB79, nrf, hk80, hk81, hd, hs, okp [3, 4, 5, 6, 8, 9, 53] hok⟩
        ·skip
         replace h3 := ite_f hc78 h3
         refine pN 1 [38] [(38, (.string r71.2))] ?_
         refine bindE h3 ?_; clear h3; intro x82 hx83 h3
         refine gv_sindex (t := 9) (s := r71.2) (kk := .i64) (i := 0) x82 [] (fun e => by cases e) rfl rfl rfl (by kernel_rfl) (by kernel_rfl) Tryd.underlying9 hx83 rfl ?_
         refine bindE h3 ?_; clear h3; intro r84 hr85 h3
         refine gv_call0 (by kernel_rfl) rfl (by kernel_rfl) enters27 (strings_IndexByte_ok fuel (strOf [98, 66, 104, 72, 105, 73, 113, 81, 118, 115, 112, 120, 63]) x82 w73  r84 hr85) ?_
         rintro v88 w86 ⟨hg87, rfl⟩
         refine pN 3 [41, 42, 43] [(43, (.bool (decide (r84 < 0))))] ?_
         refine gv_split (s := 43) (g := (decide (r84 < 0))) (by kernel_rfl) (fun hc89 => ?_) (fun hc89 => ?_)
         ·skip
          replace h3 := ite_t hc89 h3
          refine pN 10 [44, 45, 46, 47, 48, 49, 50, 51, 52, 53] [(53, (.bool true))] ?_
          refine gv_nil ?_
          have e := sj h3; subst e
          refine gv_goal fun a hd hs hok => ?_
          have hg90 := (grown_trans hg74 hg87)
          have hB91 := bg hB59 hg90 nb
          have hz92 := hg87.size
          have hk93 := hb67.grown hg90 nb
          have hk94 := ho63.grown hg90 (fun _ h => h.elim) nb
          exact ⟨hB91, hz92, hk93, hk94, hd, hs, okp [3, 4, 5, 6, 8, 9, 53] hok⟩
         ·skip
          replace h3 := ite_f hc89 h3
          refine pN 2 [44, 45] [(45, (.bool (x69 == 48)))] ?_
          refine gv_split (s := 45) (g := (x69 == 48)) (by kernel_rfl) (fun hc95 => ?_) (fun hc95 => ?_)
          ·skip
           replace h3 := ite_t hc95 h3
           refine pN 8 [46, 47, 48, 49, 50, 51, 52, 53] [(53, (.bool (((ByteArray.size r71.2 : Nat) : Int) != (IntKind.i64.wrap (((ByteArray.size s57.1 : Nat) : Int) - 1)))))] ?_
           refine gv_sub [3, 4, 5, 6, 8, 9, 53] (σ' := [(3, (bp b1)), (4, (.bool r22)), (5, (.slice a61 (length s57.2.1) c62)), (6, (.bool s57.2.2.1)), (8, (.int .i64 r71.1)), (9, (.string r71.2)), (53, (.bool (((ByteArray.size r71.2 : Nat) : Int) != (IntKind.i64.wrap (((ByteArray.size s57.1 : Nat) : Int) - 1)))))]) (by kernel_rfl) ?_
           refine gv_nil ?_
           have e := sj h3; subst e
           refine gv_goal fun a hd hs hok => ?_
           have hg96 := (grown_trans hg74 hg87)
           have hB97 := bg hB59 hg96 nb
           have hz98 := hg87.size
           have hk99 := hb67.grown hg96 nb
           have hk100 := ho63.grown hg96 (fun _ h => h.elim) nb
           exact ⟨hB97, hz98, hk99, hk100, hd, hs, okp [3, 4, 5, 6, 8, 9, 53] hok⟩
          ·skip
           replace h3 := ite_f hc95 h3
           refine pN 8 [46, 47, 48, 49, 50, 51, 52, 53] [(53, (.bool false))] ?_
           refine gv_sub [3, 4, 5, 6, 8, 9, 53] (σ' := [(3, (bp b1)), (4, (.bool r22)), (5, (.slice a61 (length s57.2.1) c62)), (6, (.bool s57.2.2.1)), (8, (.int .i64 r71.1)), (9, (.string r71.2)), (53, (.bool false))]) (by kernel_rfl) ?_
           refine gv_nil ?_
           have e := sj h3; subst e
           refine gv_goal fun a hd hs hok => ?_
           have hg101 := (grown_trans hg74 hg87)
           have hB102 := bg hB59 hg101 nb
           have hz103 := hg87.size
           have hk104 := hb67.grown hg101 nb
           have hk105 := ho63.grown hg101 (fun _ h => h.elim) nb
           exact ⟨hB102, hz103, hk104, hk105, hd, hs, okp [3, 4, 5, 6, 8, 9, 53] hok⟩
       ·rintro a w77 ⟨hB106, hz107, hb108, hk109, hd, hs, hok⟩
        refine gv_in ?_ hd hs hok
        clear hd hs hok
        have hz110 := (nt (nt hz60 hg74.size) hz107)
        clear hz107 hg74 hr72 hx70 hc68 hb67 ho63 hz60 hB59
        refine gv_cond (b := j76) (by kernel_rfl) (fun hc111 => ?_) (fun hc111 => ?_)
        ·replace h2 := ite_t hc111 h2
         refine gv_seq <| gv_region <| bindE h2 ?_; clear h2; intro r112 hr113 h2
         refine gv_call0 (by kernel_rfl) rfl (by kernel_rfl) enters21 (packing_at_ok fuel 1 (-1) w77  r112 hr113) ?_
         rintro v116 w114 ⟨hg115, rfl⟩
         have hz117 := (nt hz110 hg115.size)
         clear hr113 hc111 hz110 hk109 ap66 ap65 hl64
         refine pN 1 [2] [(2, (.slice none (length ([] : List (Int × Int × Bool))) 0))] ?_
         have hk122 := hb108.grown hg115 nb
         refine gv_store0 26 0 (.agg #[(.int .i64 r112.1), (.int .i64 r112.2)]) #[(.int .i64 r112.1), (.int .i64 r112.2)] hk122 (by kernel_rfl) (by kernel_rfl) (by kernel_rfl) ?_
         intro w118 hg119 hb120 hz121
         refine gv_nil <| gv_cret ?_
         have e := sj h2; subst e
         replace h1 := congrArg some (hR2 _ rfl)
         have e := sj h1; subst e
         replace h0 := cont_inr h0
         have e := sj h0; subst e
         refine gv_ret (gv_done [(.slice none (length ([] : List (Int × Int × Bool))) 0), (.agg #[(.int .i64 r112.1), (.int .i64 r112.2)])] rfl ⟨(by kernel_rfl), ⟨⟨b1, 0, none⟩, (by kernel_rfl), run_loadVar_row w118 b1 _ 26 _ _ _ hb120 Tryd.underlying26 rfl (by kernel_rfl)⟩, trivial⟩ ?_)
         have hB123 := bg hB106 hg115 nb
         have hlo124 : w0.heap.size ≤ b1 := lob hbe5 hB0.size
         have hB125 := bg hB123 hg119 (rowlo hlo124)
         exact ⟨grown_of_below hB125, none, 0, rfl, (Gv.Own.nil (prE (iE .u8) (prE (iE .i64) tE)) 31 w118 (fun _ => False)), (fun _ h => by cases h)⟩
        ·replace h2 := ite_f hc111 h2
         refine gv_skip <| gv_seq <| gv_region <| pN 1 [55] [(55, (.string r71.2))] ?_
         refine bindE h2 ?_; clear h2; intro x126 hx127 h2
         refine gv_sindex (t := 9) (s := r71.2) (kk := .i64) (i := 0) x126 [] (fun e => by cases e) rfl rfl rfl (by kernel_rfl) (by kernel_rfl) Tryd.underlying9 hx127 rfl ?_
         refine pN 1 [10] [(10, (.int .u8 x126))] ?_
         refine gv_nil <| gv_seq <| gv_region <| pN 1 [57] [(57, (.string r71.2))] ?_
         refine bindE h2 ?_; clear h2; intro x128 hx129 h2
         refine gv_ssub (t := 9) (s := r71.2) (lo := (some (.int .i64 1))) (hi := none) 1 ((ByteArray.size r71.2 : Nat) : Int) x128 [] (fun e => by cases e) rfl rfl rfl (by kernel_rfl) (by kernel_rfl) Tryd.underlying9 (.inr ⟨_, rfl⟩) (.inl ⟨rfl, rfl⟩) hx129 rfl ?_
         refine pN 1 [0] [(0, (.string x128))] ?_
         refine gv_nil <| gv_seq <| gv_region <| gv_cut_ops (J := fun a w130 => w77 = w130 ∧ a.defers = [] ∧ a.tmps.size = 95 ∧ Ok [(0, (.string x128)), (3, (bp b1)), (4, (.bool r22)), (5, (.slice a61 (length s57.2.1) c62)), (6, (.bool (s57.2.2.1 || (decide (r71.1 > 100))))), (8, (.int .i64 r71.1)), (10, (.int .u8 x126))] a.tmps) ?_ ?_
         ·skip
          refine pN 2 [59, 60] [(60, (.bool s57.2.2.1))] ?_
          refine gv_split (s := 60) (g := s57.2.2.1) (by kernel_rfl) (fun hc131 => ?_) (fun hc131 => ?_)
          ·skip
           refine pN 4 [6, 61, 62, 63] [(6, (.bool true))] ?_
           refine gv_nil <| gv_sub [0, 3, 4, 5, 6, 8, 10] (σ' := [(0, (.string x128)), (3, (bp b1)), (4, (.bool r22)), (5, (.slice a61 (length s57.2.1) c62)), (6, (.bool true)), (8, (.int .i64 r71.1)), (10, (.int .u8 x126))]) (by kernel_rfl) ?_
           refine gv_goal fun a hd hs hok => ⟨rfl, hd, hs, ?_⟩
           obtain ⟨q0, q3, q4, q5, q6, q8, q10, _⟩ := hok
           exact ⟨q0, q3, q4, q5, (by rw [hc131]; exact q6), q8, q10, trivial⟩
          ·skip
           refine pN 4 [6, 61, 62, 63] [(6, (.bool (decide (r71.1 > 100))))] ?_
           refine gv_nil <| gv_sub [0, 3, 4, 5, 6, 8, 10] (σ' := [(0, (.string x128)), (3, (bp b1)), (4, (.bool r22)), (5, (.slice a61 (length s57.2.1) c62)), (6, (.bool (decide (r71.1 > 100)))), (8, (.int .i64 r71.1)), (10, (.int .u8 x126))]) (by kernel_rfl) ?_
           refine gv_goal fun a hd hs hok => ⟨rfl, hd, hs, ?_⟩
           obtain ⟨q0, q3, q4, q5, q6, q8, q10, _⟩ := hok
           exact ⟨q0, q3, q4, q5, (by rw [hc131]; exact q6), q8, q10, trivial⟩
         ·rintro a w130 ⟨e, hd, hs, hok⟩; subst e
          refine gv_in ?_ hd hs hok
          clear hd hs hok
          refine gv_seq <| gv_region <| pN 3 [64, 65, 66] [(66, (.agg #[(.int .u8 x126), (.int .i64 1), (.bool r22)]))] ?_
          refine gv_new0 (fun b => .pointer (some ⟨b, 0, none⟩)) #[(.int .u8 0), (.int .i64 0), (.bool false)] 31 (by kernel_rfl) (by kernel_rfl) ?_
          intro b132 w133 hg134 hb135 hbe136 hz137
          refine gv_store0 31 0 (.agg #[(.int .u8 x126), (.int .i64 1), (.bool r22)]) #[(.int .u8 x126), (.int .i64 1), (.bool r22)] hb135 (by kernel_rfl) (by kernel_rfl) (by kernel_rfl) ?_
          intro w138 hg139 hb140 hz141
          refine gv_nil <| gv_seq <| gv_seq <| gv_region <| pN 2 [67, 68] [(68, (.bool (decide (r71.1 < 0))))] ?_
          refine gv_nil <| bindE h2 ?_; clear h2; intro j142 h3 h2
          refine gv_cut_code (J := fun a w143 => Below w0.heap.size w0 w143 ∧ w138.heap.size ≤ w143.heap.size ∧ Box w143 b1 26 #[(.int .i64 s57.2.2.2.1), (.int .i64 s57.2.2.2.2)] ∧ Box w143 b132 31 #[(.int .u8 x126), (.int .i64 1), (.bool r22)] ∧ Gv.Own (prE (iE .u8) (prE (iE .i64) tE)) 31 w143 (fun _ => False) a61 c62 s57.2.1 ∧ a.defers = [] ∧ a.tmps.size = 95 ∧ Ok [(0, (.string x128)), (3, (bp b1)), (4, (.bool r22)), (5, (.slice a61 (length s57.2.1) c62)), (6, (.bool (s57.2.2.1 || (decide (r71.1 > 100))))), (8, (.int .i64 j142)), (10, (.int .u8 x126)), (11, (bp b132))] a.tmps) ?_ ?_
          ·skip
           refine gv_cond (b := (decide (r71.1 < 0))) (by kernel_rfl) (fun hc144 => ?_) (fun hc144 => ?_)
           ·replace h3 := ite_t hc144 h3
            refine gv_region <| pN 1 [8] [(8, (.int .i64 1))] ?_
            refine gv_nil ?_
            have e := sj h3; subst e
            refine gv_goal fun a hd hs hok => ?_
            have hB145 := bg hB106 hg134 nb
            have hlo146 : w0.heap.size ≤ b132 := lob hbe136 hB106.size
            have hB147 := bg hB145 hg139 (rowlo hlo146)
            have lt148 := ltl ((ltb hb108) _ rfl) ((lowb hbe136) _ rfl)
            have hk149 := (hb108.grown hg134 nb).grown hg139 (rowne (ng lt148))
            have ap150 : ¬ (fun k => blk a61 = some k) b132 := fun hx => nl ((lowb hbe136) _ rfl) ((fun k (hk : blk a61 = some k) => hk109.lt k hk) _ hx)
            have hk151 := (hk109.grown hg134 (fun _ h => h.elim) nb).grown hg139 (fun _ h => h.elim) (rdnn (rowne ap150))
            exact ⟨hB147, nrf, hk149, hb140, hk151, hd, hs, okp [0, 3, 4, 5, 6, 8, 10, 11] hok⟩
           ·replace h3 := ite_f hc144 h3
            refine gv_skip ?_
            have e := sj h3; subst e
            refine gv_goal fun a hd hs hok => ?_
            have hB152 := bg hB106 hg134 nb
            have hlo153 : w0.heap.size ≤ b132 := lob hbe136 hB106.size
            have hB154 := bg hB152 hg139 (rowlo hlo153)
            have lt155 := ltl ((ltb hb108) _ rfl) ((lowb hbe136) _ rfl)
            have hk156 := (hb108.grown hg134 nb).grown hg139 (rowne (ng lt155))
            have ap157 : ¬ (fun k => blk a61 = some k) b132 := fun hx => nl ((lowb hbe136) _ rfl) ((fun k (hk : blk a61 = some k) => hk109.lt k hk) _ hx)
            have hk158 := (hk109.grown hg134 (fun _ h => h.elim) nb).grown hg139 (fun _ h => h.elim) (rdnn (rowne ap157))
            exact ⟨hB154, nrf, hk156, hb140, hk158, hd, hs, okp [0, 3, 4, 5, 6, 8, 10, 11] hok⟩
          ·rintro a w143 ⟨hB159, hz160, hb161, hb162, hk163, hd, hs, hok⟩
           refine gv_in ?_ hd hs hok
           clear hd hs hok
           have hz164 := (nt (nt (nt hz110 hg134.size) hg139.size) hz160)
           clear hz160 hz141 hb140 hg139 hz137 hb135 hg134 hx129 hx127 hc111 hz110
           refine gv_seq <| gv_seq <| gv_region <| pN 1 [69] [(69, (.int .u8 x126))] ?_
           refine bindE h2 ?_; clear h2; intro r165 hr166 h2
           refine gv_call0 (by kernel_rfl) rfl (by kernel_rfl) enters28 (packing_counted_ok fuel x126 w143  r165 hr166) ?_
           rintro v169 w167 ⟨hg168, rfl⟩
           refine gv_nil <| bindE h2 ?_; clear h2; intro j170 h3 h2
           refine gv_cut_code (J := fun a w171 => Below w0.heap.size w0 w171 ∧ w167.heap.size ≤ w171.heap.size ∧ Box w171 b1 26 #[(.int .i64 s57.2.2.2.1), (.int .i64 s57.2.2.2.2)] ∧ Box w171 b132 31 #[(.int .u8 j170.2.1), (.int .i64 j170.2.2.1), (.bool j170.2.2.2)] ∧ Gv.Own (prE (iE .u8) (prE (iE .i64) tE)) 31 w171 (fun _ => False) a61 c62 s57.2.1 ∧ a.defers = [] ∧ a.tmps.size = 95 ∧ Ok [(0, (.string x128)), (3, (bp b1)), (4, (.bool r22)), (5, (.slice a61 (length s57.2.1) c62)), (6, (.bool (s57.2.2.1 || (decide (r71.1 > 100))))), (8, (.int .i64 j170.1)), (11, (bp b132))] a.tmps) ?_ ?_
           ·skip
            refine gv_cond (b := r165) (by kernel_rfl) (fun hc172 => ?_) (fun hc172 => ?_)
            ·replace h3 := ite_t hc172 h3
             refine gv_region <| pN 2 [71, 72] [(71, (.int .i64 j142)), (72, (.pointer (some ⟨b132, 1, none⟩)))] ?_
             have hk177 := hb162.grown hg168 nb
             refine gv_store0 3 1 (.int .i64 j142) #[(.int .u8 x126), (.int .i64 j142), (.bool r22)] hk177 (by kernel_rfl) (by kernel_rfl) (by kernel_rfl) ?_
             intro w173 hg174 hb175 hz176
             refine pN 1 [8] [(8, (.int .i64 1))] ?_
             refine gv_nil ?_
             have e := sj h3; subst e
             refine gv_goal fun a hd hs hok => ?_
             have hB178 := bg hB159 hg168 nb
             have hlo179 : w0.heap.size ≤ b132 := lob hbe136 hB106.size
             have hB180 := bg hB178 hg174 (rowlo hlo179)
             have hz181 := hg174.size
             have lt182 := ltl ((ltb hb108) _ rfl) ((lowb hbe136) _ rfl)
             have hk183 := (hb161.grown hg168 nb).grown hg174 (rowne (ng lt182))
             have ap184 : ¬ (fun k => blk a61 = some k) b132 := fun hx => nl ((lowb hbe136) _ rfl) ((fun k (hk : blk a61 = some k) => hk109.lt k hk) _ hx)
             have hk185 := (hk163.grown hg168 (fun _ h => h.elim) nb).grown hg174 (fun _ h => h.elim) (rdnn (rowne ap184))
             exact ⟨hB180, hz181, hk183, hb175, hk185, hd, hs, okp [0, 3, 4, 5, 6, 8, 11] hok⟩
            ·replace h3 := ite_f hc172 h3
             refine gv_skip ?_
             have e := sj h3; subst e
             refine gv_goal fun a hd hs hok => ?_
             have hB186 := bg hB159 hg168 nb
             have hk187 := hb161.grown hg168 nb
             have hk188 := hb162.grown hg168 nb
             have hk189 := hk163.grown hg168 (fun _ h => h.elim) nb
             exact ⟨hB186, nrf, hk187, hk188, hk189, hd, hs, okp [0, 3, 4, 5, 6, 8, 11] hok⟩
           ·rintro a w171 ⟨hB190, hz191, hb192, hb193, hk194, hd, hs, hok⟩
            refine gv_in ?_ hd hs hok
            clear hd hs hok
            have hz195 := (nt (nt hz164 hg168.size) hz191)
            clear hz191 hg168 hr166 hz164 hk163 hb162 hb161 hB159
            refine gv_seq <| gv_region <| pN 3 [73, 74, 75] [(74, (.int .i64 (if 101 < j170.1 then 101 else j170.1))), (75, (.int .i64 0))] ?_
            refine gv_nil <| bindE h2 ?_; clear h2; intro j196 h3 h2
            refine gv_cut_code (J := fun a w197 => ∃ (a5_0j : Option Addr) (c5_0j : Nat), Below w0.heap.size w0 w197 ∧ w171.heap.size ≤ w197.heap.size ∧ Gv.Own (prE (iE .u8) (prE (iE .i64) tE)) 31 w197 (fun _ => False) a5_0j c5_0j j196 ∧ (∀ g, blk a5_0j = some g → w0.heap.size ≤ g) ∧ (∀ g, blk a5_0j = some g → ¬ (· = b1) g) ∧ ¬ (fun k => blk a5_0j = some k) b1 ∧ Box w197 b1 26 #[(.int .i64 s57.2.2.2.1), (.int .i64 s57.2.2.2.2)] ∧ a.defers = [] ∧ a.tmps.size = 95 ∧ Ok [(0, (.string x128)), (3, (bp b1)), (4, (.bool r22)), (5, (.slice a5_0j (length j196) c5_0j)), (6, (.bool (s57.2.2.1 || (decide (r71.1 > 100)))))] a.tmps) ?_ ?_
            ·skip
             refine gv_block <| gv_loop (A := fun (s198 : ((List (Int × Int × Bool)) × Int)) a w199 => ∃ (a5_0j : Option Addr) (c5_0j : Nat), Below w0.heap.size w0 w199 ∧ w171.heap.size ≤ w199.heap.size ∧ Gv.Own (prE (iE .u8) (prE (iE .i64) tE)) 31 w199 (fun _ => False) a5_0j c5_0j s198.1 ∧ (∀ g, blk a5_0j = some g → w0.heap.size ≤ g) ∧ (∀ g, blk a5_0j = some g → ¬ (· = b1) g) ∧ (∀ g, blk a5_0j = some g → ¬ (· = b132) g) ∧ ¬ (fun k => blk a5_0j = some k) b1 ∧ ¬ (fun k => blk a5_0j = some k) b132 ∧ Box w199 b1 26 #[(.int .i64 s57.2.2.2.1), (.int .i64 s57.2.2.2.2)] ∧ Box w199 b132 31 #[(.int .u8 j170.2.1), (.int .i64 j170.2.2.1), (.bool j170.2.2.2)] ∧ a.defers = [] ∧ a.tmps.size = 95 ∧ Ok [(0, (.string x128)), (3, (bp b1)), (4, (.bool r22)), (5, (.slice a5_0j (length s198.1) c5_0j)), (6, (.bool (s57.2.2.1 || (decide (r71.1 > 100))))), (11, (bp b132)), (74, (.int .i64 (if 101 < j170.1 then 101 else j170.1))), (75, (.int .i64 s198.2))] a.tmps) h3 ?_ ?_
             ·intro a hd hs hok
              have ap200 : ∀ g, blk a61 = some g → ¬ (· = b132) g := fun g e hx => nl ((lowb hbe136) _ hx) ((fun k (hk : blk a61 = some k) => hk109.lt k hk) g e)
              have ap201 : ¬ (fun k => blk a61 = some k) b132 := fun hx => nl ((lowb hbe136) _ rfl) ((fun k (hk : blk a61 = some k) => hk109.lt k hk) _ hx)
              exact ⟨a61, c62, hB190, nrf, hk194, hl64, ap65, ap200, ap66, ap201, hb192, hb193, hd, hs, okp [0, 3, 4, 5, 6, 11, 74, 75] hok⟩
             ·rintro s198 r4 h4 hR4 a w199 ⟨a204, c205, hB202, hz203, ho206, hl207, ap208, ap209, ap210, ap211, hb212, hb213, hd, hs, hok⟩
              refine gv_in ?_ hd hs hok
              clear hd hs hok
              clear hk194 hb193 hb192 hB190 hk109 ap66 ap65 hl64
              refine gv_seq <| gv_region <| pN 1 [76] [(76, (.bool (decide (s198.2 < (if 101 < j170.1 then 101 else j170.1)))))] ?_
              refine gv_nil <| gv_seq <| gv_cond (b := (decide (s198.2 < (if 101 < j170.1 then 101 else j170.1)))) (by kernel_rfl) (fun hc214 => ?_) (fun hc214 => ?_)
              ·replace h4 := ite_t hc214 h4
               refine gv_skip <| gv_seq <| gv_block <| gv_seq <| gv_region <| pN 3 [77, 78, 79] [(79, (.bool (decide (((length s198.1 : Nat) : Int) ≤ 100))))] ?_
               refine gv_nil <| bindE h4 ?_; clear h4; intro j215 h5 h4
               refine gv_cut_code (J := fun a w216 => ∃ (a5_0j : Option Addr) (c5_0j : Nat), Below w0.heap.size w0 w216 ∧ w199.heap.size ≤ w216.heap.size ∧ Gv.Own (prE (iE .u8) (prE (iE .i64) tE)) 31 w216 (fun _ => False) a5_0j c5_0j j215 ∧ (∀ g, blk a5_0j = some g → w0.heap.size ≤ g) ∧ (∀ g, blk a5_0j = some g → ¬ (· = b1) g) ∧ (∀ g, blk a5_0j = some g → ¬ (· = b132) g) ∧ ¬ (fun k => blk a5_0j = some k) b1 ∧ ¬ (fun k => blk a5_0j = some k) b132 ∧ Box w216 b1 26 #[(.int .i64 s57.2.2.2.1), (.int .i64 s57.2.2.2.2)] ∧ Box w216 b132 31 #[(.int .u8 j170.2.1), (.int .i64 j170.2.2.1), (.bool j170.2.2.2)] ∧ a.defers = [] ∧ a.tmps.size = 95 ∧ Ok [(0, (.string x128)), (3, (bp b1)), (4, (.bool r22)), (5, (.slice a5_0j (length j215) c5_0j)), (6, (.bool (s57.2.2.1 || (decide (r71.1 > 100))))), (11, (bp b132)), (74, (.int .i64 (if 101 < j170.1 then 101 else j170.1))), (75, (.int .i64 s198.2))] a.tmps) ?_ ?_
               ·skip
                refine gv_cond (b := (decide (((length s198.1 : Nat) : Int) ≤ 100))) (by kernel_rfl) (fun hc217 => ?_) (fun hc217 => ?_)
                ·replace h5 := ite_t hc217 h5
                 refine gv_region <| pN 1 [80] [(80, (.slice a204 (length s198.1) c205))] ?_
                 refine gv_loadBox (t := 31) (b := b132) (t' := 31) (fr := (0, 0)) #[(.int .u8 j170.2.1), (.int .i64 j170.2.2.1), (.bool j170.2.2.2)] [] (fun e => by cases e) rfl rfl rfl (by kernel_rfl) (by kernel_rfl) (by kernel_rfl) (by kernel_rfl) (inw0 hb213) rfl ?_
                 refine gv_new0 (fun b => .slice (some ⟨b, 0, none⟩) 1 1) #[(.int .u8 j170.2.1), (.int .i64 j170.2.2.1), (.bool j170.2.2.2)] 31 (by kernel_rfl) (by kernel_rfl) ?_
                 intro b218 w219 hg220 hb221 hbe222 hz223
                 have ho224 : Gv.Own (prE (iE .u8) (prE (iE .i64) tE)) 31 w219 (fun _ => False) (some ⟨b218, 0, none⟩) 1 ([(j170.2.1, j170.2.2.1, j170.2.2.2)] : List (Int × Int × Bool)) := Box.ownE hb221 ⟨[(.int .u8 j170.2.1), (.int .i64 j170.2.2.1), (.bool j170.2.2.2)], [], rfl, ⟨[(.int .u8 j170.2.1)], [(.int .i64 j170.2.2.1), (.bool j170.2.2.2)], rfl, rfl, ⟨[(.int .i64 j170.2.2.1)], [(.bool j170.2.2.2)], rfl, rfl, rfl⟩⟩, rfl⟩ (show 1 ≤ maxLen by decide) (fun h => h)
                 have hl225 : ∀ g, blk (some ⟨b218, 0, none⟩) = some g → w0.heap.size ≤ g := loo hbe222 hB202.size
                 refine bindE h5 ?_; clear h5; intro l229 hx230 h5
                 have hk237 := ho206.grown hg220 (fun _ h => h.elim) nb
                 refine gv_append (prE (iE .u8) (prE (iE .i64) tE)) (t := 22) (ty := 22) (e := 31) (a := a204) (ax := (some ⟨b218, 0, none⟩)) (cap := c205) (cx := 1) (xs := s198.1) (ys := ([(j170.2.1, j170.2.2.1, j170.2.2.2)] : List (Int × Int × Bool))) l229 (X := (fun _ => False)) (Y := (fun k => blk (some ⟨b218, 0, none⟩) = some k)) (by decide) rfl rfl (by kernel_rfl) (by kernel_rfl) Tryd.underlying22 info31 hk237 (ho224.rd (Y := fun k => blk (some ⟨b218, 0, none⟩) = some k) (fun _ h => h.elim) (fun g e => e)) hx230 (.inr (rf_pr rf_flat (rf_pr rf_flat rf_flat))) (fun _ h => h.elim) ?_
                 intro a231 c232 w233 hg234 ho235 hk236
                 refine ⟨(fun e => by cases e), ?_⟩
                 have hB239 := bg hB202 hg220 nb
                 have hl238 : ∀ g, blk a231 = some g → w0.heap.size ≤ g := blk_step hk236 hl207 hB239.size
                 have hk241 := hb212.grown hg220 nb
                 have ap240 : ∀ g, blk a231 = some g → ¬ (· = b1) g := blk_neX hk236 ap208 (ltb hk241)
                 have ap242 : ¬ (fun k => blk a231 = some k) b1 := fun h => blk_rev hk236 (fun h => (ap210) h) (hk241.lt) h
                 have hk244 := hb213.grown hg220 nb
                 have ap243 : ∀ g, blk a231 = some g → ¬ (· = b132) g := blk_neX hk236 ap209 (ltb hk244)
                 have ap245 : ¬ (fun k => blk a231 = some k) b132 := fun h => blk_rev hk236 (fun h => (ap211) h) (hk244.lt) h
                 have ap247 : ∀ g, blk a204 = some g → ¬ (fun k => blk (some ⟨b218, 0, none⟩) = some k) g := fun g e hx => nl ((lowo hbe222) _ hx) ((fun k (hk : blk a204 = some k) => ho206.lt k hk) g e)
                 have ap246 : ∀ g, blk a231 = some g → ¬ (fun k => blk (some ⟨b218, 0, none⟩) = some k) g := blk_neX hk236 ap247 (fun k (hk : blk (some ⟨b218, 0, none⟩) = some k) => ho224.lt k hk)
                 have ap249 : ∀ g, blk (some ⟨b218, 0, none⟩) = some g → ¬ (fun k => blk a204 = some k) g := fun g e hx => nl ((lowo hbe222) g e) ((fun k (hk : blk a204 = some k) => ho206.lt k hk) _ hx)
                 have ap248 : ∀ g, blk (some ⟨b218, 0, none⟩) = some g → ¬ (fun k => blk a231 = some k) g := fun g e h => blk_rev hk236 (fun h => ((ap249) g e) h) (ho224.lt g e) h
                 refine pN 1 [5] [(5, (.slice a231 (length l229) c232))] ?_
                 refine gv_nil ?_
                 have e := sj h5; subst e
                 refine gv_goal fun a hd hs hok => ?_
                 have hB250 := bg hB239 hg234 hl207
                 have hz251 := (nt hg220.size hg234.size)
                 have hk252 := hk241.grown hg234 ap208
                 have hk253 := hk244.grown hg234 ap209
                 exact ⟨a231, c232, hB250, hz251, ho235, hl238, ap240, ap243, ap242, ap245, hk252, hk253, hd, hs, okp [0, 3, 4, 5, 6, 11, 74, 75] hok⟩
                ·replace h5 := ite_f hc217 h5
                 refine gv_skip ?_
                 have e := sj h5; subst e
                 refine gv_goal fun a hd hs hok => ?_
                 exact ⟨a204, c205, hB202, nrf, ho206, hl207, ap208, ap209, ap210, ap211, hb212, hb213, hd, hs, okp [0, 3, 4, 5, 6, 11, 74, 75] hok⟩
               ·rintro a w216 ⟨a256, c257, hB254, hz255, ho258, hl259, ap260, ap261, ap262, ap263, hb264, hb265, hd, hs, hok⟩
                refine gv_in ?_ hd hs hok
                clear hd hs hok
                have hz266 := (nt hz203 hz255)
                clear hz255 hc214 hb213 hb212 ap211 ap210 ap209 ap208 hl207 ho206 hz203 hB202
                refine gv_blk <| gv_region <| pN 2 [75, 84] [(75, (.int .i64 (IntKind.i64.wrap (s198.2 + 1))))] ?_
                refine gv_nil ?_
                have e := sj h4; subst e
                refine gv_goal fun a hd hs hok => ?_
                have hz267 := hz266
                exact ⟨(j215, (IntKind.i64.wrap (s198.2 + 1))), rfl, a256, c257, hB254, hz267, ho258, hl259, ap260, ap261, ap262, ap263, hb264, hb265, hd, hs, okp [0, 3, 4, 5, 6, 11, 74, 75] hok⟩
              ·replace h4 := ite_f hc214 h4
               refine gv_cexit <| gv_exit rfl ?_
               have e := sj h4; subst e
               replace h3 := congrArg some (hR4 _ rfl)
               have e := sj h3; subst e
               refine gv_goal fun a hd hs hok => ?_
               have hz268 := hz203
               exact ⟨a204, c205, hB202, hz268, ho206, hl207, ap208, ap210, hb212, hd, hs, okp [0, 3, 4, 5, 6] hok⟩
            ·rintro a w197 ⟨a271, c272, hB269, hz270, ho273, hl274, ap275, ap276, hb277, hd, hs, hok⟩
             refine gv_in ?_ hd hs hok
             clear hd hs hok
             have hz278 := (nt hz195 hz270)
             clear hz270 hz195 hk194 hb193 hb192 hB190 hbe136 hk109 hb108 hB106 ap66 ap65 hl64
             refine gv_blk ?_
             have e := sj h2; subst e
             refine gv_goal fun a hd hs hok => ?_
             have hz279 := hz278
             exact ⟨(x128, j196, (s57.2.2.1 || (decide (r71.1 > 100))), (s57.2.2.2.1, s57.2.2.2.2)), rfl, a271, c272, hB269, hz279, ho273, hl274, ap275, ap276, hb277, hd, hs, okp [0, 3, 4, 5, 6] hok⟩
      ·replace h2 := ite_f hc68 h2
       refine gv_cexit <| gv_exit rfl ?_
       have e := sj h2; subst e
       replace h1 := congrArg some (hR2 _ rfl)
       have e := sj h1; subst e
       refine gv_goal fun a hd hs hok => ?_
       have hz280 := hz60
       exact ⟨(s57.2.1, s57.2.2.1, (s57.2.2.2.1, s57.2.2.2.2)), rfl, a61, c62, hB59, hz280, ho63, hl64, ap65, ap66, hb67, hd, hs, okp [3, 5, 6] hok⟩
    ·rintro a w56 ⟨s55, e, a283, c284, hB281, hz282, ho285, hl286, ap287, ap288, hb289, hd, hs, hok⟩
     subst e
     refine gv_in ?_ hd hs hok
     clear hd hs hok
     replace h0 := cont_inl h0
     clear hz282 hb53 hz52 hB51 hb45 hB43
     refine gv_seq <| gv_block <| gv_seq <| gv_region <| pN 2 [85, 86] [(85, (.bool s55.2.1))] ?_
     refine gv_nil <| gv_cond (b := s55.2.1) (by kernel_rfl) (fun hc290 => ?_) (fun hc290 => ?_)
     ·replace h0 := ite_t hc290 h0
      refine gv_seq <| gv_region <| bindE h0 ?_; clear h0; intro r291 hr292 h0
      refine gv_call0 (by kernel_rfl) rfl (by kernel_rfl) enters21 (packing_at_ok fuel 4 (-1) w56  r291 hr292) ?_
      rintro v295 w293 ⟨hg294, rfl⟩
      clear hr292 hc290 ap288 ap287 hl286 ho285
      refine pN 1 [2] [(2, (.slice none (length ([] : List (Int × Int × Bool))) 0))] ?_
      have hk300 := hb289.grown hg294 nb
      refine gv_store0 26 0 (.agg #[(.int .i64 r291.1), (.int .i64 r291.2)]) #[(.int .i64 r291.1), (.int .i64 r291.2)] hk300 (by kernel_rfl) (by kernel_rfl) (by kernel_rfl) ?_
      intro w296 hg297 hb298 hz299
      refine gv_nil <| gv_cret ?_
      have e := sj h0; subst e
      refine gv_ret (gv_done [(.slice none (length ([] : List (Int × Int × Bool))) 0), (.agg #[(.int .i64 r291.1), (.int .i64 r291.2)])] rfl ⟨(by kernel_rfl), ⟨⟨b1, 0, none⟩, (by kernel_rfl), run_loadVar_row w296 b1 _ 26 _ _ _ hb298 Tryd.underlying26 rfl (by kernel_rfl)⟩, trivial⟩ ?_)
      have hB301 := bg hB281 hg294 nb
      have hlo302 : w0.heap.size ≤ b1 := lob hbe5 hB0.size
      have hB303 := bg hB301 hg297 (rowlo hlo302)
      exact ⟨grown_of_below hB303, none, 0, rfl, (Gv.Own.nil (prE (iE .u8) (prE (iE .i64) tE)) 31 w296 (fun _ => False)), (fun _ h => by cases h)⟩
     ·replace h0 := ite_f hc290 h0
      refine gv_seq <| gv_region <| pN 4 [88, 89, 90, 91] [(88, (.bool (decide (((length s55.1 : Nat) : Int) > 100))))] ?_
      refine bindE h0 ?_; clear h0; intro n304 hn305 h0
      refine gv_name (s := 88) (v := (.bool (decide (((length s55.1 : Nat) : Int) > 100)))) (v' := (.bool n304)) (by kernel_rfl) (congrArg (Value.bool) (sj hn305)) ?_
      refine gv_nil <| gv_cond (b := n304) (by kernel_rfl) (fun hc306 => ?_) (fun hc306 => ?_)
      ·replace h0 := ite_t hc306 h0
       refine gv_seq <| gv_region <| bindE h0 ?_; clear h0; intro r307 hr308 h0
       refine gv_call0 (by kernel_rfl) rfl (by kernel_rfl) enters21 (packing_at_ok fuel 2 (-1) w56  r307 hr308) ?_
       rintro v311 w309 ⟨hg310, rfl⟩
       refine pN 1 [2] [(2, (.slice none (length ([] : List (Int × Int × Bool))) 0))] ?_
       have hk316 := hb289.grown hg310 nb
       refine gv_store0 26 0 (.agg #[(.int .i64 r307.1), (.int .i64 r307.2)]) #[(.int .i64 r307.1), (.int .i64 r307.2)] hk316 (by kernel_rfl) (by kernel_rfl) (by kernel_rfl) ?_
       intro w312 hg313 hb314 hz315
       refine gv_nil <| gv_cret ?_
       have e := sj h0; subst e
       refine gv_ret (gv_done [(.slice none (length ([] : List (Int × Int × Bool))) 0), (.agg #[(.int .i64 r307.1), (.int .i64 r307.2)])] rfl ⟨(by kernel_rfl), ⟨⟨b1, 0, none⟩, (by kernel_rfl), run_loadVar_row w312 b1 _ 26 _ _ _ hb314 Tryd.underlying26 rfl (by kernel_rfl)⟩, trivial⟩ ?_)
       have hB317 := bg hB281 hg310 nb
       have hlo318 : w0.heap.size ≤ b1 := lob hbe5 hB0.size
       have hB319 := bg hB317 hg313 (rowlo hlo318)
       exact ⟨grown_of_below hB319, none, 0, rfl, (Gv.Own.nil (prE (iE .u8) (prE (iE .i64) tE)) 31 w312 (fun _ => False)), (fun _ h => by cases h)⟩
      ·replace h0 := ite_f hc306 h0
       refine gv_skip <| gv_blk <| gv_seq <| gv_region <| pN 3 [2, 93, 94] [(2, (.slice a283 (length s55.1) c284)), (94, (.agg #[(.int .i64 0), (.int .i64 0)]))] ?_
       refine gv_store0 26 0 (.agg #[(.int .i64 0), (.int .i64 0)]) #[(.int .i64 0), (.int .i64 0)] hb289 (by kernel_rfl) (by kernel_rfl) (by kernel_rfl) ?_
       intro w320 hg321 hb322 hz323
       refine gv_nil <| gv_cret ?_
       have e := sj h0; subst e
       refine gv_ret (gv_done [(.slice a283 (length s55.1) c284), (.agg #[(.int .i64 0), (.int .i64 0)])] rfl ⟨(by kernel_rfl), ⟨⟨b1, 0, none⟩, (by kernel_rfl), run_loadVar_row w320 b1 _ 26 _ _ _ hb322 Tryd.underlying26 rfl (by kernel_rfl)⟩, trivial⟩ ?_)
       have hlo324 : w0.heap.size ≤ b1 := lob hbe5 hB0.size
       have hB325 := bg hB281 hg321 (rowlo hlo324)
       have hk326 := ho285.grown hg321 (fun _ h => h.elim) (rdnn (rowne ap288))
       exact ⟨grown_of_below hB325, a283, c284, rfl, hk326, hl286⟩

theorem integer_Of_ok (fuel : Nat) (n_0 : Int) (w0 : World)  (r0 : (Bool × (List Int))) (h0 : integer_Of fuel n_0 = some r0) :
    Calls Tryd.prog 33 ([(.int .i64 n_0)] : List Value).toArray w0 (Ret fun v w' => w0.grownBy w' none ∧ ∃ (a0_0r : Option Addr) (c0_0r : Nat), v = tup [(.agg #[(.bool r0.1), (.slice a0_0r (length r0.2) c0_0r)])] ∧ Gv.Own (iE .u32) 87 w' (fun _ => False) a0_0r c0_0r r0.2 ∧ (∀ g, blk a0_0r = some g → w0.heap.size ≤ g)) := by
 have hB0 : Below w0.heap.size w0 w0 := Below.refl _ _
 unfold integer_Of at h0
 refine calls_run Tryd.func33 rfl Tryd.ntmps33 (by kernel_rfl) ?_
 refine gv_sub [0] (σ' := [(0, (.int .i64 n_0))]) (by kernel_rfl) ?_
 refine gv_seq <| gv_region <| gv_new0 (fun b => .pointer (some ⟨b, 0, none⟩)) #[(.bool false), (.slice none (length ([] : List Int)) 0)] 46 (by kernel_rfl) (by kernel_rfl) ?_
 intro b1 w2 hg3 hb4 hbe5 hz6
 refine gv_nil <| gv_seq <| gv_region <| pN 3 [3, 5, 6] [(3, (.int .u64 (IntKind.u64.wrap (n_0))))] ?_
 refine gv_nil <| gv_seq <| gv_seq <| gv_region <| pN 2 [7, 8] [(8, (.bool (decide (n_0 < 0))))] ?_
 refine gv_nil <| bindE h0 ?_; clear h0; intro j7 h1 h0
 refine gv_cut_code (J := fun a w8 => Below w0.heap.size w0 w8 ∧ w2.heap.size ≤ w8.heap.size ∧ Box w8 b1 46 #[(.bool false), (.slice none (length ([] : List Int)) 0)] ∧ a.defers = [] ∧ a.tmps.size = 38 ∧ Ok [(0, (.int .i64 n_0)), (2, (bp b1)), (3, (.int .u64 j7))] a.tmps) ?_ ?_
 ·skip
  refine gv_cond (b := (decide (n_0 < 0))) (by kernel_rfl) (fun hc9 => ?_) (fun hc9 => ?_)
  ·replace h1 := ite_t hc9 h1
   refine gv_region <| pN 3 [3, 9, 10] [(3, (.int .u64 (IntKind.u64.wrap (0 - (IntKind.u64.wrap (n_0))))))] ?_
   refine bindE h1 ?_; clear h1; intro n10 hn11 h1
   refine gv_name (s := 3) (v := (.int .u64 (IntKind.u64.wrap (0 - (IntKind.u64.wrap (n_0)))))) (v' := (.int .u64 n10)) (by kernel_rfl) (congrArg (Value.int .u64) (sj hn11)) ?_
   refine gv_nil ?_
   have e := sj h1; subst e
   refine gv_goal fun a hd hs hok => ?_
   have hB12 := bg hB0 hg3 nb
   exact ⟨hB12, nrf, hb4, hd, hs, okp [0, 2, 3] hok⟩
  ·replace h1 := ite_f hc9 h1
   refine gv_skip ?_
   have e := sj h1; subst e
   refine gv_goal fun a hd hs hok => ?_
   have hB13 := bg hB0 hg3 nb
   exact ⟨hB13, nrf, hb4, hd, hs, okp [0, 2, 3] hok⟩
 ·rintro a w8 ⟨hB14, hz15, hb16, hd, hs, hok⟩
  refine gv_in ?_ hd hs hok
  clear hd hs hok
  clear hz15 hz6 hb4 hg3
  refine gv_seq <| gv_region <| pN 5 [11, 12, 13, 14, 15] [(12, (.int .u32 (IntKind.u32.wrap (j7)))), (15, (.int .u32 (IntKind.u32.wrap (((j7).fdiv (2 ^ 32))))))] ?_
  refine gv_new0 (fun b => .slice (some ⟨b, 0, none⟩) 2 2) #[(.int .u32 (IntKind.u32.wrap (j7))), (.int .u32 (IntKind.u32.wrap (((j7).fdiv (2 ^ 32)))))] 87 (by kernel_rfl) (by kernel_rfl) ?_
  intro b17 w18 hg19 hb20 hbe21 hz22
  have ho23 : Gv.Own (iE .u32) 87 w18 (fun _ => False) (some ⟨b17, 0, none⟩) 2 ([(IntKind.u32.wrap (j7)), (IntKind.u32.wrap (((j7).fdiv (2 ^ 32))))] : List Int) := Box.ownE hb20 ⟨[(.int .u32 (IntKind.u32.wrap (j7)))], [(.int .u32 (IntKind.u32.wrap (((j7).fdiv (2 ^ 32)))))], rfl, rfl, ⟨[(.int .u32 (IntKind.u32.wrap (((j7).fdiv (2 ^ 32)))))], [], rfl, rfl, rfl⟩⟩ (show 2 ≤ maxLen by decide) (fun h => h)
  have hl24 : ∀ g, blk (some ⟨b17, 0, none⟩) = some g → w0.heap.size ≤ g := loo hbe21 hB14.size
  refine pN 1 [4] [(4, (.slice (some ⟨b17, 0, none⟩) (length ([(IntKind.u32.wrap (j7)), (IntKind.u32.wrap (((j7).fdiv (2 ^ 32))))] : List Int)) 2))] ?_
  refine gv_nil <| gv_seq <| bindE h0 ?_; clear h0; intro j28 h1 h0
  refine gv_cut_code (J := fun a w29 => ∃ (a4_0j : Option Addr) (c4_0j : Nat), Below w0.heap.size w0 w29 ∧ w18.heap.size ≤ w29.heap.size ∧ Gv.Own (iE .u32) 87 w29 (fun _ => False) a4_0j c4_0j j28 ∧ (∀ g, blk a4_0j = some g → w0.heap.size ≤ g) ∧ (∀ g, blk a4_0j = some g → ¬ (· = b1) g) ∧ ¬ (fun k => blk a4_0j = some k) b1 ∧ Box w29 b1 46 #[(.bool false), (.slice none (length ([] : List Int)) 0)] ∧ a.defers = [] ∧ a.tmps.size = 38 ∧ Ok [(0, (.int .i64 n_0)), (2, (bp b1)), (4, (.slice a4_0j (length j28) c4_0j))] a.tmps) ?_ ?_
  ·skip
   refine gv_block <| gv_loop (A := fun (s30 : (List Int)) a w31 => ∃ (a4_0j : Option Addr) (c4_0j : Nat), Below w0.heap.size w0 w31 ∧ w18.heap.size ≤ w31.heap.size ∧ Gv.Own (iE .u32) 87 w31 (fun _ => False) a4_0j c4_0j s30 ∧ (∀ g, blk a4_0j = some g → w0.heap.size ≤ g) ∧ (∀ g, blk a4_0j = some g → ¬ (· = b1) g) ∧ ¬ (fun k => blk a4_0j = some k) b1 ∧ Box w31 b1 46 #[(.bool false), (.slice none (length ([] : List Int)) 0)] ∧ a.defers = [] ∧ a.tmps.size = 38 ∧ Ok [(0, (.int .i64 n_0)), (2, (bp b1)), (4, (.slice a4_0j (length s30) c4_0j))] a.tmps) h1 ?_ ?_
   ·intro a hd hs hok
    have hB32 := bg hB14 hg19 nb
    have ap33 : ∀ g, blk (some ⟨b17, 0, none⟩) = some g → ¬ (· = b1) g := fun g e hx => nl ((lowo hbe21) g e) ((ltb hb16) _ hx)
    have ap34 : ¬ (fun k => blk (some ⟨b17, 0, none⟩) = some k) b1 := fun hx => nl ((lowo hbe21) _ hx) ((ltb hb16) _ rfl)
    have hk35 := hb16.grown hg19 nb
    exact ⟨(some ⟨b17, 0, none⟩), 2, hB32, nrf, ho23, hl24, ap33, ap34, hk35, hd, hs, okp [0, 2, 4] hok⟩
   ·rintro s30 r2 h2 hR2 a w31 ⟨a38, c39, hB36, hz37, ho40, hl41, ap42, ap43, hb44, hd, hs, hok⟩
    refine gv_in ?_ hd hs hok
    clear hd hs hok
    clear hl24 ho23 hz22 hbe21 hb20 hg19 hb16 hB14
    refine gv_seq <| gv_seq <| gv_region <| bindE h2 ?_; clear h2; intro j45 h3 h2
    refine gv_cut_ops (J := fun a w46 => Below w0.heap.size w0 w46 ∧ w31.heap.size ≤ w46.heap.size ∧ Box w46 b1 46 #[(.bool false), (.slice none (length ([] : List Int)) 0)] ∧ Gv.Own (iE .u32) 87 w46 (fun _ => False) a38 c39 s30 ∧ a.defers = [] ∧ a.tmps.size = 38 ∧ Ok [(0, (.int .i64 n_0)), (2, (bp b1)), (4, (.slice a38 (length s30) c39)), (28, (.bool j45))] a.tmps) ?_ ?_
    ·skip
     refine pN 4 [17, 18, 19, 20] [(20, (.bool (decide (((length s30 : Nat) : Int) > 0))))] ?_
     refine gv_split (s := 20) (g := (decide (((length s30 : Nat) : Int) > 0))) (by kernel_rfl) (fun hc47 => ?_) (fun hc47 => ?_)
     ·skip
      replace h3 := ite_t hc47 h3
      refine pN 4 [21, 22, 23, 24] [(21, (.slice a38 (length s30) c39)), (24, (.int .i64 (IntKind.i64.wrap (((length s30 : Nat) : Int) - 1))))] ?_
      refine bindE h3 ?_; clear h3; intro x48 hx49 h3
      refine gv_idxaddr (t := 44) (e := 87) (a := a38) (len := length s30) (cap := c39) (kk := .i64) (i := (IntKind.i64.wrap (((length s30 : Nat) : Int) - 1))) (sz := 1) [] (fun e => by cases e) rfl rfl rfl (by kernel_rfl) (by kernel_rfl) Tryd.underlying44 (by kernel_rfl) ((ho40.rd (Y := fun k => blk a38 = some k) (fun _ h => h.elim) (fun g e => e)).has hx49) (idx_spec hx49).1 (idx_spec hx49).2.1 rfl ?_
      refine gv_load (t := 87) (A := (elemAddr a38 (((IntKind.i64.wrap (((length s30 : Nat) : Int) - 1)) : Int).toNat * 1))) (.int .u32 x48) [] (fun e => by cases e) rfl rfl rfl (by kernel_rfl) (by kernel_rfl) (by kernel_rfl) (inw0 ((ho40.rd (Y := fun k => blk a38 = some k) (fun _ h => h.elim) (fun g e => e)).cell hx49)) rfl ?_
      refine pN 2 [27, 28] [(28, (.bool (x48 == 0)))] ?_
      refine gv_nil ?_
      have e := sj h3; subst e
      refine gv_goal fun a hd hs hok => ?_
      exact ⟨hB36, nrf, hb44, ho40, hd, hs, okp [0, 2, 4, 28] hok⟩
     ·skip
      replace h3 := ite_f hc47 h3
      refine pN 8 [21, 22, 23, 24, 25, 26, 27, 28] [(28, (.bool false))] ?_
      refine gv_nil ?_
      have e := sj h3; subst e
      refine gv_goal fun a hd hs hok => ?_
      exact ⟨hB36, nrf, hb44, ho40, hd, hs, okp [0, 2, 4, 28] hok⟩
    ·rintro a w46 ⟨hB50, hz51, hb52, hk53, hd, hs, hok⟩
     refine gv_in ?_ hd hs hok
     clear hd hs hok
     have hz54 := (nt hz37 hz51)
     clear hz51 hb44 ho40 hz37 hB36
     refine gv_cond (b := j45) (by kernel_rfl) (fun hc55 => ?_) (fun hc55 => ?_)
     ·replace h2 := ite_t hc55 h2
      refine gv_skip <| gv_block <| gv_region <| pN 4 [29, 30, 31, 32] [(29, (.slice a38 (length s30) c39)), (32, (.int .i64 (IntKind.i64.wrap (((length s30 : Nat) : Int) - 1))))] ?_
      refine bindE h2 ?_; clear h2; intro x56 hx57 h2
      refine gv_pop (iE .u32) (t := 44) (e := 87) (xs := s30) (a := a38) (cap := c39) (lo := none) (hi := (some (.int .i64 (IntKind.i64.wrap (((length s30 : Nat) : Int) - 1))))) (IntKind.i64.wrap (((length s30 : Nat) : Int) - 1)) x56 (fun e => by cases e) rfl rfl rfl (by kernel_rfl) (by kernel_rfl) Tryd.underlying44 (by kernel_rfl) (.inl ⟨rfl, rfl⟩) (.inr ⟨_, rfl⟩) hx57 (hk53.rd (Y := fun k => blk a38 = some k) (fun _ h => h.elim) (fun g e => e)).1 ?_
      have ho58 := hk53.pop hx57
      refine pN 1 [4] [(4, (.slice a38 (length x56) c39))] ?_
      refine gv_nil <| gv_blk ?_
      have e := sj h2; subst e
      refine gv_goal fun a hd hs hok => ?_
      have hz59 := hz54
      exact ⟨x56, rfl, a38, c39, hB50, hz59, ho58, hl41, ap42, ap43, hb52, hd, hs, okp [0, 2, 4] hok⟩
     ·replace h2 := ite_f hc55 h2
      refine gv_cexit <| gv_exit rfl ?_
      have e := sj h2; subst e
      replace h1 := congrArg some (hR2 _ rfl)
      have e := sj h1; subst e
      refine gv_goal fun a hd hs hok => ?_
      have hz60 := hz54
      exact ⟨a38, c39, hB50, hz60, hk53, hl41, ap42, ap43, hb52, hd, hs, okp [0, 2, 4] hok⟩
  ·rintro a w29 ⟨a63, c64, hB61, hz62, ho65, hl66, ap67, ap68, hb69, hd, hs, hok⟩
   refine gv_in ?_ hd hs hok
   clear hd hs hok
   clear hz62 hl24 ho23 hz22 hbe21 hb20 hg19 hb16 hB14
   refine gv_seq <| gv_region <| pN 4 [34, 35, 36, 37] [(37, (.agg #[(.bool (decide (n_0 < 0))), (.slice a63 (length j28) c64)]))] ?_
   refine gv_store0 46 0 (.agg #[(.bool (decide (n_0 < 0))), (.slice a63 (length j28) c64)]) #[(.bool (decide (n_0 < 0))), (.slice a63 (length j28) c64)] hb69 (by kernel_rfl) (by kernel_rfl) (by kernel_rfl) ?_
   intro w70 hg71 hb72 hz73
   refine gv_nil <| gv_cret ?_
   have e := sj h0; subst e
   refine gv_ret (gv_done [(.agg #[(.bool (decide (n_0 < 0))), (.slice a63 (length j28) c64)])] rfl ⟨⟨⟨b1, 0, none⟩, (by kernel_rfl), run_loadVar_row w70 b1 _ 46 _ _ _ hb72 Tryd.underlying46 rfl (by kernel_rfl)⟩, trivial⟩ ?_)
   have hlo74 : w0.heap.size ≤ b1 := lob hbe5 hB0.size
   have hB75 := bg hB61 hg71 (rowlo hlo74)
   have hk76 := ho65.grown hg71 (fun _ h => h.elim) (rdnn (rowne ap68))
   exact ⟨grown_of_below hB75, a63, c64, rfl, hk76, hl66⟩

theorem law4_whole_ok (fuel : Nat) (n_0 : Int) (w0 : World)  (r0 : (Int × (Bool × (List Int)) × (Bool × (List Int)) × ByteArray × Int)) (h0 : law4_whole fuel n_0 = some r0) :
    Calls Tryd.prog 17 ([(.int .i64 n_0)] : List Value).toArray w0 (Ret fun v w' => w0.grownBy w' none ∧ ∃ (a0_0r : Option Addr) (c0_0r : Nat), ∃ (a0_1r : Option Addr) (c0_1r : Nat), v = tup [(.agg #[(.int .i64 r0.1), (.bool r0.2.1.1), (.slice a0_0r (length r0.2.1.2) c0_0r), (.bool r0.2.2.1.1), (.slice a0_1r (length r0.2.2.1.2) c0_1r), (.string r0.2.2.2.1), (.int .i64 r0.2.2.2.2)])] ∧ Gv.Own (iE .u32) 87 w' (fun _ => False) a0_0r c0_0r r0.2.1.2 ∧ (∀ g, blk a0_0r = some g → w0.heap.size ≤ g) ∧ Gv.Own (iE .u32) 87 w' (fun _ => False) a0_1r c0_1r r0.2.2.1.2 ∧ (∀ g, blk a0_1r = some g → w0.heap.size ≤ g) ∧ (∀ g, blk a0_0r = some g → blk a0_1r ≠ some g)) := by
 have hB0 : Below w0.heap.size w0 w0 := Below.refl _ _
 unfold law4_whole at h0
 refine calls_run Tryd.func17 rfl Tryd.ntmps17 (by kernel_rfl) ?_
 refine gv_sub [0] (σ' := [(0, (.int .i64 n_0))]) (by kernel_rfl) ?_
 refine gv_seq <| gv_region <| gv_new0 (fun b => .pointer (some ⟨b, 0, none⟩)) #[(.int .i64 0), (.bool false), (.slice none (length ([] : List Int)) 0), (.bool false), (.slice none (length ([] : List Int)) 0), (.string (strOf [])), (.int .i64 0)] 48 (by kernel_rfl) (by kernel_rfl) ?_
 intro b1 w2 hg3 hb4 hbe5 hz6
 refine gv_nil <| gv_seq <| gv_region <| pN 1 [3] [(3, (.int .i64 n_0))] ?_
 refine bindE h0 ?_; clear h0; intro r7 hr8 h0
 refine gv_call0 (by kernel_rfl) rfl (by kernel_rfl) enters33 (integer_Of_ok fuel n_0 w2  r7 hr8) ?_
 rintro v11 w9 ⟨hg10, a12, c13, rfl, ho14, hl15⟩
 have hB17 := bg hB0 hg3 nb
 have hl16 : ∀ g, blk a12 = some g → w0.heap.size ≤ g := fun g e => Nat.le_trans hB17.size (hl15 g e)
 refine pN 1 [5] [(5, (.agg #[(.int .i64 2), (.bool r7.1), (.slice a12 (length r7.2) c13), (.bool false), (.slice none (length ([] : List Int)) 0), (.string (strOf [])), (.int .i64 0)]))] ?_
 have hk22 := hb4.grown hg10 nb
 refine gv_store0 48 0 (.agg #[(.int .i64 2), (.bool r7.1), (.slice a12 (length r7.2) c13), (.bool false), (.slice none (length ([] : List Int)) 0), (.string (strOf [])), (.int .i64 0)]) #[(.int .i64 2), (.bool r7.1), (.slice a12 (length r7.2) c13), (.bool false), (.slice none (length ([] : List Int)) 0), (.string (strOf [])), (.int .i64 0)] hk22 (by kernel_rfl) (by kernel_rfl) (by kernel_rfl) ?_
 intro w18 hg19 hb20 hz21
 refine gv_nil <| gv_cret ?_
 have e := sj h0; subst e
 refine gv_ret (gv_done [(.agg #[(.int .i64 2), (.bool r7.1), (.slice a12 (length r7.2) c13), (.bool false), (.slice none (length ([] : List Int)) 0), (.string (strOf [])), (.int .i64 0)])] rfl ⟨⟨⟨b1, 0, none⟩, (by kernel_rfl), run_loadVar_row w18 b1 _ 48 _ _ _ hb20 Tryd.underlying48 rfl (by kernel_rfl)⟩, trivial⟩ ?_)
 have hB23 := bg hB17 hg10 nb
 have hlo24 : w0.heap.size ≤ b1 := lob hbe5 hB0.size
 have hB25 := bg hB23 hg19 (rowlo hlo24)
 have ap26 : ¬ (fun k => blk a12 = some k) b1 := fun hx => nl ((show ∀ k, blk a12 = some k → w2.heap.size ≤ k from hl15) _ hx) ((ltb hb4) _ rfl)
 have hk27 := ho14.grown hg19 (fun _ h => h.elim) (rdnn (rowne ap26))
 exact ⟨grown_of_below hB25, a12, c13, none, 0, rfl, hk27, hl16, (Gv.Own.nil (iE .u32) 87 w18 (fun _ => False)), (fun _ h => by cases h), (fun _ _ h => by cases h)⟩

theorem packing_reader_take_ok (fuel : Nat) (pb0 : Nat) (pa0_0 : Option Addr) (pc0_0 : Nat) (r_0 : ((List UInt8) × Int)) (n_1 : Int) (w0 : World) (X0 : Nat → Prop) (hX0 : ∀ k, X0 k → k < w0.heap.size ∧ k ≠ pb0) (hp0 : Box w0 pb0 72 #[(.slice pa0_0 (length r_0.1) pc0_0), (.int .i64 r_0.2)]) (hpa0_0 : Rd bE w0 X0 pa0_0 pc0_0 r_0.1) (r0 : ((List UInt8) × Bool × ((List UInt8) × Int))) (h0 : packing_reader_take fuel r_0 n_1 = some r0) :
    Calls Tryd.prog 46 ([(bp pb0), (.int .i64 n_1)] : List Value).toArray w0 (Ret fun v w' => w0.grownBy w' (some pb0) ∧ ∃ (a0_0r : Option Addr) (c0_0r : Nat), ∃ (X0_0r : Nat → Prop), v = tup [(.slice a0_0r (length r0.1) c0_0r), (.bool r0.2.1)] ∧ Rd bE w' X0_0r a0_0r c0_0r r0.1 ∧ (∀ k, X0_0r k → k < w'.heap.size ∧ (X0 k ∨ w0.heap.size ≤ k)) ∧ Box w' pb0 72 #[(.slice pa0_0 (length r_0.1) pc0_0), (.int .i64 r0.2.2.2)]) := by
 have hB0 : w0.grownBy w0 (some pb0) := grown_refl _ _
 unfold packing_reader_take at h0
 refine calls_run Tryd.func46 rfl Tryd.ntmps46 (by kernel_rfl) ?_
 refine gv_sub [0, 1] (σ' := [(0, (bp pb0)), (1, (.int .i64 n_1))]) (by kernel_rfl) ?_
 have hpl0 := hp0.lt
 refine gv_seq <| gv_region <| pN 2 [4, 5] [] ?_
 refine gv_nil <| gv_seq <| gv_seq <| gv_drawA (by kernel_rfl) ?_
 intro w1 hg2
 refine gv_pre [0, 1, 2, 3, 6, 7, 8] (bA 12 [0, 1, 2, 3, 6, 7, 8]) 5 (by kernel_rfl) (by kernel_rfl) ?_
 refine pN 7 [6, 7, 8, 9, 12, 13, 14] [(6, (.int .i64 n_1)), (9, (bp pb0)), (14, (.pointer (some ⟨pb0, 1, none⟩)))] ?_
 refine gv_nil <| gv_goA ?_
 refine gv_stage (Cls w1 []) [4, 5, 9] [(4, some true), (5, some true), (9, some true)] (bA 12 [0, 1, 2, 3, 4, 5, 6, 7, 8, 9]) 2 (by kernel_rfl) (by kernel_rfl) (Cls.refl _ _) ?_
 have hC3 := Cls.refl w1 []
 have hk4 := hp0.grown hg2 nb
 refine gv_load (t := 24) (A := ⟨pb0, 0, none⟩) (.slice pa0_0 (length r_0.1) pc0_0) [] (fun e => by cases e) rfl rfl rfl (by kernel_rfl) (by kernel_rfl) (by kernel_rfl) (inw1 fun w' hC' => ((hC'.box hk4 nm_nil).cell 0 rfl)) rfl ?_
 refine pN 1 [11] [(11, (.int .i64 ((length r_0.1 : Nat) : Int)))] ?_
 refine gv_load (t := 3) (A := ⟨pb0, 1, none⟩) (.int .i64 r_0.2) [] (fun e => by cases e) rfl rfl rfl (by kernel_rfl) (by kernel_rfl) (by kernel_rfl) (inw1 fun w' hC' => ((hC'.box hk4 nm_nil).cell 1 rfl)) rfl ?_
 refine gv_nil <| gv_goA ?_
 refine gv_pre [10, 11] (bA 12 [0, 1, 2, 3, 4, 5, 6, 7, 8, 9, 10, 11]) 0 (by kernel_rfl) (by kernel_rfl) ?_
 refine pN 2 [16, 17] [(17, (.bool (decide (n_1 > (IntKind.i64.wrap (((length r_0.1 : Nat) : Int) - r_0.2))))))] ?_
 refine gv_nil <| gv_goA ?_
 refine gv_stageE (by kernel_rfl) ?_
 refine gv_cond (b := (decide (n_1 > (IntKind.i64.wrap (((length r_0.1 : Nat) : Int) - r_0.2))))) (by kernel_rfl) (fun hc5 => ?_) (fun hc5 => ?_)
 ·replace h0 := ite_t hc5 h0
  refine gv_seq <| gv_region <| pN 2 [4, 5] [(4, (.slice none (length ([] : List UInt8)) 0)), (5, (.bool false))] ?_
  refine gv_nil <| gv_cret ?_
  have e := sj h0; subst e
  refine gv_ret (gv_done [(.slice none (length ([] : List UInt8)) 0), (.bool false)] rfl ⟨(by kernel_rfl), (by kernel_rfl), trivial⟩ ?_)
  have hB6 := grown_step hB0 hg2 nb
  exact ⟨hB6, none, 0, (fun _ => False), rfl, (Rd.nil bE w1 (fun _ => False) none 0), (fun k hk => ⟨(fun _ h => h.elim) k hk, (fun _ h => h.elim) k hk⟩), hk4⟩
 ·replace h0 := ite_f hc5 h0
  refine gv_skip <| gv_seq <| gv_region <| pN 3 [18, 19, 20] [(18, (bp pb0)), (20, (.pointer (some ⟨pb0, 1, none⟩)))] ?_
  refine gv_load (t := 3) (A := ⟨pb0, 1, none⟩) (.int .i64 r_0.2) [] (fun e => by cases e) rfl rfl rfl (by kernel_rfl) (by kernel_rfl) (by kernel_rfl) (inw0 (hk4.cell 1 rfl)) rfl ?_
  refine pN 4 [22, 23, 24, 25] [(23, (.int .i64 (IntKind.i64.wrap (r_0.2 + n_1)))), (25, (.pointer (some ⟨pb0, 1, none⟩)))] ?_
  refine gv_store0 3 1 (.int .i64 (IntKind.i64.wrap (r_0.2 + n_1))) #[(.slice pa0_0 (length r_0.1) pc0_0), (.int .i64 (IntKind.i64.wrap (r_0.2 + n_1)))] hk4 (by kernel_rfl) (by kernel_rfl) (by kernel_rfl) ?_
  intro w7 hg8 hb9 hz10
  refine gv_nil <| gv_seq <| gv_drawA (by kernel_rfl) ?_
  intro w11 hg12
  refine gv_pre [0, 1, 2, 4, 5, 6, 8, 10, 11, 12] (bA 17 [0, 1, 2, 4, 5, 6, 8, 10, 11, 12]) 7 (by kernel_rfl) (by kernel_rfl) ?_
  refine pN 10 [26, 27, 28, 30, 31, 32, 34, 36, 37, 38] [(28, (bp pb0)), (32, (.pointer (some ⟨pb0, 1, none⟩))), (34, (.int .i64 n_1)), (38, (.pointer (some ⟨pb0, 1, none⟩)))] ?_
  refine gv_nil <| gv_goA ?_
  refine gv_stage (Cls w11 []) [3, 7, 9, 13] [(3, some true), (7, some true), (9, some true), (13, some true)] (bA 17 [0, 1, 2, 3, 4, 5, 6, 7, 8, 9, 10, 11, 12, 13]) 3 (by kernel_rfl) (by kernel_rfl) (Cls.refl _ _) ?_
  have hC13 := Cls.refl w11 []
  have hk14 := hb9.grown hg12 nb
  refine gv_load (t := 24) (A := ⟨pb0, 0, none⟩) (.slice pa0_0 (length r_0.1) pc0_0) [] (fun e => by cases e) rfl rfl rfl (by kernel_rfl) (by kernel_rfl) (by kernel_rfl) (inw1 fun w' hC' => ((hC'.box hk14 nm_nil).cell 0 rfl)) rfl ?_
  refine gv_load (t := 3) (A := ⟨pb0, 1, none⟩) (.int .i64 (IntKind.i64.wrap (r_0.2 + n_1))) [] (fun e => by cases e) rfl rfl rfl (by kernel_rfl) (by kernel_rfl) (by kernel_rfl) (inw1 fun w' hC' => ((hC'.box hk14 nm_nil).cell 1 rfl)) rfl ?_
  refine pN 1 [35] [(35, (.int .i64 (IntKind.i64.wrap ((IntKind.i64.wrap (r_0.2 + n_1)) - n_1))))] ?_
  refine gv_sub [29, 35, 38] (σ' := [(29, (.slice pa0_0 (length r_0.1) pc0_0)), (35, (.int .i64 (IntKind.i64.wrap ((IntKind.i64.wrap (r_0.2 + n_1)) - n_1)))), (38, (.pointer (some ⟨pb0, 1, none⟩)))]) (by kernel_rfl) ?_
  refine gv_load (t := 3) (A := ⟨pb0, 1, none⟩) (.int .i64 (IntKind.i64.wrap (r_0.2 + n_1))) [] (fun e => by cases e) rfl rfl rfl (by kernel_rfl) (by kernel_rfl) (by kernel_rfl) (inw1 fun w' hC' => ((hC'.box hk14 nm_nil).cell 1 rfl)) rfl ?_
  refine gv_nil <| gv_goA ?_
  refine gv_pre [14, 15, 16] (bA 17 [0, 1, 2, 3, 4, 5, 6, 7, 8, 9, 10, 11, 12, 13, 14, 15, 16]) 0 (by kernel_rfl) (by kernel_rfl) ?_
  refine bindE h0 ?_; clear h0; intro x15 hx16 h0
  have hB20 := grown_step hB0 hg2 nb
  have hB21 := grown_step hB20 hg8 rowpp
  have hB22 := grown_step hB21 hg12 nb
  refine gv_ssl2 bE (t := 24) (e := 5) (xs := r_0.1) (a := pa0_0) (cap := pc0_0) (lo := (some (.int .i64 (IntKind.i64.wrap ((IntKind.i64.wrap (r_0.2 + n_1)) - n_1))))) (hi := (some (.int .i64 (IntKind.i64.wrap (r_0.2 + n_1))))) (IntKind.i64.wrap ((IntKind.i64.wrap (r_0.2 + n_1)) - n_1)) (IntKind.i64.wrap (r_0.2 + n_1)) x15 (fun e => by cases e) rfl rfl rfl (by kernel_rfl) (by kernel_rfl) Tryd.underlying24 (by kernel_rfl) (.inr ⟨_, rfl⟩) (.inr ⟨_, rfl⟩) hx16 (hpa0_0.grown hB22 (fun k hk => (hX0 k hk).1) (fun g e hk => by cases e; exact (hX0 _ hk).2 rfl)).1 ?_
  intro a17 c18 hsub19
  have hp23 := hsub19 _ _ hpa0_0
  refine pN 2 [4, 5] [(4, (.slice a17 (length x15) c18)), (5, (.bool true))] ?_
  refine gv_nil <| gv_goA ?_
  refine gv_stageE (by kernel_rfl) ?_
  refine gv_cret ?_
  have e := sj h0; subst e
  refine gv_ret (gv_done [(.slice a17 (length x15) c18), (.bool true)] rfl ⟨(by kernel_rfl), (by kernel_rfl), trivial⟩ ?_)
  exact ⟨hB22, a17, c18, X0, rfl, (hp23.grown hB22 (fun k hk => (hX0 k hk).1) (fun g e hk => by cases e; exact (hX0 _ hk).2 rfl)), (fun k hk => ⟨(fun k (hk : X0 k) => ltl (hX0 k hk).1 hB22.size) k hk, (fun k (hk : X0 k) => Or.inl hk) k hk⟩), hk14⟩

theorem packing_whole_ok (fuel : Nat) (n_0 : Int) (w0 : World)  (r0 : (Int × (Bool × (List Int)) × (Bool × (List Int)) × ByteArray × Int)) (h0 : packing_whole fuel n_0 = some r0) :
    Calls Tryd.prog 56 ([(.int .i64 n_0)] : List Value).toArray w0 (Ret fun v w' => w0.grownBy w' none ∧ ∃ (a0_0r : Option Addr) (c0_0r : Nat), ∃ (a0_1r : Option Addr) (c0_1r : Nat), v = tup [(.agg #[(.int .i64 r0.1), (.bool r0.2.1.1), (.slice a0_0r (length r0.2.1.2) c0_0r), (.bool r0.2.2.1.1), (.slice a0_1r (length r0.2.2.1.2) c0_1r), (.string r0.2.2.2.1), (.int .i64 r0.2.2.2.2)])] ∧ Gv.Own (iE .u32) 87 w' (fun _ => False) a0_0r c0_0r r0.2.1.2 ∧ (∀ g, blk a0_0r = some g → w0.heap.size ≤ g) ∧ Gv.Own (iE .u32) 87 w' (fun _ => False) a0_1r c0_1r r0.2.2.1.2 ∧ (∀ g, blk a0_1r = some g → w0.heap.size ≤ g) ∧ (∀ g, blk a0_0r = some g → blk a0_1r ≠ some g)) := by
 have hB0 : Below w0.heap.size w0 w0 := Below.refl _ _
 unfold packing_whole at h0
 refine calls_run Tryd.func56 rfl Tryd.ntmps56 (by kernel_rfl) ?_
 refine gv_sub [0] (σ' := [(0, (.int .i64 n_0))]) (by kernel_rfl) ?_
 refine gv_seq <| gv_region <| gv_new0 (fun b => .pointer (some ⟨b, 0, none⟩)) #[(.int .i64 0), (.bool false), (.slice none (length ([] : List Int)) 0), (.bool false), (.slice none (length ([] : List Int)) 0), (.string (strOf [])), (.int .i64 0)] 48 (by kernel_rfl) (by kernel_rfl) ?_
 intro b1 w2 hg3 hb4 hbe5 hz6
 refine gv_nil <| gv_seq <| gv_region <| pN 1 [3] [(3, (.int .i64 n_0))] ?_
 refine bindE h0 ?_; clear h0; intro r7 hr8 h0
 refine gv_call0 (by kernel_rfl) rfl (by kernel_rfl) enters33 (integer_Of_ok fuel n_0 w2  r7 hr8) ?_
 rintro v11 w9 ⟨hg10, a12, c13, rfl, ho14, hl15⟩
 have hB17 := bg hB0 hg3 nb
 have hl16 : ∀ g, blk a12 = some g → w0.heap.size ≤ g := fun g e => Nat.le_trans hB17.size (hl15 g e)
 refine pN 1 [5] [(5, (.agg #[(.int .i64 2), (.bool r7.1), (.slice a12 (length r7.2) c13), (.bool false), (.slice none (length ([] : List Int)) 0), (.string (strOf [])), (.int .i64 0)]))] ?_
 have hk22 := hb4.grown hg10 nb
 refine gv_store0 48 0 (.agg #[(.int .i64 2), (.bool r7.1), (.slice a12 (length r7.2) c13), (.bool false), (.slice none (length ([] : List Int)) 0), (.string (strOf [])), (.int .i64 0)]) #[(.int .i64 2), (.bool r7.1), (.slice a12 (length r7.2) c13), (.bool false), (.slice none (length ([] : List Int)) 0), (.string (strOf [])), (.int .i64 0)] hk22 (by kernel_rfl) (by kernel_rfl) (by kernel_rfl) ?_
 intro w18 hg19 hb20 hz21
 refine gv_nil <| gv_cret ?_
 have e := sj h0; subst e
 refine gv_ret (gv_done [(.agg #[(.int .i64 2), (.bool r7.1), (.slice a12 (length r7.2) c13), (.bool false), (.slice none (length ([] : List Int)) 0), (.string (strOf [])), (.int .i64 0)])] rfl ⟨⟨⟨b1, 0, none⟩, (by kernel_rfl), run_loadVar_row w18 b1 _ 48 _ _ _ hb20 Tryd.underlying48 rfl (by kernel_rfl)⟩, trivial⟩ ?_)
 have hB23 := bg hB17 hg10 nb
 have hlo24 : w0.heap.size ≤ b1 := lob hbe5 hB0.size
 have hB25 := bg hB23 hg19 (rowlo hlo24)
 have ap26 : ¬ (fun k => blk a12 = some k) b1 := fun hx => nl ((show ∀ k, blk a12 = some k → w2.heap.size ≤ k from hl15) _ hx) ((ltb hb4) _ rfl)
 have hk27 := ho14.grown hg19 (fun _ h => h.elim) (rdnn (rowne ap26))
 exact ⟨grown_of_below hB25, a12, c13, none, 0, rfl, hk27, hl16, (Gv.Own.nil (iE .u32) 87 w18 (fun _ => False)), (fun _ h => by cases h), (fun _ _ h => by cases h)⟩

theorem packing_natural_ok (fuel : Nat) (u_0 : Int) (w0 : World)  (r0 : (Int × (Bool × (List Int)) × (Bool × (List Int)) × ByteArray × Int)) (h0 : packing_natural fuel u_0 = some r0) :
    Calls Tryd.prog 57 ([(.int .u64 u_0)] : List Value).toArray w0 (Ret fun v w' => w0.grownBy w' none ∧ ∃ (a0_0r : Option Addr) (c0_0r : Nat), ∃ (a0_1r : Option Addr) (c0_1r : Nat), v = tup [(.agg #[(.int .i64 r0.1), (.bool r0.2.1.1), (.slice a0_0r (length r0.2.1.2) c0_0r), (.bool r0.2.2.1.1), (.slice a0_1r (length r0.2.2.1.2) c0_1r), (.string r0.2.2.2.1), (.int .i64 r0.2.2.2.2)])] ∧ Gv.Own (iE .u32) 87 w' (fun _ => False) a0_0r c0_0r r0.2.1.2 ∧ (∀ g, blk a0_0r = some g → w0.heap.size ≤ g) ∧ Gv.Own (iE .u32) 87 w' (fun _ => False) a0_1r c0_1r r0.2.2.1.2 ∧ (∀ g, blk a0_1r = some g → w0.heap.size ≤ g) ∧ (∀ g, blk a0_0r = some g → blk a0_1r ≠ some g)) := by
 have hB0 : Below w0.heap.size w0 w0 := Below.refl _ _
 unfold packing_natural at h0
 refine calls_run Tryd.func57 rfl Tryd.ntmps57 (by kernel_rfl) ?_
 refine gv_sub [0] (σ' := [(0, (.int .u64 u_0))]) (by kernel_rfl) ?_
 refine gv_seq <| gv_region <| gv_new0 (fun b => .pointer (some ⟨b, 0, none⟩)) #[(.int .i64 0), (.bool false), (.slice none (length ([] : List Int)) 0), (.bool false), (.slice none (length ([] : List Int)) 0), (.string (strOf [])), (.int .i64 0)] 48 (by kernel_rfl) (by kernel_rfl) ?_
 intro b1 w2 hg3 hb4 hbe5 hz6
 refine gv_nil <| gv_seq <| gv_region <| pN 2 [4, 5] [(5, (.int .i64 (IntKind.i64.wrap (u_0))))] ?_
 refine bindE h0 ?_; clear h0; intro r7 hr8 h0
 refine gv_call0 (by kernel_rfl) rfl (by kernel_rfl) enters56 (packing_whole_ok fuel (IntKind.i64.wrap (u_0)) w2  r7 hr8) ?_
 rintro v11 w9 ⟨hg10, a12, c13, a16, c17, rfl, ho14, hl15, ho18, hl19, ap20⟩
 have hB22 := bg hB0 hg3 nb
 have hl21 : ∀ g, blk a12 = some g → w0.heap.size ≤ g := fun g e => Nat.le_trans hB22.size (hl15 g e)
 have hl23 : ∀ g, blk a16 = some g → w0.heap.size ≤ g := fun g e => Nat.le_trans hB22.size (hl19 g e)
 refine gv_new0 (fun b => .pointer (some ⟨b, 0, none⟩)) #[(.int .i64 0), (.bool false), (.slice none (length ([] : List Int)) 0), (.bool false), (.slice none (length ([] : List Int)) 0), (.string (strOf [])), (.int .i64 0)] 48 (by kernel_rfl) (by kernel_rfl) ?_
 intro b24 w25 hg26 hb27 hbe28 hz29
 refine gv_store0 48 0 (.agg #[(.int .i64 r7.1), (.bool r7.2.1.1), (.slice a12 (length r7.2.1.2) c13), (.bool r7.2.2.1.1), (.slice a16 (length r7.2.2.1.2) c17), (.string r7.2.2.2.1), (.int .i64 r7.2.2.2.2)]) #[(.int .i64 r7.1), (.bool r7.2.1.1), (.slice a12 (length r7.2.1.2) c13), (.bool r7.2.2.1.1), (.slice a16 (length r7.2.2.1.2) c17), (.string r7.2.2.2.1), (.int .i64 r7.2.2.2.2)] hb27 (by kernel_rfl) (by kernel_rfl) (by kernel_rfl) ?_
 intro w30 hg31 hb32 hz33
 refine gv_nil <| gv_seq <| gv_seq <| gv_region <| pN 3 [7, 8, 9] [(9, (.bool (((u_0).fdiv (2 ^ 63)) == 1)))] ?_
 refine gv_nil <| bindE h0 ?_; clear h0; intro j34 h1 h0
 refine gv_cut_code (J := fun a w35 => ∃ (abb24_0j : Option Addr) (cbb24_0j : Nat), ∃ (abb24_1j : Option Addr) (cbb24_1j : Nat), Below w0.heap.size w0 w35 ∧ w30.heap.size ≤ w35.heap.size ∧ Gv.Own (iE .u32) 87 w35 (fun _ => False) abb24_0j cbb24_0j j34.2.1.2 ∧ (∀ g, blk abb24_0j = some g → w0.heap.size ≤ g) ∧ Gv.Own (iE .u32) 87 w35 (fun _ => False) abb24_1j cbb24_1j j34.2.2.1.2 ∧ (∀ g, blk abb24_1j = some g → w0.heap.size ≤ g) ∧ (∀ g, blk abb24_0j = some g → ¬ (fun k => blk abb24_1j = some k) g) ∧ (∀ g, blk abb24_0j = some g → ¬ (· = b1) g) ∧ (∀ g, blk abb24_0j = some g → ¬ (· = b24) g) ∧ ¬ (fun k => blk abb24_0j = some k) b1 ∧ ¬ (fun k => blk abb24_0j = some k) b24 ∧ (∀ g, blk abb24_1j = some g → ¬ (fun k => blk abb24_0j = some k) g) ∧ (∀ g, blk abb24_1j = some g → ¬ (· = b1) g) ∧ (∀ g, blk abb24_1j = some g → ¬ (· = b24) g) ∧ ¬ (fun k => blk abb24_1j = some k) b1 ∧ ¬ (fun k => blk abb24_1j = some k) b24 ∧ Box w35 b1 48 #[(.int .i64 0), (.bool false), (.slice none (length ([] : List Int)) 0), (.bool false), (.slice none (length ([] : List Int)) 0), (.string (strOf [])), (.int .i64 0)] ∧ Box w35 b24 48 #[(.int .i64 j34.1), (.bool j34.2.1.1), (.slice abb24_0j (length j34.2.1.2) cbb24_0j), (.bool j34.2.2.1.1), (.slice abb24_1j (length j34.2.2.1.2) cbb24_1j), (.string j34.2.2.2.1), (.int .i64 j34.2.2.2.2)] ∧ a.defers = [] ∧ a.tmps.size = 19 ∧ Ok [(2, (bp b1)), (3, (bp b24))] a.tmps) ?_ ?_
 ·skip
  refine gv_cond (b := (((u_0).fdiv (2 ^ 63)) == 1)) (by kernel_rfl) (fun hc36 => ?_) (fun hc36 => ?_)
  ·replace h1 := ite_t hc36 h1
   refine gv_region <| pN 5 [10, 11, 12, 13, 14] [(11, (.int .u32 (IntKind.u32.wrap (u_0)))), (14, (.int .u32 (IntKind.u32.wrap (((u_0).fdiv (2 ^ 32))))))] ?_
   refine gv_new0 (fun b => .slice (some ⟨b, 0, none⟩) 2 2) #[(.int .u32 (IntKind.u32.wrap (u_0))), (.int .u32 (IntKind.u32.wrap (((u_0).fdiv (2 ^ 32)))))] 87 (by kernel_rfl) (by kernel_rfl) ?_
   intro b37 w38 hg39 hb40 hbe41 hz42
   have ho43 : Gv.Own (iE .u32) 87 w38 (fun _ => False) (some ⟨b37, 0, none⟩) 2 ([(IntKind.u32.wrap (u_0)), (IntKind.u32.wrap (((u_0).fdiv (2 ^ 32))))] : List Int) := Box.ownE hb40 ⟨[(.int .u32 (IntKind.u32.wrap (u_0)))], [(.int .u32 (IntKind.u32.wrap (((u_0).fdiv (2 ^ 32)))))], rfl, rfl, ⟨[(.int .u32 (IntKind.u32.wrap (((u_0).fdiv (2 ^ 32)))))], [], rfl, rfl, rfl⟩⟩ (show 2 ≤ maxLen by decide) (fun h => h)
   have hg48 := (grown_trans hg10 hg26)
   have hB49 := bg hB22 hg48 nb
   have hB50 := bg hB22 hg10 nb
   have hlo51 : w0.heap.size ≤ b24 := lob hbe28 hB50.size
   have hB52 := bg hB49 hg31 (rowlo hlo51)
   have hl44 : ∀ g, blk (some ⟨b37, 0, none⟩) = some g → w0.heap.size ≤ g := loo hbe41 hB52.size
   refine pN 2 [16, 17] [(16, (.agg #[(.bool false), (.slice (some ⟨b37, 0, none⟩) (length ([(IntKind.u32.wrap (u_0)), (IntKind.u32.wrap (((u_0).fdiv (2 ^ 32))))] : List Int)) 2)])), (17, (.pointer (some ⟨b24, 1, none⟩)))] ?_
   have hk57 := hb32.grown hg39 nb
   refine gv_store0 46 1 (.agg #[(.bool false), (.slice (some ⟨b37, 0, none⟩) (length ([(IntKind.u32.wrap (u_0)), (IntKind.u32.wrap (((u_0).fdiv (2 ^ 32))))] : List Int)) 2)]) #[(.int .i64 r7.1), (.bool false), (.slice (some ⟨b37, 0, none⟩) (length ([(IntKind.u32.wrap (u_0)), (IntKind.u32.wrap (((u_0).fdiv (2 ^ 32))))] : List Int)) 2), (.bool r7.2.2.1.1), (.slice a16 (length r7.2.2.1.2) c17), (.string r7.2.2.2.1), (.int .i64 r7.2.2.2.2)] hk57 (by kernel_rfl) (by kernel_rfl) (by kernel_rfl) ?_
   intro w53 hg54 hb55 hz56
   refine gv_nil ?_
   have e := sj h1; subst e
   refine gv_goal fun a hd hs hok => ?_
   have hB58 := bg hB52 hg39 nb
   have hB59 := bg hB58 hg54 (rowlo hlo51)
   have hz60 := (nt hg39.size hg54.size)
   have ap61 : ¬ (fun k => blk (some ⟨b37, 0, none⟩) = some k) b24 := fun hx => nl ((lowo hbe41) _ hx) ((ltb hb32) _ rfl)
   have hk62 := ho43.grown hg54 (fun _ h => h.elim) (rdnn (rowne ap61))
   have ap63 : ¬ (fun k => blk a16 = some k) b24 := fun hx => nl ((lowb hbe28) _ rfl) ((fun k (hk : blk a16 = some k) => ho18.lt k hk) _ hx)
   have hk64 := (((ho18.grown hg26 (fun _ h => h.elim) nb).grown hg31 (fun _ h => h.elim) (rdnn (rowne ap63))).grown hg39 (fun _ h => h.elim) nb).grown hg54 (fun _ h => h.elim) (rdnn (rowne ap63))
   have hk65 := (ho18.grown hg26 (fun _ h => h.elim) nb).grown hg31 (fun _ h => h.elim) (rdnn (rowne ap63))
   have ap66 : ∀ g, blk (some ⟨b37, 0, none⟩) = some g → ¬ (fun k => blk a16 = some k) g := fun g e hx => nl ((lowo hbe41) g e) ((fun k (hk : blk a16 = some k) => hk65.lt k hk) _ hx)
   have hk67 := hb4.grown hg10 nb
   have lt68 := ltl ((ltb hk67) _ rfl) ((lowb hbe28) _ rfl)
   have hk69 := (hb4.grown hg48 nb).grown hg31 (rowne (ng lt68))
   have ap70 : ∀ g, blk (some ⟨b37, 0, none⟩) = some g → ¬ (· = b1) g := fun g e hx => nl ((lowo hbe41) g e) ((ltb hk69) _ hx)
   have ap71 : ∀ g, blk (some ⟨b37, 0, none⟩) = some g → ¬ (· = b24) g := fun g e hx => nl ((lowo hbe41) g e) ((ltb hb32) _ hx)
   have ap72 : ¬ (fun k => blk (some ⟨b37, 0, none⟩) = some k) b1 := fun hx => nl ((lowo hbe41) _ hx) ((ltb hk69) _ rfl)
   have ap73 : ∀ g, blk a16 = some g → ¬ (fun k => blk (some ⟨b37, 0, none⟩) = some k) g := fun g e hx => nl ((lowo hbe41) _ hx) ((fun k (hk : blk a16 = some k) => hk65.lt k hk) g e)
   have ap74 : ∀ g, blk a16 = some g → ¬ (· = b1) g := fun g e hx => nl ((show ∀ k, blk a16 = some k → w2.heap.size ≤ k from hl19) g e) ((ltb hb4) _ hx)
   have ap75 : ∀ g, blk a16 = some g → ¬ (· = b24) g := fun g e hx => nl ((lowb hbe28) _ hx) ((fun k (hk : blk a16 = some k) => ho18.lt k hk) g e)
   have ap76 : ¬ (fun k => blk a16 = some k) b1 := fun hx => nl ((show ∀ k, blk a16 = some k → w2.heap.size ≤ k from hl19) _ hx) ((ltb hb4) _ rfl)
   have hk77 := (hk69.grown hg39 nb).grown hg54 (rowne (ng lt68))
   exact ⟨(some ⟨b37, 0, none⟩), 2, a16, c17, hB59, hz60, hk62, hl44, hk64, hl23, ap66, ap70, ap71, ap72, ap61, ap73, ap74, ap75, ap76, ap63, hk77, hb55, hd, hs, okp [2, 3] hok⟩
  ·replace h1 := ite_f hc36 h1
   refine gv_skip ?_
   have e := sj h1; subst e
   refine gv_goal fun a hd hs hok => ?_
   have hg78 := (grown_trans hg10 hg26)
   have hB79 := bg hB22 hg78 nb
   have hB80 := bg hB22 hg10 nb
   have hlo81 : w0.heap.size ≤ b24 := lob hbe28 hB80.size
   have hB82 := bg hB79 hg31 (rowlo hlo81)
   have ap83 : ¬ (fun k => blk a12 = some k) b24 := fun hx => nl ((lowb hbe28) _ rfl) ((fun k (hk : blk a12 = some k) => ho14.lt k hk) _ hx)
   have hk84 := (ho14.grown hg26 (fun _ h => h.elim) nb).grown hg31 (fun _ h => h.elim) (rdnn (rowne ap83))
   have ap85 : ¬ (fun k => blk a16 = some k) b24 := fun hx => nl ((lowb hbe28) _ rfl) ((fun k (hk : blk a16 = some k) => ho18.lt k hk) _ hx)
   have hk86 := (ho18.grown hg26 (fun _ h => h.elim) nb).grown hg31 (fun _ h => h.elim) (rdnn (rowne ap85))
   have ap87 : ∀ g, blk a12 = some g → ¬ (· = b1) g := fun g e hx => nl ((show ∀ k, blk a12 = some k → w2.heap.size ≤ k from hl15) g e) ((ltb hb4) _ hx)
   have ap88 : ∀ g, blk a12 = some g → ¬ (· = b24) g := fun g e hx => nl ((lowb hbe28) _ hx) ((fun k (hk : blk a12 = some k) => ho14.lt k hk) g e)
   have ap89 : ¬ (fun k => blk a12 = some k) b1 := fun hx => nl ((show ∀ k, blk a12 = some k → w2.heap.size ≤ k from hl15) _ hx) ((ltb hb4) _ rfl)
   have ap90 : ∀ g, blk a16 = some g → ¬ (· = b1) g := fun g e hx => nl ((show ∀ k, blk a16 = some k → w2.heap.size ≤ k from hl19) g e) ((ltb hb4) _ hx)
   have ap91 : ∀ g, blk a16 = some g → ¬ (· = b24) g := fun g e hx => nl ((lowb hbe28) _ hx) ((fun k (hk : blk a16 = some k) => ho18.lt k hk) g e)
   have ap92 : ¬ (fun k => blk a16 = some k) b1 := fun hx => nl ((show ∀ k, blk a16 = some k → w2.heap.size ≤ k from hl19) _ hx) ((ltb hb4) _ rfl)
   have hk93 := hb4.grown hg10 nb
   have lt94 := ltl ((ltb hk93) _ rfl) ((lowb hbe28) _ rfl)
   have hk95 := (hb4.grown hg78 nb).grown hg31 (rowne (ng lt94))
   exact ⟨a12, c13, a16, c17, hB82, nrf, hk84, hl21, hk86, hl23, ap20, ap87, ap88, ap89, ap83, (apart_symm ap20), ap90, ap91, ap92, ap85, hk95, hb32, hd, hs, okp [2, 3] hok⟩
 ·rintro a w35 ⟨a98, c99, a100, c101, hB96, hz97, ho102, hl103, ho104, hl105, ap106, ap107, ap108, ap109, ap110, ap111, ap112, ap113, ap114, ap115, hb116, hb117, hd, hs, hok⟩
  refine gv_in ?_ hd hs hok
  clear hd hs hok
  clear hz97 hz33 hb32 hg31 hz29 hb27 hg26 hl23 hl21 ap20 hl19 ho18 hl15 ho14 hr8 hz6 hg3
  refine gv_seq <| gv_region <| gv_loadBox (t := 48) (b := b24) (t' := 48) (fr := (0, 0)) #[(.int .i64 j34.1), (.bool j34.2.1.1), (.slice a98 (length j34.2.1.2) c99), (.bool j34.2.2.1.1), (.slice a100 (length j34.2.2.1.2) c101), (.string j34.2.2.2.1), (.int .i64 j34.2.2.2.2)] [] (fun e => by cases e) rfl rfl rfl (by kernel_rfl) (by kernel_rfl) (by kernel_rfl) (by kernel_rfl) (inw0 hb117) rfl ?_
  refine gv_store0 48 0 (.agg #[(.int .i64 j34.1), (.bool j34.2.1.1), (.slice a98 (length j34.2.1.2) c99), (.bool j34.2.2.1.1), (.slice a100 (length j34.2.2.1.2) c101), (.string j34.2.2.2.1), (.int .i64 j34.2.2.2.2)]) #[(.int .i64 j34.1), (.bool j34.2.1.1), (.slice a98 (length j34.2.1.2) c99), (.bool j34.2.2.1.1), (.slice a100 (length j34.2.2.1.2) c101), (.string j34.2.2.2.1), (.int .i64 j34.2.2.2.2)] hb116 (by kernel_rfl) (by kernel_rfl) (by kernel_rfl) ?_
  intro w118 hg119 hb120 hz121
  refine gv_nil <| gv_cret ?_
  have e := sj h0; subst e
  refine gv_ret (gv_done [(.agg #[(.int .i64 j34.1), (.bool j34.2.1.1), (.slice a98 (length j34.2.1.2) c99), (.bool j34.2.2.1.1), (.slice a100 (length j34.2.2.1.2) c101), (.string j34.2.2.2.1), (.int .i64 j34.2.2.2.2)])] rfl ⟨⟨⟨b1, 0, none⟩, (by kernel_rfl), run_loadVar_row w118 b1 _ 48 _ _ _ hb120 Tryd.underlying48 rfl (by kernel_rfl)⟩, trivial⟩ ?_)
  have hlo122 : w0.heap.size ≤ b1 := lob hbe5 hB0.size
  have hB123 := bg hB96 hg119 (rowlo hlo122)
  have hk124 := ho102.grown hg119 (fun _ h => h.elim) (rdnn (rowne ap109))
  have hk125 := ho104.grown hg119 (fun _ h => h.elim) (rdnn (rowne ap114))
  exact ⟨grown_of_below hB123, a98, c99, a100, c101, rfl, hk124, hl103, hk125, hl105, ap106⟩

theorem packing_reader_fixed_ok (fuel : Nat) (pb0 : Nat) (pa0_0 : Option Addr) (pc0_0 : Nat) (r_0 : ((List UInt8) × Int)) (f_1 : (Int × Int × Bool)) (n_2 : Int) (signed_3 : Bool) (w0 : World) (X0 : Nat → Prop) (hX0 : ∀ k, X0 k → k < w0.heap.size ∧ k ≠ pb0) (hp0 : Box w0 pb0 72 #[(.slice pa0_0 (length r_0.1) pc0_0), (.int .i64 r_0.2)]) (hpa0_0 : Rd bE w0 X0 pa0_0 pc0_0 r_0.1) (r0 : ((Int × (Bool × (List Int)) × (Bool × (List Int)) × ByteArray × Int) × Int × ((List UInt8) × Int))) (h0 : packing_reader_fixed fuel r_0 f_1 n_2 signed_3 = some r0) :
    Calls Tryd.prog 44 ([(bp pb0), (.agg #[(.int .u8 f_1.1), (.int .i64 f_1.2.1), (.bool f_1.2.2)]), (.int .i64 n_2), (.bool signed_3)] : List Value).toArray w0 (Ret fun v w' => w0.grownBy w' (some pb0) ∧ ∃ (a0_0r : Option Addr) (c0_0r : Nat), ∃ (a0_1r : Option Addr) (c0_1r : Nat), v = tup [(.agg #[(.int .i64 r0.1.1), (.bool r0.1.2.1.1), (.slice a0_0r (length r0.1.2.1.2) c0_0r), (.bool r0.1.2.2.1.1), (.slice a0_1r (length r0.1.2.2.1.2) c0_1r), (.string r0.1.2.2.2.1), (.int .i64 r0.1.2.2.2.2)]), (.int .i64 r0.2.1)] ∧ Gv.Own (iE .u32) 87 w' (fun _ => False) a0_0r c0_0r r0.1.2.1.2 ∧ (∀ g, blk a0_0r = some g → w0.heap.size ≤ g) ∧ Gv.Own (iE .u32) 87 w' (fun _ => False) a0_1r c0_1r r0.1.2.2.1.2 ∧ (∀ g, blk a0_1r = some g → w0.heap.size ≤ g) ∧ (∀ g, blk a0_0r = some g → blk a0_1r ≠ some g) ∧ Box w' pb0 72 #[(.slice pa0_0 (length r_0.1) pc0_0), (.int .i64 r0.2.2.2)]) := by
 have hB0 : w0.grownBy w0 (some pb0) := grown_refl _ _
 unfold packing_reader_fixed at h0
 refine calls_run Tryd.func44 rfl Tryd.ntmps44 (by kernel_rfl) ?_
 refine gv_sub [0, 1, 2, 3] (σ' := [(0, (bp pb0)), (1, (.agg #[(.int .u8 f_1.1), (.int .i64 f_1.2.1), (.bool f_1.2.2)])), (2, (.int .i64 n_2)), (3, (.bool signed_3))]) (by kernel_rfl) ?_
 have hpl0 := hp0.lt
 refine gv_seq <| gv_region <| gv_new0 (fun b => .pointer (some ⟨b, 0, none⟩)) #[(.int .u8 f_1.1), (.int .i64 f_1.2.1), (.bool f_1.2.2)] 31 (by kernel_rfl) (by kernel_rfl) ?_
 intro b1 w2 hg3 hb4 hbe5 hz6
 refine gv_new0 (fun b => .pointer (some ⟨b, 0, none⟩)) #[(.int .i64 0), (.bool false), (.slice none (length ([] : List Int)) 0), (.bool false), (.slice none (length ([] : List Int)) 0), (.string (strOf [])), (.int .i64 0)] 48 (by kernel_rfl) (by kernel_rfl) ?_
 intro b7 w8 hg9 hb10 hbe11 hz12
 refine pN 1 [9] [] ?_
 refine gv_nil <| gv_seq <| gv_region <| pN 2 [17, 18] [(17, (bp pb0)), (18, (.int .i64 n_2))] ?_
 refine bindE h0 ?_; clear h0; intro r13 hr14 h0
 have hg15 := (grown_trans hg3 hg9)
 have hB16 := grown_step hB0 hg15 nb
 have hk17 := hp0.grown hg15 nb
 refine gv_call0 (by kernel_rfl) rfl (by kernel_rfl) enters46 (packing_reader_take_ok fuel pb0 pa0_0 pc0_0 (r_0.1, r_0.2) n_2 w8 (fun k => X0 k) (fun k hk => ⟨(fun k (hk : X0 k) => ltl (hX0 k hk).1 hB16.size) k hk, fun e => (fun (hx : X0 pb0) => (hX0 _ hx).2 rfl) (e ▸ hk)⟩) hk17 ((hpa0_0.grown hB16 (fun k hk => (hX0 k hk).1) (fun g e hk => by cases e; exact (hX0 _ hk).2 rfl)).wide (fun k hk => hk)) r13 hr14) ?_
 rintro v20 w18 ⟨hg19, a21, c22, X24, rfl, ho23, hx25, hb26⟩
 have hx27 : ∀ k, X24 k → k < w18.heap.size := fun k hk => (hx25 k hk).1
 have hx28 : ∀ k, X24 k → X0 k ∨ w0.heap.size ≤ k := fun k hk => (hx25 k hk).2.elim (fun h => (fun k (hk : X0 k) => Or.inl hk) k h) (fun h => .inr (Nat.le_trans hB16.size h))
 refine pN 5 [10, 11, 16, 20, 21] [(10, (.slice a21 (length r13.1) c22)), (11, (.bool r13.2.1))] ?_
 refine gv_nil <| gv_seq <| gv_seq <| gv_region <| pN 2 [22, 23] [(23, (.bool (!r13.2.1)))] ?_
 refine gv_nil <| gv_cond (b := (!r13.2.1)) (by kernel_rfl) (fun hc29 => ?_) (fun hc29 => ?_)
 ·replace h0 := ite_t hc29 h0
  refine gv_seq <| gv_region <| pN 1 [24] [(24, (.agg #[(.int .i64 0), (.bool false), (.slice none (length ([] : List Int)) 0), (.bool false), (.slice none (length ([] : List Int)) 0), (.string (strOf [])), (.int .i64 0)]))] ?_
  have hk34 := hp0.grown hg3 nb
  have ap35 : ¬ (· = b7) pb0 := fun hx => nl ((lowb hbe11) _ hx) ((ltb hk34) _ rfl)
  have hk36 := hb10.grown hg19 (rowne ap35)
  refine gv_store0 48 0 (.agg #[(.int .i64 0), (.bool false), (.slice none (length ([] : List Int)) 0), (.bool false), (.slice none (length ([] : List Int)) 0), (.string (strOf [])), (.int .i64 0)]) #[(.int .i64 0), (.bool false), (.slice none (length ([] : List Int)) 0), (.bool false), (.slice none (length ([] : List Int)) 0), (.string (strOf [])), (.int .i64 0)] hk36 (by kernel_rfl) (by kernel_rfl) (by kernel_rfl) ?_
  intro w30 hg31 hb32 hz33
  refine pN 1 [9] [(9, (.int .i64 15))] ?_
  refine gv_nil <| gv_cret ?_
  have e := sj h0; subst e
  refine gv_ret (gv_done [(.agg #[(.int .i64 0), (.bool false), (.slice none (length ([] : List Int)) 0), (.bool false), (.slice none (length ([] : List Int)) 0), (.string (strOf [])), (.int .i64 0)]), (.int .i64 15)] rfl ⟨⟨⟨b7, 0, none⟩, (by kernel_rfl), run_loadVar_row w30 b7 _ 48 _ _ _ hb32 Tryd.underlying48 rfl (by kernel_rfl)⟩, (by kernel_rfl), trivial⟩ ?_)
  have hB37 := grown_step hB16 hg19 rowpp
  have hB38 := grown_step hB0 hg3 nb
  have hlo39 : w0.heap.size ≤ b7 := lob hbe11 hB38.size
  have hB40 := grown_step hB37 hg31 (rowppr hlo39)
  have ap41 : ¬ (· = pb0) b7 := fun hx => nl ((lowb hbe11) _ rfl) ((ltb hk34) _ hx)
  have hk42 := hb26.grown hg31 (rowne ap41)
  exact ⟨hB40, none, 0, none, 0, rfl, (Gv.Own.nil (iE .u32) 87 w30 (fun _ => False)), (fun _ h => by cases h), (Gv.Own.nil (iE .u32) 87 w30 (fun _ => False)), (fun _ h => by cases h), (fun _ h => by cases h), hk42⟩
 ·replace h0 := ite_f hc29 h0
  refine gv_skip <| gv_seq <| gv_region <| pN 1 [12] [(12, (.int .u64 0))] ?_
  refine gv_nil <| gv_seq <| gv_seq <| gv_region <| pN 3 [25, 26, 27] [(25, (.slice a21 (length r13.1) c22)), (26, (.int .i64 ((length r13.1 : Nat) : Int))), (27, (.int .i64 0))] ?_
  refine gv_nil <| bindE h0 ?_; clear h0; intro j43 h1 h0
  refine gv_cut_code (J := fun a w44 => w0.grownBy w44 (some pb0) ∧ w18.heap.size ≤ w44.heap.size ∧ Box w44 pb0 72 #[(.slice pa0_0 (length r_0.1) pc0_0), (.int .i64 r13.2.2.2)] ∧ Box w44 b7 48 #[(.int .i64 0), (.bool false), (.slice none (length ([] : List Int)) 0), (.bool false), (.slice none (length ([] : List Int)) 0), (.string (strOf [])), (.int .i64 0)] ∧ a.defers = [] ∧ a.tmps.size = 61 ∧ Ok [(2, (.int .i64 n_2)), (3, (.bool signed_3)), (8, (bp b7)), (12, (.int .u64 j43))] a.tmps) ?_ ?_
  ·skip
   refine gv_block <| gv_loop (A := fun (s45 : (Int × Int)) a w46 => w0.grownBy w46 (some pb0) ∧ w18.heap.size ≤ w46.heap.size ∧ Box w46 pb0 72 #[(.slice pa0_0 (length r_0.1) pc0_0), (.int .i64 r13.2.2.2)] ∧ Box w46 b1 31 #[(.int .u8 f_1.1), (.int .i64 f_1.2.1), (.bool f_1.2.2)] ∧ Box w46 b7 48 #[(.int .i64 0), (.bool false), (.slice none (length ([] : List Int)) 0), (.bool false), (.slice none (length ([] : List Int)) 0), (.string (strOf [])), (.int .i64 0)] ∧ Rd bE w46 X24 a21 c22 r13.1 ∧ a.defers = [] ∧ a.tmps.size = 61 ∧ Ok [(2, (.int .i64 n_2)), (3, (.bool signed_3)), (5, (bp b1)), (8, (bp b7)), (12, (.int .u64 s45.1)), (25, (.slice a21 (length r13.1) c22)), (26, (.int .i64 ((length r13.1 : Nat) : Int))), (27, (.int .i64 s45.2))] a.tmps) h1 ?_ ?_
   ·intro a hd hs hok
    have hB47 := grown_step hB16 hg19 rowpp
    have ap48 : ¬ (· = b1) pb0 := fun hx => nl ((lowb hbe5) _ hx) ((ltb hp0) _ rfl)
    have hk49 := (hb4.grown hg9 nb).grown hg19 (rowne ap48)
    have hk50 := hp0.grown hg3 nb
    have ap51 : ¬ (· = b7) pb0 := fun hx => nl ((lowb hbe11) _ hx) ((ltb hk50) _ rfl)
    have hk52 := hb10.grown hg19 (rowne ap51)
    exact ⟨hB47, nrf, hb26, hk49, hk52, ho23, hd, hs, okp [2, 3, 5, 8, 12, 25, 26, 27] hok⟩
   ·rintro s45 r2 h2 hR2 a w46 ⟨hB53, hz54, hb55, hb56, hb57, hk58, hd, hs, hok⟩
    refine gv_in ?_ hd hs hok
    clear hd hs hok
    clear hc29 hb26 ho23 hg19 hk17 hB16 hg15 hr14 hz12 hz6
    refine gv_seq <| gv_region <| pN 1 [28] [(28, (.bool (decide (s45.2 < ((length r13.1 : Nat) : Int)))))] ?_
    refine gv_nil <| gv_seq <| gv_cond (b := (decide (s45.2 < ((length r13.1 : Nat) : Int)))) (by kernel_rfl) (fun hc59 => ?_) (fun hc59 => ?_)
    ·replace h2 := ite_t hc59 h2
     refine gv_skip <| gv_seq <| gv_block <| gv_seq <| gv_region <| pN 1 [29] [(29, (.int .i64 s45.2))] ?_
     refine bindE h2 ?_; clear h2; intro x60 hx61 h2
     refine gv_idxaddr (t := 24) (e := 5) (a := a21) (len := length r13.1) (cap := c22) (kk := .i64) (i := s45.2) (sz := 1) [] (fun e => by cases e) rfl rfl rfl (by kernel_rfl) (by kernel_rfl) Tryd.underlying24 (by kernel_rfl) (hk58.has hx61) (idx_spec hx61).1 (idx_spec hx61).2.1 rfl ?_
     refine gv_load (t := 5) (A := (elemAddr a21 ((s45.2 : Int).toNat * 1))) (.int .u8 ((x60).toNat : Int)) [] (fun e => by cases e) rfl rfl rfl (by kernel_rfl) (by kernel_rfl) (by kernel_rfl) (inw0 (hk58.cell hx61)) rfl ?_
     refine pN 2 [13, 14] [(13, (.int .i64 s45.2)), (14, (.int .u8 ((x60).toNat : Int)))] ?_
     refine gv_nil <| gv_seq <| gv_region <| pN 2 [15, 32] [(15, (.int .i64 s45.2))] ?_
     refine gv_nil <| gv_seq <| gv_seq <| gv_region <| pN 1 [33] [(33, (.pointer (some ⟨b1, 2, none⟩)))] ?_
     refine gv_load (t := 4) (A := ⟨b1, 2, none⟩) (.bool f_1.2.2) [] (fun e => by cases e) rfl rfl rfl (by kernel_rfl) (by kernel_rfl) (by kernel_rfl) (inw0 (hb56.cell 2 rfl)) rfl ?_
     refine gv_nil <| bindE h2 ?_; clear h2; intro j62 h3 h2
     refine gv_cut_code (J := fun a w63 => w0.grownBy w63 (some pb0) ∧ w46.heap.size ≤ w63.heap.size ∧ Box w63 pb0 72 #[(.slice pa0_0 (length r_0.1) pc0_0), (.int .i64 r13.2.2.2)] ∧ Box w63 b1 31 #[(.int .u8 f_1.1), (.int .i64 f_1.2.1), (.bool f_1.2.2)] ∧ Box w63 b7 48 #[(.int .i64 0), (.bool false), (.slice none (length ([] : List Int)) 0), (.bool false), (.slice none (length ([] : List Int)) 0), (.string (strOf [])), (.int .i64 0)] ∧ Rd bE w63 X24 a21 c22 r13.1 ∧ a.defers = [] ∧ a.tmps.size = 61 ∧ Ok [(2, (.int .i64 n_2)), (3, (.bool signed_3)), (5, (bp b1)), (8, (bp b7)), (12, (.int .u64 s45.1)), (14, (.int .u8 ((x60).toNat : Int))), (15, (.int .i64 j62)), (25, (.slice a21 (length r13.1) c22)), (26, (.int .i64 ((length r13.1 : Nat) : Int))), (27, (.int .i64 s45.2))] a.tmps) ?_ ?_
     ·skip
      refine gv_cond (b := f_1.2.2) (by kernel_rfl) (fun hc64 => ?_) (fun hc64 => ?_)
      ·replace h3 := ite_t hc64 h3
       refine gv_region <| pN 5 [15, 35, 36, 37, 38] [(15, (.int .i64 (IntKind.i64.wrap ((IntKind.i64.wrap (n_2 - 1)) - s45.2))))] ?_
       refine bindE h3 ?_; clear h3; intro n65 hn66 h3
       refine gv_name (s := 15) (v := (.int .i64 (IntKind.i64.wrap ((IntKind.i64.wrap (n_2 - 1)) - s45.2)))) (v' := (.int .i64 n65)) (by kernel_rfl) (congrArg (Value.int .i64) (sj hn66)) ?_
       refine gv_nil ?_
       have e := sj h3; subst e
       refine gv_goal fun a hd hs hok => ?_
       exact ⟨hB53, nrf, hb55, hb56, hb57, hk58, hd, hs, okp [2, 3, 5, 8, 12, 14, 15, 25, 26, 27] hok⟩
      ·replace h3 := ite_f hc64 h3
       refine gv_skip ?_
       have e := sj h3; subst e
       refine gv_goal fun a hd hs hok => ?_
       exact ⟨hB53, nrf, hb55, hb56, hb57, hk58, hd, hs, okp [2, 3, 5, 8, 12, 14, 15, 25, 26, 27] hok⟩
     ·rintro a w63 ⟨hB67, hz68, hb69, hb70, hb71, hk72, hd, hs, hok⟩
      refine gv_in ?_ hd hs hok
      clear hd hs hok
      have hz73 := (nt hz54 hz68)
      clear hx61 hc59 hk58 hb57 hb56 hb55 hB53
      refine gv_region <| pN 5 [39, 40, 41, 42, 43] [(39, (.int .u64 s45.1)), (41, (.int .u64 (IntKind.u64.wrap (((x60).toNat : Int))))), (43, (.int .i64 (IntKind.i64.wrap (8 * j62))))] ?_
      refine bindE h2 ?_; clear h2; intro _ hx74 h2
      refine gv_shift .shl (t := 76) (kk := .u64) (ky := .i64) (x := (IntKind.u64.wrap (((x60).toNat : Int)))) (y := (IntKind.i64.wrap (8 * j62))) (shlI .u64 (IntKind.u64.wrap (((x60).toNat : Int))) (IntKind.i64.wrap (8 * j62))) [] (fun e => by cases e) rfl rfl rfl (by kernel_rfl) (by kernel_rfl) (nn_spec hx74) (.inl ⟨rfl, rfl⟩) rfl ?_
      refine pN 2 [12, 45] [(12, (.int .u64 (bwOr .u64 s45.1 (shlI .u64 (IntKind.u64.wrap (((x60).toNat : Int))) (IntKind.i64.wrap (8 * j62))))))] ?_
      refine bindE h2 ?_; clear h2; intro n75 hn76 h2
      refine gv_name (s := 12) (v := (.int .u64 (bwOr .u64 s45.1 (shlI .u64 (IntKind.u64.wrap (((x60).toNat : Int))) (IntKind.i64.wrap (8 * j62)))))) (v' := (.int .u64 n75)) (by kernel_rfl) (congrArg (Value.int .u64) (sj hn76)) ?_
      refine gv_nil <| gv_blk <| gv_region <| pN 2 [27, 46] [(27, (.int .i64 (IntKind.i64.wrap (s45.2 + 1))))] ?_
      refine gv_nil ?_
      have e := sj h2; subst e
      refine gv_goal fun a hd hs hok => ?_
      have hz77 := hz73
      exact ⟨(n75, (IntKind.i64.wrap (s45.2 + 1))), rfl, hB67, hz77, hb69, hb70, hb71, hk72, hd, hs, okp [2, 3, 5, 8, 12, 25, 26, 27] hok⟩
    ·replace h2 := ite_f hc59 h2
     refine gv_cexit <| gv_exit rfl ?_
     have e := sj h2; subst e
     replace h1 := congrArg some (hR2 _ rfl)
     have e := sj h1; subst e
     refine gv_goal fun a hd hs hok => ?_
     have hz78 := hz54
     exact ⟨hB53, hz78, hb55, hb57, hd, hs, okp [2, 3, 8, 12] hok⟩
  ·rintro a w44 ⟨hB79, hz80, hb81, hb82, hd, hs, hok⟩
   refine gv_in ?_ hd hs hok
   clear hd hs hok
   clear hz80 hc29 hx28 hx27 hb26 hx25 ho23 hg19 hk17 hB16 hg15 hr14 hz12 hb10 hg9 hz6 hbe5 hb4
   refine gv_seq <| gv_seq <| gv_region <| pN 1 [47] [(47, (.bool signed_3))] ?_
   refine gv_nil <| gv_cond (b := signed_3) (by kernel_rfl) (fun hc83 => ?_) (fun hc83 => ?_)
   ·replace h0 := ite_t hc83 h0
    refine gv_seq <| gv_region <| pN 4 [48, 49, 50, 51] [(48, (.int .u64 j43)), (51, (.int .i64 (IntKind.i64.wrap (64 - (IntKind.i64.wrap (8 * n_2))))))] ?_
    refine bindE h0 ?_; clear h0; intro _ hx84 h0
    refine gv_shift .shl (t := 76) (kk := .u64) (ky := .i64) (x := j43) (y := (IntKind.i64.wrap (64 - (IntKind.i64.wrap (8 * n_2))))) (shlI .u64 j43 (IntKind.i64.wrap (64 - (IntKind.i64.wrap (8 * n_2))))) [] (fun e => by cases e) rfl rfl rfl (by kernel_rfl) (by kernel_rfl) (nn_spec hx84) (.inl ⟨rfl, rfl⟩) rfl ?_
    refine pN 4 [53, 54, 55, 56] [(53, (.int .i64 (IntKind.i64.wrap ((shlI .u64 j43 (IntKind.i64.wrap (64 - (IntKind.i64.wrap (8 * n_2))))))))), (56, (.int .i64 (IntKind.i64.wrap (64 - (IntKind.i64.wrap (8 * n_2))))))] ?_
    refine bindE h0 ?_; clear h0; intro _ hx85 h0
    refine gv_shift .shr (t := 2) (kk := .i64) (ky := .i64) (x := (IntKind.i64.wrap ((shlI .u64 j43 (IntKind.i64.wrap (64 - (IntKind.i64.wrap (8 * n_2)))))))) (y := (IntKind.i64.wrap (64 - (IntKind.i64.wrap (8 * n_2))))) (shrI .i64 (IntKind.i64.wrap ((shlI .u64 j43 (IntKind.i64.wrap (64 - (IntKind.i64.wrap (8 * n_2))))))) (IntKind.i64.wrap (64 - (IntKind.i64.wrap (8 * n_2))))) [] (fun e => by cases e) rfl rfl rfl (by kernel_rfl) (by kernel_rfl) (nn_spec hx85) (.inr ⟨rfl, rfl⟩) rfl ?_
    refine bindE h0 ?_; clear h0; intro r86 hr87 h0
    refine gv_call0 (by kernel_rfl) rfl (by kernel_rfl) enters56 (packing_whole_ok fuel (shrI .i64 (IntKind.i64.wrap ((shlI .u64 j43 (IntKind.i64.wrap (64 - (IntKind.i64.wrap (8 * n_2))))))) (IntKind.i64.wrap (64 - (IntKind.i64.wrap (8 * n_2))))) w44  r86 hr87) ?_
    rintro v90 w88 ⟨hg89, a91, c92, a95, c96, rfl, ho93, hl94, ho97, hl98, ap99⟩
    have hl100 : ∀ g, blk a91 = some g → w0.heap.size ≤ g := fun g e => Nat.le_trans hB79.size (hl94 g e)
    have hl101 : ∀ g, blk a95 = some g → w0.heap.size ≤ g := fun g e => Nat.le_trans hB79.size (hl98 g e)
    have hk106 := hb82.grown hg89 nb
    refine gv_store0 48 0 (.agg #[(.int .i64 r86.1), (.bool r86.2.1.1), (.slice a91 (length r86.2.1.2) c92), (.bool r86.2.2.1.1), (.slice a95 (length r86.2.2.1.2) c96), (.string r86.2.2.2.1), (.int .i64 r86.2.2.2.2)]) #[(.int .i64 r86.1), (.bool r86.2.1.1), (.slice a91 (length r86.2.1.2) c92), (.bool r86.2.2.1.1), (.slice a95 (length r86.2.2.1.2) c96), (.string r86.2.2.2.1), (.int .i64 r86.2.2.2.2)] hk106 (by kernel_rfl) (by kernel_rfl) (by kernel_rfl) ?_
    intro w102 hg103 hb104 hz105
    refine pN 1 [9] [(9, (.int .i64 0))] ?_
    refine gv_nil <| gv_cret ?_
    have e := sj h0; subst e
    refine gv_ret (gv_done [(.agg #[(.int .i64 r86.1), (.bool r86.2.1.1), (.slice a91 (length r86.2.1.2) c92), (.bool r86.2.2.1.1), (.slice a95 (length r86.2.2.1.2) c96), (.string r86.2.2.2.1), (.int .i64 r86.2.2.2.2)]), (.int .i64 0)] rfl ⟨⟨⟨b7, 0, none⟩, (by kernel_rfl), run_loadVar_row w102 b7 _ 48 _ _ _ hb104 Tryd.underlying48 rfl (by kernel_rfl)⟩, (by kernel_rfl), trivial⟩ ?_)
    have hB107 := grown_step hB79 hg89 nb
    have hB108 := grown_step hB0 hg3 nb
    have hlo109 : w0.heap.size ≤ b7 := lob hbe11 hB108.size
    have hB110 := grown_step hB107 hg103 (rowppr hlo109)
    have ap111 : ¬ (fun k => blk a91 = some k) b7 := fun hx => nl ((show ∀ k, blk a91 = some k → w44.heap.size ≤ k from hl94) _ hx) ((ltb hb82) _ rfl)
    have hk112 := ho93.grown hg103 (fun _ h => h.elim) (rdnn (rowne ap111))
    have ap113 : ¬ (fun k => blk a95 = some k) b7 := fun hx => nl ((show ∀ k, blk a95 = some k → w44.heap.size ≤ k from hl98) _ hx) ((ltb hb82) _ rfl)
    have hk114 := ho97.grown hg103 (fun _ h => h.elim) (rdnn (rowne ap113))
    have hk115 := hp0.grown hg3 nb
    have ap116 : ¬ (· = pb0) b7 := fun hx => nl ((lowb hbe11) _ rfl) ((ltb hk115) _ hx)
    have hk117 := (hb81.grown hg89 nb).grown hg103 (rowne ap116)
    exact ⟨hB110, a91, c92, a95, c96, rfl, hk112, hl100, hk114, hl101, ap99, hk117⟩
   ·replace h0 := ite_f hc83 h0
    refine gv_skip <| gv_seq <| gv_region <| pN 1 [59] [(59, (.int .u64 j43))] ?_
    refine bindE h0 ?_; clear h0; intro r118 hr119 h0
    refine gv_call0 (by kernel_rfl) rfl (by kernel_rfl) enters57 (packing_natural_ok fuel j43 w44  r118 hr119) ?_
    rintro v122 w120 ⟨hg121, a123, c124, a127, c128, rfl, ho125, hl126, ho129, hl130, ap131⟩
    have hl132 : ∀ g, blk a123 = some g → w0.heap.size ≤ g := fun g e => Nat.le_trans hB79.size (hl126 g e)
    have hl133 : ∀ g, blk a127 = some g → w0.heap.size ≤ g := fun g e => Nat.le_trans hB79.size (hl130 g e)
    have hk138 := hb82.grown hg121 nb
    refine gv_store0 48 0 (.agg #[(.int .i64 r118.1), (.bool r118.2.1.1), (.slice a123 (length r118.2.1.2) c124), (.bool r118.2.2.1.1), (.slice a127 (length r118.2.2.1.2) c128), (.string r118.2.2.2.1), (.int .i64 r118.2.2.2.2)]) #[(.int .i64 r118.1), (.bool r118.2.1.1), (.slice a123 (length r118.2.1.2) c124), (.bool r118.2.2.1.1), (.slice a127 (length r118.2.2.1.2) c128), (.string r118.2.2.2.1), (.int .i64 r118.2.2.2.2)] hk138 (by kernel_rfl) (by kernel_rfl) (by kernel_rfl) ?_
    intro w134 hg135 hb136 hz137
    clear hz137 hk138 hr119 hc83
    refine pN 1 [9] [(9, (.int .i64 0))] ?_
    refine gv_nil <| gv_cret ?_
    have e := sj h0; subst e
    refine gv_ret (gv_done [(.agg #[(.int .i64 r118.1), (.bool r118.2.1.1), (.slice a123 (length r118.2.1.2) c124), (.bool r118.2.2.1.1), (.slice a127 (length r118.2.2.1.2) c128), (.string r118.2.2.2.1), (.int .i64 r118.2.2.2.2)]), (.int .i64 0)] rfl ⟨⟨⟨b7, 0, none⟩, (by kernel_rfl), run_loadVar_row w134 b7 _ 48 _ _ _ hb136 Tryd.underlying48 rfl (by kernel_rfl)⟩, (by kernel_rfl), trivial⟩ ?_)
    have hB139 := grown_step hB79 hg121 nb
    have hB140 := grown_step hB0 hg3 nb
    have hlo141 : w0.heap.size ≤ b7 := lob hbe11 hB140.size
    have hB142 := grown_step hB139 hg135 (rowppr hlo141)
    have ap143 : ¬ (fun k => blk a123 = some k) b7 := fun hx => nl ((show ∀ k, blk a123 = some k → w44.heap.size ≤ k from hl126) _ hx) ((ltb hb82) _ rfl)
    have hk144 := ho125.grown hg135 (fun _ h => h.elim) (rdnn (rowne ap143))
    have ap145 : ¬ (fun k => blk a127 = some k) b7 := fun hx => nl ((show ∀ k, blk a127 = some k → w44.heap.size ≤ k from hl130) _ hx) ((ltb hb82) _ rfl)
    have hk146 := ho129.grown hg135 (fun _ h => h.elim) (rdnn (rowne ap145))
    have hk147 := hp0.grown hg3 nb
    have ap148 : ¬ (· = pb0) b7 := fun hx => nl ((lowb hbe11) _ rfl) ((ltb hk147) _ hx)
    have hk149 := (hb81.grown hg121 nb).grown hg135 (rowne ap148)
    exact ⟨hB142, a123, c124, a127, c128, rfl, hk144, hl132, hk146, hl133, ap131, hk149⟩

end Go.Proofs.YtdpmkphjcjacfaaDoor
