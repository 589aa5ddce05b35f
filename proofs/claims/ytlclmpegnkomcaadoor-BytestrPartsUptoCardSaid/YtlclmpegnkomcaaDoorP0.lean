import Derived.Test.YtlclmpegnkomcaaDoorRows
import Derived.Test.YtlclmpegnkomcaaDoorGh
import Derived.Test.YtlclmpegnkomcaaDoorD
import Derived.Test.YtlclmpegnkomcaaDoorCk
import Derived.Test.YtlclmpegnkomcaaDoorJn
import Derived.Test.YtlclmpegnkomcaaDoorBx
set_option linter.all false
set_option maxHeartbeats 4000000
set_option maxRecDepth 100000
/- Own work, printed by a program of mine: the walk of each function: a call returns what the plain function says. -/
namespace Go.Proofs.YtlclmpegnkomcaaDoor
open Go.Gv Go.Gv.D Go.RowKit
open List (length)
theorem nl {a b : Nat} (h : a ≤ b) : ¬ b < a := Nat.not_lt_of_le h
theorem sj {α : Type _} {a b : α} (h : some a = some b) : a = b := Option.some.inj h
theorem ng {a b : Nat} (h : b < a) : a ≠ b := Nat.ne_of_gt h
theorem ltl {a b c : Nat} (h : a < b) (h' : b ≤ c) : a < c := Nat.lt_of_lt_of_le h h'
theorem ltt {a b c : Nat} (h : a < b) (h' : b < c) : a < c := Nat.lt_trans h h'
section
variable {P : Program} {R : RR} {n : Nat} {k : List It} {σ σ' : List (Nat × Value)} {w : World} {all : Array Oper} {C : World → Prop}
theorem pN (c : Nat) (ds : List Nat) (news : List (Nat × Value)) {l : List (Oper × Mk)} (h : Run P R n (.ops all C (drops c l) :: k) .normal (nw news ds σ) w) (hp : (match stepsP false P n all c l σ with | some σ1 => picks ((nw news ds σ).map (·.1)) σ1 | none => none) = some (nw news ds σ) := by kernel_rfl) : Run P R n (.ops all C l :: k) .normal σ w := gv_pureN c ds news hp h
theorem okp (ss : List Nat) {t : Array Value} (h : Ok σ t) (hp : picks ss σ = some σ' := by kernel_rfl) : Ok σ' t := ok_pick ss h hp
theorem nrf {a : Nat} : a ≤ a := Nat.le_refl a
theorem kr {p : Prop} (h : p := by kernel_rfl) : p := h
end
open List (length)
theorem enters9 : Go.Gv.Enters Tryd.prog 9 := ⟨Tryd.f9, Tryd.func9, by kernel_rfl, by kernel_rfl⟩
theorem enters10 : Go.Gv.Enters Tryd.prog 10 := ⟨Tryd.f10, Tryd.func10, by kernel_rfl, by kernel_rfl⟩
theorem enters11 : Go.Gv.Enters Tryd.prog 11 := ⟨Tryd.f11, Tryd.func11, by kernel_rfl, by kernel_rfl⟩
theorem enters12 : Go.Gv.Enters Tryd.prog 12 := ⟨Tryd.f12, Tryd.func12, by kernel_rfl, by kernel_rfl⟩
theorem enters16 : Go.Gv.Enters Tryd.prog 16 := ⟨Tryd.f16, Tryd.func16, by kernel_rfl, by kernel_rfl⟩
theorem enters23 : Go.Gv.Enters Tryd.prog 23 := ⟨Tryd.f23, Tryd.func23, by kernel_rfl, by kernel_rfl⟩
theorem enters29 : Go.Gv.Enters Tryd.prog 29 := ⟨Tryd.f29, Tryd.func29, by kernel_rfl, by kernel_rfl⟩
theorem enters31 : Go.Gv.Enters Tryd.prog 31 := ⟨Tryd.f31, Tryd.func31, by kernel_rfl, by kernel_rfl⟩
theorem enters32 : Go.Gv.Enters Tryd.prog 32 := ⟨Tryd.f32, Tryd.func32, by kernel_rfl, by kernel_rfl⟩
theorem enters33 : Go.Gv.Enters Tryd.prog 33 := ⟨Tryd.f33, Tryd.func33, by kernel_rfl, by kernel_rfl⟩
theorem enters34 : Go.Gv.Enters Tryd.prog 34 := ⟨Tryd.f34, Tryd.func34, by kernel_rfl, by kernel_rfl⟩
theorem enters35 : Go.Gv.Enters Tryd.prog 35 := ⟨Tryd.f35, Tryd.func35, by kernel_rfl, by kernel_rfl⟩
theorem enters36 : Go.Gv.Enters Tryd.prog 36 := ⟨Tryd.f36, Tryd.func36, by kernel_rfl, by kernel_rfl⟩
theorem enters37 : Go.Gv.Enters Tryd.prog 37 := ⟨Tryd.f37, Tryd.func37, by kernel_rfl, by kernel_rfl⟩
theorem enters38 : Go.Gv.Enters Tryd.prog 38 := ⟨Tryd.f38, Tryd.func38, by kernel_rfl, by kernel_rfl⟩
theorem enters39 : Go.Gv.Enters Tryd.prog 39 := ⟨Tryd.f39, Tryd.func39, by kernel_rfl, by kernel_rfl⟩
theorem enters40 : Go.Gv.Enters Tryd.prog 40 := ⟨Tryd.f40, Tryd.func40, by kernel_rfl, by kernel_rfl⟩
theorem enters41 : Go.Gv.Enters Tryd.prog 41 := ⟨Tryd.f41, Tryd.func41, by kernel_rfl, by kernel_rfl⟩
theorem enters43 : Go.Gv.Enters Tryd.prog 43 := ⟨Tryd.f43, Tryd.func43, by kernel_rfl, by kernel_rfl⟩
theorem enters45 : Go.Gv.Enters Tryd.prog 45 := ⟨Tryd.f45, Tryd.func45, by kernel_rfl, by kernel_rfl⟩
theorem enters53 : Go.Gv.Enters Tryd.prog 53 := ⟨Tryd.f53, Tryd.func53, by kernel_rfl, by kernel_rfl⟩
theorem enters54 : Go.Gv.Enters Tryd.prog 54 := ⟨Tryd.f54, Tryd.func54, by kernel_rfl, by kernel_rfl⟩
theorem enters55 : Go.Gv.Enters Tryd.prog 55 := ⟨Tryd.f55, Tryd.func55, by kernel_rfl, by kernel_rfl⟩
theorem enters56 : Go.Gv.Enters Tryd.prog 56 := ⟨Tryd.f56, Tryd.func56, by kernel_rfl, by kernel_rfl⟩
theorem enters57 : Go.Gv.Enters Tryd.prog 57 := ⟨Tryd.f57, Tryd.func57, by kernel_rfl, by kernel_rfl⟩
theorem enters60 : Go.Gv.Enters Tryd.prog 60 := ⟨Tryd.f60, Tryd.func60, by kernel_rfl, by kernel_rfl⟩
theorem enters62 : Go.Gv.Enters Tryd.prog 62 := ⟨Tryd.f62, Tryd.func62, by kernel_rfl, by kernel_rfl⟩
theorem enters63 : Go.Gv.Enters Tryd.prog 63 := ⟨Tryd.f63, Tryd.func63, by kernel_rfl, by kernel_rfl⟩
theorem enters73 : Go.Gv.Enters Tryd.prog 73 := ⟨Tryd.f73, Tryd.func73, by kernel_rfl, by kernel_rfl⟩
theorem enters77 : Go.Gv.Enters Tryd.prog 77 := ⟨Tryd.f77, Tryd.func77, by kernel_rfl, by kernel_rfl⟩
theorem enters78 : Go.Gv.Enters Tryd.prog 78 := ⟨Tryd.f78, Tryd.func78, by kernel_rfl, by kernel_rfl⟩
theorem enters80 : Go.Gv.Enters Tryd.prog 80 := ⟨Tryd.f80, Tryd.func80, by kernel_rfl, by kernel_rfl⟩
theorem enters81 : Go.Gv.Enters Tryd.prog 81 := ⟨Tryd.f81, Tryd.func81, by kernel_rfl, by kernel_rfl⟩
theorem enters87 : Go.Gv.Enters Tryd.prog 87 := ⟨Tryd.f87, Tryd.func87, by kernel_rfl, by kernel_rfl⟩
theorem native58 : Go.Gv.Native Tryd.prog 58 Extern.BytealgIndexByte.indexByte := ⟨Tryd.f58, Tryd.func58, by kernel_rfl, by kernel_rfl, by kernel_rfl, by kernel_rfl⟩
theorem info3 : InfoOk Tryd.prog 3 1 := infoOk (z := (.int .i64 0)) (bytes := 8) (by kernel_rfl) (by kernel_rfl) (by kernel_rfl) (by kernel_rfl)
theorem info5 : InfoOk Tryd.prog 5 1 := infoOk (z := (.int .u8 0)) (bytes := 1) (by kernel_rfl) (by kernel_rfl) (by kernel_rfl) (by kernel_rfl)
theorem info22 : InfoOk Tryd.prog 22 1 := infoOk (z := (.slice none 0 0)) (bytes := 24) (by kernel_rfl) (by kernel_rfl) (by kernel_rfl) (by kernel_rfl)
theorem eqs25eql (a0 : Int) (a1 : Int) (b0 : Int) (b1 : Int) (x y : Operand) (w : World) : (do eqGuard .eql 25 x y (.agg #[.int .i64 a0, .int .i64 a1]) (.agg #[.int .i64 b0, .int .i64 b1]); binOp .eql 25 (.agg #[.int .i64 a0, .int .i64 a1]) (.agg #[.int .i64 b0, .int .i64 b1]) : Sem Value).run Tryd.prog w = .ok (.bool ((a0 == b0) && (a1 == b1))) w := by
  have h1 : Tryd.prog.eqGuardType Tryd.prog.depth 25 = false := by kernel_rfl
  have h2 : Tryd.prog.stoodInHeld 25 = false := by kernel_rfl
  have h3 : Tryd.prog.underlying 25 = some (.struct (Tryd.prog.fieldsOf 25)) := by kernel_rfl
  have h4 := Tryd.underlying25
  rw [Sem.run_bind, run_eqGuard_agg w .eql 25 x y _ _ h1, Result.andThen_ok, run_eql_struct, run_equalIn_struct w 9999 25 _ _ h3 h2]
  by_cases g0 : a0 = b0 <;> by_cases g1 : a1 = b1 <;> simp [Program.fieldsOf, h4, Op.eqFields, part, isAgg, run_underlying Tryd.underlying3, run_equalIn_int _ _ _ _ _ _ _ Tryd.underlying3, g0, g1]
theorem eqs25neq (a0 : Int) (a1 : Int) (b0 : Int) (b1 : Int) (x y : Operand) (w : World) : (do eqGuard .neq 25 x y (.agg #[.int .i64 a0, .int .i64 a1]) (.agg #[.int .i64 b0, .int .i64 b1]); binOp .neq 25 (.agg #[.int .i64 a0, .int .i64 a1]) (.agg #[.int .i64 b0, .int .i64 b1]) : Sem Value).run Tryd.prog w = .ok (.bool (!((a0 == b0) && (a1 == b1)))) w := by
  have h1 : Tryd.prog.eqGuardType Tryd.prog.depth 25 = false := by kernel_rfl
  have h2 : Tryd.prog.stoodInHeld 25 = false := by kernel_rfl
  have h3 : Tryd.prog.underlying 25 = some (.struct (Tryd.prog.fieldsOf 25)) := by kernel_rfl
  have h4 := Tryd.underlying25
  rw [Sem.run_bind, run_eqGuard_agg w .neq 25 x y _ _ h1, Result.andThen_ok, run_neq_struct, run_equalIn_struct w 9999 25 _ _ h3 h2]
  by_cases g0 : a0 = b0 <;> by_cases g1 : a1 = b1 <;> simp [Program.fieldsOf, h4, Op.eqFields, part, isAgg, run_underlying Tryd.underlying3, run_equalIn_int _ _ _ _ _ _ _ Tryd.underlying3, g0, g1]

theorem bytestr_at_ok (fuel : Nat) (code_0 : Int) (index_1 : Int) (w0 : World)  (r0 : (Int × Int)) (h0 : bytestr_at fuel code_0 index_1 = some r0) :
    Calls Tryd.prog 38 ([(.int .i64 code_0), (.int .i64 index_1)] : List Value).toArray w0 (Ret fun v w' => w0.grownBy w' none ∧ v = tup [(.agg #[(.int .i64 r0.1), (.int .i64 r0.2)])]) := by
 have hB0 : Below w0.heap.size w0 w0 := Below.refl _ _
 unfold bytestr_at at h0
 refine calls_run Tryd.func38 rfl Tryd.ntmps38 kr ?_
 refine gv_sub [0, 1] (σ' := [(0, (.int .i64 code_0)), (1, (.int .i64 index_1))]) kr ?_
 refine gv_seq <| gv_region <| gv_new0 (fun b => .pointer (some ⟨b, 0, none⟩)) #[(.int .i64 0), (.int .i64 0)] 25 kr kr ?_
 intro b1 w2 hg3 hb4 hbe5 hz6
 refine gv_nil <| gv_seq <| gv_region <| pN 3 [5, 6, 7] [(7, (.agg #[(.int .i64 code_0), (.int .i64 index_1)]))] ?_
 refine gv_store0 25 0 (.agg #[(.int .i64 code_0), (.int .i64 index_1)]) #[(.int .i64 code_0), (.int .i64 index_1)] hb4 kr kr kr ?_
 intro w7 hg8 hb9 hz10
 refine gv_nil <| gv_cret ?_
 have e := sj h0; subst e
 refine gv_ret (gv_done [(.agg #[(.int .i64 code_0), (.int .i64 index_1)])] rfl ⟨⟨⟨b1, 0, none⟩, kr, run_loadVar_row w7 b1 _ 25 _ _ _ hb9 Tryd.underlying25 rfl kr⟩, trivial⟩ ?_)
 have hB11 := bg hB0 hg3 nb
 have hlo12 : w0.heap.size ≤ b1 := lob hbe5 hB0.size
 have hB13 := bg hB11 hg8 (rowlo hlo12)
 exact ⟨grown_of_below hB13, rfl⟩

theorem bytestr_check_ok (fuel : Nat) (pa0_0 : Option Addr) (pc0_0 : Nat) (l_0 : (List (List UInt8))) (w0 : World) (X0 : Nat → Prop) (hX0 : ∀ k, X0 k → k < w0.heap.size) (hpa0_0 : Rd (slE bE) w0 X0 pa0_0 pc0_0 l_0) (r0 : (Int × Int)) (h0 : bytestr_check fuel l_0 = some r0) :
    Calls Tryd.prog 37 ([(.slice pa0_0 (length l_0) pc0_0)] : List Value).toArray w0 (Ret fun v w' => w0.grownBy w' none ∧ v = tup [(.agg #[(.int .i64 r0.1), (.int .i64 r0.2)])]) := by
 have hB0 : Below w0.heap.size w0 w0 := Below.refl _ _
 unfold bytestr_check at h0
 refine calls_run Tryd.func37 rfl Tryd.ntmps37 kr ?_
 refine gv_sub [0] (σ' := [(0, (.slice pa0_0 (length l_0) pc0_0))]) kr ?_
 refine gv_seq <| gv_region <| gv_new0 (fun b => .pointer (some ⟨b, 0, none⟩)) #[(.int .i64 0), (.int .i64 0)] 25 kr kr ?_
 intro b1 w2 hg3 hb4 hbe5 hz6
 refine gv_nil <| gv_seq <| gv_seq <| gv_region <| pN 3 [5, 6, 7] [(5, (.slice pa0_0 (length l_0) pc0_0)), (6, (.int .i64 ((length l_0 : Nat) : Int))), (7, (.int .i64 0))] ?_
 refine gv_nil <| bindE h0 ?_; clear h0; intro j7 h1 h0
 refine gv_cut_code (J := fun a w9 => ∃ s8 : (Int × Int), j7 = .inl s8 ∧ Below w0.heap.size w0 w9 ∧ w2.heap.size ≤ w9.heap.size ∧ Box w9 b1 25 #[(.int .i64 s8.1), (.int .i64 s8.2)] ∧ a.defers = [] ∧ a.tmps.size = 20 ∧ Ok [(2, (bp b1))] a.tmps) ?_ ?_
 ·skip
  refine gv_block <| gv_loop (A := fun (s10 : (Int × (Int × Int))) a w11 => Below w0.heap.size w0 w11 ∧ w2.heap.size ≤ w11.heap.size ∧ Box w11 b1 25 #[(.int .i64 s10.2.1), (.int .i64 s10.2.2)] ∧ a.defers = [] ∧ a.tmps.size = 20 ∧ Ok [(2, (bp b1)), (5, (.slice pa0_0 (length l_0) pc0_0)), (6, (.int .i64 ((length l_0 : Nat) : Int))), (7, (.int .i64 s10.1))] a.tmps) h1 ?_ ?_
  ·intro a hd hs hok
   have hB12 := bg hB0 hg3 nb
   exact ⟨hB12, nrf, hb4, hd, hs, okp [2, 5, 6, 7] hok⟩
  ·rintro s10 r2 h2 hR2 a w11 ⟨hB13, hz14, hb15, hd, hs, hok⟩
   refine gv_in ?_ hd hs hok
   clear hd hs hok
   refine gv_seq <| gv_region <| pN 1 [8] [(8, (.bool (decide (s10.1 < ((length l_0 : Nat) : Int)))))] ?_
   refine gv_nil <| gv_seq <| gv_cond (b := (decide (s10.1 < ((length l_0 : Nat) : Int)))) kr (fun hc16 => ?_) (fun hc16 => ?_)
   ·replace h2 := ite_t hc16 h2
    refine gv_skip <| gv_seq <| gv_block <| gv_seq <| gv_region <| pN 1 [9] [(9, (.int .i64 s10.1))] ?_
    refine bindE h2 ?_; clear h2; intro x17 hx18 h2
    refine gv_idxaddr (t := 23) (e := 22) (a := pa0_0) (len := length l_0) (cap := pc0_0) (kk := .i64) (i := s10.1) (sz := 1) [] (fun e => by cases e) rfl rfl rfl kr kr Tryd.underlying23 kr ((hpa0_0.below hB13 hX0).has hx18) (idx_spec hx18).1 (idx_spec hx18).2.1 rfl ?_
    obtain ⟨_, ⟨a20, c21, rfl, hr22⟩, hc19⟩ := hpa0_0.cellsK hx18
    refine gv_load (t := 22) (A := (elemAddr pa0_0 ((s10.1 : Int).toNat * 1))) (.slice a20 (length x17) c21) [] (fun e => by cases e) rfl rfl rfl kr kr kr (inw0 ((hc19 w11 (fun k hk => hB13.block k (hX0 k hk))).zero rfl)) rfl ?_
    refine pN 2 [3, 4] [(3, (.int .i64 s10.1)), (4, (.slice a20 (length x17) c21))] ?_
    refine gv_nil <| gv_seq <| gv_region <| pN 3 [12, 13, 14] [(14, (.bool (decide (((length x17 : Nat) : Int) > 4000))))] ?_
    refine gv_nil <| gv_cond (b := (decide (((length x17 : Nat) : Int) > 4000))) kr (fun hc23 => ?_) (fun hc23 => ?_)
    ·replace h2 := ite_t hc23 h2
     refine gv_seq <| gv_region <| pN 2 [15, 16] [(16, (.int .i64 (IntKind.i64.wrap ((-1) - s10.1))))] ?_
     refine bindE h2 ?_; clear h2; intro r24 hr25 h2
     refine gv_call0 kr rfl kr enters38 (bytestr_at_ok fuel 3 (IntKind.i64.wrap ((-1) - s10.1)) w11  r24 hr25) ?_
     rintro v28 w26 ⟨hg27, rfl⟩
     have hk33 := hb15.grown hg27 nb
     refine gv_store0 25 0 (.agg #[(.int .i64 r24.1), (.int .i64 r24.2)]) #[(.int .i64 r24.1), (.int .i64 r24.2)] hk33 kr kr kr ?_
     intro w29 hg30 hb31 hz32
     refine gv_nil <| gv_cret ?_
     have e := sj h2; subst e
     replace h1 := congrArg some (hR2 _ rfl)
     have e := sj h1; subst e
     replace h0 := cont_inr h0
     have e := sj h0; subst e
     refine gv_ret (gv_done [(.agg #[(.int .i64 r24.1), (.int .i64 r24.2)])] rfl ⟨⟨⟨b1, 0, none⟩, kr, run_loadVar_row w29 b1 _ 25 _ _ _ hb31 Tryd.underlying25 rfl kr⟩, trivial⟩ ?_)
     have hB34 := bg hB13 hg27 nb
     have hlo35 : w0.heap.size ≤ b1 := lob hbe5 hB0.size
     have hB36 := bg hB34 hg30 (rowlo hlo35)
     exact ⟨grown_of_below hB36, rfl⟩
    ·replace h2 := ite_f hc23 h2
     refine gv_skip <| gv_blk <| gv_region <| pN 2 [7, 18] [(7, (.int .i64 (IntKind.i64.wrap (s10.1 + 1))))] ?_
     refine gv_nil ?_
     have e := sj h2; subst e
     refine gv_goal fun a hd hs hok => ?_
     have hz37 := hz14
     exact ⟨((IntKind.i64.wrap (s10.1 + 1)), (s10.2.1, s10.2.2)), rfl, hB13, hz37, hb15, hd, hs, okp [2, 5, 6, 7] hok⟩
   ·replace h2 := ite_f hc16 h2
    refine gv_cexit <| gv_exit rfl ?_
    have e := sj h2; subst e
    replace h1 := congrArg some (hR2 _ rfl)
    have e := sj h1; subst e
    refine gv_goal fun a hd hs hok => ?_
    have hz38 := hz14
    exact ⟨(s10.2.1, s10.2.2), rfl, hB13, hz38, hb15, hd, hs, okp [2] hok⟩
 ·rintro a w9 ⟨s8, e, hB39, hz40, hb41, hd, hs, hok⟩
  subst e
  refine gv_in ?_ hd hs hok
  clear hd hs hok
  replace h0 := cont_inl h0
  clear hz40 hz6 hb4 hg3
  refine gv_seq <| gv_region <| pN 1 [19] [(19, (.agg #[(.int .i64 0), (.int .i64 0)]))] ?_
  refine gv_store0 25 0 (.agg #[(.int .i64 0), (.int .i64 0)]) #[(.int .i64 0), (.int .i64 0)] hb41 kr kr kr ?_
  intro w42 hg43 hb44 hz45
  refine gv_nil <| gv_cret ?_
  have e := sj h0; subst e
  refine gv_ret (gv_done [(.agg #[(.int .i64 0), (.int .i64 0)])] rfl ⟨⟨⟨b1, 0, none⟩, kr, run_loadVar_row w42 b1 _ 25 _ _ _ hb44 Tryd.underlying25 rfl kr⟩, trivial⟩ ?_)
  have hlo46 : w0.heap.size ≤ b1 := lob hbe5 hB0.size
  have hB47 := bg hB39 hg43 (rowlo hlo46)
  exact ⟨grown_of_below hB47, rfl⟩

theorem bytes_IndexByte_ok (fuel : Nat) (pa0_0 : Option Addr) (pc0_0 : Nat) (b_0 : (List UInt8)) (c_1 : Int) (w0 : World) (X0 : Nat → Prop) (hX0 : ∀ k, X0 k → k < w0.heap.size) (hpa0_0 : Rd bE w0 X0 pa0_0 pc0_0 b_0) (r0 : Int) (h0 : bytes_IndexByte fuel b_0 c_1 = some r0) :
    Calls Tryd.prog 39 ([(.slice pa0_0 (length b_0) pc0_0), (.int .u8 c_1)] : List Value).toArray w0 (Ret fun v w' => w0.grownBy w' none ∧ v = tup [(.int .i64 r0)]) := by
 have hB0 : Below w0.heap.size w0 w0 := Below.refl _ _
 unfold bytes_IndexByte at h0
 refine calls_run Tryd.func39 rfl Tryd.ntmps39 kr ?_
 refine gv_sub [0, 1] (σ' := [(0, (.slice pa0_0 (length b_0) pc0_0)), (1, (.int .u8 c_1))]) kr ?_
 refine gv_seq <| gv_region <| pN 1 [4] [] ?_
 refine gv_nil <| gv_seq <| gv_region <| pN 2 [5, 6] [(5, (.slice pa0_0 (length b_0) pc0_0)), (6, (.int .u8 c_1))] ?_
 refine gv_nat (f := 58) (vs := [(.slice pa0_0 (length b_0) pc0_0), (.int .u8 c_1)]) (.int .i64 (nIdxB b_0 c_1)) [] (fun e => by cases e) rfl rfl rfl kr rfl kr kr native58 (inw0 (nat_idxB (hpa0_0.below hB0 hX0) _)) rfl ?_
 refine pN 1 [4] [(4, (.int .i64 (nIdxB b_0 c_1)))] ?_
 refine gv_nil <| gv_cret ?_
 have e := sj h0; subst e
 refine gv_ret (gv_done [(.int .i64 (nIdxB b_0 c_1))] rfl ⟨kr, trivial⟩ ?_)
 exact ⟨grown_of_below hB0, rfl⟩

theorem bytestr_Translate_ok (fuel : Nat) (pa0_0 : Option Addr) (pc0_0 : Nat) (b_0 : (List UInt8)) (pa1_0 : Option Addr) (pc1_0 : Nat) (from_1 : (List UInt8)) (pa2_0 : Option Addr) (pc2_0 : Nat) (to_2 : (List UInt8)) (pa3_0 : Option Addr) (pc3_0 : Nat) (drop_3 : (List UInt8)) (w0 : World) (X0 : Nat → Prop) (hX0 : ∀ k, X0 k → k < w0.heap.size) (hpa0_0 : Rd bE w0 X0 pa0_0 pc0_0 b_0) (hpa1_0 : Rd bE w0 X0 pa1_0 pc1_0 from_1) (hpa2_0 : Rd bE w0 X0 pa2_0 pc2_0 to_2) (hpa3_0 : Rd bE w0 X0 pa3_0 pc3_0 drop_3) (r0 : ((List UInt8) × (Int × Int))) (h0 : bytestr_Translate fuel b_0 from_1 to_2 drop_3 = some r0) :
    Calls Tryd.prog 9 ([(.slice pa0_0 (length b_0) pc0_0), (.slice pa1_0 (length from_1) pc1_0), (.slice pa2_0 (length to_2) pc2_0), (.slice pa3_0 (length drop_3) pc3_0)] : List Value).toArray w0 (Ret fun v w' => w0.grownBy w' none ∧ ∃ (a0_0r : Option Addr) (c0_0r : Nat), v = tup [(.slice a0_0r (length r0.1) c0_0r), (.agg #[(.int .i64 r0.2.1), (.int .i64 r0.2.2)])] ∧ Gv.Own bE 5 w' (fun _ => False) a0_0r c0_0r r0.1 ∧ (∀ g, blk a0_0r = some g → w0.heap.size ≤ g)) := by
 have hB0 : Below w0.heap.size w0 w0 := Below.refl _ _
 unfold bytestr_Translate at h0
 refine calls_run Tryd.func9 rfl Tryd.ntmps9 kr ?_
 refine gv_sub [0, 1, 2, 3] (σ' := [(0, (.slice pa0_0 (length b_0) pc0_0)), (1, (.slice pa1_0 (length from_1) pc1_0)), (2, (.slice pa2_0 (length to_2) pc2_0)), (3, (.slice pa3_0 (length drop_3) pc3_0))]) kr ?_
 refine gv_seq <| gv_region <| pN 1 [8] [] ?_
 refine gv_new0 (fun b => .pointer (some ⟨b, 0, none⟩)) #[(.int .i64 0), (.int .i64 0)] 25 kr kr ?_
 intro b1 w2 hg3 hb4 hbe5 hz6
 refine gv_nil <| gv_seq <| gv_seq <| gv_region <| pN 1 [21] [(21, (.slice pa0_0 (length b_0) pc0_0))] ?_
 refine gv_new0 (fun b => .slice (some ⟨b, 0, none⟩) 1 1) #[(.slice pa0_0 (length b_0) pc0_0)] 22 kr kr ?_
 intro b7 w8 hg9 hb10 hbe11 hz12
 obtain ⟨X18, e⟩ : ∃ X : Nat → Prop, X = (fun k => X0 k) := ⟨_, rfl⟩
 have hB19 := bg hB0 hg3 nb
 have hx16 : ∀ k, X18 k → k < w2.heap.size := fun k h => by rw [e] at h; exact (fun k (hk : X0 k) => ltl (hX0 k hk) hB19.size) k h
 have hz20 := hg9.size
 have hx15 : ∀ k, X18 k → k < w8.heap.size := fun k h => ltl (hx16 k h) hz20
 have hx17 : ∀ k, X18 k → X0 k ∨ w0.heap.size ≤ k := fun k h => by rw [e] at h; exact (fun k (hk : X0 k) => Or.inl hk) k h
 have hB21 := bg hB19 hg9 nb
 have ho13 : Gv.Own (slE bE) 22 w8 X18 (some ⟨b7, 0, none⟩) 1 ([b_0] : List (List UInt8)) := Box.ownE hb10 (by rw [e]; exact ⟨[(.slice pa0_0 (length b_0) pc0_0)], [], rfl, ⟨pa0_0, pc0_0, rfl, ((hpa0_0.below hB21 hX0).wide (fun _ h => h))⟩, rfl⟩) (show 1 ≤ maxLen by decide) (fun h => noteq hbe11 (hx16 _ h))
 have hx22 : ∀ k, X18 k → (fun k => X0 k) k := fun k h => by rw [e] at h; exact h
 clear e
 have hl14 : ∀ g, blk (some ⟨b7, 0, none⟩) = some g → w0.heap.size ≤ g := loo hbe11 hB19.size
 have ap23 : ∀ g, blk (some ⟨b7, 0, none⟩) = some g → ¬ (· = b1) g := fun g e hx => nl (lowo hbe11 g e) ((ltb hb4) _ hx)
 have hlo25 : w0.heap.size ≤ b1 := lob hbe5 hB0.size
 have ap24 : ¬ (fun k => blk (some ⟨b7, 0, none⟩) = some k ∨ X18 k) b1 := fun h => h.elim (fun h => nl (lowo hbe11 _ h) ((ltb hb4) _ rfl)) (fun h => ((fun (hx : X0 b1) => nl hlo25 (hX0 _ hx)))  (hx22 _ h))
 refine bindE h0 ?_; clear h0; intro r26 hr27 h0
 refine gv_call0 kr rfl kr enters37 (bytestr_check_ok fuel (some ⟨b7, 0, none⟩) 1 ([b_0] : List (List UInt8)) w8 (fun k => (fun k => blk (some ⟨b7, 0, none⟩) = some k ∨ X18 k) k) (fun k hk => (fun k (hk : blk (some ⟨b7, 0, none⟩) = some k ∨ X18 k) => hk.elim (fun h => ho13.lt k h) (fun h => hx15 k h)) k hk) ((ho13.rd (Y := fun k => blk (some ⟨b7, 0, none⟩) = some k ∨ X18 k) (fun _ h => .inr h) (fun g e => .inl e)).wide (fun k hk => hk)) r26 hr27) ?_
 rintro v30 w28 ⟨hg29, rfl⟩
 refine gv_new0 (fun b => .pointer (some ⟨b, 0, none⟩)) #[(.int .i64 0), (.int .i64 0)] 25 kr kr ?_
 intro b31 w32 hg33 hb34 hbe35 hz36
 refine gv_store0 25 0 (.agg #[(.int .i64 r26.1), (.int .i64 r26.2)]) #[(.int .i64 r26.1), (.int .i64 r26.2)] hb34 kr kr kr ?_
 intro w37 hg38 hb39 hz40
 refine gv_nil <| gv_seq <| gv_region <| pN 1 [24] [(24, (bp b31))] ?_
 refine gv_load (t := 3) (A := ⟨b31, 0, none⟩) (.int .i64 r26.1) [] (fun e => by cases e) rfl rfl rfl kr kr kr (inw0 (hb39.cell 0 rfl)) rfl ?_
 refine pN 1 [26] [(26, (.bool (r26.1 != 0)))] ?_
 refine gv_nil <| gv_cond (b := (r26.1 != 0)) kr (fun hc41 => ?_) (fun hc41 => ?_)
 ·replace h0 := ite_t hc41 h0
  refine gv_seq <| gv_drawA kr ?_
  intro w42 hg43
  refine gv_pre [1] (bA 3 [1]) 2 kr kr ?_
  refine pN 1 [8] [(8, (.slice none (length ([] : List UInt8)) 0))] ?_
  refine gv_nil <| gv_goA ?_
  refine gv_stage (Cls w42 []) [0] [(0, some true)] (bA 3 [0, 1]) 1 kr kr (Cls.refl _ _) ?_
  have hC44 := Cls.refl w42 []
  have hk45 := hb39.grown hg43 nb
  refine gv_loadBox (t := 25) (b := b31) (t' := 25) (fr := (0, 0)) #[(.int .i64 r26.1), (.int .i64 r26.2)] [] (fun e => by cases e) rfl rfl rfl kr kr kr kr (inw1 fun w' hC' => (hC'.box hk45 nm_nil)) rfl ?_
  refine gv_nil <| gv_goA ?_
  refine gv_stage (fun _ => True) [2] [(2, some false)] (bA 3 [0, 1, 2]) 0 kr kr trivial ?_
  have hg50 := (grown_trans (grown_trans hg9 hg29) hg33)
  have hg51 := (grown_trans hg9 hg29)
  have hk52 := hb4.grown hg51 nb
  have lt53 := ltl ((ltb hk52) _ rfl) ((lowb hbe35) _ rfl)
  have hk54 := ((hb4.grown hg50 nb).grown hg38 (rowne (ng lt53))).grown hg43 nb
  refine gv_store (t := 25) (b := b1) (off := 0) (v := (.agg #[(.int .i64 r26.1), (.int .i64 r26.2)])) (t' := 25) (cs := #[(.int .i64 0), (.int .i64 0)]) #[(.int .i64 r26.1), (.int .i64 r26.2)] (by decide) rfl rfl kr kr kr (by intro u hu; simp [Value.cells] at hu; rcases hu with rfl | rfl <;> rfl) (show 0 + 2 ≤ 2 by decide) (by rfl) hk54 ?_
  intro w46 hg47 hb48 hz49
  refine ⟨(fun _ => trivial), ?_⟩
  refine gv_nil <| gv_goA ?_
  refine gv_stageE kr ?_
  refine gv_cret ?_
  have e := sj h0; subst e
  refine gv_ret (gv_done [(.slice none (length ([] : List UInt8)) 0), (.agg #[(.int .i64 r26.1), (.int .i64 r26.2)])] rfl ⟨kr, ⟨⟨b1, 0, none⟩, kr, run_loadVar_row w46 b1 _ 25 _ _ _ hb48 Tryd.underlying25 rfl kr⟩, trivial⟩ ?_)
  have hg55 := (grown_trans hg29 hg33)
  have hB56 := bg hB21 hg55 nb
  have hB57 := bg hB21 hg29 nb
  have hlo58 : w0.heap.size ≤ b31 := lob hbe35 hB57.size
  have hB59 := bg hB56 hg38 (rowlo hlo58)
  have hB60 := bg hB59 hg43 nb
  have hB61 := bg hB60 hg47 (rowlo hlo25)
  exact ⟨grown_of_below hB61, none, 0, rfl, (Gv.Own.nil bE 5 w46 (fun _ => False)), (fun _ h => by cases h)⟩
 ·replace h0 := ite_f hc41 h0
  refine gv_skip <| gv_seq <| gv_seq <| gv_region <| pN 5 [28, 29, 30, 31, 32] [(32, (.bool (((length from_1 : Nat) : Int) != ((length to_2 : Nat) : Int))))] ?_
  refine gv_nil <| gv_cond (b := (((length from_1 : Nat) : Int) != ((length to_2 : Nat) : Int))) kr (fun hc62 => ?_) (fun hc62 => ?_)
  ·replace h0 := ite_t hc62 h0
   refine gv_seq <| gv_region <| bindE h0 ?_; clear h0; intro r63 hr64 h0
   refine gv_call0 kr rfl kr enters38 (bytestr_at_ok fuel 9 (-3) w37  r63 hr64) ?_
   rintro v67 w65 ⟨hg66, rfl⟩
   clear hr64 hc62 hc41 hz40 hb39 hz36 hb34 hr27 ap24 ap23 hl14 hx22 ho13 hx17 hx15 hz20 hx16 hB19 hz12 hbe11 hb10 hz6 hbe5 hg3
   refine pN 1 [8] [(8, (.slice none (length ([] : List UInt8)) 0))] ?_
   have hg72 := (grown_trans (grown_trans hg9 hg29) hg33)
   have hg73 := (grown_trans hg9 hg29)
   have hk74 := hb4.grown hg73 nb
   have lt75 := ltl ((ltb hk74) _ rfl) ((lowb hbe35) _ rfl)
   have hk76 := ((hb4.grown hg72 nb).grown hg38 (rowne (ng lt75))).grown hg66 nb
   refine gv_store0 25 0 (.agg #[(.int .i64 r63.1), (.int .i64 r63.2)]) #[(.int .i64 r63.1), (.int .i64 r63.2)] hk76 kr kr kr ?_
   intro w68 hg69 hb70 hz71
   refine gv_nil <| gv_cret ?_
   have e := sj h0; subst e
   refine gv_ret (gv_done [(.slice none (length ([] : List UInt8)) 0), (.agg #[(.int .i64 r63.1), (.int .i64 r63.2)])] rfl ⟨kr, ⟨⟨b1, 0, none⟩, kr, run_loadVar_row w68 b1 _ 25 _ _ _ hb70 Tryd.underlying25 rfl kr⟩, trivial⟩ ?_)
   have hg77 := (grown_trans hg29 hg33)
   have hB78 := bg hB21 hg77 nb
   have hB79 := bg hB21 hg29 nb
   have hlo80 : w0.heap.size ≤ b31 := lob hbe35 hB79.size
   have hB81 := bg hB78 hg38 (rowlo hlo80)
   have hB82 := bg hB81 hg66 nb
   have hB83 := bg hB82 hg69 (rowlo hlo25)
   exact ⟨grown_of_below hB83, none, 0, rfl, (Gv.Own.nil bE 5 w68 (fun _ => False)), (fun _ h => by cases h)⟩
  ·replace h0 := ite_f hc62 h0
   refine gv_skip <| gv_seq <| gv_region <| gv_makeMap (t := 68) (fun n : Int => Value.int .u8 n) (fun n : Int => Value.int .u8 n) kr kr ?_
   intro b84 w85 hg86 hb87 hbe88 hz89
   refine pN 1 [11] [(11, (.map (some b84)))] ?_
   refine gv_nil <| gv_seq <| gv_seq <| gv_region <| pN 3 [35, 36, 37] [(35, (.slice pa1_0 (length from_1) pc1_0)), (36, (.int .i64 ((length from_1 : Nat) : Int))), (37, (.int .i64 0))] ?_
   refine gv_sub [0, 2, 3, 9, 11, 35, 36, 37] (σ' := [(0, (.slice pa0_0 (length b_0) pc0_0)), (2, (.slice pa2_0 (length to_2) pc2_0)), (3, (.slice pa3_0 (length drop_3) pc3_0)), (9, (bp b1)), (11, (.map (some b84))), (35, (.slice pa1_0 (length from_1) pc1_0)), (36, (.int .i64 ((length from_1 : Nat) : Int))), (37, (.int .i64 0))]) kr ?_
   refine gv_nil <| bindE h0 ?_; clear h0; intro j90 h1 h0
   refine gv_cut_code (J := fun a w92 => ∃ s91 : ((Int × Int) × (List (Int × Int))), j90 = .inl s91 ∧ Below w0.heap.size w0 w92 ∧ w85.heap.size ≤ w92.heap.size ∧ Box w92 b1 25 #[(.int .i64 s91.1.1), (.int .i64 s91.1.2)] ∧ MapO (fun n : Int => Value.int .u8 n) (fun n : Int => Value.int .u8 n) w92 b84 s91.2 ∧ a.defers = [] ∧ a.tmps.size = 83 ∧ Ok [(0, (.slice pa0_0 (length b_0) pc0_0)), (3, (.slice pa3_0 (length drop_3) pc3_0)), (9, (bp b1)), (11, (.map (some b84)))] a.tmps) ?_ ?_
   ·skip
    refine gv_block <| gv_loop (A := fun (s93 : (Int × (Int × Int) × (List (Int × Int)))) a w94 => Below w0.heap.size w0 w94 ∧ w85.heap.size ≤ w94.heap.size ∧ Box w94 b1 25 #[(.int .i64 s93.2.1.1), (.int .i64 s93.2.1.2)] ∧ MapO (fun n : Int => Value.int .u8 n) (fun n : Int => Value.int .u8 n) w94 b84 s93.2.2 ∧ a.defers = [] ∧ a.tmps.size = 83 ∧ Ok [(0, (.slice pa0_0 (length b_0) pc0_0)), (2, (.slice pa2_0 (length to_2) pc2_0)), (3, (.slice pa3_0 (length drop_3) pc3_0)), (9, (bp b1)), (11, (.map (some b84))), (35, (.slice pa1_0 (length from_1) pc1_0)), (36, (.int .i64 ((length from_1 : Nat) : Int))), (37, (.int .i64 s93.1))] a.tmps) h1 ?_ ?_
    ·intro a hd hs hok
     have hg95 := (grown_trans hg29 hg33)
     have hB96 := bg hB21 hg95 nb
     have hB97 := bg hB21 hg29 nb
     have hlo98 : w0.heap.size ≤ b31 := lob hbe35 hB97.size
     have hB99 := bg hB96 hg38 (rowlo hlo98)
     have hB100 := bg hB99 hg86 nb
     have hg101 := (grown_trans hg9 hg95)
     have hg102 := (grown_trans hg9 hg29)
     have hk103 := hb4.grown hg102 nb
     have lt104 := ltl ((ltb hk103) _ rfl) ((lowb hbe35) _ rfl)
     have hk105 := ((hb4.grown hg101 nb).grown hg38 (rowne (ng lt104))).grown hg86 nb
     exact ⟨hB100, nrf, hk105, hb87, hd, hs, okp [0, 2, 3, 9, 11, 35, 36, 37] hok⟩
    ·rintro s93 r2 h2 hR2 a w94 ⟨hB106, hz107, hb108, hb109, hd, hs, hok⟩
     refine gv_in ?_ hd hs hok
     clear hd hs hok
     clear hz89 hb87 hg86 hc62 hc41 hz40 hz36 hb34 hr27 ap24 ap23 hl14 hx22 ho13 hx17 hx15 hz20 hx16 hB19 hz12 hbe11 hb10 hz6 hbe5 hg3
     refine gv_seq <| gv_region <| pN 1 [38] [(38, (.bool (decide (s93.1 < ((length from_1 : Nat) : Int)))))] ?_
     refine gv_nil <| gv_seq <| gv_cond (b := (decide (s93.1 < ((length from_1 : Nat) : Int)))) kr (fun hc110 => ?_) (fun hc110 => ?_)
     ·replace h2 := ite_t hc110 h2
      refine gv_skip <| gv_seq <| gv_block <| gv_seq <| gv_region <| pN 1 [39] [(39, (.int .i64 s93.1))] ?_
      refine bindE h2 ?_; clear h2; intro x111 hx112 h2
      refine gv_idxaddr (t := 22) (e := 5) (a := pa1_0) (len := length from_1) (cap := pc1_0) (kk := .i64) (i := s93.1) (sz := 1) [] (fun e => by cases e) rfl rfl rfl kr kr Tryd.underlying22 kr ((hpa1_0.below hB106 hX0).has hx112) (idx_spec hx112).1 (idx_spec hx112).2.1 rfl ?_
      refine gv_load (t := 5) (A := (elemAddr pa1_0 ((s93.1 : Int).toNat * 1))) (.int .u8 ((x111).toNat : Int)) [] (fun e => by cases e) rfl rfl rfl kr kr kr (inw0 ((hpa1_0.below hB106 hX0).cell hx112)) rfl ?_
      refine pN 2 [12, 13] [(12, (.int .i64 s93.1)), (13, (.int .u8 ((x111).toNat : Int)))] ?_
      refine gv_nil <| gv_seq <| gv_seq <| gv_region <| pN 2 [43, 44] [(43, (.map (some b84))), (44, (.int .u8 ((x111).toNat : Int)))] ?_
      refine gv_lookup (t := 68) (kt := 5) (et := 5) (fun n : Int => Value.int .u8 n) (fun n : Int => Value.int .u8 n) (b := b84) (l := s93.2.2) (key := ((x111).toNat : Int)) (z := 0) true [] (fun e => by cases e) rfl rfl rfl kr kr Tryd.underlying68 (keyInt Tryd.underlying5) (fun w' => Tryd.zeroValue5 w') (inw0 hb109) rfl rfl ?_
      refine pN 5 [14, 15, 42, 46, 47] [(15, (.bool (mhas s93.2.2 ((x111).toNat : Int))))] ?_
      refine gv_nil <| gv_seq <| gv_region <| pN 1 [48] [(48, (.bool (mhas s93.2.2 ((x111).toNat : Int))))] ?_
      refine gv_nil <| gv_cond (b := (mhas s93.2.2 ((x111).toNat : Int))) kr (fun hc113 => ?_) (fun hc113 => ?_)
      ·replace h2 := ite_t hc113 h2
       refine gv_seq <| gv_region <| pN 1 [49] [(49, (.int .i64 s93.1))] ?_
       refine bindE h2 ?_; clear h2; intro r114 hr115 h2
       refine gv_call0 kr rfl kr enters38 (bytestr_at_ok fuel 8 s93.1 w94  r114 hr115) ?_
       rintro v118 w116 ⟨hg117, rfl⟩
       refine pN 1 [8] [(8, (.slice none (length ([] : List UInt8)) 0))] ?_
       have hk123 := hb108.grown hg117 nb
       refine gv_store0 25 0 (.agg #[(.int .i64 r114.1), (.int .i64 r114.2)]) #[(.int .i64 r114.1), (.int .i64 r114.2)] hk123 kr kr kr ?_
       intro w119 hg120 hb121 hz122
       refine gv_nil <| gv_cret ?_
       have e := sj h2; subst e
       replace h1 := congrArg some (hR2 _ rfl)
       have e := sj h1; subst e
       replace h0 := cont_inr h0
       have e := sj h0; subst e
       refine gv_ret (gv_done [(.slice none (length ([] : List UInt8)) 0), (.agg #[(.int .i64 r114.1), (.int .i64 r114.2)])] rfl ⟨kr, ⟨⟨b1, 0, none⟩, kr, run_loadVar_row w119 b1 _ 25 _ _ _ hb121 Tryd.underlying25 rfl kr⟩, trivial⟩ ?_)
       have hB124 := bg hB106 hg117 nb
       have hB125 := bg hB124 hg120 (rowlo hlo25)
       exact ⟨grown_of_below hB125, none, 0, rfl, (Gv.Own.nil bE 5 w119 (fun _ => False)), (fun _ h => by cases h)⟩
      ·replace h2 := ite_f hc113 h2
       refine gv_skip <| gv_region <| pN 4 [51, 52, 53, 54] [(51, (.map (some b84))), (52, (.int .u8 ((x111).toNat : Int))), (53, (.slice pa2_0 (length to_2) pc2_0)), (54, (.int .i64 s93.1))] ?_
       refine bindE h2 ?_; clear h2; intro x126 hx127 h2
       refine gv_idxaddr (t := 22) (e := 5) (a := pa2_0) (len := length to_2) (cap := pc2_0) (kk := .i64) (i := s93.1) (sz := 1) [] (fun e => by cases e) rfl rfl rfl kr kr Tryd.underlying22 kr ((hpa2_0.below hB106 hX0).has hx127) (idx_spec hx127).1 (idx_spec hx127).2.1 rfl ?_
       refine gv_load (t := 5) (A := (elemAddr pa2_0 ((s93.1 : Int).toNat * 1))) (.int .u8 ((x126).toNat : Int)) [] (fun e => by cases e) rfl rfl rfl kr kr kr (inw0 ((hpa2_0.below hB106 hX0).cell hx127)) rfl ?_
       refine gv_mapset (t := 68) (kt := 5) (et := 5) (fun n : Int => Value.int .u8 n) (fun n : Int => Value.int .u8 n) (b := b84) (l := s93.2.2) ((x111).toNat : Int) ((x126).toNat : Int) kr kr Tryd.underlying68 (keyInt Tryd.underlying5) hb109 ?_
       intro w128 hg129 hb130 hz131
       refine gv_nil <| gv_blk <| gv_region <| pN 2 [37, 57] [(37, (.int .i64 (IntKind.i64.wrap (s93.1 + 1))))] ?_
       refine gv_sub [0, 2, 3, 9, 11, 35, 36, 37] (σ' := [(0, (.slice pa0_0 (length b_0) pc0_0)), (2, (.slice pa2_0 (length to_2) pc2_0)), (3, (.slice pa3_0 (length drop_3) pc3_0)), (9, (bp b1)), (11, (.map (some b84))), (35, (.slice pa1_0 (length from_1) pc1_0)), (36, (.int .i64 ((length from_1 : Nat) : Int))), (37, (.int .i64 (IntKind.i64.wrap (s93.1 + 1))))]) kr ?_
       refine gv_nil ?_
       have e := sj h2; subst e
       refine gv_goal fun a hd hs hok => ?_
       have hg132 := (grown_trans hg29 hg33)
       have hB133 := bg hB21 hg132 nb
       have hB134 := bg hB21 hg29 nb
       have hlo135 : w0.heap.size ≤ b31 := lob hbe35 hB134.size
       have hB136 := bg hB133 hg38 (rowlo hlo135)
       have hlo137 : w0.heap.size ≤ b84 := lob hbe88 hB136.size
       have hB138 := bg hB106 hg129 (rowlo hlo137)
       have hz139 := (nt hz107 hg129.size)
       have hg140 := (grown_trans hg9 hg29)
       have hk141 := hb4.grown hg140 nb
       have lt142 := ltl ((ltb hk141) _ rfl) ((lowb hbe35) _ rfl)
       have lt143 := ltl ((ltb hb39) _ rfl) ((lowb hbe88) _ rfl)
       have lt144 := ltt lt142 lt143
       have hk145 := hb108.grown hg129 (rowne (ng lt144))
       exact ⟨((IntKind.i64.wrap (s93.1 + 1)), (s93.2.1.1, s93.2.1.2), (mput s93.2.2 ((x111).toNat : Int) ((x126).toNat : Int))), rfl, hB138, hz139, hk145, hb130, hd, hs, okp [0, 2, 3, 9, 11, 35, 36, 37] hok⟩
     ·replace h2 := ite_f hc110 h2
      refine gv_cexit <| gv_exit rfl ?_
      have e := sj h2; subst e
      replace h1 := congrArg some (hR2 _ rfl)
      have e := sj h1; subst e
      refine gv_goal fun a hd hs hok => ?_
      have hz146 := hz107
      exact ⟨((s93.2.1.1, s93.2.1.2), s93.2.2), rfl, hB106, hz146, hb108, hb109, hd, hs, okp [0, 3, 9, 11] hok⟩
   ·rintro a w92 ⟨s91, e, hB147, hz148, hb149, hb150, hd, hs, hok⟩
    subst e
    refine gv_in ?_ hd hs hok
    clear hd hs hok
    replace h0 := cont_inl h0
    clear hz148 hz89 hb87 hg86 hc62 hc41 hz40 hz36 hb34 hr27 ap24 ap23 hl14 hx22 ho13 hx17 hx15 hz20 hx16 hB19 hz12 hbe11 hb10 hz6 hbe5 hg3
    refine gv_seq <| gv_region <| pN 1 [16] [(16, (.slice none (length ([] : List UInt8)) 0))] ?_
    refine gv_nil <| gv_seq <| gv_seq <| gv_region <| pN 3 [58, 59, 60] [(58, (.slice pa0_0 (length b_0) pc0_0)), (59, (.int .i64 ((length b_0 : Nat) : Int))), (60, (.int .i64 0))] ?_
    refine gv_nil <| bindE h0 ?_; clear h0; intro j151 h1 h0
    refine gv_cut_code (J := fun a w152 => ∃ (a16_0j : Option Addr) (c16_0j : Nat), Below w0.heap.size w0 w152 ∧ w92.heap.size ≤ w152.heap.size ∧ Gv.Own bE 5 w152 (fun _ => False) a16_0j c16_0j j151 ∧ (∀ g, blk a16_0j = some g → w0.heap.size ≤ g) ∧ (∀ g, blk a16_0j = some g → ¬ (· = b1) g) ∧ ¬ (fun k => blk a16_0j = some k) b1 ∧ Box w152 b1 25 #[(.int .i64 s91.1.1), (.int .i64 s91.1.2)] ∧ a.defers = [] ∧ a.tmps.size = 83 ∧ Ok [(9, (bp b1)), (16, (.slice a16_0j (length j151) c16_0j))] a.tmps) ?_ ?_
    ·skip
     refine gv_block <| gv_loop (A := fun (s153 : ((List UInt8) × Int)) a w154 => ∃ (a16_0j : Option Addr) (c16_0j : Nat), Below w0.heap.size w0 w154 ∧ w92.heap.size ≤ w154.heap.size ∧ Gv.Own bE 5 w154 (fun _ => False) a16_0j c16_0j s153.1 ∧ (∀ g, blk a16_0j = some g → w0.heap.size ≤ g) ∧ (∀ g, blk a16_0j = some g → ¬ (· = b1) g) ∧ (∀ g, blk a16_0j = some g → ¬ (· = b84) g) ∧ ¬ (fun k => blk a16_0j = some k) b1 ∧ ¬ (fun k => blk a16_0j = some k) b84 ∧ Box w154 b1 25 #[(.int .i64 s91.1.1), (.int .i64 s91.1.2)] ∧ MapO (fun n : Int => Value.int .u8 n) (fun n : Int => Value.int .u8 n) w154 b84 s91.2 ∧ a.defers = [] ∧ a.tmps.size = 83 ∧ Ok [(3, (.slice pa3_0 (length drop_3) pc3_0)), (9, (bp b1)), (11, (.map (some b84))), (16, (.slice a16_0j (length s153.1) c16_0j)), (58, (.slice pa0_0 (length b_0) pc0_0)), (59, (.int .i64 ((length b_0 : Nat) : Int))), (60, (.int .i64 s153.2))] a.tmps) h1 ?_ ?_
     ·intro a hd hs hok
      exact ⟨none, 0, hB147, nrf, (Gv.Own.nil bE 5 w92 (fun _ => False)), (fun _ h => by cases h), (fun _ h => by cases h), (fun _ h => by cases h), (fun h => by cases h), (fun h => by cases h), hb149, hb150, hd, hs, okp [3, 9, 11, 16, 58, 59, 60] hok⟩
     ·rintro s153 r2 h2 hR2 a w154 ⟨a157, c158, hB155, hz156, ho159, hl160, ap161, ap162, ap163, ap164, hb165, hb166, hd, hs, hok⟩
      refine gv_in ?_ hd hs hok
      clear hd hs hok
      refine gv_seq <| gv_region <| pN 1 [61] [(61, (.bool (decide (s153.2 < ((length b_0 : Nat) : Int)))))] ?_
      refine gv_nil <| gv_seq <| gv_cond (b := (decide (s153.2 < ((length b_0 : Nat) : Int)))) kr (fun hc167 => ?_) (fun hc167 => ?_)
      ·replace h2 := ite_t hc167 h2
       refine gv_skip <| gv_seq <| bindE h2 ?_; clear h2; intro j168 h3 h2
       refine gv_cut_code (J := fun a w169 => ∃ (a16_0j : Option Addr) (c16_0j : Nat), Below w0.heap.size w0 w169 ∧ w154.heap.size ≤ w169.heap.size ∧ Gv.Own bE 5 w169 (fun _ => False) a16_0j c16_0j j168 ∧ (∀ g, blk a16_0j = some g → w0.heap.size ≤ g) ∧ (∀ g, blk a16_0j = some g → ¬ (· = b1) g) ∧ (∀ g, blk a16_0j = some g → ¬ (· = b84) g) ∧ ¬ (fun k => blk a16_0j = some k) b1 ∧ ¬ (fun k => blk a16_0j = some k) b84 ∧ Box w169 b1 25 #[(.int .i64 s91.1.1), (.int .i64 s91.1.2)] ∧ MapO (fun n : Int => Value.int .u8 n) (fun n : Int => Value.int .u8 n) w169 b84 s91.2 ∧ a.defers = [] ∧ a.tmps.size = 83 ∧ Ok [(3, (.slice pa3_0 (length drop_3) pc3_0)), (9, (bp b1)), (11, (.map (some b84))), (16, (.slice a16_0j (length j168) c16_0j)), (58, (.slice pa0_0 (length b_0) pc0_0)), (59, (.int .i64 ((length b_0 : Nat) : Int))), (60, (.int .i64 s153.2))] a.tmps) ?_ ?_
       ·skip
        refine gv_block <| gv_seq <| gv_region <| bindE h3 ?_; clear h3; intro x170 hx171 h3
        refine gv_idxaddr (t := 22) (e := 5) (a := pa0_0) (len := length b_0) (cap := pc0_0) (kk := .i64) (i := s153.2) (sz := 1) [] (fun e => by cases e) rfl rfl rfl kr kr Tryd.underlying22 kr ((hpa0_0.below hB155 hX0).has hx171) (idx_spec hx171).1 (idx_spec hx171).2.1 rfl ?_
        refine gv_load (t := 5) (A := (elemAddr pa0_0 ((s153.2 : Int).toNat * 1))) (.int .u8 ((x170).toNat : Int)) [] (fun e => by cases e) rfl rfl rfl kr kr kr (inw0 ((hpa0_0.below hB155 hX0).cell hx171)) rfl ?_
        refine pN 1 [18] [(18, (.int .u8 ((x170).toNat : Int)))] ?_
        refine gv_nil <| gv_seq <| gv_seq <| gv_region <| pN 2 [64, 65] [(64, (.slice pa3_0 (length drop_3) pc3_0)), (65, (.int .u8 ((x170).toNat : Int)))] ?_
        refine bindE h3 ?_; clear h3; intro r172 hr173 h3
        refine gv_call0 kr rfl kr enters39 (bytes_IndexByte_ok fuel pa3_0 pc3_0 drop_3 ((x170).toNat : Int) w154 (fun k => X0 k) (fun k hk => (fun k (hk : X0 k) => ltl (hX0 k hk) hB155.size) k hk) ((hpa3_0.below hB155 hX0).wide (fun k hk => hk)) r172 hr173) ?_
        rintro v176 w174 ⟨hg175, rfl⟩
        refine pN 1 [67] [(67, (.bool (decide (r172 ≥ 0))))] ?_
        refine gv_nil <| gv_cond (b := (decide (r172 ≥ 0))) kr (fun hc177 => ?_) (fun hc177 => ?_)
        ·replace h3 := ite_t hc177 h3
         refine gv_cexit <| gv_exit rfl ?_
         have e := sj h3; subst e
         refine gv_goal fun a hd hs hok => ?_
         have hB178 := bg hB155 hg175 nb
         have hz179 := hg175.size
         have hk180 := ho159.grown hg175 (fun _ h => h.elim) nb
         have hk181 := hb165.grown hg175 nb
         have hk182 := hb166.grown hg175 nb
         exact ⟨a157, c158, hB178, hz179, hk180, hl160, ap161, ap162, ap163, ap164, hk181, hk182, hd, hs, okp [3, 9, 11, 16, 58, 59, 60] hok⟩
        ·replace h3 := ite_f hc177 h3
         refine gv_skip <| gv_seq <| gv_seq <| gv_region <| pN 2 [69, 70] [(69, (.map (some b84))), (70, (.int .u8 ((x170).toNat : Int)))] ?_
         have hk183 := hb166.grown hg175 nb
         refine gv_lookup (t := 68) (kt := 5) (et := 5) (fun n : Int => Value.int .u8 n) (fun n : Int => Value.int .u8 n) (b := b84) (l := s91.2) (key := ((x170).toNat : Int)) (z := 0) true [] (fun e => by cases e) rfl rfl rfl kr kr Tryd.underlying68 (keyInt Tryd.underlying5) (fun w' => Tryd.zeroValue5 w') (inw0 hk183) rfl rfl ?_
         refine pN 5 [19, 20, 68, 72, 73] [(19, (.int .u8 (mgetD s91.2 ((x170).toNat : Int) 0))), (20, (.bool (mhas s91.2 ((x170).toNat : Int))))] ?_
         refine gv_nil <| gv_seq <| gv_region <| pN 1 [74] [(74, (.bool (mhas s91.2 ((x170).toNat : Int))))] ?_
         refine gv_nil <| bindE h3 ?_; clear h3; intro j184 h4 h3
         refine gv_cut_code (J := fun a w185 => Below w0.heap.size w0 w185 ∧ w174.heap.size ≤ w185.heap.size ∧ Box w185 b1 25 #[(.int .i64 s91.1.1), (.int .i64 s91.1.2)] ∧ MapO (fun n : Int => Value.int .u8 n) (fun n : Int => Value.int .u8 n) w185 b84 s91.2 ∧ Gv.Own bE 5 w185 (fun _ => False) a157 c158 s153.1 ∧ a.defers = [] ∧ a.tmps.size = 83 ∧ Ok [(3, (.slice pa3_0 (length drop_3) pc3_0)), (9, (bp b1)), (11, (.map (some b84))), (16, (.slice a157 (length s153.1) c158)), (18, (.int .u8 j184)), (58, (.slice pa0_0 (length b_0) pc0_0)), (59, (.int .i64 ((length b_0 : Nat) : Int))), (60, (.int .i64 s153.2))] a.tmps) ?_ ?_
         ·skip
          refine gv_cond (b := (mhas s91.2 ((x170).toNat : Int))) kr (fun hc186 => ?_) (fun hc186 => ?_)
          ·replace h4 := ite_t hc186 h4
           refine gv_region <| pN 2 [18, 75] [(18, (.int .u8 (mgetD s91.2 ((x170).toNat : Int) 0)))] ?_
           refine gv_nil ?_
           have e := sj h4; subst e
           refine gv_goal fun a hd hs hok => ?_
           have hB187 := bg hB155 hg175 nb
           have hk188 := hb165.grown hg175 nb
           have hk189 := ho159.grown hg175 (fun _ h => h.elim) nb
           exact ⟨hB187, nrf, hk188, hk183, hk189, hd, hs, okp [3, 9, 11, 16, 18, 58, 59, 60] hok⟩
          ·replace h4 := ite_f hc186 h4
           refine gv_skip ?_
           have e := sj h4; subst e
           refine gv_goal fun a hd hs hok => ?_
           have hB190 := bg hB155 hg175 nb
           have hk191 := hb165.grown hg175 nb
           have hk192 := ho159.grown hg175 (fun _ h => h.elim) nb
           exact ⟨hB190, nrf, hk191, hk183, hk192, hd, hs, okp [3, 9, 11, 16, 18, 58, 59, 60] hok⟩
         ·rintro a w185 ⟨hB193, hz194, hb195, hb196, hk197, hd, hs, hok⟩
          refine gv_in ?_ hd hs hok
          clear hd hs hok
          have hz198 := (nt hg175.size hz194)
          clear hz194 hk183 hc177 hg175 hr173 hx171 hc167 hb166 hb165 ho159 hB155 hb150 hb149 hB147
          refine gv_region <| pN 2 [76, 77] [(76, (.slice a157 (length s153.1) c158)), (77, (.int .u8 j184))] ?_
          refine bindE h3 ?_; clear h3; intro b199 hb200 h3
          have hu201 := u8_spec hb200
          refine gv_new0 (fun b => .slice (some ⟨b, 0, none⟩) 1 1) #[(.int .u8 j184)] 5 kr kr ?_
          intro b202 w203 hg204 hb205 hbe206 hz207
          have ho208 : Gv.Own bE 5 w203 (fun _ => False) (some ⟨b202, 0, none⟩) 1 ([b199] : List UInt8) := Box.ownE hb205 ⟨[(.int .u8 j184)], [], rfl, (by simp only [bE, flat, hu201]), rfl⟩ (show 1 ≤ maxLen by decide) (fun h => h)
          have hl209 : ∀ g, blk (some ⟨b202, 0, none⟩) = some g → w0.heap.size ≤ g := loo hbe206 hB193.size
          refine bindE h3 ?_; clear h3; intro l213 hx214 h3
          have hk221 := hk197.grown hg204 (fun _ h => h.elim) nb
          refine gv_append bE (t := 22) (ty := 22) (e := 5) (a := a157) (ax := (some ⟨b202, 0, none⟩)) (cap := c158) (cx := 1) (xs := s153.1) (ys := ([b199] : List UInt8)) l213 (X := (fun _ => False)) (Y := (fun k => blk (some ⟨b202, 0, none⟩) = some k)) (by decide) rfl rfl kr kr Tryd.underlying22 info5 hk221 (ho208.rd (Y := fun k => blk (some ⟨b202, 0, none⟩) = some k) (fun _ h => h.elim) (fun g e => e)) hx214 (.inr fun _ _ _ _ _ h => h) (fun _ h => h.elim) ?_
          intro a215 c216 w217 hg218 ho219 hk220
          refine ⟨(fun e => by cases e), ?_⟩
          have hB223 := bg hB193 hg204 nb
          have hl222 : ∀ g, blk a215 = some g → w0.heap.size ≤ g := blk_step hk220 hl160 hB223.size
          have hk225 := hb195.grown hg204 nb
          have ap224 : ∀ g, blk a215 = some g → ¬ (· = b1) g := blk_neX hk220 ap161 (ltb hk225)
          have ap226 : ¬ (fun k => blk a215 = some k) b1 := fun h => blk_rev hk220 (fun h => (ap163) h) (hk225.lt) h
          have hk228 := hb196.grown hg204 nb
          have ap227 : ∀ g, blk a215 = some g → ¬ (· = b84) g := blk_neX hk220 ap162 (ltM hk228)
          have ap229 : ¬ (fun k => blk a215 = some k) b84 := fun h => blk_rev hk220 (fun h => (ap164) h) (hk228.lt) h
          have ap231 : ∀ g, blk a157 = some g → ¬ (fun k => blk (some ⟨b202, 0, none⟩) = some k) g := fun g e hx => nl ((lowo hbe206) _ hx) ((fun k (hk : blk a157 = some k) => hk197.lt k hk) g e)
          have ap230 : ∀ g, blk a215 = some g → ¬ (fun k => blk (some ⟨b202, 0, none⟩) = some k) g := blk_neX hk220 ap231 (fun k (hk : blk (some ⟨b202, 0, none⟩) = some k) => ho208.lt k hk)
          have ap233 : ∀ g, blk (some ⟨b202, 0, none⟩) = some g → ¬ (fun k => blk a157 = some k) g := fun g e hx => nl ((lowo hbe206) g e) ((fun k (hk : blk a157 = some k) => hk197.lt k hk) _ hx)
          have ap232 : ∀ g, blk (some ⟨b202, 0, none⟩) = some g → ¬ (fun k => blk a215 = some k) g := fun g e h => blk_rev hk220 (fun h => ((ap233) g e) h) (ho208.lt g e) h
          have hz234 := (nt (nt hz198 hg204.size) hg218.size)
          clear ap233 hk220 hk221 hx214 hz207 hb205 hg204 hu201 hb200 hz198 hk197 hB193 ap164 ap163
          refine pN 1 [16] [(16, (.slice a215 (length l213) c216))] ?_
          refine gv_nil <| gv_blk ?_
          have e := sj h3; subst e
          refine gv_goal fun a hd hs hok => ?_
          have hB235 := bg hB223 hg218 hl160
          have hz236 := hz234
          have hk237 := hk225.grown hg218 ap161
          have hk238 := hk228.grown hg218 ap162
          exact ⟨a215, c216, hB235, hz236, ho219, hl222, ap224, ap227, ap226, ap229, hk237, hk238, hd, hs, okp [3, 9, 11, 16, 58, 59, 60] hok⟩
       ·rintro a w169 ⟨a241, c242, hB239, hz240, ho243, hl244, ap245, ap246, ap247, ap248, hb249, hb250, hd, hs, hok⟩
        refine gv_in ?_ hd hs hok
        clear hd hs hok
        have hz251 := (nt hz156 hz240)
        clear hz240 hc167 hb166 hb165 ap164 ap163 ap162 ap161 hl160 ho159 hz156 hB155 hb150 hb149 hB147
        refine gv_region <| pN 2 [60, 80] [(60, (.int .i64 (IntKind.i64.wrap (s153.2 + 1))))] ?_
        refine gv_nil ?_
        have e := sj h2; subst e
        refine gv_goal fun a hd hs hok => ?_
        have hz252 := hz251
        exact ⟨(j168, (IntKind.i64.wrap (s153.2 + 1))), rfl, a241, c242, hB239, hz252, ho243, hl244, ap245, ap246, ap247, ap248, hb249, hb250, hd, hs, okp [3, 9, 11, 16, 58, 59, 60] hok⟩
      ·replace h2 := ite_f hc167 h2
       refine gv_cexit <| gv_exit rfl ?_
       have e := sj h2; subst e
       replace h1 := congrArg some (hR2 _ rfl)
       have e := sj h1; subst e
       refine gv_goal fun a hd hs hok => ?_
       have hz253 := hz156
       exact ⟨a157, c158, hB155, hz253, ho159, hl160, ap161, ap163, hb165, hd, hs, okp [9, 16] hok⟩
    ·rintro a w152 ⟨a256, c257, hB254, hz255, ho258, hl259, ap260, ap261, hb262, hd, hs, hok⟩
     refine gv_in ?_ hd hs hok
     clear hd hs hok
     clear hz255 hb150 hb149 hB147 hbe88 hb39 hg38 hbe35 hg33 hg29 hB21 hg9 hb4
     refine gv_seq <| gv_region <| pN 3 [8, 81, 82] [(8, (.slice a256 (length j151) c257)), (82, (.agg #[(.int .i64 0), (.int .i64 0)]))] ?_
     refine gv_store0 25 0 (.agg #[(.int .i64 0), (.int .i64 0)]) #[(.int .i64 0), (.int .i64 0)] hb262 kr kr kr ?_
     intro w263 hg264 hb265 hz266
     refine gv_nil <| gv_cret ?_
     have e := sj h0; subst e
     refine gv_ret (gv_done [(.slice a256 (length j151) c257), (.agg #[(.int .i64 0), (.int .i64 0)])] rfl ⟨kr, ⟨⟨b1, 0, none⟩, kr, run_loadVar_row w263 b1 _ 25 _ _ _ hb265 Tryd.underlying25 rfl kr⟩, trivial⟩ ?_)
     have hB267 := bg hB254 hg264 (rowlo hlo25)
     have hk268 := ho258.grown hg264 (fun _ h => h.elim) (rdnn (rowne ap261))
     exact ⟨grown_of_below hB267, a256, c257, rfl, hk268, hl259⟩

theorem bytestr_Join_ok (fuel : Nat) (pa0_0 : Option Addr) (pc0_0 : Nat) (l_0 : (List (List UInt8))) (pa1_0 : Option Addr) (pc1_0 : Nat) (sep_1 : (List UInt8)) (w0 : World) (X0 : Nat → Prop) (hX0 : ∀ k, X0 k → k < w0.heap.size) (hpa0_0 : Rd (slE bE) w0 X0 pa0_0 pc0_0 l_0) (hpa1_0 : Rd bE w0 X0 pa1_0 pc1_0 sep_1) (r0 : ((List UInt8) × (Int × Int))) (h0 : bytestr_Join fuel l_0 sep_1 = some r0) :
    Calls Tryd.prog 10 ([(.slice pa0_0 (length l_0) pc0_0), (.slice pa1_0 (length sep_1) pc1_0)] : List Value).toArray w0 (Ret fun v w' => w0.grownBy w' none ∧ ∃ (a0_0r : Option Addr) (c0_0r : Nat), ∃ (X0_0r : Nat → Prop), v = tup [(.slice a0_0r (length r0.1) c0_0r), (.agg #[(.int .i64 r0.2.1), (.int .i64 r0.2.2)])] ∧ Rd bE w' X0_0r a0_0r c0_0r r0.1 ∧ (∀ k, X0_0r k → k < w'.heap.size ∧ (X0 k ∨ w0.heap.size ≤ k))) := by
 have hB0 : Below w0.heap.size w0 w0 := Below.refl _ _
 unfold bytestr_Join at h0
 refine calls_run Tryd.func10 rfl Tryd.ntmps10 kr ?_
 refine gv_sub [0, 1] (σ' := [(0, (.slice pa0_0 (length l_0) pc0_0)), (1, (.slice pa1_0 (length sep_1) pc1_0))]) kr ?_
 refine gv_seq <| gv_region <| pN 1 [4] [] ?_
 refine gv_new0 (fun b => .pointer (some ⟨b, 0, none⟩)) #[(.int .i64 0), (.int .i64 0)] 25 kr kr ?_
 intro b1 w2 hg3 hb4 hbe5 hz6
 refine gv_nil <| gv_seq <| gv_region <| pN 8 [6, 9, 10, 11, 12, 13, 14, 15] [(6, (.int .i64 (IntKind.i64.wrap ((if 0 < (IntKind.i64.wrap (((length l_0 : Nat) : Int) - 1)) then (IntKind.i64.wrap (((length l_0 : Nat) : Int) - 1)) else 0) * ((length sep_1 : Nat) : Int)))))] ?_
 refine bindE h0 ?_; clear h0; intro n7 hn8 h0
 refine gv_name (s := 6) (v := (.int .i64 (IntKind.i64.wrap ((if 0 < (IntKind.i64.wrap (((length l_0 : Nat) : Int) - 1)) then (IntKind.i64.wrap (((length l_0 : Nat) : Int) - 1)) else 0) * ((length sep_1 : Nat) : Int))))) (v' := (.int .i64 n7)) kr (congrArg (Value.int .i64) (sj hn8)) ?_
 refine gv_nil <| gv_seq <| gv_seq <| gv_region <| pN 3 [16, 17, 18] [(16, (.slice pa0_0 (length l_0) pc0_0)), (17, (.int .i64 ((length l_0 : Nat) : Int))), (18, (.int .i64 0))] ?_
 refine gv_nil <| bindE h0 ?_; clear h0; intro j9 h1 h0
 refine gv_cut_code (J := fun a w10 => Below w0.heap.size w0 w10 ∧ w2.heap.size ≤ w10.heap.size ∧ Box w10 b1 25 #[(.int .i64 0), (.int .i64 0)] ∧ a.defers = [] ∧ a.tmps.size = 34 ∧ Ok [(0, (.slice pa0_0 (length l_0) pc0_0)), (1, (.slice pa1_0 (length sep_1) pc1_0)), (5, (bp b1)), (6, (.int .i64 j9))] a.tmps) ?_ ?_
 ·skip
  refine gv_block <| gv_loop (A := fun (s11 : (Int × Int)) a w12 => Below w0.heap.size w0 w12 ∧ w2.heap.size ≤ w12.heap.size ∧ Box w12 b1 25 #[(.int .i64 0), (.int .i64 0)] ∧ a.defers = [] ∧ a.tmps.size = 34 ∧ Ok [(0, (.slice pa0_0 (length l_0) pc0_0)), (1, (.slice pa1_0 (length sep_1) pc1_0)), (5, (bp b1)), (6, (.int .i64 s11.1)), (16, (.slice pa0_0 (length l_0) pc0_0)), (17, (.int .i64 ((length l_0 : Nat) : Int))), (18, (.int .i64 s11.2))] a.tmps) h1 ?_ ?_
  ·intro a hd hs hok
   have hB13 := bg hB0 hg3 nb
   exact ⟨hB13, nrf, hb4, hd, hs, okp [0, 1, 5, 6, 16, 17, 18] hok⟩
  ·rintro s11 r2 h2 hR2 a w12 ⟨hB14, hz15, hb16, hd, hs, hok⟩
   refine gv_in ?_ hd hs hok
   clear hd hs hok
   clear hn8 hz6 hb4 hg3
   refine gv_seq <| gv_region <| pN 1 [19] [(19, (.bool (decide (s11.2 < ((length l_0 : Nat) : Int)))))] ?_
   refine gv_nil <| gv_seq <| gv_cond (b := (decide (s11.2 < ((length l_0 : Nat) : Int)))) kr (fun hc17 => ?_) (fun hc17 => ?_)
   ·replace h2 := ite_t hc17 h2
    refine gv_skip <| gv_seq <| gv_block <| gv_seq <| gv_region <| bindE h2 ?_; clear h2; intro x18 hx19 h2
    refine gv_idxaddr (t := 23) (e := 22) (a := pa0_0) (len := length l_0) (cap := pc0_0) (kk := .i64) (i := s11.2) (sz := 1) [] (fun e => by cases e) rfl rfl rfl kr kr Tryd.underlying23 kr ((hpa0_0.below hB14 hX0).has hx19) (idx_spec hx19).1 (idx_spec hx19).2.1 rfl ?_
    obtain ⟨_, ⟨a21, c22, rfl, hr23⟩, hc20⟩ := hpa0_0.cellsK hx19
    refine gv_load (t := 22) (A := (elemAddr pa0_0 ((s11.2 : Int).toNat * 1))) (.slice a21 (length x18) c22) [] (fun e => by cases e) rfl rfl rfl kr kr kr (inw0 ((hc20 w12 (fun k hk => hB14.block k (hX0 k hk))).zero rfl)) rfl ?_
    refine pN 1 [8] [(8, (.slice a21 (length x18) c22))] ?_
    refine gv_nil <| gv_region <| pN 5 [6, 22, 23, 24, 25] [(6, (.int .i64 (IntKind.i64.wrap (s11.1 + ((length x18 : Nat) : Int)))))] ?_
    refine bindE h2 ?_; clear h2; intro n24 hn25 h2
    refine gv_name (s := 6) (v := (.int .i64 (IntKind.i64.wrap (s11.1 + ((length x18 : Nat) : Int))))) (v' := (.int .i64 n24)) kr (congrArg (Value.int .i64) (sj hn25)) ?_
    refine gv_nil <| gv_blk <| gv_region <| pN 2 [18, 26] [(18, (.int .i64 (IntKind.i64.wrap (s11.2 + 1))))] ?_
    refine gv_nil ?_
    have e := sj h2; subst e
    refine gv_goal fun a hd hs hok => ?_
    have hz26 := hz15
    exact ⟨(n24, (IntKind.i64.wrap (s11.2 + 1))), rfl, hB14, hz26, hb16, hd, hs, okp [0, 1, 5, 6, 16, 17, 18] hok⟩
   ·replace h2 := ite_f hc17 h2
    refine gv_cexit <| gv_exit rfl ?_
    have e := sj h2; subst e
    replace h1 := congrArg some (hR2 _ rfl)
    have e := sj h1; subst e
    refine gv_goal fun a hd hs hok => ?_
    have hz27 := hz15
    exact ⟨hB14, hz27, hb16, hd, hs, okp [0, 1, 5, 6] hok⟩
 ·rintro a w10 ⟨hB28, hz29, hb30, hd, hs, hok⟩
  refine gv_in ?_ hd hs hok
  clear hd hs hok
  clear hz29 hn8 hz6 hb4 hg3
  refine gv_seq <| gv_seq <| gv_region <| pN 2 [27, 28] [(28, (.bool (decide (j9 > 4000))))] ?_
  refine gv_nil <| gv_cond (b := (decide (j9 > 4000))) kr (fun hc31 => ?_) (fun hc31 => ?_)
  ·replace h0 := ite_t hc31 h0
   refine gv_seq <| gv_region <| bindE h0 ?_; clear h0; intro r32 hr33 h0
   refine gv_call0 kr rfl kr enters38 (bytestr_at_ok fuel 3 (-1) w10  r32 hr33) ?_
   rintro v36 w34 ⟨hg35, rfl⟩
   refine pN 1 [4] [(4, (.slice none (length ([] : List UInt8)) 0))] ?_
   have hk41 := hb30.grown hg35 nb
   refine gv_store0 25 0 (.agg #[(.int .i64 r32.1), (.int .i64 r32.2)]) #[(.int .i64 r32.1), (.int .i64 r32.2)] hk41 kr kr kr ?_
   intro w37 hg38 hb39 hz40
   refine gv_nil <| gv_cret ?_
   have e := sj h0; subst e
   refine gv_ret (gv_done [(.slice none (length ([] : List UInt8)) 0), (.agg #[(.int .i64 r32.1), (.int .i64 r32.2)])] rfl ⟨kr, ⟨⟨b1, 0, none⟩, kr, run_loadVar_row w37 b1 _ 25 _ _ _ hb39 Tryd.underlying25 rfl kr⟩, trivial⟩ ?_)
   have hB42 := bg hB28 hg35 nb
   have hlo43 : w0.heap.size ≤ b1 := lob hbe5 hB0.size
   have hB44 := bg hB42 hg38 (rowlo hlo43)
   exact ⟨grown_of_below hB44, none, 0, (fun _ => False), rfl, (Rd.nil bE w37 (fun _ => False) none 0), (fun k hk => ⟨(fun _ h => h.elim) k hk, (fun _ h => h.elim) k hk⟩)⟩
  ·replace h0 := ite_f hc31 h0
   refine gv_skip <| gv_seq <| gv_region <| pN 2 [30, 31] [(30, (.slice pa0_0 (length l_0) pc0_0)), (31, (.slice pa1_0 (length sep_1) pc1_0))] ?_
   refine bindE h0 ?_; clear h0; intro r45 hr46 h0
   refine gv_call0 kr rfl kr enters40 (bytes_Join_ok fuel pa0_0 pc0_0 l_0 pa1_0 pc1_0 sep_1 w10 (fun k => X0 k ∨ X0 k) (fun k hk => (hk).elim (fun h => (fun k (hk : X0 k) => ltl (hX0 k hk) hB28.size) k h) (fun h => (fun k (hk : X0 k) => ltl (hX0 k hk) hB28.size) k h)) ((hpa0_0.below hB28 hX0).wide (fun k hk => (.inl hk))) ((hpa1_0.below hB28 hX0).wide (fun k hk => (.inr hk))) r45 hr46) ?_
   rintro v49 w47 ⟨hg48, a50, c51, X53, rfl, ho52, hx54⟩
   have hx55 : ∀ k, X53 k → k < w47.heap.size := fun k hk => (hx54 k hk).1
   have hx56 : ∀ k, X53 k → X0 k ∨ w0.heap.size ≤ k := fun k hk => (hx54 k hk).2.elim (fun h => (h).elim (fun h => (fun k (hk : X0 k) => Or.inl hk) k h) (fun h => (fun k (hk : X0 k) => Or.inl hk) k h)) (fun h => .inr (Nat.le_trans hB28.size h))
   refine pN 2 [4, 33] [(4, (.slice a50 (length r45) c51)), (33, (.agg #[(.int .i64 0), (.int .i64 0)]))] ?_
   have hk61 := hb30.grown hg48 nb
   refine gv_store0 25 0 (.agg #[(.int .i64 0), (.int .i64 0)]) #[(.int .i64 0), (.int .i64 0)] hk61 kr kr kr ?_
   intro w57 hg58 hb59 hz60
   refine gv_nil <| gv_cret ?_
   have e := sj h0; subst e
   refine gv_ret (gv_done [(.slice a50 (length r45) c51), (.agg #[(.int .i64 0), (.int .i64 0)])] rfl ⟨kr, ⟨⟨b1, 0, none⟩, kr, run_loadVar_row w57 b1 _ 25 _ _ _ hb59 Tryd.underlying25 rfl kr⟩, trivial⟩ ?_)
   have hB62 := bg hB28 hg48 nb
   have hlo63 : w0.heap.size ≤ b1 := lob hbe5 hB0.size
   have hB64 := bg hB62 hg58 (rowlo hlo63)
   have ap65 : ¬ X53 b1 := fun h => ((hx54 _ h).2.elim (fun h => (h).elim (fun h => ((fun (hx : X0 b1) => nl hlo63 (hX0 _ hx)))  h) (fun h => ((fun (hx : X0 b1) => nl hlo63 (hX0 _ hx)))  h)) (fun h => nl h (hb30.lt)))
   have hk66 := ho52.grown hg58 hx55 (rowne ap65)
   have hx67 := ltx hx55 hg58.size
   exact ⟨grown_of_below hB64, a50, c51, X53, rfl, hk66, (fun k hk => ⟨hx67 k hk, hx56 k hk⟩)⟩

theorem bytestr_Base64_ok (fuel : Nat) (pa0_0 : Option Addr) (pc0_0 : Nat) (b_0 : (List UInt8)) (w0 : World) (X0 : Nat → Prop) (hX0 : ∀ k, X0 k → k < w0.heap.size) (hpa0_0 : Rd bE w0 X0 pa0_0 pc0_0 b_0) (r0 : (ByteArray × (Int × Int))) (h0 : bytestr_Base64 fuel b_0 = some r0) :
    Calls Tryd.prog 16 ([(.slice pa0_0 (length b_0) pc0_0)] : List Value).toArray w0 (Ret fun v w' => w0.grownBy w' none ∧ v = tup [(.string r0.1), (.agg #[(.int .i64 r0.2.1), (.int .i64 r0.2.2)])]) := by
 have hB0 : Below w0.heap.size w0 w0 := Below.refl _ _
 unfold bytestr_Base64 at h0
 refine calls_runM Tryd.func16 rfl Tryd.ntmps16 kr ?_
 refine gv_sub [0] (σ' := [(0, (.slice pa0_0 (length b_0) pc0_0))]) kr ?_
 refine gv_seq <| gv_region <| pN 1 [2] [] ?_
 refine gv_new0 (fun b => .pointer (some ⟨b, 0, none⟩)) #[(.int .i64 0), (.int .i64 0)] 25 kr kr ?_
 intro b1 w2 hg3 hb4 hbe5 hz6
 refine gv_nil <| gv_seq <| gv_seq <| gv_region <| pN 6 [9, 10, 11, 12, 13, 14] [(14, (.bool (decide ((IntKind.i64.wrap ((IntKind.i64.wrap (((IntKind.i64.wrap (((length b_0 : Nat) : Int) + 2))).tdiv 3)) * 4)) > 4000))))] ?_
 refine gv_nil <| gv_cond (b := (decide ((IntKind.i64.wrap ((IntKind.i64.wrap (((IntKind.i64.wrap (((length b_0 : Nat) : Int) + 2))).tdiv 3)) * 4)) > 4000))) kr (fun hc7 => ?_) (fun hc7 => ?_)
 ·replace h0 := ite_t hc7 h0
  refine gv_seq <| gv_region <| bindE h0 ?_; clear h0; intro r8 hr9 h0
  refine gv_call0 kr rfl kr enters38 (bytestr_at_ok fuel 3 (-1) w2  r8 hr9) ?_
  rintro v12 w10 ⟨hg11, rfl⟩
  refine pN 1 [2] [(2, (.string (strOf [])))] ?_
  have hk17 := hb4.grown hg11 nb
  refine gv_store0 25 0 (.agg #[(.int .i64 r8.1), (.int .i64 r8.2)]) #[(.int .i64 r8.1), (.int .i64 r8.2)] hk17 kr kr kr ?_
  intro w13 hg14 hb15 hz16
  refine gv_nil <| gv_cret ?_
  have e := sj h0; subst e
  refine gv_ret (gv_doneM [(.string (strOf [])), (.agg #[(.int .i64 r8.1), (.int .i64 r8.2)])] rfl ⟨kr, ⟨⟨b1, 0, none⟩, kr, run_loadVar_row w13 b1 _ 25 _ _ _ hb15 Tryd.underlying25 rfl kr⟩, trivial⟩ ?_)
  have hg18 := (grown_trans hg3 hg11)
  have hB19 := bg hB0 hg18 nb
  have hlo20 : w0.heap.size ≤ b1 := lob hbe5 hB0.size
  have hB21 := bg hB19 hg14 (rowlo hlo20)
  exact ⟨grown_of_below hB21, rfl⟩
 ·replace h0 := ite_f hc7 h0
  refine gv_skip <| gv_seq <| gv_region <| gv_new0 (fun b => .pointer (some ⟨b, 0, none⟩)) #[(.slice none (length ([] : List UInt8)) 0)] 22 kr kr ?_
  intro b22 w23 hg24 hb25 hbe26 hz27
  refine gv_nil <| gv_seq <| gv_seq <| gv_region <| pN 1 [16] [(16, (.slice pa0_0 (length b_0) pc0_0))] ?_
  refine gv_call0 kr rfl kr enters41 (chunk_ok pa0_0 pc0_0 b_0 w23) ?_
  rintro v28 w29 ⟨hg30, b31, b32, rfl, hb33, hb34, hx35, hx36, hx37⟩
  refine gv_nil <| gv_block <| gv_sub [3, 4, 17] (σ' := [(3, (bp b1)), (4, (bp b22)), (17, (.func (.func 60) #[] #[bp b31, bp b32]))]) kr ?_
  refine bindE h0 ?_; clear h0; intro u44 hl41 h0
  refine bindE h0 ?_; clear h0; intro j38 h1 h0
  obtain ⟨hA39, hF40⟩ := foldC_able h1
  clear h1
  have hk45 := hb33
  have hk46 := hb34
  have hg48 := (grown_trans (grown_trans hg3 hg24) hg30)
  have hB49 := bg hB0 hg48 nb
  have hk47 := (hpa0_0.below hB49 hX0)
  have hz50 := hB49.size
  have hx51 : ∀ k, X0 k → k < w29.heap.size := (fun k (hk : X0 k) => ltl (hX0 k hk) hB49.size)
  refine gv_rangeFunc (α := Fin ((length b_0 + 2) / 3)) (p := 18) (d := 5) (gf := 60) (lb := #[bp b31, bp b32]) (enc := fun x => chunkL pa0_0 b_0 x.1) (Kp := KpC b31 b32) kr enters60 kr kr kr (chunk_stops hk45 hk46 hk47 (lenOk_spec hl41)) KpC.trans (KpC.put hk45.lt hk46.lt) (fun pre W => ∃ (s52 : (List UInt8)), foldO (fun (s42 : (List UInt8)) (y43 : List UInt8) => (Option.bind (loopN (fun (s85 : (Int × Int)) => (if (decide (s85.2 < 3)) then (Option.bind (if (decide (s85.2 < ((length y43 : Nat) : Int))) then (Option.bind (idx y43 s85.2) fun x100 => (Option.bind (some (bwOr .i64 (IntKind.i64.wrap (s85.1 * 2 ^ 8)) (IntKind.i64.wrap (((x100).toNat : Int))))) fun n102 => (some (n102)))) else (some ((IntKind.i64.wrap (s85.1 * 2 ^ 8))))) fun (j97 : Int) => (some (.inl (j97, (IntKind.i64.wrap (s85.2 + 1)))))) else (some (.inr (s85.1))))) fuel (0, 0)) fun (j83 : Int) => (Option.bind (loopN (fun (s128 : (Int × (List UInt8))) => (if (decide (s128.1 < 4)) then (Option.bind (if (decide (s128.1 ≤ ((length y43 : Nat) : Int))) then (Option.bind (nn (IntKind.i64.wrap (18 - (IntKind.i64.wrap (6 * s128.1))))) fun _ => (Option.bind (sidx (strOf [65, 66, 67, 68, 69, 70, 71, 72, 73, 74, 75, 76, 77, 78, 79, 80, 81, 82, 83, 84, 85, 86, 87, 88, 89, 90, 97, 98, 99, 100, 101, 102, 103, 104, 105, 106, 107, 108, 109, 110, 111, 112, 113, 114, 115, 116, 117, 118, 119, 120, 121, 122, 48, 49, 50, 51, 52, 53, 54, 55, 56, 57, 43, 47]) (bwAnd .i64 (shrI .i64 j83 (IntKind.i64.wrap (18 - (IntKind.i64.wrap (6 * s128.1))))) 63)) fun x159 => (Option.bind (u8 x159) fun b163 => (Option.bind (app s128.2 ([b163] : List UInt8)) fun l178 => (some (l178)))))) else (Option.bind (app s128.2 ([(61 : UInt8)] : List UInt8)) fun l244 => (some (l244)))) fun (j153 : (List UInt8)) => (some (.inl ((IntKind.i64.wrap (s128.1 + 1)), j153)))) else (some (.inr (s128.2))))) fuel (0, s42)) fun (j126 : (List UInt8)) => (some (j126))))) ([] : List UInt8) (pre.map fun x => chunk b_0 x.1) = some s52 ∧ ∃ (abb22_0j : Option Addr) (cbb22_0j : Nat), Below w0.heap.size w0 W ∧ w29.heap.size ≤ W.heap.size ∧ Gv.Own bE 5 W (fun _ => False) abb22_0j cbb22_0j s52 ∧ (∀ g, blk abb22_0j = some g → w0.heap.size ≤ g) ∧ (∀ g, blk abb22_0j = some g → ¬ (· = b1) g) ∧ (∀ g, blk abb22_0j = some g → ¬ (· = b22) g) ∧ (∀ g, blk abb22_0j = some g → ¬ (· = b32) g) ∧ (∀ g, blk abb22_0j = some g → ¬ (· = b31) g) ∧ ¬ (fun k => blk abb22_0j = some k) b1 ∧ ¬ (fun k => blk abb22_0j = some k) b22 ∧ ¬ (fun k => blk abb22_0j = some k) b32 ∧ ¬ (fun k => blk abb22_0j = some k) b31 ∧ Box W b1 25 #[(.int .i64 0), (.int .i64 0)] ∧ Box W b22 22 #[(.slice abb22_0j (length s52) cbb22_0j)] ∧ Box W b32 3 #[(.int .i64 3)] ∧ Box W b31 22 #[(.slice pa0_0 (length b_0) pc0_0)]) ?_ ?_ ?_ ?_
  ·rintro l53 p54 x55 w57 ⟨s42, hst56, a61, c62, hB59, hz60, ho63, hl64, ap65, ap66, ap67, ap68, ap69, ap70, ap71, ap72, hb73, hb74, hb75, hb76⟩ hn58
   obtain ⟨a77, c78, y43, hv79, hy80, hr81⟩ := chunk_val (hpa0_0.below hB59 hX0) x55.1
   rw [hv79]
   obtain ⟨r82, h1⟩ := Able.step hA39 hst56 (chunk_mems _) (chunk_mem x55) (chunk_lt hn58)
   rw [← hy80] at h1
   have hR1 := h1
   refine gv_block <| gv_seq <| gv_regionR <| pN 1 [6] [(6, (.int .i64 0))] ?_
   refine gv_sub [3, 4, 5, 6, 17] (σ' := [(3, (bp b1)), (4, (bp b22)), (5, (.slice a77 (length y43) c78)), (6, (.int .i64 0)), (17, (.func (.func 60) #[] #[bp b31, bp b32]))]) kr ?_
   refine gv_nil <| gv_seq <| gv_seq <| gv_regionR <| pN 1 [19] [(19, (.int .i64 0))] ?_
   refine gv_nil <| bindE h1 ?_; clear h1; intro j83 h2 h1
   refine gv_cut_code (J := fun a w84 => Below w0.heap.size w0 w84 ∧ w57.heap.size ≤ w84.heap.size ∧ Box w84 b1 25 #[(.int .i64 0), (.int .i64 0)] ∧ Box w84 b22 22 #[(.slice a61 (length s42) c62)] ∧ Box w84 b32 3 #[(.int .i64 3)] ∧ Box w84 b31 22 #[(.slice pa0_0 (length b_0) pc0_0)] ∧ Rd bE w84 X0 a77 c78 y43 ∧ Gv.Own bE 5 w84 (fun _ => False) a61 c62 s42 ∧ KeepsFrom w29.heap.size w57 w84 ∧ a.defers = [] ∧ a.tmps.size = 60 ∧ Ok [(3, (bp b1)), (4, (bp b22)), (5, (.slice a77 (length y43) c78)), (6, (.int .i64 j83)), (17, (.func (.func 60) #[] #[bp b31, bp b32]))] a.tmps) ?_ ?_
   ·skip
    refine gv_block <| gv_loop (A := fun (s85 : (Int × Int)) a w86 => Below w0.heap.size w0 w86 ∧ w57.heap.size ≤ w86.heap.size ∧ Box w86 b1 25 #[(.int .i64 0), (.int .i64 0)] ∧ Box w86 b22 22 #[(.slice a61 (length s42) c62)] ∧ Box w86 b32 3 #[(.int .i64 3)] ∧ Box w86 b31 22 #[(.slice pa0_0 (length b_0) pc0_0)] ∧ Rd bE w86 X0 a77 c78 y43 ∧ Gv.Own bE 5 w86 (fun _ => False) a61 c62 s42 ∧ KeepsFrom w29.heap.size w57 w86 ∧ a.defers = [] ∧ a.tmps.size = 60 ∧ Ok [(3, (bp b1)), (4, (bp b22)), (5, (.slice a77 (length y43) c78)), (6, (.int .i64 s85.1)), (17, (.func (.func 60) #[] #[bp b31, bp b32])), (19, (.int .i64 s85.2))] a.tmps) h2 ?_ ?_
    ·intro a hd hs hok
     exact ⟨hB59, nrf, hb73, hb74, hb75, hb76, hr81, ho63, (KeepsFrom.refl w29.heap.size w57), hd, hs, okp [3, 4, 5, 6, 17, 19] hok⟩
    ·rintro s85 r3 h3 hR3 a w86 ⟨hB87, hz88, hb89, hb90, hb91, hb92, hk93, hk94, hk95, hd, hs, hok⟩
     refine gv_in ?_ hd hs hok
     clear hd hs hok
     clear hr81 hn58 hB49 hg48 hz27 hc7 hz6
     refine gv_seq <| gv_regionR <| pN 1 [20] [(20, (.bool (decide (s85.2 < 3))))] ?_
     refine gv_nil <| gv_seq <| gv_cond (b := (decide (s85.2 < 3))) kr (fun hc96 => ?_) (fun hc96 => ?_)
     ·replace h3 := ite_t hc96 h3
      refine gv_skip <| gv_seq <| gv_block <| gv_seq <| gv_regionR <| pN 2 [7, 21] [(7, (.int .i64 s85.2))] ?_
      refine gv_nil <| gv_seq <| gv_regionR <| pN 3 [6, 22, 23] [(6, (.int .i64 (IntKind.i64.wrap (s85.1 * 2 ^ 8))))] ?_
      refine gv_nil <| gv_seq <| gv_regionR <| pN 4 [24, 25, 26, 27] [(27, (.bool (decide (s85.2 < ((length y43 : Nat) : Int)))))] ?_
      refine gv_nil <| bindE h3 ?_; clear h3; intro j97 h4 h3
      refine gv_cut_code (J := fun a w98 => Below w0.heap.size w0 w98 ∧ w86.heap.size ≤ w98.heap.size ∧ Box w98 b1 25 #[(.int .i64 0), (.int .i64 0)] ∧ Box w98 b22 22 #[(.slice a61 (length s42) c62)] ∧ Box w98 b32 3 #[(.int .i64 3)] ∧ Box w98 b31 22 #[(.slice pa0_0 (length b_0) pc0_0)] ∧ Rd bE w98 X0 a77 c78 y43 ∧ Gv.Own bE 5 w98 (fun _ => False) a61 c62 s42 ∧ KeepsFrom w29.heap.size w57 w98 ∧ a.defers = [] ∧ a.tmps.size = 60 ∧ Ok [(3, (bp b1)), (4, (bp b22)), (5, (.slice a77 (length y43) c78)), (6, (.int .i64 j97)), (17, (.func (.func 60) #[] #[bp b31, bp b32])), (19, (.int .i64 s85.2))] a.tmps) ?_ ?_
      ·skip
       refine gv_cond (b := (decide (s85.2 < ((length y43 : Nat) : Int)))) kr (fun hc99 => ?_) (fun hc99 => ?_)
       ·replace h4 := ite_t hc99 h4
        refine gv_regionR <| pN 3 [28, 29, 30] [(28, (.int .i64 (IntKind.i64.wrap (s85.1 * 2 ^ 8)))), (29, (.slice a77 (length y43) c78)), (30, (.int .i64 s85.2))] ?_
        refine bindE h4 ?_; clear h4; intro x100 hx101 h4
        refine gv_idxaddr (t := 22) (e := 5) (a := a77) (len := length y43) (cap := c78) (kk := .i64) (i := s85.2) (sz := 1) [] (fun e => by cases e) rfl rfl rfl kr kr Tryd.underlying22 kr (hk93.has hx101) (idx_spec hx101).1 (idx_spec hx101).2.1 rfl ?_
        refine gv_load (t := 5) (A := (elemAddr a77 ((s85.2 : Int).toNat * 1))) (.int .u8 ((x100).toNat : Int)) [] (fun e => by cases e) rfl rfl rfl kr kr kr (inw0 (hk93.cell hx101)) rfl ?_
        refine pN 3 [6, 33, 34] [(6, (.int .i64 (bwOr .i64 (IntKind.i64.wrap (s85.1 * 2 ^ 8)) (IntKind.i64.wrap (((x100).toNat : Int))))))] ?_
        refine bindE h4 ?_; clear h4; intro n102 hn103 h4
        refine gv_name (s := 6) (v := (.int .i64 (bwOr .i64 (IntKind.i64.wrap (s85.1 * 2 ^ 8)) (IntKind.i64.wrap (((x100).toNat : Int)))))) (v' := (.int .i64 n102)) kr (congrArg (Value.int .i64) (sj hn103)) ?_
        refine gv_nil ?_
        have e := sj h4; subst e
        refine gv_goal fun a hd hs hok => ?_
        exact ⟨hB87, nrf, hb89, hb90, hb91, hb92, hk93, hk94, hk95, hd, hs, okp [3, 4, 5, 6, 17, 19] hok⟩
       ·replace h4 := ite_f hc99 h4
        refine gv_skip ?_
        have e := sj h4; subst e
        refine gv_goal fun a hd hs hok => ?_
        exact ⟨hB87, nrf, hb89, hb90, hb91, hb92, hk93, hk94, hk95, hd, hs, okp [3, 4, 5, 6, 17, 19] hok⟩
      ·rintro a w98 ⟨hB104, hz105, hb106, hb107, hb108, hb109, hk110, hk111, hk112, hd, hs, hok⟩
       refine gv_in ?_ hd hs hok
       clear hd hs hok
       have hz113 := (nt hz88 hz105)
       clear hc96 hk95 hk94 hk93 hb92 hb91 hb90 hb89 hB87
       refine gv_blk <| gv_regionR <| pN 2 [19, 35] [(19, (.int .i64 (IntKind.i64.wrap (s85.2 + 1))))] ?_
       refine gv_nil ?_
       have e := sj h3; subst e
       refine gv_goal fun a hd hs hok => ?_
       have hz114 := hz113
       exact ⟨(j97, (IntKind.i64.wrap (s85.2 + 1))), rfl, hB104, hz114, hb106, hb107, hb108, hb109, hk110, hk111, hk112, hd, hs, okp [3, 4, 5, 6, 17, 19] hok⟩
     ·replace h3 := ite_f hc96 h3
      refine gv_cexit <| gv_exit rfl ?_
      have e := sj h3; subst e
      replace h2 := congrArg some (hR3 _ rfl)
      have e := sj h2; subst e
      refine gv_goal fun a hd hs hok => ?_
      have hz115 := hz88
      exact ⟨hB87, hz115, hb89, hb90, hb91, hb92, hk93, hk94, hk95, hd, hs, okp [3, 4, 5, 6, 17] hok⟩
   ·rintro a w84 ⟨hB116, hz117, hb118, hb119, hb120, hb121, hk122, hk123, hk124, hd, hs, hok⟩
    refine gv_in ?_ hd hs hok
    clear hd hs hok
    have hz125 := (nt hz60 hz117)
    clear hr81 hn58 hz60 hB49 hg48 hz27 hc7 hz6
    refine gv_seq <| gv_regionR <| pN 1 [36] [(36, (.int .i64 0))] ?_
    refine gv_nil <| bindE h1 ?_; clear h1; intro j126 h2 h1
    refine gv_cut_code (J := fun a w127 => ∃ (abb22_0j : Option Addr) (cbb22_0j : Nat), Below w0.heap.size w0 w127 ∧ w84.heap.size ≤ w127.heap.size ∧ Gv.Own bE 5 w127 (fun _ => False) abb22_0j cbb22_0j j126 ∧ (∀ g, blk abb22_0j = some g → w0.heap.size ≤ g) ∧ (∀ g, blk abb22_0j = some g → ¬ (· = b1) g) ∧ (∀ g, blk abb22_0j = some g → ¬ (· = b22) g) ∧ (∀ g, blk abb22_0j = some g → ¬ (· = b32) g) ∧ (∀ g, blk abb22_0j = some g → ¬ (· = b31) g) ∧ (∀ g, blk abb22_0j = some g → ¬ (KfF w29.heap.size w57) g) ∧ ¬ (fun k => blk abb22_0j = some k) b1 ∧ ¬ (fun k => blk abb22_0j = some k) b22 ∧ ¬ (fun k => blk abb22_0j = some k) b32 ∧ ¬ (fun k => blk abb22_0j = some k) b31 ∧ Box w127 b1 25 #[(.int .i64 0), (.int .i64 0)] ∧ Box w127 b22 22 #[(.slice abb22_0j (length j126) cbb22_0j)] ∧ Box w127 b32 3 #[(.int .i64 3)] ∧ Box w127 b31 22 #[(.slice pa0_0 (length b_0) pc0_0)] ∧ KeepsFrom w29.heap.size w57 w127 ∧ a.defers = [] ∧ a.tmps.size = 60 ∧ Ok [(3, (bp b1)), (4, (bp b22)), (17, (.func (.func 60) #[] #[bp b31, bp b32]))] a.tmps) ?_ ?_
    ·skip
     refine gv_block <| gv_loop (A := fun (s128 : (Int × (List UInt8))) a w129 => ∃ (abb22_0j : Option Addr) (cbb22_0j : Nat), Below w0.heap.size w0 w129 ∧ w84.heap.size ≤ w129.heap.size ∧ Gv.Own bE 5 w129 (fun _ => False) abb22_0j cbb22_0j s128.2 ∧ (∀ g, blk abb22_0j = some g → w0.heap.size ≤ g) ∧ (∀ g, blk abb22_0j = some g → ¬ (· = b1) g) ∧ (∀ g, blk abb22_0j = some g → ¬ (· = b22) g) ∧ (∀ g, blk abb22_0j = some g → ¬ (· = b32) g) ∧ (∀ g, blk abb22_0j = some g → ¬ (· = b31) g) ∧ (∀ g, blk abb22_0j = some g → ¬ X0 g) ∧ (∀ g, blk abb22_0j = some g → ¬ (KfF w29.heap.size w57) g) ∧ ¬ (fun k => blk abb22_0j = some k) b1 ∧ ¬ (fun k => blk abb22_0j = some k) b22 ∧ ¬ (fun k => blk abb22_0j = some k) b32 ∧ ¬ (fun k => blk abb22_0j = some k) b31 ∧ Box w129 b1 25 #[(.int .i64 0), (.int .i64 0)] ∧ Box w129 b22 22 #[(.slice abb22_0j (length s128.2) cbb22_0j)] ∧ Box w129 b32 3 #[(.int .i64 3)] ∧ Box w129 b31 22 #[(.slice pa0_0 (length b_0) pc0_0)] ∧ Rd bE w129 X0 a77 c78 y43 ∧ KeepsFrom w29.heap.size w57 w129 ∧ a.defers = [] ∧ a.tmps.size = 60 ∧ Ok [(3, (bp b1)), (4, (bp b22)), (5, (.slice a77 (length y43) c78)), (6, (.int .i64 j83)), (17, (.func (.func 60) #[] #[bp b31, bp b32])), (36, (.int .i64 s128.1))] a.tmps) h2 ?_ ?_
     ·intro a hd hs hok
      exact ⟨a61, c62, hB116, nrf, hk123, hl64, ap65, ap66, ap67, ap68, (fun g (e : blk a61 = some g) (hx : X0 g) => nl (hl64 g e) (hX0 _ hx)), (kf_own (B := w29.heap.size) ho63), ap69, ap70, ap71, ap72, hb118, hb119, hb120, hb121, hk122, hk124, hd, hs, okp [3, 4, 5, 6, 17, 36] hok⟩
     ·rintro s128 r3 h3 hR3 a w129 ⟨a132, c133, hB130, hz131, ho134, hl135, ap136, ap137, ap138, ap139, ap140, ap141, ap142, ap143, ap144, ap145, hb146, hb147, hb148, hb149, hk150, hk151, hd, hs, hok⟩
      refine gv_in ?_ hd hs hok
      clear hd hs hok
      clear hk124 hk123 hk122 hb121 hb120 hb119 hb118 hB116 ap72 ap71 ap70 ap69 ap68 ap67 ap66 ap65 hl64 ho63
      refine gv_seq <| gv_regionR <| pN 1 [37] [(37, (.bool (decide (s128.1 < 4))))] ?_
      refine gv_nil <| gv_seq <| gv_cond (b := (decide (s128.1 < 4))) kr (fun hc152 => ?_) (fun hc152 => ?_)
      ·replace h3 := ite_t hc152 h3
       refine gv_skip <| gv_seq <| gv_block <| gv_seq <| gv_regionR <| pN 2 [8, 38] [(8, (.int .i64 s128.1))] ?_
       refine gv_nil <| gv_seq <| gv_regionR <| pN 4 [39, 40, 41, 42] [(42, (.bool (decide (s128.1 ≤ ((length y43 : Nat) : Int)))))] ?_
       refine gv_nil <| bindE h3 ?_; clear h3; intro j153 h4 h3
       refine gv_cut_code (J := fun a w154 => ∃ (abb22_0j : Option Addr) (cbb22_0j : Nat), Below w0.heap.size w0 w154 ∧ w129.heap.size ≤ w154.heap.size ∧ Gv.Own bE 5 w154 (fun _ => False) abb22_0j cbb22_0j j153 ∧ (∀ g, blk abb22_0j = some g → w0.heap.size ≤ g) ∧ (∀ g, blk abb22_0j = some g → ¬ (· = b1) g) ∧ (∀ g, blk abb22_0j = some g → ¬ (· = b22) g) ∧ (∀ g, blk abb22_0j = some g → ¬ (· = b32) g) ∧ (∀ g, blk abb22_0j = some g → ¬ (· = b31) g) ∧ (∀ g, blk abb22_0j = some g → ¬ X0 g) ∧ (∀ g, blk abb22_0j = some g → ¬ (KfF w29.heap.size w57) g) ∧ ¬ (fun k => blk abb22_0j = some k) b1 ∧ ¬ (fun k => blk abb22_0j = some k) b22 ∧ ¬ (fun k => blk abb22_0j = some k) b32 ∧ ¬ (fun k => blk abb22_0j = some k) b31 ∧ Box w154 b1 25 #[(.int .i64 0), (.int .i64 0)] ∧ Box w154 b22 22 #[(.slice abb22_0j (length j153) cbb22_0j)] ∧ Box w154 b32 3 #[(.int .i64 3)] ∧ Box w154 b31 22 #[(.slice pa0_0 (length b_0) pc0_0)] ∧ Rd bE w154 X0 a77 c78 y43 ∧ KeepsFrom w29.heap.size w57 w154 ∧ a.defers = [] ∧ a.tmps.size = 60 ∧ Ok [(3, (bp b1)), (4, (bp b22)), (5, (.slice a77 (length y43) c78)), (6, (.int .i64 j83)), (17, (.func (.func 60) #[] #[bp b31, bp b32])), (36, (.int .i64 s128.1))] a.tmps) ?_ ?_
       ·skip
        refine gv_cond (b := (decide (s128.1 ≤ ((length y43 : Nat) : Int)))) kr (fun hc155 => ?_) (fun hc155 => ?_)
        ·replace h4 := ite_t hc155 h4
         refine gv_drawAR kr ?_
         intro w156 hg157
         refine gv_pre [1, 2, 3, 4, 5, 6, 7] (bA 11 [1, 2, 3, 4, 5, 6, 7]) 4 kr kr ?_
         refine pN 4 [44, 45, 46, 47] [(44, (.int .i64 j83)), (47, (.int .i64 (IntKind.i64.wrap (18 - (IntKind.i64.wrap (6 * s128.1))))))] ?_
         refine bindE h4 ?_; clear h4; intro _ hx158 h4
         refine gv_shift .shr (t := 3) (kk := .i64) (ky := .i64) (x := j83) (y := (IntKind.i64.wrap (18 - (IntKind.i64.wrap (6 * s128.1))))) (shrI .i64 j83 (IntKind.i64.wrap (18 - (IntKind.i64.wrap (6 * s128.1))))) [] (fun e => by cases e) rfl rfl rfl kr kr (nn_spec hx158) (.inr ⟨rfl, rfl⟩) rfl ?_
         refine pN 1 [49] [(49, (.int .i64 (bwAnd .i64 (shrI .i64 j83 (IntKind.i64.wrap (18 - (IntKind.i64.wrap (6 * s128.1))))) 63)))] ?_
         refine bindE h4 ?_; clear h4; intro x159 hx160 h4
         refine gv_sindex (t := 9) (s := (strOf [65, 66, 67, 68, 69, 70, 71, 72, 73, 74, 75, 76, 77, 78, 79, 80, 81, 82, 83, 84, 85, 86, 87, 88, 89, 90, 97, 98, 99, 100, 101, 102, 103, 104, 105, 106, 107, 108, 109, 110, 111, 112, 113, 114, 115, 116, 117, 118, 119, 120, 121, 122, 48, 49, 50, 51, 52, 53, 54, 55, 56, 57, 43, 47])) (kk := .i64) (i := (bwAnd .i64 (shrI .i64 j83 (IntKind.i64.wrap (18 - (IntKind.i64.wrap (6 * s128.1))))) 63)) x159 [] (fun e => by cases e) rfl rfl rfl kr kr Tryd.underlying9 hx160 rfl ?_
         refine gv_nil <| gv_goA ?_
         refine gv_stage (Cls w156 []) [0, 8] [(0, some true), (8, some false)] (bA 11 [0, 1, 2, 3, 4, 5, 6, 7, 8]) 2 kr kr (Cls.refl _ _) ?_
         have hC161 := Cls.refl w156 []
         have hk162 := hb147.grown hg157 nb
         refine gv_load (t := 22) (A := ⟨b22, 0, none⟩) (.slice a132 (length s128.2) c133) [] (fun e => by cases e) rfl rfl rfl kr kr kr (inw1 fun w' hC' => ((hC'.box hk162 nm_nil).cell 0 rfl)) rfl ?_
         refine bindE h4 ?_; clear h4; intro b163 hb164 h4
         have hu165 := u8_spec hb164
         refine gv_new (fun b => .slice (some ⟨b, 0, none⟩) 1 1) #[(.int .u8 x159)] 5 (by decide) rfl rfl kr kr ?_
         intro b166 w167 hg168 hb169 hbe170 hz171
         refine ⟨(fun _ => hC161.grown hg168 nb), ?_⟩
         have ho172 : Gv.Own bE 5 w167 (fun _ => False) (some ⟨b166, 0, none⟩) 1 ([b163] : List UInt8) := Box.ownE hb169 ⟨[(.int .u8 x159)], [], rfl, (by simp only [bE, flat, hu165]), rfl⟩ (show 1 ≤ maxLen by decide) (fun h => h)
         have hB177 := bg hB130 hg157 nb
         have hl173 : ∀ g, blk (some ⟨b166, 0, none⟩) = some g → w0.heap.size ≤ g := loo hbe170 hB177.size
         refine gv_nil <| gv_goA ?_
         refine gv_stage (fun _ => True) [9] [(9, some false)] (bA 11 [0, 1, 2, 3, 4, 5, 6, 7, 8, 9]) 1 kr kr trivial ?_
         refine bindE h4 ?_; clear h4; intro l178 hx179 h4
         have hg186 := (grown_trans hg157 hg168)
         have hk187 := ho134.grown hg186 (fun _ h => h.elim) nb
         refine gv_append bE (t := 22) (ty := 22) (e := 5) (a := a132) (ax := (some ⟨b166, 0, none⟩)) (cap := c133) (cx := 1) (xs := s128.2) (ys := ([b163] : List UInt8)) l178 (X := (fun _ => False)) (Y := (fun k => blk (some ⟨b166, 0, none⟩) = some k)) (by decide) rfl rfl kr kr Tryd.underlying22 info5 hk187 (ho172.rd (Y := fun k => blk (some ⟨b166, 0, none⟩) = some k) (fun _ h => h.elim) (fun g e => e)) hx179 (.inr fun _ _ _ _ _ h => h) (fun _ h => h.elim) ?_
         intro a180 c181 w182 hg183 ho184 hk185
         refine ⟨(fun _ => trivial), ?_⟩
         have hB189 := bg hB177 hg168 nb
         have hl188 : ∀ g, blk a180 = some g → w0.heap.size ≤ g := blk_step hk185 hl135 hB189.size
         have hk191 := hb146.grown hg186 nb
         have ap190 : ∀ g, blk a180 = some g → ¬ (· = b1) g := blk_neX hk185 ap136 (ltb hk191)
         have ap192 : ¬ (fun k => blk a180 = some k) b1 := fun h => blk_rev hk185 (fun h => (ap142) h) (hk191.lt) h
         have hk194 := hk162.grown hg168 nb
         have ap193 : ∀ g, blk a180 = some g → ¬ (· = b22) g := blk_neX hk185 ap137 (ltb hk194)
         have ap195 : ¬ (fun k => blk a180 = some k) b22 := fun h => blk_rev hk185 (fun h => (ap143) h) (hk194.lt) h
         have hk197 := hb148.grown hg186 nb
         have ap196 : ∀ g, blk a180 = some g → ¬ (· = b32) g := blk_neX hk185 ap138 (ltb hk197)
         have ap198 : ¬ (fun k => blk a180 = some k) b32 := fun h => blk_rev hk185 (fun h => (ap144) h) (hk197.lt) h
         have hk200 := hb149.grown hg186 nb
         have ap199 : ∀ g, blk a180 = some g → ¬ (· = b31) g := blk_neX hk185 ap139 (ltb hk200)
         have ap201 : ¬ (fun k => blk a180 = some k) b31 := fun h => blk_rev hk185 (fun h => (ap145) h) (hk200.lt) h
         have hx203 := ltx (fun k hk => ltl ((fun k hk => ltl ((fun k (hk : X0 k) => ltl (hX0 k hk) hB59.size) k hk) hz117) k hk) hz131) hg186.size
         have ap202 : ∀ g, blk a180 = some g → ¬ X0 g := blk_neX hk185 ap140 hx203
         have hk205 := kf_grown hk151 hg186 nb
         have ap204 : ∀ g, blk a180 = some g → ¬ (KfF w29.heap.size w57) g := blk_neX hk185 ap141 (KfF.lt hk205)
         have hk207 := ho134.grown hg157 (fun _ h => h.elim) nb
         have ap208 : ∀ g, blk a132 = some g → ¬ (fun k => blk (some ⟨b166, 0, none⟩) = some k) g := fun g e hx => nl ((lowo hbe170) _ hx) ((fun k (hk : blk a132 = some k) => hk207.lt k hk) g e)
         have ap206 : ∀ g, blk a180 = some g → ¬ (fun k => blk (some ⟨b166, 0, none⟩) = some k) g := blk_neX hk185 ap208 (fun k (hk : blk (some ⟨b166, 0, none⟩) = some k) => ho172.lt k hk)
         have ap210 : ∀ g, blk (some ⟨b166, 0, none⟩) = some g → ¬ (fun k => blk a132 = some k) g := fun g e hx => nl ((lowo hbe170) g e) ((fun k (hk : blk a132 = some k) => hk207.lt k hk) _ hx)
         have ap209 : ∀ g, blk (some ⟨b166, 0, none⟩) = some g → ¬ (fun k => blk a180 = some k) g := fun g e h => blk_rev hk185 (fun h => ((ap210) g e) h) (ho172.lt g e) h
         have hz211 := (nt hg157.size hg168.size)
         clear ap209 ap210 ap206 ap208 hk207 hk185 hg186 hx179 hB177 hz171 hbe170 hb169 hu165 hb164 hk162 hC161 hx160 hx158 hc155 hc152 hk151 hb149 hb148 hb147 hb146 ap145 ap144 ap143 ap142 ho134 hB130
         refine gv_nil <| gv_goA ?_
         refine gv_stage (fun _ => True) [10] [(10, some false)] (bA 11 [0, 1, 2, 3, 4, 5, 6, 7, 8, 9, 10]) 0 kr kr trivial ?_
         have hk216 := hk194.grown hg183 ap137
         refine gv_store (t := 22) (b := b22) (off := 0) (v := (.slice a180 (length l178) c181)) (t' := 22) (cs := #[(.slice a132 (length s128.2) c133)]) #[(.slice a180 (length l178) c181)] (by decide) rfl rfl kr kr kr (by intro u hu; simp [Value.cells] at hu; subst hu; rfl) (show 0 + 1 ≤ 1 by decide) (by rfl) hk216 ?_
         intro w212 hg213 hb214 hz215
         refine ⟨(fun _ => trivial), ?_⟩
         refine gv_nil <| gv_goA ?_
         refine gv_stageE kr ?_
         have e := sj h4; subst e
         refine gv_goal fun a hd hs hok => ?_
         have hB217 := bg hB189 hg183 hl135
         have hB218 := bg hB0 hg3 nb
         have hlo219 : w0.heap.size ≤ b22 := lob hbe26 hB218.size
         have hB220 := bg hB217 hg213 (rowlo hlo219)
         have hz221 := (nt (nt hz211 hg183.size) hg213.size)
         have hk222 := ho184.grown hg213 (fun _ h => h.elim) (rdnn (rowne ap195))
         have lt223 := ltl ((ltb hb4) _ rfl) ((lowb hbe26) _ rfl)
         have hk224 := (hk191.grown hg183 ap136).grown hg213 (rowne (ng lt223))
         have lt225 := ltl ((ltb hb25) _ rfl) ((lowe hx36) _ rfl)
         have hk226 := (hk197.grown hg183 ap138).grown hg213 (rowne (Nat.ne_of_lt lt225))
         have lt227 := ltl ((ltb hb25) _ rfl) ((lowe hx35) _ rfl)
         have hk228 := (hk200.grown hg183 ap139).grown hg213 (rowne (Nat.ne_of_lt lt227))
         have hg229 := (grown_trans hg157 hg168)
         have hx230 := ltx hx203 hg183.size
         have hk231 := ((hk150.grown hg229 (fun k hk => ltl ((fun k hk => ltl ((fun k (hk : X0 k) => ltl (hX0 k hk) hB59.size) k hk) hz117) k hk) hz131) nb).grown hg183 hx203 ap140).grown hg213 hx230 (rowne (fun (hx : X0 b22) => nl hlo219 (hX0 _ hx)))
         have hk232 := kf_grown (kf_grown hk205 hg183 ap141) hg213 (rowne (kf_box (B := w29.heap.size) hb74))
         exact ⟨a180, c181, hB220, hz221, hk222, hl188, ap190, ap193, ap196, ap199, ap202, ap204, ap192, ap195, ap198, ap201, hk224, hb214, hk226, hk228, hk231, hk232, hd, hs, okp [3, 4, 5, 6, 17, 36] hok⟩
        ·replace h4 := ite_f hc155 h4
         refine gv_regionR <| gv_load (t := 22) (A := ⟨b22, 0, none⟩) (.slice a132 (length s128.2) c133) [] (fun e => by cases e) rfl rfl rfl kr kr kr (inw0 (hb147.cell 0 rfl)) rfl ?_
         refine gv_new0 (fun b => .slice (some ⟨b, 0, none⟩) 1 1) #[(.int .u8 61)] 5 kr kr ?_
         intro b233 w234 hg235 hb236 hbe237 hz238
         have ho239 : Gv.Own bE 5 w234 (fun _ => False) (some ⟨b233, 0, none⟩) 1 ([(61 : UInt8)] : List UInt8) := Box.ownE hb236 ⟨[(.int .u8 61)], [], rfl, rfl, rfl⟩ (show 1 ≤ maxLen by decide) (fun h => h)
         have hl240 : ∀ g, blk (some ⟨b233, 0, none⟩) = some g → w0.heap.size ≤ g := loo hbe237 hB130.size
         refine bindE h4 ?_; clear h4; intro l244 hx245 h4
         have hk252 := ho134.grown hg235 (fun _ h => h.elim) nb
         refine gv_append bE (t := 22) (ty := 22) (e := 5) (a := a132) (ax := (some ⟨b233, 0, none⟩)) (cap := c133) (cx := 1) (xs := s128.2) (ys := ([(61 : UInt8)] : List UInt8)) l244 (X := (fun _ => False)) (Y := (fun k => blk (some ⟨b233, 0, none⟩) = some k)) (by decide) rfl rfl kr kr Tryd.underlying22 info5 hk252 (ho239.rd (Y := fun k => blk (some ⟨b233, 0, none⟩) = some k) (fun _ h => h.elim) (fun g e => e)) hx245 (.inr fun _ _ _ _ _ h => h) (fun _ h => h.elim) ?_
         intro a246 c247 w248 hg249 ho250 hk251
         refine ⟨(fun e => by cases e), ?_⟩
         have hB254 := bg hB130 hg235 nb
         have hl253 : ∀ g, blk a246 = some g → w0.heap.size ≤ g := blk_step hk251 hl135 hB254.size
         have hk256 := hb146.grown hg235 nb
         have ap255 : ∀ g, blk a246 = some g → ¬ (· = b1) g := blk_neX hk251 ap136 (ltb hk256)
         have ap257 : ¬ (fun k => blk a246 = some k) b1 := fun h => blk_rev hk251 (fun h => (ap142) h) (hk256.lt) h
         have hk259 := hb147.grown hg235 nb
         have ap258 : ∀ g, blk a246 = some g → ¬ (· = b22) g := blk_neX hk251 ap137 (ltb hk259)
         have ap260 : ¬ (fun k => blk a246 = some k) b22 := fun h => blk_rev hk251 (fun h => (ap143) h) (hk259.lt) h
         have hk262 := hb148.grown hg235 nb
         have ap261 : ∀ g, blk a246 = some g → ¬ (· = b32) g := blk_neX hk251 ap138 (ltb hk262)
         have ap263 : ¬ (fun k => blk a246 = some k) b32 := fun h => blk_rev hk251 (fun h => (ap144) h) (hk262.lt) h
         have hk265 := hb149.grown hg235 nb
         have ap264 : ∀ g, blk a246 = some g → ¬ (· = b31) g := blk_neX hk251 ap139 (ltb hk265)
         have ap266 : ¬ (fun k => blk a246 = some k) b31 := fun h => blk_rev hk251 (fun h => (ap145) h) (hk265.lt) h
         have hx268 := ltx (fun k hk => ltl ((fun k hk => ltl ((fun k (hk : X0 k) => ltl (hX0 k hk) hB59.size) k hk) hz117) k hk) hz131) hg235.size
         have ap267 : ∀ g, blk a246 = some g → ¬ X0 g := blk_neX hk251 ap140 hx268
         have hk270 := kf_grown hk151 hg235 nb
         have ap269 : ∀ g, blk a246 = some g → ¬ (KfF w29.heap.size w57) g := blk_neX hk251 ap141 (KfF.lt hk270)
         have ap272 : ∀ g, blk a132 = some g → ¬ (fun k => blk (some ⟨b233, 0, none⟩) = some k) g := fun g e hx => nl ((lowo hbe237) _ hx) ((fun k (hk : blk a132 = some k) => ho134.lt k hk) g e)
         have ap271 : ∀ g, blk a246 = some g → ¬ (fun k => blk (some ⟨b233, 0, none⟩) = some k) g := blk_neX hk251 ap272 (fun k (hk : blk (some ⟨b233, 0, none⟩) = some k) => ho239.lt k hk)
         have ap274 : ∀ g, blk (some ⟨b233, 0, none⟩) = some g → ¬ (fun k => blk a132 = some k) g := fun g e hx => nl ((lowo hbe237) g e) ((fun k (hk : blk a132 = some k) => ho134.lt k hk) _ hx)
         have ap273 : ∀ g, blk (some ⟨b233, 0, none⟩) = some g → ¬ (fun k => blk a246 = some k) g := fun g e h => blk_rev hk251 (fun h => ((ap274) g e) h) (ho239.lt g e) h
         have hk279 := hk259.grown hg249 ap137
         refine gv_store0 22 0 (.slice a246 (length l244) c247) #[(.slice a246 (length l244) c247)] hk279 kr kr kr ?_
         intro w275 hg276 hb277 hz278
         refine gv_nil ?_
         have e := sj h4; subst e
         refine gv_goal fun a hd hs hok => ?_
         have hB280 := bg hB254 hg249 hl135
         have hB281 := bg hB0 hg3 nb
         have hlo282 : w0.heap.size ≤ b22 := lob hbe26 hB281.size
         have hB283 := bg hB280 hg276 (rowlo hlo282)
         have hz284 := (nt (nt hg235.size hg249.size) hg276.size)
         have hk285 := ho250.grown hg276 (fun _ h => h.elim) (rdnn (rowne ap260))
         have lt286 := ltl ((ltb hb4) _ rfl) ((lowb hbe26) _ rfl)
         have hk287 := (hk256.grown hg249 ap136).grown hg276 (rowne (ng lt286))
         have lt288 := ltl ((ltb hb25) _ rfl) ((lowe hx36) _ rfl)
         have hk289 := (hk262.grown hg249 ap138).grown hg276 (rowne (Nat.ne_of_lt lt288))
         have lt290 := ltl ((ltb hb25) _ rfl) ((lowe hx35) _ rfl)
         have hk291 := (hk265.grown hg249 ap139).grown hg276 (rowne (Nat.ne_of_lt lt290))
         have hx292 := ltx hx268 hg249.size
         have hk293 := ((hk150.grown hg235 (fun k hk => ltl ((fun k hk => ltl ((fun k (hk : X0 k) => ltl (hX0 k hk) hB59.size) k hk) hz117) k hk) hz131) nb).grown hg249 hx268 ap140).grown hg276 hx292 (rowne (fun (hx : X0 b22) => nl hlo282 (hX0 _ hx)))
         have hk294 := kf_grown (kf_grown hk270 hg249 ap141) hg276 (rowne (kf_box (B := w29.heap.size) hb74))
         exact ⟨a246, c247, hB283, hz284, hk285, hl253, ap255, ap258, ap261, ap264, ap267, ap269, ap257, ap260, ap263, ap266, hk287, hb277, hk289, hk291, hk293, hk294, hd, hs, okp [3, 4, 5, 6, 17, 36] hok⟩
       ·rintro a w154 ⟨a297, c298, hB295, hz296, ho299, hl300, ap301, ap302, ap303, ap304, ap305, ap306, ap307, ap308, ap309, ap310, hb311, hb312, hb313, hb314, hk315, hk316, hd, hs, hok⟩
        refine gv_in ?_ hd hs hok
        clear hd hs hok
        have hz317 := (nt hz131 hz296)
        clear hc152 hk151 hk150 hb149 hb148 hb147 hb146 ap145 ap144 ap143 ap142 ap141 ap140 ap139 ap138 ap137 ap136 hl135 ho134 hB130
        refine gv_blk <| gv_regionR <| pN 2 [36, 56] [(36, (.int .i64 (IntKind.i64.wrap (s128.1 + 1))))] ?_
        refine gv_nil ?_
        have e := sj h3; subst e
        refine gv_goal fun a hd hs hok => ?_
        have hz318 := hz317
        exact ⟨((IntKind.i64.wrap (s128.1 + 1)), j153), rfl, a297, c298, hB295, hz318, ho299, hl300, ap301, ap302, ap303, ap304, ap305, ap306, ap307, ap308, ap309, ap310, hb311, hb312, hb313, hb314, hk315, hk316, hd, hs, okp [3, 4, 5, 6, 17, 36] hok⟩
      ·replace h3 := ite_f hc152 h3
       refine gv_cexit <| gv_exit rfl ?_
       have e := sj h3; subst e
       replace h2 := congrArg some (hR3 _ rfl)
       have e := sj h2; subst e
       refine gv_goal fun a hd hs hok => ?_
       have hz319 := hz131
       exact ⟨a132, c133, hB130, hz319, ho134, hl135, ap136, ap137, ap138, ap139, ap141, ap142, ap143, ap144, ap145, hb146, hb147, hb148, hb149, hk151, hd, hs, okp [3, 4, 17] hok⟩
    ·rintro a w127 ⟨a322, c323, hB320, hz321, ho324, hl325, ap326, ap327, ap328, ap329, ap330, ap331, ap332, ap333, ap334, hb335, hb336, hb337, hb338, hk339, hd, hs, hok⟩
     refine gv_in ?_ hd hs hok
     clear hd hs hok
     have hz340 := (nt hz125 hz321)
     clear hz321 hz125 hk124 hk123 hk122 hb121 hb120 hb119 hb118 hz117 hB116 ap72 ap71 ap70 ap69 ap68 ap67 ap66 ap65 hl64 ho63 hB59
     refine gv_blk ?_
     have e := sj h1; subst e
     have hz341 := hz340
     exact fun a hd hs hok => ⟨hk339, KpC.box hb76 hb75 hb338 hb337, j126, chunk_snoc hst56 hy80 hR1, a322, c323, hB320, hz341, ho324, hl325, ap326, ap327, ap328, ap329, ap331, ap332, ap333, ap334, hb335, hb336, hb337, hb338⟩
  have hg342 := (grown_trans hg24 hg30)
  have hk343 := hb4.grown hg342 nb
  have hk344 := hb25.grown hg30 nb
  ·exact ⟨_, rfl, none, 0, hB49, nrf, (Gv.Own.nil bE 5 w29 (fun _ => False)), (fun _ h => by cases h), (fun _ h => by cases h), (fun _ h => by cases h), (fun _ h => by cases h), (fun _ h => by cases h), (fun h => by cases h), (fun h => by cases h), (fun h => by cases h), (fun h => by cases h), hk343, hk344, hb34, hb33⟩
  ·rintro pre w345 w346 row347 ⟨s350, hst351, a354, c355, hB352, hz353, ho356, hl357, ap358, ap359, ap360, ap361, ap362, ap363, ap364, ap365, hb366, hb367, hb368, hb369⟩ hg348 hf349
   have hz370 := (nt hz353 hg348.size)
   exact ⟨s350, hst351, a354, c355, (bg hB352 hg348 (Fars.lo hf349 hz50)), hz370, (ho356.grown hg348 (fun _ h => h.elim) (Fars.own hf349 ho356 (fun _ h => h.elim))), hl357, ap358, ap359, ap360, ap361, ap362, ap363, ap364, ap365, (hb366.grown hg348 (Fars.box hf349 hb366)), (hb367.grown hg348 (Fars.box hf349 hb367)), (hb368.grown hg348 (Fars.box hf349 hb368)), (hb369.grown hg348 (Fars.box hf349 hb369))⟩
  ·rintro D371 _ w375 hD372 rfl ⟨s376, hst373, a379, c380, hB377, hz378, ho381, hl382, ap383, ap384, ap385, ap386, ap387, ap388, ap389, ap390, hb391, hb392, hb393, hb394⟩ hAt374
   rw [chunks_fin] at hst373
   have e := sj (hst373.symm.trans hF40); subst e
   have hlo395 : w0.heap.size ≤ D371 := Nat.le_trans hz50 hD372
   refine gv_blk <| gv_seq <| gv_region <| gv_sub [3, 4, 17] (σ' := [(3, (bp b1)), (4, (bp b22)), (17, (.func (.func 60) #[] #[bp b31, bp b32]))]) kr ?_
   refine gv_load (t := 22) (A := ⟨b22, 0, none⟩) (.slice a379 (length s376) c380) [] (fun e => by cases e) rfl rfl rfl kr kr kr (inw0 (hb392.cell 0 rfl)) rfl ?_
   refine gv_b2s (src := 22) (dst := 9) (e := 5) (xs := s376) (a := a379) (cap := c380) (X := (fun k => blk a379 = some k)) [] (fun e => by cases e) rfl rfl rfl kr kr Tryd.underlying22 Tryd.underlying5 Tryd.underlying9 (inw0 (ho381.rd (Y := fun k => blk a379 = some k) (fun _ h => h.elim) (fun g e => e))) rfl ?_
   refine pN 2 [2, 59] [(2, (.string (strOf s376))), (59, (.agg #[(.int .i64 0), (.int .i64 0)]))] ?_
   refine gv_store0 25 0 (.agg #[(.int .i64 0), (.int .i64 0)]) #[(.int .i64 0), (.int .i64 0)] hb391 kr kr kr ?_
   intro w396 hg397 hb398 hz399
   refine gv_nil <| gv_cret ?_
   have e := sj h0; subst e
   have ap403 := at_box hAt374 rfl hb391
   have hk404 := hAt374.grown hg397 (rowne (Ne.symm ap403))
   refine gv_ret (gv_mark hk404 ?_)
   intro w400 hg401 hz402
   have hk405 := hb398.grown hg401 (rowne ap403)
   refine gv_doneM [(.string (strOf s376)), (.agg #[(.int .i64 0), (.int .i64 0)])] rfl ⟨kr, ⟨⟨b1, 0, none⟩, kr, run_loadVar_row w400 b1 _ 25 _ _ _ hk405 Tryd.underlying25 rfl kr⟩, trivial⟩ ?_
   have hlo406 : w0.heap.size ≤ b1 := lob hbe5 hB0.size
   have hB407 := bg hB377 hg397 (rowlo hlo406)
   have hB408 := bg hB407 hg401 (rowlo hlo395)
   exact ⟨grown_of_below hB408, rfl⟩

theorem utf8_decodeRuneSlow_ok (fuel : Nat) (pa0_0 : Option Addr) (pc0_0 : Nat) (p_0 : (List UInt8)) (w0 : World) (X0 : Nat → Prop) (hX0 : ∀ k, X0 k → k < w0.heap.size) (hpa0_0 : Rd bE w0 X0 pa0_0 pc0_0 p_0) (hG0 : Rd bE w0 X0 (some ⟨0, 0, none⟩) 256 utf8First) (hG1 : Rd (prE (iE .u8) (iE .u8)) w0 X0 (some ⟨1, 0, none⟩) 16 utf8Acc) (r0 : (Int × Int)) (h0 : utf8_decodeRuneSlow fuel p_0 = some r0) :
    Calls Tryd.prog 81 ([(.slice pa0_0 (length p_0) pc0_0)] : List Value).toArray w0 (Ret fun v w' => w0.grownBy w' none ∧ v = tup [(.int .i32 r0.1), (.int .i64 r0.2)]) := by
 have hB0 : Below w0.heap.size w0 w0 := Below.refl _ _
 unfold utf8_decodeRuneSlow at h0
 refine calls_run Tryd.func81 rfl Tryd.ntmps81 kr ?_
 refine gv_sub [0] (σ' := [(0, (.slice pa0_0 (length p_0) pc0_0))]) kr ?_
 refine gv_seq <| gv_region <| pN 2 [2, 3] [] ?_
 refine gv_nil <| gv_seq <| gv_region <| pN 3 [4, 13, 14] [(4, (.int .i64 ((length p_0 : Nat) : Int)))] ?_
 refine gv_nil <| gv_seq <| gv_seq <| gv_region <| pN 2 [15, 16] [(16, (.bool (decide (((length p_0 : Nat) : Int) < 1))))] ?_
 refine gv_nil <| gv_cond (b := (decide (((length p_0 : Nat) : Int) < 1))) kr (fun hc1 => ?_) (fun hc1 => ?_)
 ·replace h0 := ite_t hc1 h0
  refine gv_seq <| gv_region <| pN 2 [2, 3] [(2, (.int .i32 65533)), (3, (.int .i64 0))] ?_
  refine gv_nil <| gv_cret ?_
  have e := sj h0; subst e
  refine gv_ret (gv_done [(.int .i32 65533), (.int .i64 0)] rfl ⟨kr, kr, trivial⟩ ?_)
  exact ⟨grown_of_below hB0, rfl⟩
 ·replace h0 := ite_f hc1 h0
  refine gv_skip <| gv_seq <| gv_region <| pN 1 [17] [(17, (.slice pa0_0 (length p_0) pc0_0))] ?_
  refine bindE h0 ?_; clear h0; intro x2 hx3 h0
  refine gv_idxaddr (t := 22) (e := 5) (a := pa0_0) (len := length p_0) (cap := pc0_0) (kk := .i64) (i := 0) (sz := 1) [] (fun e => by cases e) rfl rfl rfl kr kr Tryd.underlying22 kr ((hpa0_0.below hB0 hX0).has hx3) (idx_spec hx3).1 (idx_spec hx3).2.1 rfl ?_
  refine gv_load (t := 5) (A := (elemAddr pa0_0 ((0 : Int).toNat * 1))) (.int .u8 ((x2).toNat : Int)) [] (fun e => by cases e) rfl rfl rfl kr kr kr (inw0 ((hpa0_0.below hB0 hX0).cell hx3)) rfl ?_
  refine pN 1 [5] [(5, (.int .u8 ((x2).toNat : Int)))] ?_
  refine gv_nil <| gv_seq <| gv_region <| pN 1 [20] [(20, (.int .u8 ((x2).toNat : Int)))] ?_
  refine bindE h0 ?_; clear h0; intro x4 hx5 h0
  refine gv_idxarr (t := 93) (e := 5) (A := ⟨0, 0, none⟩) (len := 256) (kk := .u8) (i := ((x2).toNat : Int)) (sz := 1) [] (fun e => by cases e) rfl rfl rfl kr kr Tryd.underlying93 kr (idx_spec hx5).1 (by have e := (idx_spec hx5).2.1; rw [utf8First_len] at e; exact e) rfl ?_
  refine gv_load (t := 5) (A := (elemAddr (some ⟨0, 0, none⟩) ((((x2).toNat : Int) : Int).toNat * 1))) (.int .u8 ((x4).toNat : Int)) [] (fun e => by cases e) rfl rfl rfl kr kr kr (inw0 ((hG0.below hB0 hX0).cell hx5)) rfl ?_
  refine pN 1 [6] [(6, (.int .u8 ((x4).toNat : Int)))] ?_
  refine gv_nil <| gv_seq <| gv_seq <| gv_region <| pN 2 [23, 24] [(24, (.bool (decide (((x4).toNat : Int) ≥ 240))))] ?_
  refine gv_nil <| gv_cond (b := (decide (((x4).toNat : Int) ≥ 240))) kr (fun hc6 => ?_) (fun hc6 => ?_)
  ·replace h0 := ite_t hc6 h0
   refine gv_seq <| gv_region <| pN 5 [7, 25, 26, 27, 28] [(7, (.int .i32 (((IntKind.i32.wrap ((IntKind.i32.wrap (((x4).toNat : Int))) * 2 ^ 31))).fdiv (2 ^ 31))))] ?_
   refine bindE h0 ?_; clear h0; intro n7 hn8 h0
   refine gv_name (s := 7) (v := (.int .i32 (((IntKind.i32.wrap ((IntKind.i32.wrap (((x4).toNat : Int))) * 2 ^ 31))).fdiv (2 ^ 31)))) (v' := (.int .i32 n7)) kr (congrArg (Value.int .i32) (sj hn8)) ?_
   refine gv_nil <| gv_seq <| gv_region <| pN 1 [29] [(29, (.slice pa0_0 (length p_0) pc0_0))] ?_
   refine gv_sub [7, 29] (σ' := [(7, (.int .i32 n7)), (29, (.slice pa0_0 (length p_0) pc0_0))]) kr ?_
   refine bindE h0 ?_; clear h0; intro x9 hx10 h0
   refine gv_idxaddr (t := 22) (e := 5) (a := pa0_0) (len := length p_0) (cap := pc0_0) (kk := .i64) (i := 0) (sz := 1) [] (fun e => by cases e) rfl rfl rfl kr kr Tryd.underlying22 kr ((hpa0_0.below hB0 hX0).has hx10) (idx_spec hx10).1 (idx_spec hx10).2.1 rfl ?_
   refine gv_load (t := 5) (A := (elemAddr pa0_0 ((0 : Int).toNat * 1))) (.int .u8 ((x9).toNat : Int)) [] (fun e => by cases e) rfl rfl rfl kr kr kr (inw0 ((hpa0_0.below hB0 hX0).cell hx10)) rfl ?_
   refine pN 8 [2, 3, 32, 33, 34, 35, 36, 37] [(2, (.int .i32 (bwOr .i32 (bwAndNot .i32 (IntKind.i32.wrap (((x9).toNat : Int))) n7) (bwAnd .i32 65533 n7)))), (3, (.int .i64 1))] ?_
   refine bindE h0 ?_; clear h0; intro n11 hn12 h0
   refine gv_name (s := 2) (v := (.int .i32 (bwOr .i32 (bwAndNot .i32 (IntKind.i32.wrap (((x9).toNat : Int))) n7) (bwAnd .i32 65533 n7)))) (v' := (.int .i32 n11)) kr (congrArg (Value.int .i32) (sj hn12)) ?_
   refine gv_nil <| gv_cret ?_
   have e := sj h0; subst e
   refine gv_ret (gv_done [(.int .i32 n11), (.int .i64 1)] rfl ⟨kr, kr, trivial⟩ ?_)
   exact ⟨grown_of_below hB0, rfl⟩
  ·replace h0 := ite_f hc6 h0
   refine gv_skip <| gv_seq <| gv_region <| pN 4 [8, 38, 39, 40] [(8, (.int .i64 (IntKind.i64.wrap ((bwAnd .u8 ((x4).toNat : Int) 7)))))] ?_
   refine bindE h0 ?_; clear h0; intro n13 hn14 h0
   refine gv_name (s := 8) (v := (.int .i64 (IntKind.i64.wrap ((bwAnd .u8 ((x4).toNat : Int) 7))))) (v' := (.int .i64 n13)) kr (congrArg (Value.int .i64) (sj hn14)) ?_
   refine gv_nil <| gv_seq <| gv_region <| pN 2 [41, 42] [(42, (.int .u8 ((((x4).toNat : Int)).fdiv (2 ^ 4))))] ?_
   refine gv_sub [0, 4, 5, 8, 42] (σ' := [(0, (.slice pa0_0 (length p_0) pc0_0)), (4, (.int .i64 ((length p_0 : Nat) : Int))), (5, (.int .u8 ((x2).toNat : Int))), (8, (.int .i64 n13)), (42, (.int .u8 ((((x4).toNat : Int)).fdiv (2 ^ 4))))]) kr ?_
   refine bindE h0 ?_; clear h0; intro x15 hx16 h0
   refine gv_idxarr (t := 96) (e := 95) (A := ⟨1, 0, none⟩) (len := 16) (kk := .u8) (i := ((((x4).toNat : Int)).fdiv (2 ^ 4))) (sz := 2) [] (fun e => by cases e) rfl rfl rfl kr kr Tryd.underlying96 kr (idx_spec hx16).1 (by have e := (idx_spec hx16).2.1; rw [utf8Acc_len] at e; exact e) rfl ?_
   obtain ⟨_, ⟨_, _, rfl, rfl, rfl⟩, hc17⟩ := hG1.cellsK hx16
   refine gv_loadAgg (t := 95) (A := (elemAddr (some ⟨1, 0, none⟩) ((((((x4).toNat : Int)).fdiv (2 ^ 4)) : Int).toNat * 2))) #[(.int .u8 x15.1), (.int .u8 x15.2)] [] (fun e => by cases e) rfl rfl rfl kr kr kr kr (inw0 (hc17 w0 (fun k hk => hB0.block k (hX0 k hk)))) rfl ?_
   refine gv_new0 (fun b => .pointer (some ⟨b, 0, none⟩)) #[(.int .u8 0), (.int .u8 0)] 95 kr kr ?_
   intro b18 w19 hg20 hb21 hbe22 hz23
   refine gv_store0 95 0 (.agg #[(.int .u8 x15.1), (.int .u8 x15.2)]) #[(.int .u8 x15.1), (.int .u8 x15.2)] hb21 kr kr kr ?_
   intro w24 hg25 hb26 hz27
   refine gv_nil <| gv_seq <| gv_seq <| gv_region <| pN 3 [45, 46, 47] [(47, (.bool (decide (((length p_0 : Nat) : Int) < n13))))] ?_
   refine gv_nil <| gv_cond (b := (decide (((length p_0 : Nat) : Int) < n13))) kr (fun hc28 => ?_) (fun hc28 => ?_)
   ·replace h0 := ite_t hc28 h0
    refine gv_seq <| gv_region <| pN 2 [2, 3] [(2, (.int .i32 65533)), (3, (.int .i64 1))] ?_
    refine gv_nil <| gv_cret ?_
    have e := sj h0; subst e
    refine gv_ret (gv_done [(.int .i32 65533), (.int .i64 1)] rfl ⟨kr, kr, trivial⟩ ?_)
    have hB29 := bg hB0 hg20 nb
    have hlo30 : w0.heap.size ≤ b18 := lob hbe22 hB0.size
    have hB31 := bg hB29 hg25 (rowlo hlo30)
    exact ⟨grown_of_below hB31, rfl⟩
   ·replace h0 := ite_f hc28 h0
    refine gv_skip <| gv_seq <| gv_region <| pN 1 [48] [(48, (.slice pa0_0 (length p_0) pc0_0))] ?_
    refine bindE h0 ?_; clear h0; intro x32 hx33 h0
    have hB34 := bg hB0 hg20 nb
    have hlo35 : w0.heap.size ≤ b18 := lob hbe22 hB0.size
    have hB36 := bg hB34 hg25 (rowlo hlo35)
    refine gv_idxaddr (t := 22) (e := 5) (a := pa0_0) (len := length p_0) (cap := pc0_0) (kk := .i64) (i := 1) (sz := 1) [] (fun e => by cases e) rfl rfl rfl kr kr Tryd.underlying22 kr ((hpa0_0.below hB36 hX0).has hx33) (idx_spec hx33).1 (idx_spec hx33).2.1 rfl ?_
    refine gv_load (t := 5) (A := (elemAddr pa0_0 ((1 : Int).toNat * 1))) (.int .u8 ((x32).toNat : Int)) [] (fun e => by cases e) rfl rfl rfl kr kr kr (inw0 ((hpa0_0.below hB36 hX0).cell hx33)) rfl ?_
    refine pN 1 [10] [(10, (.int .u8 ((x32).toNat : Int)))] ?_
    refine gv_nil <| gv_seq <| gv_seq <| gv_region <| bindE h0 ?_; clear h0; intro j37 h1 h0
    refine gv_cut_ops (J := fun a w38 => Below w0.heap.size w0 w38 ∧ w24.heap.size ≤ w38.heap.size ∧ a.defers = [] ∧ a.tmps.size = 122 ∧ Ok [(0, (.slice pa0_0 (length p_0) pc0_0)), (5, (.int .u8 ((x2).toNat : Int))), (8, (.int .i64 n13)), (10, (.int .u8 ((x32).toNat : Int))), (60, (.bool j37))] a.tmps) ?_ ?_
    ·skip
     refine pN 2 [51, 52] [(51, (.int .u8 ((x32).toNat : Int))), (52, (bp b18))] ?_
     refine gv_load (t := 5) (A := ⟨b18, 0, none⟩) (.int .u8 x15.1) [] (fun e => by cases e) rfl rfl rfl kr kr kr (inw0 (hb26.cell 0 rfl)) rfl ?_
     refine pN 2 [54, 55] [(55, (.bool (decide (((x32).toNat : Int) < x15.1))))] ?_
     refine gv_split (s := 55) (g := (decide (((x32).toNat : Int) < x15.1))) kr (fun hc39 => ?_) (fun hc39 => ?_)
     ·skip
      replace h1 := ite_t hc39 h1
      refine pN 5 [56, 57, 58, 59, 60] [(60, (.bool true))] ?_
      refine gv_nil ?_
      have e := sj h1; subst e
      refine gv_goal fun a hd hs hok => ?_
      exact ⟨hB36, nrf, hd, hs, okp [0, 5, 8, 10, 60] hok⟩
     ·skip
      replace h1 := ite_f hc39 h1
      refine pN 1 [56] [(56, (.pointer (some ⟨b18, 1, none⟩)))] ?_
      refine gv_load (t := 5) (A := ⟨b18, 1, none⟩) (.int .u8 x15.2) [] (fun e => by cases e) rfl rfl rfl kr kr kr (inw0 (hb26.cell 1 rfl)) rfl ?_
      refine pN 3 [58, 59, 60] [(60, (.bool (decide (x15.2 < ((x32).toNat : Int)))))] ?_
      refine gv_sub [0, 5, 8, 10, 60] (σ' := [(0, (.slice pa0_0 (length p_0) pc0_0)), (5, (.int .u8 ((x2).toNat : Int))), (8, (.int .i64 n13)), (10, (.int .u8 ((x32).toNat : Int))), (60, (.bool (decide (x15.2 < ((x32).toNat : Int)))))]) kr ?_
      refine gv_nil ?_
      have e := sj h1; subst e
      refine gv_goal fun a hd hs hok => ?_
      exact ⟨hB36, nrf, hd, hs, okp [0, 5, 8, 10, 60] hok⟩
    ·rintro a w38 ⟨hB40, hz41, hd, hs, hok⟩
     refine gv_in ?_ hd hs hok
     clear hd hs hok
     clear hz41 hB36 hlo35 hB34 hx33 hc28 hz27 hb26 hg25 hz23 hbe22 hb21 hg20 hc17 hx16 hn14 hc6 hx5 hx3 hc1
     refine gv_cond (b := j37) kr (fun hc42 => ?_) (fun hc42 => ?_)
     ·replace h0 := ite_t hc42 h0
      refine gv_seq <| gv_region <| pN 2 [2, 3] [(2, (.int .i32 65533)), (3, (.int .i64 1))] ?_
      refine gv_nil <| gv_cret ?_
      have e := sj h0; subst e
      refine gv_ret (gv_done [(.int .i32 65533), (.int .i64 1)] rfl ⟨kr, kr, trivial⟩ ?_)
      exact ⟨grown_of_below hB40, rfl⟩
     ·replace h0 := ite_f hc42 h0
      refine gv_skip <| gv_seq <| gv_seq <| gv_region <| pN 2 [61, 62] [(62, (.bool (decide (n13 ≤ 2))))] ?_
      refine gv_nil <| gv_cond (b := (decide (n13 ≤ 2))) kr (fun hc43 => ?_) (fun hc43 => ?_)
      ·replace h0 := ite_t hc43 h0
       refine gv_seq <| gv_region <| pN 10 [2, 3, 63, 64, 65, 66, 67, 68, 69, 70] [(2, (.int .i32 (bwOr .i32 (IntKind.i32.wrap ((IntKind.i32.wrap ((bwAnd .u8 ((x2).toNat : Int) 31))) * 2 ^ 6)) (IntKind.i32.wrap ((bwAnd .u8 ((x32).toNat : Int) 63)))))), (3, (.int .i64 2))] ?_
       refine bindE h0 ?_; clear h0; intro n44 hn45 h0
       refine gv_name (s := 2) (v := (.int .i32 (bwOr .i32 (IntKind.i32.wrap ((IntKind.i32.wrap ((bwAnd .u8 ((x2).toNat : Int) 31))) * 2 ^ 6)) (IntKind.i32.wrap ((bwAnd .u8 ((x32).toNat : Int) 63)))))) (v' := (.int .i32 n44)) kr (congrArg (Value.int .i32) (sj hn45)) ?_
       refine gv_nil <| gv_cret ?_
       have e := sj h0; subst e
       refine gv_ret (gv_done [(.int .i32 n44), (.int .i64 2)] rfl ⟨kr, kr, trivial⟩ ?_)
       exact ⟨grown_of_below hB40, rfl⟩
      ·replace h0 := ite_f hc43 h0
       refine gv_skip <| gv_seq <| gv_region <| pN 1 [71] [(71, (.slice pa0_0 (length p_0) pc0_0))] ?_
       refine bindE h0 ?_; clear h0; intro x46 hx47 h0
       refine gv_idxaddr (t := 22) (e := 5) (a := pa0_0) (len := length p_0) (cap := pc0_0) (kk := .i64) (i := 2) (sz := 1) [] (fun e => by cases e) rfl rfl rfl kr kr Tryd.underlying22 kr ((hpa0_0.below hB40 hX0).has hx47) (idx_spec hx47).1 (idx_spec hx47).2.1 rfl ?_
       refine gv_load (t := 5) (A := (elemAddr pa0_0 ((2 : Int).toNat * 1))) (.int .u8 ((x46).toNat : Int)) [] (fun e => by cases e) rfl rfl rfl kr kr kr (inw0 ((hpa0_0.below hB40 hX0).cell hx47)) rfl ?_
       refine pN 1 [11] [(11, (.int .u8 ((x46).toNat : Int)))] ?_
       refine gv_nil <| gv_seq <| gv_seq <| gv_region <| gv_cut_ops (J := fun a w48 => w38 = w48 ∧ a.defers = [] ∧ a.tmps.size = 122 ∧ Ok [(0, (.slice pa0_0 (length p_0) pc0_0)), (5, (.int .u8 ((x2).toNat : Int))), (8, (.int .i64 n13)), (10, (.int .u8 ((x32).toNat : Int))), (11, (.int .u8 ((x46).toNat : Int))), (79, (.bool ((decide (((x46).toNat : Int) < 128)) || (decide (191 < ((x46).toNat : Int))))))] a.tmps) ?_ ?_
       ·skip
        refine pN 3 [74, 75, 76] [(76, (.bool (decide (((x46).toNat : Int) < 128))))] ?_
        refine gv_split (s := 76) (g := (decide (((x46).toNat : Int) < 128))) kr (fun hc49 => ?_) (fun hc49 => ?_)
        ·skip
         refine pN 3 [77, 78, 79] [(79, (.bool true))] ?_
         refine gv_nil <| gv_sub [0, 5, 8, 10, 11, 79] (σ' := [(0, (.slice pa0_0 (length p_0) pc0_0)), (5, (.int .u8 ((x2).toNat : Int))), (8, (.int .i64 n13)), (10, (.int .u8 ((x32).toNat : Int))), (11, (.int .u8 ((x46).toNat : Int))), (79, (.bool true))]) kr ?_
         refine gv_goal fun a hd hs hok => ⟨rfl, hd, hs, ?_⟩
         obtain ⟨q0, q5, q8, q10, q11, q79, _⟩ := hok
         exact ⟨q0, q5, q8, q10, q11, (by rw [hc49]; exact q79), trivial⟩
        ·skip
         refine pN 3 [77, 78, 79] [(79, (.bool (decide (191 < ((x46).toNat : Int)))))] ?_
         refine gv_nil <| gv_sub [0, 5, 8, 10, 11, 79] (σ' := [(0, (.slice pa0_0 (length p_0) pc0_0)), (5, (.int .u8 ((x2).toNat : Int))), (8, (.int .i64 n13)), (10, (.int .u8 ((x32).toNat : Int))), (11, (.int .u8 ((x46).toNat : Int))), (79, (.bool (decide (191 < ((x46).toNat : Int)))))]) kr ?_
         refine gv_goal fun a hd hs hok => ⟨rfl, hd, hs, ?_⟩
         obtain ⟨q0, q5, q8, q10, q11, q79, _⟩ := hok
         exact ⟨q0, q5, q8, q10, q11, (by rw [hc49]; exact q79), trivial⟩
       ·rintro a w48 ⟨e, hd, hs, hok⟩; subst e
        refine gv_in ?_ hd hs hok
        clear hd hs hok
        refine gv_cond (b := ((decide (((x46).toNat : Int) < 128)) || (decide (191 < ((x46).toNat : Int))))) kr (fun hc50 => ?_) (fun hc50 => ?_)
        ·replace h0 := ite_t hc50 h0
         refine gv_seq <| gv_region <| pN 2 [2, 3] [(2, (.int .i32 65533)), (3, (.int .i64 1))] ?_
         refine gv_nil <| gv_cret ?_
         have e := sj h0; subst e
         refine gv_ret (gv_done [(.int .i32 65533), (.int .i64 1)] rfl ⟨kr, kr, trivial⟩ ?_)
         exact ⟨grown_of_below hB40, rfl⟩
        ·replace h0 := ite_f hc50 h0
         refine gv_skip <| gv_seq <| gv_seq <| gv_region <| pN 2 [80, 81] [(81, (.bool (decide (n13 ≤ 3))))] ?_
         refine gv_nil <| gv_cond (b := (decide (n13 ≤ 3))) kr (fun hc51 => ?_) (fun hc51 => ?_)
         ·replace h0 := ite_t hc51 h0
          refine gv_seq <| gv_region <| pN 15 [2, 3, 82, 83, 84, 85, 86, 87, 88, 89, 90, 91, 92, 93, 94] [(2, (.int .i32 (bwOr .i32 (bwOr .i32 (IntKind.i32.wrap ((IntKind.i32.wrap ((bwAnd .u8 ((x2).toNat : Int) 15))) * 2 ^ 12)) (IntKind.i32.wrap ((IntKind.i32.wrap ((bwAnd .u8 ((x32).toNat : Int) 63))) * 2 ^ 6))) (IntKind.i32.wrap ((bwAnd .u8 ((x46).toNat : Int) 63)))))), (3, (.int .i64 3))] ?_
          refine bindE h0 ?_; clear h0; intro n52 hn53 h0
          refine gv_name (s := 2) (v := (.int .i32 (bwOr .i32 (bwOr .i32 (IntKind.i32.wrap ((IntKind.i32.wrap ((bwAnd .u8 ((x2).toNat : Int) 15))) * 2 ^ 12)) (IntKind.i32.wrap ((IntKind.i32.wrap ((bwAnd .u8 ((x32).toNat : Int) 63))) * 2 ^ 6))) (IntKind.i32.wrap ((bwAnd .u8 ((x46).toNat : Int) 63)))))) (v' := (.int .i32 n52)) kr (congrArg (Value.int .i32) (sj hn53)) ?_
          refine gv_nil <| gv_cret ?_
          have e := sj h0; subst e
          refine gv_ret (gv_done [(.int .i32 n52), (.int .i64 3)] rfl ⟨kr, kr, trivial⟩ ?_)
          exact ⟨grown_of_below hB40, rfl⟩
         ·replace h0 := ite_f hc51 h0
          refine gv_skip <| gv_seq <| gv_region <| pN 1 [95] [(95, (.slice pa0_0 (length p_0) pc0_0))] ?_
          refine bindE h0 ?_; clear h0; intro x54 hx55 h0
          refine gv_idxaddr (t := 22) (e := 5) (a := pa0_0) (len := length p_0) (cap := pc0_0) (kk := .i64) (i := 3) (sz := 1) [] (fun e => by cases e) rfl rfl rfl kr kr Tryd.underlying22 kr ((hpa0_0.below hB40 hX0).has hx55) (idx_spec hx55).1 (idx_spec hx55).2.1 rfl ?_
          refine gv_load (t := 5) (A := (elemAddr pa0_0 ((3 : Int).toNat * 1))) (.int .u8 ((x54).toNat : Int)) [] (fun e => by cases e) rfl rfl rfl kr kr kr (inw0 ((hpa0_0.below hB40 hX0).cell hx55)) rfl ?_
          refine pN 1 [12] [(12, (.int .u8 ((x54).toNat : Int)))] ?_
          refine gv_nil <| gv_seq <| gv_seq <| gv_region <| gv_cut_ops (J := fun a w56 => w38 = w56 ∧ a.defers = [] ∧ a.tmps.size = 122 ∧ Ok [(5, (.int .u8 ((x2).toNat : Int))), (10, (.int .u8 ((x32).toNat : Int))), (11, (.int .u8 ((x46).toNat : Int))), (12, (.int .u8 ((x54).toNat : Int))), (103, (.bool ((decide (((x54).toNat : Int) < 128)) || (decide (191 < ((x54).toNat : Int))))))] a.tmps) ?_ ?_
          ·skip
           refine pN 3 [98, 99, 100] [(100, (.bool (decide (((x54).toNat : Int) < 128))))] ?_
           refine gv_split (s := 100) (g := (decide (((x54).toNat : Int) < 128))) kr (fun hc57 => ?_) (fun hc57 => ?_)
           ·skip
            refine pN 3 [101, 102, 103] [(103, (.bool true))] ?_
            refine gv_nil <| gv_sub [5, 10, 11, 12, 103] (σ' := [(5, (.int .u8 ((x2).toNat : Int))), (10, (.int .u8 ((x32).toNat : Int))), (11, (.int .u8 ((x46).toNat : Int))), (12, (.int .u8 ((x54).toNat : Int))), (103, (.bool true))]) kr ?_
            refine gv_goal fun a hd hs hok => ⟨rfl, hd, hs, ?_⟩
            obtain ⟨q5, q10, q11, q12, q103, _⟩ := hok
            exact ⟨q5, q10, q11, q12, (by rw [hc57]; exact q103), trivial⟩
           ·skip
            refine pN 3 [101, 102, 103] [(103, (.bool (decide (191 < ((x54).toNat : Int)))))] ?_
            refine gv_nil <| gv_sub [5, 10, 11, 12, 103] (σ' := [(5, (.int .u8 ((x2).toNat : Int))), (10, (.int .u8 ((x32).toNat : Int))), (11, (.int .u8 ((x46).toNat : Int))), (12, (.int .u8 ((x54).toNat : Int))), (103, (.bool (decide (191 < ((x54).toNat : Int)))))]) kr ?_
            refine gv_goal fun a hd hs hok => ⟨rfl, hd, hs, ?_⟩
            obtain ⟨q5, q10, q11, q12, q103, _⟩ := hok
            exact ⟨q5, q10, q11, q12, (by rw [hc57]; exact q103), trivial⟩
          ·rintro a w56 ⟨e, hd, hs, hok⟩; subst e
           refine gv_in ?_ hd hs hok
           clear hd hs hok
           refine gv_cond (b := ((decide (((x54).toNat : Int) < 128)) || (decide (191 < ((x54).toNat : Int))))) kr (fun hc58 => ?_) (fun hc58 => ?_)
           ·replace h0 := ite_t hc58 h0
            refine gv_seq <| gv_region <| pN 2 [2, 3] [(2, (.int .i32 65533)), (3, (.int .i64 1))] ?_
            refine gv_nil <| gv_cret ?_
            have e := sj h0; subst e
            refine gv_ret (gv_done [(.int .i32 65533), (.int .i64 1)] rfl ⟨kr, kr, trivial⟩ ?_)
            exact ⟨grown_of_below hB40, rfl⟩
           ·replace h0 := ite_f hc58 h0
            refine gv_skip <| gv_seq <| gv_region <| pN 20 [2, 3, 104, 105, 106, 107, 108, 109, 110, 111, 112, 113, 114, 115, 116, 117, 118, 119, 120, 121] [(2, (.int .i32 (bwOr .i32 (bwOr .i32 (bwOr .i32 (IntKind.i32.wrap ((IntKind.i32.wrap ((bwAnd .u8 ((x2).toNat : Int) 7))) * 2 ^ 18)) (IntKind.i32.wrap ((IntKind.i32.wrap ((bwAnd .u8 ((x32).toNat : Int) 63))) * 2 ^ 12))) (IntKind.i32.wrap ((IntKind.i32.wrap ((bwAnd .u8 ((x46).toNat : Int) 63))) * 2 ^ 6))) (IntKind.i32.wrap ((bwAnd .u8 ((x54).toNat : Int) 63)))))), (3, (.int .i64 4))] ?_
            refine bindE h0 ?_; clear h0; intro n59 hn60 h0
            refine gv_name (s := 2) (v := (.int .i32 (bwOr .i32 (bwOr .i32 (bwOr .i32 (IntKind.i32.wrap ((IntKind.i32.wrap ((bwAnd .u8 ((x2).toNat : Int) 7))) * 2 ^ 18)) (IntKind.i32.wrap ((IntKind.i32.wrap ((bwAnd .u8 ((x32).toNat : Int) 63))) * 2 ^ 12))) (IntKind.i32.wrap ((IntKind.i32.wrap ((bwAnd .u8 ((x46).toNat : Int) 63))) * 2 ^ 6))) (IntKind.i32.wrap ((bwAnd .u8 ((x54).toNat : Int) 63)))))) (v' := (.int .i32 n59)) kr (congrArg (Value.int .i32) (sj hn60)) ?_
            refine gv_nil <| gv_cret ?_
            have e := sj h0; subst e
            refine gv_ret (gv_done [(.int .i32 n59), (.int .i64 4)] rfl ⟨kr, kr, trivial⟩ ?_)
            exact ⟨grown_of_below hB40, rfl⟩

theorem utf8_DecodeRune_ok (fuel : Nat) (pa0_0 : Option Addr) (pc0_0 : Nat) (p_0 : (List UInt8)) (w0 : World) (X0 : Nat → Prop) (hX0 : ∀ k, X0 k → k < w0.heap.size) (hpa0_0 : Rd bE w0 X0 pa0_0 pc0_0 p_0) (hG0 : Rd bE w0 X0 (some ⟨0, 0, none⟩) 256 utf8First) (hG1 : Rd (prE (iE .u8) (iE .u8)) w0 X0 (some ⟨1, 0, none⟩) 16 utf8Acc) (r0 : (Int × Int)) (h0 : utf8_DecodeRune fuel p_0 = some r0) :
    Calls Tryd.prog 63 ([(.slice pa0_0 (length p_0) pc0_0)] : List Value).toArray w0 (Ret fun v w' => w0.grownBy w' none ∧ v = tup [(.int .i32 r0.1), (.int .i64 r0.2)]) := by
 have hB0 : Below w0.heap.size w0 w0 := Below.refl _ _
 unfold utf8_DecodeRune at h0
 refine calls_run Tryd.func63 rfl Tryd.ntmps63 kr ?_
 refine gv_sub [0] (σ' := [(0, (.slice pa0_0 (length p_0) pc0_0))]) kr ?_
 refine gv_seq <| gv_region <| pN 2 [2, 3] [] ?_
 refine gv_nil <| gv_seq <| gv_seq <| gv_region <| pN 3 [6, 7, 8] [(6, (.slice pa0_0 (length p_0) pc0_0)), (7, (.int .i64 ((length p_0 : Nat) : Int))), (8, (.int .i64 0))] ?_
 refine gv_nil <| bindE h0 ?_; clear h0; intro j1 h1 h0
 refine gv_cut_code (J := fun a w3 => ∃ s2 : Unit, j1 = .inl s2 ∧ Below w0.heap.size w0 w3 ∧ w0.heap.size ≤ w3.heap.size ∧ a.defers = [] ∧ a.tmps.size = 22 ∧ Ok [(0, (.slice pa0_0 (length p_0) pc0_0))] a.tmps) ?_ ?_
 ·skip
  refine gv_block <| gv_loop (A := fun (s4 : Int) a w5 => Below w0.heap.size w0 w5 ∧ w0.heap.size ≤ w5.heap.size ∧ a.defers = [] ∧ a.tmps.size = 22 ∧ Ok [(0, (.slice pa0_0 (length p_0) pc0_0)), (6, (.slice pa0_0 (length p_0) pc0_0)), (7, (.int .i64 ((length p_0 : Nat) : Int))), (8, (.int .i64 s4))] a.tmps) h1 ?_ ?_
  ·intro a hd hs hok
   exact ⟨hB0, nrf, hd, hs, okp [0, 6, 7, 8] hok⟩
  ·rintro s4 r2 h2 hR2 a w5 ⟨hB6, hz7, hd, hs, hok⟩
   refine gv_in ?_ hd hs hok
   clear hd hs hok
   refine gv_seq <| gv_region <| pN 1 [9] [(9, (.bool (decide (s4 < ((length p_0 : Nat) : Int)))))] ?_
   refine gv_nil <| gv_seq <| gv_cond (b := (decide (s4 < ((length p_0 : Nat) : Int)))) kr (fun hc8 => ?_) (fun hc8 => ?_)
   ·replace h2 := ite_t hc8 h2
    refine gv_skip <| gv_seq <| gv_block <| gv_seq <| gv_region <| bindE h2 ?_; clear h2; intro x9 hx10 h2
    refine gv_idxaddr (t := 22) (e := 5) (a := pa0_0) (len := length p_0) (cap := pc0_0) (kk := .i64) (i := s4) (sz := 1) [] (fun e => by cases e) rfl rfl rfl kr kr Tryd.underlying22 kr ((hpa0_0.below hB6 hX0).has hx10) (idx_spec hx10).1 (idx_spec hx10).2.1 rfl ?_
    refine gv_load (t := 5) (A := (elemAddr pa0_0 ((s4 : Int).toNat * 1))) (.int .u8 ((x9).toNat : Int)) [] (fun e => by cases e) rfl rfl rfl kr kr kr (inw0 ((hpa0_0.below hB6 hX0).cell hx10)) rfl ?_
    refine pN 1 [5] [(5, (.int .u8 ((x9).toNat : Int)))] ?_
    refine gv_nil <| gv_seq <| gv_seq <| gv_region <| pN 2 [12, 13] [(13, (.bool (decide (((x9).toNat : Int) < 128))))] ?_
    refine gv_nil <| gv_cond (b := (decide (((x9).toNat : Int) < 128))) kr (fun hc11 => ?_) (fun hc11 => ?_)
    ·replace h2 := ite_t hc11 h2
     refine gv_seq <| gv_region <| pN 4 [2, 3, 14, 15] [(2, (.int .i32 (IntKind.i32.wrap (((x9).toNat : Int))))), (3, (.int .i64 1))] ?_
     refine gv_nil <| gv_cret ?_
     have e := sj h2; subst e
     replace h1 := congrArg some (hR2 _ rfl)
     have e := sj h1; subst e
     replace h0 := cont_inr h0
     have e := sj h0; subst e
     refine gv_ret (gv_done [(.int .i32 (IntKind.i32.wrap (((x9).toNat : Int)))), (.int .i64 1)] rfl ⟨kr, kr, trivial⟩ ?_)
     exact ⟨grown_of_below hB6, rfl⟩
    ·replace h2 := ite_f hc11 h2
     refine gv_skip <| gv_cexit <| gv_exit rfl ?_
     have e := sj h2; subst e
     replace h1 := congrArg some (hR2 _ rfl)
     have e := sj h1; subst e
     refine gv_goal fun a hd hs hok => ?_
     have hz12 := hz7
     exact ⟨(), rfl, hB6, hz12, hd, hs, okp [0] hok⟩
   ·replace h2 := ite_f hc8 h2
    refine gv_cexit <| gv_exit rfl ?_
    have e := sj h2; subst e
    replace h1 := congrArg some (hR2 _ rfl)
    have e := sj h1; subst e
    refine gv_goal fun a hd hs hok => ?_
    have hz13 := hz7
    exact ⟨(), rfl, hB6, hz13, hd, hs, okp [0] hok⟩
 ·rintro a w3 ⟨s2, e, hB14, hz15, hd, hs, hok⟩
  subst e
  refine gv_in ?_ hd hs hok
  clear hd hs hok
  replace h0 := cont_inl h0
  refine gv_seq <| gv_region <| pN 1 [18] [(18, (.slice pa0_0 (length p_0) pc0_0))] ?_
  refine bindE h0 ?_; clear h0; intro r16 hr17 h0
  refine gv_call0 kr rfl kr enters81 (utf8_decodeRuneSlow_ok fuel pa0_0 pc0_0 p_0 w3 (fun k => X0 k ∨ X0 k ∨ X0 k) (fun k hk => (hk).elim (fun h => (fun k (hk : X0 k) => ltl (hX0 k hk) hB14.size) k h) (fun h => (h).elim (fun h => (fun k (hk : X0 k) => ltl (hX0 k hk) hB14.size) k h) (fun h => (fun k (hk : X0 k) => ltl (hX0 k hk) hB14.size) k h))) ((hpa0_0.below hB14 hX0).wide (fun k hk => (.inl hk))) ((hG0.below hB14 hX0).wide (fun k hk => (.inr (.inl hk)))) ((hG1.below hB14 hX0).wide (fun k hk => (.inr (.inr hk)))) r16 hr17) ?_
  rintro v20 w18 ⟨hg19, rfl⟩
  refine pN 5 [2, 3, 17, 20, 21] [(2, (.int .i32 r16.1)), (3, (.int .i64 r16.2))] ?_
  refine gv_nil <| gv_cret ?_
  have e := sj h0; subst e
  refine gv_ret (gv_done [(.int .i32 r16.1), (.int .i64 r16.2)] rfl ⟨kr, kr, trivial⟩ ?_)
  have hB21 := bg hB14 hg19 nb
  exact ⟨grown_of_below hB21, rfl⟩

theorem bytestr_unit_ok (fuel : Nat) (pa0_0 : Option Addr) (pc0_0 : Nat) (b_0 : (List UInt8)) (coding_1 : Int) (w0 : World) (X0 : Nat → Prop) (hX0 : ∀ k, X0 k → k < w0.heap.size) (hpa0_0 : Rd bE w0 X0 pa0_0 pc0_0 b_0) (hG0 : Rd bE w0 X0 (some ⟨0, 0, none⟩) 256 utf8First) (hG1 : Rd (prE (iE .u8) (iE .u8)) w0 X0 (some ⟨1, 0, none⟩) 16 utf8Acc) (r0 : (Int × Int × Bool)) (h0 : bytestr_unit fuel b_0 coding_1 = some r0) :
    Calls Tryd.prog 45 ([(.slice pa0_0 (length b_0) pc0_0), (.int .i64 coding_1)] : List Value).toArray w0 (Ret fun v w' => w0.grownBy w' none ∧ v = tup [(.int .i32 r0.1), (.int .i64 r0.2.1), (.bool r0.2.2)]) := by
 have hB0 : Below w0.heap.size w0 w0 := Below.refl _ _
 unfold bytestr_unit at h0
 refine calls_run Tryd.func45 rfl Tryd.ntmps45 kr ?_
 refine gv_sub [0, 1] (σ' := [(0, (.slice pa0_0 (length b_0) pc0_0)), (1, (.int .i64 coding_1))]) kr ?_
 refine gv_seq <| gv_region <| pN 3 [4, 5, 6] [] ?_
 refine gv_nil <| gv_seq <| gv_seq <| gv_region <| pN 2 [11, 12] [(12, (.bool (coding_1 == 1)))] ?_
 refine gv_nil <| gv_cond (b := (coding_1 == 1)) kr (fun hc1 => ?_) (fun hc1 => ?_)
 ·replace h0 := ite_t hc1 h0
  refine gv_seq <| gv_region <| pN 1 [13] [(13, (.slice pa0_0 (length b_0) pc0_0))] ?_
  refine bindE h0 ?_; clear h0; intro x2 hx3 h0
  refine gv_idxaddr (t := 22) (e := 5) (a := pa0_0) (len := length b_0) (cap := pc0_0) (kk := .i64) (i := 0) (sz := 1) [] (fun e => by cases e) rfl rfl rfl kr kr Tryd.underlying22 kr ((hpa0_0.below hB0 hX0).has hx3) (idx_spec hx3).1 (idx_spec hx3).2.1 rfl ?_
  refine gv_load (t := 5) (A := (elemAddr pa0_0 ((0 : Int).toNat * 1))) (.int .u8 ((x2).toNat : Int)) [] (fun e => by cases e) rfl rfl rfl kr kr kr (inw0 ((hpa0_0.below hB0 hX0).cell hx3)) rfl ?_
  refine pN 4 [4, 5, 6, 16] [(4, (.int .i32 (IntKind.i32.wrap (((x2).toNat : Int))))), (5, (.int .i64 1)), (6, (.bool true))] ?_
  refine gv_nil <| gv_cret ?_
  have e := sj h0; subst e
  refine gv_ret (gv_done [(.int .i32 (IntKind.i32.wrap (((x2).toNat : Int)))), (.int .i64 1), (.bool true)] rfl ⟨kr, kr, kr, trivial⟩ ?_)
  exact ⟨grown_of_below hB0, rfl⟩
 ·replace h0 := ite_f hc1 h0
  refine gv_skip <| gv_seq <| gv_seq <| gv_region <| pN 2 [17, 18] [(18, (.bool (coding_1 == 0)))] ?_
  refine gv_nil <| gv_cond (b := (coding_1 == 0)) kr (fun hc4 => ?_) (fun hc4 => ?_)
  ·replace h0 := ite_t hc4 h0
   refine gv_seq <| gv_region <| pN 1 [20] [(20, (.slice pa0_0 (length b_0) pc0_0))] ?_
   refine bindE h0 ?_; clear h0; intro r5 hr6 h0
   refine gv_call0 kr rfl kr enters63 (utf8_DecodeRune_ok fuel pa0_0 pc0_0 b_0 w0 (fun k => X0 k ∨ X0 k ∨ X0 k) (fun k hk => (hk).elim (fun h => (fun k (hk : X0 k) => ltl (hX0 k hk) hB0.size) k h) (fun h => (h).elim (fun h => (fun k (hk : X0 k) => ltl (hX0 k hk) hB0.size) k h) (fun h => (fun k (hk : X0 k) => ltl (hX0 k hk) hB0.size) k h))) ((hpa0_0.below hB0 hX0).wide (fun k hk => (.inl hk))) ((hG0.below hB0 hX0).wide (fun k hk => (.inr (.inl hk)))) ((hG1.below hB0 hX0).wide (fun k hk => (.inr (.inr hk)))) r5 hr6) ?_
   rintro v9 w7 ⟨hg8, rfl⟩
   refine pN 5 [7, 8, 19, 22, 23] [(7, (.int .i32 r5.1)), (8, (.int .i64 r5.2))] ?_
   refine gv_nil <| gv_seq <| gv_region <| gv_cut_ops (J := fun a w10 => w7 = w10 ∧ a.defers = [] ∧ a.tmps.size = 83 ∧ Ok [(4, (.int .i32 r5.1)), (5, (.int .i64 r5.2)), (6, (.bool ((r5.1 != 65533) || (decide (r5.2 > 1)))))] a.tmps) ?_ ?_
   ·skip
    refine pN 5 [24, 25, 26, 27, 28] [(24, (.int .i32 r5.1)), (25, (.int .i64 r5.2)), (28, (.bool (r5.1 != 65533)))] ?_
    refine gv_split (s := 28) (g := (r5.1 != 65533)) kr (fun hc11 => ?_) (fun hc11 => ?_)
    ·skip
     refine pN 6 [4, 5, 6, 29, 30, 31] [(4, (.int .i32 r5.1)), (5, (.int .i64 r5.2)), (6, (.bool true))] ?_
     refine gv_nil <| gv_sub [4, 5, 6] (σ' := [(4, (.int .i32 r5.1)), (5, (.int .i64 r5.2)), (6, (.bool true))]) kr ?_
     refine gv_goal fun a hd hs hok => ⟨rfl, hd, hs, ?_⟩
     obtain ⟨q4, q5, q6, _⟩ := hok
     exact ⟨q4, q5, (by rw [hc11]; exact q6), trivial⟩
    ·skip
     refine pN 6 [4, 5, 6, 29, 30, 31] [(4, (.int .i32 r5.1)), (5, (.int .i64 r5.2)), (6, (.bool (decide (r5.2 > 1))))] ?_
     refine gv_nil <| gv_sub [4, 5, 6] (σ' := [(4, (.int .i32 r5.1)), (5, (.int .i64 r5.2)), (6, (.bool (decide (r5.2 > 1))))]) kr ?_
     refine gv_goal fun a hd hs hok => ⟨rfl, hd, hs, ?_⟩
     obtain ⟨q4, q5, q6, _⟩ := hok
     exact ⟨q4, q5, (by rw [hc11]; exact q6), trivial⟩
   ·rintro a w10 ⟨e, hd, hs, hok⟩; subst e
    refine gv_in ?_ hd hs hok
    clear hd hs hok
    refine gv_cret ?_
    have e := sj h0; subst e
    refine gv_ret (gv_done [(.int .i32 r5.1), (.int .i64 r5.2), (.bool ((r5.1 != 65533) || (decide (r5.2 > 1))))] rfl ⟨kr, kr, kr, trivial⟩ ?_)
    have hB12 := bg hB0 hg8 nb
    exact ⟨grown_of_below hB12, rfl⟩
  ·replace h0 := ite_f hc4 h0
   refine gv_skip <| gv_seq <| gv_seq <| gv_region <| pN 3 [32, 33, 34] [(34, (.bool (decide (((length b_0 : Nat) : Int) < 2))))] ?_
   refine gv_nil <| gv_cond (b := (decide (((length b_0 : Nat) : Int) < 2))) kr (fun hc13 => ?_) (fun hc13 => ?_)
   ·replace h0 := ite_t hc13 h0
    refine gv_seq <| gv_region <| pN 3 [4, 5, 6] [(4, (.int .i32 0)), (5, (.int .i64 1)), (6, (.bool false))] ?_
    refine gv_nil <| gv_cret ?_
    have e := sj h0; subst e
    refine gv_ret (gv_done [(.int .i32 0), (.int .i64 1), (.bool false)] rfl ⟨kr, kr, kr, trivial⟩ ?_)
    exact ⟨grown_of_below hB0, rfl⟩
   ·replace h0 := ite_f hc13 h0
    refine gv_skip <| gv_seq <| gv_drawA kr ?_
    intro w14 hg15
    refine gv_pre [0, 1, 5, 6] (bA 11 [0, 1, 5, 6]) 7 kr kr ?_
    refine pN 1 [35] [(35, (.slice pa0_0 (length b_0) pc0_0))] ?_
    refine bindE h0 ?_; clear h0; intro x16 hx17 h0
    have hB18 := bg hB0 hg15 nb
    refine gv_idxaddr (t := 22) (e := 5) (a := pa0_0) (len := length b_0) (cap := pc0_0) (kk := .i64) (i := 0) (sz := 1) [] (fun e => by cases e) rfl rfl rfl kr kr Tryd.underlying22 kr ((hpa0_0.below hB18 hX0).has hx17) (idx_spec hx17).1 (idx_spec hx17).2.1 rfl ?_
    refine pN 1 [40] [(40, (.slice pa0_0 (length b_0) pc0_0))] ?_
    refine bindE h0 ?_; clear h0; intro x19 hx20 h0
    refine gv_idxaddr (t := 22) (e := 5) (a := pa0_0) (len := length b_0) (cap := pc0_0) (kk := .i64) (i := 1) (sz := 1) [] (fun e => by cases e) rfl rfl rfl kr kr Tryd.underlying22 kr ((hpa0_0.below hB18 hX0).has hx20) (idx_spec hx20).1 (idx_spec hx20).2.1 rfl ?_
    refine gv_nil <| gv_goA ?_
    refine gv_stage (Cls w14 []) [2, 3, 4, 7, 8] [(2, some true), (3, some true), (4, some true), (7, some true), (8, some true)] (bA 11 [0, 1, 2, 3, 4, 5, 6, 7, 8]) 2 kr kr (Cls.refl _ _) ?_
    have hC21 := Cls.refl w14 []
    refine gv_load (t := 5) (A := (elemAddr pa0_0 ((0 : Int).toNat * 1))) (.int .u8 ((x16).toNat : Int)) [] (fun e => by cases e) rfl rfl rfl kr kr kr (inw1 fun w' hC' => ((hC'.rd (hpa0_0.below hB18 hX0) (fun k (hk : X0 k) => ltl (hX0 k hk) hB18.size) nmx_nil).cell hx17)) rfl ?_
    refine pN 2 [38, 39] [(39, (.int .i32 (IntKind.i32.wrap ((IntKind.i32.wrap (((x16).toNat : Int))) * 2 ^ 8))))] ?_
    refine gv_load (t := 5) (A := (elemAddr pa0_0 ((1 : Int).toNat * 1))) (.int .u8 ((x19).toNat : Int)) [] (fun e => by cases e) rfl rfl rfl kr kr kr (inw1 fun w' hC' => ((hC'.rd (hpa0_0.below hB18 hX0) (fun k (hk : X0 k) => ltl (hX0 k hk) hB18.size) nmx_nil).cell hx20)) rfl ?_
    refine pN 1 [43] [(43, (.int .i32 (IntKind.i32.wrap (((x19).toNat : Int)))))] ?_
    refine gv_nil <| gv_goA ?_
    refine gv_pre [9, 10] (bA 11 [0, 1, 2, 3, 4, 5, 6, 7, 8, 9, 10]) 0 kr kr ?_
    refine pN 2 [9, 44] [(9, (.int .i32 (bwOr .i32 (IntKind.i32.wrap ((IntKind.i32.wrap (((x16).toNat : Int))) * 2 ^ 8)) (IntKind.i32.wrap (((x19).toNat : Int))))))] ?_
    refine bindE h0 ?_; clear h0; intro n22 hn23 h0
    refine gv_name (s := 9) (v := (.int .i32 (bwOr .i32 (IntKind.i32.wrap ((IntKind.i32.wrap (((x16).toNat : Int))) * 2 ^ 8)) (IntKind.i32.wrap (((x19).toNat : Int)))))) (v' := (.int .i32 n22)) kr (congrArg (Value.int .i32) (sj hn23)) ?_
    refine gv_nil <| gv_goA ?_
    refine gv_stageE kr ?_
    refine gv_seq <| gv_seq <| gv_region <| gv_cut_ops (J := fun a w24 => w14 = w24 ∧ a.defers = [] ∧ a.tmps.size = 83 ∧ Ok [(0, (.slice pa0_0 (length b_0) pc0_0)), (9, (.int .i32 n22)), (50, (.bool ((decide (n22 < 55296)) || (decide (n22 > 57343)))))] a.tmps) ?_ ?_
    ·skip
     refine pN 3 [45, 46, 47] [(47, (.bool (decide (n22 < 55296))))] ?_
     refine gv_sub [0, 9, 47] (σ' := [(0, (.slice pa0_0 (length b_0) pc0_0)), (9, (.int .i32 n22)), (47, (.bool (decide (n22 < 55296))))]) kr ?_
     refine gv_split (s := 47) (g := (decide (n22 < 55296))) kr (fun hc25 => ?_) (fun hc25 => ?_)
     ·skip
      refine pN 3 [48, 49, 50] [(50, (.bool true))] ?_
      refine gv_nil <| gv_sub [0, 9, 50] (σ' := [(0, (.slice pa0_0 (length b_0) pc0_0)), (9, (.int .i32 n22)), (50, (.bool true))]) kr ?_
      refine gv_goal fun a hd hs hok => ⟨rfl, hd, hs, ?_⟩
      obtain ⟨q0, q9, q50, _⟩ := hok
      exact ⟨q0, q9, (by rw [hc25]; exact q50), trivial⟩
     ·skip
      refine pN 3 [48, 49, 50] [(50, (.bool (decide (n22 > 57343))))] ?_
      refine gv_nil <| gv_sub [0, 9, 50] (σ' := [(0, (.slice pa0_0 (length b_0) pc0_0)), (9, (.int .i32 n22)), (50, (.bool (decide (n22 > 57343))))]) kr ?_
      refine gv_goal fun a hd hs hok => ⟨rfl, hd, hs, ?_⟩
      obtain ⟨q0, q9, q50, _⟩ := hok
      exact ⟨q0, q9, (by rw [hc25]; exact q50), trivial⟩
    ·rintro a w24 ⟨e, hd, hs, hok⟩; subst e
     refine gv_in ?_ hd hs hok
     clear hd hs hok
     refine gv_cond (b := ((decide (n22 < 55296)) || (decide (n22 > 57343)))) kr (fun hc26 => ?_) (fun hc26 => ?_)
     ·replace h0 := ite_t hc26 h0
      refine gv_seq <| gv_region <| pN 4 [4, 5, 6, 51] [(4, (.int .i32 n22)), (5, (.int .i64 2)), (6, (.bool true))] ?_
      refine gv_sub [4, 5, 6] (σ' := [(4, (.int .i32 n22)), (5, (.int .i64 2)), (6, (.bool true))]) kr ?_
      refine gv_nil <| gv_cret ?_
      have e := sj h0; subst e
      refine gv_ret (gv_done [(.int .i32 n22), (.int .i64 2), (.bool true)] rfl ⟨kr, kr, kr, trivial⟩ ?_)
      exact ⟨grown_of_below hB18, rfl⟩
     ·replace h0 := ite_f hc26 h0
      refine gv_skip <| gv_seq <| gv_seq <| gv_region <| bindE h0 ?_; clear h0; intro j27 h1 h0
      refine gv_cut_ops (J := fun a w28 => Below w0.heap.size w0 w28 ∧ w14.heap.size ≤ w28.heap.size ∧ a.defers = [] ∧ a.tmps.size = 83 ∧ Ok [(0, (.slice pa0_0 (length b_0) pc0_0)), (9, (.int .i32 n22)), (65, (.bool j27))] a.tmps) ?_ ?_
      ·skip
       refine pN 3 [52, 53, 54] [(54, (.bool (decide (n22 < 56320))))] ?_
       refine gv_sub [0, 9, 54] (σ' := [(0, (.slice pa0_0 (length b_0) pc0_0)), (9, (.int .i32 n22)), (54, (.bool (decide (n22 < 56320))))]) kr ?_
       refine gv_split (s := 54) (g := (decide (n22 < 56320))) kr (fun hc29 => ?_) (fun hc29 => ?_)
       ·skip
        replace h1 := ite_t hc29 h1
        refine pN 5 [55, 56, 57, 58, 59] [(59, (.bool (decide (((length b_0 : Nat) : Int) ≥ 4))))] ?_
        refine gv_split (s := 59) (g := (decide (((length b_0 : Nat) : Int) ≥ 4))) kr (fun hc30 => ?_) (fun hc30 => ?_)
        ·skip
         replace h1 := ite_t hc30 h1
         refine pN 1 [60] [(60, (.slice pa0_0 (length b_0) pc0_0))] ?_
         refine bindE h1 ?_; clear h1; intro x31 hx32 h1
         refine gv_idxaddr (t := 22) (e := 5) (a := pa0_0) (len := length b_0) (cap := pc0_0) (kk := .i64) (i := 2) (sz := 1) [] (fun e => by cases e) rfl rfl rfl kr kr Tryd.underlying22 kr ((hpa0_0.below hB18 hX0).has hx32) (idx_spec hx32).1 (idx_spec hx32).2.1 rfl ?_
         refine gv_load (t := 5) (A := (elemAddr pa0_0 ((2 : Int).toNat * 1))) (.int .u8 ((x31).toNat : Int)) [] (fun e => by cases e) rfl rfl rfl kr kr kr (inw0 ((hpa0_0.below hB18 hX0).cell hx32)) rfl ?_
         refine pN 3 [63, 64, 65] [(65, (.bool ((bwAnd .u8 ((x31).toNat : Int) 252) == 220)))] ?_
         refine gv_nil ?_
         have e := sj h1; subst e
         refine gv_goal fun a hd hs hok => ?_
         exact ⟨hB18, nrf, hd, hs, okp [0, 9, 65] hok⟩
        ·skip
         replace h1 := ite_f hc30 h1
         refine pN 6 [60, 61, 62, 63, 64, 65] [(65, (.bool false))] ?_
         refine gv_nil ?_
         have e := sj h1; subst e
         refine gv_goal fun a hd hs hok => ?_
         exact ⟨hB18, nrf, hd, hs, okp [0, 9, 65] hok⟩
       ·skip
        replace h1 := ite_f hc29 h1
        refine pN 11 [55, 56, 57, 58, 59, 60, 61, 62, 63, 64, 65] [(65, (.bool false))] ?_
        refine gv_nil ?_
        have e := sj h1; subst e
        refine gv_goal fun a hd hs hok => ?_
        exact ⟨hB18, nrf, hd, hs, okp [0, 9, 65] hok⟩
      ·rintro a w28 ⟨hB33, hz34, hd, hs, hok⟩
       refine gv_in ?_ hd hs hok
       clear hd hs hok
       clear hc26 hn23 hC21 hx20 hB18 hx17 hg15 hc13 hc4 hc1
       refine gv_cond (b := j27) kr (fun hc35 => ?_) (fun hc35 => ?_)
       ·replace h0 := ite_t hc35 h0
        refine gv_seq <| gv_drawA kr ?_
        intro w36 hg37
        refine gv_pre [0, 1, 5, 6] (bA 11 [0, 1, 5, 6]) 7 kr kr ?_
        refine pN 1 [66] [(66, (.slice pa0_0 (length b_0) pc0_0))] ?_
        refine bindE h0 ?_; clear h0; intro x38 hx39 h0
        have hB40 := bg hB33 hg37 nb
        refine gv_idxaddr (t := 22) (e := 5) (a := pa0_0) (len := length b_0) (cap := pc0_0) (kk := .i64) (i := 2) (sz := 1) [] (fun e => by cases e) rfl rfl rfl kr kr Tryd.underlying22 kr ((hpa0_0.below hB40 hX0).has hx39) (idx_spec hx39).1 (idx_spec hx39).2.1 rfl ?_
        refine pN 1 [71] [(71, (.slice pa0_0 (length b_0) pc0_0))] ?_
        refine bindE h0 ?_; clear h0; intro x41 hx42 h0
        refine gv_idxaddr (t := 22) (e := 5) (a := pa0_0) (len := length b_0) (cap := pc0_0) (kk := .i64) (i := 3) (sz := 1) [] (fun e => by cases e) rfl rfl rfl kr kr Tryd.underlying22 kr ((hpa0_0.below hB40 hX0).has hx42) (idx_spec hx42).1 (idx_spec hx42).2.1 rfl ?_
        refine gv_nil <| gv_goA ?_
        refine gv_stage (Cls w36 []) [2, 3, 4, 7, 8] [(2, some true), (3, some true), (4, some true), (7, some true), (8, some true)] (bA 11 [0, 1, 2, 3, 4, 5, 6, 7, 8]) 2 kr kr (Cls.refl _ _) ?_
        have hC43 := Cls.refl w36 []
        refine gv_load (t := 5) (A := (elemAddr pa0_0 ((2 : Int).toNat * 1))) (.int .u8 ((x38).toNat : Int)) [] (fun e => by cases e) rfl rfl rfl kr kr kr (inw1 fun w' hC' => ((hC'.rd (hpa0_0.below hB40 hX0) (fun k (hk : X0 k) => ltl (hX0 k hk) hB40.size) nmx_nil).cell hx39)) rfl ?_
        refine pN 2 [69, 70] [(70, (.int .i32 (IntKind.i32.wrap ((IntKind.i32.wrap (((x38).toNat : Int))) * 2 ^ 8))))] ?_
        refine gv_load (t := 5) (A := (elemAddr pa0_0 ((3 : Int).toNat * 1))) (.int .u8 ((x41).toNat : Int)) [] (fun e => by cases e) rfl rfl rfl kr kr kr (inw1 fun w' hC' => ((hC'.rd (hpa0_0.below hB40 hX0) (fun k (hk : X0 k) => ltl (hX0 k hk) hB40.size) nmx_nil).cell hx42)) rfl ?_
        refine pN 1 [74] [(74, (.int .i32 (IntKind.i32.wrap (((x41).toNat : Int)))))] ?_
        refine gv_nil <| gv_goA ?_
        refine gv_pre [9, 10] (bA 11 [0, 1, 2, 3, 4, 5, 6, 7, 8, 9, 10]) 0 kr kr ?_
        refine pN 2 [10, 75] [(10, (.int .i32 (bwOr .i32 (IntKind.i32.wrap ((IntKind.i32.wrap (((x38).toNat : Int))) * 2 ^ 8)) (IntKind.i32.wrap (((x41).toNat : Int))))))] ?_
        refine bindE h0 ?_; clear h0; intro n44 hn45 h0
        refine gv_name (s := 10) (v := (.int .i32 (bwOr .i32 (IntKind.i32.wrap ((IntKind.i32.wrap (((x38).toNat : Int))) * 2 ^ 8)) (IntKind.i32.wrap (((x41).toNat : Int)))))) (v' := (.int .i32 n44)) kr (congrArg (Value.int .i32) (sj hn45)) ?_
        refine gv_nil <| gv_goA ?_
        refine gv_stageE kr ?_
        refine gv_seq <| gv_region <| pN 10 [4, 5, 6, 76, 77, 78, 79, 80, 81, 82] [(4, (.int .i32 (IntKind.i32.wrap ((IntKind.i32.wrap ((IntKind.i32.wrap (65536 + (IntKind.i32.wrap ((IntKind.i32.wrap (n22 - 55296)) * 2 ^ 10)))) + n44)) - 56320)))), (5, (.int .i64 4)), (6, (.bool true))] ?_
        refine bindE h0 ?_; clear h0; intro n46 hn47 h0
        refine gv_name (s := 4) (v := (.int .i32 (IntKind.i32.wrap ((IntKind.i32.wrap ((IntKind.i32.wrap (65536 + (IntKind.i32.wrap ((IntKind.i32.wrap (n22 - 55296)) * 2 ^ 10)))) + n44)) - 56320)))) (v' := (.int .i32 n46)) kr (congrArg (Value.int .i32) (sj hn47)) ?_
        refine gv_nil <| gv_cret ?_
        have e := sj h0; subst e
        refine gv_ret (gv_done [(.int .i32 n46), (.int .i64 4), (.bool true)] rfl ⟨kr, kr, kr, trivial⟩ ?_)
        exact ⟨grown_of_below hB40, rfl⟩
       ·replace h0 := ite_f hc35 h0
        refine gv_skip <| gv_seq <| gv_region <| pN 3 [4, 5, 6] [(4, (.int .i32 0)), (5, (.int .i64 2)), (6, (.bool false))] ?_
        refine gv_nil <| gv_cret ?_
        have e := sj h0; subst e
        refine gv_ret (gv_done [(.int .i32 0), (.int .i64 2), (.bool false)] rfl ⟨kr, kr, kr, trivial⟩ ?_)
        exact ⟨grown_of_below hB33, rfl⟩

theorem utf8_appendRuneNonASCII_ok (fuel : Nat) (pa0_0 : Option Addr) (pc0_0 : Nat) (p_0 : (List UInt8)) (r_1 : Int) (w0 : World) (hpa0_0 : Gv.Own bE 5 w0 (fun _ => False) pa0_0 pc0_0 p_0) (r0 : (List UInt8)) (h0 : utf8_appendRuneNonASCII fuel p_0 r_1 = some r0) :
    Calls Tryd.prog 62 ([(.slice pa0_0 (length p_0) pc0_0), (.int .i32 r_1)] : List Value).toArray w0 (Ret fun v w' => w0.grownBy w' (blk pa0_0) ∧ ∃ (a0_0r : Option Addr) (c0_0r : Nat), v = tup [(.slice a0_0r (length r0) c0_0r)] ∧ Gv.Own bE 5 w' (fun _ => False) a0_0r c0_0r r0 ∧ (∀ g, blk a0_0r = some g → blk pa0_0 = some g ∨ w0.heap.size ≤ g)) := by
 have hB0 : w0.grownBy w0 (blk pa0_0) := grown_refl _ _
 unfold utf8_appendRuneNonASCII at h0
 refine calls_run Tryd.func62 rfl Tryd.ntmps62 kr ?_
 refine gv_sub [0, 1] (σ' := [(0, (.slice pa0_0 (length p_0) pc0_0)), (1, (.int .i32 r_1))]) kr ?_
 refine gv_seq <| gv_region <| pN 1 [4] [] ?_
 refine gv_nil <| gv_seq <| gv_region <| pN 3 [5, 6, 7] [(5, (.int .u32 (IntKind.u32.wrap (r_1))))] ?_
 refine gv_nil <| gv_block <| gv_seq <| gv_region <| pN 3 [11, 12, 13] [(11, (.bool (decide ((IntKind.u32.wrap (r_1)) ≤ 2047))))] ?_
 refine bindE h0 ?_; clear h0; intro n1 hn2 h0
 refine gv_name (s := 11) (v := (.bool (decide ((IntKind.u32.wrap (r_1)) ≤ 2047)))) (v' := (.bool n1)) kr (congrArg (Value.bool) (sj hn2)) ?_
 refine gv_nil <| gv_cond (b := n1) kr (fun hc3 => ?_) (fun hc3 => ?_)
 ·replace h0 := ite_t hc3 h0
  refine gv_seq <| gv_region <| pN 9 [14, 15, 16, 17, 18, 19, 20, 21, 22] [(14, (.slice pa0_0 (length p_0) pc0_0)), (18, (.int .u8 (bwOr .u8 192 (IntKind.u8.wrap (((r_1).fdiv (2 ^ 6))))))), (22, (.int .u8 (bwOr .u8 128 (bwAnd .u8 (IntKind.u8.wrap (r_1)) 63))))] ?_
  refine bindE h0 ?_; clear h0; intro b4 hb5 h0
  have hu6 := u8_spec hb5
  refine bindE h0 ?_; clear h0; intro b7 hb8 h0
  have hu9 := u8_spec hb8
  refine gv_new0 (fun b => .slice (some ⟨b, 0, none⟩) 2 2) #[(.int .u8 (bwOr .u8 192 (IntKind.u8.wrap (((r_1).fdiv (2 ^ 6)))))), (.int .u8 (bwOr .u8 128 (bwAnd .u8 (IntKind.u8.wrap (r_1)) 63)))] 5 kr kr ?_
  intro b10 w11 hg12 hb13 hbe14 hz15
  have ho16 : Gv.Own bE 5 w11 (fun _ => False) (some ⟨b10, 0, none⟩) 2 ([b4, b7] : List UInt8) := Box.ownE hb13 ⟨[(.int .u8 (bwOr .u8 192 (IntKind.u8.wrap (((r_1).fdiv (2 ^ 6))))))], [(.int .u8 (bwOr .u8 128 (bwAnd .u8 (IntKind.u8.wrap (r_1)) 63)))], rfl, (by simp only [bE, flat, hu6]), ⟨[(.int .u8 (bwOr .u8 128 (bwAnd .u8 (IntKind.u8.wrap (r_1)) 63)))], [], rfl, (by simp only [bE, flat, hu9]), rfl⟩⟩ (show 2 ≤ maxLen by decide) (fun h => h)
  have hl17 : ∀ g, blk (some ⟨b10, 0, none⟩) = some g → w0.heap.size ≤ g := loo hbe14 hB0.size
  refine bindE h0 ?_; clear h0; intro l21 hx22 h0
  have hk29 := hpa0_0.grown hg12 (fun _ h => h.elim) nb
  refine gv_append bE (t := 22) (ty := 22) (e := 5) (a := pa0_0) (ax := (some ⟨b10, 0, none⟩)) (cap := pc0_0) (cx := 2) (xs := p_0) (ys := ([b4, b7] : List UInt8)) l21 (X := (fun _ => False)) (Y := (fun k => blk (some ⟨b10, 0, none⟩) = some k)) (by decide) rfl rfl kr kr Tryd.underlying22 info5 hk29 (ho16.rd (Y := fun k => blk (some ⟨b10, 0, none⟩) = some k) (fun _ h => h.elim) (fun g e => e)) hx22 (.inr fun _ _ _ _ _ h => h) (fun _ h => h.elim) ?_
  intro a23 c24 w25 hg26 ho27 hk28
  refine ⟨(fun e => by cases e), ?_⟩
  have hB31 := grown_stepO hB0 hg12 nb
  have hl30 : ∀ g, blk a23 = some g → blk pa0_0 = some g ∨ w0.heap.size ≤ g := blkw_tr (blkw_of hk28) (fun g e => Or.inl e) hB31.size
  have ap33 : ∀ g, blk pa0_0 = some g → ¬ (fun k => blk (some ⟨b10, 0, none⟩) = some k) g := fun g e hx => nl ((lowo hbe14) _ hx) ((fun k (hk : blk pa0_0 = some k) => hpa0_0.lt k hk) g e)
  have ap32 : ∀ g, blk a23 = some g → ¬ (fun k => blk (some ⟨b10, 0, none⟩) = some k) g := blk_neX hk28 ap33 (fun k (hk : blk (some ⟨b10, 0, none⟩) = some k) => ho16.lt k hk)
  have ap35 : ∀ g, blk (some ⟨b10, 0, none⟩) = some g → ¬ (fun k => blk pa0_0 = some k) g := fun g e hx => nl ((lowo hbe14) g e) ((fun k (hk : blk pa0_0 = some k) => hpa0_0.lt k hk) _ hx)
  have ap34 : ∀ g, blk (some ⟨b10, 0, none⟩) = some g → ¬ (fun k => blk a23 = some k) g := fun g e h => blk_rev hk28 (fun h => ((ap35) g e) h) (ho16.lt g e) h
  refine pN 1 [4] [(4, (.slice a23 (length l21) c24))] ?_
  refine gv_nil <| gv_cret ?_
  have e := sj h0; subst e
  refine gv_ret (gv_done [(.slice a23 (length l21) c24)] rfl ⟨kr, trivial⟩ ?_)
  have hB36 := grown_stepO hB31 hg26 (fun g e => Or.inl e)
  exact ⟨hB36, a23, c24, rfl, ho27, hl30⟩
 ·replace h0 := ite_f hc3 h0
  refine gv_seq <| gv_seq <| gv_region <| pN 3 [25, 26, 27] [(25, (.bool (decide ((IntKind.u32.wrap (r_1)) < 55296))))] ?_
  refine bindE h0 ?_; clear h0; intro n37 hn38 h0
  refine gv_name (s := 25) (v := (.bool (decide ((IntKind.u32.wrap (r_1)) < 55296)))) (v' := (.bool n37)) kr (congrArg (Value.bool) (sj hn38)) ?_
  refine gv_nil <| bindE h0 ?_; clear h0; intro j39 h1 h0
  refine gv_cut_code (J := fun a w40 => w0.grownBy w40 (blk pa0_0) ∧ w0.heap.size ≤ w40.heap.size ∧ Gv.Own bE 5 w40 (fun _ => False) pa0_0 pc0_0 p_0 ∧ a.defers = [] ∧ a.tmps.size = 78 ∧ Ok [(0, (.slice pa0_0 (length p_0) pc0_0)), (1, (.int .i32 r_1)), (5, (.int .u32 (IntKind.u32.wrap (r_1)))), (25, (.bool j39))] a.tmps) ?_ ?_
  ·skip
   refine gv_cond (b := n37) kr (fun hc41 => ?_) (fun hc41 => ?_)
   ·replace h1 := ite_t hc41 h1
    refine gv_skip ?_
    have e := sj h1; subst e
    refine gv_goal fun a hd hs hok => ?_
    exact ⟨hB0, nrf, hpa0_0, hd, hs, okp [0, 1, 5, 25] hok⟩
   ·replace h1 := ite_f hc41 h1
    refine gv_region <| gv_cut_ops (J := fun a w42 => w0 = w42 ∧ a.defers = [] ∧ a.tmps.size = 78 ∧ Ok [(0, (.slice pa0_0 (length p_0) pc0_0)), (1, (.int .i32 r_1)), (5, (.int .u32 (IntKind.u32.wrap (r_1)))), (25, (.bool ((decide (57343 < (IntKind.u32.wrap (r_1)))) && (decide ((IntKind.u32.wrap (r_1)) ≤ 65535)))))] a.tmps) ?_ ?_
    ·skip
     refine pN 3 [28, 29, 30] [(30, (.bool (decide (57343 < (IntKind.u32.wrap (r_1))))))] ?_
     refine gv_split (s := 30) (g := (decide (57343 < (IntKind.u32.wrap (r_1))))) kr (fun hc43 => ?_) (fun hc43 => ?_)
     ·skip
      refine pN 4 [25, 31, 32, 33] [(25, (.bool (decide ((IntKind.u32.wrap (r_1)) ≤ 65535))))] ?_
      refine gv_nil <| gv_sub [0, 1, 5, 25] (σ' := [(0, (.slice pa0_0 (length p_0) pc0_0)), (1, (.int .i32 r_1)), (5, (.int .u32 (IntKind.u32.wrap (r_1)))), (25, (.bool (decide ((IntKind.u32.wrap (r_1)) ≤ 65535))))]) kr ?_
      refine gv_goal fun a hd hs hok => ⟨rfl, hd, hs, ?_⟩
      obtain ⟨q0, q1, q5, q25, _⟩ := hok
      exact ⟨q0, q1, q5, (by rw [hc43]; exact q25), trivial⟩
     ·skip
      refine pN 4 [25, 31, 32, 33] [(25, (.bool false))] ?_
      refine gv_nil <| gv_sub [0, 1, 5, 25] (σ' := [(0, (.slice pa0_0 (length p_0) pc0_0)), (1, (.int .i32 r_1)), (5, (.int .u32 (IntKind.u32.wrap (r_1)))), (25, (.bool false))]) kr ?_
      refine gv_goal fun a hd hs hok => ⟨rfl, hd, hs, ?_⟩
      obtain ⟨q0, q1, q5, q25, _⟩ := hok
      exact ⟨q0, q1, q5, (by rw [hc43]; exact q25), trivial⟩
    ·rintro a w42 ⟨e, hd, hs, hok⟩; subst e
     refine gv_in ?_ hd hs hok
     clear hd hs hok
     have e := sj h1; subst e
     refine gv_goal fun a hd hs hok => ?_
     exact ⟨hB0, nrf, hpa0_0, hd, hs, okp [0, 1, 5, 25] hok⟩
  ·rintro a w40 ⟨hB44, hz45, hk46, hd, hs, hok⟩
   refine gv_in ?_ hd hs hok
   clear hd hs hok
   clear hz45 hn38 hc3 hn2
   refine gv_cond (b := j39) kr (fun hc47 => ?_) (fun hc47 => ?_)
   ·replace h0 := ite_t hc47 h0
    refine gv_seq <| gv_region <| pN 14 [34, 35, 36, 37, 38, 39, 40, 41, 42, 43, 44, 45, 46, 47] [(34, (.slice pa0_0 (length p_0) pc0_0)), (38, (.int .u8 (bwOr .u8 224 (IntKind.u8.wrap (((r_1).fdiv (2 ^ 12))))))), (43, (.int .u8 (bwOr .u8 128 (bwAnd .u8 (IntKind.u8.wrap (((r_1).fdiv (2 ^ 6)))) 63)))), (47, (.int .u8 (bwOr .u8 128 (bwAnd .u8 (IntKind.u8.wrap (r_1)) 63))))] ?_
    refine bindE h0 ?_; clear h0; intro b48 hb49 h0
    have hu50 := u8_spec hb49
    refine bindE h0 ?_; clear h0; intro b51 hb52 h0
    have hu53 := u8_spec hb52
    refine bindE h0 ?_; clear h0; intro b54 hb55 h0
    have hu56 := u8_spec hb55
    refine gv_new0 (fun b => .slice (some ⟨b, 0, none⟩) 3 3) #[(.int .u8 (bwOr .u8 224 (IntKind.u8.wrap (((r_1).fdiv (2 ^ 12)))))), (.int .u8 (bwOr .u8 128 (bwAnd .u8 (IntKind.u8.wrap (((r_1).fdiv (2 ^ 6)))) 63))), (.int .u8 (bwOr .u8 128 (bwAnd .u8 (IntKind.u8.wrap (r_1)) 63)))] 5 kr kr ?_
    intro b57 w58 hg59 hb60 hbe61 hz62
    have ho63 : Gv.Own bE 5 w58 (fun _ => False) (some ⟨b57, 0, none⟩) 3 ([b48, b51, b54] : List UInt8) := Box.ownE hb60 ⟨[(.int .u8 (bwOr .u8 224 (IntKind.u8.wrap (((r_1).fdiv (2 ^ 12))))))], [(.int .u8 (bwOr .u8 128 (bwAnd .u8 (IntKind.u8.wrap (((r_1).fdiv (2 ^ 6)))) 63))), (.int .u8 (bwOr .u8 128 (bwAnd .u8 (IntKind.u8.wrap (r_1)) 63)))], rfl, (by simp only [bE, flat, hu50]), ⟨[(.int .u8 (bwOr .u8 128 (bwAnd .u8 (IntKind.u8.wrap (((r_1).fdiv (2 ^ 6)))) 63)))], [(.int .u8 (bwOr .u8 128 (bwAnd .u8 (IntKind.u8.wrap (r_1)) 63)))], rfl, (by simp only [bE, flat, hu53]), ⟨[(.int .u8 (bwOr .u8 128 (bwAnd .u8 (IntKind.u8.wrap (r_1)) 63)))], [], rfl, (by simp only [bE, flat, hu56]), rfl⟩⟩⟩ (show 3 ≤ maxLen by decide) (fun h => h)
    have hl64 : ∀ g, blk (some ⟨b57, 0, none⟩) = some g → w0.heap.size ≤ g := loo hbe61 hB44.size
    refine bindE h0 ?_; clear h0; intro l68 hx69 h0
    have hk76 := hk46.grown hg59 (fun _ h => h.elim) nb
    refine gv_append bE (t := 22) (ty := 22) (e := 5) (a := pa0_0) (ax := (some ⟨b57, 0, none⟩)) (cap := pc0_0) (cx := 3) (xs := p_0) (ys := ([b48, b51, b54] : List UInt8)) l68 (X := (fun _ => False)) (Y := (fun k => blk (some ⟨b57, 0, none⟩) = some k)) (by decide) rfl rfl kr kr Tryd.underlying22 info5 hk76 (ho63.rd (Y := fun k => blk (some ⟨b57, 0, none⟩) = some k) (fun _ h => h.elim) (fun g e => e)) hx69 (.inr fun _ _ _ _ _ h => h) (fun _ h => h.elim) ?_
    intro a70 c71 w72 hg73 ho74 hk75
    refine ⟨(fun e => by cases e), ?_⟩
    have hB78 := grown_stepO hB44 hg59 nb
    have hl77 : ∀ g, blk a70 = some g → blk pa0_0 = some g ∨ w0.heap.size ≤ g := blkw_tr (blkw_of hk75) (fun g e => Or.inl e) hB78.size
    have ap80 : ∀ g, blk pa0_0 = some g → ¬ (fun k => blk (some ⟨b57, 0, none⟩) = some k) g := fun g e hx => nl ((lowo hbe61) _ hx) ((fun k (hk : blk pa0_0 = some k) => hk46.lt k hk) g e)
    have ap79 : ∀ g, blk a70 = some g → ¬ (fun k => blk (some ⟨b57, 0, none⟩) = some k) g := blk_neX hk75 ap80 (fun k (hk : blk (some ⟨b57, 0, none⟩) = some k) => ho63.lt k hk)
    have ap82 : ∀ g, blk (some ⟨b57, 0, none⟩) = some g → ¬ (fun k => blk pa0_0 = some k) g := fun g e hx => nl ((lowo hbe61) g e) ((fun k (hk : blk pa0_0 = some k) => hk46.lt k hk) _ hx)
    have ap81 : ∀ g, blk (some ⟨b57, 0, none⟩) = some g → ¬ (fun k => blk a70 = some k) g := fun g e h => blk_rev hk75 (fun h => ((ap82) g e) h) (ho63.lt g e) h
    refine pN 1 [4] [(4, (.slice a70 (length l68) c71))] ?_
    refine gv_nil <| gv_cret ?_
    have e := sj h0; subst e
    refine gv_ret (gv_done [(.slice a70 (length l68) c71)] rfl ⟨kr, trivial⟩ ?_)
    have hB83 := grown_stepO hB78 hg73 (fun g e => Or.inl e)
    exact ⟨hB83, a70, c71, rfl, ho74, hl77⟩
   ·replace h0 := ite_f hc47 h0
    refine gv_seq <| gv_region <| gv_cut_ops (J := fun a w84 => w40 = w84 ∧ a.defers = [] ∧ a.tmps.size = 78 ∧ Ok [(0, (.slice pa0_0 (length p_0) pc0_0)), (1, (.int .i32 r_1)), (50, (.bool ((decide ((IntKind.u32.wrap (r_1)) > 65535)) && (decide ((IntKind.u32.wrap (r_1)) ≤ 1114111)))))] a.tmps) ?_ ?_
    ·skip
     refine pN 3 [51, 52, 53] [(53, (.bool (decide ((IntKind.u32.wrap (r_1)) > 65535))))] ?_
     refine gv_split (s := 53) (g := (decide ((IntKind.u32.wrap (r_1)) > 65535))) kr (fun hc85 => ?_) (fun hc85 => ?_)
     ·skip
      refine pN 4 [50, 54, 55, 56] [(50, (.bool (decide ((IntKind.u32.wrap (r_1)) ≤ 1114111))))] ?_
      refine gv_nil <| gv_sub [0, 1, 50] (σ' := [(0, (.slice pa0_0 (length p_0) pc0_0)), (1, (.int .i32 r_1)), (50, (.bool (decide ((IntKind.u32.wrap (r_1)) ≤ 1114111))))]) kr ?_
      refine gv_goal fun a hd hs hok => ⟨rfl, hd, hs, ?_⟩
      obtain ⟨q0, q1, q50, _⟩ := hok
      exact ⟨q0, q1, (by rw [hc85]; exact q50), trivial⟩
     ·skip
      refine pN 4 [50, 54, 55, 56] [(50, (.bool false))] ?_
      refine gv_nil <| gv_sub [0, 1, 50] (σ' := [(0, (.slice pa0_0 (length p_0) pc0_0)), (1, (.int .i32 r_1)), (50, (.bool false))]) kr ?_
      refine gv_goal fun a hd hs hok => ⟨rfl, hd, hs, ?_⟩
      obtain ⟨q0, q1, q50, _⟩ := hok
      exact ⟨q0, q1, (by rw [hc85]; exact q50), trivial⟩
    ·rintro a w84 ⟨e, hd, hs, hok⟩; subst e
     refine gv_in ?_ hd hs hok
     clear hd hs hok
     refine gv_cond (b := ((decide ((IntKind.u32.wrap (r_1)) > 65535)) && (decide ((IntKind.u32.wrap (r_1)) ≤ 1114111)))) kr (fun hc86 => ?_) (fun hc86 => ?_)
     ·replace h0 := ite_t hc86 h0
      refine gv_seq <| gv_region <| pN 19 [57, 58, 59, 60, 61, 62, 63, 64, 65, 66, 67, 68, 69, 70, 71, 72, 73, 74, 75] [(57, (.slice pa0_0 (length p_0) pc0_0)), (61, (.int .u8 (bwOr .u8 240 (IntKind.u8.wrap (((r_1).fdiv (2 ^ 18))))))), (66, (.int .u8 (bwOr .u8 128 (bwAnd .u8 (IntKind.u8.wrap (((r_1).fdiv (2 ^ 12)))) 63)))), (71, (.int .u8 (bwOr .u8 128 (bwAnd .u8 (IntKind.u8.wrap (((r_1).fdiv (2 ^ 6)))) 63)))), (75, (.int .u8 (bwOr .u8 128 (bwAnd .u8 (IntKind.u8.wrap (r_1)) 63))))] ?_
      refine bindE h0 ?_; clear h0; intro b87 hb88 h0
      have hu89 := u8_spec hb88
      refine bindE h0 ?_; clear h0; intro b90 hb91 h0
      have hu92 := u8_spec hb91
      refine bindE h0 ?_; clear h0; intro b93 hb94 h0
      have hu95 := u8_spec hb94
      refine bindE h0 ?_; clear h0; intro b96 hb97 h0
      have hu98 := u8_spec hb97
      refine gv_new0 (fun b => .slice (some ⟨b, 0, none⟩) 4 4) #[(.int .u8 (bwOr .u8 240 (IntKind.u8.wrap (((r_1).fdiv (2 ^ 18)))))), (.int .u8 (bwOr .u8 128 (bwAnd .u8 (IntKind.u8.wrap (((r_1).fdiv (2 ^ 12)))) 63))), (.int .u8 (bwOr .u8 128 (bwAnd .u8 (IntKind.u8.wrap (((r_1).fdiv (2 ^ 6)))) 63))), (.int .u8 (bwOr .u8 128 (bwAnd .u8 (IntKind.u8.wrap (r_1)) 63)))] 5 kr kr ?_
      intro b99 w100 hg101 hb102 hbe103 hz104
      have ho105 : Gv.Own bE 5 w100 (fun _ => False) (some ⟨b99, 0, none⟩) 4 ([b87, b90, b93, b96] : List UInt8) := Box.ownE hb102 ⟨[(.int .u8 (bwOr .u8 240 (IntKind.u8.wrap (((r_1).fdiv (2 ^ 18))))))], [(.int .u8 (bwOr .u8 128 (bwAnd .u8 (IntKind.u8.wrap (((r_1).fdiv (2 ^ 12)))) 63))), (.int .u8 (bwOr .u8 128 (bwAnd .u8 (IntKind.u8.wrap (((r_1).fdiv (2 ^ 6)))) 63))), (.int .u8 (bwOr .u8 128 (bwAnd .u8 (IntKind.u8.wrap (r_1)) 63)))], rfl, (by simp only [bE, flat, hu89]), ⟨[(.int .u8 (bwOr .u8 128 (bwAnd .u8 (IntKind.u8.wrap (((r_1).fdiv (2 ^ 12)))) 63)))], [(.int .u8 (bwOr .u8 128 (bwAnd .u8 (IntKind.u8.wrap (((r_1).fdiv (2 ^ 6)))) 63))), (.int .u8 (bwOr .u8 128 (bwAnd .u8 (IntKind.u8.wrap (r_1)) 63)))], rfl, (by simp only [bE, flat, hu92]), ⟨[(.int .u8 (bwOr .u8 128 (bwAnd .u8 (IntKind.u8.wrap (((r_1).fdiv (2 ^ 6)))) 63)))], [(.int .u8 (bwOr .u8 128 (bwAnd .u8 (IntKind.u8.wrap (r_1)) 63)))], rfl, (by simp only [bE, flat, hu95]), ⟨[(.int .u8 (bwOr .u8 128 (bwAnd .u8 (IntKind.u8.wrap (r_1)) 63)))], [], rfl, (by simp only [bE, flat, hu98]), rfl⟩⟩⟩⟩ (show 4 ≤ maxLen by decide) (fun h => h)
      have hl106 : ∀ g, blk (some ⟨b99, 0, none⟩) = some g → w0.heap.size ≤ g := loo hbe103 hB44.size
      refine bindE h0 ?_; clear h0; intro l110 hx111 h0
      have hk118 := hk46.grown hg101 (fun _ h => h.elim) nb
      refine gv_append bE (t := 22) (ty := 22) (e := 5) (a := pa0_0) (ax := (some ⟨b99, 0, none⟩)) (cap := pc0_0) (cx := 4) (xs := p_0) (ys := ([b87, b90, b93, b96] : List UInt8)) l110 (X := (fun _ => False)) (Y := (fun k => blk (some ⟨b99, 0, none⟩) = some k)) (by decide) rfl rfl kr kr Tryd.underlying22 info5 hk118 (ho105.rd (Y := fun k => blk (some ⟨b99, 0, none⟩) = some k) (fun _ h => h.elim) (fun g e => e)) hx111 (.inr fun _ _ _ _ _ h => h) (fun _ h => h.elim) ?_
      intro a112 c113 w114 hg115 ho116 hk117
      refine ⟨(fun e => by cases e), ?_⟩
      have hB120 := grown_stepO hB44 hg101 nb
      have hl119 : ∀ g, blk a112 = some g → blk pa0_0 = some g ∨ w0.heap.size ≤ g := blkw_tr (blkw_of hk117) (fun g e => Or.inl e) hB120.size
      have ap122 : ∀ g, blk pa0_0 = some g → ¬ (fun k => blk (some ⟨b99, 0, none⟩) = some k) g := fun g e hx => nl ((lowo hbe103) _ hx) ((fun k (hk : blk pa0_0 = some k) => hk46.lt k hk) g e)
      have ap121 : ∀ g, blk a112 = some g → ¬ (fun k => blk (some ⟨b99, 0, none⟩) = some k) g := blk_neX hk117 ap122 (fun k (hk : blk (some ⟨b99, 0, none⟩) = some k) => ho105.lt k hk)
      have ap124 : ∀ g, blk (some ⟨b99, 0, none⟩) = some g → ¬ (fun k => blk pa0_0 = some k) g := fun g e hx => nl ((lowo hbe103) g e) ((fun k (hk : blk pa0_0 = some k) => hk46.lt k hk) _ hx)
      have ap123 : ∀ g, blk (some ⟨b99, 0, none⟩) = some g → ¬ (fun k => blk a112 = some k) g := fun g e h => blk_rev hk117 (fun h => ((ap124) g e) h) (ho105.lt g e) h
      refine pN 1 [4] [(4, (.slice a112 (length l110) c113))] ?_
      refine gv_nil <| gv_cret ?_
      have e := sj h0; subst e
      refine gv_ret (gv_done [(.slice a112 (length l110) c113)] rfl ⟨kr, trivial⟩ ?_)
      have hB125 := grown_stepO hB120 hg115 (fun g e => Or.inl e)
      exact ⟨hB125, a112, c113, rfl, ho116, hl119⟩
     ·replace h0 := ite_f hc86 h0
      refine gv_seq <| gv_region <| pN 1 [8] [(8, (.slice pa0_0 (length p_0) pc0_0))] ?_
      refine gv_new0 (fun b => .slice (some ⟨b, 0, none⟩) 3 3) #[(.int .u8 239), (.int .u8 191), (.int .u8 189)] 5 kr kr ?_
      intro b126 w127 hg128 hb129 hbe130 hz131
      have ho132 : Gv.Own bE 5 w127 (fun _ => False) (some ⟨b126, 0, none⟩) 3 ([(239 : UInt8), (191 : UInt8), (189 : UInt8)] : List UInt8) := Box.ownE hb129 ⟨[(.int .u8 239)], [(.int .u8 191), (.int .u8 189)], rfl, rfl, ⟨[(.int .u8 191)], [(.int .u8 189)], rfl, rfl, ⟨[(.int .u8 189)], [], rfl, rfl, rfl⟩⟩⟩ (show 3 ≤ maxLen by decide) (fun h => h)
      have hl133 : ∀ g, blk (some ⟨b126, 0, none⟩) = some g → w0.heap.size ≤ g := loo hbe130 hB44.size
      refine bindE h0 ?_; clear h0; intro l137 hx138 h0
      have hk145 := hk46.grown hg128 (fun _ h => h.elim) nb
      refine gv_append bE (t := 22) (ty := 22) (e := 5) (a := pa0_0) (ax := (some ⟨b126, 0, none⟩)) (cap := pc0_0) (cx := 3) (xs := p_0) (ys := ([(239 : UInt8), (191 : UInt8), (189 : UInt8)] : List UInt8)) l137 (X := (fun _ => False)) (Y := (fun k => blk (some ⟨b126, 0, none⟩) = some k)) (by decide) rfl rfl kr kr Tryd.underlying22 info5 hk145 (ho132.rd (Y := fun k => blk (some ⟨b126, 0, none⟩) = some k) (fun _ h => h.elim) (fun g e => e)) hx138 (.inr fun _ _ _ _ _ h => h) (fun _ h => h.elim) ?_
      intro a139 c140 w141 hg142 ho143 hk144
      refine ⟨(fun e => by cases e), ?_⟩
      have hB147 := grown_stepO hB44 hg128 nb
      have hl146 : ∀ g, blk a139 = some g → blk pa0_0 = some g ∨ w0.heap.size ≤ g := blkw_tr (blkw_of hk144) (fun g e => Or.inl e) hB147.size
      have ap149 : ∀ g, blk pa0_0 = some g → ¬ (fun k => blk (some ⟨b126, 0, none⟩) = some k) g := fun g e hx => nl ((lowo hbe130) _ hx) ((fun k (hk : blk pa0_0 = some k) => hk46.lt k hk) g e)
      have ap148 : ∀ g, blk a139 = some g → ¬ (fun k => blk (some ⟨b126, 0, none⟩) = some k) g := blk_neX hk144 ap149 (fun k (hk : blk (some ⟨b126, 0, none⟩) = some k) => ho132.lt k hk)
      have ap151 : ∀ g, blk (some ⟨b126, 0, none⟩) = some g → ¬ (fun k => blk pa0_0 = some k) g := fun g e hx => nl ((lowo hbe130) g e) ((fun k (hk : blk pa0_0 = some k) => hk46.lt k hk) _ hx)
      have ap150 : ∀ g, blk (some ⟨b126, 0, none⟩) = some g → ¬ (fun k => blk a139 = some k) g := fun g e h => blk_rev hk144 (fun h => ((ap151) g e) h) (ho132.lt g e) h
      clear ap150 ap151 ap148 ap149 hk144 hk145 hx138 hl133 ho132 hz131 hbe130 hb129 hg128 hc86 hc47 hk46 hB44
      refine pN 1 [4] [(4, (.slice a139 (length l137) c140))] ?_
      refine gv_nil <| gv_cret ?_
      have e := sj h0; subst e
      refine gv_ret (gv_done [(.slice a139 (length l137) c140)] rfl ⟨kr, trivial⟩ ?_)
      have hB152 := grown_stepO hB147 hg142 (fun g e => Or.inl e)
      exact ⟨hB152, a139, c140, rfl, ho143, hl146⟩

theorem utf8_AppendRune_ok (fuel : Nat) (pa0_0 : Option Addr) (pc0_0 : Nat) (p_0 : (List UInt8)) (r_1 : Int) (w0 : World) (hpa0_0 : Gv.Own bE 5 w0 (fun _ => False) pa0_0 pc0_0 p_0) (r0 : (List UInt8)) (h0 : utf8_AppendRune fuel p_0 r_1 = some r0) :
    Calls Tryd.prog 43 ([(.slice pa0_0 (length p_0) pc0_0), (.int .i32 r_1)] : List Value).toArray w0 (Ret fun v w' => w0.grownBy w' (blk pa0_0) ∧ ∃ (a0_0r : Option Addr) (c0_0r : Nat), v = tup [(.slice a0_0r (length r0) c0_0r)] ∧ Gv.Own bE 5 w' (fun _ => False) a0_0r c0_0r r0 ∧ (∀ g, blk a0_0r = some g → blk pa0_0 = some g ∨ w0.heap.size ≤ g)) := by
 have hB0 : w0.grownBy w0 (blk pa0_0) := grown_refl _ _
 unfold utf8_AppendRune at h0
 refine calls_run Tryd.func43 rfl Tryd.ntmps43 kr ?_
 refine gv_sub [0, 1] (σ' := [(0, (.slice pa0_0 (length p_0) pc0_0)), (1, (.int .i32 r_1))]) kr ?_
 refine gv_seq <| gv_region <| pN 1 [4] [] ?_
 refine gv_nil <| gv_seq <| gv_seq <| gv_region <| pN 3 [5, 6, 7] [(7, (.bool (decide ((IntKind.u32.wrap (r_1)) ≤ 127))))] ?_
 refine gv_nil <| gv_cond (b := (decide ((IntKind.u32.wrap (r_1)) ≤ 127))) kr (fun hc1 => ?_) (fun hc1 => ?_)
 ·replace h0 := ite_t hc1 h0
  refine gv_seq <| gv_region <| pN 3 [8, 9, 10] [(8, (.slice pa0_0 (length p_0) pc0_0)), (10, (.int .u8 (IntKind.u8.wrap (r_1))))] ?_
  refine bindE h0 ?_; clear h0; intro b2 hb3 h0
  have hu4 := u8_spec hb3
  refine gv_new0 (fun b => .slice (some ⟨b, 0, none⟩) 1 1) #[(.int .u8 (IntKind.u8.wrap (r_1)))] 5 kr kr ?_
  intro b5 w6 hg7 hb8 hbe9 hz10
  have ho11 : Gv.Own bE 5 w6 (fun _ => False) (some ⟨b5, 0, none⟩) 1 ([b2] : List UInt8) := Box.ownE hb8 ⟨[(.int .u8 (IntKind.u8.wrap (r_1)))], [], rfl, (by simp only [bE, flat, hu4]), rfl⟩ (show 1 ≤ maxLen by decide) (fun h => h)
  have hl12 : ∀ g, blk (some ⟨b5, 0, none⟩) = some g → w0.heap.size ≤ g := loo hbe9 hB0.size
  refine bindE h0 ?_; clear h0; intro l16 hx17 h0
  have hk24 := hpa0_0.grown hg7 (fun _ h => h.elim) nb
  refine gv_append bE (t := 22) (ty := 22) (e := 5) (a := pa0_0) (ax := (some ⟨b5, 0, none⟩)) (cap := pc0_0) (cx := 1) (xs := p_0) (ys := ([b2] : List UInt8)) l16 (X := (fun _ => False)) (Y := (fun k => blk (some ⟨b5, 0, none⟩) = some k)) (by decide) rfl rfl kr kr Tryd.underlying22 info5 hk24 (ho11.rd (Y := fun k => blk (some ⟨b5, 0, none⟩) = some k) (fun _ h => h.elim) (fun g e => e)) hx17 (.inr fun _ _ _ _ _ h => h) (fun _ h => h.elim) ?_
  intro a18 c19 w20 hg21 ho22 hk23
  refine ⟨(fun e => by cases e), ?_⟩
  have hB26 := grown_stepO hB0 hg7 nb
  have hl25 : ∀ g, blk a18 = some g → blk pa0_0 = some g ∨ w0.heap.size ≤ g := blkw_tr (blkw_of hk23) (fun g e => Or.inl e) hB26.size
  have ap28 : ∀ g, blk pa0_0 = some g → ¬ (fun k => blk (some ⟨b5, 0, none⟩) = some k) g := fun g e hx => nl ((lowo hbe9) _ hx) ((fun k (hk : blk pa0_0 = some k) => hpa0_0.lt k hk) g e)
  have ap27 : ∀ g, blk a18 = some g → ¬ (fun k => blk (some ⟨b5, 0, none⟩) = some k) g := blk_neX hk23 ap28 (fun k (hk : blk (some ⟨b5, 0, none⟩) = some k) => ho11.lt k hk)
  have ap30 : ∀ g, blk (some ⟨b5, 0, none⟩) = some g → ¬ (fun k => blk pa0_0 = some k) g := fun g e hx => nl ((lowo hbe9) g e) ((fun k (hk : blk pa0_0 = some k) => hpa0_0.lt k hk) _ hx)
  have ap29 : ∀ g, blk (some ⟨b5, 0, none⟩) = some g → ¬ (fun k => blk a18 = some k) g := fun g e h => blk_rev hk23 (fun h => ((ap30) g e) h) (ho11.lt g e) h
  refine pN 1 [4] [(4, (.slice a18 (length l16) c19))] ?_
  refine gv_nil <| gv_cret ?_
  have e := sj h0; subst e
  refine gv_ret (gv_done [(.slice a18 (length l16) c19)] rfl ⟨kr, trivial⟩ ?_)
  have hB31 := grown_stepO hB26 hg21 (fun g e => Or.inl e)
  exact ⟨hB31, a18, c19, rfl, ho22, hl25⟩
 ·replace h0 := ite_f hc1 h0
  refine gv_skip <| gv_seq <| gv_region <| pN 2 [13, 14] [(13, (.slice pa0_0 (length p_0) pc0_0)), (14, (.int .i32 r_1))] ?_
  refine bindE h0 ?_; clear h0; intro r32 hr33 h0
  refine gv_call0 kr rfl kr enters62 (utf8_appendRuneNonASCII_ok fuel pa0_0 pc0_0 p_0 r_1 w0 hpa0_0 r32 hr33) ?_
  rintro v36 w34 ⟨hg35, a37, c38, rfl, ho39, hk40⟩
  have hl41 : ∀ g, blk a37 = some g → blk pa0_0 = some g ∨ w0.heap.size ≤ g := blkw_tr hk40 (fun g e => Or.inl e) hB0.size
  refine pN 1 [4] [(4, (.slice a37 (length r32) c38))] ?_
  refine gv_nil <| gv_cret ?_
  have e := sj h0; subst e
  refine gv_ret (gv_done [(.slice a37 (length r32) c38)] rfl ⟨kr, trivial⟩ ?_)
  have hB42 := grown_stepO hB0 hg35 (fun g e => Or.inl e)
  exact ⟨hB42, a37, c38, rfl, ho39, hl41⟩

theorem bytestr_Decode_ok (fuel : Nat) (pa0_0 : Option Addr) (pc0_0 : Nat) (b_0 : (List UInt8)) (coding_1 : Int) (mode_2 : Int) (w0 : World) (X0 : Nat → Prop) (hX0 : ∀ k, X0 k → k < w0.heap.size) (hpa0_0 : Rd bE w0 X0 pa0_0 pc0_0 b_0) (hG0 : Rd bE w0 X0 (some ⟨0, 0, none⟩) 256 utf8First) (hG1 : Rd (prE (iE .u8) (iE .u8)) w0 X0 (some ⟨1, 0, none⟩) 16 utf8Acc) (r0 : (ByteArray × (Int × Int))) (h0 : bytestr_Decode fuel b_0 coding_1 mode_2 = some r0) :
    Calls Tryd.prog 23 ([(.slice pa0_0 (length b_0) pc0_0), (.int .i64 coding_1), (.int .i64 mode_2)] : List Value).toArray w0 (Ret fun v w' => w0.grownBy w' none ∧ v = tup [(.string r0.1), (.agg #[(.int .i64 r0.2.1), (.int .i64 r0.2.2)])]) := by
 have hB0 : Below w0.heap.size w0 w0 := Below.refl _ _
 unfold bytestr_Decode at h0
 refine calls_run Tryd.func23 rfl Tryd.ntmps23 kr ?_
 refine gv_sub [0, 1, 2] (σ' := [(0, (.slice pa0_0 (length b_0) pc0_0)), (1, (.int .i64 coding_1)), (2, (.int .i64 mode_2))]) kr ?_
 refine gv_seq <| gv_region <| pN 1 [6] [] ?_
 refine gv_new0 (fun b => .pointer (some ⟨b, 0, none⟩)) #[(.int .i64 0), (.int .i64 0)] 25 kr kr ?_
 intro b1 w2 hg3 hb4 hbe5 hz6
 refine gv_nil <| gv_seq <| gv_seq <| gv_region <| pN 1 [14] [(14, (.slice pa0_0 (length b_0) pc0_0))] ?_
 refine gv_new0 (fun b => .slice (some ⟨b, 0, none⟩) 1 1) #[(.slice pa0_0 (length b_0) pc0_0)] 22 kr kr ?_
 intro b7 w8 hg9 hb10 hbe11 hz12
 obtain ⟨X18, e⟩ : ∃ X : Nat → Prop, X = (fun k => X0 k) := ⟨_, rfl⟩
 have hB19 := bg hB0 hg3 nb
 have hx16 : ∀ k, X18 k → k < w2.heap.size := fun k h => by rw [e] at h; exact (fun k (hk : X0 k) => ltl (hX0 k hk) hB19.size) k h
 have hz20 := hg9.size
 have hx15 : ∀ k, X18 k → k < w8.heap.size := fun k h => ltl (hx16 k h) hz20
 have hx17 : ∀ k, X18 k → X0 k ∨ w0.heap.size ≤ k := fun k h => by rw [e] at h; exact (fun k (hk : X0 k) => Or.inl hk) k h
 have hB21 := bg hB19 hg9 nb
 have ho13 : Gv.Own (slE bE) 22 w8 X18 (some ⟨b7, 0, none⟩) 1 ([b_0] : List (List UInt8)) := Box.ownE hb10 (by rw [e]; exact ⟨[(.slice pa0_0 (length b_0) pc0_0)], [], rfl, ⟨pa0_0, pc0_0, rfl, ((hpa0_0.below hB21 hX0).wide (fun _ h => h))⟩, rfl⟩) (show 1 ≤ maxLen by decide) (fun h => noteq hbe11 (hx16 _ h))
 have hx22 : ∀ k, X18 k → (fun k => X0 k) k := fun k h => by rw [e] at h; exact h
 clear e
 have hl14 : ∀ g, blk (some ⟨b7, 0, none⟩) = some g → w0.heap.size ≤ g := loo hbe11 hB19.size
 have ap23 : ∀ g, blk (some ⟨b7, 0, none⟩) = some g → ¬ (· = b1) g := fun g e hx => nl (lowo hbe11 g e) ((ltb hb4) _ hx)
 have hlo25 : w0.heap.size ≤ b1 := lob hbe5 hB0.size
 have ap24 : ¬ (fun k => blk (some ⟨b7, 0, none⟩) = some k ∨ X18 k) b1 := fun h => h.elim (fun h => nl (lowo hbe11 _ h) ((ltb hb4) _ rfl)) (fun h => ((fun (hx : X0 b1) => nl hlo25 (hX0 _ hx)))  (hx22 _ h))
 refine bindE h0 ?_; clear h0; intro r26 hr27 h0
 refine gv_call0 kr rfl kr enters37 (bytestr_check_ok fuel (some ⟨b7, 0, none⟩) 1 ([b_0] : List (List UInt8)) w8 (fun k => (fun k => blk (some ⟨b7, 0, none⟩) = some k ∨ X18 k) k) (fun k hk => (fun k (hk : blk (some ⟨b7, 0, none⟩) = some k ∨ X18 k) => hk.elim (fun h => ho13.lt k h) (fun h => hx15 k h)) k hk) ((ho13.rd (Y := fun k => blk (some ⟨b7, 0, none⟩) = some k ∨ X18 k) (fun _ h => .inr h) (fun g e => .inl e)).wide (fun k hk => hk)) r26 hr27) ?_
 rintro v30 w28 ⟨hg29, rfl⟩
 refine gv_new0 (fun b => .pointer (some ⟨b, 0, none⟩)) #[(.int .i64 0), (.int .i64 0)] 25 kr kr ?_
 intro b31 w32 hg33 hb34 hbe35 hz36
 refine gv_store0 25 0 (.agg #[(.int .i64 r26.1), (.int .i64 r26.2)]) #[(.int .i64 r26.1), (.int .i64 r26.2)] hb34 kr kr kr ?_
 intro w37 hg38 hb39 hz40
 refine gv_nil <| gv_seq <| gv_region <| pN 1 [17] [(17, (bp b31))] ?_
 refine gv_load (t := 3) (A := ⟨b31, 0, none⟩) (.int .i64 r26.1) [] (fun e => by cases e) rfl rfl rfl kr kr kr (inw0 (hb39.cell 0 rfl)) rfl ?_
 refine pN 1 [19] [(19, (.bool (r26.1 != 0)))] ?_
 refine gv_nil <| gv_cond (b := (r26.1 != 0)) kr (fun hc41 => ?_) (fun hc41 => ?_)
 ·replace h0 := ite_t hc41 h0
  refine gv_seq <| gv_drawA kr ?_
  intro w42 hg43
  refine gv_pre [1] (bA 3 [1]) 2 kr kr ?_
  refine pN 1 [6] [(6, (.string (strOf [])))] ?_
  refine gv_nil <| gv_goA ?_
  refine gv_stage (Cls w42 []) [0] [(0, some true)] (bA 3 [0, 1]) 1 kr kr (Cls.refl _ _) ?_
  have hC44 := Cls.refl w42 []
  have hk45 := hb39.grown hg43 nb
  refine gv_loadBox (t := 25) (b := b31) (t' := 25) (fr := (0, 0)) #[(.int .i64 r26.1), (.int .i64 r26.2)] [] (fun e => by cases e) rfl rfl rfl kr kr kr kr (inw1 fun w' hC' => (hC'.box hk45 nm_nil)) rfl ?_
  refine gv_nil <| gv_goA ?_
  refine gv_stage (fun _ => True) [2] [(2, some false)] (bA 3 [0, 1, 2]) 0 kr kr trivial ?_
  have hg50 := (grown_trans (grown_trans hg9 hg29) hg33)
  have hg51 := (grown_trans hg9 hg29)
  have hk52 := hb4.grown hg51 nb
  have lt53 := ltl ((ltb hk52) _ rfl) ((lowb hbe35) _ rfl)
  have hk54 := ((hb4.grown hg50 nb).grown hg38 (rowne (ng lt53))).grown hg43 nb
  refine gv_store (t := 25) (b := b1) (off := 0) (v := (.agg #[(.int .i64 r26.1), (.int .i64 r26.2)])) (t' := 25) (cs := #[(.int .i64 0), (.int .i64 0)]) #[(.int .i64 r26.1), (.int .i64 r26.2)] (by decide) rfl rfl kr kr kr (by intro u hu; simp [Value.cells] at hu; rcases hu with rfl | rfl <;> rfl) (show 0 + 2 ≤ 2 by decide) (by rfl) hk54 ?_
  intro w46 hg47 hb48 hz49
  refine ⟨(fun _ => trivial), ?_⟩
  refine gv_nil <| gv_goA ?_
  refine gv_stageE kr ?_
  refine gv_cret ?_
  have e := sj h0; subst e
  refine gv_ret (gv_done [(.string (strOf [])), (.agg #[(.int .i64 r26.1), (.int .i64 r26.2)])] rfl ⟨kr, ⟨⟨b1, 0, none⟩, kr, run_loadVar_row w46 b1 _ 25 _ _ _ hb48 Tryd.underlying25 rfl kr⟩, trivial⟩ ?_)
  have hg55 := (grown_trans hg29 hg33)
  have hB56 := bg hB21 hg55 nb
  have hB57 := bg hB21 hg29 nb
  have hlo58 : w0.heap.size ≤ b31 := lob hbe35 hB57.size
  have hB59 := bg hB56 hg38 (rowlo hlo58)
  have hB60 := bg hB59 hg43 nb
  have hB61 := bg hB60 hg47 (rowlo hlo25)
  exact ⟨grown_of_below hB61, rfl⟩
 ·replace h0 := ite_f hc41 h0
  refine gv_skip <| gv_seq <| gv_block <| gv_seq <| gv_region <| gv_cut_ops (J := fun a w62 => w37 = w62 ∧ a.defers = [] ∧ a.tmps.size = 75 ∧ Ok [(0, (.slice pa0_0 (length b_0) pc0_0)), (1, (.int .i64 coding_1)), (2, (.int .i64 mode_2)), (7, (bp b1)), (21, (.bool ((decide (coding_1 < 0)) || (decide (coding_1 > 2)))))] a.tmps) ?_ ?_
  ·skip
   refine pN 3 [22, 23, 24] [(24, (.bool (decide (coding_1 < 0))))] ?_
   refine gv_split (s := 24) (g := (decide (coding_1 < 0))) kr (fun hc63 => ?_) (fun hc63 => ?_)
   ·skip
    refine pN 4 [21, 25, 26, 27] [(21, (.bool true))] ?_
    refine gv_nil <| gv_sub [0, 1, 2, 7, 21] (σ' := [(0, (.slice pa0_0 (length b_0) pc0_0)), (1, (.int .i64 coding_1)), (2, (.int .i64 mode_2)), (7, (bp b1)), (21, (.bool true))]) kr ?_
    refine gv_goal fun a hd hs hok => ⟨rfl, hd, hs, ?_⟩
    obtain ⟨q0, q1, q2, q7, q21, _⟩ := hok
    exact ⟨q0, q1, q2, q7, (by rw [hc63]; exact q21), trivial⟩
   ·skip
    refine pN 4 [21, 25, 26, 27] [(21, (.bool (decide (coding_1 > 2))))] ?_
    refine gv_nil <| gv_sub [0, 1, 2, 7, 21] (σ' := [(0, (.slice pa0_0 (length b_0) pc0_0)), (1, (.int .i64 coding_1)), (2, (.int .i64 mode_2)), (7, (bp b1)), (21, (.bool (decide (coding_1 > 2))))]) kr ?_
    refine gv_goal fun a hd hs hok => ⟨rfl, hd, hs, ?_⟩
    obtain ⟨q0, q1, q2, q7, q21, _⟩ := hok
    exact ⟨q0, q1, q2, q7, (by rw [hc63]; exact q21), trivial⟩
  ·rintro a w62 ⟨e, hd, hs, hok⟩; subst e
   refine gv_in ?_ hd hs hok
   clear hd hs hok
   refine gv_cond (b := ((decide (coding_1 < 0)) || (decide (coding_1 > 2)))) kr (fun hc64 => ?_) (fun hc64 => ?_)
   ·replace h0 := ite_t hc64 h0
    refine gv_seq <| gv_region <| bindE h0 ?_; clear h0; intro r65 hr66 h0
    refine gv_call0 kr rfl kr enters38 (bytestr_at_ok fuel 5 (-2) w37  r65 hr66) ?_
    rintro v69 w67 ⟨hg68, rfl⟩
    clear hr66 hc64 hc41 hz40 hb39 hz36 hb34 hr27 ap24 ap23 hl14 hx22 ho13 hx17 hx15 hz20 hx16 hB19 hz12 hbe11 hb10 hz6 hbe5 hg3
    refine pN 1 [6] [(6, (.string (strOf [])))] ?_
    have hg74 := (grown_trans (grown_trans hg9 hg29) hg33)
    have hg75 := (grown_trans hg9 hg29)
    have hk76 := hb4.grown hg75 nb
    have lt77 := ltl ((ltb hk76) _ rfl) ((lowb hbe35) _ rfl)
    have hk78 := ((hb4.grown hg74 nb).grown hg38 (rowne (ng lt77))).grown hg68 nb
    refine gv_store0 25 0 (.agg #[(.int .i64 r65.1), (.int .i64 r65.2)]) #[(.int .i64 r65.1), (.int .i64 r65.2)] hk78 kr kr kr ?_
    intro w70 hg71 hb72 hz73
    refine gv_nil <| gv_cret ?_
    have e := sj h0; subst e
    refine gv_ret (gv_done [(.string (strOf [])), (.agg #[(.int .i64 r65.1), (.int .i64 r65.2)])] rfl ⟨kr, ⟨⟨b1, 0, none⟩, kr, run_loadVar_row w70 b1 _ 25 _ _ _ hb72 Tryd.underlying25 rfl kr⟩, trivial⟩ ?_)
    have hg79 := (grown_trans hg29 hg33)
    have hB80 := bg hB21 hg79 nb
    have hB81 := bg hB21 hg29 nb
    have hlo82 : w0.heap.size ≤ b31 := lob hbe35 hB81.size
    have hB83 := bg hB80 hg38 (rowlo hlo82)
    have hB84 := bg hB83 hg68 nb
    have hB85 := bg hB84 hg71 (rowlo hlo25)
    exact ⟨grown_of_below hB85, rfl⟩
   ·replace h0 := ite_f hc64 h0
    refine gv_seq <| gv_region <| gv_cut_ops (J := fun a w86 => w37 = w86 ∧ a.defers = [] ∧ a.tmps.size = 75 ∧ Ok [(0, (.slice pa0_0 (length b_0) pc0_0)), (1, (.int .i64 coding_1)), (2, (.int .i64 mode_2)), (7, (bp b1)), (29, (.bool ((decide (mode_2 < 0)) || (decide (mode_2 > 2)))))] a.tmps) ?_ ?_
    ·skip
     refine pN 3 [30, 31, 32] [(32, (.bool (decide (mode_2 < 0))))] ?_
     refine gv_split (s := 32) (g := (decide (mode_2 < 0))) kr (fun hc87 => ?_) (fun hc87 => ?_)
     ·skip
      refine pN 4 [29, 33, 34, 35] [(29, (.bool true))] ?_
      refine gv_nil <| gv_sub [0, 1, 2, 7, 29] (σ' := [(0, (.slice pa0_0 (length b_0) pc0_0)), (1, (.int .i64 coding_1)), (2, (.int .i64 mode_2)), (7, (bp b1)), (29, (.bool true))]) kr ?_
      refine gv_goal fun a hd hs hok => ⟨rfl, hd, hs, ?_⟩
      obtain ⟨q0, q1, q2, q7, q29, _⟩ := hok
      exact ⟨q0, q1, q2, q7, (by rw [hc87]; exact q29), trivial⟩
     ·skip
      refine pN 4 [29, 33, 34, 35] [(29, (.bool (decide (mode_2 > 2))))] ?_
      refine gv_nil <| gv_sub [0, 1, 2, 7, 29] (σ' := [(0, (.slice pa0_0 (length b_0) pc0_0)), (1, (.int .i64 coding_1)), (2, (.int .i64 mode_2)), (7, (bp b1)), (29, (.bool (decide (mode_2 > 2))))]) kr ?_
      refine gv_goal fun a hd hs hok => ⟨rfl, hd, hs, ?_⟩
      obtain ⟨q0, q1, q2, q7, q29, _⟩ := hok
      exact ⟨q0, q1, q2, q7, (by rw [hc87]; exact q29), trivial⟩
    ·rintro a w86 ⟨e, hd, hs, hok⟩; subst e
     refine gv_in ?_ hd hs hok
     clear hd hs hok
     refine gv_cond (b := ((decide (mode_2 < 0)) || (decide (mode_2 > 2)))) kr (fun hc88 => ?_) (fun hc88 => ?_)
     ·replace h0 := ite_t hc88 h0
      refine gv_seq <| gv_region <| bindE h0 ?_; clear h0; intro r89 hr90 h0
      refine gv_call0 kr rfl kr enters38 (bytestr_at_ok fuel 5 (-3) w37  r89 hr90) ?_
      rintro v93 w91 ⟨hg92, rfl⟩
      refine pN 1 [6] [(6, (.string (strOf [])))] ?_
      have hg98 := (grown_trans (grown_trans hg9 hg29) hg33)
      have hg99 := (grown_trans hg9 hg29)
      have hk100 := hb4.grown hg99 nb
      have lt101 := ltl ((ltb hk100) _ rfl) ((lowb hbe35) _ rfl)
      have hk102 := ((hb4.grown hg98 nb).grown hg38 (rowne (ng lt101))).grown hg92 nb
      refine gv_store0 25 0 (.agg #[(.int .i64 r89.1), (.int .i64 r89.2)]) #[(.int .i64 r89.1), (.int .i64 r89.2)] hk102 kr kr kr ?_
      intro w94 hg95 hb96 hz97
      refine gv_nil <| gv_cret ?_
      have e := sj h0; subst e
      refine gv_ret (gv_done [(.string (strOf [])), (.agg #[(.int .i64 r89.1), (.int .i64 r89.2)])] rfl ⟨kr, ⟨⟨b1, 0, none⟩, kr, run_loadVar_row w94 b1 _ 25 _ _ _ hb96 Tryd.underlying25 rfl kr⟩, trivial⟩ ?_)
      have hg103 := (grown_trans hg29 hg33)
      have hB104 := bg hB21 hg103 nb
      have hB105 := bg hB21 hg29 nb
      have hlo106 : w0.heap.size ≤ b31 := lob hbe35 hB105.size
      have hB107 := bg hB104 hg38 (rowlo hlo106)
      have hB108 := bg hB107 hg92 nb
      have hB109 := bg hB108 hg95 (rowlo hlo25)
      exact ⟨grown_of_below hB109, rfl⟩
     ·replace h0 := ite_f hc88 h0
      refine gv_skip <| gv_blk <| gv_seq <| gv_region <| pN 1 [9] [(9, (.slice none (length ([] : List UInt8)) 0))] ?_
      refine gv_nil <| gv_seq <| gv_seq <| gv_region <| pN 1 [10] [(10, (.int .i64 0))] ?_
      refine gv_nil <| bindE h0 ?_; clear h0; intro j110 h1 h0
      refine gv_cut_code (J := fun a w112 => ∃ s111 : ((List UInt8) × (Int × Int)), j110 = .inl s111 ∧ ∃ (a9_0j : Option Addr) (c9_0j : Nat), Below w0.heap.size w0 w112 ∧ w37.heap.size ≤ w112.heap.size ∧ Gv.Own bE 5 w112 (fun _ => False) a9_0j c9_0j s111.1 ∧ (∀ g, blk a9_0j = some g → w0.heap.size ≤ g) ∧ (∀ g, blk a9_0j = some g → ¬ (· = b1) g) ∧ ¬ (fun k => blk a9_0j = some k) b1 ∧ Box w112 b1 25 #[(.int .i64 s111.2.1), (.int .i64 s111.2.2)] ∧ a.defers = [] ∧ a.tmps.size = 75 ∧ Ok [(7, (bp b1)), (9, (.slice a9_0j (length s111.1) c9_0j))] a.tmps) ?_ ?_
      ·skip
       refine gv_block <| gv_loop (A := fun (s113 : ((List UInt8) × Int × (Int × Int))) a w114 => ∃ (a9_0j : Option Addr) (c9_0j : Nat), Below w0.heap.size w0 w114 ∧ w37.heap.size ≤ w114.heap.size ∧ Gv.Own bE 5 w114 (fun _ => False) a9_0j c9_0j s113.1 ∧ (∀ g, blk a9_0j = some g → w0.heap.size ≤ g) ∧ (∀ g, blk a9_0j = some g → ¬ (· = b1) g) ∧ ¬ (fun k => blk a9_0j = some k) b1 ∧ Box w114 b1 25 #[(.int .i64 s113.2.2.1), (.int .i64 s113.2.2.2)] ∧ a.defers = [] ∧ a.tmps.size = 75 ∧ Ok [(0, (.slice pa0_0 (length b_0) pc0_0)), (1, (.int .i64 coding_1)), (2, (.int .i64 mode_2)), (7, (bp b1)), (9, (.slice a9_0j (length s113.1) c9_0j)), (10, (.int .i64 s113.2.1))] a.tmps) h1 ?_ ?_
       ·intro a hd hs hok
        have hg115 := (grown_trans hg29 hg33)
        have hB116 := bg hB21 hg115 nb
        have hB117 := bg hB21 hg29 nb
        have hlo118 : w0.heap.size ≤ b31 := lob hbe35 hB117.size
        have hB119 := bg hB116 hg38 (rowlo hlo118)
        have hg120 := (grown_trans hg9 hg115)
        have hg121 := (grown_trans hg9 hg29)
        have hk122 := hb4.grown hg121 nb
        have lt123 := ltl ((ltb hk122) _ rfl) ((lowb hbe35) _ rfl)
        have hk124 := (hb4.grown hg120 nb).grown hg38 (rowne (ng lt123))
        exact ⟨none, 0, hB119, nrf, (Gv.Own.nil bE 5 w37 (fun _ => False)), (fun _ h => by cases h), (fun _ h => by cases h), (fun h => by cases h), hk124, hd, hs, okp [0, 1, 2, 7, 9, 10] hok⟩
       ·rintro s113 r2 h2 hR2 a w114 ⟨a127, c128, hB125, hz126, ho129, hl130, ap131, ap132, hb133, hd, hs, hok⟩
        refine gv_in ?_ hd hs hok
        clear hd hs hok
        clear hc88 hc64 hc41 hz40 hb39 hg38 hz36 hbe35 hb34 hg33 hg29 hr27 ap24 ap23 hl14 hx22 ho13 hB21 hx17 hx15 hz20 hx16 hB19 hz12 hbe11 hb10 hg9 hz6 hbe5 hb4 hg3
        refine gv_seq <| gv_seq <| gv_region <| pN 4 [37, 38, 39, 40] [(40, (.bool (decide (s113.2.1 < ((length b_0 : Nat) : Int)))))] ?_
        refine gv_nil <| gv_cond (b := (decide (s113.2.1 < ((length b_0 : Nat) : Int)))) kr (fun hc134 => ?_) (fun hc134 => ?_)
        ·replace h2 := ite_t hc134 h2
         refine gv_skip <| gv_block <| gv_seq <| gv_region <| pN 2 [42, 43] [(42, (.slice pa0_0 (length b_0) pc0_0)), (43, (.int .i64 s113.2.1))] ?_
         refine bindE h2 ?_; clear h2; intro x135 hx136 h2
         refine gv_ssl2 bE (t := 22) (e := 5) (xs := b_0) (a := pa0_0) (cap := pc0_0) (lo := (some (.int .i64 s113.2.1))) (hi := none) s113.2.1 ((length b_0 : Nat) : Int) x135 (fun e => by cases e) rfl rfl rfl kr kr Tryd.underlying22 kr (.inr ⟨_, rfl⟩) (.inl ⟨rfl, rfl⟩) hx136 (hpa0_0.below hB125 hX0).1 ?_
         intro a137 c138 hsub139
         have hp140 := hsub139 _ _ hpa0_0
         refine pN 1 [45] [(45, (.int .i64 coding_1))] ?_
         refine bindE h2 ?_; clear h2; intro r141 hr142 h2
         refine gv_call0 kr rfl kr enters45 (bytestr_unit_ok fuel a137 c138 x135 coding_1 w114 (fun k => X0 k ∨ X0 k ∨ X0 k) (fun k hk => (hk).elim (fun h => (fun k (hk : X0 k) => ltl (hX0 k hk) hB125.size) k h) (fun h => (h).elim (fun h => (fun k (hk : X0 k) => ltl (hX0 k hk) hB125.size) k h) (fun h => (fun k (hk : X0 k) => ltl (hX0 k hk) hB125.size) k h))) ((hp140.below hB125 hX0).wide (fun k hk => (.inl hk))) ((hG0.below hB125 hX0).wide (fun k hk => (.inr (.inl hk)))) ((hG1.below hB125 hX0).wide (fun k hk => (.inr (.inr hk)))) r141 hr142) ?_
         rintro v145 w143 ⟨hg144, rfl⟩
         refine pN 7 [11, 12, 13, 41, 47, 48, 49] [(11, (.int .i32 r141.1)), (12, (.int .i64 r141.2.1)), (13, (.bool r141.2.2))] ?_
         refine gv_nil <| gv_seq <| gv_block <| gv_seq <| gv_region <| pN 2 [50, 51] [(50, (.bool r141.2.2))] ?_
         refine gv_nil <| bindE h2 ?_; clear h2; intro j146 h3 h2
         refine gv_cut_code (J := fun a w148 => ∃ s147 : ((List UInt8) × (Int × Int)), j146 = .inl s147 ∧ ∃ (a9_0j : Option Addr) (c9_0j : Nat), Below w0.heap.size w0 w148 ∧ w143.heap.size ≤ w148.heap.size ∧ Gv.Own bE 5 w148 (fun _ => False) a9_0j c9_0j s147.1 ∧ (∀ g, blk a9_0j = some g → w0.heap.size ≤ g) ∧ (∀ g, blk a9_0j = some g → ¬ (· = b1) g) ∧ ¬ (fun k => blk a9_0j = some k) b1 ∧ Box w148 b1 25 #[(.int .i64 s147.2.1), (.int .i64 s147.2.2)] ∧ a.defers = [] ∧ a.tmps.size = 75 ∧ Ok [(0, (.slice pa0_0 (length b_0) pc0_0)), (1, (.int .i64 coding_1)), (2, (.int .i64 mode_2)), (7, (bp b1)), (9, (.slice a9_0j (length s147.1) c9_0j)), (10, (.int .i64 s113.2.1)), (12, (.int .i64 r141.2.1))] a.tmps) ?_ ?_
         ·skip
          refine gv_cond (b := r141.2.2) kr (fun hc149 => ?_) (fun hc149 => ?_)
          ·replace h3 := ite_t hc149 h3
           refine gv_region <| pN 2 [52, 53] [(52, (.slice a127 (length s113.1) c128)), (53, (.int .i32 r141.1))] ?_
           refine bindE h3 ?_; clear h3; intro r150 hr151 h3
           have hk152 := ho129.grown hg144 (fun _ h => h.elim) nb
           refine gv_call0 kr rfl kr enters43 (utf8_AppendRune_ok fuel a127 c128 s113.1 r141.1 w143 hk152 r150 hr151) ?_
           rintro v155 w153 ⟨hg154, a156, c157, rfl, ho158, hk159⟩
           have hB161 := bg hB125 hg144 nb
           have hl160 : ∀ g, blk a156 = some g → w0.heap.size ≤ g := blkw_step hk159 hl130 hB161.size
           refine pN 1 [9] [(9, (.slice a156 (length r150) c157))] ?_
           refine gv_nil ?_
           have e := sj h3; subst e
           refine gv_goal fun a hd hs hok => ?_
           have hB162 := bg hB161 hg154 hl130
           have hz163 := hg154.size
           have hk164 := hb133.grown hg144 nb
           have ap165 : ∀ g, blk a156 = some g → ¬ (· = b1) g := blkw_neX hk159 ap131 (ltb hk164)
           have ap166 : ¬ (fun k => blk a156 = some k) b1 := fun h => blkw_rev hk159 (fun h => (ap132) h) (hk164.lt) h
           have hk167 := hk164.grown hg154 ap131
           exact ⟨(r150, (s113.2.2.1, s113.2.2.2)), rfl, a156, c157, hB162, hz163, ho158, hl160, ap165, ap166, hk167, hd, hs, okp [0, 1, 2, 7, 9, 10, 12] hok⟩
          ·replace h3 := ite_f hc149 h3
           refine gv_seq <| gv_region <| pN 3 [55, 56, 57] [(55, (.bool (mode_2 == 0)))] ?_
           refine gv_nil <| gv_cond (b := (mode_2 == 0)) kr (fun hc168 => ?_) (fun hc168 => ?_)
           ·replace h3 := ite_t hc168 h3
            refine gv_seq <| gv_region <| pN 1 [58] [(58, (.int .i64 s113.2.1))] ?_
            refine bindE h3 ?_; clear h3; intro r169 hr170 h3
            refine gv_call0 kr rfl kr enters38 (bytestr_at_ok fuel 16 s113.2.1 w143  r169 hr170) ?_
            rintro v173 w171 ⟨hg172, rfl⟩
            refine pN 1 [6] [(6, (.string (strOf [])))] ?_
            have hg178 := (grown_trans hg144 hg172)
            have hk179 := hb133.grown hg178 nb
            refine gv_store0 25 0 (.agg #[(.int .i64 r169.1), (.int .i64 r169.2)]) #[(.int .i64 r169.1), (.int .i64 r169.2)] hk179 kr kr kr ?_
            intro w174 hg175 hb176 hz177
            refine gv_nil <| gv_cret ?_
            have e := sj h3; subst e
            replace h2 := cont_inr h2
            have e := sj h2; subst e
            replace h1 := congrArg some (hR2 _ rfl)
            have e := sj h1; subst e
            replace h0 := cont_inr h0
            have e := sj h0; subst e
            refine gv_ret (gv_done [(.string (strOf [])), (.agg #[(.int .i64 r169.1), (.int .i64 r169.2)])] rfl ⟨kr, ⟨⟨b1, 0, none⟩, kr, run_loadVar_row w174 b1 _ 25 _ _ _ hb176 Tryd.underlying25 rfl kr⟩, trivial⟩ ?_)
            have hB180 := bg hB125 hg178 nb
            have hB181 := bg hB180 hg175 (rowlo hlo25)
            exact ⟨grown_of_below hB181, rfl⟩
           ·replace h3 := ite_f hc168 h3
            refine gv_seq <| gv_region <| pN 3 [60, 61, 62] [(60, (.bool (mode_2 == 1)))] ?_
            refine gv_nil <| gv_cond (b := (mode_2 == 1)) kr (fun hc182 => ?_) (fun hc182 => ?_)
            ·replace h3 := ite_t hc182 h3
             refine gv_region <| pN 1 [63] [(63, (.slice a127 (length s113.1) c128))] ?_
             refine bindE h3 ?_; clear h3; intro r183 hr184 h3
             have hk185 := ho129.grown hg144 (fun _ h => h.elim) nb
             refine gv_call0 kr rfl kr enters43 (utf8_AppendRune_ok fuel a127 c128 s113.1 65533 w143 hk185 r183 hr184) ?_
             rintro v188 w186 ⟨hg187, a189, c190, rfl, ho191, hk192⟩
             have hB194 := bg hB125 hg144 nb
             have hl193 : ∀ g, blk a189 = some g → w0.heap.size ≤ g := blkw_step hk192 hl130 hB194.size
             have hz195 := (nt hz126 hg144.size)
             clear hk185 hr184 hc182 hc168 hc149 hr142 hsub139 hx136 hc134 ho129 hz126 hB125
             refine pN 1 [9] [(9, (.slice a189 (length r183) c190))] ?_
             refine gv_nil ?_
             have e := sj h3; subst e
             refine gv_goal fun a hd hs hok => ?_
             have hB196 := bg hB194 hg187 hl130
             have hz197 := hg187.size
             have hk198 := hb133.grown hg144 nb
             have ap199 : ∀ g, blk a189 = some g → ¬ (· = b1) g := blkw_neX hk192 ap131 (ltb hk198)
             have ap200 : ¬ (fun k => blk a189 = some k) b1 := fun h => blkw_rev hk192 (fun h => (ap132) h) (hk198.lt) h
             have hk201 := hk198.grown hg187 ap131
             exact ⟨(r183, (s113.2.2.1, s113.2.2.2)), rfl, a189, c190, hB196, hz197, ho191, hl193, ap199, ap200, hk201, hd, hs, okp [0, 1, 2, 7, 9, 10, 12] hok⟩
            ·replace h3 := ite_f hc182 h3
             refine gv_skip ?_
             have e := sj h3; subst e
             refine gv_goal fun a hd hs hok => ?_
             have hB202 := bg hB125 hg144 nb
             have hk203 := ho129.grown hg144 (fun _ h => h.elim) nb
             have hk204 := hb133.grown hg144 nb
             exact ⟨(s113.1, (s113.2.2.1, s113.2.2.2)), rfl, a127, c128, hB202, nrf, hk203, hl130, ap131, ap132, hk204, hd, hs, okp [0, 1, 2, 7, 9, 10, 12] hok⟩
         ·rintro a w148 ⟨s147, e, a207, c208, hB205, hz206, ho209, hl210, ap211, ap212, hb213, hd, hs, hok⟩
          subst e
          refine gv_in ?_ hd hs hok
          clear hd hs hok
          replace h2 := cont_inl h2
          have hz214 := (nt (nt hz126 hg144.size) hz206)
          clear hz206 hg144 hr142 hsub139 hx136 hc134 hb133 ap132 ap131 hl130 ho129 hz126 hB125
          refine gv_blk <| gv_region <| pN 4 [10, 65, 66, 67] [(10, (.int .i64 (IntKind.i64.wrap (s113.2.1 + r141.2.1))))] ?_
          refine gv_nil <| gv_blk ?_
          have e := sj h2; subst e
          refine gv_goal fun a hd hs hok => ?_
          have hz215 := hz214
          exact ⟨(s147.1, (IntKind.i64.wrap (s113.2.1 + r141.2.1)), (s147.2.1, s147.2.2)), rfl, a207, c208, hB205, hz215, ho209, hl210, ap211, ap212, hb213, hd, hs, okp [0, 1, 2, 7, 9, 10] hok⟩
        ·replace h2 := ite_f hc134 h2
         refine gv_cexit <| gv_exit rfl ?_
         have e := sj h2; subst e
         replace h1 := congrArg some (hR2 _ rfl)
         have e := sj h1; subst e
         refine gv_goal fun a hd hs hok => ?_
         have hz216 := hz126
         exact ⟨(s113.1, (s113.2.2.1, s113.2.2.2)), rfl, a127, c128, hB125, hz216, ho129, hl130, ap131, ap132, hb133, hd, hs, okp [7, 9] hok⟩
      ·rintro a w112 ⟨s111, e, a219, c220, hB217, hz218, ho221, hl222, ap223, ap224, hb225, hd, hs, hok⟩
       subst e
       refine gv_in ?_ hd hs hok
       clear hd hs hok
       replace h0 := cont_inl h0
       clear hz218 hc88 hc64 hc41 hz40 hb39 hg38 hz36 hbe35 hb34 hg33 hg29 hr27 ap24 ap23 hl14 hx22 ho13 hB21 hx17 hx15 hz20 hx16 hB19 hz12 hbe11 hb10 hg9 hz6 hbe5 hb4 hg3
       refine gv_seq <| gv_seq <| gv_region <| pN 3 [68, 69, 70] [(70, (.bool (decide (((length s111.1 : Nat) : Int) > 4000))))] ?_
       refine gv_nil <| gv_cond (b := (decide (((length s111.1 : Nat) : Int) > 4000))) kr (fun hc226 => ?_) (fun hc226 => ?_)
       ·replace h0 := ite_t hc226 h0
        refine gv_seq <| gv_region <| bindE h0 ?_; clear h0; intro r227 hr228 h0
        refine gv_call0 kr rfl kr enters38 (bytestr_at_ok fuel 3 (-1) w112  r227 hr228) ?_
        rintro v231 w229 ⟨hg230, rfl⟩
        refine pN 1 [6] [(6, (.string (strOf [])))] ?_
        have hk236 := hb225.grown hg230 nb
        refine gv_store0 25 0 (.agg #[(.int .i64 r227.1), (.int .i64 r227.2)]) #[(.int .i64 r227.1), (.int .i64 r227.2)] hk236 kr kr kr ?_
        intro w232 hg233 hb234 hz235
        refine gv_nil <| gv_cret ?_
        have e := sj h0; subst e
        refine gv_ret (gv_done [(.string (strOf [])), (.agg #[(.int .i64 r227.1), (.int .i64 r227.2)])] rfl ⟨kr, ⟨⟨b1, 0, none⟩, kr, run_loadVar_row w232 b1 _ 25 _ _ _ hb234 Tryd.underlying25 rfl kr⟩, trivial⟩ ?_)
        have hB237 := bg hB217 hg230 nb
        have hB238 := bg hB237 hg233 (rowlo hlo25)
        exact ⟨grown_of_below hB238, rfl⟩
       ·replace h0 := ite_f hc226 h0
        refine gv_skip <| gv_seq <| gv_region <| pN 1 [72] [(72, (.slice a219 (length s111.1) c220))] ?_
        refine gv_b2s (src := 22) (dst := 9) (e := 5) (xs := s111.1) (a := a219) (cap := c220) (X := (fun k => blk a219 = some k)) [] (fun e => by cases e) rfl rfl rfl kr kr Tryd.underlying22 Tryd.underlying5 Tryd.underlying9 (inw0 (ho221.rd (Y := fun k => blk a219 = some k) (fun _ h => h.elim) (fun g e => e))) rfl ?_
        refine pN 2 [6, 74] [(6, (.string (strOf s111.1))), (74, (.agg #[(.int .i64 0), (.int .i64 0)]))] ?_
        refine gv_store0 25 0 (.agg #[(.int .i64 0), (.int .i64 0)]) #[(.int .i64 0), (.int .i64 0)] hb225 kr kr kr ?_
        intro w239 hg240 hb241 hz242
        refine gv_nil <| gv_cret ?_
        have e := sj h0; subst e
        refine gv_ret (gv_done [(.string (strOf s111.1)), (.agg #[(.int .i64 0), (.int .i64 0)])] rfl ⟨kr, ⟨⟨b1, 0, none⟩, kr, run_loadVar_row w239 b1 _ 25 _ _ _ hb241 Tryd.underlying25 rfl kr⟩, trivial⟩ ?_)
        have hB243 := bg hB217 hg240 (rowlo hlo25)
        exact ⟨grown_of_below hB243, rfl⟩

theorem law4_bytesOf_ok (fuel : Nat)  (w0 : World) (X0 : Nat → Prop) (hX0 : ∀ k, X0 k → k < w0.heap.size) (hG0 : Rd bE w0 X0 (some ⟨0, 0, none⟩) 256 utf8First) (hG1 : Rd (prE (iE .u8) (iE .u8)) w0 X0 (some ⟨1, 0, none⟩) 16 utf8Acc) (r0 : Bool) (h0 : law4_bytesOf fuel  = some r0) :
    Calls Tryd.prog 11 ([] : List Value).toArray w0 (Ret fun v w' => w0.grownBy w' none ∧ v = tup [(.bool r0)]) := by
 have hB0 : Below w0.heap.size w0 w0 := Below.refl _ _
 unfold law4_bytesOf at h0
 refine calls_run Tryd.func11 rfl Tryd.ntmps11 kr ?_
 refine gv_sub [] (σ' := []) kr ?_
 refine gv_seq <| gv_region <| pN 1 [0] [] ?_
 refine gv_nil <| gv_seq <| gv_region <| gv_new0 (fun b => .slice (some ⟨b, 0, none⟩) 1 1) #[(.int .u8 255)] 5 kr kr ?_
 intro b1 w2 hg3 hb4 hbe5 hz6
 have ho7 : Gv.Own bE 5 w2 (fun _ => False) (some ⟨b1, 0, none⟩) 1 ([(255 : UInt8)] : List UInt8) := Box.ownE hb4 ⟨[(.int .u8 255)], [], rfl, rfl, rfl⟩ (show 1 ≤ maxLen by decide) (fun h => h)
 have hl8 : ∀ g, blk (some ⟨b1, 0, none⟩) = some g → w0.heap.size ≤ g := loo hbe5 hB0.size
 refine bindE h0 ?_; clear h0; intro r12 hr13 h0
 refine gv_call0 kr rfl kr enters16 (bytestr_Base64_ok fuel (some ⟨b1, 0, none⟩) 1 ([(255 : UInt8)] : List UInt8) w2 (fun k => (fun k => blk (some ⟨b1, 0, none⟩) = some k) k) (fun k hk => (fun k (hk : blk (some ⟨b1, 0, none⟩) = some k) => ho7.lt k hk) k hk) ((ho7.rd (Y := fun k => blk (some ⟨b1, 0, none⟩) = some k) (fun _ h => h.elim) (fun g e => e)).wide (fun k hk => hk)) r12 hr13) ?_
 rintro v16 w14 ⟨hg15, rfl⟩
 refine pN 3 [7, 10, 11] [(10, (.string r12.1)), (11, (.agg #[(.int .i64 r12.2.1), (.int .i64 r12.2.2)]))] ?_
 refine gv_new0 (fun b => .pointer (some ⟨b, 0, none⟩)) #[(.int .i64 0), (.int .i64 0)] 25 kr kr ?_
 intro b17 w18 hg19 hb20 hbe21 hz22
 refine pN 1 [1] [(1, (.string r12.1))] ?_
 refine gv_store0 25 0 (.agg #[(.int .i64 r12.2.1), (.int .i64 r12.2.2)]) #[(.int .i64 r12.2.1), (.int .i64 r12.2.2)] hb20 kr kr kr ?_
 intro w23 hg24 hb25 hz26
 refine gv_nil <| gv_seq <| gv_region <| gv_new0 (fun b => .slice (some ⟨b, 0, none⟩) 3 3) #[(.int .u8 97), (.int .u8 255), (.int .u8 98)] 5 kr kr ?_
 intro b27 w28 hg29 hb30 hbe31 hz32
 have ho33 : Gv.Own bE 5 w28 (fun _ => False) (some ⟨b27, 0, none⟩) 3 ([(97 : UInt8), (255 : UInt8), (98 : UInt8)] : List UInt8) := Box.ownE hb30 ⟨[(.int .u8 97)], [(.int .u8 255), (.int .u8 98)], rfl, rfl, ⟨[(.int .u8 255)], [(.int .u8 98)], rfl, rfl, ⟨[(.int .u8 98)], [], rfl, rfl, rfl⟩⟩⟩ (show 3 ≤ maxLen by decide) (fun h => h)
 have hg38 := (grown_trans (grown_trans hg3 hg15) hg19)
 have hB39 := bg hB0 hg38 nb
 have hg40 := (grown_trans hg3 hg15)
 have hB41 := bg hB0 hg40 nb
 have hlo42 : w0.heap.size ≤ b17 := lob hbe21 hB41.size
 have hB43 := bg hB39 hg24 (rowlo hlo42)
 have hl34 : ∀ g, blk (some ⟨b27, 0, none⟩) = some g → w0.heap.size ≤ g := loo hbe31 hB43.size
 refine bindE h0 ?_; clear h0; intro r44 hr45 h0
 have hB46 := bg hB43 hg29 nb
 refine gv_call0 kr rfl kr enters23 (bytestr_Decode_ok fuel (some ⟨b27, 0, none⟩) 3 ([(97 : UInt8), (255 : UInt8), (98 : UInt8)] : List UInt8) 0 2 w28 (fun k => (fun k => blk (some ⟨b27, 0, none⟩) = some k) k ∨ X0 k ∨ X0 k) (fun k hk => (hk).elim (fun h => (fun k (hk : blk (some ⟨b27, 0, none⟩) = some k) => ho33.lt k hk) k h) (fun h => (h).elim (fun h => (fun k (hk : X0 k) => ltl (hX0 k hk) hB46.size) k h) (fun h => (fun k (hk : X0 k) => ltl (hX0 k hk) hB46.size) k h))) ((ho33.rd (Y := fun k => blk (some ⟨b27, 0, none⟩) = some k) (fun _ h => h.elim) (fun g e => e)).wide (fun k hk => (.inl hk))) ((hG0.below hB46 hX0).wide (fun k hk => (.inr (.inl hk)))) ((hG1.below hB46 hX0).wide (fun k hk => (.inr (.inr hk)))) r44 hr45) ?_
 rintro v49 w47 ⟨hg48, rfl⟩
 refine pN 3 [12, 15, 16] [(15, (.string r44.1)), (16, (.agg #[(.int .i64 r44.2.1), (.int .i64 r44.2.2)]))] ?_
 refine gv_new0 (fun b => .pointer (some ⟨b, 0, none⟩)) #[(.int .i64 0), (.int .i64 0)] 25 kr kr ?_
 intro b50 w51 hg52 hb53 hbe54 hz55
 refine pN 1 [3] [(3, (.string r44.1))] ?_
 refine gv_store0 25 0 (.agg #[(.int .i64 r44.2.1), (.int .i64 r44.2.2)]) #[(.int .i64 r44.2.1), (.int .i64 r44.2.2)] hb53 kr kr kr ?_
 intro w56 hg57 hb58 hz59
 clear hz59 hz55 hb53 hr45 hl34 hB43 hB41 hg40 hB39 hg38 ho33 hz32 hbe31 hb30 hz26 hg24 hz22 hbe21 hb20 hg19 hg15 hr13 hl8 ho7 hz6 hbe5 hb4 hg3
 refine gv_nil <| gv_seq <| gv_region <| gv_new0 (fun b => .slice (some ⟨b, 0, none⟩) 6 6) #[(.int .u8 98), (.int .u8 97), (.int .u8 110), (.int .u8 97), (.int .u8 110), (.int .u8 97)] 5 kr kr ?_
 intro b60 w61 hg62 hb63 hbe64 hz65
 have ho66 : Gv.Own bE 5 w61 (fun _ => False) (some ⟨b60, 0, none⟩) 6 ([(98 : UInt8), (97 : UInt8), (110 : UInt8), (97 : UInt8), (110 : UInt8), (97 : UInt8)] : List UInt8) := Box.ownE hb63 ⟨[(.int .u8 98)], [(.int .u8 97), (.int .u8 110), (.int .u8 97), (.int .u8 110), (.int .u8 97)], rfl, rfl, ⟨[(.int .u8 97)], [(.int .u8 110), (.int .u8 97), (.int .u8 110), (.int .u8 97)], rfl, rfl, ⟨[(.int .u8 110)], [(.int .u8 97), (.int .u8 110), (.int .u8 97)], rfl, rfl, ⟨[(.int .u8 97)], [(.int .u8 110), (.int .u8 97)], rfl, rfl, ⟨[(.int .u8 110)], [(.int .u8 97)], rfl, rfl, ⟨[(.int .u8 97)], [], rfl, rfl, rfl⟩⟩⟩⟩⟩⟩ (show 6 ≤ maxLen by decide) (fun h => h)
 have hg71 := (grown_trans hg48 hg52)
 have hB72 := bg hB46 hg71 nb
 have hB73 := bg hB46 hg48 nb
 have hlo74 : w0.heap.size ≤ b50 := lob hbe54 hB73.size
 have hB75 := bg hB72 hg57 (rowlo hlo74)
 have hl67 : ∀ g, blk (some ⟨b60, 0, none⟩) = some g → w0.heap.size ≤ g := loo hbe64 hB75.size
 refine gv_sub [1, 2, 3, 4, 18] (σ' := [(1, (.string r12.1)), (2, (bp b17)), (3, (.string r44.1)), (4, (bp b50)), (18, (.slice (some ⟨b60, 0, none⟩) (length ([(98 : UInt8), (97 : UInt8), (110 : UInt8), (97 : UInt8), (110 : UInt8), (97 : UInt8)] : List UInt8)) 6))]) kr ?_
 refine gv_conv8 (t := 22) (e := 5) (a := (some ⟨b60, 0, none⟩)) (cap := 6) (xs := ([(98 : UInt8), (97 : UInt8), (110 : UInt8), (97 : UInt8), (110 : UInt8), (97 : UInt8)] : List UInt8)) kr kr Tryd.underlying22 Tryd.underlying5 ho66 rfl ?_
 intro w76 hg77 hr78 hz79
 have hx80 : ∀ k, blk (some ⟨b60, 0, none⟩) = some k → k < w76.heap.size := fun k hk => by rw [hz79]; exact (fun k (hk : blk (some ⟨b60, 0, none⟩) = some k) => ho66.lt k hk) k hk
 refine gv_new0 (fun b => .slice (some ⟨b, 0, none⟩) 2 2) #[(.int .u8 97), (.int .u8 110)] 5 kr kr ?_
 intro b81 w82 hg83 hb84 hbe85 hz86
 have ho87 : Gv.Own bE 5 w82 (fun _ => False) (some ⟨b81, 0, none⟩) 2 ([(97 : UInt8), (110 : UInt8)] : List UInt8) := Box.ownE hb84 ⟨[(.int .u8 97)], [(.int .u8 110)], rfl, rfl, ⟨[(.int .u8 110)], [], rfl, rfl, rfl⟩⟩ (show 2 ≤ maxLen by decide) (fun h => h)
 have hB92 := bg hB75 hg62 nb
 have hB93 := bg hB92 hg77 hl67
 have hl88 : ∀ g, blk (some ⟨b81, 0, none⟩) = some g → w0.heap.size ≤ g := loo hbe85 hB93.size
 refine gv_conv8 (t := 22) (e := 5) (a := (some ⟨b81, 0, none⟩)) (cap := 2) (xs := ([(97 : UInt8), (110 : UInt8)] : List UInt8)) kr kr Tryd.underlying22 Tryd.underlying5 ho87 rfl ?_
 intro w94 hg95 hr96 hz97
 have hx98 : ∀ k, blk (some ⟨b81, 0, none⟩) = some k → k < w94.heap.size := fun k hk => by rw [hz97]; exact (fun k (hk : blk (some ⟨b81, 0, none⟩) = some k) => ho87.lt k hk) k hk
 refine gv_new0 (fun b => .slice (some ⟨b, 0, none⟩) 2 2) #[(.int .u8 120), (.int .u8 121)] 5 kr kr ?_
 intro b99 w100 hg101 hb102 hbe103 hz104
 have ho105 : Gv.Own bE 5 w100 (fun _ => False) (some ⟨b99, 0, none⟩) 2 ([(120 : UInt8), (121 : UInt8)] : List UInt8) := Box.ownE hb102 ⟨[(.int .u8 120)], [(.int .u8 121)], rfl, rfl, ⟨[(.int .u8 121)], [], rfl, rfl, rfl⟩⟩ (show 2 ≤ maxLen by decide) (fun h => h)
 have hB110 := bg hB93 hg83 nb
 have hB111 := bg hB110 hg95 hl88
 have hl106 : ∀ g, blk (some ⟨b99, 0, none⟩) = some g → w0.heap.size ≤ g := loo hbe103 hB111.size
 refine gv_conv8 (t := 22) (e := 5) (a := (some ⟨b99, 0, none⟩)) (cap := 2) (xs := ([(120 : UInt8), (121 : UInt8)] : List UInt8)) kr kr Tryd.underlying22 Tryd.underlying5 ho105 rfl ?_
 intro w112 hg113 hr114 hz115
 have hx116 : ∀ k, blk (some ⟨b99, 0, none⟩) = some k → k < w112.heap.size := fun k hk => by rw [hz115]; exact (fun k (hk : blk (some ⟨b99, 0, none⟩) = some k) => ho105.lt k hk) k hk
 refine gv_new0 (fun b => .slice (some ⟨b, 0, none⟩) 1 1) #[(.int .u8 98)] 5 kr kr ?_
 intro b117 w118 hg119 hb120 hbe121 hz122
 have ho123 : Gv.Own bE 5 w118 (fun _ => False) (some ⟨b117, 0, none⟩) 1 ([(98 : UInt8)] : List UInt8) := Box.ownE hb120 ⟨[(.int .u8 98)], [], rfl, rfl, rfl⟩ (show 1 ≤ maxLen by decide) (fun h => h)
 have hB128 := bg hB111 hg101 nb
 have hB129 := bg hB128 hg113 hl106
 have hl124 : ∀ g, blk (some ⟨b117, 0, none⟩) = some g → w0.heap.size ≤ g := loo hbe121 hB129.size
 refine gv_conv8 (t := 22) (e := 5) (a := (some ⟨b117, 0, none⟩)) (cap := 1) (xs := ([(98 : UInt8)] : List UInt8)) kr kr Tryd.underlying22 Tryd.underlying5 ho123 rfl ?_
 intro w130 hg131 hr132 hz133
 have hx134 : ∀ k, blk (some ⟨b117, 0, none⟩) = some k → k < w130.heap.size := fun k hk => by rw [hz133]; exact (fun k (hk : blk (some ⟨b117, 0, none⟩) = some k) => ho123.lt k hk) k hk
 clear hz133 hB128 ho123 hz122 hb120 hz115 hB111 hB110 ho105 hz104 hb102 hz97 hB93 hB92 ho87 hz86 hb84 hz79 hB75 hB73 hB72 hg71 ho66 hz65 hb63 hB46
 refine bindE h0 ?_; clear h0; intro r135 hr136 h0
 have hx137 := ltx (ltx (ltx (ltx (ltx (ltx hx80 hg83.size) hg95.size) hg101.size) hg113.size) hg119.size) hg131.size
 have hx138 := ltx (ltx (ltx (ltx hx98 hg101.size) hg113.size) hg119.size) hg131.size
 have hx139 := ltx (ltx hx116 hg119.size) hg131.size
 have ap140 : ∀ g, blk (some ⟨b81, 0, none⟩) = some g → ¬ (fun k => blk (some ⟨b60, 0, none⟩) = some k) g := fun g e hx => nl ((lowo hbe85) g e) (hx80 _ hx)
 have hx141 := ltx hx80 hg83.size
 have hx142 := ltx hx141 hg95.size
 have ap143 : ∀ g, blk (some ⟨b99, 0, none⟩) = some g → ¬ (fun k => blk (some ⟨b60, 0, none⟩) = some k) g := fun g e hx => nl ((lowo hbe103) g e) (hx142 _ hx)
 have hx144 := ltx hx142 hg101.size
 have hx145 := ltx hx144 hg113.size
 have ap146 : ∀ g, blk (some ⟨b117, 0, none⟩) = some g → ¬ (fun k => blk (some ⟨b60, 0, none⟩) = some k) g := fun g e hx => nl ((lowo hbe121) g e) (hx145 _ hx)
 have hx147 := ltx hx145 hg119.size
 have hk148 := (((((hr78.grown hg83 hx80 nb).grown hg95 hx141 ap140).grown hg101 hx142 nb).grown hg113 hx144 ap143).grown hg119 hx145 nb).grown hg131 hx147 ap146
 have ap149 : ∀ g, blk (some ⟨b99, 0, none⟩) = some g → ¬ (fun k => blk (some ⟨b81, 0, none⟩) = some k) g := fun g e hx => nl ((lowo hbe103) g e) (hx98 _ hx)
 have hx150 := ltx hx98 hg101.size
 have hx151 := ltx hx150 hg113.size
 have ap152 : ∀ g, blk (some ⟨b117, 0, none⟩) = some g → ¬ (fun k => blk (some ⟨b81, 0, none⟩) = some k) g := fun g e hx => nl ((lowo hbe121) g e) (hx151 _ hx)
 have hx153 := ltx hx151 hg119.size
 have hk154 := (((hr96.grown hg101 hx98 nb).grown hg113 hx150 ap149).grown hg119 hx151 nb).grown hg131 hx153 ap152
 have ap155 : ∀ g, blk (some ⟨b117, 0, none⟩) = some g → ¬ (fun k => blk (some ⟨b99, 0, none⟩) = some k) g := fun g e hx => nl ((lowo hbe121) g e) (hx116 _ hx)
 have hx156 := ltx hx116 hg119.size
 have hk157 := (hr114.grown hg119 hx116 nb).grown hg131 hx156 ap155
 refine gv_call0 kr rfl kr enters9 (bytestr_Translate_ok fuel (some ⟨b60, 0, none⟩) 6 ([(98 : UInt8), (97 : UInt8), (110 : UInt8), (97 : UInt8), (110 : UInt8), (97 : UInt8)] : List UInt8) (some ⟨b81, 0, none⟩) 2 ([(97 : UInt8), (110 : UInt8)] : List UInt8) (some ⟨b99, 0, none⟩) 2 ([(120 : UInt8), (121 : UInt8)] : List UInt8) (some ⟨b117, 0, none⟩) 1 ([(98 : UInt8)] : List UInt8) w130 (fun k => (fun k => blk (some ⟨b60, 0, none⟩) = some k) k ∨ (fun k => blk (some ⟨b81, 0, none⟩) = some k) k ∨ (fun k => blk (some ⟨b99, 0, none⟩) = some k) k ∨ (fun k => blk (some ⟨b117, 0, none⟩) = some k) k) (fun k hk => (hk).elim (fun h => hx137 k h) (fun h => (h).elim (fun h => hx138 k h) (fun h => (h).elim (fun h => hx139 k h) (fun h => hx134 k h)))) (hk148.wide (fun k hk => (.inl hk))) (hk154.wide (fun k hk => (.inr (.inl hk)))) (hk157.wide (fun k hk => (.inr (.inr (.inl hk))))) (hr132.wide (fun k hk => (.inr (.inr (.inr hk))))) r135 hr136) ?_
 rintro v160 w158 ⟨hg159, a161, c162, rfl, ho163, hl164⟩
 have hB166 := bg hB129 hg119 nb
 have hB167 := bg hB166 hg131 hl124
 have hl165 : ∀ g, blk a161 = some g → w0.heap.size ≤ g := fun g e => Nat.le_trans hB167.size (hl164 g e)
 refine pN 3 [17, 27, 28] [(27, (.slice a161 (length r135.1) c162)), (28, (.agg #[(.int .i64 r135.2.1), (.int .i64 r135.2.2)]))] ?_
 refine gv_new0 (fun b => .pointer (some ⟨b, 0, none⟩)) #[(.int .i64 0), (.int .i64 0)] 25 kr kr ?_
 intro b168 w169 hg170 hb171 hbe172 hz173
 refine pN 1 [5] [(5, (.slice a161 (length r135.1) c162))] ?_
 refine gv_store0 25 0 (.agg #[(.int .i64 r135.2.1), (.int .i64 r135.2.2)]) #[(.int .i64 r135.2.1), (.int .i64 r135.2.2)] hb171 kr kr kr ?_
 intro w174 hg175 hb176 hz177
 refine gv_nil <| gv_seq <| gv_region <| bindE h0 ?_; clear h0; intro j178 h1 h0
 refine gv_cut_ops (J := fun a w179 => Below w0.heap.size w0 w179 ∧ w174.heap.size ≤ w179.heap.size ∧ a.defers = [] ∧ a.tmps.size = 55 ∧ Ok [(0, (.bool j178))] a.tmps) ?_ ?_
 ·skip
  refine pN 1 [29] [(29, (bp b17))] ?_
  have hg180 := (grown_trans (grown_trans hg29 hg48) hg52)
  have hg181 := (grown_trans hg29 hg48)
  have hk182 := hb25.grown hg181 nb
  have lt183 := ltl ((ltb hk182) _ rfl) ((lowb hbe54) _ rfl)
  have hk184 := (hk182.grown hg52 nb).grown hg57 (rowne (ng lt183))
  have ap185 : ∀ g, blk (some ⟨b60, 0, none⟩) = some g → ¬ (· = b17) g := fun g e hx => nl ((lowo hbe64) g e) ((ltb hk184) _ hx)
  have hk186 := (hk184.grown hg62 nb).grown hg77 ap185
  have ap187 : ∀ g, blk (some ⟨b81, 0, none⟩) = some g → ¬ (· = b17) g := fun g e hx => nl ((lowo hbe85) g e) ((ltb hk186) _ hx)
  have hk188 := (hk186.grown hg83 nb).grown hg95 ap187
  have ap189 : ∀ g, blk (some ⟨b99, 0, none⟩) = some g → ¬ (· = b17) g := fun g e hx => nl ((lowo hbe103) g e) ((ltb hk188) _ hx)
  have hk190 := (hk188.grown hg101 nb).grown hg113 ap189
  have ap191 : ∀ g, blk (some ⟨b117, 0, none⟩) = some g → ¬ (· = b17) g := fun g e hx => nl ((lowo hbe121) g e) ((ltb hk190) _ hx)
  have hg192 := (grown_trans hg159 hg170)
  have ap193 : ∀ g, blk (some ⟨b60, 0, none⟩) = some g → ¬ (· = b50) g := fun g e hx => nl ((lowo hbe64) g e) ((ltb hb58) _ hx)
  have hk194 := (hb58.grown hg62 nb).grown hg77 ap193
  have ap195 : ∀ g, blk (some ⟨b81, 0, none⟩) = some g → ¬ (· = b50) g := fun g e hx => nl ((lowo hbe85) g e) ((ltb hk194) _ hx)
  have hk196 := (hk194.grown hg83 nb).grown hg95 ap195
  have ap197 : ∀ g, blk (some ⟨b99, 0, none⟩) = some g → ¬ (· = b50) g := fun g e hx => nl ((lowo hbe103) g e) ((ltb hk196) _ hx)
  have hk198 := (hk196.grown hg101 nb).grown hg113 ap197
  have ap199 : ∀ g, blk (some ⟨b117, 0, none⟩) = some g → ¬ (· = b50) g := fun g e hx => nl ((lowo hbe121) g e) ((ltb hk198) _ hx)
  have hk200 := ((((((((hb58.grown hg62 nb).grown hg77 ap193).grown hg83 nb).grown hg95 ap195).grown hg101 nb).grown hg113 ap197).grown hg119 nb).grown hg131 ap199).grown hg159 nb
  have lt201 := ltl ((ltb hk200) _ rfl) ((lowb hbe172) _ rfl)
  have lt202 := ltt lt183 lt201
  have hk203 := (((((((((((hb25.grown hg180 nb).grown hg57 (rowne (ng lt183))).grown hg62 nb).grown hg77 ap185).grown hg83 nb).grown hg95 ap187).grown hg101 nb).grown hg113 ap189).grown hg119 nb).grown hg131 ap191).grown hg192 nb).grown hg175 (rowne (ng lt202))
  refine gv_load (t := 3) (A := ⟨b17, 0, none⟩) (.int .i64 r12.2.1) [] (fun e => by cases e) rfl rfl rfl kr kr kr (inw0 (hk203.cell 0 rfl)) rfl ?_
  refine pN 2 [31, 32] [(32, (.bool (r12.2.1 == 0)))] ?_
  refine gv_sub [1, 3, 4, 5, 6, 32] (σ' := [(1, (.string r12.1)), (3, (.string r44.1)), (4, (bp b50)), (5, (.slice a161 (length r135.1) c162)), (6, (bp b168)), (32, (.bool (r12.2.1 == 0)))]) kr ?_
  refine gv_split (s := 32) (g := (r12.2.1 == 0)) kr (fun hc204 => ?_) (fun hc204 => ?_)
  ·skip
   replace h1 := ite_t hc204 h1
   refine pN 1 [33] [(33, (bp b50))] ?_
   have hk205 := (hk200.grown hg170 nb).grown hg175 (rowne (ng lt201))
   refine gv_load (t := 3) (A := ⟨b50, 0, none⟩) (.int .i64 r44.2.1) [] (fun e => by cases e) rfl rfl rfl kr kr kr (inw0 (hk205.cell 0 rfl)) rfl ?_
   refine pN 3 [35, 36, 37] [(37, (.bool (r44.2.1 == 0)))] ?_
   refine gv_split (s := 37) (g := (r44.2.1 == 0)) kr (fun hc206 => ?_) (fun hc206 => ?_)
   ·skip
    replace h1 := ite_t hc206 h1
    refine pN 1 [38] [(38, (bp b168))] ?_
    refine gv_load (t := 3) (A := ⟨b168, 0, none⟩) (.int .i64 r135.2.1) [] (fun e => by cases e) rfl rfl rfl kr kr kr (inw0 (hb176.cell 0 rfl)) rfl ?_
    refine pN 3 [40, 41, 42] [(42, (.bool (r135.2.1 == 0)))] ?_
    refine gv_split (s := 42) (g := (r135.2.1 == 0)) kr (fun hc207 => ?_) (fun hc207 => ?_)
    ·skip
     replace h1 := ite_t hc207 h1
     refine pN 4 [43, 44, 45, 46] [(46, (.bool (r12.1.toList == (strOf [47, 119, 61, 61]).toList)))] ?_
     refine gv_split (s := 46) (g := (r12.1.toList == (strOf [47, 119, 61, 61]).toList)) kr (fun hc208 => ?_) (fun hc208 => ?_)
     ·skip
      replace h1 := ite_t hc208 h1
      refine pN 4 [47, 48, 49, 50] [(50, (.bool (r44.1.toList == (strOf [97, 98]).toList)))] ?_
      refine gv_split (s := 50) (g := (r44.1.toList == (strOf [97, 98]).toList)) kr (fun hc209 => ?_) (fun hc209 => ?_)
      ·skip
       replace h1 := ite_t hc209 h1
       refine pN 1 [51] [(51, (.slice a161 (length r135.1) c162))] ?_
       have ap210 : ¬ (fun k => blk a161 = some k) b168 := fun hx => nl ((lowb hbe172) _ rfl) ((fun k (hk : blk a161 = some k) => ho163.lt k hk) _ hx)
       have hk211 := (ho163.grown hg170 (fun _ h => h.elim) nb).grown hg175 (fun _ h => h.elim) (rdnn (rowne ap210))
       refine gv_b2s (src := 22) (dst := 9) (e := 5) (xs := r135.1) (a := a161) (cap := c162) (X := (fun k => blk a161 = some k)) [] (fun e => by cases e) rfl rfl rfl kr kr Tryd.underlying22 Tryd.underlying5 Tryd.underlying9 (inw0 (hk211.rd (Y := fun k => blk a161 = some k) (fun _ h => h.elim) (fun g e => e))) rfl ?_
       refine pN 3 [0, 53, 54] [(0, (.bool ((strOf r135.1).toList == (strOf [120, 121, 120, 121, 120]).toList)))] ?_
       refine bindE h1 ?_; clear h1; intro n212 hn213 h1
       refine gv_name (s := 0) (v := (.bool ((strOf r135.1).toList == (strOf [120, 121, 120, 121, 120]).toList))) (v' := (.bool n212)) kr (congrArg (Value.bool) (sj hn213)) ?_
       refine gv_nil ?_
       have e := sj h1; subst e
       refine gv_goal fun a hd hs hok => ?_
       have hB214 := bg hB167 hg192 nb
       have hB215 := bg hB167 hg159 nb
       have hlo216 : w0.heap.size ≤ b168 := lob hbe172 hB215.size
       have hB217 := bg hB214 hg175 (rowlo hlo216)
       exact ⟨hB217, nrf, hd, hs, okp [0] hok⟩
      ·skip
       replace h1 := ite_f hc209 h1
       refine pN 5 [0, 51, 52, 53, 54] [(0, (.bool false))] ?_
       refine gv_nil ?_
       have e := sj h1; subst e
       refine gv_goal fun a hd hs hok => ?_
       have hB218 := bg hB167 hg192 nb
       have hB219 := bg hB167 hg159 nb
       have hlo220 : w0.heap.size ≤ b168 := lob hbe172 hB219.size
       have hB221 := bg hB218 hg175 (rowlo hlo220)
       exact ⟨hB221, nrf, hd, hs, okp [0] hok⟩
     ·skip
      replace h1 := ite_f hc208 h1
      refine pN 9 [0, 47, 48, 49, 50, 51, 52, 53, 54] [(0, (.bool false))] ?_
      refine gv_nil ?_
      have e := sj h1; subst e
      refine gv_goal fun a hd hs hok => ?_
      have hB222 := bg hB167 hg192 nb
      have hB223 := bg hB167 hg159 nb
      have hlo224 : w0.heap.size ≤ b168 := lob hbe172 hB223.size
      have hB225 := bg hB222 hg175 (rowlo hlo224)
      exact ⟨hB225, nrf, hd, hs, okp [0] hok⟩
    ·skip
     replace h1 := ite_f hc207 h1
     refine pN 13 [0, 43, 44, 45, 46, 47, 48, 49, 50, 51, 52, 53, 54] [(0, (.bool false))] ?_
     refine gv_nil ?_
     have e := sj h1; subst e
     refine gv_goal fun a hd hs hok => ?_
     have hB226 := bg hB167 hg192 nb
     have hB227 := bg hB167 hg159 nb
     have hlo228 : w0.heap.size ≤ b168 := lob hbe172 hB227.size
     have hB229 := bg hB226 hg175 (rowlo hlo228)
     exact ⟨hB229, nrf, hd, hs, okp [0] hok⟩
   ·skip
    replace h1 := ite_f hc206 h1
    refine pN 18 [0, 38, 39, 40, 41, 42, 43, 44, 45, 46, 47, 48, 49, 50, 51, 52, 53, 54] [(0, (.bool false))] ?_
    refine gv_nil ?_
    have e := sj h1; subst e
    refine gv_goal fun a hd hs hok => ?_
    have hB230 := bg hB167 hg192 nb
    have hB231 := bg hB167 hg159 nb
    have hlo232 : w0.heap.size ≤ b168 := lob hbe172 hB231.size
    have hB233 := bg hB230 hg175 (rowlo hlo232)
    exact ⟨hB233, nrf, hd, hs, okp [0] hok⟩
  ·skip
   replace h1 := ite_f hc204 h1
   refine pN 23 [0, 33, 34, 35, 36, 37, 38, 39, 40, 41, 42, 43, 44, 45, 46, 47, 48, 49, 50, 51, 52, 53, 54] [(0, (.bool false))] ?_
   refine gv_nil ?_
   have e := sj h1; subst e
   refine gv_goal fun a hd hs hok => ?_
   have hB234 := bg hB167 hg192 nb
   have hB235 := bg hB167 hg159 nb
   have hlo236 : w0.heap.size ≤ b168 := lob hbe172 hB235.size
   have hB237 := bg hB234 hg175 (rowlo hlo236)
   exact ⟨hB237, nrf, hd, hs, okp [0] hok⟩
 ·rintro a w179 ⟨hB238, hz239, hd, hs, hok⟩
  refine gv_in ?_ hd hs hok
  clear hd hs hok
  clear hz239 hz177 hb176 hg175 hz173 hbe172 hb171 hg170 hl165 hB167 hB166 hl164 ho163 hg159 hk157 hx156 ap155 hk154 hx153 ap152 hx151 hx150 ap149 hk148 hx147 ap146 hx145 hx144 ap143 hx142 hx141 ap140 hx139 hx138 hx137 hr136 hx134 hr132 hg131 hl124 hB129 hbe121 hg119 hx116 hr114 hg113 hl106 hbe103 hg101 hx98 hr96 hg95 hl88 hbe85 hg83 hx80 hr78 hg77 hl67 hlo74 hbe64 hg62 hb58 hg57 hbe54 hg52 hg48 hlo42 hg29 hb25
  refine gv_cret ?_
  have e := sj h0; subst e
  refine gv_ret (gv_done [(.bool j178)] rfl ⟨kr, trivial⟩ ?_)
  exact ⟨grown_of_below hB238, rfl⟩

theorem ref4_At_ok (fuel : Nat) (code_0 : Int) (index_1 : Int) (w0 : World)  (r0 : (Int × Int)) (h0 : ref4_At fuel code_0 index_1 = some r0) :
    Calls Tryd.prog 12 ([(.int .i64 code_0), (.int .i64 index_1)] : List Value).toArray w0 (Ret fun v w' => w0.grownBy w' none ∧ v = tup [(.agg #[(.int .i64 r0.1), (.int .i64 r0.2)])]) := by
 have hB0 : Below w0.heap.size w0 w0 := Below.refl _ _
 unfold ref4_At at h0
 refine calls_run Tryd.func12 rfl Tryd.ntmps12 kr ?_
 refine gv_sub [0, 1] (σ' := [(0, (.int .i64 code_0)), (1, (.int .i64 index_1))]) kr ?_
 refine gv_seq <| gv_region <| gv_new0 (fun b => .pointer (some ⟨b, 0, none⟩)) #[(.int .i64 0), (.int .i64 0)] 25 kr kr ?_
 intro b1 w2 hg3 hb4 hbe5 hz6
 refine gv_nil <| gv_seq <| gv_region <| pN 3 [5, 6, 7] [(7, (.agg #[(.int .i64 code_0), (.int .i64 index_1)]))] ?_
 refine gv_store0 25 0 (.agg #[(.int .i64 code_0), (.int .i64 index_1)]) #[(.int .i64 code_0), (.int .i64 index_1)] hb4 kr kr kr ?_
 intro w7 hg8 hb9 hz10
 refine gv_nil <| gv_cret ?_
 have e := sj h0; subst e
 refine gv_ret (gv_done [(.agg #[(.int .i64 code_0), (.int .i64 index_1)])] rfl ⟨⟨⟨b1, 0, none⟩, kr, run_loadVar_row w7 b1 _ 25 _ _ _ hb9 Tryd.underlying25 rfl kr⟩, trivial⟩ ?_)
 have hB11 := bg hB0 hg3 nb
 have hlo12 : w0.heap.size ≤ b1 := lob hbe5 hB0.size
 have hB13 := bg hB11 hg8 (rowlo hlo12)
 exact ⟨grown_of_below hB13, rfl⟩

theorem ref4_SameBytes_ok (fuel : Nat) (pa0_0 : Option Addr) (pc0_0 : Nat) (a_0 : (List UInt8)) (pa1_0 : Option Addr) (pc1_0 : Nat) (b_1 : (List UInt8)) (w0 : World) (X0 : Nat → Prop) (hX0 : ∀ k, X0 k → k < w0.heap.size) (hpa0_0 : Rd bE w0 X0 pa0_0 pc0_0 a_0) (hpa1_0 : Rd bE w0 X0 pa1_0 pc1_0 b_1) (r0 : Bool) (h0 : ref4_SameBytes fuel a_0 b_1 = some r0) :
    Calls Tryd.prog 29 ([(.slice pa0_0 (length a_0) pc0_0), (.slice pa1_0 (length b_1) pc1_0)] : List Value).toArray w0 (Ret fun v w' => w0.grownBy w' none ∧ v = tup [(.bool r0)]) := by
 have hB0 : Below w0.heap.size w0 w0 := Below.refl _ _
 unfold ref4_SameBytes at h0
 refine calls_run Tryd.func29 rfl Tryd.ntmps29 kr ?_
 refine gv_sub [0, 1] (σ' := [(0, (.slice pa0_0 (length a_0) pc0_0)), (1, (.slice pa1_0 (length b_1) pc1_0))]) kr ?_
 refine gv_seq <| gv_region <| pN 1 [4] [] ?_
 refine gv_nil <| gv_seq <| gv_region <| pN 1 [5] [(5, (.slice pa0_0 (length a_0) pc0_0))] ?_
 refine gv_b2s (src := 22) (dst := 9) (e := 5) (xs := a_0) (a := pa0_0) (cap := pc0_0) (X := X0) [] (fun e => by cases e) rfl rfl rfl kr kr Tryd.underlying22 Tryd.underlying5 Tryd.underlying9 (inw0 (hpa0_0.below hB0 hX0)) rfl ?_
 refine pN 1 [7] [(7, (.slice pa1_0 (length b_1) pc1_0))] ?_
 refine gv_b2s (src := 22) (dst := 9) (e := 5) (xs := b_1) (a := pa1_0) (cap := pc1_0) (X := X0) [] (fun e => by cases e) rfl rfl rfl kr kr Tryd.underlying22 Tryd.underlying5 Tryd.underlying9 (inw0 (hpa1_0.below hB0 hX0)) rfl ?_
 refine pN 2 [4, 9] [(4, (.bool ((strOf a_0).toList == (strOf b_1).toList)))] ?_
 refine bindE h0 ?_; clear h0; intro n1 hn2 h0
 refine gv_name (s := 4) (v := (.bool ((strOf a_0).toList == (strOf b_1).toList))) (v' := (.bool n1)) kr (congrArg (Value.bool) (sj hn2)) ?_
 refine gv_nil <| gv_cret ?_
 have e := sj h0; subst e
 refine gv_ret (gv_done [(.bool n1)] rfl ⟨kr, trivial⟩ ?_)
 exact ⟨grown_of_below hB0, rfl⟩

theorem bytes_Equal_ok (fuel : Nat) (pa0_0 : Option Addr) (pc0_0 : Nat) (a_0 : (List UInt8)) (pa1_0 : Option Addr) (pc1_0 : Nat) (b_1 : (List UInt8)) (w0 : World) (X0 : Nat → Prop) (hX0 : ∀ k, X0 k → k < w0.heap.size) (hpa0_0 : Rd bE w0 X0 pa0_0 pc0_0 a_0) (hpa1_0 : Rd bE w0 X0 pa1_0 pc1_0 b_1) (r0 : Bool) (h0 : bytes_Equal fuel a_0 b_1 = some r0) :
    Calls Tryd.prog 73 ([(.slice pa0_0 (length a_0) pc0_0), (.slice pa1_0 (length b_1) pc1_0)] : List Value).toArray w0 (Ret fun v w' => w0.grownBy w' none ∧ v = tup [(.bool r0)]) := by
 have hB0 : Below w0.heap.size w0 w0 := Below.refl _ _
 unfold bytes_Equal at h0
 refine calls_run Tryd.func73 rfl Tryd.ntmps73 kr ?_
 refine gv_sub [0, 1] (σ' := [(0, (.slice pa0_0 (length a_0) pc0_0)), (1, (.slice pa1_0 (length b_1) pc1_0))]) kr ?_
 refine gv_seq <| gv_region <| pN 1 [4] [] ?_
 refine gv_nil <| gv_seq <| gv_region <| pN 1 [5] [(5, (.slice pa0_0 (length a_0) pc0_0))] ?_
 refine gv_b2s (src := 22) (dst := 9) (e := 5) (xs := a_0) (a := pa0_0) (cap := pc0_0) (X := X0) [] (fun e => by cases e) rfl rfl rfl kr kr Tryd.underlying22 Tryd.underlying5 Tryd.underlying9 (inw0 (hpa0_0.below hB0 hX0)) rfl ?_
 refine pN 1 [7] [(7, (.slice pa1_0 (length b_1) pc1_0))] ?_
 refine gv_b2s (src := 22) (dst := 9) (e := 5) (xs := b_1) (a := pa1_0) (cap := pc1_0) (X := X0) [] (fun e => by cases e) rfl rfl rfl kr kr Tryd.underlying22 Tryd.underlying5 Tryd.underlying9 (inw0 (hpa1_0.below hB0 hX0)) rfl ?_
 refine pN 2 [4, 9] [(4, (.bool ((strOf a_0).toList == (strOf b_1).toList)))] ?_
 refine bindE h0 ?_; clear h0; intro n1 hn2 h0
 refine gv_name (s := 4) (v := (.bool ((strOf a_0).toList == (strOf b_1).toList))) (v' := (.bool n1)) kr (congrArg (Value.bool) (sj hn2)) ?_
 refine gv_nil <| gv_cret ?_
 have e := sj h0; subst e
 refine gv_ret (gv_done [(.bool n1)] rfl ⟨kr, trivial⟩ ?_)
 exact ⟨grown_of_below hB0, rfl⟩

theorem bytealg_LastIndexByte_ok (fuel : Nat) (pa0_0 : Option Addr) (pc0_0 : Nat) (s_0 : (List UInt8)) (c_1 : Int) (w0 : World) (X0 : Nat → Prop) (hX0 : ∀ k, X0 k → k < w0.heap.size) (hpa0_0 : Rd bE w0 X0 pa0_0 pc0_0 s_0) (r0 : Int) (h0 : bytealg_LastIndexByte fuel s_0 c_1 = some r0) :
    Calls Tryd.prog 77 ([(.slice pa0_0 (length s_0) pc0_0), (.int .u8 c_1)] : List Value).toArray w0 (Ret fun v w' => w0.grownBy w' none ∧ v = tup [(.int .i64 r0)]) := by
 have hB0 : Below w0.heap.size w0 w0 := Below.refl _ _
 unfold bytealg_LastIndexByte at h0
 refine calls_run Tryd.func77 rfl Tryd.ntmps77 kr ?_
 refine gv_sub [0, 1] (σ' := [(0, (.slice pa0_0 (length s_0) pc0_0)), (1, (.int .u8 c_1))]) kr ?_
 refine gv_seq <| gv_region <| pN 1 [4] [] ?_
 refine gv_nil <| gv_seq <| gv_seq <| gv_region <| pN 4 [5, 6, 7, 8] [(5, (.int .i64 (IntKind.i64.wrap (((length s_0 : Nat) : Int) - 1))))] ?_
 refine bindE h0 ?_; clear h0; intro n1 hn2 h0
 refine gv_name (s := 5) (v := (.int .i64 (IntKind.i64.wrap (((length s_0 : Nat) : Int) - 1)))) (v' := (.int .i64 n1)) kr (congrArg (Value.int .i64) (sj hn2)) ?_
 refine gv_nil <| bindE h0 ?_; clear h0; intro j3 h1 h0
 refine gv_cut_code (J := fun a w5 => ∃ s4 : Unit, j3 = .inl s4 ∧ Below w0.heap.size w0 w5 ∧ w0.heap.size ≤ w5.heap.size ∧ a.defers = [] ∧ a.tmps.size = 20 ∧ Ok [] a.tmps) ?_ ?_
 ·skip
  refine gv_block <| gv_loop (A := fun (s6 : Int) a w7 => Below w0.heap.size w0 w7 ∧ w0.heap.size ≤ w7.heap.size ∧ a.defers = [] ∧ a.tmps.size = 20 ∧ Ok [(0, (.slice pa0_0 (length s_0) pc0_0)), (1, (.int .u8 c_1)), (5, (.int .i64 s6))] a.tmps) h1 ?_ ?_
  ·intro a hd hs hok
   exact ⟨hB0, nrf, hd, hs, okp [0, 1, 5] hok⟩
  ·rintro s6 r2 h2 hR2 a w7 ⟨hB8, hz9, hd, hs, hok⟩
   refine gv_in ?_ hd hs hok
   clear hd hs hok
   refine gv_seq <| gv_seq <| gv_region <| pN 2 [9, 10] [(10, (.bool (decide (s6 ≥ 0))))] ?_
   refine gv_nil <| gv_cond (b := (decide (s6 ≥ 0))) kr (fun hc10 => ?_) (fun hc10 => ?_)
   ·replace h2 := ite_t hc10 h2
    refine gv_skip <| gv_seq <| gv_block <| gv_seq <| gv_region <| pN 2 [13, 14] [(13, (.slice pa0_0 (length s_0) pc0_0)), (14, (.int .i64 s6))] ?_
    refine bindE h2 ?_; clear h2; intro x11 hx12 h2
    refine gv_idxaddr (t := 22) (e := 5) (a := pa0_0) (len := length s_0) (cap := pc0_0) (kk := .i64) (i := s6) (sz := 1) [] (fun e => by cases e) rfl rfl rfl kr kr Tryd.underlying22 kr ((hpa0_0.below hB8 hX0).has hx12) (idx_spec hx12).1 (idx_spec hx12).2.1 rfl ?_
    refine gv_load (t := 5) (A := (elemAddr pa0_0 ((s6 : Int).toNat * 1))) (.int .u8 ((x11).toNat : Int)) [] (fun e => by cases e) rfl rfl rfl kr kr kr (inw0 ((hpa0_0.below hB8 hX0).cell hx12)) rfl ?_
    refine pN 2 [17, 18] [(18, (.bool (((x11).toNat : Int) == c_1)))] ?_
    refine gv_nil <| gv_cond (b := (((x11).toNat : Int) == c_1)) kr (fun hc13 => ?_) (fun hc13 => ?_)
    ·replace h2 := ite_t hc13 h2
     refine gv_seq <| gv_region <| pN 2 [4, 19] [(4, (.int .i64 s6))] ?_
     refine gv_nil <| gv_cret ?_
     have e := sj h2; subst e
     replace h1 := congrArg some (hR2 _ rfl)
     have e := sj h1; subst e
     replace h0 := cont_inr h0
     have e := sj h0; subst e
     refine gv_ret (gv_done [(.int .i64 s6)] rfl ⟨kr, trivial⟩ ?_)
     exact ⟨grown_of_below hB8, rfl⟩
    ·replace h2 := ite_f hc13 h2
     refine gv_skip <| gv_blk <| gv_region <| pN 3 [5, 11, 12] [(5, (.int .i64 (IntKind.i64.wrap (s6 - 1))))] ?_
     refine gv_nil ?_
     have e := sj h2; subst e
     refine gv_goal fun a hd hs hok => ?_
     have hz14 := hz9
     exact ⟨(IntKind.i64.wrap (s6 - 1)), rfl, hB8, hz14, hd, hs, okp [0, 1, 5] hok⟩
   ·replace h2 := ite_f hc10 h2
    refine gv_cexit <| gv_exit rfl ?_
    have e := sj h2; subst e
    replace h1 := congrArg some (hR2 _ rfl)
    have e := sj h1; subst e
    refine gv_goal fun a hd hs hok => ?_
    have hz15 := hz9
    exact ⟨(), rfl, hB8, hz15, hd, hs, okp [] hok⟩
 ·rintro a w5 ⟨s4, e, hB16, hz17, hd, hs, hok⟩
  subst e
  refine gv_in ?_ hd hs hok
  clear hd hs hok
  replace h0 := cont_inl h0
  refine gv_seq <| gv_region <| pN 1 [4] [(4, (.int .i64 (-1)))] ?_
  refine gv_nil <| gv_cret ?_
  have e := sj h0; subst e
  refine gv_ret (gv_done [(.int .i64 (-1))] rfl ⟨kr, trivial⟩ ?_)
  exact ⟨grown_of_below hB16, rfl⟩

theorem bytealg_hashStrRev_sbyte_ok (fuel : Nat) (pa0_0 : Option Addr) (pc0_0 : Nat) (sep_0 : (List UInt8)) (w0 : World) (X0 : Nat → Prop) (hX0 : ∀ k, X0 k → k < w0.heap.size) (hpa0_0 : Rd bE w0 X0 pa0_0 pc0_0 sep_0) (r0 : (Int × Int)) (h0 : bytealg_hashStrRev_sbyte fuel sep_0 = some r0) :
    Calls Tryd.prog 87 ([(.slice pa0_0 (length sep_0) pc0_0)] : List Value).toArray w0 (Ret fun v w' => w0.grownBy w' none ∧ v = tup [(.int .u32 r0.1), (.int .u32 r0.2)]) := by
 have hB0 : Below w0.heap.size w0 w0 := Below.refl _ _
 unfold bytealg_hashStrRev_sbyte at h0
 refine calls_run Tryd.func87 rfl Tryd.ntmps87 kr ?_
 refine gv_sub [0] (σ' := [(0, (.slice pa0_0 (length sep_0) pc0_0))]) kr ?_
 refine gv_seq <| gv_region <| pN 2 [2, 3] [] ?_
 refine gv_nil <| gv_seq <| gv_region <| pN 1 [4] [(4, (.int .u32 0))] ?_
 refine gv_nil <| gv_seq <| gv_seq <| gv_region <| pN 4 [5, 9, 10, 11] [(5, (.int .i64 (IntKind.i64.wrap (((length sep_0 : Nat) : Int) - 1))))] ?_
 refine bindE h0 ?_; clear h0; intro n1 hn2 h0
 refine gv_name (s := 5) (v := (.int .i64 (IntKind.i64.wrap (((length sep_0 : Nat) : Int) - 1)))) (v' := (.int .i64 n1)) kr (congrArg (Value.int .i64) (sj hn2)) ?_
 refine gv_nil <| bindE h0 ?_; clear h0; intro j3 h1 h0
 refine gv_cut_code (J := fun a w4 => Below w0.heap.size w0 w4 ∧ w0.heap.size ≤ w4.heap.size ∧ a.defers = [] ∧ a.tmps.size = 41 ∧ Ok [(0, (.slice pa0_0 (length sep_0) pc0_0)), (4, (.int .u32 j3))] a.tmps) ?_ ?_
 ·skip
  refine gv_block <| gv_loop (A := fun (s5 : (Int × Int)) a w6 => Below w0.heap.size w0 w6 ∧ w0.heap.size ≤ w6.heap.size ∧ a.defers = [] ∧ a.tmps.size = 41 ∧ Ok [(0, (.slice pa0_0 (length sep_0) pc0_0)), (4, (.int .u32 s5.1)), (5, (.int .i64 s5.2))] a.tmps) h1 ?_ ?_
  ·intro a hd hs hok
   exact ⟨hB0, nrf, hd, hs, okp [0, 4, 5] hok⟩
  ·rintro s5 r2 h2 hR2 a w6 ⟨hB7, hz8, hd, hs, hok⟩
   refine gv_in ?_ hd hs hok
   clear hd hs hok
   refine gv_seq <| gv_seq <| gv_region <| pN 2 [12, 13] [(13, (.bool (decide (s5.2 ≥ 0))))] ?_
   refine gv_nil <| gv_cond (b := (decide (s5.2 ≥ 0))) kr (fun hc9 => ?_) (fun hc9 => ?_)
   ·replace h2 := ite_t hc9 h2
    refine gv_skip <| gv_seq <| gv_block <| gv_region <| pN 4 [16, 17, 18, 19] [(17, (.int .u32 (IntKind.u32.wrap (s5.1 * 16777619)))), (18, (.slice pa0_0 (length sep_0) pc0_0)), (19, (.int .i64 s5.2))] ?_
    refine bindE h2 ?_; clear h2; intro x10 hx11 h2
    refine gv_idxaddr (t := 22) (e := 5) (a := pa0_0) (len := length sep_0) (cap := pc0_0) (kk := .i64) (i := s5.2) (sz := 1) [] (fun e => by cases e) rfl rfl rfl kr kr Tryd.underlying22 kr ((hpa0_0.below hB7 hX0).has hx11) (idx_spec hx11).1 (idx_spec hx11).2.1 rfl ?_
    refine gv_load (t := 5) (A := (elemAddr pa0_0 ((s5.2 : Int).toNat * 1))) (.int .u8 ((x10).toNat : Int)) [] (fun e => by cases e) rfl rfl rfl kr kr kr (inw0 ((hpa0_0.below hB7 hX0).cell hx11)) rfl ?_
    refine pN 3 [4, 22, 23] [(4, (.int .u32 (IntKind.u32.wrap ((IntKind.u32.wrap (s5.1 * 16777619)) + (IntKind.u32.wrap (((x10).toNat : Int)))))))] ?_
    refine bindE h2 ?_; clear h2; intro n12 hn13 h2
    refine gv_name (s := 4) (v := (.int .u32 (IntKind.u32.wrap ((IntKind.u32.wrap (s5.1 * 16777619)) + (IntKind.u32.wrap (((x10).toNat : Int))))))) (v' := (.int .u32 n12)) kr (congrArg (Value.int .u32) (sj hn13)) ?_
    refine gv_nil <| gv_blk <| gv_region <| pN 3 [5, 14, 15] [(5, (.int .i64 (IntKind.i64.wrap (s5.2 - 1))))] ?_
    refine gv_nil ?_
    have e := sj h2; subst e
    refine gv_goal fun a hd hs hok => ?_
    have hz14 := hz8
    exact ⟨(n12, (IntKind.i64.wrap (s5.2 - 1))), rfl, hB7, hz14, hd, hs, okp [0, 4, 5] hok⟩
   ·replace h2 := ite_f hc9 h2
    refine gv_cexit <| gv_exit rfl ?_
    have e := sj h2; subst e
    replace h1 := congrArg some (hR2 _ rfl)
    have e := sj h1; subst e
    refine gv_goal fun a hd hs hok => ?_
    have hz15 := hz8
    exact ⟨hB7, hz15, hd, hs, okp [0, 4] hok⟩
 ·rintro a w4 ⟨hB16, hz17, hd, hs, hok⟩
  refine gv_in ?_ hd hs hok
  clear hd hs hok
  refine gv_seq <| gv_region <| pN 2 [6, 7] [(6, (.int .u32 1)), (7, (.int .u32 16777619))] ?_
  refine gv_nil <| gv_seq <| gv_seq <| gv_region <| pN 3 [8, 24, 25] [(8, (.int .i64 ((length sep_0 : Nat) : Int)))] ?_
  refine gv_nil <| bindE h0 ?_; clear h0; intro j18 h1 h0
  refine gv_cut_code (J := fun a w19 => Below w0.heap.size w0 w19 ∧ w4.heap.size ≤ w19.heap.size ∧ a.defers = [] ∧ a.tmps.size = 41 ∧ Ok [(4, (.int .u32 j3)), (6, (.int .u32 j18))] a.tmps) ?_ ?_
  ·skip
   refine gv_block <| gv_loop (A := fun (s20 : (Int × Int × Int)) a w21 => Below w0.heap.size w0 w21 ∧ w4.heap.size ≤ w21.heap.size ∧ a.defers = [] ∧ a.tmps.size = 41 ∧ Ok [(4, (.int .u32 j3)), (6, (.int .u32 s20.1)), (7, (.int .u32 s20.2.1)), (8, (.int .i64 s20.2.2))] a.tmps) h1 ?_ ?_
   ·intro a hd hs hok
    exact ⟨hB16, nrf, hd, hs, okp [4, 6, 7, 8] hok⟩
   ·rintro s20 r2 h2 hR2 a w21 ⟨hB22, hz23, hd, hs, hok⟩
    refine gv_in ?_ hd hs hok
    clear hd hs hok
    refine gv_seq <| gv_seq <| gv_region <| pN 2 [26, 27] [(27, (.bool (decide (s20.2.2 > 0))))] ?_
    refine gv_nil <| gv_cond (b := (decide (s20.2.2 > 0))) kr (fun hc24 => ?_) (fun hc24 => ?_)
    ·replace h2 := ite_t hc24 h2
     refine gv_skip <| gv_seq <| gv_block <| gv_seq <| gv_seq <| gv_region <| pN 3 [30, 31, 32] [(32, (.bool ((bwAnd .i64 s20.2.2 1) != 0)))] ?_
     refine gv_nil <| bindE h2 ?_; clear h2; intro j25 h3 h2
     refine gv_cut_code (J := fun a w26 => Below w0.heap.size w0 w26 ∧ w21.heap.size ≤ w26.heap.size ∧ a.defers = [] ∧ a.tmps.size = 41 ∧ Ok [(4, (.int .u32 j3)), (6, (.int .u32 j25)), (7, (.int .u32 s20.2.1)), (8, (.int .i64 s20.2.2))] a.tmps) ?_ ?_
     ·skip
      refine gv_cond (b := ((bwAnd .i64 s20.2.2 1) != 0)) kr (fun hc27 => ?_) (fun hc27 => ?_)
      ·replace h3 := ite_t hc27 h3
       refine gv_region <| pN 4 [6, 33, 34, 35] [(6, (.int .u32 (IntKind.u32.wrap (s20.1 * s20.2.1))))] ?_
       refine gv_nil ?_
       have e := sj h3; subst e
       refine gv_goal fun a hd hs hok => ?_
       exact ⟨hB22, nrf, hd, hs, okp [4, 6, 7, 8] hok⟩
      ·replace h3 := ite_f hc27 h3
       refine gv_skip ?_
       have e := sj h3; subst e
       refine gv_goal fun a hd hs hok => ?_
       exact ⟨hB22, nrf, hd, hs, okp [4, 6, 7, 8] hok⟩
     ·rintro a w26 ⟨hB28, hz29, hd, hs, hok⟩
      refine gv_in ?_ hd hs hok
      clear hd hs hok
      have hz30 := (nt hz23 hz29)
      clear hz29 hc24 hz23 hB22 hz17 hB16 hn2
      refine gv_region <| pN 4 [7, 36, 37, 38] [(7, (.int .u32 (IntKind.u32.wrap (s20.2.1 * s20.2.1))))] ?_
      refine gv_nil <| gv_blk <| gv_region <| pN 3 [8, 28, 29] [(8, (.int .i64 ((s20.2.2).fdiv (2 ^ 1))))] ?_
      refine gv_nil ?_
      have e := sj h2; subst e
      refine gv_goal fun a hd hs hok => ?_
      have hz31 := hz30
      exact ⟨(j25, (IntKind.u32.wrap (s20.2.1 * s20.2.1)), ((s20.2.2).fdiv (2 ^ 1))), rfl, hB28, hz31, hd, hs, okp [4, 6, 7, 8] hok⟩
    ·replace h2 := ite_f hc24 h2
     refine gv_cexit <| gv_exit rfl ?_
     have e := sj h2; subst e
     replace h1 := congrArg some (hR2 _ rfl)
     have e := sj h1; subst e
     refine gv_goal fun a hd hs hok => ?_
     have hz32 := hz23
     exact ⟨hB22, hz32, hd, hs, okp [4, 6] hok⟩
  ·rintro a w19 ⟨hB33, hz34, hd, hs, hok⟩
   refine gv_in ?_ hd hs hok
   clear hd hs hok
   clear hz34 hz17 hB16 hn2
   refine gv_seq <| gv_region <| pN 4 [2, 3, 39, 40] [(2, (.int .u32 j3)), (3, (.int .u32 j18))] ?_
   refine gv_nil <| gv_cret ?_
   have e := sj h0; subst e
   refine gv_ret (gv_done [(.int .u32 j3), (.int .u32 j18)] rfl ⟨kr, kr, trivial⟩ ?_)
   exact ⟨grown_of_below hB33, rfl⟩

theorem bytealg_LastIndexRabinKarp_sbyte_ok (fuel : Nat) (pa0_0 : Option Addr) (pc0_0 : Nat) (s_0 : (List UInt8)) (pa1_0 : Option Addr) (pc1_0 : Nat) (sep_1 : (List UInt8)) (w0 : World) (X0 : Nat → Prop) (hX0 : ∀ k, X0 k → k < w0.heap.size) (hpa0_0 : Rd bE w0 X0 pa0_0 pc0_0 s_0) (hpa1_0 : Rd bE w0 X0 pa1_0 pc1_0 sep_1) (r0 : Int) (h0 : bytealg_LastIndexRabinKarp_sbyte fuel s_0 sep_1 = some r0) :
    Calls Tryd.prog 78 ([(.slice pa0_0 (length s_0) pc0_0), (.slice pa1_0 (length sep_1) pc1_0)] : List Value).toArray w0 (Ret fun v w' => w0.grownBy w' none ∧ v = tup [(.int .i64 r0)]) := by
 have hB0 : Below w0.heap.size w0 w0 := Below.refl _ _
 unfold bytealg_LastIndexRabinKarp_sbyte at h0
 refine calls_run Tryd.func78 rfl Tryd.ntmps78 kr ?_
 refine gv_sub [0, 1] (σ' := [(0, (.slice pa0_0 (length s_0) pc0_0)), (1, (.slice pa1_0 (length sep_1) pc1_0))]) kr ?_
 refine gv_seq <| gv_region <| pN 1 [4] [] ?_
 refine gv_nil <| gv_seq <| gv_region <| pN 1 [13] [(13, (.slice pa1_0 (length sep_1) pc1_0))] ?_
 refine bindE h0 ?_; clear h0; intro r1 hr2 h0
 refine gv_call0 kr rfl kr enters87 (bytealg_hashStrRev_sbyte_ok fuel pa1_0 pc1_0 sep_1 w0 (fun k => X0 k) (fun k hk => (fun k (hk : X0 k) => ltl (hX0 k hk) hB0.size) k hk) ((hpa1_0.below hB0 hX0).wide (fun k hk => hk)) r1 hr2) ?_
 rintro v5 w3 ⟨hg4, rfl⟩
 refine pN 5 [5, 6, 12, 15, 16] [(5, (.int .u32 r1.1)), (6, (.int .u32 r1.2))] ?_
 refine gv_nil <| gv_seq <| gv_region <| pN 3 [7, 17, 18] [(7, (.int .i64 ((length sep_1 : Nat) : Int)))] ?_
 refine gv_nil <| gv_seq <| gv_region <| pN 5 [8, 19, 20, 21, 22] [(8, (.int .i64 (IntKind.i64.wrap (((length s_0 : Nat) : Int) - ((length sep_1 : Nat) : Int)))))] ?_
 refine bindE h0 ?_; clear h0; intro n6 hn7 h0
 refine gv_name (s := 8) (v := (.int .i64 (IntKind.i64.wrap (((length s_0 : Nat) : Int) - ((length sep_1 : Nat) : Int))))) (v' := (.int .i64 n6)) kr (congrArg (Value.int .i64) (sj hn7)) ?_
 refine gv_nil <| gv_seq <| gv_region <| pN 1 [9] [(9, (.int .u32 0))] ?_
 refine gv_nil <| gv_seq <| gv_seq <| gv_region <| pN 4 [10, 23, 24, 25] [(10, (.int .i64 (IntKind.i64.wrap (((length s_0 : Nat) : Int) - 1))))] ?_
 refine bindE h0 ?_; clear h0; intro n8 hn9 h0
 refine gv_name (s := 10) (v := (.int .i64 (IntKind.i64.wrap (((length s_0 : Nat) : Int) - 1)))) (v' := (.int .i64 n8)) kr (congrArg (Value.int .i64) (sj hn9)) ?_
 refine gv_nil <| bindE h0 ?_; clear h0; intro j10 h1 h0
 refine gv_cut_code (J := fun a w11 => Below w0.heap.size w0 w11 ∧ w3.heap.size ≤ w11.heap.size ∧ a.defers = [] ∧ a.tmps.size = 94 ∧ Ok [(0, (.slice pa0_0 (length s_0) pc0_0)), (1, (.slice pa1_0 (length sep_1) pc1_0)), (5, (.int .u32 r1.1)), (6, (.int .u32 r1.2)), (7, (.int .i64 ((length sep_1 : Nat) : Int))), (8, (.int .i64 n6)), (9, (.int .u32 j10))] a.tmps) ?_ ?_
 ·skip
  refine gv_block <| gv_loop (A := fun (s12 : (Int × Int)) a w13 => Below w0.heap.size w0 w13 ∧ w3.heap.size ≤ w13.heap.size ∧ a.defers = [] ∧ a.tmps.size = 94 ∧ Ok [(0, (.slice pa0_0 (length s_0) pc0_0)), (1, (.slice pa1_0 (length sep_1) pc1_0)), (5, (.int .u32 r1.1)), (6, (.int .u32 r1.2)), (7, (.int .i64 ((length sep_1 : Nat) : Int))), (8, (.int .i64 n6)), (9, (.int .u32 s12.1)), (10, (.int .i64 s12.2))] a.tmps) h1 ?_ ?_
  ·intro a hd hs hok
   have hB14 := bg hB0 hg4 nb
   exact ⟨hB14, nrf, hd, hs, okp [0, 1, 5, 6, 7, 8, 9, 10] hok⟩
  ·rintro s12 r2 h2 hR2 a w13 ⟨hB15, hz16, hd, hs, hok⟩
   refine gv_in ?_ hd hs hok
   clear hd hs hok
   clear hn9 hn7 hg4 hr2
   refine gv_seq <| gv_seq <| gv_region <| pN 3 [26, 27, 28] [(28, (.bool (decide (s12.2 ≥ n6))))] ?_
   refine gv_nil <| gv_cond (b := (decide (s12.2 ≥ n6))) kr (fun hc17 => ?_) (fun hc17 => ?_)
   ·replace h2 := ite_t hc17 h2
    refine gv_skip <| gv_seq <| gv_block <| gv_region <| pN 4 [31, 32, 33, 34] [(32, (.int .u32 (IntKind.u32.wrap (s12.1 * 16777619)))), (33, (.slice pa0_0 (length s_0) pc0_0)), (34, (.int .i64 s12.2))] ?_
    refine bindE h2 ?_; clear h2; intro x18 hx19 h2
    refine gv_idxaddr (t := 22) (e := 5) (a := pa0_0) (len := length s_0) (cap := pc0_0) (kk := .i64) (i := s12.2) (sz := 1) [] (fun e => by cases e) rfl rfl rfl kr kr Tryd.underlying22 kr ((hpa0_0.below hB15 hX0).has hx19) (idx_spec hx19).1 (idx_spec hx19).2.1 rfl ?_
    refine gv_load (t := 5) (A := (elemAddr pa0_0 ((s12.2 : Int).toNat * 1))) (.int .u8 ((x18).toNat : Int)) [] (fun e => by cases e) rfl rfl rfl kr kr kr (inw0 ((hpa0_0.below hB15 hX0).cell hx19)) rfl ?_
    refine pN 3 [9, 37, 38] [(9, (.int .u32 (IntKind.u32.wrap ((IntKind.u32.wrap (s12.1 * 16777619)) + (IntKind.u32.wrap (((x18).toNat : Int)))))))] ?_
    refine bindE h2 ?_; clear h2; intro n20 hn21 h2
    refine gv_name (s := 9) (v := (.int .u32 (IntKind.u32.wrap ((IntKind.u32.wrap (s12.1 * 16777619)) + (IntKind.u32.wrap (((x18).toNat : Int))))))) (v' := (.int .u32 n20)) kr (congrArg (Value.int .u32) (sj hn21)) ?_
    refine gv_nil <| gv_blk <| gv_region <| pN 3 [10, 29, 30] [(10, (.int .i64 (IntKind.i64.wrap (s12.2 - 1))))] ?_
    refine gv_nil ?_
    have e := sj h2; subst e
    refine gv_goal fun a hd hs hok => ?_
    have hz22 := hz16
    exact ⟨(n20, (IntKind.i64.wrap (s12.2 - 1))), rfl, hB15, hz22, hd, hs, okp [0, 1, 5, 6, 7, 8, 9, 10] hok⟩
   ·replace h2 := ite_f hc17 h2
    refine gv_cexit <| gv_exit rfl ?_
    have e := sj h2; subst e
    replace h1 := congrArg some (hR2 _ rfl)
    have e := sj h1; subst e
    refine gv_goal fun a hd hs hok => ?_
    have hz23 := hz16
    exact ⟨hB15, hz23, hd, hs, okp [0, 1, 5, 6, 7, 8, 9] hok⟩
 ·rintro a w11 ⟨hB24, hz25, hd, hs, hok⟩
  refine gv_in ?_ hd hs hok
  clear hd hs hok
  clear hz25 hn9 hn7 hg4 hr2
  refine gv_seq <| gv_seq <| bindE h0 ?_; clear h0; intro j26 h1 h0
  refine gv_cut_code (J := fun a w27 => Below w0.heap.size w0 w27 ∧ w11.heap.size ≤ w27.heap.size ∧ a.defers = [] ∧ a.tmps.size = 94 ∧ Ok [(0, (.slice pa0_0 (length s_0) pc0_0)), (1, (.slice pa1_0 (length sep_1) pc1_0)), (5, (.int .u32 r1.1)), (6, (.int .u32 r1.2)), (7, (.int .i64 ((length sep_1 : Nat) : Int))), (8, (.int .i64 n6)), (9, (.int .u32 j10)), (50, (.bool j26))] a.tmps) ?_ ?_
  ·skip
   refine gv_drawA kr ?_
   intro w28 hg29
   refine gv_pre [0, 1, 2, 3, 4, 5, 6, 8] (bA 12 [0, 1, 2, 3, 4, 5, 6, 8]) 4 kr kr ?_
   refine pN 4 [39, 40, 41, 42] [(42, (.bool (j10 == r1.1)))] ?_
   refine gv_split (s := 42) (g := (j10 == r1.1)) kr (fun hc30 => ?_) (fun hc30 => ?_)
   ·skip
    replace h1 := ite_t hc30 h1
    refine pN 2 [43, 44] [(43, (.slice pa0_0 (length s_0) pc0_0)), (44, (.int .i64 n6))] ?_
    refine bindE h1 ?_; clear h1; intro x31 hx32 h1
    have hB36 := bg hB24 hg29 nb
    refine gv_ssl2 bE (t := 22) (e := 5) (xs := s_0) (a := pa0_0) (cap := pc0_0) (lo := (some (.int .i64 n6))) (hi := none) n6 ((length s_0 : Nat) : Int) x31 (fun e => by cases e) rfl rfl rfl kr kr Tryd.underlying22 kr (.inr ⟨_, rfl⟩) (.inl ⟨rfl, rfl⟩) hx32 (hpa0_0.below hB36 hX0).1 ?_
    intro a33 c34 hsub35
    have hp37 := hsub35 _ _ hpa0_0
    refine pN 1 [47] [(47, (.slice pa1_0 (length sep_1) pc1_0))] ?_
    refine gv_nil <| gv_goA ?_
    refine gv_stage (Cls w28 []) [7, 9] [(7, some true), (9, some true)] (bA 12 [0, 1, 2, 3, 4, 5, 6, 7, 8, 9]) 2 kr kr (Cls.refl _ _) ?_
    have hC38 := Cls.refl w28 []
    refine gv_b2s (src := 22) (dst := 9) (e := 5) (xs := x31) (a := a33) (cap := c34) (X := X0) [] (fun e => by cases e) rfl rfl rfl kr kr Tryd.underlying22 Tryd.underlying5 Tryd.underlying9 (inw1 fun w' hC' => (hC'.rd (hp37.below hB36 hX0) (fun k (hk : X0 k) => ltl (hX0 k hk) hB36.size) nmx_nil)) rfl ?_
    refine gv_b2s (src := 22) (dst := 9) (e := 5) (xs := sep_1) (a := pa1_0) (cap := pc1_0) (X := X0) [] (fun e => by cases e) rfl rfl rfl kr kr Tryd.underlying22 Tryd.underlying5 Tryd.underlying9 (inw1 fun w' hC' => (hC'.rd (hpa1_0.below hB36 hX0) (fun k (hk : X0 k) => ltl (hX0 k hk) hB36.size) nmx_nil)) rfl ?_
    refine gv_nil <| gv_goA ?_
    refine gv_pre [10, 11] (bA 12 [0, 1, 2, 3, 4, 5, 6, 7, 8, 9, 10, 11]) 0 kr kr ?_
    refine pN 2 [49, 50] [(50, (.bool ((strOf x31).toList == (strOf sep_1).toList)))] ?_
    refine gv_nil <| gv_goA ?_
    refine gv_stageE kr ?_
    have e := sj h1; subst e
    refine gv_goal fun a hd hs hok => ?_
    have hz39 := hg29.size
    exact ⟨hB36, hz39, hd, hs, okp [0, 1, 5, 6, 7, 8, 9, 50] hok⟩
   ·skip
    replace h1 := ite_f hc30 h1
    refine pN 4 [43, 44, 45, 47] [(45, undef), (47, undef)] ?_
    refine gv_nil <| gv_goA ?_
    refine gv_stage (Cls w28 []) [7, 9] [(7, some true), (9, some true)] (bA 12 [0, 1, 2, 3, 4, 5, 6, 7, 8, 9]) 2 kr kr (Cls.refl _ _) ?_
    have hC40 := Cls.refl w28 []
    refine pN 2 [46, 48] [(46, undef), (48, undef)] ?_
    refine gv_nil <| gv_goA ?_
    refine gv_pre [10, 11] (bA 12 [0, 1, 2, 3, 4, 5, 6, 7, 8, 9, 10, 11]) 0 kr kr ?_
    refine pN 2 [49, 50] [(50, (.bool false))] ?_
    refine gv_nil <| gv_goA ?_
    refine gv_stageE kr ?_
    have e := sj h1; subst e
    refine gv_goal fun a hd hs hok => ?_
    have hB41 := bg hB24 hg29 nb
    have hz42 := hg29.size
    exact ⟨hB41, hz42, hd, hs, okp [0, 1, 5, 6, 7, 8, 9, 50] hok⟩
  ·rintro a w27 ⟨hB43, hz44, hd, hs, hok⟩
   refine gv_in ?_ hd hs hok
   clear hd hs hok
   refine gv_cond (b := j26) kr (fun hc45 => ?_) (fun hc45 => ?_)
   ·replace h0 := ite_t hc45 h0
    refine gv_seq <| gv_region <| pN 2 [4, 51] [(4, (.int .i64 n6))] ?_
    refine gv_nil <| gv_cret ?_
    have e := sj h0; subst e
    refine gv_ret (gv_done [(.int .i64 n6)] rfl ⟨kr, trivial⟩ ?_)
    exact ⟨grown_of_below hB43, rfl⟩
   ·replace h0 := ite_f hc45 h0
    refine gv_skip <| gv_seq <| gv_seq <| gv_region <| pN 3 [11, 52, 53] [(11, (.int .i64 (IntKind.i64.wrap (n6 - 1))))] ?_
    refine gv_nil <| bindE h0 ?_; clear h0; intro j46 h1 h0
    refine gv_cut_code (J := fun a w48 => ∃ s47 : Unit, j46 = .inl s47 ∧ Below w0.heap.size w0 w48 ∧ w27.heap.size ≤ w48.heap.size ∧ a.defers = [] ∧ a.tmps.size = 94 ∧ Ok [] a.tmps) ?_ ?_
    ·skip
     refine gv_block <| gv_loop (A := fun (s49 : (Int × Int)) a w50 => Below w0.heap.size w0 w50 ∧ w27.heap.size ≤ w50.heap.size ∧ a.defers = [] ∧ a.tmps.size = 94 ∧ Ok [(0, (.slice pa0_0 (length s_0) pc0_0)), (1, (.slice pa1_0 (length sep_1) pc1_0)), (5, (.int .u32 r1.1)), (6, (.int .u32 r1.2)), (7, (.int .i64 ((length sep_1 : Nat) : Int))), (9, (.int .u32 s49.1)), (11, (.int .i64 s49.2))] a.tmps) h1 ?_ ?_
     ·intro a hd hs hok
      exact ⟨hB43, nrf, hd, hs, okp [0, 1, 5, 6, 7, 9, 11] hok⟩
     ·rintro s49 r2 h2 hR2 a w50 ⟨hB51, hz52, hd, hs, hok⟩
      refine gv_in ?_ hd hs hok
      clear hd hs hok
      clear hc45 hz44 hB43 hB24
      refine gv_seq <| gv_seq <| gv_region <| pN 2 [54, 55] [(55, (.bool (decide (s49.2 ≥ 0))))] ?_
      refine gv_nil <| gv_cond (b := (decide (s49.2 ≥ 0))) kr (fun hc53 => ?_) (fun hc53 => ?_)
      ·replace h2 := ite_t hc53 h2
       refine gv_skip <| gv_seq <| gv_block <| gv_seq <| gv_region <| pN 3 [9, 58, 59] [(9, (.int .u32 (IntKind.u32.wrap (s49.1 * 16777619))))] ?_
       refine gv_nil <| gv_seq <| gv_region <| pN 3 [60, 61, 62] [(60, (.int .u32 (IntKind.u32.wrap (s49.1 * 16777619)))), (61, (.slice pa0_0 (length s_0) pc0_0)), (62, (.int .i64 s49.2))] ?_
       refine bindE h2 ?_; clear h2; intro x54 hx55 h2
       refine gv_idxaddr (t := 22) (e := 5) (a := pa0_0) (len := length s_0) (cap := pc0_0) (kk := .i64) (i := s49.2) (sz := 1) [] (fun e => by cases e) rfl rfl rfl kr kr Tryd.underlying22 kr ((hpa0_0.below hB51 hX0).has hx55) (idx_spec hx55).1 (idx_spec hx55).2.1 rfl ?_
       refine gv_load (t := 5) (A := (elemAddr pa0_0 ((s49.2 : Int).toNat * 1))) (.int .u8 ((x54).toNat : Int)) [] (fun e => by cases e) rfl rfl rfl kr kr kr (inw0 ((hpa0_0.below hB51 hX0).cell hx55)) rfl ?_
       refine pN 3 [9, 65, 66] [(9, (.int .u32 (IntKind.u32.wrap ((IntKind.u32.wrap (s49.1 * 16777619)) + (IntKind.u32.wrap (((x54).toNat : Int)))))))] ?_
       refine bindE h2 ?_; clear h2; intro n56 hn57 h2
       refine gv_name (s := 9) (v := (.int .u32 (IntKind.u32.wrap ((IntKind.u32.wrap (s49.1 * 16777619)) + (IntKind.u32.wrap (((x54).toNat : Int))))))) (v' := (.int .u32 n56)) kr (congrArg (Value.int .u32) (sj hn57)) ?_
       refine gv_nil <| gv_seq <| gv_region <| pN 6 [67, 68, 69, 70, 71, 72] [(67, (.int .u32 n56)), (68, (.int .u32 r1.2)), (69, (.slice pa0_0 (length s_0) pc0_0)), (72, (.int .i64 (IntKind.i64.wrap (s49.2 + ((length sep_1 : Nat) : Int)))))] ?_
       refine bindE h2 ?_; clear h2; intro x58 hx59 h2
       refine gv_idxaddr (t := 22) (e := 5) (a := pa0_0) (len := length s_0) (cap := pc0_0) (kk := .i64) (i := (IntKind.i64.wrap (s49.2 + ((length sep_1 : Nat) : Int)))) (sz := 1) [] (fun e => by cases e) rfl rfl rfl kr kr Tryd.underlying22 kr ((hpa0_0.below hB51 hX0).has hx59) (idx_spec hx59).1 (idx_spec hx59).2.1 rfl ?_
       refine gv_load (t := 5) (A := (elemAddr pa0_0 (((IntKind.i64.wrap (s49.2 + ((length sep_1 : Nat) : Int))) : Int).toNat * 1))) (.int .u8 ((x58).toNat : Int)) [] (fun e => by cases e) rfl rfl rfl kr kr kr (inw0 ((hpa0_0.below hB51 hX0).cell hx59)) rfl ?_
       refine pN 4 [9, 75, 76, 77] [(9, (.int .u32 (IntKind.u32.wrap (n56 - (IntKind.u32.wrap (r1.2 * (IntKind.u32.wrap (((x58).toNat : Int)))))))))] ?_
       refine bindE h2 ?_; clear h2; intro n60 hn61 h2
       refine gv_name (s := 9) (v := (.int .u32 (IntKind.u32.wrap (n56 - (IntKind.u32.wrap (r1.2 * (IntKind.u32.wrap (((x58).toNat : Int))))))))) (v' := (.int .u32 n60)) kr (congrArg (Value.int .u32) (sj hn61)) ?_
       refine gv_nil <| gv_seq <| bindE h2 ?_; clear h2; intro j62 h3 h2
       refine gv_cut_code (J := fun a w63 => Below w0.heap.size w0 w63 ∧ w50.heap.size ≤ w63.heap.size ∧ a.defers = [] ∧ a.tmps.size = 94 ∧ Ok [(0, (.slice pa0_0 (length s_0) pc0_0)), (1, (.slice pa1_0 (length sep_1) pc1_0)), (5, (.int .u32 r1.1)), (6, (.int .u32 r1.2)), (7, (.int .i64 ((length sep_1 : Nat) : Int))), (9, (.int .u32 n60)), (11, (.int .i64 s49.2)), (92, (.bool j62))] a.tmps) ?_ ?_
       ·skip
        refine gv_drawA kr ?_
        intro w64 hg65
        refine gv_pre [0, 1, 2, 3, 4, 5, 6, 7, 8, 9, 11] (bA 15 [0, 1, 2, 3, 4, 5, 6, 7, 8, 9, 11]) 4 kr kr ?_
        refine pN 4 [78, 79, 80, 81] [(81, (.bool (n60 == r1.1)))] ?_
        refine gv_split (s := 81) (g := (n60 == r1.1)) kr (fun hc66 => ?_) (fun hc66 => ?_)
        ·skip
         replace h3 := ite_t hc66 h3
         refine pN 5 [82, 83, 84, 85, 86] [(82, (.slice pa0_0 (length s_0) pc0_0)), (83, (.int .i64 s49.2)), (86, (.int .i64 (IntKind.i64.wrap (s49.2 + ((length sep_1 : Nat) : Int)))))] ?_
         refine bindE h3 ?_; clear h3; intro x67 hx68 h3
         have hB72 := bg hB51 hg65 nb
         refine gv_ssl2 bE (t := 22) (e := 5) (xs := s_0) (a := pa0_0) (cap := pc0_0) (lo := (some (.int .i64 s49.2))) (hi := (some (.int .i64 (IntKind.i64.wrap (s49.2 + ((length sep_1 : Nat) : Int)))))) s49.2 (IntKind.i64.wrap (s49.2 + ((length sep_1 : Nat) : Int))) x67 (fun e => by cases e) rfl rfl rfl kr kr Tryd.underlying22 kr (.inr ⟨_, rfl⟩) (.inr ⟨_, rfl⟩) hx68 (hpa0_0.below hB72 hX0).1 ?_
         intro a69 c70 hsub71
         have hp73 := hsub71 _ _ hpa0_0
         refine pN 1 [89] [(89, (.slice pa1_0 (length sep_1) pc1_0))] ?_
         refine gv_sub [0, 1, 5, 6, 7, 9, 11, 81, 87, 89] (σ' := [(0, (.slice pa0_0 (length s_0) pc0_0)), (1, (.slice pa1_0 (length sep_1) pc1_0)), (5, (.int .u32 r1.1)), (6, (.int .u32 r1.2)), (7, (.int .i64 ((length sep_1 : Nat) : Int))), (9, (.int .u32 n60)), (11, (.int .i64 s49.2)), (81, (.bool true)), (87, (.slice a69 (length x67) c70)), (89, (.slice pa1_0 (length sep_1) pc1_0))]) kr ?_
         refine gv_nil <| gv_goA ?_
         refine gv_stage (Cls w64 []) [10, 12] [(10, some true), (12, some true)] (bA 15 [0, 1, 2, 3, 4, 5, 6, 7, 8, 9, 10, 11, 12]) 2 kr kr (Cls.refl _ _) ?_
         have hC74 := Cls.refl w64 []
         refine gv_b2s (src := 22) (dst := 9) (e := 5) (xs := x67) (a := a69) (cap := c70) (X := X0) [] (fun e => by cases e) rfl rfl rfl kr kr Tryd.underlying22 Tryd.underlying5 Tryd.underlying9 (inw1 fun w' hC' => (hC'.rd (hp73.below hB72 hX0) (fun k (hk : X0 k) => ltl (hX0 k hk) hB72.size) nmx_nil)) rfl ?_
         refine gv_b2s (src := 22) (dst := 9) (e := 5) (xs := sep_1) (a := pa1_0) (cap := pc1_0) (X := X0) [] (fun e => by cases e) rfl rfl rfl kr kr Tryd.underlying22 Tryd.underlying5 Tryd.underlying9 (inw1 fun w' hC' => (hC'.rd (hpa1_0.below hB72 hX0) (fun k (hk : X0 k) => ltl (hX0 k hk) hB72.size) nmx_nil)) rfl ?_
         refine gv_nil <| gv_goA ?_
         refine gv_pre [13, 14] (bA 15 [0, 1, 2, 3, 4, 5, 6, 7, 8, 9, 10, 11, 12, 13, 14]) 0 kr kr ?_
         refine pN 2 [91, 92] [(92, (.bool ((strOf x67).toList == (strOf sep_1).toList)))] ?_
         refine gv_nil <| gv_goA ?_
         refine gv_stageE kr ?_
         have e := sj h3; subst e
         refine gv_goal fun a hd hs hok => ?_
         have hz75 := hg65.size
         exact ⟨hB72, hz75, hd, hs, okp [0, 1, 5, 6, 7, 9, 11, 92] hok⟩
        ·skip
         replace h3 := ite_f hc66 h3
         refine pN 7 [82, 83, 84, 85, 86, 87, 89] [(87, undef), (89, undef)] ?_
         refine gv_nil <| gv_goA ?_
         refine gv_stage (Cls w64 []) [10, 12] [(10, some true), (12, some true)] (bA 15 [0, 1, 2, 3, 4, 5, 6, 7, 8, 9, 10, 11, 12]) 2 kr kr (Cls.refl _ _) ?_
         have hC76 := Cls.refl w64 []
         refine pN 2 [88, 90] [(88, undef), (90, undef)] ?_
         refine gv_nil <| gv_goA ?_
         refine gv_pre [13, 14] (bA 15 [0, 1, 2, 3, 4, 5, 6, 7, 8, 9, 10, 11, 12, 13, 14]) 0 kr kr ?_
         refine pN 2 [91, 92] [(92, (.bool false))] ?_
         refine gv_sub [0, 1, 5, 6, 7, 9, 11, 92] (σ' := [(0, (.slice pa0_0 (length s_0) pc0_0)), (1, (.slice pa1_0 (length sep_1) pc1_0)), (5, (.int .u32 r1.1)), (6, (.int .u32 r1.2)), (7, (.int .i64 ((length sep_1 : Nat) : Int))), (9, (.int .u32 n60)), (11, (.int .i64 s49.2)), (92, (.bool false))]) kr ?_
         refine gv_nil <| gv_goA ?_
         refine gv_stageE kr ?_
         have e := sj h3; subst e
         refine gv_goal fun a hd hs hok => ?_
         have hB77 := bg hB51 hg65 nb
         have hz78 := hg65.size
         exact ⟨hB77, hz78, hd, hs, okp [0, 1, 5, 6, 7, 9, 11, 92] hok⟩
       ·rintro a w63 ⟨hB79, hz80, hd, hs, hok⟩
        refine gv_in ?_ hd hs hok
        clear hd hs hok
        have hz81 := (nt hz52 hz80)
        clear hz80 hn61 hx59 hn57 hx55 hc53 hz52 hB51
        refine gv_cond (b := j62) kr (fun hc82 => ?_) (fun hc82 => ?_)
        ·replace h2 := ite_t hc82 h2
         refine gv_seq <| gv_region <| pN 2 [4, 93] [(4, (.int .i64 s49.2))] ?_
         refine gv_nil <| gv_cret ?_
         have e := sj h2; subst e
         replace h1 := congrArg some (hR2 _ rfl)
         have e := sj h1; subst e
         replace h0 := cont_inr h0
         have e := sj h0; subst e
         refine gv_ret (gv_done [(.int .i64 s49.2)] rfl ⟨kr, trivial⟩ ?_)
         exact ⟨grown_of_below hB79, rfl⟩
        ·replace h2 := ite_f hc82 h2
         refine gv_skip <| gv_blk <| gv_region <| pN 3 [11, 56, 57] [(11, (.int .i64 (IntKind.i64.wrap (s49.2 - 1))))] ?_
         refine gv_nil ?_
         have e := sj h2; subst e
         refine gv_goal fun a hd hs hok => ?_
         have hz83 := hz81
         exact ⟨(n60, (IntKind.i64.wrap (s49.2 - 1))), rfl, hB79, hz83, hd, hs, okp [0, 1, 5, 6, 7, 9, 11] hok⟩
      ·replace h2 := ite_f hc53 h2
       refine gv_cexit <| gv_exit rfl ?_
       have e := sj h2; subst e
       replace h1 := congrArg some (hR2 _ rfl)
       have e := sj h1; subst e
       refine gv_goal fun a hd hs hok => ?_
       have hz84 := hz52
       exact ⟨(), rfl, hB51, hz84, hd, hs, okp [] hok⟩
    ·rintro a w48 ⟨s47, e, hB85, hz86, hd, hs, hok⟩
     subst e
     refine gv_in ?_ hd hs hok
     clear hd hs hok
     replace h0 := cont_inl h0
     clear hz86 hc45 hz44 hB43 hB24
     refine gv_seq <| gv_region <| pN 1 [4] [(4, (.int .i64 (-1)))] ?_
     refine gv_nil <| gv_cret ?_
     have e := sj h0; subst e
     refine gv_ret (gv_done [(.int .i64 (-1))] rfl ⟨kr, trivial⟩ ?_)
     exact ⟨grown_of_below hB85, rfl⟩

theorem bytes_LastIndex_ok (fuel : Nat) (pa0_0 : Option Addr) (pc0_0 : Nat) (s_0 : (List UInt8)) (pa1_0 : Option Addr) (pc1_0 : Nat) (sep_1 : (List UInt8)) (w0 : World) (X0 : Nat → Prop) (hX0 : ∀ k, X0 k → k < w0.heap.size) (hpa0_0 : Rd bE w0 X0 pa0_0 pc0_0 s_0) (hpa1_0 : Rd bE w0 X0 pa1_0 pc1_0 sep_1) (r0 : Int) (h0 : bytes_LastIndex fuel s_0 sep_1 = some r0) :
    Calls Tryd.prog 54 ([(.slice pa0_0 (length s_0) pc0_0), (.slice pa1_0 (length sep_1) pc1_0)] : List Value).toArray w0 (Ret fun v w' => w0.grownBy w' none ∧ v = tup [(.int .i64 r0)]) := by
 have hB0 : Below w0.heap.size w0 w0 := Below.refl _ _
 unfold bytes_LastIndex at h0
 refine calls_run Tryd.func54 rfl Tryd.ntmps54 kr ?_
 refine gv_sub [0, 1] (σ' := [(0, (.slice pa0_0 (length s_0) pc0_0)), (1, (.slice pa1_0 (length sep_1) pc1_0))]) kr ?_
 refine gv_seq <| gv_region <| pN 1 [4] [] ?_
 refine gv_nil <| gv_seq <| gv_region <| pN 3 [5, 6, 7] [(5, (.int .i64 ((length sep_1 : Nat) : Int)))] ?_
 refine gv_nil <| gv_seq <| gv_block <| gv_seq <| gv_region <| pN 3 [8, 9, 10] [(8, (.bool (((length sep_1 : Nat) : Int) == 0)))] ?_
 refine gv_nil <| gv_cond (b := (((length sep_1 : Nat) : Int) == 0)) kr (fun hc1 => ?_) (fun hc1 => ?_)
 ·replace h0 := ite_t hc1 h0
  refine gv_seq <| gv_region <| pN 3 [4, 11, 12] [(4, (.int .i64 ((length s_0 : Nat) : Int)))] ?_
  refine gv_nil <| gv_cret ?_
  have e := sj h0; subst e
  refine gv_ret (gv_done [(.int .i64 ((length s_0 : Nat) : Int))] rfl ⟨kr, trivial⟩ ?_)
  exact ⟨grown_of_below hB0, rfl⟩
 ·replace h0 := ite_f hc1 h0
  refine gv_seq <| gv_region <| pN 3 [13, 14, 15] [(13, (.bool (((length sep_1 : Nat) : Int) == 1)))] ?_
  refine gv_nil <| gv_cond (b := (((length sep_1 : Nat) : Int) == 1)) kr (fun hc2 => ?_) (fun hc2 => ?_)
  ·replace h0 := ite_t hc2 h0
   refine gv_seq <| gv_region <| pN 2 [16, 17] [(16, (.slice pa0_0 (length s_0) pc0_0)), (17, (.slice pa1_0 (length sep_1) pc1_0))] ?_
   refine bindE h0 ?_; clear h0; intro x3 hx4 h0
   refine gv_idxaddr (t := 22) (e := 5) (a := pa1_0) (len := length sep_1) (cap := pc1_0) (kk := .i64) (i := 0) (sz := 1) [] (fun e => by cases e) rfl rfl rfl kr kr Tryd.underlying22 kr ((hpa1_0.below hB0 hX0).has hx4) (idx_spec hx4).1 (idx_spec hx4).2.1 rfl ?_
   refine gv_load (t := 5) (A := (elemAddr pa1_0 ((0 : Int).toNat * 1))) (.int .u8 ((x3).toNat : Int)) [] (fun e => by cases e) rfl rfl rfl kr kr kr (inw0 ((hpa1_0.below hB0 hX0).cell hx4)) rfl ?_
   refine bindE h0 ?_; clear h0; intro r5 hr6 h0
   refine gv_call0 kr rfl kr enters77 (bytealg_LastIndexByte_ok fuel pa0_0 pc0_0 s_0 ((x3).toNat : Int) w0 (fun k => X0 k) (fun k hk => (fun k (hk : X0 k) => ltl (hX0 k hk) hB0.size) k hk) ((hpa0_0.below hB0 hX0).wide (fun k hk => hk)) r5 hr6) ?_
   rintro v9 w7 ⟨hg8, rfl⟩
   refine pN 1 [4] [(4, (.int .i64 r5))] ?_
   refine gv_nil <| gv_cret ?_
   have e := sj h0; subst e
   refine gv_ret (gv_done [(.int .i64 r5)] rfl ⟨kr, trivial⟩ ?_)
   have hB10 := bg hB0 hg8 nb
   exact ⟨grown_of_below hB10, rfl⟩
  ·replace h0 := ite_f hc2 h0
   refine gv_seq <| gv_region <| pN 5 [21, 22, 23, 24, 25] [(21, (.bool (((length sep_1 : Nat) : Int) == ((length s_0 : Nat) : Int))))] ?_
   refine bindE h0 ?_; clear h0; intro n11 hn12 h0
   refine gv_name (s := 21) (v := (.bool (((length sep_1 : Nat) : Int) == ((length s_0 : Nat) : Int)))) (v' := (.bool n11)) kr (congrArg (Value.bool) (sj hn12)) ?_
   refine gv_nil <| gv_cond (b := n11) kr (fun hc13 => ?_) (fun hc13 => ?_)
   ·replace h0 := ite_t hc13 h0
    refine gv_seq <| gv_seq <| gv_region <| pN 2 [26, 27] [(26, (.slice pa0_0 (length s_0) pc0_0)), (27, (.slice pa1_0 (length sep_1) pc1_0))] ?_
    refine bindE h0 ?_; clear h0; intro r14 hr15 h0
    refine gv_call0 kr rfl kr enters73 (bytes_Equal_ok fuel pa0_0 pc0_0 s_0 pa1_0 pc1_0 sep_1 w0 (fun k => X0 k ∨ X0 k) (fun k hk => (hk).elim (fun h => (fun k (hk : X0 k) => ltl (hX0 k hk) hB0.size) k h) (fun h => (fun k (hk : X0 k) => ltl (hX0 k hk) hB0.size) k h)) ((hpa0_0.below hB0 hX0).wide (fun k hk => (.inl hk))) ((hpa1_0.below hB0 hX0).wide (fun k hk => (.inr hk))) r14 hr15) ?_
    rintro v18 w16 ⟨hg17, rfl⟩
    refine gv_nil <| gv_cond (b := r14) kr (fun hc19 => ?_) (fun hc19 => ?_)
    ·replace h0 := ite_t hc19 h0
     refine gv_seq <| gv_region <| pN 1 [4] [(4, (.int .i64 0))] ?_
     refine gv_nil <| gv_cret ?_
     have e := sj h0; subst e
     refine gv_ret (gv_done [(.int .i64 0)] rfl ⟨kr, trivial⟩ ?_)
     have hB20 := bg hB0 hg17 nb
     exact ⟨grown_of_below hB20, rfl⟩
    ·replace h0 := ite_f hc19 h0
     refine gv_skip <| gv_seq <| gv_region <| pN 1 [4] [(4, (.int .i64 (-1)))] ?_
     refine gv_nil <| gv_cret ?_
     have e := sj h0; subst e
     refine gv_ret (gv_done [(.int .i64 (-1))] rfl ⟨kr, trivial⟩ ?_)
     have hB21 := bg hB0 hg17 nb
     exact ⟨grown_of_below hB21, rfl⟩
   ·replace h0 := ite_f hc13 h0
    refine gv_seq <| gv_region <| pN 5 [29, 30, 31, 32, 33] [(29, (.bool (decide (((length sep_1 : Nat) : Int) > ((length s_0 : Nat) : Int)))))] ?_
    refine bindE h0 ?_; clear h0; intro n22 hn23 h0
    refine gv_name (s := 29) (v := (.bool (decide (((length sep_1 : Nat) : Int) > ((length s_0 : Nat) : Int))))) (v' := (.bool n22)) kr (congrArg (Value.bool) (sj hn23)) ?_
    refine gv_nil <| gv_cond (b := n22) kr (fun hc24 => ?_) (fun hc24 => ?_)
    ·replace h0 := ite_t hc24 h0
     refine gv_seq <| gv_region <| pN 1 [4] [(4, (.int .i64 (-1)))] ?_
     refine gv_nil <| gv_cret ?_
     have e := sj h0; subst e
     refine gv_ret (gv_done [(.int .i64 (-1))] rfl ⟨kr, trivial⟩ ?_)
     exact ⟨grown_of_below hB0, rfl⟩
    ·replace h0 := ite_f hc24 h0
     refine gv_skip <| gv_blk <| gv_seq <| gv_region <| pN 2 [34, 35] [(34, (.slice pa0_0 (length s_0) pc0_0)), (35, (.slice pa1_0 (length sep_1) pc1_0))] ?_
     refine bindE h0 ?_; clear h0; intro r25 hr26 h0
     refine gv_call0 kr rfl kr enters78 (bytealg_LastIndexRabinKarp_sbyte_ok fuel pa0_0 pc0_0 s_0 pa1_0 pc1_0 sep_1 w0 (fun k => X0 k ∨ X0 k) (fun k hk => (hk).elim (fun h => (fun k (hk : X0 k) => ltl (hX0 k hk) hB0.size) k h) (fun h => (fun k (hk : X0 k) => ltl (hX0 k hk) hB0.size) k h)) ((hpa0_0.below hB0 hX0).wide (fun k hk => (.inl hk))) ((hpa1_0.below hB0 hX0).wide (fun k hk => (.inr hk))) r25 hr26) ?_
     rintro v29 w27 ⟨hg28, rfl⟩
     refine pN 1 [4] [(4, (.int .i64 r25))] ?_
     refine gv_nil <| gv_cret ?_
     have e := sj h0; subst e
     refine gv_ret (gv_done [(.int .i64 r25)] rfl ⟨kr, trivial⟩ ?_)
     have hB30 := bg hB0 hg28 nb
     exact ⟨grown_of_below hB30, rfl⟩

end Go.Proofs.YtlclmpegnkomcaaDoor
