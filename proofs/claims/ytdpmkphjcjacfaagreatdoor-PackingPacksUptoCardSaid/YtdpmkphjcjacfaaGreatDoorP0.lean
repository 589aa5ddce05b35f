import Derived.Test.YtdpmkphjcjacfaaGreatDoorRows
import Derived.Test.YtdpmkphjcjacfaaGreatDoorGh
import Derived.Test.YtdpmkphjcjacfaaGreatDoorD
import Derived.Test.YtdpmkphjcjacfaaGreatDoorSt
set_option linter.all false
set_option maxHeartbeats 4000000
set_option maxRecDepth 100000
/- Own work, printed by a program of mine: the walk of each function: a call returns what the plain function says. -/
namespace Go.Proofs.YtdpmkphjcjacfaaGreatDoor
open Go.Gv Go.Gv.D Go.RowKit
open List (length)
theorem nl {a b : Nat} (h : a ≤ b) : ¬ b < a := Nat.not_lt_of_le h
theorem sj {α : Type _} {a b : α} (h : some a = some b) : a = b := Option.some.inj h
theorem ng {a b : Nat} (h : b < a) : a ≠ b := Nat.ne_of_gt h
theorem ltl {a b c : Nat} (h : a < b) (h' : b ≤ c) : a < c := Nat.lt_of_lt_of_le h h'
theorem ltt {a b c : Nat} (h : a < b) (h' : b < c) : a < c := Nat.lt_trans h h'
section
variable {P : Program} {R : RR} {n : Nat} {k : List It} {σ σ' : List (Nat × Value)} {w : World} {all : Array Oper} {C : World → Prop}
theorem pN (c : Nat) (ds : List Nat) (news : List (Nat × Value)) {l : List (Oper × Mk)} (h : Run P R n (.ops all C (drops c l) :: k) .normal (nw news ds σ) w) (hp : (match stepsP false P n all c l σ with | some σ1 => picks ((nw news ds σ).map (·.1)) σ1 | none => none) = some (nw news ds σ) := by kernel_rfl) : Run P R n (.ops all C l :: k) .normal σ w := gv_pureN c ds news hp h
theorem okp (ss : List Nat) {t : Array Value} (h : Ok σ t) (hp : picks ss σ = some σ' := by kernel_rfl) : Ok σ' t := ok_pick ss h hp
theorem nrf {a : Nat} : a ≤ a := Nat.le_refl a
theorem kr {p : Prop} (h : p := by kernel_rfl) : p := h
end
open List (length)
theorem enters5 : Go.Gv.Enters Tryz.prog 5 := ⟨Tryz.f5, Tryz.func5, by kernel_rfl, by kernel_rfl⟩
theorem enters7 : Go.Gv.Enters Tryz.prog 7 := ⟨Tryz.f7, Tryz.func7, by kernel_rfl, by kernel_rfl⟩
theorem enters8 : Go.Gv.Enters Tryz.prog 8 := ⟨Tryz.f8, Tryz.func8, by kernel_rfl, by kernel_rfl⟩
theorem enters9 : Go.Gv.Enters Tryz.prog 9 := ⟨Tryz.f9, Tryz.func9, by kernel_rfl, by kernel_rfl⟩
theorem enters10 : Go.Gv.Enters Tryz.prog 10 := ⟨Tryz.f10, Tryz.func10, by kernel_rfl, by kernel_rfl⟩
theorem enters11 : Go.Gv.Enters Tryz.prog 11 := ⟨Tryz.f11, Tryz.func11, by kernel_rfl, by kernel_rfl⟩
theorem enters12 : Go.Gv.Enters Tryz.prog 12 := ⟨Tryz.f12, Tryz.func12, by kernel_rfl, by kernel_rfl⟩
theorem enters13 : Go.Gv.Enters Tryz.prog 13 := ⟨Tryz.f13, Tryz.func13, by kernel_rfl, by kernel_rfl⟩
theorem enters14 : Go.Gv.Enters Tryz.prog 14 := ⟨Tryz.f14, Tryz.func14, by kernel_rfl, by kernel_rfl⟩
theorem enters15 : Go.Gv.Enters Tryz.prog 15 := ⟨Tryz.f15, Tryz.func15, by kernel_rfl, by kernel_rfl⟩
theorem enters16 : Go.Gv.Enters Tryz.prog 16 := ⟨Tryz.f16, Tryz.func16, by kernel_rfl, by kernel_rfl⟩
theorem enters17 : Go.Gv.Enters Tryz.prog 17 := ⟨Tryz.f17, Tryz.func17, by kernel_rfl, by kernel_rfl⟩
theorem enters18 : Go.Gv.Enters Tryz.prog 18 := ⟨Tryz.f18, Tryz.func18, by kernel_rfl, by kernel_rfl⟩
theorem enters19 : Go.Gv.Enters Tryz.prog 19 := ⟨Tryz.f19, Tryz.func19, by kernel_rfl, by kernel_rfl⟩
theorem enters20 : Go.Gv.Enters Tryz.prog 20 := ⟨Tryz.f20, Tryz.func20, by kernel_rfl, by kernel_rfl⟩
theorem enters21 : Go.Gv.Enters Tryz.prog 21 := ⟨Tryz.f21, Tryz.func21, by kernel_rfl, by kernel_rfl⟩
theorem enters23 : Go.Gv.Enters Tryz.prog 23 := ⟨Tryz.f23, Tryz.func23, by kernel_rfl, by kernel_rfl⟩
theorem enters24 : Go.Gv.Enters Tryz.prog 24 := ⟨Tryz.f24, Tryz.func24, by kernel_rfl, by kernel_rfl⟩
theorem enters26 : Go.Gv.Enters Tryz.prog 26 := ⟨Tryz.f26, Tryz.func26, by kernel_rfl, by kernel_rfl⟩
theorem enters27 : Go.Gv.Enters Tryz.prog 27 := ⟨Tryz.f27, Tryz.func27, by kernel_rfl, by kernel_rfl⟩
theorem enters28 : Go.Gv.Enters Tryz.prog 28 := ⟨Tryz.f28, Tryz.func28, by kernel_rfl, by kernel_rfl⟩
theorem enters29 : Go.Gv.Enters Tryz.prog 29 := ⟨Tryz.f29, Tryz.func29, by kernel_rfl, by kernel_rfl⟩
theorem enters30 : Go.Gv.Enters Tryz.prog 30 := ⟨Tryz.f30, Tryz.func30, by kernel_rfl, by kernel_rfl⟩
theorem enters31 : Go.Gv.Enters Tryz.prog 31 := ⟨Tryz.f31, Tryz.func31, by kernel_rfl, by kernel_rfl⟩
theorem enters32 : Go.Gv.Enters Tryz.prog 32 := ⟨Tryz.f32, Tryz.func32, by kernel_rfl, by kernel_rfl⟩
theorem enters33 : Go.Gv.Enters Tryz.prog 33 := ⟨Tryz.f33, Tryz.func33, by kernel_rfl, by kernel_rfl⟩
theorem enters34 : Go.Gv.Enters Tryz.prog 34 := ⟨Tryz.f34, Tryz.func34, by kernel_rfl, by kernel_rfl⟩
theorem enters35 : Go.Gv.Enters Tryz.prog 35 := ⟨Tryz.f35, Tryz.func35, by kernel_rfl, by kernel_rfl⟩
theorem enters36 : Go.Gv.Enters Tryz.prog 36 := ⟨Tryz.f36, Tryz.func36, by kernel_rfl, by kernel_rfl⟩
theorem enters37 : Go.Gv.Enters Tryz.prog 37 := ⟨Tryz.f37, Tryz.func37, by kernel_rfl, by kernel_rfl⟩
theorem enters38 : Go.Gv.Enters Tryz.prog 38 := ⟨Tryz.f38, Tryz.func38, by kernel_rfl, by kernel_rfl⟩
theorem enters39 : Go.Gv.Enters Tryz.prog 39 := ⟨Tryz.f39, Tryz.func39, by kernel_rfl, by kernel_rfl⟩
theorem enters40 : Go.Gv.Enters Tryz.prog 40 := ⟨Tryz.f40, Tryz.func40, by kernel_rfl, by kernel_rfl⟩
theorem enters41 : Go.Gv.Enters Tryz.prog 41 := ⟨Tryz.f41, Tryz.func41, by kernel_rfl, by kernel_rfl⟩
theorem enters42 : Go.Gv.Enters Tryz.prog 42 := ⟨Tryz.f42, Tryz.func42, by kernel_rfl, by kernel_rfl⟩
theorem enters43 : Go.Gv.Enters Tryz.prog 43 := ⟨Tryz.f43, Tryz.func43, by kernel_rfl, by kernel_rfl⟩
theorem enters44 : Go.Gv.Enters Tryz.prog 44 := ⟨Tryz.f44, Tryz.func44, by kernel_rfl, by kernel_rfl⟩
theorem enters45 : Go.Gv.Enters Tryz.prog 45 := ⟨Tryz.f45, Tryz.func45, by kernel_rfl, by kernel_rfl⟩
theorem enters46 : Go.Gv.Enters Tryz.prog 46 := ⟨Tryz.f46, Tryz.func46, by kernel_rfl, by kernel_rfl⟩
theorem enters47 : Go.Gv.Enters Tryz.prog 47 := ⟨Tryz.f47, Tryz.func47, by kernel_rfl, by kernel_rfl⟩
theorem enters48 : Go.Gv.Enters Tryz.prog 48 := ⟨Tryz.f48, Tryz.func48, by kernel_rfl, by kernel_rfl⟩
theorem enters50 : Go.Gv.Enters Tryz.prog 50 := ⟨Tryz.f50, Tryz.func50, by kernel_rfl, by kernel_rfl⟩
theorem enters52 : Go.Gv.Enters Tryz.prog 52 := ⟨Tryz.f52, Tryz.func52, by kernel_rfl, by kernel_rfl⟩
theorem enters53 : Go.Gv.Enters Tryz.prog 53 := ⟨Tryz.f53, Tryz.func53, by kernel_rfl, by kernel_rfl⟩
theorem enters54 : Go.Gv.Enters Tryz.prog 54 := ⟨Tryz.f54, Tryz.func54, by kernel_rfl, by kernel_rfl⟩
theorem enters55 : Go.Gv.Enters Tryz.prog 55 := ⟨Tryz.f55, Tryz.func55, by kernel_rfl, by kernel_rfl⟩
theorem enters56 : Go.Gv.Enters Tryz.prog 56 := ⟨Tryz.f56, Tryz.func56, by kernel_rfl, by kernel_rfl⟩
theorem enters57 : Go.Gv.Enters Tryz.prog 57 := ⟨Tryz.f57, Tryz.func57, by kernel_rfl, by kernel_rfl⟩
theorem enters58 : Go.Gv.Enters Tryz.prog 58 := ⟨Tryz.f58, Tryz.func58, by kernel_rfl, by kernel_rfl⟩
theorem enters59 : Go.Gv.Enters Tryz.prog 59 := ⟨Tryz.f59, Tryz.func59, by kernel_rfl, by kernel_rfl⟩
theorem enters60 : Go.Gv.Enters Tryz.prog 60 := ⟨Tryz.f60, Tryz.func60, by kernel_rfl, by kernel_rfl⟩
theorem enters61 : Go.Gv.Enters Tryz.prog 61 := ⟨Tryz.f61, Tryz.func61, by kernel_rfl, by kernel_rfl⟩
theorem enters62 : Go.Gv.Enters Tryz.prog 62 := ⟨Tryz.f62, Tryz.func62, by kernel_rfl, by kernel_rfl⟩
theorem enters63 : Go.Gv.Enters Tryz.prog 63 := ⟨Tryz.f63, Tryz.func63, by kernel_rfl, by kernel_rfl⟩
theorem enters64 : Go.Gv.Enters Tryz.prog 64 := ⟨Tryz.f64, Tryz.func64, by kernel_rfl, by kernel_rfl⟩
theorem enters65 : Go.Gv.Enters Tryz.prog 65 := ⟨Tryz.f65, Tryz.func65, by kernel_rfl, by kernel_rfl⟩
theorem enters66 : Go.Gv.Enters Tryz.prog 66 := ⟨Tryz.f66, Tryz.func66, by kernel_rfl, by kernel_rfl⟩
theorem enters74 : Go.Gv.Enters Tryz.prog 74 := ⟨Tryz.f74, Tryz.func74, by kernel_rfl, by kernel_rfl⟩
theorem enters75 : Go.Gv.Enters Tryz.prog 75 := ⟨Tryz.f75, Tryz.func75, by kernel_rfl, by kernel_rfl⟩
theorem enters76 : Go.Gv.Enters Tryz.prog 76 := ⟨Tryz.f76, Tryz.func76, by kernel_rfl, by kernel_rfl⟩
theorem enters77 : Go.Gv.Enters Tryz.prog 77 := ⟨Tryz.f77, Tryz.func77, by kernel_rfl, by kernel_rfl⟩
theorem enters78 : Go.Gv.Enters Tryz.prog 78 := ⟨Tryz.f78, Tryz.func78, by kernel_rfl, by kernel_rfl⟩
theorem native79 : Go.Gv.Native Tryz.prog 79 Extern.BytealgIndexByte.indexByte := ⟨Tryz.f79, Tryz.func79, by kernel_rfl, by kernel_rfl, by kernel_rfl, by kernel_rfl⟩
theorem info3 : InfoOk Tryz.prog 3 1 := infoOk (z := (.int .i64 0)) (bytes := 8) (by kernel_rfl) (by kernel_rfl) (by kernel_rfl) (by kernel_rfl)
theorem info4 : InfoOk Tryz.prog 4 1 := infoOk (z := (.bool false)) (bytes := 1) (by kernel_rfl) (by kernel_rfl) (by kernel_rfl) (by kernel_rfl)
theorem info5 : InfoOk Tryz.prog 5 1 := infoOk (z := (.int .u8 0)) (bytes := 1) (by kernel_rfl) (by kernel_rfl) (by kernel_rfl) (by kernel_rfl)
theorem info41 : InfoOk Tryz.prog 41 7 := infoOk (z := (.agg #[(.int .i64 0), (.bool false), (.slice none 0 0), (.bool false), (.slice none 0 0), (.string ⟨#[]⟩), (.int .i64 0)])) (bytes := 96) (by kernel_rfl) (by kernel_rfl) (by kernel_rfl) (by kernel_rfl)
theorem info49 : InfoOk Tryz.prog 49 3 := infoOk (z := (.agg #[(.int .u8 0), (.int .i64 0), (.bool false)])) (bytes := 24) (by kernel_rfl) (by kernel_rfl) (by kernel_rfl) (by kernel_rfl)
theorem eqs26neq (a0 : Int) (a1 : Int) (b0 : Int) (b1 : Int) (x y : Operand) (w : World) : (do eqGuard .neq 26 x y (.agg #[.int .i64 a0, .int .i64 a1]) (.agg #[.int .i64 b0, .int .i64 b1]); binOp .neq 26 (.agg #[.int .i64 a0, .int .i64 a1]) (.agg #[.int .i64 b0, .int .i64 b1]) : Sem Value).run Tryz.prog w = .ok (.bool (!((a0 == b0) && (a1 == b1)))) w := by
  have h1 : Tryz.prog.eqGuardType Tryz.prog.depth 26 = false := by kernel_rfl
  have h2 : Tryz.prog.stoodInHeld 26 = false := by kernel_rfl
  have h3 : Tryz.prog.underlying 26 = some (.struct (Tryz.prog.fieldsOf 26)) := by kernel_rfl
  have h4 := Tryz.underlying26
  rw [Sem.run_bind, run_eqGuard_agg w .neq 26 x y _ _ h1, Result.andThen_ok, run_neq_struct, run_equalIn_struct w 9999 26 _ _ h3 h2]
  by_cases g0 : a0 = b0 <;> by_cases g1 : a1 = b1 <;> simp [Program.fieldsOf, h4, Op.eqFields, part, isAgg, run_underlying Tryz.underlying3, run_equalIn_int _ _ _ _ _ _ _ Tryz.underlying3, g0, g1]

theorem packing_at_ok (fuel : Nat) (code_0 : Int) (index_1 : Int) (w0 : World)  (r0 : (Int × Int)) (h0 : packing_at fuel code_0 index_1 = some r0) :
    Calls Tryz.prog 16 ([(.int .i64 code_0), (.int .i64 index_1)] : List Value).toArray w0 (Ret fun v w' => w0.grownBy w' none ∧ v = tup [(.agg #[(.int .i64 r0.1), (.int .i64 r0.2)])]) := by
 have hB0 : Below w0.heap.size w0 w0 := Below.refl _ _
 unfold packing_at at h0
 refine calls_run Tryz.func16 rfl Tryz.ntmps16 kr ?_
 refine gv_sub [0, 1] (σ' := [(0, (.int .i64 code_0)), (1, (.int .i64 index_1))]) kr ?_
 refine gv_seq <| gv_region <| gv_new0 (fun b => .pointer (some ⟨b, 0, none⟩)) #[(.int .i64 0), (.int .i64 0)] 26 kr kr ?_
 intro b1 w2 hg3 hb4 hbe5 hz6
 refine gv_nil <| gv_seq <| gv_region <| pN 3 [5, 6, 7] [(7, (.agg #[(.int .i64 code_0), (.int .i64 index_1)]))] ?_
 refine gv_store0 26 0 (.agg #[(.int .i64 code_0), (.int .i64 index_1)]) #[(.int .i64 code_0), (.int .i64 index_1)] hb4 kr kr kr ?_
 intro w7 hg8 hb9 hz10
 refine gv_nil <| gv_cret ?_
 have e := sj h0; subst e
 refine gv_ret (gv_done [(.agg #[(.int .i64 code_0), (.int .i64 index_1)])] rfl ⟨⟨⟨b1, 0, none⟩, kr, run_loadVar_row w7 b1 _ 26 _ _ _ hb9 Tryz.underlying26 rfl kr⟩, trivial⟩ ?_)
 have hB11 := bg hB0 hg3 nb
 have hlo12 : w0.heap.size ≤ b1 := lob hbe5 hB0.size
 have hB13 := bg hB11 hg8 (rowlo hlo12)
 exact ⟨grown_of_below hB13, rfl⟩

theorem stringslite_IndexByte_ok (fuel : Nat) (s_0 : ByteArray) (c_1 : Int) (w0 : World)  (r0 : Int) (h0 : stringslite_IndexByte fuel s_0 c_1 = some r0) :
    Calls Tryz.prog 64 ([(.string s_0), (.int .u8 c_1)] : List Value).toArray w0 (Ret fun v w' => w0.grownBy w' none ∧ v = tup [(.int .i64 r0)]) := by
 have hB0 : Below w0.heap.size w0 w0 := Below.refl _ _
 unfold stringslite_IndexByte at h0
 refine calls_run Tryz.func64 rfl Tryz.ntmps64 kr ?_
 refine gv_sub [0, 1] (σ' := [(0, (.string s_0)), (1, (.int .u8 c_1))]) kr ?_
 refine gv_seq <| gv_region <| pN 1 [4] [] ?_
 refine gv_nil <| gv_seq <| gv_region <| pN 2 [5, 6] [(5, (.string s_0)), (6, (.int .u8 c_1))] ?_
 refine gv_nat (f := 79) (vs := [(.string s_0), (.int .u8 c_1)]) (.int .i64 (nIdxB (bytesOf s_0) c_1)) [] (fun e => by cases e) rfl rfl rfl kr rfl kr kr native79 (fun w' _ => nat_idxS _ _ w') rfl ?_
 refine pN 1 [4] [(4, (.int .i64 (nIdxB (bytesOf s_0) c_1)))] ?_
 refine gv_nil <| gv_cret ?_
 have e := sj h0; subst e
 refine gv_ret (gv_done [(.int .i64 (nIdxB (bytesOf s_0) c_1))] rfl ⟨kr, trivial⟩ ?_)
 exact ⟨grown_of_below hB0, rfl⟩

theorem strings_IndexByte_ok (fuel : Nat) (s_0 : ByteArray) (c_1 : Int) (w0 : World)  (r0 : Int) (h0 : strings_IndexByte fuel s_0 c_1 = some r0) :
    Calls Tryz.prog 38 ([(.string s_0), (.int .u8 c_1)] : List Value).toArray w0 (Ret fun v w' => w0.grownBy w' none ∧ v = tup [(.int .i64 r0)]) := by
 have hB0 : Below w0.heap.size w0 w0 := Below.refl _ _
 unfold strings_IndexByte at h0
 refine calls_run Tryz.func38 rfl Tryz.ntmps38 kr ?_
 refine gv_sub [0, 1] (σ' := [(0, (.string s_0)), (1, (.int .u8 c_1))]) kr ?_
 refine gv_seq <| gv_region <| pN 1 [4] [] ?_
 refine gv_nil <| gv_seq <| gv_region <| pN 2 [5, 6] [(5, (.string s_0)), (6, (.int .u8 c_1))] ?_
 refine bindE h0 ?_; clear h0; intro r1 hr2 h0
 refine gv_call0 kr rfl kr enters64 (stringslite_IndexByte_ok fuel s_0 c_1 w0  r1 hr2) ?_
 rintro v5 w3 ⟨hg4, rfl⟩
 refine pN 1 [4] [(4, (.int .i64 r1))] ?_
 refine gv_nil <| gv_cret ?_
 have e := sj h0; subst e
 refine gv_ret (gv_done [(.int .i64 r1)] rfl ⟨kr, trivial⟩ ?_)
 have hB6 := bg hB0 hg4 nb
 exact ⟨grown_of_below hB6, rfl⟩

theorem packing_counted_ok (fuel : Nat) (code_0 : Int) (w0 : World)  (r0 : Bool) (h0 : packing_counted fuel code_0 = some r0) :
    Calls Tryz.prog 39 ([(.int .u8 code_0)] : List Value).toArray w0 (Ret fun v w' => w0.grownBy w' none ∧ v = tup [(.bool r0)]) := by
 have hB0 : Below w0.heap.size w0 w0 := Below.refl _ _
 unfold packing_counted at h0
 refine calls_run Tryz.func39 rfl Tryz.ntmps39 kr ?_
 refine gv_sub [0] (σ' := [(0, (.int .u8 code_0))]) kr ?_
 refine gv_seq <| gv_region <| pN 1 [2] [] ?_
 refine gv_nil <| gv_seq <| gv_region <| gv_cut_ops (J := fun a w1 => w0 = w1 ∧ a.defers = [] ∧ a.tmps.size = 9 ∧ Ok [(2, (.bool ((code_0 == 115) || (code_0 == 120))))] a.tmps) ?_ ?_
 ·skip
  refine pN 3 [3, 4, 5] [(5, (.bool (code_0 == 115)))] ?_
  refine gv_split (s := 5) (g := (code_0 == 115)) kr (fun hc2 => ?_) (fun hc2 => ?_)
  ·skip
   refine pN 4 [2, 6, 7, 8] [(2, (.bool true))] ?_
   refine gv_nil <| gv_sub [2] (σ' := [(2, (.bool true))]) kr ?_
   refine gv_goal fun a hd hs hok => ⟨rfl, hd, hs, ?_⟩
   obtain ⟨q2, _⟩ := hok
   exact ⟨(by rw [hc2]; exact q2), trivial⟩
  ·skip
   refine pN 4 [2, 6, 7, 8] [(2, (.bool (code_0 == 120)))] ?_
   refine gv_nil <| gv_sub [2] (σ' := [(2, (.bool (code_0 == 120)))]) kr ?_
   refine gv_goal fun a hd hs hok => ⟨rfl, hd, hs, ?_⟩
   obtain ⟨q2, _⟩ := hok
   exact ⟨(by rw [hc2]; exact q2), trivial⟩
 ·rintro a w1 ⟨e, hd, hs, hok⟩; subst e
  refine gv_in ?_ hd hs hok
  clear hd hs hok
  refine gv_cret ?_
  have e := sj h0; subst e
  refine gv_ret (gv_done [(.bool ((code_0 == 115) || (code_0 == 120)))] rfl ⟨kr, trivial⟩ ?_)
  exact ⟨grown_of_below hB0, rfl⟩

theorem packing_Check_ok (fuel : Nat) (pa0_0 : Option Addr) (pc0_0 : Nat) (l_0 : (List (Int × Int × Bool))) (w0 : World) (X0 : Nat → Prop) (hX0 : ∀ k, X0 k → k < w0.heap.size) (hpa0_0 : Rd (prE (iE .u8) (prE (iE .i64) tE)) w0 X0 pa0_0 pc0_0 l_0) (r0 : (Int × Int)) (h0 : packing_Check fuel l_0 = some r0) :
    Calls Tryz.prog 14 ([(.slice pa0_0 (length l_0) pc0_0)] : List Value).toArray w0 (Ret fun v w' => w0.grownBy w' none ∧ v = tup [(.agg #[(.int .i64 r0.1), (.int .i64 r0.2)])]) := by
 have hB0 : Below w0.heap.size w0 w0 := Below.refl _ _
 unfold packing_Check at h0
 refine calls_run Tryz.func14 rfl Tryz.ntmps14 kr ?_
 refine gv_sub [0] (σ' := [(0, (.slice pa0_0 (length l_0) pc0_0))]) kr ?_
 refine gv_seq <| gv_region <| gv_new0 (fun b => .pointer (some ⟨b, 0, none⟩)) #[(.int .i64 0), (.int .i64 0)] 26 kr kr ?_
 intro b1 w2 hg3 hb4 hbe5 hz6
 refine gv_nil <| gv_seq <| gv_seq <| gv_region <| pN 3 [5, 6, 7] [(7, (.bool (decide (((length l_0 : Nat) : Int) > 100))))] ?_
 refine gv_nil <| gv_cond (b := (decide (((length l_0 : Nat) : Int) > 100))) kr (fun hc7 => ?_) (fun hc7 => ?_)
 ·replace h0 := ite_t hc7 h0
  refine gv_seq <| gv_region <| bindE h0 ?_; clear h0; intro r8 hr9 h0
  refine gv_call0 kr rfl kr enters16 (packing_at_ok fuel 2 (-1) w2  r8 hr9) ?_
  rintro v12 w10 ⟨hg11, rfl⟩
  have hk17 := hb4.grown hg11 nb
  refine gv_store0 26 0 (.agg #[(.int .i64 r8.1), (.int .i64 r8.2)]) #[(.int .i64 r8.1), (.int .i64 r8.2)] hk17 kr kr kr ?_
  intro w13 hg14 hb15 hz16
  refine gv_nil <| gv_cret ?_
  have e := sj h0; subst e
  refine gv_ret (gv_done [(.agg #[(.int .i64 r8.1), (.int .i64 r8.2)])] rfl ⟨⟨⟨b1, 0, none⟩, kr, run_loadVar_row w13 b1 _ 26 _ _ _ hb15 Tryz.underlying26 rfl kr⟩, trivial⟩ ?_)
  have hg18 := (grown_trans hg3 hg11)
  have hB19 := bg hB0 hg18 nb
  have hlo20 : w0.heap.size ≤ b1 := lob hbe5 hB0.size
  have hB21 := bg hB19 hg14 (rowlo hlo20)
  exact ⟨grown_of_below hB21, rfl⟩
 ·replace h0 := ite_f hc7 h0
  refine gv_skip <| gv_seq <| gv_seq <| gv_region <| pN 3 [9, 10, 11] [(9, (.slice pa0_0 (length l_0) pc0_0)), (10, (.int .i64 ((length l_0 : Nat) : Int))), (11, (.int .i64 0))] ?_
  refine gv_nil <| bindE h0 ?_; clear h0; intro j22 h1 h0
  refine gv_cut_code (J := fun a w24 => ∃ s23 : (Int × Int), j22 = .inl s23 ∧ Below w0.heap.size w0 w24 ∧ w2.heap.size ≤ w24.heap.size ∧ Box w24 b1 26 #[(.int .i64 s23.1), (.int .i64 s23.2)] ∧ a.defers = [] ∧ a.tmps.size = 65 ∧ Ok [(2, (bp b1))] a.tmps) ?_ ?_
  ·skip
   refine gv_block <| gv_loop (A := fun (s25 : (Int × (Int × Int))) a w26 => Below w0.heap.size w0 w26 ∧ w2.heap.size ≤ w26.heap.size ∧ Box w26 b1 26 #[(.int .i64 s25.2.1), (.int .i64 s25.2.2)] ∧ a.defers = [] ∧ a.tmps.size = 65 ∧ Ok [(0, (.slice pa0_0 (length l_0) pc0_0)), (2, (bp b1)), (9, (.slice pa0_0 (length l_0) pc0_0)), (10, (.int .i64 ((length l_0 : Nat) : Int))), (11, (.int .i64 s25.1))] a.tmps) h1 ?_ ?_
   ·intro a hd hs hok
    have hB27 := bg hB0 hg3 nb
    exact ⟨hB27, nrf, hb4, hd, hs, okp [0, 2, 9, 10, 11] hok⟩
   ·rintro s25 r2 h2 hR2 a w26 ⟨hB28, hz29, hb30, hd, hs, hok⟩
    refine gv_in ?_ hd hs hok
    clear hd hs hok
    clear hc7 hz6 hb4 hg3
    refine gv_seq <| gv_region <| pN 1 [12] [(12, (.bool (decide (s25.1 < ((length l_0 : Nat) : Int)))))] ?_
    refine gv_nil <| gv_seq <| gv_cond (b := (decide (s25.1 < ((length l_0 : Nat) : Int)))) kr (fun hc31 => ?_) (fun hc31 => ?_)
    ·replace h2 := ite_t hc31 h2
     refine gv_skip <| gv_seq <| gv_block <| gv_seq <| gv_region <| pN 1 [13] [(13, (.int .i64 s25.1))] ?_
     refine bindE h2 ?_; clear h2; intro x32 hx33 h2
     refine gv_idxaddr (t := 22) (e := 49) (a := pa0_0) (len := length l_0) (cap := pc0_0) (kk := .i64) (i := s25.1) (sz := 3) [] (fun e => by cases e) rfl rfl rfl kr kr Tryz.underlying22 kr ((hpa0_0.below hB28 hX0).has hx33) (idx_spec hx33).1 (idx_spec hx33).2.1 rfl ?_
     obtain ⟨_, ⟨_, _, rfl, rfl, ⟨_, _, rfl, rfl, rfl⟩⟩, hc34⟩ := hpa0_0.cellsK hx33
     refine gv_loadAgg (t := 49) (A := (elemAddr pa0_0 ((s25.1 : Int).toNat * 3))) #[(.int .u8 x32.1), (.int .i64 x32.2.1), (.bool x32.2.2)] [] (fun e => by cases e) rfl rfl rfl kr kr kr kr (inw0 (hc34 w26 (fun k hk => hB28.block k (hX0 k hk)))) rfl ?_
     refine gv_new0 (fun b => .pointer (some ⟨b, 0, none⟩)) #[(.int .u8 0), (.int .i64 0), (.bool false)] 49 kr kr ?_
     intro b35 w36 hg37 hb38 hbe39 hz40
     refine pN 1 [3] [(3, (.int .i64 s25.1))] ?_
     refine gv_store0 49 0 (.agg #[(.int .u8 x32.1), (.int .i64 x32.2.1), (.bool x32.2.2)]) #[(.int .u8 x32.1), (.int .i64 x32.2.1), (.bool x32.2.2)] hb38 kr kr kr ?_
     intro w41 hg42 hb43 hz44
     refine gv_nil <| gv_block <| gv_seq <| gv_region <| bindE h2 ?_; clear h2; intro j45 h3 h2
     refine gv_cut_ops (J := fun a w46 => Below w0.heap.size w0 w46 ∧ w41.heap.size ≤ w46.heap.size ∧ Box w46 b1 26 #[(.int .i64 s25.2.1), (.int .i64 s25.2.2)] ∧ Box w46 b35 49 #[(.int .u8 x32.1), (.int .i64 x32.2.1), (.bool x32.2.2)] ∧ a.defers = [] ∧ a.tmps.size = 65 ∧ Ok [(0, (.slice pa0_0 (length l_0) pc0_0)), (2, (bp b1)), (3, (.int .i64 s25.1)), (4, (bp b35)), (9, (.slice pa0_0 (length l_0) pc0_0)), (10, (.int .i64 ((length l_0 : Nat) : Int))), (11, (.int .i64 s25.1)), (16, (.bool j45))] a.tmps) ?_ ?_
     ·skip
      refine pN 1 [17] [(17, (bp b35))] ?_
      refine gv_load (t := 5) (A := ⟨b35, 0, none⟩) (.int .u8 x32.1) [] (fun e => by cases e) rfl rfl rfl kr kr kr (inw0 (hb43.cell 0 rfl)) rfl ?_
      refine pN 2 [19, 20] [(20, (.bool (x32.1 == 0)))] ?_
      refine gv_split (s := 20) (g := (x32.1 == 0)) kr (fun hc47 => ?_) (fun hc47 => ?_)
      ·skip
       replace h3 := ite_t hc47 h3
       refine pN 6 [16, 21, 22, 23, 24, 25] [(16, (.bool true))] ?_
       refine gv_nil ?_
       have e := sj h3; subst e
       refine gv_goal fun a hd hs hok => ?_
       have hB48 := bg hB28 hg37 nb
       have hlo49 : w0.heap.size ≤ b35 := lob hbe39 hB28.size
       have hB50 := bg hB48 hg42 (rowlo hlo49)
       have lt51 := ltl ((ltb hb30) _ rfl) ((lowb hbe39) _ rfl)
       have hk52 := (hb30.grown hg37 nb).grown hg42 (rowne (ng lt51))
       exact ⟨hB50, nrf, hk52, hb43, hd, hs, okp [0, 2, 3, 4, 9, 10, 11, 16] hok⟩
      ·skip
       replace h3 := ite_f hc47 h3
       refine pN 1 [21] [(21, (bp b35))] ?_
       refine gv_load (t := 5) (A := ⟨b35, 0, none⟩) (.int .u8 x32.1) [] (fun e => by cases e) rfl rfl rfl kr kr kr (inw0 (hb43.cell 0 rfl)) rfl ?_
       refine bindE h3 ?_; clear h3; intro r53 hr54 h3
       refine gv_call0 kr rfl kr enters38 (strings_IndexByte_ok fuel (strOf [98, 66, 104, 72, 105, 73, 113, 81, 118, 115, 112, 120, 63]) x32.1 w41  r53 hr54) ?_
       rintro v57 w55 ⟨hg56, rfl⟩
       refine pN 3 [16, 24, 25] [(16, (.bool (decide (r53 < 0))))] ?_
       refine gv_sub [0, 2, 3, 4, 9, 10, 11, 16] (σ' := [(0, (.slice pa0_0 (length l_0) pc0_0)), (2, (bp b1)), (3, (.int .i64 s25.1)), (4, (bp b35)), (9, (.slice pa0_0 (length l_0) pc0_0)), (10, (.int .i64 ((length l_0 : Nat) : Int))), (11, (.int .i64 s25.1)), (16, (.bool (decide (r53 < 0))))]) kr ?_
       refine gv_nil ?_
       have e := sj h3; subst e
       refine gv_goal fun a hd hs hok => ?_
       have hB58 := bg hB28 hg37 nb
       have hlo59 : w0.heap.size ≤ b35 := lob hbe39 hB28.size
       have hB60 := bg hB58 hg42 (rowlo hlo59)
       have hB61 := bg hB60 hg56 nb
       have hz62 := hg56.size
       have lt63 := ltl ((ltb hb30) _ rfl) ((lowb hbe39) _ rfl)
       have hk64 := ((hb30.grown hg37 nb).grown hg42 (rowne (ng lt63))).grown hg56 nb
       have hk65 := hb43.grown hg56 nb
       exact ⟨hB61, hz62, hk64, hk65, hd, hs, okp [0, 2, 3, 4, 9, 10, 11, 16] hok⟩
     ·rintro a w46 ⟨hB66, hz67, hb68, hb69, hd, hs, hok⟩
      refine gv_in ?_ hd hs hok
      clear hd hs hok
      have hz70 := (nt (nt (nt hz29 hg37.size) hg42.size) hz67)
      clear hz67 hz44 hb43 hg42 hz40 hb38 hg37 hc34 hx33 hc31 hz29
      refine gv_cond (b := j45) kr (fun hc71 => ?_) (fun hc71 => ?_)
      ·replace h2 := ite_t hc71 h2
       refine gv_seq <| gv_region <| pN 1 [26] [(26, (.int .i64 s25.1))] ?_
       refine bindE h2 ?_; clear h2; intro r72 hr73 h2
       refine gv_call0 kr rfl kr enters16 (packing_at_ok fuel 5 s25.1 w46  r72 hr73) ?_
       rintro v76 w74 ⟨hg75, rfl⟩
       have hk81 := hb68.grown hg75 nb
       refine gv_store0 26 0 (.agg #[(.int .i64 r72.1), (.int .i64 r72.2)]) #[(.int .i64 r72.1), (.int .i64 r72.2)] hk81 kr kr kr ?_
       intro w77 hg78 hb79 hz80
       have hz82 := (nt (nt hz70 hg75.size) hg78.size)
       clear hz80 hk81 hr73 hc71 hz70 hb69 hb68 hbe39 hb30 hB28
       refine gv_nil <| gv_cret ?_
       have e := sj h2; subst e
       replace h1 := congrArg some (hR2 _ rfl)
       have e := sj h1; subst e
       replace h0 := cont_inr h0
       have e := sj h0; subst e
       refine gv_ret (gv_done [(.agg #[(.int .i64 r72.1), (.int .i64 r72.2)])] rfl ⟨⟨⟨b1, 0, none⟩, kr, run_loadVar_row w77 b1 _ 26 _ _ _ hb79 Tryz.underlying26 rfl kr⟩, trivial⟩ ?_)
       have hB83 := bg hB66 hg75 nb
       have hlo84 : w0.heap.size ≤ b1 := lob hbe5 hB0.size
       have hB85 := bg hB83 hg78 (rowlo hlo84)
       exact ⟨grown_of_below hB85, rfl⟩
      ·replace h2 := ite_f hc71 h2
       refine gv_seq <| gv_seq <| gv_region <| bindE h2 ?_; clear h2; intro j86 h3 h2
       refine gv_cut_ops (J := fun a w87 => Below w0.heap.size w0 w87 ∧ w46.heap.size ≤ w87.heap.size ∧ Box w87 b1 26 #[(.int .i64 s25.2.1), (.int .i64 s25.2.2)] ∧ Box w87 b35 49 #[(.int .u8 x32.1), (.int .i64 x32.2.1), (.bool x32.2.2)] ∧ a.defers = [] ∧ a.tmps.size = 65 ∧ Ok [(0, (.slice pa0_0 (length l_0) pc0_0)), (2, (bp b1)), (3, (.int .i64 s25.1)), (4, (bp b35)), (9, (.slice pa0_0 (length l_0) pc0_0)), (10, (.int .i64 ((length l_0 : Nat) : Int))), (11, (.int .i64 s25.1)), (28, (.bool j86))] a.tmps) ?_ ?_
       ·skip
        refine pN 1 [29] [(29, (bp b35))] ?_
        refine gv_load (t := 5) (A := ⟨b35, 0, none⟩) (.int .u8 x32.1) [] (fun e => by cases e) rfl rfl rfl kr kr kr (inw0 (hb69.cell 0 rfl)) rfl ?_
        refine bindE h3 ?_; clear h3; intro r88 hr89 h3
        refine gv_call0 kr rfl kr enters39 (packing_counted_ok fuel x32.1 w46  r88 hr89) ?_
        rintro v92 w90 ⟨hg91, rfl⟩
        refine pN 1 [32] [(32, (.bool r88))] ?_
        refine gv_split (s := 32) (g := r88) kr (fun hc93 => ?_) (fun hc93 => ?_)
        ·skip
         replace h3 := ite_t hc93 h3
         refine pN 1 [33] [(33, (.pointer (some ⟨b35, 1, none⟩)))] ?_
         have hk94 := hb69.grown hg91 nb
         refine gv_load (t := 3) (A := ⟨b35, 1, none⟩) (.int .i64 x32.2.1) [] (fun e => by cases e) rfl rfl rfl kr kr kr (inw0 (hk94.cell 1 rfl)) rfl ?_
         refine pN 2 [35, 36] [(36, (.bool (decide (x32.2.1 < 0))))] ?_
         refine gv_split (s := 36) (g := (decide (x32.2.1 < 0))) kr (fun hc95 => ?_) (fun hc95 => ?_)
         ·skip
          replace h3 := ite_t hc95 h3
          refine pN 6 [28, 37, 38, 39, 40, 41] [(28, (.bool true))] ?_
          refine gv_nil ?_
          have e := sj h3; subst e
          refine gv_goal fun a hd hs hok => ?_
          have hB96 := bg hB66 hg91 nb
          have hz97 := hg91.size
          have hk98 := hb68.grown hg91 nb
          exact ⟨hB96, hz97, hk98, hk94, hd, hs, okp [0, 2, 3, 4, 9, 10, 11, 28] hok⟩
         ·skip
          replace h3 := ite_f hc95 h3
          refine pN 1 [37] [(37, (.pointer (some ⟨b35, 1, none⟩)))] ?_
          refine gv_load (t := 3) (A := ⟨b35, 1, none⟩) (.int .i64 x32.2.1) [] (fun e => by cases e) rfl rfl rfl kr kr kr (inw0 (hk94.cell 1 rfl)) rfl ?_
          refine pN 4 [28, 39, 40, 41] [(28, (.bool (decide (x32.2.1 > 100))))] ?_
          refine gv_nil ?_
          have e := sj h3; subst e
          refine gv_goal fun a hd hs hok => ?_
          have hB99 := bg hB66 hg91 nb
          have hz100 := hg91.size
          have hk101 := hb68.grown hg91 nb
          exact ⟨hB99, hz100, hk101, hk94, hd, hs, okp [0, 2, 3, 4, 9, 10, 11, 28] hok⟩
        ·skip
         replace h3 := ite_f hc93 h3
         refine pN 10 [28, 33, 34, 35, 36, 37, 38, 39, 40, 41] [(28, (.bool false))] ?_
         refine gv_nil ?_
         have e := sj h3; subst e
         refine gv_goal fun a hd hs hok => ?_
         have hB102 := bg hB66 hg91 nb
         have hz103 := hg91.size
         have hk104 := hb68.grown hg91 nb
         have hk105 := hb69.grown hg91 nb
         exact ⟨hB102, hz103, hk104, hk105, hd, hs, okp [0, 2, 3, 4, 9, 10, 11, 28] hok⟩
       ·rintro a w87 ⟨hB106, hz107, hb108, hb109, hd, hs, hok⟩
        refine gv_in ?_ hd hs hok
        clear hd hs hok
        have hz110 := (nt hz70 hz107)
        clear hz107 hc71 hz70 hb69 hb68 hB66
        refine bindE h2 ?_; clear h2; intro j111 h3 h2
        refine gv_cut_code (J := fun a w112 => Below w0.heap.size w0 w112 ∧ w87.heap.size ≤ w112.heap.size ∧ Box w112 b1 26 #[(.int .i64 s25.2.1), (.int .i64 s25.2.2)] ∧ Box w112 b35 49 #[(.int .u8 x32.1), (.int .i64 x32.2.1), (.bool x32.2.2)] ∧ a.defers = [] ∧ a.tmps.size = 65 ∧ Ok [(0, (.slice pa0_0 (length l_0) pc0_0)), (2, (bp b1)), (3, (.int .i64 s25.1)), (4, (bp b35)), (9, (.slice pa0_0 (length l_0) pc0_0)), (10, (.int .i64 ((length l_0 : Nat) : Int))), (11, (.int .i64 s25.1)), (28, (.bool j111))] a.tmps) ?_ ?_
        ·skip
         refine gv_cond (b := j86) kr (fun hc113 => ?_) (fun hc113 => ?_)
         ·replace h3 := ite_t hc113 h3
          refine gv_skip ?_
          have e := sj h3; subst e
          refine gv_goal fun a hd hs hok => ?_
          exact ⟨hB106, nrf, hb108, hb109, hd, hs, okp [0, 2, 3, 4, 9, 10, 11, 28] hok⟩
         ·replace h3 := ite_f hc113 h3
          refine gv_region <| pN 1 [42] [(42, (bp b35))] ?_
          refine gv_load (t := 5) (A := ⟨b35, 0, none⟩) (.int .u8 x32.1) [] (fun e => by cases e) rfl rfl rfl kr kr kr (inw0 (hb109.cell 0 rfl)) rfl ?_
          refine bindE h3 ?_; clear h3; intro r114 hr115 h3
          refine gv_call0 kr rfl kr enters39 (packing_counted_ok fuel x32.1 w87  r114 hr115) ?_
          rintro v118 w116 ⟨hg117, rfl⟩
          refine pN 2 [45, 46] [(46, (.bool (!r114)))] ?_
          refine gv_split (s := 46) (g := (!r114)) kr (fun hc119 => ?_) (fun hc119 => ?_)
          ·skip
           replace h3 := ite_t hc119 h3
           refine pN 1 [47] [(47, (.pointer (some ⟨b35, 1, none⟩)))] ?_
           have hk120 := hb109.grown hg117 nb
           refine gv_load (t := 3) (A := ⟨b35, 1, none⟩) (.int .i64 x32.2.1) [] (fun e => by cases e) rfl rfl rfl kr kr kr (inw0 (hk120.cell 1 rfl)) rfl ?_
           refine pN 3 [28, 49, 50] [(28, (.bool (x32.2.1 != 1)))] ?_
           refine gv_nil ?_
           have e := sj h3; subst e
           refine gv_goal fun a hd hs hok => ?_
           have hB121 := bg hB106 hg117 nb
           have hz122 := hg117.size
           have hk123 := hb108.grown hg117 nb
           exact ⟨hB121, hz122, hk123, hk120, hd, hs, okp [0, 2, 3, 4, 9, 10, 11, 28] hok⟩
          ·skip
           replace h3 := ite_f hc119 h3
           refine pN 5 [28, 47, 48, 49, 50] [(28, (.bool false))] ?_
           refine gv_nil ?_
           have e := sj h3; subst e
           refine gv_goal fun a hd hs hok => ?_
           have hB124 := bg hB106 hg117 nb
           have hz125 := hg117.size
           have hk126 := hb108.grown hg117 nb
           have hk127 := hb109.grown hg117 nb
           exact ⟨hB124, hz125, hk126, hk127, hd, hs, okp [0, 2, 3, 4, 9, 10, 11, 28] hok⟩
        ·rintro a w112 ⟨hB128, hz129, hb130, hb131, hd, hs, hok⟩
         refine gv_in ?_ hd hs hok
         clear hd hs hok
         have hz132 := (nt hz110 hz129)
         clear hz129 hz110 hb109 hb108 hB106
         refine gv_cond (b := j111) kr (fun hc133 => ?_) (fun hc133 => ?_)
         ·replace h2 := ite_t hc133 h2
          refine gv_seq <| gv_region <| pN 1 [51] [(51, (.int .i64 s25.1))] ?_
          refine bindE h2 ?_; clear h2; intro r134 hr135 h2
          refine gv_call0 kr rfl kr enters16 (packing_at_ok fuel 4 s25.1 w112  r134 hr135) ?_
          rintro v138 w136 ⟨hg137, rfl⟩
          have hk143 := hb130.grown hg137 nb
          refine gv_store0 26 0 (.agg #[(.int .i64 r134.1), (.int .i64 r134.2)]) #[(.int .i64 r134.1), (.int .i64 r134.2)] hk143 kr kr kr ?_
          intro w139 hg140 hb141 hz142
          refine gv_nil <| gv_cret ?_
          have e := sj h2; subst e
          replace h1 := congrArg some (hR2 _ rfl)
          have e := sj h1; subst e
          replace h0 := cont_inr h0
          have e := sj h0; subst e
          refine gv_ret (gv_done [(.agg #[(.int .i64 r134.1), (.int .i64 r134.2)])] rfl ⟨⟨⟨b1, 0, none⟩, kr, run_loadVar_row w139 b1 _ 26 _ _ _ hb141 Tryz.underlying26 rfl kr⟩, trivial⟩ ?_)
          have hB144 := bg hB128 hg137 nb
          have hlo145 : w0.heap.size ≤ b1 := lob hbe5 hB0.size
          have hB146 := bg hB144 hg140 (rowlo hlo145)
          exact ⟨grown_of_below hB146, rfl⟩
         ·replace h2 := ite_f hc133 h2
          refine gv_seq <| gv_drawA kr ?_
          intro w147 hg148
          refine gv_pre [0, 2, 3, 4] (bA 8 [0, 2, 3, 4]) 4 kr kr ?_
          refine pN 2 [54, 56] [(54, (.pointer (some ⟨b35, 2, none⟩))), (56, (.slice pa0_0 (length l_0) pc0_0))] ?_
          refine bindE h2 ?_; clear h2; intro x149 hx150 h2
          have hB151 := bg hB128 hg148 nb
          refine gv_idxaddr (t := 22) (e := 49) (a := pa0_0) (len := length l_0) (cap := pc0_0) (kk := .i64) (i := 0) (sz := 3) [] (fun e => by cases e) rfl rfl rfl kr kr Tryz.underlying22 kr ((hpa0_0.below hB151 hX0).has hx150) (idx_spec hx150).1 (idx_spec hx150).2.1 rfl ?_
          refine pN 1 [58] [(58, (.pointer (some (Addr.add (elemAddr pa0_0 ((0 : Int).toNat * 3)) 2))))] ?_
          refine gv_nil <| gv_goA ?_
          refine gv_stage (Cls w147 []) [1, 5] [(1, some true), (5, some true)] (bA 8 [0, 1, 2, 3, 4, 5]) 2 kr kr (Cls.refl _ _) ?_
          have hC152 := Cls.refl w147 []
          have hk153 := hb131.grown hg148 nb
          refine gv_load (t := 4) (A := ⟨b35, 2, none⟩) (.bool x32.2.2) [] (fun e => by cases e) rfl rfl rfl kr kr kr (inw1 fun w' hC' => ((hC'.box hk153 nm_nil).cell 2 rfl)) rfl ?_
          obtain ⟨_, ⟨_, _, rfl, rfl, ⟨_, _, rfl, rfl, rfl⟩⟩, hc154⟩ := hpa0_0.cellsK hx150
          refine gv_load (t := 4) (A := (Addr.add (elemAddr pa0_0 ((0 : Int).toNat * 3)) 2)) (.bool x149.2.2) [] (fun e => by cases e) rfl rfl rfl kr kr kr (inw1 fun w' hC' => ((hc154 w' (fun k hk => (hC'.2 k ((fun k (hk : X0 k) => ltl (hX0 k hk) hB151.size) k hk) (fun hg => nmx_nil k hg hk)).trans (hB151.block k (hX0 k hk)))) 2 _ rfl)) rfl ?_
          refine gv_nil <| gv_goA ?_
          refine gv_pre [6, 7] (bA 8 [0, 1, 2, 3, 4, 5, 6, 7]) 0 kr kr ?_
          refine pN 2 [53, 60] [(53, (.bool (!(x32.2.2 == x149.2.2))))] ?_
          refine gv_nil <| gv_goA ?_
          refine gv_stageE kr ?_
          refine gv_cond (b := (!(x32.2.2 == x149.2.2))) kr (fun hc155 => ?_) (fun hc155 => ?_)
          ·replace h2 := ite_t hc155 h2
           refine gv_seq <| gv_region <| pN 1 [61] [(61, (.int .i64 s25.1))] ?_
           refine bindE h2 ?_; clear h2; intro r156 hr157 h2
           refine gv_call0 kr rfl kr enters16 (packing_at_ok fuel 19 s25.1 w147  r156 hr157) ?_
           rintro v160 w158 ⟨hg159, rfl⟩
           have hg165 := (grown_trans hg148 hg159)
           have hk166 := hb130.grown hg165 nb
           refine gv_store0 26 0 (.agg #[(.int .i64 r156.1), (.int .i64 r156.2)]) #[(.int .i64 r156.1), (.int .i64 r156.2)] hk166 kr kr kr ?_
           intro w161 hg162 hb163 hz164
           refine gv_nil <| gv_cret ?_
           have e := sj h2; subst e
           replace h1 := congrArg some (hR2 _ rfl)
           have e := sj h1; subst e
           replace h0 := cont_inr h0
           have e := sj h0; subst e
           refine gv_ret (gv_done [(.agg #[(.int .i64 r156.1), (.int .i64 r156.2)])] rfl ⟨⟨⟨b1, 0, none⟩, kr, run_loadVar_row w161 b1 _ 26 _ _ _ hb163 Tryz.underlying26 rfl kr⟩, trivial⟩ ?_)
           have hB167 := bg hB151 hg159 nb
           have hlo168 : w0.heap.size ≤ b1 := lob hbe5 hB0.size
           have hB169 := bg hB167 hg162 (rowlo hlo168)
           exact ⟨grown_of_below hB169, rfl⟩
          ·replace h2 := ite_f hc155 h2
           refine gv_skip <| gv_blk <| gv_blk <| gv_region <| pN 2 [11, 63] [(11, (.int .i64 (IntKind.i64.wrap (s25.1 + 1))))] ?_
           refine gv_nil ?_
           have e := sj h2; subst e
           refine gv_goal fun a hd hs hok => ?_
           have hz170 := (nt hz132 hg148.size)
           have hk171 := hb130.grown hg148 nb
           exact ⟨((IntKind.i64.wrap (s25.1 + 1)), (s25.2.1, s25.2.2)), rfl, hB151, hz170, hk171, hd, hs, okp [0, 2, 9, 10, 11] hok⟩
    ·replace h2 := ite_f hc31 h2
     refine gv_cexit <| gv_exit rfl ?_
     have e := sj h2; subst e
     replace h1 := congrArg some (hR2 _ rfl)
     have e := sj h1; subst e
     refine gv_goal fun a hd hs hok => ?_
     have hz172 := hz29
     exact ⟨(s25.2.1, s25.2.2), rfl, hB28, hz172, hb30, hd, hs, okp [2] hok⟩
  ·rintro a w24 ⟨s23, e, hB173, hz174, hb175, hd, hs, hok⟩
   subst e
   refine gv_in ?_ hd hs hok
   clear hd hs hok
   replace h0 := cont_inl h0
   clear hz174 hc7 hz6 hb4 hg3
   refine gv_seq <| gv_region <| pN 1 [64] [(64, (.agg #[(.int .i64 0), (.int .i64 0)]))] ?_
   refine gv_store0 26 0 (.agg #[(.int .i64 0), (.int .i64 0)]) #[(.int .i64 0), (.int .i64 0)] hb175 kr kr kr ?_
   intro w176 hg177 hb178 hz179
   refine gv_nil <| gv_cret ?_
   have e := sj h0; subst e
   refine gv_ret (gv_done [(.agg #[(.int .i64 0), (.int .i64 0)])] rfl ⟨⟨⟨b1, 0, none⟩, kr, run_loadVar_row w176 b1 _ 26 _ _ _ hb178 Tryz.underlying26 rfl kr⟩, trivial⟩ ?_)
   have hlo180 : w0.heap.size ≤ b1 := lob hbe5 hB0.size
   have hB181 := bg hB173 hg177 (rowlo hlo180)
   exact ⟨grown_of_below hB181, rfl⟩

theorem packing_width_ok (fuel : Nat) (code_0 : Int) (w0 : World)  (r0 : (Int × Bool)) (h0 : packing_width fuel code_0 = some r0) :
    Calls Tryz.prog 36 ([(.int .u8 code_0)] : List Value).toArray w0 (Ret fun v w' => w0.grownBy w' none ∧ v = tup [(.int .i64 r0.1), (.bool r0.2)]) := by
 have hB0 : Below w0.heap.size w0 w0 := Below.refl _ _
 unfold packing_width at h0
 refine calls_run Tryz.func36 rfl Tryz.ntmps36 kr ?_
 refine gv_sub [0] (σ' := [(0, (.int .u8 code_0))]) kr ?_
 refine gv_seq <| gv_region <| pN 2 [2, 3] [(2, (.int .i64 0))] ?_
 refine gv_nil <| gv_seq <| gv_seq <| gv_region <| pN 1 [4] [(4, (.int .u8 code_0))] ?_
 refine gv_nil <| gv_block <| gv_seq <| gv_seq <| gv_region <| pN 2 [5, 6] [(5, (.bool (code_0 == 98)))] ?_
 refine gv_nil <| bindE h0 ?_; clear h0; intro j1 h1 h0
 refine gv_cut_code (J := fun a w2 => Below w0.heap.size w0 w2 ∧ w0.heap.size ≤ w2.heap.size ∧ a.defers = [] ∧ a.tmps.size = 20 ∧ Ok [(0, (.int .u8 code_0)), (2, (.int .i64 0)), (4, (.int .u8 code_0)), (5, (.bool j1))] a.tmps) ?_ ?_
 ·skip
  refine gv_cond (b := (code_0 == 98)) kr (fun hc3 => ?_) (fun hc3 => ?_)
  ·replace h1 := ite_t hc3 h1
   refine gv_skip ?_
   have e := sj h1; subst e
   refine gv_goal fun a hd hs hok => ?_
   exact ⟨hB0, nrf, hd, hs, okp [0, 2, 4, 5] hok⟩
  ·replace h1 := ite_f hc3 h1
   refine gv_region <| pN 2 [5, 7] [(5, (.bool (code_0 == 66)))] ?_
   refine gv_nil ?_
   have e := sj h1; subst e
   refine gv_goal fun a hd hs hok => ?_
   exact ⟨hB0, nrf, hd, hs, okp [0, 2, 4, 5] hok⟩
 ·rintro a w2 ⟨hB4, hz5, hd, hs, hok⟩
  refine gv_in ?_ hd hs hok
  clear hd hs hok
  refine bindE h0 ?_; clear h0; intro j6 h1 h0
  refine gv_cut_code (J := fun a w7 => Below w0.heap.size w0 w7 ∧ w2.heap.size ≤ w7.heap.size ∧ a.defers = [] ∧ a.tmps.size = 20 ∧ Ok [(0, (.int .u8 code_0)), (2, (.int .i64 j6))] a.tmps) ?_ ?_
  ·skip
   refine gv_cond (b := j1) kr (fun hc8 => ?_) (fun hc8 => ?_)
   ·replace h1 := ite_t hc8 h1
    refine gv_region <| pN 1 [2] [(2, (.int .i64 1))] ?_
    refine gv_nil ?_
    have e := sj h1; subst e
    refine gv_goal fun a hd hs hok => ?_
    exact ⟨hB4, nrf, hd, hs, okp [0, 2] hok⟩
   ·replace h1 := ite_f hc8 h1
    refine gv_seq <| gv_seq <| gv_region <| pN 2 [8, 9] [(8, (.bool (code_0 == 104)))] ?_
    refine gv_nil <| bindE h1 ?_; clear h1; intro j9 h2 h1
    refine gv_cut_code (J := fun a w10 => Below w0.heap.size w0 w10 ∧ w2.heap.size ≤ w10.heap.size ∧ a.defers = [] ∧ a.tmps.size = 20 ∧ Ok [(0, (.int .u8 code_0)), (2, (.int .i64 0)), (4, (.int .u8 code_0)), (8, (.bool j9))] a.tmps) ?_ ?_
    ·skip
     refine gv_cond (b := (code_0 == 104)) kr (fun hc11 => ?_) (fun hc11 => ?_)
     ·replace h2 := ite_t hc11 h2
      refine gv_skip ?_
      have e := sj h2; subst e
      refine gv_goal fun a hd hs hok => ?_
      exact ⟨hB4, nrf, hd, hs, okp [0, 2, 4, 8] hok⟩
     ·replace h2 := ite_f hc11 h2
      refine gv_region <| pN 2 [8, 10] [(8, (.bool (code_0 == 72)))] ?_
      refine gv_nil ?_
      have e := sj h2; subst e
      refine gv_goal fun a hd hs hok => ?_
      exact ⟨hB4, nrf, hd, hs, okp [0, 2, 4, 8] hok⟩
    ·rintro a w10 ⟨hB12, hz13, hd, hs, hok⟩
     refine gv_in ?_ hd hs hok
     clear hd hs hok
     refine gv_cond (b := j9) kr (fun hc14 => ?_) (fun hc14 => ?_)
     ·replace h1 := ite_t hc14 h1
      refine gv_region <| pN 1 [2] [(2, (.int .i64 2))] ?_
      refine gv_nil ?_
      have e := sj h1; subst e
      refine gv_goal fun a hd hs hok => ?_
      have hz15 := hz13
      exact ⟨hB12, hz15, hd, hs, okp [0, 2] hok⟩
     ·replace h1 := ite_f hc14 h1
      refine gv_seq <| gv_seq <| gv_region <| pN 2 [11, 12] [(11, (.bool (code_0 == 105)))] ?_
      refine gv_nil <| bindE h1 ?_; clear h1; intro j16 h2 h1
      refine gv_cut_code (J := fun a w17 => Below w0.heap.size w0 w17 ∧ w10.heap.size ≤ w17.heap.size ∧ a.defers = [] ∧ a.tmps.size = 20 ∧ Ok [(0, (.int .u8 code_0)), (2, (.int .i64 0)), (4, (.int .u8 code_0)), (11, (.bool j16))] a.tmps) ?_ ?_
      ·skip
       refine gv_cond (b := (code_0 == 105)) kr (fun hc18 => ?_) (fun hc18 => ?_)
       ·replace h2 := ite_t hc18 h2
        refine gv_skip ?_
        have e := sj h2; subst e
        refine gv_goal fun a hd hs hok => ?_
        exact ⟨hB12, nrf, hd, hs, okp [0, 2, 4, 11] hok⟩
       ·replace h2 := ite_f hc18 h2
        refine gv_region <| pN 2 [11, 13] [(11, (.bool (code_0 == 73)))] ?_
        refine gv_nil ?_
        have e := sj h2; subst e
        refine gv_goal fun a hd hs hok => ?_
        exact ⟨hB12, nrf, hd, hs, okp [0, 2, 4, 11] hok⟩
      ·rintro a w17 ⟨hB19, hz20, hd, hs, hok⟩
       refine gv_in ?_ hd hs hok
       clear hd hs hok
       have hz21 := (nt hz13 hz20)
       clear hz20 hc14 hz13 hB12 hc8 hz5 hB4
       refine gv_cond (b := j16) kr (fun hc22 => ?_) (fun hc22 => ?_)
       ·replace h1 := ite_t hc22 h1
        refine gv_region <| pN 1 [2] [(2, (.int .i64 4))] ?_
        refine gv_nil ?_
        have e := sj h1; subst e
        refine gv_goal fun a hd hs hok => ?_
        have hz23 := hz21
        exact ⟨hB19, hz23, hd, hs, okp [0, 2] hok⟩
       ·replace h1 := ite_f hc22 h1
        refine gv_seq <| gv_seq <| gv_region <| pN 2 [14, 15] [(14, (.bool (code_0 == 113)))] ?_
        refine gv_nil <| bindE h1 ?_; clear h1; intro j24 h2 h1
        refine gv_cut_code (J := fun a w25 => Below w0.heap.size w0 w25 ∧ w17.heap.size ≤ w25.heap.size ∧ a.defers = [] ∧ a.tmps.size = 20 ∧ Ok [(0, (.int .u8 code_0)), (2, (.int .i64 0)), (14, (.bool j24))] a.tmps) ?_ ?_
        ·skip
         refine gv_cond (b := (code_0 == 113)) kr (fun hc26 => ?_) (fun hc26 => ?_)
         ·replace h2 := ite_t hc26 h2
          refine gv_skip ?_
          have e := sj h2; subst e
          refine gv_goal fun a hd hs hok => ?_
          exact ⟨hB19, nrf, hd, hs, okp [0, 2, 14] hok⟩
         ·replace h2 := ite_f hc26 h2
          refine gv_region <| pN 2 [14, 16] [(14, (.bool (code_0 == 81)))] ?_
          refine gv_nil ?_
          have e := sj h2; subst e
          refine gv_goal fun a hd hs hok => ?_
          exact ⟨hB19, nrf, hd, hs, okp [0, 2, 14] hok⟩
        ·rintro a w25 ⟨hB27, hz28, hd, hs, hok⟩
         refine gv_in ?_ hd hs hok
         clear hd hs hok
         have hz29 := (nt hz21 hz28)
         clear hz28 hc22 hz21 hB19
         refine gv_cond (b := j24) kr (fun hc30 => ?_) (fun hc30 => ?_)
         ·replace h1 := ite_t hc30 h1
          refine gv_region <| pN 1 [2] [(2, (.int .i64 8))] ?_
          refine gv_nil ?_
          have e := sj h1; subst e
          refine gv_goal fun a hd hs hok => ?_
          have hz31 := hz29
          exact ⟨hB27, hz31, hd, hs, okp [0, 2] hok⟩
         ·replace h1 := ite_f hc30 h1
          refine gv_skip ?_
          have e := sj h1; subst e
          refine gv_goal fun a hd hs hok => ?_
          have hz32 := hz29
          exact ⟨hB27, hz32, hd, hs, okp [0, 2] hok⟩
  ·rintro a w7 ⟨hB33, hz34, hd, hs, hok⟩
   refine gv_in ?_ hd hs hok
   clear hd hs hok
   refine gv_blk <| gv_seq <| gv_region <| pN 5 [2, 3, 17, 18, 19] [(2, (.int .i64 j6)), (3, (.bool (decide (code_0 ≥ 97))))] ?_
   refine gv_nil <| gv_cret ?_
   have e := sj h0; subst e
   refine gv_ret (gv_done [(.int .i64 j6), (.bool (decide (code_0 ≥ 97)))] rfl ⟨kr, kr, trivial⟩ ?_)
   exact ⟨grown_of_below hB33, rfl⟩

theorem packing_reader_take_ok (fuel : Nat) (pb0 : Nat) (pa0_0 : Option Addr) (pc0_0 : Nat) (r_0 : ((List UInt8) × Int)) (n_1 : Int) (w0 : World) (X0 : Nat → Prop) (hX0 : ∀ k, X0 k → k < w0.heap.size ∧ k ≠ pb0) (hp0 : Box w0 pb0 47 #[(.slice pa0_0 (length r_0.1) pc0_0), (.int .i64 r_0.2)]) (hpa0_0 : Rd bE w0 X0 pa0_0 pc0_0 r_0.1) (r0 : ((List UInt8) × Bool × ((List UInt8) × Int))) (h0 : packing_reader_take fuel r_0 n_1 = some r0) :
    Calls Tryz.prog 42 ([(bp pb0), (.int .i64 n_1)] : List Value).toArray w0 (Ret fun v w' => w0.grownBy w' (some pb0) ∧ ∃ (a0_0r : Option Addr) (c0_0r : Nat), ∃ (X0_0r : Nat → Prop), v = tup [(.slice a0_0r (length r0.1) c0_0r), (.bool r0.2.1)] ∧ Rd bE w' X0_0r a0_0r c0_0r r0.1 ∧ (∀ k, X0_0r k → k < w'.heap.size ∧ (X0 k ∨ w0.heap.size ≤ k)) ∧ Box w' pb0 47 #[(.slice pa0_0 (length r_0.1) pc0_0), (.int .i64 r0.2.2.2)]) := by
 have hB0 : w0.grownBy w0 (some pb0) := grown_refl _ _
 unfold packing_reader_take at h0
 refine calls_run Tryz.func42 rfl Tryz.ntmps42 kr ?_
 refine gv_sub [0, 1] (σ' := [(0, (bp pb0)), (1, (.int .i64 n_1))]) kr ?_
 have hpl0 := hp0.lt
 refine gv_seq <| gv_region <| pN 2 [4, 5] [] ?_
 refine gv_nil <| gv_seq <| gv_seq <| gv_drawA kr ?_
 intro w1 hg2
 refine gv_pre [0, 1, 2, 3, 6, 7, 8] (bA 12 [0, 1, 2, 3, 6, 7, 8]) 5 kr kr ?_
 refine pN 7 [6, 7, 8, 9, 12, 13, 14] [(6, (.int .i64 n_1)), (9, (bp pb0)), (14, (.pointer (some ⟨pb0, 1, none⟩)))] ?_
 refine gv_nil <| gv_goA ?_
 refine gv_stage (Cls w1 []) [4, 5, 9] [(4, some true), (5, some true), (9, some true)] (bA 12 [0, 1, 2, 3, 4, 5, 6, 7, 8, 9]) 2 kr kr (Cls.refl _ _) ?_
 have hC3 := Cls.refl w1 []
 have hk4 := hp0.grown hg2 nb
 refine gv_load (t := 23) (A := ⟨pb0, 0, none⟩) (.slice pa0_0 (length r_0.1) pc0_0) [] (fun e => by cases e) rfl rfl rfl kr kr kr (inw1 fun w' hC' => ((hC'.box hk4 nm_nil).cell 0 rfl)) rfl ?_
 refine pN 1 [11] [(11, (.int .i64 ((length r_0.1 : Nat) : Int)))] ?_
 refine gv_load (t := 3) (A := ⟨pb0, 1, none⟩) (.int .i64 r_0.2) [] (fun e => by cases e) rfl rfl rfl kr kr kr (inw1 fun w' hC' => ((hC'.box hk4 nm_nil).cell 1 rfl)) rfl ?_
 refine gv_nil <| gv_goA ?_
 refine gv_pre [10, 11] (bA 12 [0, 1, 2, 3, 4, 5, 6, 7, 8, 9, 10, 11]) 0 kr kr ?_
 refine pN 2 [16, 17] [(17, (.bool (decide (n_1 > (IntKind.i64.wrap (((length r_0.1 : Nat) : Int) - r_0.2))))))] ?_
 refine gv_nil <| gv_goA ?_
 refine gv_stageE kr ?_
 refine gv_cond (b := (decide (n_1 > (IntKind.i64.wrap (((length r_0.1 : Nat) : Int) - r_0.2))))) kr (fun hc5 => ?_) (fun hc5 => ?_)
 ·replace h0 := ite_t hc5 h0
  refine gv_seq <| gv_region <| pN 2 [4, 5] [(4, (.slice none (length ([] : List UInt8)) 0)), (5, (.bool false))] ?_
  refine gv_nil <| gv_cret ?_
  have e := sj h0; subst e
  refine gv_ret (gv_done [(.slice none (length ([] : List UInt8)) 0), (.bool false)] rfl ⟨kr, kr, trivial⟩ ?_)
  have hB6 := grown_step hB0 hg2 nb
  exact ⟨hB6, none, 0, (fun _ => False), rfl, (Rd.nil bE w1 (fun _ => False) none 0), (fun k hk => ⟨(fun _ h => h.elim) k hk, (fun _ h => h.elim) k hk⟩), hk4⟩
 ·replace h0 := ite_f hc5 h0
  refine gv_skip <| gv_seq <| gv_region <| pN 3 [18, 19, 20] [(18, (bp pb0)), (20, (.pointer (some ⟨pb0, 1, none⟩)))] ?_
  refine gv_load (t := 3) (A := ⟨pb0, 1, none⟩) (.int .i64 r_0.2) [] (fun e => by cases e) rfl rfl rfl kr kr kr (inw0 (hk4.cell 1 rfl)) rfl ?_
  refine pN 4 [22, 23, 24, 25] [(23, (.int .i64 (IntKind.i64.wrap (r_0.2 + n_1)))), (25, (.pointer (some ⟨pb0, 1, none⟩)))] ?_
  refine gv_store0 3 1 (.int .i64 (IntKind.i64.wrap (r_0.2 + n_1))) #[(.slice pa0_0 (length r_0.1) pc0_0), (.int .i64 (IntKind.i64.wrap (r_0.2 + n_1)))] hk4 kr kr kr ?_
  intro w7 hg8 hb9 hz10
  refine gv_nil <| gv_seq <| gv_drawA kr ?_
  intro w11 hg12
  refine gv_pre [0, 1, 2, 4, 5, 6, 8, 10, 11, 12] (bA 17 [0, 1, 2, 4, 5, 6, 8, 10, 11, 12]) 7 kr kr ?_
  refine pN 10 [26, 27, 28, 30, 31, 32, 34, 36, 37, 38] [(28, (bp pb0)), (32, (.pointer (some ⟨pb0, 1, none⟩))), (34, (.int .i64 n_1)), (38, (.pointer (some ⟨pb0, 1, none⟩)))] ?_
  refine gv_nil <| gv_goA ?_
  refine gv_stage (Cls w11 []) [3, 7, 9, 13] [(3, some true), (7, some true), (9, some true), (13, some true)] (bA 17 [0, 1, 2, 3, 4, 5, 6, 7, 8, 9, 10, 11, 12, 13]) 3 kr kr (Cls.refl _ _) ?_
  have hC13 := Cls.refl w11 []
  have hk14 := hb9.grown hg12 nb
  refine gv_load (t := 23) (A := ⟨pb0, 0, none⟩) (.slice pa0_0 (length r_0.1) pc0_0) [] (fun e => by cases e) rfl rfl rfl kr kr kr (inw1 fun w' hC' => ((hC'.box hk14 nm_nil).cell 0 rfl)) rfl ?_
  refine gv_load (t := 3) (A := ⟨pb0, 1, none⟩) (.int .i64 (IntKind.i64.wrap (r_0.2 + n_1))) [] (fun e => by cases e) rfl rfl rfl kr kr kr (inw1 fun w' hC' => ((hC'.box hk14 nm_nil).cell 1 rfl)) rfl ?_
  refine pN 1 [35] [(35, (.int .i64 (IntKind.i64.wrap ((IntKind.i64.wrap (r_0.2 + n_1)) - n_1))))] ?_
  refine gv_sub [29, 35, 38] (σ' := [(29, (.slice pa0_0 (length r_0.1) pc0_0)), (35, (.int .i64 (IntKind.i64.wrap ((IntKind.i64.wrap (r_0.2 + n_1)) - n_1)))), (38, (.pointer (some ⟨pb0, 1, none⟩)))]) kr ?_
  refine gv_load (t := 3) (A := ⟨pb0, 1, none⟩) (.int .i64 (IntKind.i64.wrap (r_0.2 + n_1))) [] (fun e => by cases e) rfl rfl rfl kr kr kr (inw1 fun w' hC' => ((hC'.box hk14 nm_nil).cell 1 rfl)) rfl ?_
  refine gv_nil <| gv_goA ?_
  refine gv_pre [14, 15, 16] (bA 17 [0, 1, 2, 3, 4, 5, 6, 7, 8, 9, 10, 11, 12, 13, 14, 15, 16]) 0 kr kr ?_
  refine bindE h0 ?_; clear h0; intro x15 hx16 h0
  have hB20 := grown_step hB0 hg2 nb
  have hB21 := grown_step hB20 hg8 rowpp
  have hB22 := grown_step hB21 hg12 nb
  refine gv_ssl2 bE (t := 23) (e := 5) (xs := r_0.1) (a := pa0_0) (cap := pc0_0) (lo := (some (.int .i64 (IntKind.i64.wrap ((IntKind.i64.wrap (r_0.2 + n_1)) - n_1))))) (hi := (some (.int .i64 (IntKind.i64.wrap (r_0.2 + n_1))))) (IntKind.i64.wrap ((IntKind.i64.wrap (r_0.2 + n_1)) - n_1)) (IntKind.i64.wrap (r_0.2 + n_1)) x15 (fun e => by cases e) rfl rfl rfl kr kr Tryz.underlying23 kr (.inr ⟨_, rfl⟩) (.inr ⟨_, rfl⟩) hx16 (hpa0_0.grown hB22 (fun k hk => (hX0 k hk).1) (fun g e hk => by cases e; exact (hX0 _ hk).2 rfl)).1 ?_
  intro a17 c18 hsub19
  have hp23 := hsub19 _ _ hpa0_0
  refine pN 2 [4, 5] [(4, (.slice a17 (length x15) c18)), (5, (.bool true))] ?_
  refine gv_nil <| gv_goA ?_
  refine gv_stageE kr ?_
  refine gv_cret ?_
  have e := sj h0; subst e
  refine gv_ret (gv_done [(.slice a17 (length x15) c18), (.bool true)] rfl ⟨kr, kr, trivial⟩ ?_)
  exact ⟨hB22, a17, c18, X0, rfl, (hp23.grown hB22 (fun k hk => (hX0 k hk).1) (fun g e hk => by cases e; exact (hX0 _ hk).2 rfl)), (fun k hk => ⟨(fun k (hk : X0 k) => ltl (hX0 k hk).1 hB22.size) k hk, (fun k (hk : X0 k) => Or.inl hk) k hk⟩), hk14⟩

theorem integer_Of_ok (fuel : Nat) (n_0 : Int) (w0 : World)  (r0 : (Bool × (List Int))) (h0 : integer_Of fuel n_0 = some r0) :
    Calls Tryz.prog 56 ([(.int .i64 n_0)] : List Value).toArray w0 (Ret fun v w' => w0.grownBy w' none ∧ ∃ (a0_0r : Option Addr) (c0_0r : Nat), v = tup [(.agg #[(.bool r0.1), (.slice a0_0r (length r0.2) c0_0r)])] ∧ Gv.Own (iE .u32) 107 w' (fun _ => False) a0_0r c0_0r r0.2 ∧ (∀ g, blk a0_0r = some g → w0.heap.size ≤ g)) := by
 have hB0 : Below w0.heap.size w0 w0 := Below.refl _ _
 unfold integer_Of at h0
 refine calls_run Tryz.func56 rfl Tryz.ntmps56 kr ?_
 refine gv_sub [0] (σ' := [(0, (.int .i64 n_0))]) kr ?_
 refine gv_seq <| gv_region <| gv_new0 (fun b => .pointer (some ⟨b, 0, none⟩)) #[(.bool false), (.slice none (length ([] : List Int)) 0)] 39 kr kr ?_
 intro b1 w2 hg3 hb4 hbe5 hz6
 refine gv_nil <| gv_seq <| gv_region <| pN 3 [3, 5, 6] [(3, (.int .u64 (IntKind.u64.wrap (n_0))))] ?_
 refine gv_nil <| gv_seq <| gv_seq <| gv_region <| pN 2 [7, 8] [(8, (.bool (decide (n_0 < 0))))] ?_
 refine gv_nil <| bindE h0 ?_; clear h0; intro j7 h1 h0
 refine gv_cut_code (J := fun a w8 => Below w0.heap.size w0 w8 ∧ w2.heap.size ≤ w8.heap.size ∧ Box w8 b1 39 #[(.bool false), (.slice none (length ([] : List Int)) 0)] ∧ a.defers = [] ∧ a.tmps.size = 38 ∧ Ok [(0, (.int .i64 n_0)), (2, (bp b1)), (3, (.int .u64 j7))] a.tmps) ?_ ?_
 ·skip
  refine gv_cond (b := (decide (n_0 < 0))) kr (fun hc9 => ?_) (fun hc9 => ?_)
  ·replace h1 := ite_t hc9 h1
   refine gv_region <| pN 3 [3, 9, 10] [(3, (.int .u64 (IntKind.u64.wrap (0 - (IntKind.u64.wrap (n_0))))))] ?_
   refine bindE h1 ?_; clear h1; intro n10 hn11 h1
   refine gv_name (s := 3) (v := (.int .u64 (IntKind.u64.wrap (0 - (IntKind.u64.wrap (n_0)))))) (v' := (.int .u64 n10)) kr (congrArg (Value.int .u64) (sj hn11)) ?_
   refine gv_nil ?_
   have e := sj h1; subst e
   refine gv_goal fun a hd hs hok => ?_
   have hB12 := bg hB0 hg3 nb
   exact ⟨hB12, nrf, hb4, hd, hs, okp [0, 2, 3] hok⟩
  ·replace h1 := ite_f hc9 h1
   refine gv_skip ?_
   have e := sj h1; subst e
   refine gv_goal fun a hd hs hok => ?_
   have hB13 := bg hB0 hg3 nb
   exact ⟨hB13, nrf, hb4, hd, hs, okp [0, 2, 3] hok⟩
 ·rintro a w8 ⟨hB14, hz15, hb16, hd, hs, hok⟩
  refine gv_in ?_ hd hs hok
  clear hd hs hok
  clear hz15 hz6 hb4 hg3
  refine gv_seq <| gv_region <| pN 5 [11, 12, 13, 14, 15] [(12, (.int .u32 (IntKind.u32.wrap (j7)))), (15, (.int .u32 (IntKind.u32.wrap (((j7).fdiv (2 ^ 32))))))] ?_
  refine gv_new0 (fun b => .slice (some ⟨b, 0, none⟩) 2 2) #[(.int .u32 (IntKind.u32.wrap (j7))), (.int .u32 (IntKind.u32.wrap (((j7).fdiv (2 ^ 32)))))] 107 kr kr ?_
  intro b17 w18 hg19 hb20 hbe21 hz22
  have ho23 : Gv.Own (iE .u32) 107 w18 (fun _ => False) (some ⟨b17, 0, none⟩) 2 ([(IntKind.u32.wrap (j7)), (IntKind.u32.wrap (((j7).fdiv (2 ^ 32))))] : List Int) := Box.ownE hb20 ⟨[(.int .u32 (IntKind.u32.wrap (j7)))], [(.int .u32 (IntKind.u32.wrap (((j7).fdiv (2 ^ 32)))))], rfl, rfl, ⟨[(.int .u32 (IntKind.u32.wrap (((j7).fdiv (2 ^ 32)))))], [], rfl, rfl, rfl⟩⟩ (show 2 ≤ maxLen by decide) (fun h => h)
  have hl24 : ∀ g, blk (some ⟨b17, 0, none⟩) = some g → w0.heap.size ≤ g := loo hbe21 hB14.size
  refine pN 1 [4] [(4, (.slice (some ⟨b17, 0, none⟩) (length ([(IntKind.u32.wrap (j7)), (IntKind.u32.wrap (((j7).fdiv (2 ^ 32))))] : List Int)) 2))] ?_
  refine gv_nil <| gv_seq <| bindE h0 ?_; clear h0; intro j28 h1 h0
  refine gv_cut_code (J := fun a w29 => ∃ (a4_0j : Option Addr) (c4_0j : Nat), Below w0.heap.size w0 w29 ∧ w18.heap.size ≤ w29.heap.size ∧ Gv.Own (iE .u32) 107 w29 (fun _ => False) a4_0j c4_0j j28 ∧ (∀ g, blk a4_0j = some g → w0.heap.size ≤ g) ∧ (∀ g, blk a4_0j = some g → ¬ (· = b1) g) ∧ ¬ (fun k => blk a4_0j = some k) b1 ∧ Box w29 b1 39 #[(.bool false), (.slice none (length ([] : List Int)) 0)] ∧ a.defers = [] ∧ a.tmps.size = 38 ∧ Ok [(0, (.int .i64 n_0)), (2, (bp b1)), (4, (.slice a4_0j (length j28) c4_0j))] a.tmps) ?_ ?_
  ·skip
   refine gv_block <| gv_loop (A := fun (s30 : (List Int)) a w31 => ∃ (a4_0j : Option Addr) (c4_0j : Nat), Below w0.heap.size w0 w31 ∧ w18.heap.size ≤ w31.heap.size ∧ Gv.Own (iE .u32) 107 w31 (fun _ => False) a4_0j c4_0j s30 ∧ (∀ g, blk a4_0j = some g → w0.heap.size ≤ g) ∧ (∀ g, blk a4_0j = some g → ¬ (· = b1) g) ∧ ¬ (fun k => blk a4_0j = some k) b1 ∧ Box w31 b1 39 #[(.bool false), (.slice none (length ([] : List Int)) 0)] ∧ a.defers = [] ∧ a.tmps.size = 38 ∧ Ok [(0, (.int .i64 n_0)), (2, (bp b1)), (4, (.slice a4_0j (length s30) c4_0j))] a.tmps) h1 ?_ ?_
   ·intro a hd hs hok
    have hB32 := bg hB14 hg19 nb
    have ap33 : ∀ g, blk (some ⟨b17, 0, none⟩) = some g → ¬ (· = b1) g := fun g e hx => nl ((lowo hbe21) g e) ((ltb hb16) _ hx)
    have ap34 : ¬ (fun k => blk (some ⟨b17, 0, none⟩) = some k) b1 := fun hx => nl ((lowo hbe21) _ hx) ((ltb hb16) _ rfl)
    have hk35 := hb16.grown hg19 nb
    exact ⟨(some ⟨b17, 0, none⟩), 2, hB32, nrf, ho23, hl24, ap33, ap34, hk35, hd, hs, okp [0, 2, 4] hok⟩
   ·rintro s30 r2 h2 hR2 a w31 ⟨a38, c39, hB36, hz37, ho40, hl41, ap42, ap43, hb44, hd, hs, hok⟩
    refine gv_in ?_ hd hs hok
    clear hd hs hok
    clear hl24 ho23 hz22 hbe21 hb20 hg19 hb16 hB14
    refine gv_seq <| gv_seq <| gv_region <| bindE h2 ?_; clear h2; intro j45 h3 h2
    refine gv_cut_ops (J := fun a w46 => Below w0.heap.size w0 w46 ∧ w31.heap.size ≤ w46.heap.size ∧ Box w46 b1 39 #[(.bool false), (.slice none (length ([] : List Int)) 0)] ∧ Gv.Own (iE .u32) 107 w46 (fun _ => False) a38 c39 s30 ∧ a.defers = [] ∧ a.tmps.size = 38 ∧ Ok [(0, (.int .i64 n_0)), (2, (bp b1)), (4, (.slice a38 (length s30) c39)), (28, (.bool j45))] a.tmps) ?_ ?_
    ·skip
     refine pN 4 [17, 18, 19, 20] [(20, (.bool (decide (((length s30 : Nat) : Int) > 0))))] ?_
     refine gv_split (s := 20) (g := (decide (((length s30 : Nat) : Int) > 0))) kr (fun hc47 => ?_) (fun hc47 => ?_)
     ·skip
      replace h3 := ite_t hc47 h3
      refine pN 4 [21, 22, 23, 24] [(21, (.slice a38 (length s30) c39)), (24, (.int .i64 (IntKind.i64.wrap (((length s30 : Nat) : Int) - 1))))] ?_
      refine bindE h3 ?_; clear h3; intro x48 hx49 h3
      refine gv_idxaddr (t := 37) (e := 107) (a := a38) (len := length s30) (cap := c39) (kk := .i64) (i := (IntKind.i64.wrap (((length s30 : Nat) : Int) - 1))) (sz := 1) [] (fun e => by cases e) rfl rfl rfl kr kr Tryz.underlying37 kr ((ho40.rd (Y := fun k => blk a38 = some k) (fun _ h => h.elim) (fun g e => e)).has hx49) (idx_spec hx49).1 (idx_spec hx49).2.1 rfl ?_
      refine gv_load (t := 107) (A := (elemAddr a38 (((IntKind.i64.wrap (((length s30 : Nat) : Int) - 1)) : Int).toNat * 1))) (.int .u32 x48) [] (fun e => by cases e) rfl rfl rfl kr kr kr (inw0 ((ho40.rd (Y := fun k => blk a38 = some k) (fun _ h => h.elim) (fun g e => e)).cell hx49)) rfl ?_
      refine pN 2 [27, 28] [(28, (.bool (x48 == 0)))] ?_
      refine gv_nil ?_
      have e := sj h3; subst e
      refine gv_goal fun a hd hs hok => ?_
      exact ⟨hB36, nrf, hb44, ho40, hd, hs, okp [0, 2, 4, 28] hok⟩
     ·skip
      replace h3 := ite_f hc47 h3
      refine pN 8 [21, 22, 23, 24, 25, 26, 27, 28] [(28, (.bool false))] ?_
      refine gv_nil ?_
      have e := sj h3; subst e
      refine gv_goal fun a hd hs hok => ?_
      exact ⟨hB36, nrf, hb44, ho40, hd, hs, okp [0, 2, 4, 28] hok⟩
    ·rintro a w46 ⟨hB50, hz51, hb52, hk53, hd, hs, hok⟩
     refine gv_in ?_ hd hs hok
     clear hd hs hok
     have hz54 := (nt hz37 hz51)
     clear hz51 hb44 ho40 hz37 hB36
     refine gv_cond (b := j45) kr (fun hc55 => ?_) (fun hc55 => ?_)
     ·replace h2 := ite_t hc55 h2
      refine gv_skip <| gv_block <| gv_region <| pN 4 [29, 30, 31, 32] [(29, (.slice a38 (length s30) c39)), (32, (.int .i64 (IntKind.i64.wrap (((length s30 : Nat) : Int) - 1))))] ?_
      refine bindE h2 ?_; clear h2; intro x56 hx57 h2
      refine gv_pop (iE .u32) (t := 37) (e := 107) (xs := s30) (a := a38) (cap := c39) (lo := none) (hi := (some (.int .i64 (IntKind.i64.wrap (((length s30 : Nat) : Int) - 1))))) (IntKind.i64.wrap (((length s30 : Nat) : Int) - 1)) x56 (fun e => by cases e) rfl rfl rfl kr kr Tryz.underlying37 kr (.inl ⟨rfl, rfl⟩) (.inr ⟨_, rfl⟩) hx57 (hk53.rd (Y := fun k => blk a38 = some k) (fun _ h => h.elim) (fun g e => e)).1 ?_
      have ho58 := hk53.pop hx57
      refine pN 1 [4] [(4, (.slice a38 (length x56) c39))] ?_
      refine gv_nil <| gv_blk ?_
      have e := sj h2; subst e
      refine gv_goal fun a hd hs hok => ?_
      have hz59 := hz54
      exact ⟨x56, rfl, a38, c39, hB50, hz59, ho58, hl41, ap42, ap43, hb52, hd, hs, okp [0, 2, 4] hok⟩
     ·replace h2 := ite_f hc55 h2
      refine gv_cexit <| gv_exit rfl ?_
      have e := sj h2; subst e
      replace h1 := congrArg some (hR2 _ rfl)
      have e := sj h1; subst e
      refine gv_goal fun a hd hs hok => ?_
      have hz60 := hz54
      exact ⟨a38, c39, hB50, hz60, hk53, hl41, ap42, ap43, hb52, hd, hs, okp [0, 2, 4] hok⟩
  ·rintro a w29 ⟨a63, c64, hB61, hz62, ho65, hl66, ap67, ap68, hb69, hd, hs, hok⟩
   refine gv_in ?_ hd hs hok
   clear hd hs hok
   clear hz62 hl24 ho23 hz22 hbe21 hb20 hg19 hb16 hB14
   refine gv_seq <| gv_region <| pN 4 [34, 35, 36, 37] [(37, (.agg #[(.bool (decide (n_0 < 0))), (.slice a63 (length j28) c64)]))] ?_
   refine gv_store0 39 0 (.agg #[(.bool (decide (n_0 < 0))), (.slice a63 (length j28) c64)]) #[(.bool (decide (n_0 < 0))), (.slice a63 (length j28) c64)] hb69 kr kr kr ?_
   intro w70 hg71 hb72 hz73
   refine gv_nil <| gv_cret ?_
   have e := sj h0; subst e
   refine gv_ret (gv_done [(.agg #[(.bool (decide (n_0 < 0))), (.slice a63 (length j28) c64)])] rfl ⟨⟨⟨b1, 0, none⟩, kr, run_loadVar_row w70 b1 _ 39 _ _ _ hb72 Tryz.underlying39 rfl kr⟩, trivial⟩ ?_)
   have hlo74 : w0.heap.size ≤ b1 := lob hbe5 hB0.size
   have hB75 := bg hB61 hg71 (rowlo hlo74)
   have hk76 := ho65.grown hg71 (fun _ h => h.elim) (rdnn (rowne ap68))
   exact ⟨grown_of_below hB75, a63, c64, rfl, hk76, hl66⟩

theorem packing_whole_ok (fuel : Nat) (n_0 : Int) (w0 : World)  (r0 : (Int × (Bool × (List Int)) × (Bool × (List Int)) × ByteArray × Int)) (h0 : packing_whole fuel n_0 = some r0) :
    Calls Tryz.prog 65 ([(.int .i64 n_0)] : List Value).toArray w0 (Ret fun v w' => w0.grownBy w' none ∧ ∃ (a0_0r : Option Addr) (c0_0r : Nat), ∃ (a0_1r : Option Addr) (c0_1r : Nat), v = tup [(.agg #[(.int .i64 r0.1), (.bool r0.2.1.1), (.slice a0_0r (length r0.2.1.2) c0_0r), (.bool r0.2.2.1.1), (.slice a0_1r (length r0.2.2.1.2) c0_1r), (.string r0.2.2.2.1), (.int .i64 r0.2.2.2.2)])] ∧ Gv.Own (iE .u32) 107 w' (fun _ => False) a0_0r c0_0r r0.2.1.2 ∧ (∀ g, blk a0_0r = some g → w0.heap.size ≤ g) ∧ Gv.Own (iE .u32) 107 w' (fun _ => False) a0_1r c0_1r r0.2.2.1.2 ∧ (∀ g, blk a0_1r = some g → w0.heap.size ≤ g) ∧ (∀ g, blk a0_0r = some g → blk a0_1r ≠ some g)) := by
 have hB0 : Below w0.heap.size w0 w0 := Below.refl _ _
 unfold packing_whole at h0
 refine calls_run Tryz.func65 rfl Tryz.ntmps65 kr ?_
 refine gv_sub [0] (σ' := [(0, (.int .i64 n_0))]) kr ?_
 refine gv_seq <| gv_region <| gv_new0 (fun b => .pointer (some ⟨b, 0, none⟩)) #[(.int .i64 0), (.bool false), (.slice none (length ([] : List Int)) 0), (.bool false), (.slice none (length ([] : List Int)) 0), (.string (strOf [])), (.int .i64 0)] 41 kr kr ?_
 intro b1 w2 hg3 hb4 hbe5 hz6
 refine gv_nil <| gv_seq <| gv_region <| pN 1 [3] [(3, (.int .i64 n_0))] ?_
 refine bindE h0 ?_; clear h0; intro r7 hr8 h0
 refine gv_call0 kr rfl kr enters56 (integer_Of_ok fuel n_0 w2  r7 hr8) ?_
 rintro v11 w9 ⟨hg10, a12, c13, rfl, ho14, hl15⟩
 have hB17 := bg hB0 hg3 nb
 have hl16 : ∀ g, blk a12 = some g → w0.heap.size ≤ g := fun g e => Nat.le_trans hB17.size (hl15 g e)
 refine pN 1 [5] [(5, (.agg #[(.int .i64 2), (.bool r7.1), (.slice a12 (length r7.2) c13), (.bool false), (.slice none (length ([] : List Int)) 0), (.string (strOf [])), (.int .i64 0)]))] ?_
 have hk22 := hb4.grown hg10 nb
 refine gv_store0 41 0 (.agg #[(.int .i64 2), (.bool r7.1), (.slice a12 (length r7.2) c13), (.bool false), (.slice none (length ([] : List Int)) 0), (.string (strOf [])), (.int .i64 0)]) #[(.int .i64 2), (.bool r7.1), (.slice a12 (length r7.2) c13), (.bool false), (.slice none (length ([] : List Int)) 0), (.string (strOf [])), (.int .i64 0)] hk22 kr kr kr ?_
 intro w18 hg19 hb20 hz21
 refine gv_nil <| gv_cret ?_
 have e := sj h0; subst e
 refine gv_ret (gv_done [(.agg #[(.int .i64 2), (.bool r7.1), (.slice a12 (length r7.2) c13), (.bool false), (.slice none (length ([] : List Int)) 0), (.string (strOf [])), (.int .i64 0)])] rfl ⟨⟨⟨b1, 0, none⟩, kr, run_loadVar_row w18 b1 _ 41 _ _ _ hb20 Tryz.underlying41 rfl kr⟩, trivial⟩ ?_)
 have hB23 := bg hB17 hg10 nb
 have hlo24 : w0.heap.size ≤ b1 := lob hbe5 hB0.size
 have hB25 := bg hB23 hg19 (rowlo hlo24)
 have ap26 : ¬ (fun k => blk a12 = some k) b1 := fun hx => nl ((show ∀ k, blk a12 = some k → w2.heap.size ≤ k from hl15) _ hx) ((ltb hb4) _ rfl)
 have hk27 := ho14.grown hg19 (fun _ h => h.elim) (rdnn (rowne ap26))
 exact ⟨grown_of_below hB25, a12, c13, none, 0, rfl, hk27, hl16, (Gv.Own.nil (iE .u32) 107 w18 (fun _ => False)), (fun _ h => by cases h), (fun _ _ h => by cases h)⟩

theorem packing_natural_ok (fuel : Nat) (u_0 : Int) (w0 : World)  (r0 : (Int × (Bool × (List Int)) × (Bool × (List Int)) × ByteArray × Int)) (h0 : packing_natural fuel u_0 = some r0) :
    Calls Tryz.prog 66 ([(.int .u64 u_0)] : List Value).toArray w0 (Ret fun v w' => w0.grownBy w' none ∧ ∃ (a0_0r : Option Addr) (c0_0r : Nat), ∃ (a0_1r : Option Addr) (c0_1r : Nat), v = tup [(.agg #[(.int .i64 r0.1), (.bool r0.2.1.1), (.slice a0_0r (length r0.2.1.2) c0_0r), (.bool r0.2.2.1.1), (.slice a0_1r (length r0.2.2.1.2) c0_1r), (.string r0.2.2.2.1), (.int .i64 r0.2.2.2.2)])] ∧ Gv.Own (iE .u32) 107 w' (fun _ => False) a0_0r c0_0r r0.2.1.2 ∧ (∀ g, blk a0_0r = some g → w0.heap.size ≤ g) ∧ Gv.Own (iE .u32) 107 w' (fun _ => False) a0_1r c0_1r r0.2.2.1.2 ∧ (∀ g, blk a0_1r = some g → w0.heap.size ≤ g) ∧ (∀ g, blk a0_0r = some g → blk a0_1r ≠ some g)) := by
 have hB0 : Below w0.heap.size w0 w0 := Below.refl _ _
 unfold packing_natural at h0
 refine calls_run Tryz.func66 rfl Tryz.ntmps66 kr ?_
 refine gv_sub [0] (σ' := [(0, (.int .u64 u_0))]) kr ?_
 refine gv_seq <| gv_region <| gv_new0 (fun b => .pointer (some ⟨b, 0, none⟩)) #[(.int .i64 0), (.bool false), (.slice none (length ([] : List Int)) 0), (.bool false), (.slice none (length ([] : List Int)) 0), (.string (strOf [])), (.int .i64 0)] 41 kr kr ?_
 intro b1 w2 hg3 hb4 hbe5 hz6
 refine gv_nil <| gv_seq <| gv_region <| pN 2 [4, 5] [(5, (.int .i64 (IntKind.i64.wrap (u_0))))] ?_
 refine bindE h0 ?_; clear h0; intro r7 hr8 h0
 refine gv_call0 kr rfl kr enters65 (packing_whole_ok fuel (IntKind.i64.wrap (u_0)) w2  r7 hr8) ?_
 rintro v11 w9 ⟨hg10, a12, c13, a16, c17, rfl, ho14, hl15, ho18, hl19, ap20⟩
 have hB22 := bg hB0 hg3 nb
 have hl21 : ∀ g, blk a12 = some g → w0.heap.size ≤ g := fun g e => Nat.le_trans hB22.size (hl15 g e)
 have hl23 : ∀ g, blk a16 = some g → w0.heap.size ≤ g := fun g e => Nat.le_trans hB22.size (hl19 g e)
 refine gv_new0 (fun b => .pointer (some ⟨b, 0, none⟩)) #[(.int .i64 0), (.bool false), (.slice none (length ([] : List Int)) 0), (.bool false), (.slice none (length ([] : List Int)) 0), (.string (strOf [])), (.int .i64 0)] 41 kr kr ?_
 intro b24 w25 hg26 hb27 hbe28 hz29
 refine gv_store0 41 0 (.agg #[(.int .i64 r7.1), (.bool r7.2.1.1), (.slice a12 (length r7.2.1.2) c13), (.bool r7.2.2.1.1), (.slice a16 (length r7.2.2.1.2) c17), (.string r7.2.2.2.1), (.int .i64 r7.2.2.2.2)]) #[(.int .i64 r7.1), (.bool r7.2.1.1), (.slice a12 (length r7.2.1.2) c13), (.bool r7.2.2.1.1), (.slice a16 (length r7.2.2.1.2) c17), (.string r7.2.2.2.1), (.int .i64 r7.2.2.2.2)] hb27 kr kr kr ?_
 intro w30 hg31 hb32 hz33
 refine gv_nil <| gv_seq <| gv_seq <| gv_region <| pN 3 [7, 8, 9] [(9, (.bool (((u_0).fdiv (2 ^ 63)) == 1)))] ?_
 refine gv_nil <| bindE h0 ?_; clear h0; intro j34 h1 h0
 refine gv_cut_code (J := fun a w35 => ∃ (abb24_0j : Option Addr) (cbb24_0j : Nat), ∃ (abb24_1j : Option Addr) (cbb24_1j : Nat), Below w0.heap.size w0 w35 ∧ w30.heap.size ≤ w35.heap.size ∧ Gv.Own (iE .u32) 107 w35 (fun _ => False) abb24_0j cbb24_0j j34.2.1.2 ∧ (∀ g, blk abb24_0j = some g → w0.heap.size ≤ g) ∧ Gv.Own (iE .u32) 107 w35 (fun _ => False) abb24_1j cbb24_1j j34.2.2.1.2 ∧ (∀ g, blk abb24_1j = some g → w0.heap.size ≤ g) ∧ (∀ g, blk abb24_0j = some g → ¬ (fun k => blk abb24_1j = some k) g) ∧ (∀ g, blk abb24_0j = some g → ¬ (· = b1) g) ∧ (∀ g, blk abb24_0j = some g → ¬ (· = b24) g) ∧ ¬ (fun k => blk abb24_0j = some k) b1 ∧ ¬ (fun k => blk abb24_0j = some k) b24 ∧ (∀ g, blk abb24_1j = some g → ¬ (fun k => blk abb24_0j = some k) g) ∧ (∀ g, blk abb24_1j = some g → ¬ (· = b1) g) ∧ (∀ g, blk abb24_1j = some g → ¬ (· = b24) g) ∧ ¬ (fun k => blk abb24_1j = some k) b1 ∧ ¬ (fun k => blk abb24_1j = some k) b24 ∧ Box w35 b1 41 #[(.int .i64 0), (.bool false), (.slice none (length ([] : List Int)) 0), (.bool false), (.slice none (length ([] : List Int)) 0), (.string (strOf [])), (.int .i64 0)] ∧ Box w35 b24 41 #[(.int .i64 j34.1), (.bool j34.2.1.1), (.slice abb24_0j (length j34.2.1.2) cbb24_0j), (.bool j34.2.2.1.1), (.slice abb24_1j (length j34.2.2.1.2) cbb24_1j), (.string j34.2.2.2.1), (.int .i64 j34.2.2.2.2)] ∧ a.defers = [] ∧ a.tmps.size = 19 ∧ Ok [(2, (bp b1)), (3, (bp b24))] a.tmps) ?_ ?_
 ·skip
  refine gv_cond (b := (((u_0).fdiv (2 ^ 63)) == 1)) kr (fun hc36 => ?_) (fun hc36 => ?_)
  ·replace h1 := ite_t hc36 h1
   refine gv_region <| pN 5 [10, 11, 12, 13, 14] [(11, (.int .u32 (IntKind.u32.wrap (u_0)))), (14, (.int .u32 (IntKind.u32.wrap (((u_0).fdiv (2 ^ 32))))))] ?_
   refine gv_new0 (fun b => .slice (some ⟨b, 0, none⟩) 2 2) #[(.int .u32 (IntKind.u32.wrap (u_0))), (.int .u32 (IntKind.u32.wrap (((u_0).fdiv (2 ^ 32)))))] 107 kr kr ?_
   intro b37 w38 hg39 hb40 hbe41 hz42
   have ho43 : Gv.Own (iE .u32) 107 w38 (fun _ => False) (some ⟨b37, 0, none⟩) 2 ([(IntKind.u32.wrap (u_0)), (IntKind.u32.wrap (((u_0).fdiv (2 ^ 32))))] : List Int) := Box.ownE hb40 ⟨[(.int .u32 (IntKind.u32.wrap (u_0)))], [(.int .u32 (IntKind.u32.wrap (((u_0).fdiv (2 ^ 32)))))], rfl, rfl, ⟨[(.int .u32 (IntKind.u32.wrap (((u_0).fdiv (2 ^ 32)))))], [], rfl, rfl, rfl⟩⟩ (show 2 ≤ maxLen by decide) (fun h => h)
   have hg48 := (grown_trans hg10 hg26)
   have hB49 := bg hB22 hg48 nb
   have hB50 := bg hB22 hg10 nb
   have hlo51 : w0.heap.size ≤ b24 := lob hbe28 hB50.size
   have hB52 := bg hB49 hg31 (rowlo hlo51)
   have hl44 : ∀ g, blk (some ⟨b37, 0, none⟩) = some g → w0.heap.size ≤ g := loo hbe41 hB52.size
   refine pN 2 [16, 17] [(16, (.agg #[(.bool false), (.slice (some ⟨b37, 0, none⟩) (length ([(IntKind.u32.wrap (u_0)), (IntKind.u32.wrap (((u_0).fdiv (2 ^ 32))))] : List Int)) 2)])), (17, (.pointer (some ⟨b24, 1, none⟩)))] ?_
   have hk57 := hb32.grown hg39 nb
   refine gv_store0 39 1 (.agg #[(.bool false), (.slice (some ⟨b37, 0, none⟩) (length ([(IntKind.u32.wrap (u_0)), (IntKind.u32.wrap (((u_0).fdiv (2 ^ 32))))] : List Int)) 2)]) #[(.int .i64 r7.1), (.bool false), (.slice (some ⟨b37, 0, none⟩) (length ([(IntKind.u32.wrap (u_0)), (IntKind.u32.wrap (((u_0).fdiv (2 ^ 32))))] : List Int)) 2), (.bool r7.2.2.1.1), (.slice a16 (length r7.2.2.1.2) c17), (.string r7.2.2.2.1), (.int .i64 r7.2.2.2.2)] hk57 kr kr kr ?_
   intro w53 hg54 hb55 hz56
   refine gv_nil ?_
   have e := sj h1; subst e
   refine gv_goal fun a hd hs hok => ?_
   have hB58 := bg hB52 hg39 nb
   have hB59 := bg hB58 hg54 (rowlo hlo51)
   have hz60 := (nt hg39.size hg54.size)
   have ap61 : ¬ (fun k => blk (some ⟨b37, 0, none⟩) = some k) b24 := fun hx => nl ((lowo hbe41) _ hx) ((ltb hb32) _ rfl)
   have hk62 := ho43.grown hg54 (fun _ h => h.elim) (rdnn (rowne ap61))
   have ap63 : ¬ (fun k => blk a16 = some k) b24 := fun hx => nl ((lowb hbe28) _ rfl) ((fun k (hk : blk a16 = some k) => ho18.lt k hk) _ hx)
   have hk64 := (((ho18.grown hg26 (fun _ h => h.elim) nb).grown hg31 (fun _ h => h.elim) (rdnn (rowne ap63))).grown hg39 (fun _ h => h.elim) nb).grown hg54 (fun _ h => h.elim) (rdnn (rowne ap63))
   have hk65 := (ho18.grown hg26 (fun _ h => h.elim) nb).grown hg31 (fun _ h => h.elim) (rdnn (rowne ap63))
   have ap66 : ∀ g, blk (some ⟨b37, 0, none⟩) = some g → ¬ (fun k => blk a16 = some k) g := fun g e hx => nl ((lowo hbe41) g e) ((fun k (hk : blk a16 = some k) => hk65.lt k hk) _ hx)
   have hk67 := hb4.grown hg10 nb
   have lt68 := ltl ((ltb hk67) _ rfl) ((lowb hbe28) _ rfl)
   have hk69 := (hb4.grown hg48 nb).grown hg31 (rowne (ng lt68))
   have ap70 : ∀ g, blk (some ⟨b37, 0, none⟩) = some g → ¬ (· = b1) g := fun g e hx => nl ((lowo hbe41) g e) ((ltb hk69) _ hx)
   have ap71 : ∀ g, blk (some ⟨b37, 0, none⟩) = some g → ¬ (· = b24) g := fun g e hx => nl ((lowo hbe41) g e) ((ltb hb32) _ hx)
   have ap72 : ¬ (fun k => blk (some ⟨b37, 0, none⟩) = some k) b1 := fun hx => nl ((lowo hbe41) _ hx) ((ltb hk69) _ rfl)
   have ap73 : ∀ g, blk a16 = some g → ¬ (fun k => blk (some ⟨b37, 0, none⟩) = some k) g := fun g e hx => nl ((lowo hbe41) _ hx) ((fun k (hk : blk a16 = some k) => hk65.lt k hk) g e)
   have ap74 : ∀ g, blk a16 = some g → ¬ (· = b1) g := fun g e hx => nl ((show ∀ k, blk a16 = some k → w2.heap.size ≤ k from hl19) g e) ((ltb hb4) _ hx)
   have ap75 : ∀ g, blk a16 = some g → ¬ (· = b24) g := fun g e hx => nl ((lowb hbe28) _ hx) ((fun k (hk : blk a16 = some k) => ho18.lt k hk) g e)
   have ap76 : ¬ (fun k => blk a16 = some k) b1 := fun hx => nl ((show ∀ k, blk a16 = some k → w2.heap.size ≤ k from hl19) _ hx) ((ltb hb4) _ rfl)
   have hk77 := (hk69.grown hg39 nb).grown hg54 (rowne (ng lt68))
   exact ⟨(some ⟨b37, 0, none⟩), 2, a16, c17, hB59, hz60, hk62, hl44, hk64, hl23, ap66, ap70, ap71, ap72, ap61, ap73, ap74, ap75, ap76, ap63, hk77, hb55, hd, hs, okp [2, 3] hok⟩
  ·replace h1 := ite_f hc36 h1
   refine gv_skip ?_
   have e := sj h1; subst e
   refine gv_goal fun a hd hs hok => ?_
   have hg78 := (grown_trans hg10 hg26)
   have hB79 := bg hB22 hg78 nb
   have hB80 := bg hB22 hg10 nb
   have hlo81 : w0.heap.size ≤ b24 := lob hbe28 hB80.size
   have hB82 := bg hB79 hg31 (rowlo hlo81)
   have ap83 : ¬ (fun k => blk a12 = some k) b24 := fun hx => nl ((lowb hbe28) _ rfl) ((fun k (hk : blk a12 = some k) => ho14.lt k hk) _ hx)
   have hk84 := (ho14.grown hg26 (fun _ h => h.elim) nb).grown hg31 (fun _ h => h.elim) (rdnn (rowne ap83))
   have ap85 : ¬ (fun k => blk a16 = some k) b24 := fun hx => nl ((lowb hbe28) _ rfl) ((fun k (hk : blk a16 = some k) => ho18.lt k hk) _ hx)
   have hk86 := (ho18.grown hg26 (fun _ h => h.elim) nb).grown hg31 (fun _ h => h.elim) (rdnn (rowne ap85))
   have ap87 : ∀ g, blk a12 = some g → ¬ (· = b1) g := fun g e hx => nl ((show ∀ k, blk a12 = some k → w2.heap.size ≤ k from hl15) g e) ((ltb hb4) _ hx)
   have ap88 : ∀ g, blk a12 = some g → ¬ (· = b24) g := fun g e hx => nl ((lowb hbe28) _ hx) ((fun k (hk : blk a12 = some k) => ho14.lt k hk) g e)
   have ap89 : ¬ (fun k => blk a12 = some k) b1 := fun hx => nl ((show ∀ k, blk a12 = some k → w2.heap.size ≤ k from hl15) _ hx) ((ltb hb4) _ rfl)
   have ap90 : ∀ g, blk a16 = some g → ¬ (· = b1) g := fun g e hx => nl ((show ∀ k, blk a16 = some k → w2.heap.size ≤ k from hl19) g e) ((ltb hb4) _ hx)
   have ap91 : ∀ g, blk a16 = some g → ¬ (· = b24) g := fun g e hx => nl ((lowb hbe28) _ hx) ((fun k (hk : blk a16 = some k) => ho18.lt k hk) g e)
   have ap92 : ¬ (fun k => blk a16 = some k) b1 := fun hx => nl ((show ∀ k, blk a16 = some k → w2.heap.size ≤ k from hl19) _ hx) ((ltb hb4) _ rfl)
   have hk93 := hb4.grown hg10 nb
   have lt94 := ltl ((ltb hk93) _ rfl) ((lowb hbe28) _ rfl)
   have hk95 := (hb4.grown hg78 nb).grown hg31 (rowne (ng lt94))
   exact ⟨a12, c13, a16, c17, hB82, nrf, hk84, hl21, hk86, hl23, ap20, ap87, ap88, ap89, ap83, (apart_symm ap20), ap90, ap91, ap92, ap85, hk95, hb32, hd, hs, okp [2, 3] hok⟩
 ·rintro a w35 ⟨a98, c99, a100, c101, hB96, hz97, ho102, hl103, ho104, hl105, ap106, ap107, ap108, ap109, ap110, ap111, ap112, ap113, ap114, ap115, hb116, hb117, hd, hs, hok⟩
  refine gv_in ?_ hd hs hok
  clear hd hs hok
  clear hz97 hz33 hb32 hg31 hz29 hb27 hg26 hl23 hl21 ap20 hl19 ho18 hl15 ho14 hr8 hz6 hg3
  refine gv_seq <| gv_region <| gv_loadBox (t := 41) (b := b24) (t' := 41) (fr := (0, 0)) #[(.int .i64 j34.1), (.bool j34.2.1.1), (.slice a98 (length j34.2.1.2) c99), (.bool j34.2.2.1.1), (.slice a100 (length j34.2.2.1.2) c101), (.string j34.2.2.2.1), (.int .i64 j34.2.2.2.2)] [] (fun e => by cases e) rfl rfl rfl kr kr kr kr (inw0 hb117) rfl ?_
  refine gv_store0 41 0 (.agg #[(.int .i64 j34.1), (.bool j34.2.1.1), (.slice a98 (length j34.2.1.2) c99), (.bool j34.2.2.1.1), (.slice a100 (length j34.2.2.1.2) c101), (.string j34.2.2.2.1), (.int .i64 j34.2.2.2.2)]) #[(.int .i64 j34.1), (.bool j34.2.1.1), (.slice a98 (length j34.2.1.2) c99), (.bool j34.2.2.1.1), (.slice a100 (length j34.2.2.1.2) c101), (.string j34.2.2.2.1), (.int .i64 j34.2.2.2.2)] hb116 kr kr kr ?_
  intro w118 hg119 hb120 hz121
  refine gv_nil <| gv_cret ?_
  have e := sj h0; subst e
  refine gv_ret (gv_done [(.agg #[(.int .i64 j34.1), (.bool j34.2.1.1), (.slice a98 (length j34.2.1.2) c99), (.bool j34.2.2.1.1), (.slice a100 (length j34.2.2.1.2) c101), (.string j34.2.2.2.1), (.int .i64 j34.2.2.2.2)])] rfl ⟨⟨⟨b1, 0, none⟩, kr, run_loadVar_row w118 b1 _ 41 _ _ _ hb120 Tryz.underlying41 rfl kr⟩, trivial⟩ ?_)
  have hlo122 : w0.heap.size ≤ b1 := lob hbe5 hB0.size
  have hB123 := bg hB96 hg119 (rowlo hlo122)
  have hk124 := ho102.grown hg119 (fun _ h => h.elim) (rdnn (rowne ap109))
  have hk125 := ho104.grown hg119 (fun _ h => h.elim) (rdnn (rowne ap114))
  exact ⟨grown_of_below hB123, a98, c99, a100, c101, rfl, hk124, hl103, hk125, hl105, ap106⟩

theorem packing_reader_fixed_ok (fuel : Nat) (pb0 : Nat) (pa0_0 : Option Addr) (pc0_0 : Nat) (r_0 : ((List UInt8) × Int)) (f_1 : (Int × Int × Bool)) (n_2 : Int) (signed_3 : Bool) (w0 : World) (X0 : Nat → Prop) (hX0 : ∀ k, X0 k → k < w0.heap.size ∧ k ≠ pb0) (hp0 : Box w0 pb0 47 #[(.slice pa0_0 (length r_0.1) pc0_0), (.int .i64 r_0.2)]) (hpa0_0 : Rd bE w0 X0 pa0_0 pc0_0 r_0.1) (r0 : ((Int × (Bool × (List Int)) × (Bool × (List Int)) × ByteArray × Int) × Int × ((List UInt8) × Int))) (h0 : packing_reader_fixed fuel r_0 f_1 n_2 signed_3 = some r0) :
    Calls Tryz.prog 40 ([(bp pb0), (.agg #[(.int .u8 f_1.1), (.int .i64 f_1.2.1), (.bool f_1.2.2)]), (.int .i64 n_2), (.bool signed_3)] : List Value).toArray w0 (Ret fun v w' => w0.grownBy w' (some pb0) ∧ ∃ (a0_0r : Option Addr) (c0_0r : Nat), ∃ (a0_1r : Option Addr) (c0_1r : Nat), v = tup [(.agg #[(.int .i64 r0.1.1), (.bool r0.1.2.1.1), (.slice a0_0r (length r0.1.2.1.2) c0_0r), (.bool r0.1.2.2.1.1), (.slice a0_1r (length r0.1.2.2.1.2) c0_1r), (.string r0.1.2.2.2.1), (.int .i64 r0.1.2.2.2.2)]), (.int .i64 r0.2.1)] ∧ Gv.Own (iE .u32) 107 w' (fun _ => False) a0_0r c0_0r r0.1.2.1.2 ∧ (∀ g, blk a0_0r = some g → w0.heap.size ≤ g) ∧ Gv.Own (iE .u32) 107 w' (fun _ => False) a0_1r c0_1r r0.1.2.2.1.2 ∧ (∀ g, blk a0_1r = some g → w0.heap.size ≤ g) ∧ (∀ g, blk a0_0r = some g → blk a0_1r ≠ some g) ∧ Box w' pb0 47 #[(.slice pa0_0 (length r_0.1) pc0_0), (.int .i64 r0.2.2.2)]) := by
 have hB0 : w0.grownBy w0 (some pb0) := grown_refl _ _
 unfold packing_reader_fixed at h0
 refine calls_run Tryz.func40 rfl Tryz.ntmps40 kr ?_
 refine gv_sub [0, 1, 2, 3] (σ' := [(0, (bp pb0)), (1, (.agg #[(.int .u8 f_1.1), (.int .i64 f_1.2.1), (.bool f_1.2.2)])), (2, (.int .i64 n_2)), (3, (.bool signed_3))]) kr ?_
 have hpl0 := hp0.lt
 refine gv_seq <| gv_region <| gv_new0 (fun b => .pointer (some ⟨b, 0, none⟩)) #[(.int .u8 f_1.1), (.int .i64 f_1.2.1), (.bool f_1.2.2)] 49 kr kr ?_
 intro b1 w2 hg3 hb4 hbe5 hz6
 refine gv_new0 (fun b => .pointer (some ⟨b, 0, none⟩)) #[(.int .i64 0), (.bool false), (.slice none (length ([] : List Int)) 0), (.bool false), (.slice none (length ([] : List Int)) 0), (.string (strOf [])), (.int .i64 0)] 41 kr kr ?_
 intro b7 w8 hg9 hb10 hbe11 hz12
 refine pN 1 [9] [] ?_
 refine gv_nil <| gv_seq <| gv_region <| pN 2 [17, 18] [(17, (bp pb0)), (18, (.int .i64 n_2))] ?_
 refine bindE h0 ?_; clear h0; intro r13 hr14 h0
 have hg15 := (grown_trans hg3 hg9)
 have hB16 := grown_step hB0 hg15 nb
 have hk17 := hp0.grown hg15 nb
 refine gv_call0 kr rfl kr enters42 (packing_reader_take_ok fuel pb0 pa0_0 pc0_0 (r_0.1, r_0.2) n_2 w8 (fun k => X0 k) (fun k hk => ⟨(fun k (hk : X0 k) => ltl (hX0 k hk).1 hB16.size) k hk, fun e => (fun (hx : X0 pb0) => (hX0 _ hx).2 rfl) (e ▸ hk)⟩) hk17 ((hpa0_0.grown hB16 (fun k hk => (hX0 k hk).1) (fun g e hk => by cases e; exact (hX0 _ hk).2 rfl)).wide (fun k hk => hk)) r13 hr14) ?_
 rintro v20 w18 ⟨hg19, a21, c22, X24, rfl, ho23, hx25, hb26⟩
 have hx27 : ∀ k, X24 k → k < w18.heap.size := fun k hk => (hx25 k hk).1
 have hx28 : ∀ k, X24 k → X0 k ∨ w0.heap.size ≤ k := fun k hk => (hx25 k hk).2.elim (fun h => (fun k (hk : X0 k) => Or.inl hk) k h) (fun h => .inr (Nat.le_trans hB16.size h))
 refine pN 5 [10, 11, 16, 20, 21] [(10, (.slice a21 (length r13.1) c22)), (11, (.bool r13.2.1))] ?_
 refine gv_nil <| gv_seq <| gv_seq <| gv_region <| pN 2 [22, 23] [(23, (.bool (!r13.2.1)))] ?_
 refine gv_nil <| gv_cond (b := (!r13.2.1)) kr (fun hc29 => ?_) (fun hc29 => ?_)
 ·replace h0 := ite_t hc29 h0
  refine gv_seq <| gv_region <| pN 1 [24] [(24, (.agg #[(.int .i64 0), (.bool false), (.slice none (length ([] : List Int)) 0), (.bool false), (.slice none (length ([] : List Int)) 0), (.string (strOf [])), (.int .i64 0)]))] ?_
  have hk34 := hp0.grown hg3 nb
  have ap35 : ¬ (· = b7) pb0 := fun hx => nl ((lowb hbe11) _ hx) ((ltb hk34) _ rfl)
  have hk36 := hb10.grown hg19 (rowne ap35)
  refine gv_store0 41 0 (.agg #[(.int .i64 0), (.bool false), (.slice none (length ([] : List Int)) 0), (.bool false), (.slice none (length ([] : List Int)) 0), (.string (strOf [])), (.int .i64 0)]) #[(.int .i64 0), (.bool false), (.slice none (length ([] : List Int)) 0), (.bool false), (.slice none (length ([] : List Int)) 0), (.string (strOf [])), (.int .i64 0)] hk36 kr kr kr ?_
  intro w30 hg31 hb32 hz33
  refine pN 1 [9] [(9, (.int .i64 15))] ?_
  refine gv_nil <| gv_cret ?_
  have e := sj h0; subst e
  refine gv_ret (gv_done [(.agg #[(.int .i64 0), (.bool false), (.slice none (length ([] : List Int)) 0), (.bool false), (.slice none (length ([] : List Int)) 0), (.string (strOf [])), (.int .i64 0)]), (.int .i64 15)] rfl ⟨⟨⟨b7, 0, none⟩, kr, run_loadVar_row w30 b7 _ 41 _ _ _ hb32 Tryz.underlying41 rfl kr⟩, kr, trivial⟩ ?_)
  have hB37 := grown_step hB16 hg19 rowpp
  have hB38 := grown_step hB0 hg3 nb
  have hlo39 : w0.heap.size ≤ b7 := lob hbe11 hB38.size
  have hB40 := grown_step hB37 hg31 (rowppr hlo39)
  have ap41 : ¬ (· = pb0) b7 := fun hx => nl ((lowb hbe11) _ rfl) ((ltb hk34) _ hx)
  have hk42 := hb26.grown hg31 (rowne ap41)
  exact ⟨hB40, none, 0, none, 0, rfl, (Gv.Own.nil (iE .u32) 107 w30 (fun _ => False)), (fun _ h => by cases h), (Gv.Own.nil (iE .u32) 107 w30 (fun _ => False)), (fun _ h => by cases h), (fun _ h => by cases h), hk42⟩
 ·replace h0 := ite_f hc29 h0
  refine gv_skip <| gv_seq <| gv_region <| pN 1 [12] [(12, (.int .u64 0))] ?_
  refine gv_nil <| gv_seq <| gv_seq <| gv_region <| pN 3 [25, 26, 27] [(25, (.slice a21 (length r13.1) c22)), (26, (.int .i64 ((length r13.1 : Nat) : Int))), (27, (.int .i64 0))] ?_
  refine gv_nil <| bindE h0 ?_; clear h0; intro j43 h1 h0
  refine gv_cut_code (J := fun a w44 => w0.grownBy w44 (some pb0) ∧ w18.heap.size ≤ w44.heap.size ∧ Box w44 pb0 47 #[(.slice pa0_0 (length r_0.1) pc0_0), (.int .i64 r13.2.2.2)] ∧ Box w44 b7 41 #[(.int .i64 0), (.bool false), (.slice none (length ([] : List Int)) 0), (.bool false), (.slice none (length ([] : List Int)) 0), (.string (strOf [])), (.int .i64 0)] ∧ a.defers = [] ∧ a.tmps.size = 61 ∧ Ok [(2, (.int .i64 n_2)), (3, (.bool signed_3)), (8, (bp b7)), (12, (.int .u64 j43))] a.tmps) ?_ ?_
  ·skip
   refine gv_block <| gv_loop (A := fun (s45 : (Int × Int)) a w46 => w0.grownBy w46 (some pb0) ∧ w18.heap.size ≤ w46.heap.size ∧ Box w46 pb0 47 #[(.slice pa0_0 (length r_0.1) pc0_0), (.int .i64 r13.2.2.2)] ∧ Box w46 b1 49 #[(.int .u8 f_1.1), (.int .i64 f_1.2.1), (.bool f_1.2.2)] ∧ Box w46 b7 41 #[(.int .i64 0), (.bool false), (.slice none (length ([] : List Int)) 0), (.bool false), (.slice none (length ([] : List Int)) 0), (.string (strOf [])), (.int .i64 0)] ∧ Rd bE w46 X24 a21 c22 r13.1 ∧ a.defers = [] ∧ a.tmps.size = 61 ∧ Ok [(2, (.int .i64 n_2)), (3, (.bool signed_3)), (5, (bp b1)), (8, (bp b7)), (12, (.int .u64 s45.1)), (25, (.slice a21 (length r13.1) c22)), (26, (.int .i64 ((length r13.1 : Nat) : Int))), (27, (.int .i64 s45.2))] a.tmps) h1 ?_ ?_
   ·intro a hd hs hok
    have hB47 := grown_step hB16 hg19 rowpp
    have ap48 : ¬ (· = b1) pb0 := fun hx => nl ((lowb hbe5) _ hx) ((ltb hp0) _ rfl)
    have hk49 := (hb4.grown hg9 nb).grown hg19 (rowne ap48)
    have hk50 := hp0.grown hg3 nb
    have ap51 : ¬ (· = b7) pb0 := fun hx => nl ((lowb hbe11) _ hx) ((ltb hk50) _ rfl)
    have hk52 := hb10.grown hg19 (rowne ap51)
    exact ⟨hB47, nrf, hb26, hk49, hk52, ho23, hd, hs, okp [2, 3, 5, 8, 12, 25, 26, 27] hok⟩
   ·rintro s45 r2 h2 hR2 a w46 ⟨hB53, hz54, hb55, hb56, hb57, hk58, hd, hs, hok⟩
    refine gv_in ?_ hd hs hok
    clear hd hs hok
    clear hc29 hb26 ho23 hg19 hk17 hB16 hg15 hr14 hz12 hz6
    refine gv_seq <| gv_region <| pN 1 [28] [(28, (.bool (decide (s45.2 < ((length r13.1 : Nat) : Int)))))] ?_
    refine gv_nil <| gv_seq <| gv_cond (b := (decide (s45.2 < ((length r13.1 : Nat) : Int)))) kr (fun hc59 => ?_) (fun hc59 => ?_)
    ·replace h2 := ite_t hc59 h2
     refine gv_skip <| gv_seq <| gv_block <| gv_seq <| gv_region <| pN 1 [29] [(29, (.int .i64 s45.2))] ?_
     refine bindE h2 ?_; clear h2; intro x60 hx61 h2
     refine gv_idxaddr (t := 23) (e := 5) (a := a21) (len := length r13.1) (cap := c22) (kk := .i64) (i := s45.2) (sz := 1) [] (fun e => by cases e) rfl rfl rfl kr kr Tryz.underlying23 kr (hk58.has hx61) (idx_spec hx61).1 (idx_spec hx61).2.1 rfl ?_
     refine gv_load (t := 5) (A := (elemAddr a21 ((s45.2 : Int).toNat * 1))) (.int .u8 ((x60).toNat : Int)) [] (fun e => by cases e) rfl rfl rfl kr kr kr (inw0 (hk58.cell hx61)) rfl ?_
     refine pN 2 [13, 14] [(13, (.int .i64 s45.2)), (14, (.int .u8 ((x60).toNat : Int)))] ?_
     refine gv_nil <| gv_seq <| gv_region <| pN 2 [15, 32] [(15, (.int .i64 s45.2))] ?_
     refine gv_nil <| gv_seq <| gv_seq <| gv_region <| pN 1 [33] [(33, (.pointer (some ⟨b1, 2, none⟩)))] ?_
     refine gv_load (t := 4) (A := ⟨b1, 2, none⟩) (.bool f_1.2.2) [] (fun e => by cases e) rfl rfl rfl kr kr kr (inw0 (hb56.cell 2 rfl)) rfl ?_
     refine gv_nil <| bindE h2 ?_; clear h2; intro j62 h3 h2
     refine gv_cut_code (J := fun a w63 => w0.grownBy w63 (some pb0) ∧ w46.heap.size ≤ w63.heap.size ∧ Box w63 pb0 47 #[(.slice pa0_0 (length r_0.1) pc0_0), (.int .i64 r13.2.2.2)] ∧ Box w63 b1 49 #[(.int .u8 f_1.1), (.int .i64 f_1.2.1), (.bool f_1.2.2)] ∧ Box w63 b7 41 #[(.int .i64 0), (.bool false), (.slice none (length ([] : List Int)) 0), (.bool false), (.slice none (length ([] : List Int)) 0), (.string (strOf [])), (.int .i64 0)] ∧ Rd bE w63 X24 a21 c22 r13.1 ∧ a.defers = [] ∧ a.tmps.size = 61 ∧ Ok [(2, (.int .i64 n_2)), (3, (.bool signed_3)), (5, (bp b1)), (8, (bp b7)), (12, (.int .u64 s45.1)), (14, (.int .u8 ((x60).toNat : Int))), (15, (.int .i64 j62)), (25, (.slice a21 (length r13.1) c22)), (26, (.int .i64 ((length r13.1 : Nat) : Int))), (27, (.int .i64 s45.2))] a.tmps) ?_ ?_
     ·skip
      refine gv_cond (b := f_1.2.2) kr (fun hc64 => ?_) (fun hc64 => ?_)
      ·replace h3 := ite_t hc64 h3
       refine gv_region <| pN 5 [15, 35, 36, 37, 38] [(15, (.int .i64 (IntKind.i64.wrap ((IntKind.i64.wrap (n_2 - 1)) - s45.2))))] ?_
       refine bindE h3 ?_; clear h3; intro n65 hn66 h3
       refine gv_name (s := 15) (v := (.int .i64 (IntKind.i64.wrap ((IntKind.i64.wrap (n_2 - 1)) - s45.2)))) (v' := (.int .i64 n65)) kr (congrArg (Value.int .i64) (sj hn66)) ?_
       refine gv_nil ?_
       have e := sj h3; subst e
       refine gv_goal fun a hd hs hok => ?_
       exact ⟨hB53, nrf, hb55, hb56, hb57, hk58, hd, hs, okp [2, 3, 5, 8, 12, 14, 15, 25, 26, 27] hok⟩
      ·replace h3 := ite_f hc64 h3
       refine gv_skip ?_
       have e := sj h3; subst e
       refine gv_goal fun a hd hs hok => ?_
       exact ⟨hB53, nrf, hb55, hb56, hb57, hk58, hd, hs, okp [2, 3, 5, 8, 12, 14, 15, 25, 26, 27] hok⟩
     ·rintro a w63 ⟨hB67, hz68, hb69, hb70, hb71, hk72, hd, hs, hok⟩
      refine gv_in ?_ hd hs hok
      clear hd hs hok
      have hz73 := (nt hz54 hz68)
      clear hx61 hc59 hk58 hb57 hb56 hb55 hB53
      refine gv_region <| pN 5 [39, 40, 41, 42, 43] [(39, (.int .u64 s45.1)), (41, (.int .u64 (IntKind.u64.wrap (((x60).toNat : Int))))), (43, (.int .i64 (IntKind.i64.wrap (8 * j62))))] ?_
      refine bindE h2 ?_; clear h2; intro _ hx74 h2
      refine gv_shift .shl (t := 100) (kk := .u64) (ky := .i64) (x := (IntKind.u64.wrap (((x60).toNat : Int)))) (y := (IntKind.i64.wrap (8 * j62))) (shlI .u64 (IntKind.u64.wrap (((x60).toNat : Int))) (IntKind.i64.wrap (8 * j62))) [] (fun e => by cases e) rfl rfl rfl kr kr (nn_spec hx74) (.inl ⟨rfl, rfl⟩) rfl ?_
      refine pN 2 [12, 45] [(12, (.int .u64 (bwOr .u64 s45.1 (shlI .u64 (IntKind.u64.wrap (((x60).toNat : Int))) (IntKind.i64.wrap (8 * j62))))))] ?_
      refine bindE h2 ?_; clear h2; intro n75 hn76 h2
      refine gv_name (s := 12) (v := (.int .u64 (bwOr .u64 s45.1 (shlI .u64 (IntKind.u64.wrap (((x60).toNat : Int))) (IntKind.i64.wrap (8 * j62)))))) (v' := (.int .u64 n75)) kr (congrArg (Value.int .u64) (sj hn76)) ?_
      refine gv_nil <| gv_blk <| gv_region <| pN 2 [27, 46] [(27, (.int .i64 (IntKind.i64.wrap (s45.2 + 1))))] ?_
      refine gv_nil ?_
      have e := sj h2; subst e
      refine gv_goal fun a hd hs hok => ?_
      have hz77 := hz73
      exact ⟨(n75, (IntKind.i64.wrap (s45.2 + 1))), rfl, hB67, hz77, hb69, hb70, hb71, hk72, hd, hs, okp [2, 3, 5, 8, 12, 25, 26, 27] hok⟩
    ·replace h2 := ite_f hc59 h2
     refine gv_cexit <| gv_exit rfl ?_
     have e := sj h2; subst e
     replace h1 := congrArg some (hR2 _ rfl)
     have e := sj h1; subst e
     refine gv_goal fun a hd hs hok => ?_
     have hz78 := hz54
     exact ⟨hB53, hz78, hb55, hb57, hd, hs, okp [2, 3, 8, 12] hok⟩
  ·rintro a w44 ⟨hB79, hz80, hb81, hb82, hd, hs, hok⟩
   refine gv_in ?_ hd hs hok
   clear hd hs hok
   clear hz80 hc29 hx28 hx27 hb26 hx25 ho23 hg19 hk17 hB16 hg15 hr14 hz12 hb10 hg9 hz6 hbe5 hb4
   refine gv_seq <| gv_seq <| gv_region <| pN 1 [47] [(47, (.bool signed_3))] ?_
   refine gv_nil <| gv_cond (b := signed_3) kr (fun hc83 => ?_) (fun hc83 => ?_)
   ·replace h0 := ite_t hc83 h0
    refine gv_seq <| gv_region <| pN 4 [48, 49, 50, 51] [(48, (.int .u64 j43)), (51, (.int .i64 (IntKind.i64.wrap (64 - (IntKind.i64.wrap (8 * n_2))))))] ?_
    refine bindE h0 ?_; clear h0; intro _ hx84 h0
    refine gv_shift .shl (t := 100) (kk := .u64) (ky := .i64) (x := j43) (y := (IntKind.i64.wrap (64 - (IntKind.i64.wrap (8 * n_2))))) (shlI .u64 j43 (IntKind.i64.wrap (64 - (IntKind.i64.wrap (8 * n_2))))) [] (fun e => by cases e) rfl rfl rfl kr kr (nn_spec hx84) (.inl ⟨rfl, rfl⟩) rfl ?_
    refine pN 4 [53, 54, 55, 56] [(53, (.int .i64 (IntKind.i64.wrap ((shlI .u64 j43 (IntKind.i64.wrap (64 - (IntKind.i64.wrap (8 * n_2))))))))), (56, (.int .i64 (IntKind.i64.wrap (64 - (IntKind.i64.wrap (8 * n_2))))))] ?_
    refine bindE h0 ?_; clear h0; intro _ hx85 h0
    refine gv_shift .shr (t := 2) (kk := .i64) (ky := .i64) (x := (IntKind.i64.wrap ((shlI .u64 j43 (IntKind.i64.wrap (64 - (IntKind.i64.wrap (8 * n_2)))))))) (y := (IntKind.i64.wrap (64 - (IntKind.i64.wrap (8 * n_2))))) (shrI .i64 (IntKind.i64.wrap ((shlI .u64 j43 (IntKind.i64.wrap (64 - (IntKind.i64.wrap (8 * n_2))))))) (IntKind.i64.wrap (64 - (IntKind.i64.wrap (8 * n_2))))) [] (fun e => by cases e) rfl rfl rfl kr kr (nn_spec hx85) (.inr ⟨rfl, rfl⟩) rfl ?_
    refine bindE h0 ?_; clear h0; intro r86 hr87 h0
    refine gv_call0 kr rfl kr enters65 (packing_whole_ok fuel (shrI .i64 (IntKind.i64.wrap ((shlI .u64 j43 (IntKind.i64.wrap (64 - (IntKind.i64.wrap (8 * n_2))))))) (IntKind.i64.wrap (64 - (IntKind.i64.wrap (8 * n_2))))) w44  r86 hr87) ?_
    rintro v90 w88 ⟨hg89, a91, c92, a95, c96, rfl, ho93, hl94, ho97, hl98, ap99⟩
    have hl100 : ∀ g, blk a91 = some g → w0.heap.size ≤ g := fun g e => Nat.le_trans hB79.size (hl94 g e)
    have hl101 : ∀ g, blk a95 = some g → w0.heap.size ≤ g := fun g e => Nat.le_trans hB79.size (hl98 g e)
    have hk106 := hb82.grown hg89 nb
    refine gv_store0 41 0 (.agg #[(.int .i64 r86.1), (.bool r86.2.1.1), (.slice a91 (length r86.2.1.2) c92), (.bool r86.2.2.1.1), (.slice a95 (length r86.2.2.1.2) c96), (.string r86.2.2.2.1), (.int .i64 r86.2.2.2.2)]) #[(.int .i64 r86.1), (.bool r86.2.1.1), (.slice a91 (length r86.2.1.2) c92), (.bool r86.2.2.1.1), (.slice a95 (length r86.2.2.1.2) c96), (.string r86.2.2.2.1), (.int .i64 r86.2.2.2.2)] hk106 kr kr kr ?_
    intro w102 hg103 hb104 hz105
    refine pN 1 [9] [(9, (.int .i64 0))] ?_
    refine gv_nil <| gv_cret ?_
    have e := sj h0; subst e
    refine gv_ret (gv_done [(.agg #[(.int .i64 r86.1), (.bool r86.2.1.1), (.slice a91 (length r86.2.1.2) c92), (.bool r86.2.2.1.1), (.slice a95 (length r86.2.2.1.2) c96), (.string r86.2.2.2.1), (.int .i64 r86.2.2.2.2)]), (.int .i64 0)] rfl ⟨⟨⟨b7, 0, none⟩, kr, run_loadVar_row w102 b7 _ 41 _ _ _ hb104 Tryz.underlying41 rfl kr⟩, kr, trivial⟩ ?_)
    have hB107 := grown_step hB79 hg89 nb
    have hB108 := grown_step hB0 hg3 nb
    have hlo109 : w0.heap.size ≤ b7 := lob hbe11 hB108.size
    have hB110 := grown_step hB107 hg103 (rowppr hlo109)
    have ap111 : ¬ (fun k => blk a91 = some k) b7 := fun hx => nl ((show ∀ k, blk a91 = some k → w44.heap.size ≤ k from hl94) _ hx) ((ltb hb82) _ rfl)
    have hk112 := ho93.grown hg103 (fun _ h => h.elim) (rdnn (rowne ap111))
    have ap113 : ¬ (fun k => blk a95 = some k) b7 := fun hx => nl ((show ∀ k, blk a95 = some k → w44.heap.size ≤ k from hl98) _ hx) ((ltb hb82) _ rfl)
    have hk114 := ho97.grown hg103 (fun _ h => h.elim) (rdnn (rowne ap113))
    have hk115 := hp0.grown hg3 nb
    have ap116 : ¬ (· = pb0) b7 := fun hx => nl ((lowb hbe11) _ rfl) ((ltb hk115) _ hx)
    have hk117 := (hb81.grown hg89 nb).grown hg103 (rowne ap116)
    exact ⟨hB110, a91, c92, a95, c96, rfl, hk112, hl100, hk114, hl101, ap99, hk117⟩
   ·replace h0 := ite_f hc83 h0
    refine gv_skip <| gv_seq <| gv_region <| pN 1 [59] [(59, (.int .u64 j43))] ?_
    refine bindE h0 ?_; clear h0; intro r118 hr119 h0
    refine gv_call0 kr rfl kr enters66 (packing_natural_ok fuel j43 w44  r118 hr119) ?_
    rintro v122 w120 ⟨hg121, a123, c124, a127, c128, rfl, ho125, hl126, ho129, hl130, ap131⟩
    have hl132 : ∀ g, blk a123 = some g → w0.heap.size ≤ g := fun g e => Nat.le_trans hB79.size (hl126 g e)
    have hl133 : ∀ g, blk a127 = some g → w0.heap.size ≤ g := fun g e => Nat.le_trans hB79.size (hl130 g e)
    have hk138 := hb82.grown hg121 nb
    refine gv_store0 41 0 (.agg #[(.int .i64 r118.1), (.bool r118.2.1.1), (.slice a123 (length r118.2.1.2) c124), (.bool r118.2.2.1.1), (.slice a127 (length r118.2.2.1.2) c128), (.string r118.2.2.2.1), (.int .i64 r118.2.2.2.2)]) #[(.int .i64 r118.1), (.bool r118.2.1.1), (.slice a123 (length r118.2.1.2) c124), (.bool r118.2.2.1.1), (.slice a127 (length r118.2.2.1.2) c128), (.string r118.2.2.2.1), (.int .i64 r118.2.2.2.2)] hk138 kr kr kr ?_
    intro w134 hg135 hb136 hz137
    clear hz137 hk138 hr119 hc83
    refine pN 1 [9] [(9, (.int .i64 0))] ?_
    refine gv_nil <| gv_cret ?_
    have e := sj h0; subst e
    refine gv_ret (gv_done [(.agg #[(.int .i64 r118.1), (.bool r118.2.1.1), (.slice a123 (length r118.2.1.2) c124), (.bool r118.2.2.1.1), (.slice a127 (length r118.2.2.1.2) c128), (.string r118.2.2.2.1), (.int .i64 r118.2.2.2.2)]), (.int .i64 0)] rfl ⟨⟨⟨b7, 0, none⟩, kr, run_loadVar_row w134 b7 _ 41 _ _ _ hb136 Tryz.underlying41 rfl kr⟩, kr, trivial⟩ ?_)
    have hB139 := grown_step hB79 hg121 nb
    have hB140 := grown_step hB0 hg3 nb
    have hlo141 : w0.heap.size ≤ b7 := lob hbe11 hB140.size
    have hB142 := grown_step hB139 hg135 (rowppr hlo141)
    have ap143 : ¬ (fun k => blk a123 = some k) b7 := fun hx => nl ((show ∀ k, blk a123 = some k → w44.heap.size ≤ k from hl126) _ hx) ((ltb hb82) _ rfl)
    have hk144 := ho125.grown hg135 (fun _ h => h.elim) (rdnn (rowne ap143))
    have ap145 : ¬ (fun k => blk a127 = some k) b7 := fun hx => nl ((show ∀ k, blk a127 = some k → w44.heap.size ≤ k from hl130) _ hx) ((ltb hb82) _ rfl)
    have hk146 := ho129.grown hg135 (fun _ h => h.elim) (rdnn (rowne ap145))
    have hk147 := hp0.grown hg3 nb
    have ap148 : ¬ (· = pb0) b7 := fun hx => nl ((lowb hbe11) _ rfl) ((ltb hk147) _ hx)
    have hk149 := (hb81.grown hg121 nb).grown hg135 (rowne ap148)
    exact ⟨hB142, a123, c124, a127, c128, rfl, hk144, hl132, hk146, hl133, ap131, hk149⟩

theorem packing_reader_varied_ok (fuel : Nat) (pb0 : Nat) (pa0_0 : Option Addr) (pc0_0 : Nat) (r_0 : ((List UInt8) × Int)) (w0 : World) (X0 : Nat → Prop) (hX0 : ∀ k, X0 k → k < w0.heap.size ∧ k ≠ pb0) (hp0 : Box w0 pb0 47 #[(.slice pa0_0 (length r_0.1) pc0_0), (.int .i64 r_0.2)]) (hpa0_0 : Rd bE w0 X0 pa0_0 pc0_0 r_0.1) (r0 : ((Int × (Bool × (List Int)) × (Bool × (List Int)) × ByteArray × Int) × Int × ((List UInt8) × Int))) (h0 : packing_reader_varied fuel r_0 = some r0) :
    Calls Tryz.prog 41 ([(bp pb0)] : List Value).toArray w0 (Ret fun v w' => w0.grownBy w' (some pb0) ∧ ∃ (a0_0r : Option Addr) (c0_0r : Nat), ∃ (a0_1r : Option Addr) (c0_1r : Nat), v = tup [(.agg #[(.int .i64 r0.1.1), (.bool r0.1.2.1.1), (.slice a0_0r (length r0.1.2.1.2) c0_0r), (.bool r0.1.2.2.1.1), (.slice a0_1r (length r0.1.2.2.1.2) c0_1r), (.string r0.1.2.2.2.1), (.int .i64 r0.1.2.2.2.2)]), (.int .i64 r0.2.1)] ∧ Gv.Own (iE .u32) 107 w' (fun _ => False) a0_0r c0_0r r0.1.2.1.2 ∧ (∀ g, blk a0_0r = some g → w0.heap.size ≤ g) ∧ Gv.Own (iE .u32) 107 w' (fun _ => False) a0_1r c0_1r r0.1.2.2.1.2 ∧ (∀ g, blk a0_1r = some g → w0.heap.size ≤ g) ∧ (∀ g, blk a0_0r = some g → blk a0_1r ≠ some g) ∧ Box w' pb0 47 #[(.slice pa0_0 (length r_0.1) pc0_0), (.int .i64 r0.2.2.2)]) := by
 have hB0 : w0.grownBy w0 (some pb0) := grown_refl _ _
 unfold packing_reader_varied at h0
 refine calls_run Tryz.func41 rfl Tryz.ntmps41 kr ?_
 refine gv_sub [0] (σ' := [(0, (bp pb0))]) kr ?_
 have hpl0 := hp0.lt
 refine gv_seq <| gv_region <| gv_new0 (fun b => .pointer (some ⟨b, 0, none⟩)) #[(.int .i64 0), (.bool false), (.slice none (length ([] : List Int)) 0), (.bool false), (.slice none (length ([] : List Int)) 0), (.string (strOf [])), (.int .i64 0)] 41 kr kr ?_
 intro b1 w2 hg3 hb4 hbe5 hz6
 refine pN 1 [3] [] ?_
 refine gv_nil <| gv_seq <| gv_region <| pN 1 [4] [(4, (.int .u64 0))] ?_
 refine gv_nil <| gv_seq <| gv_region <| pN 1 [5] [(5, (.int .i64 0))] ?_
 refine gv_nil <| bindE h0 ?_; clear h0; intro j7 h1 h0
 refine gv_cut_code (J := fun a w9 => ∃ s8 : ((List UInt8) × Int), j7 = .inl s8 ∧ w0.grownBy w9 (some pb0) ∧ w2.heap.size ≤ w9.heap.size ∧ Box w9 pb0 47 #[(.slice pa0_0 (length r_0.1) pc0_0), (.int .i64 s8.2)] ∧ a.defers = [] ∧ a.tmps.size = 59 ∧ Ok [] a.tmps) ?_ ?_
 ·skip
  refine gv_block <| gv_loop (A := fun (s10 : (Int × Int × ((List UInt8) × Int) × (Int × (Bool × (List Int)) × (Bool × (List Int)) × ByteArray × Int))) a w11 => ∃ (abb1_0j : Option Addr) (cbb1_0j : Nat), ∃ (abb1_1j : Option Addr) (cbb1_1j : Nat), w0.grownBy w11 (some pb0) ∧ w2.heap.size ≤ w11.heap.size ∧ Gv.Own (iE .u32) 107 w11 (fun _ => False) abb1_0j cbb1_0j s10.2.2.2.2.1.2 ∧ (∀ g, blk abb1_0j = some g → w0.heap.size ≤ g) ∧ Gv.Own (iE .u32) 107 w11 (fun _ => False) abb1_1j cbb1_1j s10.2.2.2.2.2.1.2 ∧ (∀ g, blk abb1_1j = some g → w0.heap.size ≤ g) ∧ (∀ g, blk abb1_0j = some g → ¬ (fun k => blk abb1_1j = some k) g) ∧ (∀ g, blk abb1_0j = some g → ¬ (· = b1) g) ∧ ¬ (fun k => blk abb1_0j = some k) b1 ∧ (∀ g, blk abb1_1j = some g → ¬ (fun k => blk abb1_0j = some k) g) ∧ (∀ g, blk abb1_1j = some g → ¬ (· = b1) g) ∧ ¬ (fun k => blk abb1_1j = some k) b1 ∧ Box w11 pb0 47 #[(.slice pa0_0 (length r_0.1) pc0_0), (.int .i64 s10.2.2.1.2)] ∧ Box w11 b1 41 #[(.int .i64 s10.2.2.2.1), (.bool s10.2.2.2.2.1.1), (.slice abb1_0j (length s10.2.2.2.2.1.2) cbb1_0j), (.bool s10.2.2.2.2.2.1.1), (.slice abb1_1j (length s10.2.2.2.2.2.1.2) cbb1_1j), (.string s10.2.2.2.2.2.2.1), (.int .i64 s10.2.2.2.2.2.2.2)] ∧ a.defers = [] ∧ a.tmps.size = 59 ∧ Ok [(0, (bp pb0)), (2, (bp b1)), (4, (.int .u64 s10.1)), (5, (.int .i64 s10.2.1))] a.tmps) h1 ?_ ?_
  ·intro a hd hs hok
   have hB12 := grown_step hB0 hg3 nb
   have hk13 := hp0.grown hg3 nb
   exact ⟨none, 0, none, 0, hB12, nrf, (Gv.Own.nil (iE .u32) 107 w2 (fun _ => False)), (fun _ h => by cases h), (Gv.Own.nil (iE .u32) 107 w2 (fun _ => False)), (fun _ h => by cases h), (fun _ h => by cases h), (fun _ h => by cases h), (fun h => by cases h), (fun _ h => by cases h), (fun _ h => by cases h), (fun h => by cases h), hk13, hb4, hd, hs, okp [0, 2, 4, 5] hok⟩
  ·rintro s10 r2 h2 hR2 a w11 ⟨a16, c17, a18, c19, hB14, hz15, ho20, hl21, ho22, hl23, ap24, ap25, ap26, ap27, ap28, ap29, hb30, hb31, hd, hs, hok⟩
   refine gv_in ?_ hd hs hok
   clear hd hs hok
   refine gv_seq <| gv_block <| gv_seq <| gv_region <| pN 1 [11] [(11, (bp pb0))] ?_
   refine bindE h2 ?_; clear h2; intro r32 hr33 h2
   refine gv_call0 kr rfl kr enters42 (packing_reader_take_ok fuel pb0 pa0_0 pc0_0 (r_0.1, s10.2.2.1.2) 1 w11 (fun k => X0 k) (fun k hk => ⟨(fun k (hk : X0 k) => ltl (hX0 k hk).1 hB14.size) k hk, fun e => (fun (hx : X0 pb0) => (hX0 _ hx).2 rfl) (e ▸ hk)⟩) hb30 ((hpa0_0.grown hB14 (fun k hk => (hX0 k hk).1) (fun g e hk => by cases e; exact (hX0 _ hk).2 rfl)).wide (fun k hk => hk)) r32 hr33) ?_
   rintro v36 w34 ⟨hg35, a37, c38, X40, rfl, ho39, hx41, hb42⟩
   have hx43 : ∀ k, X40 k → k < w34.heap.size := fun k hk => (hx41 k hk).1
   have hx44 : ∀ k, X40 k → X0 k ∨ w0.heap.size ≤ k := fun k hk => (hx41 k hk).2.elim (fun h => (fun k (hk : X0 k) => Or.inl hk) k h) (fun h => .inr (Nat.le_trans hB14.size h))
   refine pN 5 [6, 7, 10, 13, 14] [(6, (.slice a37 (length r32.1) c38)), (7, (.bool r32.2.1))] ?_
   refine gv_nil <| gv_seq <| gv_seq <| gv_region <| pN 2 [15, 16] [(16, (.bool (!r32.2.1)))] ?_
   refine gv_nil <| gv_cond (b := (!r32.2.1)) kr (fun hc45 => ?_) (fun hc45 => ?_)
   ·replace h2 := ite_t hc45 h2
    refine gv_seq <| gv_region <| pN 1 [17] [(17, (.agg #[(.int .i64 0), (.bool false), (.slice none (length ([] : List Int)) 0), (.bool false), (.slice none (length ([] : List Int)) 0), (.string (strOf [])), (.int .i64 0)]))] ?_
    have ap50 : ¬ (· = b1) pb0 := fun hx => nl ((lowb hbe5) _ hx) ((ltb hp0) _ rfl)
    have hk51 := hb31.grown hg35 (rowne ap50)
    refine gv_store0 41 0 (.agg #[(.int .i64 0), (.bool false), (.slice none (length ([] : List Int)) 0), (.bool false), (.slice none (length ([] : List Int)) 0), (.string (strOf [])), (.int .i64 0)]) #[(.int .i64 0), (.bool false), (.slice none (length ([] : List Int)) 0), (.bool false), (.slice none (length ([] : List Int)) 0), (.string (strOf [])), (.int .i64 0)] hk51 kr kr kr ?_
    intro w46 hg47 hb48 hz49
    refine pN 1 [3] [(3, (.int .i64 15))] ?_
    refine gv_nil <| gv_cret ?_
    have e := sj h2; subst e
    replace h1 := congrArg some (hR2 _ rfl)
    have e := sj h1; subst e
    replace h0 := cont_inr h0
    have e := sj h0; subst e
    refine gv_ret (gv_done [(.agg #[(.int .i64 0), (.bool false), (.slice none (length ([] : List Int)) 0), (.bool false), (.slice none (length ([] : List Int)) 0), (.string (strOf [])), (.int .i64 0)]), (.int .i64 15)] rfl ⟨⟨⟨b1, 0, none⟩, kr, run_loadVar_row w46 b1 _ 41 _ _ _ hb48 Tryz.underlying41 rfl kr⟩, kr, trivial⟩ ?_)
    have hB52 := grown_step hB14 hg35 rowpp
    have hlo53 : w0.heap.size ≤ b1 := lob hbe5 hB0.size
    have hB54 := grown_step hB52 hg47 (rowppr hlo53)
    have ap55 : ¬ (· = pb0) b1 := fun hx => nl ((lowb hbe5) _ rfl) ((ltb hp0) _ hx)
    have hk56 := hb42.grown hg47 (rowne ap55)
    exact ⟨hB54, none, 0, none, 0, rfl, (Gv.Own.nil (iE .u32) 107 w46 (fun _ => False)), (fun _ h => by cases h), (Gv.Own.nil (iE .u32) 107 w46 (fun _ => False)), (fun _ h => by cases h), (fun _ h => by cases h), hk56⟩
   ·replace h2 := ite_f hc45 h2
    refine gv_skip <| gv_seq <| gv_seq <| gv_region <| bindE h2 ?_; clear h2; intro j57 h3 h2
    refine gv_cut_ops (J := fun a w58 => w0.grownBy w58 (some pb0) ∧ w34.heap.size ≤ w58.heap.size ∧ Box w58 pb0 47 #[(.slice pa0_0 (length r_0.1) pc0_0), (.int .i64 r32.2.2.2)] ∧ Box w58 b1 41 #[(.int .i64 s10.2.2.2.1), (.bool s10.2.2.2.2.1.1), (.slice a16 (length s10.2.2.2.2.1.2) c17), (.bool s10.2.2.2.2.2.1.1), (.slice a18 (length s10.2.2.2.2.2.1.2) c19), (.string s10.2.2.2.2.2.2.1), (.int .i64 s10.2.2.2.2.2.2.2)] ∧ Rd bE w58 X40 a37 c38 r32.1 ∧ Gv.Own (iE .u32) 107 w58 (fun _ => False) a16 c17 s10.2.2.2.2.1.2 ∧ Gv.Own (iE .u32) 107 w58 (fun _ => False) a18 c19 s10.2.2.2.2.2.1.2 ∧ a.defers = [] ∧ a.tmps.size = 59 ∧ Ok [(0, (bp pb0)), (2, (bp b1)), (4, (.int .u64 s10.1)), (5, (.int .i64 s10.2.1)), (6, (.slice a37 (length r32.1) c38)), (35, (.bool j57))] a.tmps) ?_ ?_
    ·skip
     refine pN 3 [18, 19, 20] [(20, (.bool (s10.2.1 == 9)))] ?_
     refine gv_split (s := 20) (g := (s10.2.1 == 9)) kr (fun hc59 => ?_) (fun hc59 => ?_)
     ·skip
      replace h3 := ite_t hc59 h3
      refine pN 1 [21] [(21, (.slice a37 (length r32.1) c38))] ?_
      refine bindE h3 ?_; clear h3; intro x60 hx61 h3
      refine gv_idxaddr (t := 23) (e := 5) (a := a37) (len := length r32.1) (cap := c38) (kk := .i64) (i := 0) (sz := 1) [] (fun e => by cases e) rfl rfl rfl kr kr Tryz.underlying23 kr (ho39.has hx61) (idx_spec hx61).1 (idx_spec hx61).2.1 rfl ?_
      refine gv_load (t := 5) (A := (elemAddr a37 ((0 : Int).toNat * 1))) (.int .u8 ((x60).toNat : Int)) [] (fun e => by cases e) rfl rfl rfl kr kr kr (inw0 (ho39.cell hx61)) rfl ?_
      refine pN 3 [24, 25, 26] [(26, (.bool (decide (((x60).toNat : Int) > 1))))] ?_
      refine gv_split (s := 26) (g := (decide (((x60).toNat : Int) > 1))) kr (fun hc62 => ?_) (fun hc62 => ?_)
      ·skip
       replace h3 := ite_t hc62 h3
       refine pN 9 [27, 28, 29, 30, 31, 32, 33, 34, 35] [(35, (.bool true))] ?_
       refine gv_nil ?_
       have e := sj h3; subst e
       refine gv_goal fun a hd hs hok => ?_
       have hB63 := grown_step hB14 hg35 rowpp
       have ap64 : ¬ (· = b1) pb0 := fun hx => nl ((lowb hbe5) _ hx) ((ltb hp0) _ rfl)
       have hk65 := hb31.grown hg35 (rowne ap64)
       have hk66 := ho20.grown hg35 (fun _ h => h.elim) (rdnn (rowne (fun (h : blk a16 = some pb0) => nl (hl21 _ h) hpl0)))
       have hk67 := ho22.grown hg35 (fun _ h => h.elim) (rdnn (rowne (fun (h : blk a18 = some pb0) => nl (hl23 _ h) hpl0)))
       exact ⟨hB63, nrf, hb42, hk65, ho39, hk66, hk67, hd, hs, okp [0, 2, 4, 5, 6, 35] hok⟩
      ·skip
       replace h3 := ite_f hc62 h3
       refine pN 3 [27, 28, 29] [(29, (.bool (decide (s10.2.1 > 0))))] ?_
       refine gv_split (s := 29) (g := (decide (s10.2.1 > 0))) kr (fun hc68 => ?_) (fun hc68 => ?_)
       ·skip
        replace h3 := ite_t hc68 h3
        refine pN 1 [30] [(30, (.slice a37 (length r32.1) c38))] ?_
        refine bindE h3 ?_; clear h3; intro x69 hx70 h3
        refine gv_idxaddr (t := 23) (e := 5) (a := a37) (len := length r32.1) (cap := c38) (kk := .i64) (i := 0) (sz := 1) [] (fun e => by cases e) rfl rfl rfl kr kr Tryz.underlying23 kr (ho39.has hx70) (idx_spec hx70).1 (idx_spec hx70).2.1 rfl ?_
        refine gv_load (t := 5) (A := (elemAddr a37 ((0 : Int).toNat * 1))) (.int .u8 ((x69).toNat : Int)) [] (fun e => by cases e) rfl rfl rfl kr kr kr (inw0 (ho39.cell hx70)) rfl ?_
        refine pN 3 [33, 34, 35] [(35, (.bool (((x69).toNat : Int) == 0)))] ?_
        refine gv_sub [0, 2, 4, 5, 6, 35] (σ' := [(0, (bp pb0)), (2, (bp b1)), (4, (.int .u64 s10.1)), (5, (.int .i64 s10.2.1)), (6, (.slice a37 (length r32.1) c38)), (35, (.bool (((x69).toNat : Int) == 0)))]) kr ?_
        refine gv_nil ?_
        have e := sj h3; subst e
        refine gv_goal fun a hd hs hok => ?_
        have hB71 := grown_step hB14 hg35 rowpp
        have ap72 : ¬ (· = b1) pb0 := fun hx => nl ((lowb hbe5) _ hx) ((ltb hp0) _ rfl)
        have hk73 := hb31.grown hg35 (rowne ap72)
        have hk74 := ho20.grown hg35 (fun _ h => h.elim) (rdnn (rowne (fun (h : blk a16 = some pb0) => nl (hl21 _ h) hpl0)))
        have hk75 := ho22.grown hg35 (fun _ h => h.elim) (rdnn (rowne (fun (h : blk a18 = some pb0) => nl (hl23 _ h) hpl0)))
        exact ⟨hB71, nrf, hb42, hk73, ho39, hk74, hk75, hd, hs, okp [0, 2, 4, 5, 6, 35] hok⟩
       ·skip
        replace h3 := ite_f hc68 h3
        refine pN 6 [30, 31, 32, 33, 34, 35] [(35, (.bool false))] ?_
        refine gv_nil ?_
        have e := sj h3; subst e
        refine gv_goal fun a hd hs hok => ?_
        have hB76 := grown_step hB14 hg35 rowpp
        have ap77 : ¬ (· = b1) pb0 := fun hx => nl ((lowb hbe5) _ hx) ((ltb hp0) _ rfl)
        have hk78 := hb31.grown hg35 (rowne ap77)
        have hk79 := ho20.grown hg35 (fun _ h => h.elim) (rdnn (rowne (fun (h : blk a16 = some pb0) => nl (hl21 _ h) hpl0)))
        have hk80 := ho22.grown hg35 (fun _ h => h.elim) (rdnn (rowne (fun (h : blk a18 = some pb0) => nl (hl23 _ h) hpl0)))
        exact ⟨hB76, nrf, hb42, hk78, ho39, hk79, hk80, hd, hs, okp [0, 2, 4, 5, 6, 35] hok⟩
     ·skip
      replace h3 := ite_f hc59 h3
      refine pN 9 [21, 22, 23, 24, 25, 26, 27, 28, 29] [(26, (.bool false)), (29, (.bool (decide (s10.2.1 > 0))))] ?_
      refine gv_split (s := 29) (g := (decide (s10.2.1 > 0))) kr (fun hc81 => ?_) (fun hc81 => ?_)
      ·skip
       replace h3 := ite_t hc81 h3
       refine pN 1 [30] [(30, (.slice a37 (length r32.1) c38))] ?_
       refine bindE h3 ?_; clear h3; intro x82 hx83 h3
       refine gv_idxaddr (t := 23) (e := 5) (a := a37) (len := length r32.1) (cap := c38) (kk := .i64) (i := 0) (sz := 1) [] (fun e => by cases e) rfl rfl rfl kr kr Tryz.underlying23 kr (ho39.has hx83) (idx_spec hx83).1 (idx_spec hx83).2.1 rfl ?_
       refine gv_load (t := 5) (A := (elemAddr a37 ((0 : Int).toNat * 1))) (.int .u8 ((x82).toNat : Int)) [] (fun e => by cases e) rfl rfl rfl kr kr kr (inw0 (ho39.cell hx83)) rfl ?_
       refine pN 3 [33, 34, 35] [(35, (.bool (((x82).toNat : Int) == 0)))] ?_
       refine gv_nil ?_
       have e := sj h3; subst e
       refine gv_goal fun a hd hs hok => ?_
       have hB84 := grown_step hB14 hg35 rowpp
       have ap85 : ¬ (· = b1) pb0 := fun hx => nl ((lowb hbe5) _ hx) ((ltb hp0) _ rfl)
       have hk86 := hb31.grown hg35 (rowne ap85)
       have hk87 := ho20.grown hg35 (fun _ h => h.elim) (rdnn (rowne (fun (h : blk a16 = some pb0) => nl (hl21 _ h) hpl0)))
       have hk88 := ho22.grown hg35 (fun _ h => h.elim) (rdnn (rowne (fun (h : blk a18 = some pb0) => nl (hl23 _ h) hpl0)))
       exact ⟨hB84, nrf, hb42, hk86, ho39, hk87, hk88, hd, hs, okp [0, 2, 4, 5, 6, 35] hok⟩
      ·skip
       replace h3 := ite_f hc81 h3
       refine pN 6 [30, 31, 32, 33, 34, 35] [(35, (.bool false))] ?_
       refine gv_nil ?_
       have e := sj h3; subst e
       refine gv_goal fun a hd hs hok => ?_
       have hB89 := grown_step hB14 hg35 rowpp
       have ap90 : ¬ (· = b1) pb0 := fun hx => nl ((lowb hbe5) _ hx) ((ltb hp0) _ rfl)
       have hk91 := hb31.grown hg35 (rowne ap90)
       have hk92 := ho20.grown hg35 (fun _ h => h.elim) (rdnn (rowne (fun (h : blk a16 = some pb0) => nl (hl21 _ h) hpl0)))
       have hk93 := ho22.grown hg35 (fun _ h => h.elim) (rdnn (rowne (fun (h : blk a18 = some pb0) => nl (hl23 _ h) hpl0)))
       exact ⟨hB89, nrf, hb42, hk91, ho39, hk92, hk93, hd, hs, okp [0, 2, 4, 5, 6, 35] hok⟩
    ·rintro a w58 ⟨hB94, hz95, hb96, hb97, hk98, hk99, hk100, hd, hs, hok⟩
     refine gv_in ?_ hd hs hok
     clear hd hs hok
     have hz101 := (nt (nt hz15 hg35.size) hz95)
     clear hc45 hb42 ho39 hg35 hr33 hb30 hz15 hB14 hz6 hb4 hg3
     refine gv_cond (b := j57) kr (fun hc102 => ?_) (fun hc102 => ?_)
     ·replace h2 := ite_t hc102 h2
      refine gv_seq <| gv_region <| pN 1 [36] [(36, (.agg #[(.int .i64 0), (.bool false), (.slice none (length ([] : List Int)) 0), (.bool false), (.slice none (length ([] : List Int)) 0), (.string (strOf [])), (.int .i64 0)]))] ?_
      refine gv_store0 41 0 (.agg #[(.int .i64 0), (.bool false), (.slice none (length ([] : List Int)) 0), (.bool false), (.slice none (length ([] : List Int)) 0), (.string (strOf [])), (.int .i64 0)]) #[(.int .i64 0), (.bool false), (.slice none (length ([] : List Int)) 0), (.bool false), (.slice none (length ([] : List Int)) 0), (.string (strOf [])), (.int .i64 0)] hb97 kr kr kr ?_
      intro w103 hg104 hb105 hz106
      refine pN 1 [3] [(3, (.int .i64 16))] ?_
      refine gv_nil <| gv_cret ?_
      have e := sj h2; subst e
      replace h1 := congrArg some (hR2 _ rfl)
      have e := sj h1; subst e
      replace h0 := cont_inr h0
      have e := sj h0; subst e
      refine gv_ret (gv_done [(.agg #[(.int .i64 0), (.bool false), (.slice none (length ([] : List Int)) 0), (.bool false), (.slice none (length ([] : List Int)) 0), (.string (strOf [])), (.int .i64 0)]), (.int .i64 16)] rfl ⟨⟨⟨b1, 0, none⟩, kr, run_loadVar_row w103 b1 _ 41 _ _ _ hb105 Tryz.underlying41 rfl kr⟩, kr, trivial⟩ ?_)
      have hlo107 : w0.heap.size ≤ b1 := lob hbe5 hB0.size
      have hB108 := grown_step hB94 hg104 (rowppr hlo107)
      have ap109 : ¬ (· = pb0) b1 := fun hx => nl ((lowb hbe5) _ rfl) ((ltb hp0) _ hx)
      have hk110 := hb96.grown hg104 (rowne ap109)
      exact ⟨hB108, none, 0, none, 0, rfl, (Gv.Own.nil (iE .u32) 107 w103 (fun _ => False)), (fun _ h => by cases h), (Gv.Own.nil (iE .u32) 107 w103 (fun _ => False)), (fun _ h => by cases h), (fun _ h => by cases h), hk110⟩
     ·replace h2 := ite_f hc102 h2
      refine gv_skip <| gv_seq <| gv_region <| pN 2 [37, 38] [(37, (.int .u64 s10.1)), (38, (.slice a37 (length r32.1) c38))] ?_
      refine bindE h2 ?_; clear h2; intro x111 hx112 h2
      refine gv_idxaddr (t := 23) (e := 5) (a := a37) (len := length r32.1) (cap := c38) (kk := .i64) (i := 0) (sz := 1) [] (fun e => by cases e) rfl rfl rfl kr kr Tryz.underlying23 kr (hk98.has hx112) (idx_spec hx112).1 (idx_spec hx112).2.1 rfl ?_
      refine gv_load (t := 5) (A := (elemAddr a37 ((0 : Int).toNat * 1))) (.int .u8 ((x111).toNat : Int)) [] (fun e => by cases e) rfl rfl rfl kr kr kr (inw0 (hk98.cell hx112)) rfl ?_
      refine pN 4 [41, 42, 43, 44] [(42, (.int .u64 (IntKind.u64.wrap ((bwAnd .u8 ((x111).toNat : Int) 127))))), (44, (.int .i64 (IntKind.i64.wrap (7 * s10.2.1))))] ?_
      refine bindE h2 ?_; clear h2; intro _ hx113 h2
      refine gv_shift .shl (t := 100) (kk := .u64) (ky := .i64) (x := (IntKind.u64.wrap ((bwAnd .u8 ((x111).toNat : Int) 127)))) (y := (IntKind.i64.wrap (7 * s10.2.1))) (shlI .u64 (IntKind.u64.wrap ((bwAnd .u8 ((x111).toNat : Int) 127))) (IntKind.i64.wrap (7 * s10.2.1))) [] (fun e => by cases e) rfl rfl rfl kr kr (nn_spec hx113) (.inl ⟨rfl, rfl⟩) rfl ?_
      refine pN 2 [4, 46] [(4, (.int .u64 (bwOr .u64 s10.1 (shlI .u64 (IntKind.u64.wrap ((bwAnd .u8 ((x111).toNat : Int) 127))) (IntKind.i64.wrap (7 * s10.2.1))))))] ?_
      refine bindE h2 ?_; clear h2; intro n114 hn115 h2
      refine gv_name (s := 4) (v := (.int .u64 (bwOr .u64 s10.1 (shlI .u64 (IntKind.u64.wrap ((bwAnd .u8 ((x111).toNat : Int) 127))) (IntKind.i64.wrap (7 * s10.2.1)))))) (v' := (.int .u64 n114)) kr (congrArg (Value.int .u64) (sj hn115)) ?_
      refine gv_nil <| gv_seq <| gv_region <| pN 1 [47] [(47, (.slice a37 (length r32.1) c38))] ?_
      refine bindE h2 ?_; clear h2; intro x116 hx117 h2
      refine gv_idxaddr (t := 23) (e := 5) (a := a37) (len := length r32.1) (cap := c38) (kk := .i64) (i := 0) (sz := 1) [] (fun e => by cases e) rfl rfl rfl kr kr Tryz.underlying23 kr (hk98.has hx117) (idx_spec hx117).1 (idx_spec hx117).2.1 rfl ?_
      refine gv_load (t := 5) (A := (elemAddr a37 ((0 : Int).toNat * 1))) (.int .u8 ((x116).toNat : Int)) [] (fun e => by cases e) rfl rfl rfl kr kr kr (inw0 (hk98.cell hx117)) rfl ?_
      refine pN 1 [50] [(50, (.bool (decide (((x116).toNat : Int) < 128))))] ?_
      refine gv_nil <| gv_cond (b := (decide (((x116).toNat : Int) < 128))) kr (fun hc118 => ?_) (fun hc118 => ?_)
      ·replace h2 := ite_t hc118 h2
       refine gv_seq <| gv_region <| pN 7 [51, 52, 53, 54, 55, 56, 57] [(57, (.int .i64 (IntKind.i64.wrap ((bwXor .u64 ((n114).fdiv (2 ^ 1)) (IntKind.u64.wrap (0 - (bwAnd .u64 n114 1))))))))] ?_
       refine bindE h2 ?_; clear h2; intro r119 hr120 h2
       refine gv_call0 kr rfl kr enters65 (packing_whole_ok fuel (IntKind.i64.wrap ((bwXor .u64 ((n114).fdiv (2 ^ 1)) (IntKind.u64.wrap (0 - (bwAnd .u64 n114 1)))))) w58  r119 hr120) ?_
       rintro v123 w121 ⟨hg122, a124, c125, a128, c129, rfl, ho126, hl127, ho130, hl131, ap132⟩
       have hl133 : ∀ g, blk a124 = some g → w0.heap.size ≤ g := fun g e => Nat.le_trans hB94.size (hl127 g e)
       have hl134 : ∀ g, blk a128 = some g → w0.heap.size ≤ g := fun g e => Nat.le_trans hB94.size (hl131 g e)
       have hk139 := hb97.grown hg122 nb
       refine gv_store0 41 0 (.agg #[(.int .i64 r119.1), (.bool r119.2.1.1), (.slice a124 (length r119.2.1.2) c125), (.bool r119.2.2.1.1), (.slice a128 (length r119.2.2.1.2) c129), (.string r119.2.2.2.1), (.int .i64 r119.2.2.2.2)]) #[(.int .i64 r119.1), (.bool r119.2.1.1), (.slice a124 (length r119.2.1.2) c125), (.bool r119.2.2.1.1), (.slice a128 (length r119.2.2.1.2) c129), (.string r119.2.2.2.1), (.int .i64 r119.2.2.2.2)] hk139 kr kr kr ?_
       intro w135 hg136 hb137 hz138
       refine pN 1 [3] [(3, (.int .i64 0))] ?_
       refine gv_sub [2, 3] (σ' := [(2, (bp b1)), (3, (.int .i64 0))]) kr ?_
       refine gv_nil <| gv_cret ?_
       have e := sj h2; subst e
       replace h1 := congrArg some (hR2 _ rfl)
       have e := sj h1; subst e
       replace h0 := cont_inr h0
       have e := sj h0; subst e
       refine gv_ret (gv_done [(.agg #[(.int .i64 r119.1), (.bool r119.2.1.1), (.slice a124 (length r119.2.1.2) c125), (.bool r119.2.2.1.1), (.slice a128 (length r119.2.2.1.2) c129), (.string r119.2.2.2.1), (.int .i64 r119.2.2.2.2)]), (.int .i64 0)] rfl ⟨⟨⟨b1, 0, none⟩, kr, run_loadVar_row w135 b1 _ 41 _ _ _ hb137 Tryz.underlying41 rfl kr⟩, kr, trivial⟩ ?_)
       have hB140 := grown_step hB94 hg122 nb
       have hlo141 : w0.heap.size ≤ b1 := lob hbe5 hB0.size
       have hB142 := grown_step hB140 hg136 (rowppr hlo141)
       have ap143 : ¬ (fun k => blk a124 = some k) b1 := fun hx => nl ((show ∀ k, blk a124 = some k → w58.heap.size ≤ k from hl127) _ hx) ((ltb hb97) _ rfl)
       have hk144 := ho126.grown hg136 (fun _ h => h.elim) (rdnn (rowne ap143))
       have ap145 : ¬ (fun k => blk a128 = some k) b1 := fun hx => nl ((show ∀ k, blk a128 = some k → w58.heap.size ≤ k from hl131) _ hx) ((ltb hb97) _ rfl)
       have hk146 := ho130.grown hg136 (fun _ h => h.elim) (rdnn (rowne ap145))
       have ap147 : ¬ (· = pb0) b1 := fun hx => nl ((lowb hbe5) _ rfl) ((ltb hp0) _ hx)
       have hk148 := (hb96.grown hg122 nb).grown hg136 (rowne ap147)
       exact ⟨hB142, a124, c125, a128, c129, rfl, hk144, hl133, hk146, hl134, ap132, hk148⟩
      ·replace h2 := ite_f hc118 h2
       refine gv_skip <| gv_blk <| gv_region <| pN 3 [5, 8, 9] [(5, (.int .i64 (IntKind.i64.wrap (s10.2.1 + 1))))] ?_
       refine gv_nil ?_
       have e := sj h2; subst e
       refine gv_goal fun a hd hs hok => ?_
       have hz149 := hz101
       exact ⟨(n114, (IntKind.i64.wrap (s10.2.1 + 1)), (r_0.1, r32.2.2.2), (s10.2.2.2.1, (s10.2.2.2.2.1.1, s10.2.2.2.2.1.2), (s10.2.2.2.2.2.1.1, s10.2.2.2.2.2.1.2), s10.2.2.2.2.2.2.1, s10.2.2.2.2.2.2.2)), rfl, a16, c17, a18, c19, hB94, hz149, hk99, hl21, hk100, hl23, ap24, ap25, ap26, ap27, ap28, ap29, hb96, hb97, hd, hs, okp [0, 2, 4, 5] hok⟩
 ·rintro a w9 ⟨s8, e, hB150, hz151, hb152, hd, hs, hok⟩
  subst e
  refine gv_in ?_ hd hs hok
  clear hd hs hok
  replace h0 := cont_inl h0
  cases h0

theorem packing_reader_value_ok (fuel : Nat) (pb0 : Nat) (pa0_0 : Option Addr) (pc0_0 : Nat) (r_0 : ((List UInt8) × Int)) (f_1 : (Int × Int × Bool)) (w0 : World) (X0 : Nat → Prop) (hX0 : ∀ k, X0 k → k < w0.heap.size ∧ k ≠ pb0) (hp0 : Box w0 pb0 47 #[(.slice pa0_0 (length r_0.1) pc0_0), (.int .i64 r_0.2)]) (hpa0_0 : Rd bE w0 X0 pa0_0 pc0_0 r_0.1) (r0 : ((Int × (Bool × (List Int)) × (Bool × (List Int)) × ByteArray × Int) × Int × ((List UInt8) × Int))) (h0 : packing_reader_value fuel r_0 f_1 = some r0) :
    Calls Tryz.prog 15 ([(bp pb0), (.agg #[(.int .u8 f_1.1), (.int .i64 f_1.2.1), (.bool f_1.2.2)])] : List Value).toArray w0 (Ret fun v w' => w0.grownBy w' (some pb0) ∧ ∃ (a0_0r : Option Addr) (c0_0r : Nat), ∃ (a0_1r : Option Addr) (c0_1r : Nat), v = tup [(.agg #[(.int .i64 r0.1.1), (.bool r0.1.2.1.1), (.slice a0_0r (length r0.1.2.1.2) c0_0r), (.bool r0.1.2.2.1.1), (.slice a0_1r (length r0.1.2.2.1.2) c0_1r), (.string r0.1.2.2.2.1), (.int .i64 r0.1.2.2.2.2)]), (.int .i64 r0.2.1)] ∧ Gv.Own (iE .u32) 107 w' (fun _ => False) a0_0r c0_0r r0.1.2.1.2 ∧ (∀ g, blk a0_0r = some g → w0.heap.size ≤ g) ∧ Gv.Own (iE .u32) 107 w' (fun _ => False) a0_1r c0_1r r0.1.2.2.1.2 ∧ (∀ g, blk a0_1r = some g → w0.heap.size ≤ g) ∧ (∀ g, blk a0_0r = some g → blk a0_1r ≠ some g) ∧ Box w' pb0 47 #[(.slice pa0_0 (length r_0.1) pc0_0), (.int .i64 r0.2.2.2)]) := by
 have hB0 : w0.grownBy w0 (some pb0) := grown_refl _ _
 unfold packing_reader_value at h0
 refine calls_run Tryz.func15 rfl Tryz.ntmps15 kr ?_
 refine gv_sub [0, 1] (σ' := [(0, (bp pb0)), (1, (.agg #[(.int .u8 f_1.1), (.int .i64 f_1.2.1), (.bool f_1.2.2)]))]) kr ?_
 have hpl0 := hp0.lt
 refine gv_seq <| gv_region <| gv_new0 (fun b => .pointer (some ⟨b, 0, none⟩)) #[(.int .u8 f_1.1), (.int .i64 f_1.2.1), (.bool f_1.2.2)] 49 kr kr ?_
 intro b1 w2 hg3 hb4 hbe5 hz6
 refine gv_new0 (fun b => .pointer (some ⟨b, 0, none⟩)) #[(.int .i64 0), (.bool false), (.slice none (length ([] : List Int)) 0), (.bool false), (.slice none (length ([] : List Int)) 0), (.string (strOf [])), (.int .i64 0)] 41 kr kr ?_
 intro b7 w8 hg9 hb10 hbe11 hz12
 refine pN 1 [5] [] ?_
 refine gv_nil <| gv_seq <| gv_region <| pN 1 [15] [(15, (bp b1))] ?_
 have hk13 := hb4.grown hg9 nb
 refine gv_load (t := 5) (A := ⟨b1, 0, none⟩) (.int .u8 f_1.1) [] (fun e => by cases e) rfl rfl rfl kr kr kr (inw0 (hk13.cell 0 rfl)) rfl ?_
 refine bindE h0 ?_; clear h0; intro r14 hr15 h0
 refine gv_call0 kr rfl kr enters36 (packing_width_ok fuel f_1.1 w8  r14 hr15) ?_
 rintro v18 w16 ⟨hg17, rfl⟩
 refine pN 5 [6, 7, 14, 18, 19] [(6, (.int .i64 r14.1)), (7, (.bool r14.2))] ?_
 refine gv_nil <| gv_seq <| gv_block <| gv_seq <| gv_region <| pN 3 [20, 21, 22] [(20, (.bool (decide (r14.1 > 0))))] ?_
 refine gv_nil <| gv_cond (b := (decide (r14.1 > 0))) kr (fun hc19 => ?_) (fun hc19 => ?_)
 ·replace h0 := ite_t hc19 h0
  refine gv_seq <| gv_region <| pN 1 [23] [(23, (bp pb0))] ?_
  have hk20 := hk13.grown hg17 nb
  refine gv_loadBox (t := 49) (b := b1) (t' := 49) (fr := (0, 0)) #[(.int .u8 f_1.1), (.int .i64 f_1.2.1), (.bool f_1.2.2)] [] (fun e => by cases e) rfl rfl rfl kr kr kr kr (inw0 hk20) rfl ?_
  refine pN 2 [25, 26] [(25, (.int .i64 r14.1)), (26, (.bool r14.2))] ?_
  refine bindE h0 ?_; clear h0; intro r21 hr22 h0
  have hg23 := (grown_trans (grown_trans hg3 hg9) hg17)
  have hB24 := grown_step hB0 hg23 nb
  have hk25 := hp0.grown hg23 nb
  refine gv_call0 kr rfl kr enters40 (packing_reader_fixed_ok fuel pb0 pa0_0 pc0_0 (r_0.1, r_0.2) (f_1.1, f_1.2.1, f_1.2.2) r14.1 r14.2 w16 (fun k => X0 k) (fun k hk => ⟨(fun k (hk : X0 k) => ltl (hX0 k hk).1 hB24.size) k hk, fun e => (fun (hx : X0 pb0) => (hX0 _ hx).2 rfl) (e ▸ hk)⟩) hk25 ((hpa0_0.grown hB24 (fun k hk => (hX0 k hk).1) (fun g e hk => by cases e; exact (hX0 _ hk).2 rfl)).wide (fun k hk => hk)) r21 hr22) ?_
  rintro v28 w26 ⟨hg27, a29, c30, a33, c34, rfl, ho31, hl32, ho35, hl36, ap37, hb38⟩
  have hl39 : ∀ g, blk a29 = some g → w0.heap.size ≤ g := fun g e => Nat.le_trans hB24.size (hl32 g e)
  have hl40 : ∀ g, blk a33 = some g → w0.heap.size ≤ g := fun g e => Nat.le_trans hB24.size (hl36 g e)
  refine pN 2 [28, 29] [(28, (.agg #[(.int .i64 r21.1.1), (.bool r21.1.2.1.1), (.slice a29 (length r21.1.2.1.2) c30), (.bool r21.1.2.2.1.1), (.slice a33 (length r21.1.2.2.1.2) c34), (.string r21.1.2.2.2.1), (.int .i64 r21.1.2.2.2.2)])), (29, (.int .i64 r21.2.1))] ?_
  have hk45 := hp0.grown hg3 nb
  have ap46 : ¬ (· = b7) pb0 := fun hx => nl ((lowb hbe11) _ hx) ((ltb hk45) _ rfl)
  have hk47 := (hb10.grown hg17 nb).grown hg27 (rowne ap46)
  refine gv_store0 41 0 (.agg #[(.int .i64 r21.1.1), (.bool r21.1.2.1.1), (.slice a29 (length r21.1.2.1.2) c30), (.bool r21.1.2.2.1.1), (.slice a33 (length r21.1.2.2.1.2) c34), (.string r21.1.2.2.2.1), (.int .i64 r21.1.2.2.2.2)]) #[(.int .i64 r21.1.1), (.bool r21.1.2.1.1), (.slice a29 (length r21.1.2.1.2) c30), (.bool r21.1.2.2.1.1), (.slice a33 (length r21.1.2.2.1.2) c34), (.string r21.1.2.2.2.1), (.int .i64 r21.1.2.2.2.2)] hk47 kr kr kr ?_
  intro w41 hg42 hb43 hz44
  refine pN 1 [5] [(5, (.int .i64 r21.2.1))] ?_
  refine gv_sub [4, 5] (σ' := [(4, (bp b7)), (5, (.int .i64 r21.2.1))]) kr ?_
  refine gv_nil <| gv_cret ?_
  have e := sj h0; subst e
  refine gv_ret (gv_done [(.agg #[(.int .i64 r21.1.1), (.bool r21.1.2.1.1), (.slice a29 (length r21.1.2.1.2) c30), (.bool r21.1.2.2.1.1), (.slice a33 (length r21.1.2.2.1.2) c34), (.string r21.1.2.2.2.1), (.int .i64 r21.1.2.2.2.2)]), (.int .i64 r21.2.1)] rfl ⟨⟨⟨b7, 0, none⟩, kr, run_loadVar_row w41 b7 _ 41 _ _ _ hb43 Tryz.underlying41 rfl kr⟩, kr, trivial⟩ ?_)
  have hB48 := grown_step hB24 hg27 rowpp
  have hB49 := grown_step hB0 hg3 nb
  have hlo50 : w0.heap.size ≤ b7 := lob hbe11 hB49.size
  have hB51 := grown_step hB48 hg42 (rowppr hlo50)
  have hk52 := hb10.grown hg17 nb
  have ap53 : ¬ (fun k => blk a29 = some k) b7 := fun hx => nl ((show ∀ k, blk a29 = some k → w16.heap.size ≤ k from hl32) _ hx) ((ltb hk52) _ rfl)
  have hk54 := ho31.grown hg42 (fun _ h => h.elim) (rdnn (rowne ap53))
  have ap55 : ¬ (fun k => blk a33 = some k) b7 := fun hx => nl ((show ∀ k, blk a33 = some k → w16.heap.size ≤ k from hl36) _ hx) ((ltb hk52) _ rfl)
  have hk56 := ho35.grown hg42 (fun _ h => h.elim) (rdnn (rowne ap55))
  have ap57 : ¬ (· = pb0) b7 := fun hx => nl ((lowb hbe11) _ rfl) ((ltb hk45) _ hx)
  have hk58 := hb38.grown hg42 (rowne ap57)
  exact ⟨hB51, a29, c30, a33, c34, rfl, hk54, hl39, hk56, hl40, ap37, hk58⟩
 ·replace h0 := ite_f hc19 h0
  refine gv_seq <| gv_region <| pN 1 [31] [(31, (bp b1))] ?_
  have hk59 := hk13.grown hg17 nb
  refine gv_load (t := 5) (A := ⟨b1, 0, none⟩) (.int .u8 f_1.1) [] (fun e => by cases e) rfl rfl rfl kr kr kr (inw0 (hk59.cell 0 rfl)) rfl ?_
  refine pN 2 [30, 33] [(30, (.bool (f_1.1 == 118)))] ?_
  refine gv_nil <| gv_cond (b := (f_1.1 == 118)) kr (fun hc60 => ?_) (fun hc60 => ?_)
  ·replace h0 := ite_t hc60 h0
   refine gv_seq <| gv_region <| pN 1 [34] [(34, (bp pb0))] ?_
   refine bindE h0 ?_; clear h0; intro r61 hr62 h0
   have hg63 := (grown_trans (grown_trans hg3 hg9) hg17)
   have hB64 := grown_step hB0 hg63 nb
   have hk65 := hp0.grown hg63 nb
   refine gv_call0 kr rfl kr enters41 (packing_reader_varied_ok fuel pb0 pa0_0 pc0_0 (r_0.1, r_0.2) w16 (fun k => X0 k) (fun k hk => ⟨(fun k (hk : X0 k) => ltl (hX0 k hk).1 hB64.size) k hk, fun e => (fun (hx : X0 pb0) => (hX0 _ hx).2 rfl) (e ▸ hk)⟩) hk65 ((hpa0_0.grown hB64 (fun k hk => (hX0 k hk).1) (fun g e hk => by cases e; exact (hX0 _ hk).2 rfl)).wide (fun k hk => hk)) r61 hr62) ?_
   rintro v68 w66 ⟨hg67, a69, c70, a73, c74, rfl, ho71, hl72, ho75, hl76, ap77, hb78⟩
   have hl79 : ∀ g, blk a69 = some g → w0.heap.size ≤ g := fun g e => Nat.le_trans hB64.size (hl72 g e)
   have hl80 : ∀ g, blk a73 = some g → w0.heap.size ≤ g := fun g e => Nat.le_trans hB64.size (hl76 g e)
   refine pN 2 [36, 37] [(36, (.agg #[(.int .i64 r61.1.1), (.bool r61.1.2.1.1), (.slice a69 (length r61.1.2.1.2) c70), (.bool r61.1.2.2.1.1), (.slice a73 (length r61.1.2.2.1.2) c74), (.string r61.1.2.2.2.1), (.int .i64 r61.1.2.2.2.2)])), (37, (.int .i64 r61.2.1))] ?_
   refine gv_sub [4, 36, 37] (σ' := [(4, (bp b7)), (36, (.agg #[(.int .i64 r61.1.1), (.bool r61.1.2.1.1), (.slice a69 (length r61.1.2.1.2) c70), (.bool r61.1.2.2.1.1), (.slice a73 (length r61.1.2.2.1.2) c74), (.string r61.1.2.2.2.1), (.int .i64 r61.1.2.2.2.2)])), (37, (.int .i64 r61.2.1))]) kr ?_
   have hk85 := hp0.grown hg3 nb
   have ap86 : ¬ (· = b7) pb0 := fun hx => nl ((lowb hbe11) _ hx) ((ltb hk85) _ rfl)
   have hk87 := (hb10.grown hg17 nb).grown hg67 (rowne ap86)
   refine gv_store0 41 0 (.agg #[(.int .i64 r61.1.1), (.bool r61.1.2.1.1), (.slice a69 (length r61.1.2.1.2) c70), (.bool r61.1.2.2.1.1), (.slice a73 (length r61.1.2.2.1.2) c74), (.string r61.1.2.2.2.1), (.int .i64 r61.1.2.2.2.2)]) #[(.int .i64 r61.1.1), (.bool r61.1.2.1.1), (.slice a69 (length r61.1.2.1.2) c70), (.bool r61.1.2.2.1.1), (.slice a73 (length r61.1.2.2.1.2) c74), (.string r61.1.2.2.2.1), (.int .i64 r61.1.2.2.2.2)] hk87 kr kr kr ?_
   intro w81 hg82 hb83 hz84
   refine pN 1 [5] [(5, (.int .i64 r61.2.1))] ?_
   refine gv_nil <| gv_cret ?_
   have e := sj h0; subst e
   refine gv_ret (gv_done [(.agg #[(.int .i64 r61.1.1), (.bool r61.1.2.1.1), (.slice a69 (length r61.1.2.1.2) c70), (.bool r61.1.2.2.1.1), (.slice a73 (length r61.1.2.2.1.2) c74), (.string r61.1.2.2.2.1), (.int .i64 r61.1.2.2.2.2)]), (.int .i64 r61.2.1)] rfl ⟨⟨⟨b7, 0, none⟩, kr, run_loadVar_row w81 b7 _ 41 _ _ _ hb83 Tryz.underlying41 rfl kr⟩, kr, trivial⟩ ?_)
   have hB88 := grown_step hB64 hg67 rowpp
   have hB89 := grown_step hB0 hg3 nb
   have hlo90 : w0.heap.size ≤ b7 := lob hbe11 hB89.size
   have hB91 := grown_step hB88 hg82 (rowppr hlo90)
   have hk92 := hb10.grown hg17 nb
   have ap93 : ¬ (fun k => blk a69 = some k) b7 := fun hx => nl ((show ∀ k, blk a69 = some k → w16.heap.size ≤ k from hl72) _ hx) ((ltb hk92) _ rfl)
   have hk94 := ho71.grown hg82 (fun _ h => h.elim) (rdnn (rowne ap93))
   have ap95 : ¬ (fun k => blk a73 = some k) b7 := fun hx => nl ((show ∀ k, blk a73 = some k → w16.heap.size ≤ k from hl76) _ hx) ((ltb hk92) _ rfl)
   have hk96 := ho75.grown hg82 (fun _ h => h.elim) (rdnn (rowne ap95))
   have ap97 : ¬ (· = pb0) b7 := fun hx => nl ((lowb hbe11) _ rfl) ((ltb hk85) _ hx)
   have hk98 := hb78.grown hg82 (rowne ap97)
   exact ⟨hB91, a69, c70, a73, c74, rfl, hk94, hl79, hk96, hl80, ap77, hk98⟩
  ·replace h0 := ite_f hc60 h0
   refine gv_seq <| gv_region <| pN 1 [39] [(39, (bp b1))] ?_
   refine gv_load (t := 5) (A := ⟨b1, 0, none⟩) (.int .u8 f_1.1) [] (fun e => by cases e) rfl rfl rfl kr kr kr (inw0 (hk59.cell 0 rfl)) rfl ?_
   refine pN 2 [38, 41] [(38, (.bool (f_1.1 == 63)))] ?_
   refine gv_sub [0, 3, 4, 38] (σ' := [(0, (bp pb0)), (3, (bp b1)), (4, (bp b7)), (38, (.bool (f_1.1 == 63)))]) kr ?_
   refine gv_nil <| gv_cond (b := (f_1.1 == 63)) kr (fun hc99 => ?_) (fun hc99 => ?_)
   ·replace h0 := ite_t hc99 h0
    refine gv_seq <| gv_region <| pN 1 [43] [(43, (bp pb0))] ?_
    refine bindE h0 ?_; clear h0; intro r100 hr101 h0
    have hg102 := (grown_trans (grown_trans hg3 hg9) hg17)
    have hB103 := grown_step hB0 hg102 nb
    have hk104 := hp0.grown hg102 nb
    refine gv_call0 kr rfl kr enters42 (packing_reader_take_ok fuel pb0 pa0_0 pc0_0 (r_0.1, r_0.2) 1 w16 (fun k => X0 k) (fun k hk => ⟨(fun k (hk : X0 k) => ltl (hX0 k hk).1 hB103.size) k hk, fun e => (fun (hx : X0 pb0) => (hX0 _ hx).2 rfl) (e ▸ hk)⟩) hk104 ((hpa0_0.grown hB103 (fun k hk => (hX0 k hk).1) (fun g e hk => by cases e; exact (hX0 _ hk).2 rfl)).wide (fun k hk => hk)) r100 hr101) ?_
    rintro v107 w105 ⟨hg106, a108, c109, X111, rfl, ho110, hx112, hb113⟩
    have hx114 : ∀ k, X111 k → k < w105.heap.size := fun k hk => (hx112 k hk).1
    have hx115 : ∀ k, X111 k → X0 k ∨ w0.heap.size ≤ k := fun k hk => (hx112 k hk).2.elim (fun h => (fun k (hk : X0 k) => Or.inl hk) k h) (fun h => .inr (Nat.le_trans hB103.size h))
    clear hk104 hg102 hr101 hc99 hc60 hk59 hc19 hr15 hk13 hz12 hg9 hz6 hbe5 hb4
    refine pN 5 [8, 9, 42, 45, 46] [(8, (.slice a108 (length r100.1) c109)), (9, (.bool r100.2.1))] ?_
    refine gv_nil <| gv_seq <| gv_block <| gv_seq <| gv_region <| pN 3 [47, 48, 49] [(47, (.bool (!r100.2.1)))] ?_
    refine gv_nil <| gv_cond (b := (!r100.2.1)) kr (fun hc116 => ?_) (fun hc116 => ?_)
    ·replace h0 := ite_t hc116 h0
     refine gv_seq <| gv_region <| pN 1 [50] [(50, (.agg #[(.int .i64 0), (.bool false), (.slice none (length ([] : List Int)) 0), (.bool false), (.slice none (length ([] : List Int)) 0), (.string (strOf [])), (.int .i64 0)]))] ?_
     have hk121 := hp0.grown hg3 nb
     have ap122 : ¬ (· = b7) pb0 := fun hx => nl ((lowb hbe11) _ hx) ((ltb hk121) _ rfl)
     have hk123 := (hb10.grown hg17 nb).grown hg106 (rowne ap122)
     refine gv_store0 41 0 (.agg #[(.int .i64 0), (.bool false), (.slice none (length ([] : List Int)) 0), (.bool false), (.slice none (length ([] : List Int)) 0), (.string (strOf [])), (.int .i64 0)]) #[(.int .i64 0), (.bool false), (.slice none (length ([] : List Int)) 0), (.bool false), (.slice none (length ([] : List Int)) 0), (.string (strOf [])), (.int .i64 0)] hk123 kr kr kr ?_
     intro w117 hg118 hb119 hz120
     refine pN 1 [5] [(5, (.int .i64 15))] ?_
     refine gv_nil <| gv_cret ?_
     have e := sj h0; subst e
     refine gv_ret (gv_done [(.agg #[(.int .i64 0), (.bool false), (.slice none (length ([] : List Int)) 0), (.bool false), (.slice none (length ([] : List Int)) 0), (.string (strOf [])), (.int .i64 0)]), (.int .i64 15)] rfl ⟨⟨⟨b7, 0, none⟩, kr, run_loadVar_row w117 b7 _ 41 _ _ _ hb119 Tryz.underlying41 rfl kr⟩, kr, trivial⟩ ?_)
     have hB124 := grown_step hB103 hg106 rowpp
     have hB125 := grown_step hB0 hg3 nb
     have hlo126 : w0.heap.size ≤ b7 := lob hbe11 hB125.size
     have hB127 := grown_step hB124 hg118 (rowppr hlo126)
     have ap128 : ¬ (· = pb0) b7 := fun hx => nl ((lowb hbe11) _ rfl) ((ltb hk121) _ hx)
     have hk129 := hb113.grown hg118 (rowne ap128)
     exact ⟨hB127, none, 0, none, 0, rfl, (Gv.Own.nil (iE .u32) 107 w117 (fun _ => False)), (fun _ h => by cases h), (Gv.Own.nil (iE .u32) 107 w117 (fun _ => False)), (fun _ h => by cases h), (fun _ h => by cases h), hk129⟩
    ·replace h0 := ite_f hc116 h0
     refine gv_seq <| gv_region <| pN 1 [52] [(52, (.slice a108 (length r100.1) c109))] ?_
     refine bindE h0 ?_; clear h0; intro x130 hx131 h0
     refine gv_idxaddr (t := 23) (e := 5) (a := a108) (len := length r100.1) (cap := c109) (kk := .i64) (i := 0) (sz := 1) [] (fun e => by cases e) rfl rfl rfl kr kr Tryz.underlying23 kr (ho110.has hx131) (idx_spec hx131).1 (idx_spec hx131).2.1 rfl ?_
     refine gv_load (t := 5) (A := (elemAddr a108 ((0 : Int).toNat * 1))) (.int .u8 ((x130).toNat : Int)) [] (fun e => by cases e) rfl rfl rfl kr kr kr (inw0 (ho110.cell hx131)) rfl ?_
     refine pN 2 [51, 55] [(51, (.bool (decide (((x130).toNat : Int) > 1))))] ?_
     refine gv_nil <| gv_cond (b := (decide (((x130).toNat : Int) > 1))) kr (fun hc132 => ?_) (fun hc132 => ?_)
     ·replace h0 := ite_t hc132 h0
      refine gv_seq <| gv_region <| pN 1 [56] [(56, (.agg #[(.int .i64 0), (.bool false), (.slice none (length ([] : List Int)) 0), (.bool false), (.slice none (length ([] : List Int)) 0), (.string (strOf [])), (.int .i64 0)]))] ?_
      have hk137 := hp0.grown hg3 nb
      have ap138 : ¬ (· = b7) pb0 := fun hx => nl ((lowb hbe11) _ hx) ((ltb hk137) _ rfl)
      have hk139 := (hb10.grown hg17 nb).grown hg106 (rowne ap138)
      refine gv_store0 41 0 (.agg #[(.int .i64 0), (.bool false), (.slice none (length ([] : List Int)) 0), (.bool false), (.slice none (length ([] : List Int)) 0), (.string (strOf [])), (.int .i64 0)]) #[(.int .i64 0), (.bool false), (.slice none (length ([] : List Int)) 0), (.bool false), (.slice none (length ([] : List Int)) 0), (.string (strOf [])), (.int .i64 0)] hk139 kr kr kr ?_
      intro w133 hg134 hb135 hz136
      refine pN 1 [5] [(5, (.int .i64 16))] ?_
      refine gv_nil <| gv_cret ?_
      have e := sj h0; subst e
      refine gv_ret (gv_done [(.agg #[(.int .i64 0), (.bool false), (.slice none (length ([] : List Int)) 0), (.bool false), (.slice none (length ([] : List Int)) 0), (.string (strOf [])), (.int .i64 0)]), (.int .i64 16)] rfl ⟨⟨⟨b7, 0, none⟩, kr, run_loadVar_row w133 b7 _ 41 _ _ _ hb135 Tryz.underlying41 rfl kr⟩, kr, trivial⟩ ?_)
      have hB140 := grown_step hB103 hg106 rowpp
      have hB141 := grown_step hB0 hg3 nb
      have hlo142 : w0.heap.size ≤ b7 := lob hbe11 hB141.size
      have hB143 := grown_step hB140 hg134 (rowppr hlo142)
      have ap144 : ¬ (· = pb0) b7 := fun hx => nl ((lowb hbe11) _ rfl) ((ltb hk137) _ hx)
      have hk145 := hb113.grown hg134 (rowne ap144)
      exact ⟨hB143, none, 0, none, 0, rfl, (Gv.Own.nil (iE .u32) 107 w133 (fun _ => False)), (fun _ h => by cases h), (Gv.Own.nil (iE .u32) 107 w133 (fun _ => False)), (fun _ h => by cases h), (fun _ h => by cases h), hk145⟩
     ·replace h0 := ite_f hc132 h0
      refine gv_skip <| gv_blk <| gv_seq <| gv_region <| pN 1 [57] [(57, (.slice a108 (length r100.1) c109))] ?_
      refine bindE h0 ?_; clear h0; intro x146 hx147 h0
      refine gv_idxaddr (t := 23) (e := 5) (a := a108) (len := length r100.1) (cap := c109) (kk := .i64) (i := 0) (sz := 1) [] (fun e => by cases e) rfl rfl rfl kr kr Tryz.underlying23 kr (ho110.has hx147) (idx_spec hx147).1 (idx_spec hx147).2.1 rfl ?_
      refine gv_load (t := 5) (A := (elemAddr a108 ((0 : Int).toNat * 1))) (.int .u8 ((x146).toNat : Int)) [] (fun e => by cases e) rfl rfl rfl kr kr kr (inw0 (ho110.cell hx147)) rfl ?_
      refine pN 2 [60, 61] [(61, (.agg #[(.int .i64 1), (.bool false), (.slice none (length ([] : List Int)) 0), (.bool false), (.slice none (length ([] : List Int)) 0), (.string (strOf [])), (.int .i64 (IntKind.i64.wrap (((x146).toNat : Int))))]))] ?_
      have hk152 := hp0.grown hg3 nb
      have ap153 : ¬ (· = b7) pb0 := fun hx => nl ((lowb hbe11) _ hx) ((ltb hk152) _ rfl)
      have hk154 := (hb10.grown hg17 nb).grown hg106 (rowne ap153)
      refine gv_store0 41 0 (.agg #[(.int .i64 1), (.bool false), (.slice none (length ([] : List Int)) 0), (.bool false), (.slice none (length ([] : List Int)) 0), (.string (strOf [])), (.int .i64 (IntKind.i64.wrap (((x146).toNat : Int))))]) #[(.int .i64 1), (.bool false), (.slice none (length ([] : List Int)) 0), (.bool false), (.slice none (length ([] : List Int)) 0), (.string (strOf [])), (.int .i64 (IntKind.i64.wrap (((x146).toNat : Int))))] hk154 kr kr kr ?_
      intro w148 hg149 hb150 hz151
      refine pN 1 [5] [(5, (.int .i64 0))] ?_
      refine gv_sub [4, 5] (σ' := [(4, (bp b7)), (5, (.int .i64 0))]) kr ?_
      refine gv_nil <| gv_cret ?_
      have e := sj h0; subst e
      refine gv_ret (gv_done [(.agg #[(.int .i64 1), (.bool false), (.slice none (length ([] : List Int)) 0), (.bool false), (.slice none (length ([] : List Int)) 0), (.string (strOf [])), (.int .i64 (IntKind.i64.wrap (((x146).toNat : Int))))]), (.int .i64 0)] rfl ⟨⟨⟨b7, 0, none⟩, kr, run_loadVar_row w148 b7 _ 41 _ _ _ hb150 Tryz.underlying41 rfl kr⟩, kr, trivial⟩ ?_)
      have hB155 := grown_step hB103 hg106 rowpp
      have hB156 := grown_step hB0 hg3 nb
      have hlo157 : w0.heap.size ≤ b7 := lob hbe11 hB156.size
      have hB158 := grown_step hB155 hg149 (rowppr hlo157)
      have ap159 : ¬ (· = pb0) b7 := fun hx => nl ((lowb hbe11) _ rfl) ((ltb hk152) _ hx)
      have hk160 := hb113.grown hg149 (rowne ap159)
      exact ⟨hB158, none, 0, none, 0, rfl, (Gv.Own.nil (iE .u32) 107 w148 (fun _ => False)), (fun _ h => by cases h), (Gv.Own.nil (iE .u32) 107 w148 (fun _ => False)), (fun _ h => by cases h), (fun _ h => by cases h), hk160⟩
   ·replace h0 := ite_f hc99 h0
    refine gv_seq <| gv_region <| pN 1 [63] [(63, (bp b1))] ?_
    refine gv_load (t := 5) (A := ⟨b1, 0, none⟩) (.int .u8 f_1.1) [] (fun e => by cases e) rfl rfl rfl kr kr kr (inw0 (hk59.cell 0 rfl)) rfl ?_
    refine pN 2 [62, 65] [(62, (.bool (f_1.1 == 112)))] ?_
    refine gv_nil <| bindE h0 ?_; clear h0; intro j161 h1 h0
    refine gv_cut_code (J := fun a w163 => ∃ s162 : (((List UInt8) × Int) × (Int × Int × Bool) × (Int × (Bool × (List Int)) × (Bool × (List Int)) × ByteArray × Int)), j161 = .inl s162 ∧ ∃ (abb7_0j : Option Addr) (cbb7_0j : Nat), ∃ (abb7_1j : Option Addr) (cbb7_1j : Nat), w0.grownBy w163 (some pb0) ∧ w16.heap.size ≤ w163.heap.size ∧ Gv.Own (iE .u32) 107 w163 (fun _ => False) abb7_0j cbb7_0j s162.2.2.2.1.2 ∧ (∀ g, blk abb7_0j = some g → w0.heap.size ≤ g) ∧ Gv.Own (iE .u32) 107 w163 (fun _ => False) abb7_1j cbb7_1j s162.2.2.2.2.1.2 ∧ (∀ g, blk abb7_1j = some g → w0.heap.size ≤ g) ∧ (∀ g, blk abb7_0j = some g → ¬ (fun k => blk abb7_1j = some k) g) ∧ (∀ g, blk abb7_0j = some g → ¬ (· = b1) g) ∧ (∀ g, blk abb7_0j = some g → ¬ (· = b7) g) ∧ ¬ (fun k => blk abb7_0j = some k) b1 ∧ ¬ (fun k => blk abb7_0j = some k) b7 ∧ (∀ g, blk abb7_1j = some g → ¬ (fun k => blk abb7_0j = some k) g) ∧ (∀ g, blk abb7_1j = some g → ¬ (· = b1) g) ∧ (∀ g, blk abb7_1j = some g → ¬ (· = b7) g) ∧ ¬ (fun k => blk abb7_1j = some k) b1 ∧ ¬ (fun k => blk abb7_1j = some k) b7 ∧ Box w163 pb0 47 #[(.slice pa0_0 (length r_0.1) pc0_0), (.int .i64 s162.1.2)] ∧ Box w163 b1 49 #[(.int .u8 s162.2.1.1), (.int .i64 s162.2.1.2.1), (.bool s162.2.1.2.2)] ∧ Box w163 b7 41 #[(.int .i64 s162.2.2.1), (.bool s162.2.2.2.1.1), (.slice abb7_0j (length s162.2.2.2.1.2) cbb7_0j), (.bool s162.2.2.2.2.1.1), (.slice abb7_1j (length s162.2.2.2.2.1.2) cbb7_1j), (.string s162.2.2.2.2.2.1), (.int .i64 s162.2.2.2.2.2.2)] ∧ a.defers = [] ∧ a.tmps.size = 102 ∧ Ok [(0, (bp pb0)), (3, (bp b1)), (4, (bp b7))] a.tmps) ?_ ?_
    ·skip
     refine gv_cond (b := (f_1.1 == 112)) kr (fun hc164 => ?_) (fun hc164 => ?_)
     ·replace h1 := ite_t hc164 h1
      refine gv_seq <| gv_region <| pN 1 [67] [(67, (bp pb0))] ?_
      refine bindE h1 ?_; clear h1; intro r165 hr166 h1
      have hg167 := (grown_trans (grown_trans hg3 hg9) hg17)
      have hB168 := grown_step hB0 hg167 nb
      have hk169 := hp0.grown hg167 nb
      refine gv_call0 kr rfl kr enters42 (packing_reader_take_ok fuel pb0 pa0_0 pc0_0 (r_0.1, r_0.2) 1 w16 (fun k => X0 k) (fun k hk => ⟨(fun k (hk : X0 k) => ltl (hX0 k hk).1 hB168.size) k hk, fun e => (fun (hx : X0 pb0) => (hX0 _ hx).2 rfl) (e ▸ hk)⟩) hk169 ((hpa0_0.grown hB168 (fun k hk => (hX0 k hk).1) (fun g e hk => by cases e; exact (hX0 _ hk).2 rfl)).wide (fun k hk => hk)) r165 hr166) ?_
      rintro v172 w170 ⟨hg171, a173, c174, X176, rfl, ho175, hx177, hb178⟩
      have hx179 : ∀ k, X176 k → k < w170.heap.size := fun k hk => (hx177 k hk).1
      have hx180 : ∀ k, X176 k → X0 k ∨ w0.heap.size ≤ k := fun k hk => (hx177 k hk).2.elim (fun h => (fun k (hk : X0 k) => Or.inl hk) k h) (fun h => .inr (Nat.le_trans hB168.size h))
      refine pN 5 [10, 11, 66, 69, 70] [(10, (.slice a173 (length r165.1) c174)), (11, (.bool r165.2.1))] ?_
      refine gv_nil <| gv_seq <| gv_seq <| gv_region <| pN 2 [71, 72] [(72, (.bool (!r165.2.1)))] ?_
      refine gv_nil <| gv_cond (b := (!r165.2.1)) kr (fun hc181 => ?_) (fun hc181 => ?_)
      ·replace h1 := ite_t hc181 h1
       refine gv_seq <| gv_region <| pN 1 [73] [(73, (.agg #[(.int .i64 0), (.bool false), (.slice none (length ([] : List Int)) 0), (.bool false), (.slice none (length ([] : List Int)) 0), (.string (strOf [])), (.int .i64 0)]))] ?_
       have hk186 := hp0.grown hg3 nb
       have ap187 : ¬ (· = b7) pb0 := fun hx => nl ((lowb hbe11) _ hx) ((ltb hk186) _ rfl)
       have hk188 := (hb10.grown hg17 nb).grown hg171 (rowne ap187)
       refine gv_store0 41 0 (.agg #[(.int .i64 0), (.bool false), (.slice none (length ([] : List Int)) 0), (.bool false), (.slice none (length ([] : List Int)) 0), (.string (strOf [])), (.int .i64 0)]) #[(.int .i64 0), (.bool false), (.slice none (length ([] : List Int)) 0), (.bool false), (.slice none (length ([] : List Int)) 0), (.string (strOf [])), (.int .i64 0)] hk188 kr kr kr ?_
       intro w182 hg183 hb184 hz185
       refine pN 1 [5] [(5, (.int .i64 15))] ?_
       refine gv_nil <| gv_cret ?_
       have e := sj h1; subst e
       replace h0 := cont_inr h0
       have e := sj h0; subst e
       refine gv_ret (gv_done [(.agg #[(.int .i64 0), (.bool false), (.slice none (length ([] : List Int)) 0), (.bool false), (.slice none (length ([] : List Int)) 0), (.string (strOf [])), (.int .i64 0)]), (.int .i64 15)] rfl ⟨⟨⟨b7, 0, none⟩, kr, run_loadVar_row w182 b7 _ 41 _ _ _ hb184 Tryz.underlying41 rfl kr⟩, kr, trivial⟩ ?_)
       have hB189 := grown_step hB168 hg171 rowpp
       have hB190 := grown_step hB0 hg3 nb
       have hlo191 : w0.heap.size ≤ b7 := lob hbe11 hB190.size
       have hB192 := grown_step hB189 hg183 (rowppr hlo191)
       have ap193 : ¬ (· = pb0) b7 := fun hx => nl ((lowb hbe11) _ rfl) ((ltb hk186) _ hx)
       have hk194 := hb178.grown hg183 (rowne ap193)
       exact ⟨hB192, none, 0, none, 0, rfl, (Gv.Own.nil (iE .u32) 107 w182 (fun _ => False)), (fun _ h => by cases h), (Gv.Own.nil (iE .u32) 107 w182 (fun _ => False)), (fun _ h => by cases h), (fun _ h => by cases h), hk194⟩
      ·replace h1 := ite_f hc181 h1
       refine gv_skip <| gv_region <| pN 1 [74] [(74, (.slice a173 (length r165.1) c174))] ?_
       refine bindE h1 ?_; clear h1; intro x195 hx196 h1
       refine gv_idxaddr (t := 23) (e := 5) (a := a173) (len := length r165.1) (cap := c174) (kk := .i64) (i := 0) (sz := 1) [] (fun e => by cases e) rfl rfl rfl kr kr Tryz.underlying23 kr (ho175.has hx196) (idx_spec hx196).1 (idx_spec hx196).2.1 rfl ?_
       refine gv_load (t := 5) (A := (elemAddr a173 ((0 : Int).toNat * 1))) (.int .u8 ((x195).toNat : Int)) [] (fun e => by cases e) rfl rfl rfl kr kr kr (inw0 (ho175.cell hx196)) rfl ?_
       refine pN 2 [77, 78] [(77, (.int .i64 (IntKind.i64.wrap (((x195).toNat : Int))))), (78, (.pointer (some ⟨b1, 1, none⟩)))] ?_
       have ap201 : ¬ (· = b1) pb0 := fun hx => nl ((lowb hbe5) _ hx) ((ltb hp0) _ rfl)
       have hk202 := hk59.grown hg171 (rowne ap201)
       refine gv_store0 3 1 (.int .i64 (IntKind.i64.wrap (((x195).toNat : Int)))) #[(.int .u8 f_1.1), (.int .i64 (IntKind.i64.wrap (((x195).toNat : Int)))), (.bool f_1.2.2)] hk202 kr kr kr ?_
       intro w197 hg198 hb199 hz200
       refine gv_nil ?_
       have e := sj h1; subst e
       refine gv_goal fun a hd hs hok => ?_
       have hB203 := grown_step hB168 hg171 rowpp
       have hlo204 : w0.heap.size ≤ b1 := lob hbe5 hB0.size
       have hB205 := grown_step hB203 hg198 (rowppr hlo204)
       have hz206 := (nt hg171.size hg198.size)
       have ap207 : ¬ (· = pb0) b1 := fun hx => nl ((lowb hbe5) _ rfl) ((ltb hp0) _ hx)
       have hk208 := hb178.grown hg198 (rowne ap207)
       have hk209 := hp0.grown hg3 nb
       have ap210 : ¬ (· = b7) pb0 := fun hx => nl ((lowb hbe11) _ hx) ((ltb hk209) _ rfl)
       have lt211 := ltl ((ltb hb4) _ rfl) ((lowb hbe11) _ rfl)
       have hk212 := ((hb10.grown hg17 nb).grown hg171 (rowne ap210)).grown hg198 (rowne (Nat.ne_of_lt lt211))
       exact ⟨((r_0.1, r165.2.2.2), (f_1.1, (IntKind.i64.wrap (((x195).toNat : Int))), f_1.2.2), (0, (false, ([] : List Int)), (false, ([] : List Int)), (strOf []), 0)), rfl, none, 0, none, 0, hB205, hz206, (Gv.Own.nil (iE .u32) 107 w197 (fun _ => False)), (fun _ h => by cases h), (Gv.Own.nil (iE .u32) 107 w197 (fun _ => False)), (fun _ h => by cases h), (fun _ h => by cases h), (fun _ h => by cases h), (fun _ h => by cases h), (fun h => by cases h), (fun h => by cases h), (fun _ h => by cases h), (fun _ h => by cases h), (fun _ h => by cases h), (fun h => by cases h), (fun h => by cases h), hk208, hb199, hk212, hd, hs, okp [0, 3, 4] hok⟩
     ·replace h1 := ite_f hc164 h1
      refine gv_skip ?_
      have e := sj h1; subst e
      refine gv_goal fun a hd hs hok => ?_
      have hg213 := (grown_trans (grown_trans hg3 hg9) hg17)
      have hB214 := grown_step hB0 hg213 nb
      have hk215 := hp0.grown hg213 nb
      have hk216 := hb10.grown hg17 nb
      exact ⟨((r_0.1, r_0.2), (f_1.1, f_1.2.1, f_1.2.2), (0, (false, ([] : List Int)), (false, ([] : List Int)), (strOf []), 0)), rfl, none, 0, none, 0, hB214, nrf, (Gv.Own.nil (iE .u32) 107 w16 (fun _ => False)), (fun _ h => by cases h), (Gv.Own.nil (iE .u32) 107 w16 (fun _ => False)), (fun _ h => by cases h), (fun _ h => by cases h), (fun _ h => by cases h), (fun _ h => by cases h), (fun h => by cases h), (fun h => by cases h), (fun _ h => by cases h), (fun _ h => by cases h), (fun _ h => by cases h), (fun h => by cases h), (fun h => by cases h), hk215, hk59, hk216, hd, hs, okp [0, 3, 4] hok⟩
    ·rintro a w163 ⟨s162, e, a219, c220, a221, c222, hB217, hz218, ho223, hl224, ho225, hl226, ap227, ap228, ap229, ap230, ap231, ap232, ap233, ap234, ap235, ap236, hb237, hb238, hb239, hd, hs, hok⟩
     subst e
     refine gv_in ?_ hd hs hok
     clear hd hs hok
     replace h0 := cont_inl h0
     clear hz218 hc99 hc60 hk59 hc19 hg17 hr15 hk13 hz12 hb10 hg9 hz6
     refine gv_blk <| gv_seq <| gv_region <| pN 2 [80, 81] [(80, (bp pb0)), (81, (.pointer (some ⟨b1, 1, none⟩)))] ?_
     refine gv_load (t := 3) (A := ⟨b1, 1, none⟩) (.int .i64 s162.2.1.2.1) [] (fun e => by cases e) rfl rfl rfl kr kr kr (inw0 (hb238.cell 1 rfl)) rfl ?_
     refine bindE h0 ?_; clear h0; intro r240 hr241 h0
     refine gv_call0 kr rfl kr enters42 (packing_reader_take_ok fuel pb0 pa0_0 pc0_0 (r_0.1, s162.1.2) s162.2.1.2.1 w163 (fun k => X0 k) (fun k hk => ⟨(fun k (hk : X0 k) => ltl (hX0 k hk).1 hB217.size) k hk, fun e => (fun (hx : X0 pb0) => (hX0 _ hx).2 rfl) (e ▸ hk)⟩) hb237 ((hpa0_0.grown hB217 (fun k hk => (hX0 k hk).1) (fun g e hk => by cases e; exact (hX0 _ hk).2 rfl)).wide (fun k hk => hk)) r240 hr241) ?_
     rintro v244 w242 ⟨hg243, a245, c246, X248, rfl, ho247, hx249, hb250⟩
     have hx251 : ∀ k, X248 k → k < w242.heap.size := fun k hk => (hx249 k hk).1
     have hx252 : ∀ k, X248 k → X0 k ∨ w0.heap.size ≤ k := fun k hk => (hx249 k hk).2.elim (fun h => (fun k (hk : X0 k) => Or.inl hk) k h) (fun h => .inr (Nat.le_trans hB217.size h))
     refine pN 5 [12, 13, 79, 84, 85] [(12, (.slice a245 (length r240.1) c246)), (13, (.bool r240.2.1))] ?_
     refine gv_nil <| gv_seq <| gv_seq <| gv_region <| pN 2 [86, 87] [(87, (.bool (!r240.2.1)))] ?_
     refine gv_nil <| gv_cond (b := (!r240.2.1)) kr (fun hc253 => ?_) (fun hc253 => ?_)
     ·replace h0 := ite_t hc253 h0
      refine gv_seq <| gv_region <| pN 1 [88] [(88, (.agg #[(.int .i64 0), (.bool false), (.slice none (length ([] : List Int)) 0), (.bool false), (.slice none (length ([] : List Int)) 0), (.string (strOf [])), (.int .i64 0)]))] ?_
      have hk258 := hp0.grown hg3 nb
      have ap259 : ¬ (· = b7) pb0 := fun hx => nl ((lowb hbe11) _ hx) ((ltb hk258) _ rfl)
      have hk260 := hb239.grown hg243 (rowne ap259)
      refine gv_store0 41 0 (.agg #[(.int .i64 0), (.bool false), (.slice none (length ([] : List Int)) 0), (.bool false), (.slice none (length ([] : List Int)) 0), (.string (strOf [])), (.int .i64 0)]) #[(.int .i64 0), (.bool false), (.slice none (length ([] : List Int)) 0), (.bool false), (.slice none (length ([] : List Int)) 0), (.string (strOf [])), (.int .i64 0)] hk260 kr kr kr ?_
      intro w254 hg255 hb256 hz257
      clear hz257 hk260 hc253 hx252 hx251 hx249 ho247 hr241 hb239 hb238 hb237 ap236 ap235 ap234 ap233 ap232 ap231 ap230 ap229 ap228 ap227 hl226 ho225 hl224 ho223 hbe5 hb4
      refine pN 1 [5] [(5, (.int .i64 15))] ?_
      refine gv_nil <| gv_cret ?_
      have e := sj h0; subst e
      refine gv_ret (gv_done [(.agg #[(.int .i64 0), (.bool false), (.slice none (length ([] : List Int)) 0), (.bool false), (.slice none (length ([] : List Int)) 0), (.string (strOf [])), (.int .i64 0)]), (.int .i64 15)] rfl ⟨⟨⟨b7, 0, none⟩, kr, run_loadVar_row w254 b7 _ 41 _ _ _ hb256 Tryz.underlying41 rfl kr⟩, kr, trivial⟩ ?_)
      have hB261 := grown_step hB217 hg243 rowpp
      have hB262 := grown_step hB0 hg3 nb
      have hlo263 : w0.heap.size ≤ b7 := lob hbe11 hB262.size
      have hB264 := grown_step hB261 hg255 (rowppr hlo263)
      have ap265 : ¬ (· = pb0) b7 := fun hx => nl ((lowb hbe11) _ rfl) ((ltb hk258) _ hx)
      have hk266 := hb250.grown hg255 (rowne ap265)
      exact ⟨hB264, none, 0, none, 0, rfl, (Gv.Own.nil (iE .u32) 107 w254 (fun _ => False)), (fun _ h => by cases h), (Gv.Own.nil (iE .u32) 107 w254 (fun _ => False)), (fun _ h => by cases h), (fun _ h => by cases h), hk266⟩
     ·replace h0 := ite_f hc253 h0
      refine gv_skip <| gv_seq <| gv_seq <| gv_region <| bindE h0 ?_; clear h0; intro j267 h1 h0
      refine gv_cut_ops (J := fun a w268 => w0.grownBy w268 (some pb0) ∧ w242.heap.size ≤ w268.heap.size ∧ Box w268 pb0 47 #[(.slice pa0_0 (length r_0.1) pc0_0), (.int .i64 r240.2.2.2)] ∧ Box w268 b7 41 #[(.int .i64 s162.2.2.1), (.bool s162.2.2.2.1.1), (.slice a219 (length s162.2.2.2.1.2) c220), (.bool s162.2.2.2.2.1.1), (.slice a221 (length s162.2.2.2.2.1.2) c222), (.string s162.2.2.2.2.2.1), (.int .i64 s162.2.2.2.2.2.2)] ∧ Rd bE w268 X248 a245 c246 r240.1 ∧ Gv.Own (iE .u32) 107 w268 (fun _ => False) a219 c220 s162.2.2.2.1.2 ∧ Gv.Own (iE .u32) 107 w268 (fun _ => False) a221 c222 s162.2.2.2.2.1.2 ∧ a.defers = [] ∧ a.tmps.size = 102 ∧ Ok [(4, (bp b7)), (12, (.slice a245 (length r240.1) c246)), (97, (.bool j267))] a.tmps) ?_ ?_
      ·skip
       refine pN 1 [89] [(89, (bp b1))] ?_
       have ap269 : ¬ (· = b1) pb0 := fun hx => nl ((lowb hbe5) _ hx) ((ltb hp0) _ rfl)
       have hk270 := hb238.grown hg243 (rowne ap269)
       refine gv_load (t := 5) (A := ⟨b1, 0, none⟩) (.int .u8 s162.2.1.1) [] (fun e => by cases e) rfl rfl rfl kr kr kr (inw0 (hk270.cell 0 rfl)) rfl ?_
       refine pN 2 [91, 92] [(92, (.bool (s162.2.1.1 == 120)))] ?_
       refine gv_split (s := 92) (g := (s162.2.1.1 == 120)) kr (fun hc271 => ?_) (fun hc271 => ?_)
       ·skip
        replace h1 := ite_t hc271 h1
        refine pN 1 [93] [(93, (.slice a245 (length r240.1) c246))] ?_
        refine gv_b2s (src := 23) (dst := 9) (e := 5) (xs := r240.1) (a := a245) (cap := c246) (X := X248) [] (fun e => by cases e) rfl rfl rfl kr kr Tryz.underlying23 Tryz.underlying5 Tryz.underlying9 (inw0 ho247) rfl ?_
        refine bindE h1 ?_; clear h1; intro r272 hr273 h1
        refine gv_call0 kr rfl kr enters43 (strings_Trim_ok fuel (strOf r240.1) (strOf [0]) w242  r272 hr273) ?_
        rintro v276 w274 ⟨hg275, rfl⟩
        refine pN 2 [96, 97] [(97, (.bool (!(r272.toList == (strOf []).toList))))] ?_
        refine gv_nil ?_
        have e := sj h1; subst e
        refine gv_goal fun a hd hs hok => ?_
        have hB277 := grown_step hB217 hg243 rowpp
        have hB278 := grown_step hB277 hg275 nb
        have hz279 := hg275.size
        have hk280 := hb250.grown hg275 nb
        have hk281 := hp0.grown hg3 nb
        have ap282 : ¬ (· = b7) pb0 := fun hx => nl ((lowb hbe11) _ hx) ((ltb hk281) _ rfl)
        have hk283 := (hb239.grown hg243 (rowne ap282)).grown hg275 nb
        have hk284 := ho247.grown hg275 hx251 nb
        have hk285 := (ho223.grown hg243 (fun _ h => h.elim) (rdnn (rowne (fun (h : blk a219 = some pb0) => nl (hl224 _ h) hpl0)))).grown hg275 (fun _ h => h.elim) nb
        have hk286 := (ho225.grown hg243 (fun _ h => h.elim) (rdnn (rowne (fun (h : blk a221 = some pb0) => nl (hl226 _ h) hpl0)))).grown hg275 (fun _ h => h.elim) nb
        exact ⟨hB278, hz279, hk280, hk283, hk284, hk285, hk286, hd, hs, okp [4, 12, 97] hok⟩
       ·skip
        replace h1 := ite_f hc271 h1
        refine pN 5 [93, 94, 95, 96, 97] [(97, (.bool false))] ?_
        refine gv_nil ?_
        have e := sj h1; subst e
        refine gv_goal fun a hd hs hok => ?_
        have hB287 := grown_step hB217 hg243 rowpp
        have hk288 := hp0.grown hg3 nb
        have ap289 : ¬ (· = b7) pb0 := fun hx => nl ((lowb hbe11) _ hx) ((ltb hk288) _ rfl)
        have hk290 := hb239.grown hg243 (rowne ap289)
        have hk291 := ho223.grown hg243 (fun _ h => h.elim) (rdnn (rowne (fun (h : blk a219 = some pb0) => nl (hl224 _ h) hpl0)))
        have hk292 := ho225.grown hg243 (fun _ h => h.elim) (rdnn (rowne (fun (h : blk a221 = some pb0) => nl (hl226 _ h) hpl0)))
        exact ⟨hB287, nrf, hb250, hk290, ho247, hk291, hk292, hd, hs, okp [4, 12, 97] hok⟩
      ·rintro a w268 ⟨hB293, hz294, hb295, hb296, hk297, hk298, hk299, hd, hs, hok⟩
       refine gv_in ?_ hd hs hok
       clear hd hs hok
       clear hc253 hb250 ho247 hg243 hr241 hb238 hb237 ap235 ap233 ap230 ap228 hB217 hbe5 hb4
       refine gv_cond (b := j267) kr (fun hc300 => ?_) (fun hc300 => ?_)
       ·replace h0 := ite_t hc300 h0
        refine gv_seq <| gv_region <| pN 1 [98] [(98, (.agg #[(.int .i64 0), (.bool false), (.slice none (length ([] : List Int)) 0), (.bool false), (.slice none (length ([] : List Int)) 0), (.string (strOf [])), (.int .i64 0)]))] ?_
        refine gv_store0 41 0 (.agg #[(.int .i64 0), (.bool false), (.slice none (length ([] : List Int)) 0), (.bool false), (.slice none (length ([] : List Int)) 0), (.string (strOf [])), (.int .i64 0)]) #[(.int .i64 0), (.bool false), (.slice none (length ([] : List Int)) 0), (.bool false), (.slice none (length ([] : List Int)) 0), (.string (strOf [])), (.int .i64 0)] hb296 kr kr kr ?_
        intro w301 hg302 hb303 hz304
        refine pN 1 [5] [(5, (.int .i64 16))] ?_
        refine gv_nil <| gv_cret ?_
        have e := sj h0; subst e
        refine gv_ret (gv_done [(.agg #[(.int .i64 0), (.bool false), (.slice none (length ([] : List Int)) 0), (.bool false), (.slice none (length ([] : List Int)) 0), (.string (strOf [])), (.int .i64 0)]), (.int .i64 16)] rfl ⟨⟨⟨b7, 0, none⟩, kr, run_loadVar_row w301 b7 _ 41 _ _ _ hb303 Tryz.underlying41 rfl kr⟩, kr, trivial⟩ ?_)
        have hB305 := grown_step hB0 hg3 nb
        have hlo306 : w0.heap.size ≤ b7 := lob hbe11 hB305.size
        have hB307 := grown_step hB293 hg302 (rowppr hlo306)
        have hk308 := hp0.grown hg3 nb
        have ap309 : ¬ (· = pb0) b7 := fun hx => nl ((lowb hbe11) _ rfl) ((ltb hk308) _ hx)
        have hk310 := hb295.grown hg302 (rowne ap309)
        exact ⟨hB307, none, 0, none, 0, rfl, (Gv.Own.nil (iE .u32) 107 w301 (fun _ => False)), (fun _ h => by cases h), (Gv.Own.nil (iE .u32) 107 w301 (fun _ => False)), (fun _ h => by cases h), (fun _ h => by cases h), hk310⟩
       ·replace h0 := ite_f hc300 h0
        refine gv_skip <| gv_seq <| gv_region <| pN 1 [99] [(99, (.slice a245 (length r240.1) c246))] ?_
        refine gv_b2s (src := 23) (dst := 9) (e := 5) (xs := r240.1) (a := a245) (cap := c246) (X := X248) [] (fun e => by cases e) rfl rfl rfl kr kr Tryz.underlying23 Tryz.underlying5 Tryz.underlying9 (inw0 hk297) rfl ?_
        refine pN 1 [101] [(101, (.agg #[(.int .i64 5), (.bool false), (.slice none (length ([] : List Int)) 0), (.bool false), (.slice none (length ([] : List Int)) 0), (.string (strOf r240.1)), (.int .i64 0)]))] ?_
        refine gv_store0 41 0 (.agg #[(.int .i64 5), (.bool false), (.slice none (length ([] : List Int)) 0), (.bool false), (.slice none (length ([] : List Int)) 0), (.string (strOf r240.1)), (.int .i64 0)]) #[(.int .i64 5), (.bool false), (.slice none (length ([] : List Int)) 0), (.bool false), (.slice none (length ([] : List Int)) 0), (.string (strOf r240.1)), (.int .i64 0)] hb296 kr kr kr ?_
        intro w311 hg312 hb313 hz314
        refine pN 1 [5] [(5, (.int .i64 0))] ?_
        refine gv_nil <| gv_cret ?_
        have e := sj h0; subst e
        refine gv_ret (gv_done [(.agg #[(.int .i64 5), (.bool false), (.slice none (length ([] : List Int)) 0), (.bool false), (.slice none (length ([] : List Int)) 0), (.string (strOf r240.1)), (.int .i64 0)]), (.int .i64 0)] rfl ⟨⟨⟨b7, 0, none⟩, kr, run_loadVar_row w311 b7 _ 41 _ _ _ hb313 Tryz.underlying41 rfl kr⟩, kr, trivial⟩ ?_)
        have hB315 := grown_step hB0 hg3 nb
        have hlo316 : w0.heap.size ≤ b7 := lob hbe11 hB315.size
        have hB317 := grown_step hB293 hg312 (rowppr hlo316)
        have hk318 := hp0.grown hg3 nb
        have ap319 : ¬ (· = pb0) b7 := fun hx => nl ((lowb hbe11) _ rfl) ((ltb hk318) _ hx)
        have hk320 := hb295.grown hg312 (rowne ap319)
        exact ⟨hB317, none, 0, none, 0, rfl, (Gv.Own.nil (iE .u32) 107 w311 (fun _ => False)), (fun _ h => by cases h), (Gv.Own.nil (iE .u32) 107 w311 (fun _ => False)), (fun _ h => by cases h), (fun _ h => by cases h), hk320⟩

theorem packing_Unpack_ok (fuel : Nat) (pa0_0 : Option Addr) (pc0_0 : Nat) (l_0 : (List (Int × Int × Bool))) (pa1_0 : Option Addr) (pc1_0 : Nat) (data_1 : (List UInt8)) (w0 : World) (X0 : Nat → Prop) (hX0 : ∀ k, X0 k → k < w0.heap.size) (hpa0_0 : Rd (prE (iE .u8) (prE (iE .i64) tE)) w0 X0 pa0_0 pc0_0 l_0) (hpa1_0 : Rd bE w0 X0 pa1_0 pc1_0 data_1) (r0 : ((List (Int × (Bool × (List Int)) × (Bool × (List Int)) × ByteArray × Int)) × (Int × Int))) (h0 : packing_Unpack fuel l_0 data_1 = some r0) :
    Calls Tryz.prog 5 ([(.slice pa0_0 (length l_0) pc0_0), (.slice pa1_0 (length data_1) pc1_0)] : List Value).toArray w0 (Ret fun v w' => w0.grownBy w' none ∧ ∃ (a0_0r : Option Addr) (c0_0r : Nat), ∃ (X0_0r : Nat → Prop), v = tup [(.slice a0_0r (length r0.1) c0_0r), (.agg #[(.int .i64 r0.2.1), (.int .i64 r0.2.2)])] ∧ Gv.Own (prE (iE .i64) (prE (prE tE (slE (iE .u32))) (prE (prE tE (slE (iE .u32))) (prE sE (iE .i64))))) 41 w' X0_0r a0_0r c0_0r r0.1 ∧ (∀ g, blk a0_0r = some g → w0.heap.size ≤ g) ∧ (∀ k, X0_0r k → k < w'.heap.size ∧ (X0 k ∨ w0.heap.size ≤ k))) := by
 have hB0 : Below w0.heap.size w0 w0 := Below.refl _ _
 unfold packing_Unpack at h0
 refine calls_run Tryz.func5 rfl Tryz.ntmps5 kr ?_
 refine gv_sub [0, 1] (σ' := [(0, (.slice pa0_0 (length l_0) pc0_0)), (1, (.slice pa1_0 (length data_1) pc1_0))]) kr ?_
 refine gv_seq <| gv_region <| pN 1 [4] [] ?_
 refine gv_new0 (fun b => .pointer (some ⟨b, 0, none⟩)) #[(.int .i64 0), (.int .i64 0)] 26 kr kr ?_
 intro b1 w2 hg3 hb4 hbe5 hz6
 refine gv_nil <| gv_seq <| gv_seq <| gv_region <| pN 1 [13] [(13, (.slice pa0_0 (length l_0) pc0_0))] ?_
 refine bindE h0 ?_; clear h0; intro r7 hr8 h0
 have hB9 := bg hB0 hg3 nb
 refine gv_call0 kr rfl kr enters14 (packing_Check_ok fuel pa0_0 pc0_0 l_0 w2 (fun k => X0 k) (fun k hk => (fun k (hk : X0 k) => ltl (hX0 k hk) hB9.size) k hk) ((hpa0_0.below hB9 hX0).wide (fun k hk => hk)) r7 hr8) ?_
 rintro v12 w10 ⟨hg11, rfl⟩
 refine gv_new0 (fun b => .pointer (some ⟨b, 0, none⟩)) #[(.int .i64 0), (.int .i64 0)] 26 kr kr ?_
 intro b13 w14 hg15 hb16 hbe17 hz18
 refine gv_store0 26 0 (.agg #[(.int .i64 r7.1), (.int .i64 r7.2)]) #[(.int .i64 r7.1), (.int .i64 r7.2)] hb16 kr kr kr ?_
 intro w19 hg20 hb21 hz22
 refine gv_nil <| gv_seq <| gv_region <| pN 1 [15] [(15, (bp b13))] ?_
 refine gv_load (t := 3) (A := ⟨b13, 0, none⟩) (.int .i64 r7.1) [] (fun e => by cases e) rfl rfl rfl kr kr kr (inw0 (hb21.cell 0 rfl)) rfl ?_
 refine pN 1 [17] [(17, (.bool (r7.1 != 0)))] ?_
 refine gv_nil <| gv_cond (b := (r7.1 != 0)) kr (fun hc23 => ?_) (fun hc23 => ?_)
 ·replace h0 := ite_t hc23 h0
  refine gv_seq <| gv_drawA kr ?_
  intro w24 hg25
  refine gv_pre [1] (bA 3 [1]) 2 kr kr ?_
  refine pN 1 [4] [(4, (.slice none (length ([] : List (Int × (Bool × (List Int)) × (Bool × (List Int)) × ByteArray × Int))) 0))] ?_
  refine gv_nil <| gv_goA ?_
  refine gv_stage (Cls w24 []) [0] [(0, some true)] (bA 3 [0, 1]) 1 kr kr (Cls.refl _ _) ?_
  have hC26 := Cls.refl w24 []
  have hk27 := hb21.grown hg25 nb
  refine gv_loadBox (t := 26) (b := b13) (t' := 26) (fr := (0, 0)) #[(.int .i64 r7.1), (.int .i64 r7.2)] [] (fun e => by cases e) rfl rfl rfl kr kr kr kr (inw1 fun w' hC' => (hC'.box hk27 nm_nil)) rfl ?_
  refine gv_nil <| gv_goA ?_
  refine gv_stage (fun _ => True) [2] [(2, some false)] (bA 3 [0, 1, 2]) 0 kr kr trivial ?_
  have hg32 := (grown_trans hg11 hg15)
  have hk33 := hb4.grown hg11 nb
  have lt34 := ltl ((ltb hk33) _ rfl) ((lowb hbe17) _ rfl)
  have hk35 := ((hb4.grown hg32 nb).grown hg20 (rowne (ng lt34))).grown hg25 nb
  refine gv_store (t := 26) (b := b1) (off := 0) (v := (.agg #[(.int .i64 r7.1), (.int .i64 r7.2)])) (t' := 26) (cs := #[(.int .i64 0), (.int .i64 0)]) #[(.int .i64 r7.1), (.int .i64 r7.2)] (by decide) rfl rfl kr kr kr (by intro u hu; simp [Value.cells] at hu; rcases hu with rfl | rfl <;> rfl) (show 0 + 2 ≤ 2 by decide) (by rfl) hk35 ?_
  intro w28 hg29 hb30 hz31
  refine ⟨(fun _ => trivial), ?_⟩
  refine gv_nil <| gv_goA ?_
  refine gv_stageE kr ?_
  refine gv_cret ?_
  have e := sj h0; subst e
  refine gv_ret (gv_done [(.slice none (length ([] : List (Int × (Bool × (List Int)) × (Bool × (List Int)) × ByteArray × Int))) 0), (.agg #[(.int .i64 r7.1), (.int .i64 r7.2)])] rfl ⟨kr, ⟨⟨b1, 0, none⟩, kr, run_loadVar_row w28 b1 _ 26 _ _ _ hb30 Tryz.underlying26 rfl kr⟩, trivial⟩ ?_)
  have hB36 := bg hB9 hg32 nb
  have hB37 := bg hB9 hg11 nb
  have hlo38 : w0.heap.size ≤ b13 := lob hbe17 hB37.size
  have hB39 := bg hB36 hg20 (rowlo hlo38)
  have hB40 := bg hB39 hg25 nb
  have hlo41 : w0.heap.size ≤ b1 := lob hbe5 hB0.size
  have hB42 := bg hB40 hg29 (rowlo hlo41)
  exact ⟨grown_of_below hB42, none, 0, (fun _ => False), rfl, (Gv.Own.nil (prE (iE .i64) (prE (prE tE (slE (iE .u32))) (prE (prE tE (slE (iE .u32))) (prE sE (iE .i64))))) 41 w28 (fun _ => False)), (fun _ h => by cases h), (fun k hk => ⟨(fun _ h => h.elim) k hk, (fun _ h => h.elim) k hk⟩)⟩
 ·replace h0 := ite_f hc23 h0
  refine gv_skip <| gv_seq <| gv_region <| pN 2 [19, 20] [(20, (.agg #[(.slice pa1_0 (length data_1) pc1_0), (.int .i64 0)]))] ?_
  refine gv_new0 (fun b => .pointer (some ⟨b, 0, none⟩)) #[(.slice pa1_0 (length data_1) pc1_0), (.int .i64 0)] 47 kr kr ?_
  intro b43 w44 hg45 hb46 hbe47 hz48
  refine pN 1 [7] [(7, (bp b43))] ?_
  refine gv_nil <| gv_seq <| gv_region <| pN 1 [8] [(8, (.slice none (length ([] : List (Int × (Bool × (List Int)) × (Bool × (List Int)) × ByteArray × Int))) 0))] ?_
  refine gv_nil <| gv_seq <| gv_seq <| gv_region <| pN 3 [22, 23, 24] [(22, (.slice pa0_0 (length l_0) pc0_0)), (23, (.int .i64 ((length l_0 : Nat) : Int))), (24, (.int .i64 0))] ?_
  refine gv_sub [1, 5, 7, 8, 22, 23, 24] (σ' := [(1, (.slice pa1_0 (length data_1) pc1_0)), (5, (bp b1)), (7, (bp b43)), (8, (.slice none (length ([] : List (Int × (Bool × (List Int)) × (Bool × (List Int)) × ByteArray × Int))) 0)), (22, (.slice pa0_0 (length l_0) pc0_0)), (23, (.int .i64 ((length l_0 : Nat) : Int))), (24, (.int .i64 0))]) kr ?_
  refine gv_nil <| bindE h0 ?_; clear h0; intro j49 h1 h0
  refine gv_cut_code (J := fun a w51 => ∃ s50 : ((List (Int × (Bool × (List Int)) × (Bool × (List Int)) × ByteArray × Int)) × (Int × Int) × ((List UInt8) × Int)), j49 = .inl s50 ∧ ∃ (a8_0j : Option Addr) (c8_0j : Nat), ∃ (X8_0j : Nat → Prop), ∃ (abb43_0j : Option Addr) (cbb43_0j : Nat), Below w0.heap.size w0 w51 ∧ w44.heap.size ≤ w51.heap.size ∧ Gv.Own (prE (iE .i64) (prE (prE tE (slE (iE .u32))) (prE (prE tE (slE (iE .u32))) (prE sE (iE .i64))))) 41 w51 X8_0j a8_0j c8_0j s50.1 ∧ (∀ g, blk a8_0j = some g → w0.heap.size ≤ g) ∧ (∀ k, X8_0j k → k < w51.heap.size) ∧ (∀ k, X8_0j k → X0 k ∨ w0.heap.size ≤ k) ∧ Rd bE w0 X0 abb43_0j cbb43_0j s50.2.2.1 ∧ (∀ g, blk a8_0j = some g → ¬ (· = b1) g) ∧ (∀ g, blk a8_0j = some g → ¬ (· = b43) g) ∧ ¬ (fun k => blk a8_0j = some k ∨ X8_0j k) b1 ∧ ¬ (fun k => blk a8_0j = some k ∨ X8_0j k) b43 ∧ Box w51 b1 26 #[(.int .i64 s50.2.1.1), (.int .i64 s50.2.1.2)] ∧ Box w51 b43 47 #[(.slice abb43_0j (length s50.2.2.1) cbb43_0j), (.int .i64 s50.2.2.2)] ∧ a.defers = [] ∧ a.tmps.size = 58 ∧ Ok [(1, (.slice pa1_0 (length data_1) pc1_0)), (5, (bp b1)), (7, (bp b43)), (8, (.slice a8_0j (length s50.1) c8_0j))] a.tmps) ?_ ?_
  ·skip
   refine gv_block <| gv_loop (A := fun (s52 : ((List (Int × (Bool × (List Int)) × (Bool × (List Int)) × ByteArray × Int)) × Int × (Int × Int) × ((List UInt8) × Int))) a w53 => ∃ (a8_0j : Option Addr) (c8_0j : Nat), ∃ (X8_0j : Nat → Prop), ∃ (abb43_0j : Option Addr) (cbb43_0j : Nat), Below w0.heap.size w0 w53 ∧ w44.heap.size ≤ w53.heap.size ∧ Gv.Own (prE (iE .i64) (prE (prE tE (slE (iE .u32))) (prE (prE tE (slE (iE .u32))) (prE sE (iE .i64))))) 41 w53 X8_0j a8_0j c8_0j s52.1 ∧ (∀ g, blk a8_0j = some g → w0.heap.size ≤ g) ∧ (∀ k, X8_0j k → k < w53.heap.size) ∧ (∀ k, X8_0j k → X0 k ∨ w0.heap.size ≤ k) ∧ Rd bE w0 X0 abb43_0j cbb43_0j s52.2.2.2.1 ∧ (∀ g, blk a8_0j = some g → ¬ (· = b1) g) ∧ (∀ g, blk a8_0j = some g → ¬ (· = b43) g) ∧ ¬ (fun k => blk a8_0j = some k ∨ X8_0j k) b1 ∧ ¬ (fun k => blk a8_0j = some k ∨ X8_0j k) b43 ∧ Box w53 b1 26 #[(.int .i64 s52.2.2.1.1), (.int .i64 s52.2.2.1.2)] ∧ Box w53 b43 47 #[(.slice abb43_0j (length s52.2.2.2.1) cbb43_0j), (.int .i64 s52.2.2.2.2)] ∧ a.defers = [] ∧ a.tmps.size = 58 ∧ Ok [(1, (.slice pa1_0 (length data_1) pc1_0)), (5, (bp b1)), (7, (bp b43)), (8, (.slice a8_0j (length s52.1) c8_0j)), (22, (.slice pa0_0 (length l_0) pc0_0)), (23, (.int .i64 ((length l_0 : Nat) : Int))), (24, (.int .i64 s52.2.1))] a.tmps) h1 ?_ ?_
   ·intro a hd hs hok
    have hg54 := (grown_trans hg11 hg15)
    have hB55 := bg hB9 hg54 nb
    have hB56 := bg hB9 hg11 nb
    have hlo57 : w0.heap.size ≤ b13 := lob hbe17 hB56.size
    have hB58 := bg hB55 hg20 (rowlo hlo57)
    have hB59 := bg hB58 hg45 nb
    have hk60 := hb4.grown hg11 nb
    have lt61 := ltl ((ltb hk60) _ rfl) ((lowb hbe17) _ rfl)
    have hk62 := ((hb4.grown hg54 nb).grown hg20 (rowne (ng lt61))).grown hg45 nb
    exact ⟨none, 0, (fun _ => False), pa1_0, pc1_0, hB59, nrf, (Gv.Own.nil (prE (iE .i64) (prE (prE tE (slE (iE .u32))) (prE (prE tE (slE (iE .u32))) (prE sE (iE .i64))))) 41 w44 (fun _ => False)), (fun _ h => by cases h), (fun _ h => h.elim), (fun _ h => h.elim), hpa1_0, (fun _ h => by cases h), (fun _ h => by cases h), (fun h => h.elim (fun e => by cases e) (fun e => e)), (fun h => h.elim (fun e => by cases e) (fun e => e)), hk62, hb46, hd, hs, okp [1, 5, 7, 8, 22, 23, 24] hok⟩
   ·rintro s52 r2 h2 hR2 a w53 ⟨a65, c66, X65, a67, c68, hB63, hz64, ho69, hl70, hx71, hx72, hp73, ap74, ap75, ap76, ap77, hb78, hb79, hd, hs, hok⟩
    refine gv_in ?_ hd hs hok
    clear hd hs hok
    clear hz48 hb46 hg45 hc23 hz22 hz18 hb16 hr8 hz6 hg3
    refine gv_seq <| gv_region <| pN 1 [25] [(25, (.bool (decide (s52.2.1 < ((length l_0 : Nat) : Int)))))] ?_
    refine gv_nil <| gv_seq <| gv_cond (b := (decide (s52.2.1 < ((length l_0 : Nat) : Int)))) kr (fun hc80 => ?_) (fun hc80 => ?_)
    ·replace h2 := ite_t hc80 h2
     refine gv_skip <| gv_seq <| gv_block <| gv_seq <| gv_region <| pN 1 [26] [(26, (.int .i64 s52.2.1))] ?_
     refine bindE h2 ?_; clear h2; intro x81 hx82 h2
     refine gv_idxaddr (t := 22) (e := 49) (a := pa0_0) (len := length l_0) (cap := pc0_0) (kk := .i64) (i := s52.2.1) (sz := 3) [] (fun e => by cases e) rfl rfl rfl kr kr Tryz.underlying22 kr ((hpa0_0.below hB63 hX0).has hx82) (idx_spec hx82).1 (idx_spec hx82).2.1 rfl ?_
     obtain ⟨_, ⟨_, _, rfl, rfl, ⟨_, _, rfl, rfl, rfl⟩⟩, hc83⟩ := hpa0_0.cellsK hx82
     refine gv_loadAgg (t := 49) (A := (elemAddr pa0_0 ((s52.2.1 : Int).toNat * 3))) #[(.int .u8 x81.1), (.int .i64 x81.2.1), (.bool x81.2.2)] [] (fun e => by cases e) rfl rfl rfl kr kr kr kr (inw0 (hc83 w53 (fun k hk => hB63.block k (hX0 k hk)))) rfl ?_
     refine gv_new0 (fun b => .pointer (some ⟨b, 0, none⟩)) #[(.int .u8 0), (.int .i64 0), (.bool false)] 49 kr kr ?_
     intro b84 w85 hg86 hb87 hbe88 hz89
     have hz90 := (nt hz64 hg86.size)
     clear hz89 hc83 hx82 hc80 hz64
     refine pN 1 [9] [(9, (.int .i64 s52.2.1))] ?_
     refine gv_store0 49 0 (.agg #[(.int .u8 x81.1), (.int .i64 x81.2.1), (.bool x81.2.2)]) #[(.int .u8 x81.1), (.int .i64 x81.2.1), (.bool x81.2.2)] hb87 kr kr kr ?_
     intro w91 hg92 hb93 hz94
     refine gv_nil <| gv_seq <| gv_region <| pN 1 [30] [(30, (bp b43))] ?_
     refine gv_loadBox (t := 49) (b := b84) (t' := 49) (fr := (0, 0)) #[(.int .u8 x81.1), (.int .i64 x81.2.1), (.bool x81.2.2)] [] (fun e => by cases e) rfl rfl rfl kr kr kr kr (inw0 hb93) rfl ?_
     refine bindE h2 ?_; clear h2; intro r95 hr96 h2
     have hB97 := bg hB63 hg86 nb
     have hlo98 : w0.heap.size ≤ b84 := lob hbe88 hB63.size
     have hB99 := bg hB97 hg92 (rowlo hlo98)
     have hg100 := (grown_trans hg11 hg15)
     have hB101 := bg hB9 hg100 nb
     have hB102 := bg hB9 hg11 nb
     have hlo103 : w0.heap.size ≤ b13 := lob hbe17 hB102.size
     have hB104 := bg hB101 hg20 (rowlo hlo103)
     have hlo105 : w0.heap.size ≤ b43 := lob hbe47 hB104.size
     have lt106 := ltl ((ltb hb79) _ rfl) ((lowb hbe88) _ rfl)
     have hk107 := (hb79.grown hg86 nb).grown hg92 (rowne (ng lt106))
     refine gv_call0 kr rfl kr enters15 (packing_reader_value_ok fuel b43 a67 c68 (s52.2.2.2.1, s52.2.2.2.2) (x81.1, x81.2.1, x81.2.2) w91 (fun k => X0 k) (fun k hk => ⟨(fun k (hk : X0 k) => ltl (hX0 k hk) hB99.size) k hk, fun e => (fun (hx : X0 b43) => nl hlo105 (hX0 _ hx)) (e ▸ hk)⟩) hk107 ((hp73.below hB99 hX0).wide (fun k hk => hk)) r95 hr96) ?_
     rintro v110 w108 ⟨hg109, a111, c112, a115, c116, rfl, ho113, hl114, ho117, hl118, ap119, hb120⟩
     have hl121 : ∀ g, blk a111 = some g → w0.heap.size ≤ g := fun g e => Nat.le_trans hB99.size (hl114 g e)
     have hl122 : ∀ g, blk a115 = some g → w0.heap.size ≤ g := fun g e => Nat.le_trans hB99.size (hl118 g e)
     refine pN 3 [29, 33, 34] [(33, (.agg #[(.int .i64 r95.1.1), (.bool r95.1.2.1.1), (.slice a111 (length r95.1.2.1.2) c112), (.bool r95.1.2.2.1.1), (.slice a115 (length r95.1.2.2.1.2) c116), (.string r95.1.2.2.2.1), (.int .i64 r95.1.2.2.2.2)])), (34, (.int .i64 r95.2.1))] ?_
     refine gv_new0 (fun b => .pointer (some ⟨b, 0, none⟩)) #[(.int .i64 0), (.bool false), (.slice none (length ([] : List Int)) 0), (.bool false), (.slice none (length ([] : List Int)) 0), (.string (strOf [])), (.int .i64 0)] 41 kr kr ?_
     intro b123 w124 hg125 hb126 hbe127 hz128
     refine gv_store0 41 0 (.agg #[(.int .i64 r95.1.1), (.bool r95.1.2.1.1), (.slice a111 (length r95.1.2.1.2) c112), (.bool r95.1.2.2.1.1), (.slice a115 (length r95.1.2.2.1.2) c116), (.string r95.1.2.2.2.1), (.int .i64 r95.1.2.2.2.2)]) #[(.int .i64 r95.1.1), (.bool r95.1.2.1.1), (.slice a111 (length r95.1.2.1.2) c112), (.bool r95.1.2.2.1.1), (.slice a115 (length r95.1.2.2.1.2) c116), (.string r95.1.2.2.2.1), (.int .i64 r95.1.2.2.2.2)] hb126 kr kr kr ?_
     intro w129 hg130 hb131 hz132
     refine pN 1 [12] [(12, (.int .i64 r95.2.1))] ?_
     refine gv_sub [1, 5, 7, 8, 9, 10, 11, 12, 22, 23, 24] (σ' := [(1, (.slice pa1_0 (length data_1) pc1_0)), (5, (bp b1)), (7, (bp b43)), (8, (.slice a65 (length s52.1) c66)), (9, (.int .i64 s52.2.1)), (10, (bp b84)), (11, (bp b123)), (12, (.int .i64 r95.2.1)), (22, (.slice pa0_0 (length l_0) pc0_0)), (23, (.int .i64 ((length l_0 : Nat) : Int))), (24, (.int .i64 s52.2.1))]) kr ?_
     refine gv_nil <| gv_seq <| gv_seq <| gv_region <| pN 2 [35, 36] [(36, (.bool (r95.2.1 != 0)))] ?_
     refine gv_nil <| gv_cond (b := (r95.2.1 != 0)) kr (fun hc133 => ?_) (fun hc133 => ?_)
     ·replace h2 := ite_t hc133 h2
      refine gv_seq <| gv_region <| pN 2 [37, 38] [(37, (.int .i64 r95.2.1)), (38, (.int .i64 s52.2.1))] ?_
      refine bindE h2 ?_; clear h2; intro r134 hr135 h2
      refine gv_call0 kr rfl kr enters16 (packing_at_ok fuel r95.2.1 s52.2.1 w129  r134 hr135) ?_
      rintro v138 w136 ⟨hg137, rfl⟩
      refine pN 1 [4] [(4, (.slice none (length ([] : List (Int × (Bool × (List Int)) × (Bool × (List Int)) × ByteArray × Int))) 0))] ?_
      have hk143 := hb4.grown hg11 nb
      have lt144 := ltl ((ltb hk143) _ rfl) ((lowb hbe17) _ rfl)
      have lt145 := ltl ((ltb hb21) _ rfl) ((lowb hbe47) _ rfl)
      have lt146 := ltt lt144 lt145
      have lt147 := ltt lt146 lt106
      have hk148 := hb93.grown hg109 (rowne (Nat.ne_of_lt lt106))
      have lt149 := ltl ((ltb hk148) _ rfl) ((lowb hbe127) _ rfl)
      have lt150 := ltt lt147 lt149
      have hk151 := (((((hb78.grown hg86 nb).grown hg92 (rowne (ng lt147))).grown hg109 (rowne (ng lt146))).grown hg125 nb).grown hg130 (rowne (ng lt150))).grown hg137 nb
      refine gv_store0 26 0 (.agg #[(.int .i64 r134.1), (.int .i64 r134.2)]) #[(.int .i64 r134.1), (.int .i64 r134.2)] hk151 kr kr kr ?_
      intro w139 hg140 hb141 hz142
      refine gv_nil <| gv_cret ?_
      have e := sj h2; subst e
      replace h1 := congrArg some (hR2 _ rfl)
      have e := sj h1; subst e
      replace h0 := cont_inr h0
      have e := sj h0; subst e
      refine gv_ret (gv_done [(.slice none (length ([] : List (Int × (Bool × (List Int)) × (Bool × (List Int)) × ByteArray × Int))) 0), (.agg #[(.int .i64 r134.1), (.int .i64 r134.2)])] rfl ⟨kr, ⟨⟨b1, 0, none⟩, kr, run_loadVar_row w139 b1 _ 26 _ _ _ hb141 Tryz.underlying26 rfl kr⟩, trivial⟩ ?_)
      have hB152 := bg hB99 hg109 (rowlo hlo105)
      have hB153 := bg hB152 hg125 nb
      have hB154 := bg hB99 hg109 (rowlo hlo105)
      have hlo155 : w0.heap.size ≤ b123 := lob hbe127 hB154.size
      have hB156 := bg hB153 hg130 (rowlo hlo155)
      have hB157 := bg hB156 hg137 nb
      have hlo158 : w0.heap.size ≤ b1 := lob hbe5 hB0.size
      have hB159 := bg hB157 hg140 (rowlo hlo158)
      exact ⟨grown_of_below hB159, none, 0, (fun _ => False), rfl, (Gv.Own.nil (prE (iE .i64) (prE (prE tE (slE (iE .u32))) (prE (prE tE (slE (iE .u32))) (prE sE (iE .i64))))) 41 w139 (fun _ => False)), (fun _ h => by cases h), (fun k hk => ⟨(fun _ h => h.elim) k hk, (fun _ h => h.elim) k hk⟩)⟩
     ·replace h2 := ite_f hc133 h2
      refine gv_skip <| gv_seq <| gv_region <| pN 1 [40] [(40, (bp b84))] ?_
      have hk160 := hb93.grown hg109 (rowne (Nat.ne_of_lt lt106))
      have lt161 := ltl ((ltb hk160) _ rfl) ((lowb hbe127) _ rfl)
      have hk162 := ((hb93.grown hg109 (rowne (Nat.ne_of_lt lt106))).grown hg125 nb).grown hg130 (rowne (ng lt161))
      refine gv_load (t := 5) (A := ⟨b84, 0, none⟩) (.int .u8 x81.1) [] (fun e => by cases e) rfl rfl rfl kr kr kr (inw0 (hk162.cell 0 rfl)) rfl ?_
      refine pN 1 [42] [(42, (.bool (x81.1 != 120)))] ?_
      refine gv_nil <| bindE h2 ?_; clear h2; intro j163 h3 h2
      refine gv_cut_code (J := fun a w164 => ∃ (a8_0j : Option Addr) (c8_0j : Nat), ∃ (X8_0j : Nat → Prop), Below w0.heap.size w0 w164 ∧ w129.heap.size ≤ w164.heap.size ∧ Gv.Own (prE (iE .i64) (prE (prE tE (slE (iE .u32))) (prE (prE tE (slE (iE .u32))) (prE sE (iE .i64))))) 41 w164 X8_0j a8_0j c8_0j j163 ∧ (∀ g, blk a8_0j = some g → w0.heap.size ≤ g) ∧ (∀ k, X8_0j k → k < w164.heap.size) ∧ (∀ k, X8_0j k → X0 k ∨ w0.heap.size ≤ k) ∧ (∀ g, blk a8_0j = some g → ¬ (· = b1) g) ∧ (∀ g, blk a8_0j = some g → ¬ (· = b43) g) ∧ ¬ (fun k => blk a8_0j = some k ∨ X8_0j k) b1 ∧ ¬ (fun k => blk a8_0j = some k ∨ X8_0j k) b43 ∧ Box w164 b1 26 #[(.int .i64 s52.2.2.1.1), (.int .i64 s52.2.2.1.2)] ∧ Box w164 b43 47 #[(.slice a67 (length s52.2.2.2.1) c68), (.int .i64 r95.2.2.2)] ∧ a.defers = [] ∧ a.tmps.size = 58 ∧ Ok [(1, (.slice pa1_0 (length data_1) pc1_0)), (5, (bp b1)), (7, (bp b43)), (8, (.slice a8_0j (length j163) c8_0j)), (22, (.slice pa0_0 (length l_0) pc0_0)), (23, (.int .i64 ((length l_0 : Nat) : Int))), (24, (.int .i64 s52.2.1))] a.tmps) ?_ ?_
      ·skip
       refine gv_cond (b := (x81.1 != 120)) kr (fun hc165 => ?_) (fun hc165 => ?_)
       ·replace h3 := ite_t hc165 h3
        refine gv_region <| pN 1 [43] [(43, (.slice a65 (length s52.1) c66))] ?_
        refine gv_loadBox (t := 41) (b := b123) (t' := 41) (fr := (0, 0)) #[(.int .i64 r95.1.1), (.bool r95.1.2.1.1), (.slice a111 (length r95.1.2.1.2) c112), (.bool r95.1.2.2.1.1), (.slice a115 (length r95.1.2.2.1.2) c116), (.string r95.1.2.2.2.1), (.int .i64 r95.1.2.2.2.2)] [] (fun e => by cases e) rfl rfl rfl kr kr kr kr (inw0 hb131) rfl ?_
        refine gv_new0 (fun b => .slice (some ⟨b, 0, none⟩) 1 1) #[(.int .i64 r95.1.1), (.bool r95.1.2.1.1), (.slice a111 (length r95.1.2.1.2) c112), (.bool r95.1.2.2.1.1), (.slice a115 (length r95.1.2.2.1.2) c116), (.string r95.1.2.2.2.1), (.int .i64 r95.1.2.2.2.2)] 41 kr kr ?_
        intro b166 w167 hg168 hb169 hbe170 hz171
        obtain ⟨X177, e⟩ : ∃ X : Nat → Prop, X = (fun k => (fun k => blk a111 = some k) k ∨ (fun k => blk a115 = some k) k) := ⟨_, rfl⟩
        have ap178 : ¬ (fun k => blk a111 = some k) b123 := fun hx => nl ((lowb hbe127) _ rfl) ((fun k (hk : blk a111 = some k) => ho113.lt k hk) _ hx)
        have hk179 := (ho113.grown hg125 (fun _ h => h.elim) nb).grown hg130 (fun _ h => h.elim) (rdnn (rowne ap178))
        have ap180 : ¬ (fun k => blk a115 = some k) b123 := fun hx => nl ((lowb hbe127) _ rfl) ((fun k (hk : blk a115 = some k) => ho117.lt k hk) _ hx)
        have hk181 := (ho117.grown hg125 (fun _ h => h.elim) nb).grown hg130 (fun _ h => h.elim) (rdnn (rowne ap180))
        have hx175 : ∀ k, X177 k → k < w129.heap.size := fun k h => by rw [e] at h; exact (h).elim (fun h => (fun k (hk : blk a111 = some k) => hk179.lt k hk) k h) (fun h => (fun k (hk : blk a115 = some k) => hk181.lt k hk) k h)
        have hz182 := hg168.size
        have hx174 : ∀ k, X177 k → k < w167.heap.size := fun k h => ltl (hx175 k h) hz182
        have hx176 : ∀ k, X177 k → X0 k ∨ w0.heap.size ≤ k := fun k h => by rw [e] at h; exact (h).elim (fun h => (fun k (hk : blk a111 = some k) => Or.inr (hl121 k hk)) k h) (fun h => (fun k (hk : blk a115 = some k) => Or.inr (hl122 k hk)) k h)
        have hk183 := hk179.grown hg168 (fun _ h => h.elim) nb
        have hk184 := hk181.grown hg168 (fun _ h => h.elim) nb
        have ho172 : Gv.Own (prE (iE .i64) (prE (prE tE (slE (iE .u32))) (prE (prE tE (slE (iE .u32))) (prE sE (iE .i64))))) 41 w167 X177 (some ⟨b166, 0, none⟩) 1 ([(r95.1.1, (r95.1.2.1.1, r95.1.2.1.2), (r95.1.2.2.1.1, r95.1.2.2.1.2), r95.1.2.2.2.1, r95.1.2.2.2.2)] : List (Int × (Bool × (List Int)) × (Bool × (List Int)) × ByteArray × Int)) := Box.ownE hb169 (by rw [e]; exact ⟨[(.int .i64 r95.1.1), (.bool r95.1.2.1.1), (.slice a111 (length r95.1.2.1.2) c112), (.bool r95.1.2.2.1.1), (.slice a115 (length r95.1.2.2.1.2) c116), (.string r95.1.2.2.2.1), (.int .i64 r95.1.2.2.2.2)], [], rfl, ⟨[(.int .i64 r95.1.1)], [(.bool r95.1.2.1.1), (.slice a111 (length r95.1.2.1.2) c112), (.bool r95.1.2.2.1.1), (.slice a115 (length r95.1.2.2.1.2) c116), (.string r95.1.2.2.2.1), (.int .i64 r95.1.2.2.2.2)], rfl, rfl, ⟨[(.bool r95.1.2.1.1), (.slice a111 (length r95.1.2.1.2) c112)], [(.bool r95.1.2.2.1.1), (.slice a115 (length r95.1.2.2.1.2) c116), (.string r95.1.2.2.2.1), (.int .i64 r95.1.2.2.2.2)], rfl, ⟨[(.bool r95.1.2.1.1)], [(.slice a111 (length r95.1.2.1.2) c112)], rfl, rfl, ⟨a111, c112, rfl, ((hk183.rd (Y := fun k => blk a111 = some k) (fun _ h => h.elim) (fun g e => e)).wide (fun _ h => (.inl h)))⟩⟩, ⟨[(.bool r95.1.2.2.1.1), (.slice a115 (length r95.1.2.2.1.2) c116)], [(.string r95.1.2.2.2.1), (.int .i64 r95.1.2.2.2.2)], rfl, ⟨[(.bool r95.1.2.2.1.1)], [(.slice a115 (length r95.1.2.2.1.2) c116)], rfl, rfl, ⟨a115, c116, rfl, ((hk184.rd (Y := fun k => blk a115 = some k) (fun _ h => h.elim) (fun g e => e)).wide (fun _ h => (.inr h)))⟩⟩, ⟨[(.string r95.1.2.2.2.1)], [(.int .i64 r95.1.2.2.2.2)], rfl, rfl, rfl⟩⟩⟩⟩, rfl⟩) (show 1 ≤ maxLen by decide) (fun h => noteq hbe170 (hx175 _ h))
        have hx185 : ∀ k, X177 k → (fun k => (fun k => blk a111 = some k) k ∨ (fun k => blk a115 = some k) k) k := fun k h => by rw [e] at h; exact h
        clear e
        have hB186 := bg hB99 hg109 (rowlo hlo105)
        have hB187 := bg hB186 hg125 nb
        have hB188 := bg hB99 hg109 (rowlo hlo105)
        have hlo189 : w0.heap.size ≤ b123 := lob hbe127 hB188.size
        have hB190 := bg hB187 hg130 (rowlo hlo189)
        have hl173 : ∀ g, blk (some ⟨b166, 0, none⟩) = some g → w0.heap.size ≤ g := loo hbe170 hB190.size
        have ap192 : ¬ (fun k => blk a65 = some k ∨ X65 k) b84 := fun hx => nl ((lowb hbe88) _ rfl) ((fun k (hk : blk a65 = some k ∨ X65 k) => hk.elim (fun h => ho69.lt k h) (fun h => hx71 k h)) _ hx)
        have hx193 := ltx hx71 hg86.size
        have hx194 := ltx hx193 hg92.size
        have hx195 := ltx hx194 hg109.size
        have hk196 := ((ho69.grown hg86 hx71 nb).grown hg92 hx193 (rdnx (rowne ap192))).grown hg109 hx194 (rdnx (rowne ap77))
        have ap197 : ¬ (fun k => blk a65 = some k ∨ X65 k) b123 := fun hx => nl ((lowb hbe127) _ rfl) ((fun k (hk : blk a65 = some k ∨ X65 k) => hk.elim (fun h => hk196.lt k h) (fun h => hx195 k h)) _ hx)
        have hx198 := ltx hx195 hg125.size
        have hk199 := ((((ho69.grown hg86 hx71 nb).grown hg92 hx193 (rdnx (rowne ap192))).grown hg109 hx194 (rdnx (rowne ap77))).grown hg125 hx195 nb).grown hg130 hx198 (rdnx (rowne ap197))
        have hx200 := ltx hx198 hg130.size
        have ap191 : ∀ g, blk (some ⟨b166, 0, none⟩) = some g → ¬ (fun k => blk a65 = some k ∨ X65 k) g := fun g e hx => nl (lowo hbe170 g e) ((fun k (hk : blk a65 = some k ∨ X65 k) => hk.elim (fun h => hk199.lt k h) (fun h => hx200 k h)) _ hx)
        have hk202 := (ho69.grown hg86 hx71 nb).grown hg92 hx193 (rdnx (rowne ap192))
        have ap203 : ∀ g, blk a65 = some g → ¬ (fun k => blk a111 = some k) g := fun g e hx => nl ((show ∀ k, blk a111 = some k → w91.heap.size ≤ k from hl114) _ hx) ((fun k (hk : blk a65 = some k ∨ X65 k) => hk.elim (fun h => hk202.lt k h) (fun h => hx194 k h)) g (.inl e))
        have ap204 : ∀ g, blk a65 = some g → ¬ (fun k => blk a115 = some k) g := fun g e hx => nl ((show ∀ k, blk a115 = some k → w91.heap.size ≤ k from hl118) _ hx) ((fun k (hk : blk a65 = some k ∨ X65 k) => hk.elim (fun h => hk202.lt k h) (fun h => hx194 k h)) g (.inl e))
        have ap201 : ∀ g, blk a65 = some g → ¬ (fun k => blk (some ⟨b166, 0, none⟩) = some k ∨ X177 k) g := fun g e h => h.elim (fun h => nl (lowo hbe170 _ h) ((fun k (hk : blk a65 = some k ∨ X65 k) => hk.elim (fun h => hk199.lt k h) (fun h => hx200 k h)) g (.inl e))) (fun h => ((hx185 _ h)).elim (fun h => (ap203) g e h) (fun h => (ap204) g e h))
        have hk206 := hb4.grown hg11 nb
        have lt207 := ltl ((ltb hk206) _ rfl) ((lowb hbe17) _ rfl)
        have lt208 := ltl ((ltb hb21) _ rfl) ((lowb hbe47) _ rfl)
        have lt209 := ltt lt207 lt208
        have lt210 := ltt lt209 lt106
        have lt211 := ltt lt210 lt161
        have hk212 := ((((hb78.grown hg86 nb).grown hg92 (rowne (ng lt210))).grown hg109 (rowne (ng lt209))).grown hg125 nb).grown hg130 (rowne (ng lt211))
        have ap205 : ∀ g, blk (some ⟨b166, 0, none⟩) = some g → ¬ (· = b1) g := fun g e hx => nl (lowo hbe170 g e) ((ltb hk212) _ hx)
        have hk214 := (hb78.grown hg86 nb).grown hg92 (rowne (ng lt210))
        have ap215 : ¬ (fun k => blk a111 = some k) b1 := fun hx => nl ((show ∀ k, blk a111 = some k → w91.heap.size ≤ k from hl114) _ hx) ((ltb hk214) _ rfl)
        have ap216 : ¬ (fun k => blk a115 = some k) b1 := fun hx => nl ((show ∀ k, blk a115 = some k → w91.heap.size ≤ k from hl118) _ hx) ((ltb hk214) _ rfl)
        have ap213 : ¬ (fun k => blk (some ⟨b166, 0, none⟩) = some k ∨ X177 k) b1 := fun h => h.elim (fun h => nl (lowo hbe170 _ h) ((ltb hk212) _ rfl)) (fun h => ((hx185 _ h)).elim (fun h => (ap215)  h) (fun h => (ap216)  h))
        have lt218 := ltt lt106 lt161
        have hk219 := (hb120.grown hg125 nb).grown hg130 (rowne (ng lt218))
        have ap217 : ∀ g, blk (some ⟨b166, 0, none⟩) = some g → ¬ (· = b43) g := fun g e hx => nl (lowo hbe170 g e) ((ltb hk219) _ hx)
        have ap221 : ¬ (fun k => blk a111 = some k) b43 := fun hx => nl ((show ∀ k, blk a111 = some k → w91.heap.size ≤ k from hl114) _ hx) ((ltb hk107) _ rfl)
        have ap222 : ¬ (fun k => blk a115 = some k) b43 := fun hx => nl ((show ∀ k, blk a115 = some k → w91.heap.size ≤ k from hl118) _ hx) ((ltb hk107) _ rfl)
        have ap220 : ¬ (fun k => blk (some ⟨b166, 0, none⟩) = some k ∨ X177 k) b43 := fun h => h.elim (fun h => nl (lowo hbe170 _ h) ((ltb hk219) _ rfl)) (fun h => ((hx185 _ h)).elim (fun h => (ap221)  h) (fun h => (ap222)  h))
        have ap223 : ∀ g, blk (some ⟨b166, 0, none⟩) = some g → ¬ (· = b84) g := fun g e hx => nl (lowo hbe170 g e) ((ltb hk162) _ hx)
        have ap225 : ¬ (fun k => blk a111 = some k) b84 := fun hx => nl ((show ∀ k, blk a111 = some k → w91.heap.size ≤ k from hl114) _ hx) ((ltb hb93) _ rfl)
        have ap226 : ¬ (fun k => blk a115 = some k) b84 := fun hx => nl ((show ∀ k, blk a115 = some k → w91.heap.size ≤ k from hl118) _ hx) ((ltb hb93) _ rfl)
        have ap224 : ¬ (fun k => blk (some ⟨b166, 0, none⟩) = some k ∨ X177 k) b84 := fun h => h.elim (fun h => nl (lowo hbe170 _ h) ((ltb hk162) _ rfl)) (fun h => ((hx185 _ h)).elim (fun h => (ap225)  h) (fun h => (ap226)  h))
        have ap227 : ∀ g, blk (some ⟨b166, 0, none⟩) = some g → ¬ (fun k => blk a111 = some k) g := fun g e hx => nl (lowo hbe170 g e) ((fun k (hk : blk a111 = some k) => hk179.lt k hk) _ hx)
        have ap228 : ∀ g, blk (some ⟨b166, 0, none⟩) = some g → ¬ (fun k => blk a115 = some k) g := fun g e hx => nl (lowo hbe170 g e) ((fun k (hk : blk a115 = some k) => hk181.lt k hk) _ hx)
        have ap229 : ∀ g, blk (some ⟨b166, 0, none⟩) = some g → ¬ (· = b123) g := fun g e hx => nl (lowo hbe170 g e) ((ltb hb131) _ hx)
        have ap230 : ¬ (fun k => blk (some ⟨b166, 0, none⟩) = some k ∨ X177 k) b123 := fun h => h.elim (fun h => nl (lowo hbe170 _ h) ((ltb hb131) _ rfl)) (fun h => ((hx185 _ h)).elim (fun h => (ap178)  h) (fun h => (ap180)  h))
        refine bindE h3 ?_; clear h3; intro l231 hx232 h3
        obtain ⟨X233, e⟩ : ∃ X : Nat → Prop, X = fun k => X65 k ∨ (fun k => blk (some ⟨b166, 0, none⟩) = some k ∨ X177 k) k := ⟨_, rfl⟩
        have hx237 := ltx hx200 hg168.size
        have hx234 : ∀ k, X233 k → k < w167.heap.size := fun k hk => by rw [e] at hk; exact hk.elim (fun h => hx237 k h) (fun h => (fun k (hk : blk (some ⟨b166, 0, none⟩) = some k ∨ X177 k) => hk.elim (fun h => ho172.lt k h) (fun h => hx174 k h)) k h)
        have hx235 : ∀ k, X233 k → X0 k ∨ w0.heap.size ≤ k := fun k hk => by rw [e] at hk; exact hk.elim (fun h => hx72 k h) (fun h => (fun k (hk : blk (some ⟨b166, 0, none⟩) = some k ∨ X177 k) => hk.elim (fun h => Or.inr (hl173 k h)) (fun h => hx176 k h)) k h)
        have hk238 := hk199.grown hg168 hx200 nb
        have ho236 : Gv.Own (prE (iE .i64) (prE (prE tE (slE (iE .u32))) (prE (prE tE (slE (iE .u32))) (prE sE (iE .i64))))) 41 w167 X233 a65 c66 s52.1 := (hk238).wide (fun k hk => by rw [e]; exact .inl hk) (fun g e1 hk => by rw [e] at hk; exact hk.elim (fun h => (hk238).out g e1 h) (fun h => ap201 g e1 h))
        have hx239 : ∀ k, (fun k => blk (some ⟨b166, 0, none⟩) = some k ∨ X177 k) k → X233 k := fun k hk => by rw [e]; exact .inr hk
        have hx240 : ∀ k, X233 k → X65 k ∨ (fun k => blk (some ⟨b166, 0, none⟩) = some k ∨ X177 k) k := fun k hk => by rw [e] at hk; exact hk
        clear e
        refine gv_append (prE (iE .i64) (prE (prE tE (slE (iE .u32))) (prE (prE tE (slE (iE .u32))) (prE sE (iE .i64))))) (t := 24) (ty := 24) (e := 41) (a := a65) (ax := (some ⟨b166, 0, none⟩)) (cap := c66) (cx := 1) (xs := s52.1) (ys := ([(r95.1.1, (r95.1.2.1.1, r95.1.2.1.2), (r95.1.2.2.1.1, r95.1.2.2.1.2), r95.1.2.2.2.1, r95.1.2.2.2.2)] : List (Int × (Bool × (List Int)) × (Bool × (List Int)) × ByteArray × Int))) l231 (X := X233) (Y := (fun k => blk (some ⟨b166, 0, none⟩) = some k ∨ X177 k)) (by decide) rfl rfl kr kr Tryz.underlying24 info41 ho236 (ho172.rd (Y := fun k => blk (some ⟨b166, 0, none⟩) = some k ∨ X177 k) (fun _ h => .inr h) (fun g e => .inl e)) hx232 (.inl hx239) hx234 ?_
        intro a241 c242 w243 hg244 ho245 hk246
        refine ⟨(fun e => by cases e), ?_⟩
        have hB248 := bg hB190 hg168 nb
        have hl247 : ∀ g, blk a241 = some g → w0.heap.size ≤ g := blk_step hk246 hl70 hB248.size
        have hx249 : ∀ k, X233 k → k < w243.heap.size := fun k hk => ltl (hx234 k hk) hg244.size
        have hk251 := hk212.grown hg168 nb
        have ap250 : ∀ g, blk a241 = some g → ¬ (· = b1) g := blk_neX hk246 ap74 (ltb hk251)
        have ap252 : ¬ (fun k => blk a241 = some k ∨ X233 k) b1 := fun h => h.elim (fun h => blk_rev hk246 (fun h => (ap76) (.inl h)) (hk251.lt) h) (fun h => (hx240 _ h).elim (fun h => (ap76) (.inr h)) (fun h => (ap213) h))
        have hk254 := hk219.grown hg168 nb
        have ap253 : ∀ g, blk a241 = some g → ¬ (· = b43) g := blk_neX hk246 ap75 (ltb hk254)
        have ap255 : ¬ (fun k => blk a241 = some k ∨ X233 k) b43 := fun h => h.elim (fun h => blk_rev hk246 (fun h => (ap77) (.inl h)) (hk254.lt) h) (fun h => (hx240 _ h).elim (fun h => (ap77) (.inr h)) (fun h => (ap220) h))
        have ap257 : ∀ g, blk a65 = some g → ¬ (· = b84) g := fun g e hx => nl ((lowb hbe88) _ hx) ((fun k (hk : blk a65 = some k ∨ X65 k) => hk.elim (fun h => ho69.lt k h) (fun h => hx71 k h)) g (.inl e))
        have hk258 := hk162.grown hg168 nb
        have ap256 : ∀ g, blk a241 = some g → ¬ (· = b84) g := blk_neX hk246 ap257 (ltb hk258)
        have ap259 : ¬ (fun k => blk a241 = some k ∨ X233 k) b84 := fun h => h.elim (fun h => blk_rev hk246 (fun h => (ap192) (.inl h)) (hk258.lt) h) (fun h => (hx240 _ h).elim (fun h => (ap192) (.inr h)) (fun h => (ap224) h))
        have ap260 : ∀ g, blk a241 = some g → ¬ (fun k => blk a111 = some k) g := blk_neX hk246 ap203 (fun k (hk : blk a111 = some k) => hk183.lt k hk)
        have ap262 : ∀ g, blk a241 = some g → ¬ (fun k => blk a115 = some k) g := blk_neX hk246 ap204 (fun k (hk : blk a115 = some k) => hk184.lt k hk)
        have ap265 : ∀ g, blk a65 = some g → ¬ (· = b123) g := fun g e hx => nl ((lowb hbe127) _ hx) ((fun k (hk : blk a65 = some k ∨ X65 k) => hk.elim (fun h => hk196.lt k h) (fun h => hx195 k h)) g (.inl e))
        have hk266 := hb131.grown hg168 nb
        have ap264 : ∀ g, blk a241 = some g → ¬ (· = b123) g := blk_neX hk246 ap265 (ltb hk266)
        have ap267 : ¬ (fun k => blk a241 = some k ∨ X233 k) b123 := fun h => h.elim (fun h => blk_rev hk246 (fun h => (ap197) (.inl h)) (hk266.lt) h) (fun h => (hx240 _ h).elim (fun h => (ap197) (.inr h)) (fun h => (ap230) h))
        have ap268 : ∀ g, blk a241 = some g → ¬ (fun k => blk (some ⟨b166, 0, none⟩) = some k ∨ X177 k) g := blk_neX hk246 ap201 (fun k (hk : blk (some ⟨b166, 0, none⟩) = some k ∨ X177 k) => hk.elim (fun h => ho172.lt k h) (fun h => hx174 k h))
        have hz270 := (nt (nt (nt (nt hz90 hg92.size) hg109.size) hg125.size) hg130.size)
        have hz271 := (nt hg168.size hg244.size)
        clear ap268 ap267 ap264 hk266 ap265 ap262 ap260 ap259 ap256 hk258 ap257 hk246 hx240 hx239 ho236 hk238 hx234 hx237 hx232 ap230 ap229 ap228 ap227 ap224 ap226 ap225 ap223 ap220 ap222 ap221 ap217 hk219 lt218 ap213 ap216 ap215 hk214 ap205 hk212 lt211 lt210 lt208 lt207 hk206 ap201 ap204 ap203 hk202 ap191 hx200 hk199 hx198 ap197 hk196 hx195 hx194 hx193 ap192 hl173 hB190 hlo189 hB188 hB187 hB186 hx185 ho172 hk184 hk183 hx176 hx174 hz182 hx175 hk181 ap180 hk179 ap178 hz171 hbe170 hb169 hg168 hc165 hk162 lt161 hk160 hc133 hz132 hb131 hg130 hz128 hbe127 hb126 hg125 hl122 hl121 hb120 ap119 hl118 ho117 hl114 ho113 hg109 hk107 lt106 hB104 hlo103 hB102 hB101 hg100 hB99 hlo98 hB97 hr96 hz94 hb93 hg92 hz90 hbe88 hb87 hg86 hb79 hb78 ap77 ap76 hx72 hx71 ho69 hB63 hbe47 hb21 hg20 hbe17 hg15 hg11 hB9 hb4
        refine pN 1 [8] [(8, (.slice a241 (length l231) c242))] ?_
        refine gv_nil ?_
        have e := sj h3; subst e
        refine gv_goal fun a hd hs hok => ?_
        have hB272 := bg hB248 hg244 hl70
        have hz273 := hz271
        have hk274 := hk251.grown hg244 ap74
        have hk275 := hk254.grown hg244 ap75
        exact ⟨a241, c242, X233, hB272, hz273, ho245, hl247, hx249, hx235, ap250, ap253, ap252, ap255, hk274, hk275, hd, hs, okp [1, 5, 7, 8, 22, 23, 24] hok⟩
       ·replace h3 := ite_f hc165 h3
        refine gv_skip ?_
        have e := sj h3; subst e
        refine gv_goal fun a hd hs hok => ?_
        have hB276 := bg hB99 hg109 (rowlo hlo105)
        have hB277 := bg hB276 hg125 nb
        have hB278 := bg hB99 hg109 (rowlo hlo105)
        have hlo279 : w0.heap.size ≤ b123 := lob hbe127 hB278.size
        have hB280 := bg hB277 hg130 (rowlo hlo279)
        have ap281 : ¬ (fun k => blk a65 = some k ∨ X65 k) b84 := fun hx => nl ((lowb hbe88) _ rfl) ((fun k (hk : blk a65 = some k ∨ X65 k) => hk.elim (fun h => ho69.lt k h) (fun h => hx71 k h)) _ hx)
        have hx282 := ltx hx71 hg86.size
        have hx283 := ltx hx282 hg92.size
        have hx284 := ltx hx283 hg109.size
        have hk285 := ((ho69.grown hg86 hx71 nb).grown hg92 hx282 (rdnx (rowne ap281))).grown hg109 hx283 (rdnx (rowne ap77))
        have ap286 : ¬ (fun k => blk a65 = some k ∨ X65 k) b123 := fun hx => nl ((lowb hbe127) _ rfl) ((fun k (hk : blk a65 = some k ∨ X65 k) => hk.elim (fun h => hk285.lt k h) (fun h => hx284 k h)) _ hx)
        have hx287 := ltx hx284 hg125.size
        have hk288 := ((((ho69.grown hg86 hx71 nb).grown hg92 hx282 (rdnx (rowne ap281))).grown hg109 hx283 (rdnx (rowne ap77))).grown hg125 hx284 nb).grown hg130 hx287 (rdnx (rowne ap286))
        have hx289 := ltx hx287 hg130.size
        have hk290 := hb4.grown hg11 nb
        have lt291 := ltl ((ltb hk290) _ rfl) ((lowb hbe17) _ rfl)
        have lt292 := ltl ((ltb hb21) _ rfl) ((lowb hbe47) _ rfl)
        have lt293 := ltt lt291 lt292
        have lt294 := ltt lt293 lt106
        have lt295 := ltt lt294 lt161
        have hk296 := ((((hb78.grown hg86 nb).grown hg92 (rowne (ng lt294))).grown hg109 (rowne (ng lt293))).grown hg125 nb).grown hg130 (rowne (ng lt295))
        have lt297 := ltt lt106 lt161
        have hk298 := (hb120.grown hg125 nb).grown hg130 (rowne (ng lt297))
        exact ⟨a65, c66, X65, hB280, nrf, hk288, hl70, hx289, hx72, ap74, ap75, ap76, ap77, hk296, hk298, hd, hs, okp [1, 5, 7, 8, 22, 23, 24] hok⟩
      ·rintro a w164 ⟨a301, c302, X301, hB299, hz300, ho303, hl304, hx305, hx306, ap307, ap308, ap309, ap310, hb311, hb312, hd, hs, hok⟩
       refine gv_in ?_ hd hs hok
       clear hd hs hok
       have hz313 := (nt (nt (nt (nt (nt hz90 hg92.size) hg109.size) hg125.size) hg130.size) hz300)
       clear hz300 hk162 lt161 hk160 hc133 hz132 hb131 hg130 hz128 hbe127 hb126 hg125 hl122 hl121 hb120 ap119 hl118 ho117 hl114 ho113 hg109 hk107 lt106 hB104 hlo103 hB102 hB101 hg100 hB99 hlo98 hB97 hr96 hz94 hb93 hg92 hz90 hbe88 hb87 hg86 hb79 hb78 ap77 ap76 ap75 ap74 hx72 hx71 hl70 ho69 hB63 hg20 hg15 hB9
       refine gv_blk <| gv_region <| pN 2 [24, 47] [(24, (.int .i64 (IntKind.i64.wrap (s52.2.1 + 1))))] ?_
       refine gv_nil ?_
       have e := sj h2; subst e
       refine gv_goal fun a hd hs hok => ?_
       have hz314 := hz313
       exact ⟨(j163, (IntKind.i64.wrap (s52.2.1 + 1)), (s52.2.2.1.1, s52.2.2.1.2), (s52.2.2.2.1, r95.2.2.2)), rfl, a301, c302, X301, a67, c68, hB299, hz314, ho303, hl304, hx305, hx306, hp73, ap307, ap308, ap309, ap310, hb311, hb312, hd, hs, okp [1, 5, 7, 8, 22, 23, 24] hok⟩
    ·replace h2 := ite_f hc80 h2
     refine gv_cexit <| gv_exit rfl ?_
     have e := sj h2; subst e
     replace h1 := congrArg some (hR2 _ rfl)
     have e := sj h1; subst e
     refine gv_goal fun a hd hs hok => ?_
     have hz315 := hz64
     exact ⟨(s52.1, (s52.2.2.1.1, s52.2.2.1.2), (s52.2.2.2.1, s52.2.2.2.2)), rfl, a65, c66, X65, a67, c68, hB63, hz315, ho69, hl70, hx71, hx72, hp73, ap74, ap75, ap76, ap77, hb78, hb79, hd, hs, okp [1, 5, 7, 8] hok⟩
  ·rintro a w51 ⟨s50, e, a318, c319, X318, a320, c321, hB316, hz317, ho322, hl323, hx324, hx325, hp326, ap327, ap328, ap329, ap330, hb331, hb332, hd, hs, hok⟩
   subst e
   refine gv_in ?_ hd hs hok
   clear hd hs hok
   replace h0 := cont_inl h0
   clear hz317 hz48 hb46 hg45 hc23 hz22 hz18 hb16 hr8 hz6 hg3
   refine gv_seq <| gv_seq <| gv_region <| pN 3 [48, 49, 50] [(50, (.pointer (some ⟨b43, 1, none⟩)))] ?_
   refine gv_load (t := 3) (A := ⟨b43, 1, none⟩) (.int .i64 s50.2.2.2) [] (fun e => by cases e) rfl rfl rfl kr kr kr (inw0 (hb332.cell 1 rfl)) rfl ?_
   refine pN 3 [52, 53, 54] [(54, (.bool (decide (s50.2.2.2 < ((length data_1 : Nat) : Int)))))] ?_
   refine gv_nil <| gv_cond (b := (decide (s50.2.2.2 < ((length data_1 : Nat) : Int)))) kr (fun hc333 => ?_) (fun hc333 => ?_)
   ·replace h0 := ite_t hc333 h0
    refine gv_seq <| gv_region <| bindE h0 ?_; clear h0; intro r334 hr335 h0
    refine gv_call0 kr rfl kr enters16 (packing_at_ok fuel 3 (-2) w51  r334 hr335) ?_
    rintro v338 w336 ⟨hg337, rfl⟩
    refine pN 1 [4] [(4, (.slice none (length ([] : List (Int × (Bool × (List Int)) × (Bool × (List Int)) × ByteArray × Int))) 0))] ?_
    have hk343 := hb331.grown hg337 nb
    refine gv_store0 26 0 (.agg #[(.int .i64 r334.1), (.int .i64 r334.2)]) #[(.int .i64 r334.1), (.int .i64 r334.2)] hk343 kr kr kr ?_
    intro w339 hg340 hb341 hz342
    refine gv_nil <| gv_cret ?_
    have e := sj h0; subst e
    refine gv_ret (gv_done [(.slice none (length ([] : List (Int × (Bool × (List Int)) × (Bool × (List Int)) × ByteArray × Int))) 0), (.agg #[(.int .i64 r334.1), (.int .i64 r334.2)])] rfl ⟨kr, ⟨⟨b1, 0, none⟩, kr, run_loadVar_row w339 b1 _ 26 _ _ _ hb341 Tryz.underlying26 rfl kr⟩, trivial⟩ ?_)
    have hB344 := bg hB316 hg337 nb
    have hlo345 : w0.heap.size ≤ b1 := lob hbe5 hB0.size
    have hB346 := bg hB344 hg340 (rowlo hlo345)
    exact ⟨grown_of_below hB346, none, 0, (fun _ => False), rfl, (Gv.Own.nil (prE (iE .i64) (prE (prE tE (slE (iE .u32))) (prE (prE tE (slE (iE .u32))) (prE sE (iE .i64))))) 41 w339 (fun _ => False)), (fun _ h => by cases h), (fun k hk => ⟨(fun _ h => h.elim) k hk, (fun _ h => h.elim) k hk⟩)⟩
   ·replace h0 := ite_f hc333 h0
    refine gv_skip <| gv_seq <| gv_region <| pN 3 [4, 56, 57] [(4, (.slice a318 (length s50.1) c319)), (57, (.agg #[(.int .i64 0), (.int .i64 0)]))] ?_
    refine gv_store0 26 0 (.agg #[(.int .i64 0), (.int .i64 0)]) #[(.int .i64 0), (.int .i64 0)] hb331 kr kr kr ?_
    intro w347 hg348 hb349 hz350
    refine gv_nil <| gv_cret ?_
    have e := sj h0; subst e
    refine gv_ret (gv_done [(.slice a318 (length s50.1) c319), (.agg #[(.int .i64 0), (.int .i64 0)])] rfl ⟨kr, ⟨⟨b1, 0, none⟩, kr, run_loadVar_row w347 b1 _ 26 _ _ _ hb349 Tryz.underlying26 rfl kr⟩, trivial⟩ ?_)
    have hlo351 : w0.heap.size ≤ b1 := lob hbe5 hB0.size
    have hB352 := bg hB316 hg348 (rowlo hlo351)
    have hk353 := ho322.grown hg348 hx324 (rdnx (rowne ap329))
    have hx354 := ltx hx324 hg348.size
    exact ⟨grown_of_below hB352, a318, c319, X318, rfl, hk353, hl323, (fun k hk => ⟨hx354 k hk, hx325 k hk⟩)⟩

theorem ref4_At_ok (fuel : Nat) (code_0 : Int) (index_1 : Int) (w0 : World)  (r0 : (Int × Int)) (h0 : ref4_At fuel code_0 index_1 = some r0) :
    Calls Tryz.prog 19 ([(.int .i64 code_0), (.int .i64 index_1)] : List Value).toArray w0 (Ret fun v w' => w0.grownBy w' none ∧ v = tup [(.agg #[(.int .i64 r0.1), (.int .i64 r0.2)])]) := by
 have hB0 : Below w0.heap.size w0 w0 := Below.refl _ _
 unfold ref4_At at h0
 refine calls_run Tryz.func19 rfl Tryz.ntmps19 kr ?_
 refine gv_sub [0, 1] (σ' := [(0, (.int .i64 code_0)), (1, (.int .i64 index_1))]) kr ?_
 refine gv_seq <| gv_region <| gv_new0 (fun b => .pointer (some ⟨b, 0, none⟩)) #[(.int .i64 0), (.int .i64 0)] 26 kr kr ?_
 intro b1 w2 hg3 hb4 hbe5 hz6
 refine gv_nil <| gv_seq <| gv_region <| pN 3 [5, 6, 7] [(7, (.agg #[(.int .i64 code_0), (.int .i64 index_1)]))] ?_
 refine gv_store0 26 0 (.agg #[(.int .i64 code_0), (.int .i64 index_1)]) #[(.int .i64 code_0), (.int .i64 index_1)] hb4 kr kr kr ?_
 intro w7 hg8 hb9 hz10
 refine gv_nil <| gv_cret ?_
 have e := sj h0; subst e
 refine gv_ret (gv_done [(.agg #[(.int .i64 code_0), (.int .i64 index_1)])] rfl ⟨⟨⟨b1, 0, none⟩, kr, run_loadVar_row w7 b1 _ 26 _ _ _ hb9 Tryz.underlying26 rfl kr⟩, trivial⟩ ?_)
 have hB11 := bg hB0 hg3 nb
 have hlo12 : w0.heap.size ≤ b1 := lob hbe5 hB0.size
 have hB13 := bg hB11 hg8 (rowlo hlo12)
 exact ⟨grown_of_below hB13, rfl⟩

theorem ref4_oneOf_ok (fuel : Nat) (c_0 : Int) (set_1 : ByteArray) (w0 : World)  (r0 : Bool) (h0 : ref4_oneOf fuel c_0 set_1 = some r0) :
    Calls Tryz.prog 44 ([(.int .u8 c_0), (.string set_1)] : List Value).toArray w0 (Ret fun v w' => w0.grownBy w' none ∧ v = tup [(.bool r0)]) := by
 have hB0 : Below w0.heap.size w0 w0 := Below.refl _ _
 unfold ref4_oneOf at h0
 refine calls_run Tryz.func44 rfl Tryz.ntmps44 kr ?_
 refine gv_sub [0, 1] (σ' := [(0, (.int .u8 c_0)), (1, (.string set_1))]) kr ?_
 refine gv_seq <| gv_region <| pN 1 [4] [] ?_
 refine gv_nil <| gv_seq <| gv_seq <| gv_region <| pN 1 [5] [(5, (.int .i64 0))] ?_
 refine gv_nil <| bindE h0 ?_; clear h0; intro j1 h1 h0
 refine gv_cut_code (J := fun a w3 => ∃ s2 : Unit, j1 = .inl s2 ∧ Below w0.heap.size w0 w3 ∧ w0.heap.size ≤ w3.heap.size ∧ a.defers = [] ∧ a.tmps.size = 17 ∧ Ok [] a.tmps) ?_ ?_
 ·skip
  refine gv_block <| gv_loop (A := fun (s4 : Int) a w5 => Below w0.heap.size w0 w5 ∧ w0.heap.size ≤ w5.heap.size ∧ a.defers = [] ∧ a.tmps.size = 17 ∧ Ok [(0, (.int .u8 c_0)), (1, (.string set_1)), (5, (.int .i64 s4))] a.tmps) h1 ?_ ?_
  ·intro a hd hs hok
   exact ⟨hB0, nrf, hd, hs, okp [0, 1, 5] hok⟩
  ·rintro s4 r2 h2 hR2 a w5 ⟨hB6, hz7, hd, hs, hok⟩
   refine gv_in ?_ hd hs hok
   clear hd hs hok
   refine gv_seq <| gv_seq <| gv_region <| pN 4 [6, 7, 8, 9] [(9, (.bool (decide (s4 < ((ByteArray.size set_1 : Nat) : Int)))))] ?_
   refine gv_nil <| gv_cond (b := (decide (s4 < ((ByteArray.size set_1 : Nat) : Int)))) kr (fun hc8 => ?_) (fun hc8 => ?_)
   ·replace h2 := ite_t hc8 h2
    refine gv_skip <| gv_seq <| gv_block <| gv_seq <| gv_region <| pN 2 [12, 13] [(12, (.string set_1)), (13, (.int .i64 s4))] ?_
    refine bindE h2 ?_; clear h2; intro x9 hx10 h2
    refine gv_sindex (t := 9) (s := set_1) (kk := .i64) (i := s4) x9 [] (fun e => by cases e) rfl rfl rfl kr kr Tryz.underlying9 hx10 rfl ?_
    refine pN 2 [15, 16] [(16, (.bool (x9 == c_0)))] ?_
    refine gv_nil <| gv_cond (b := (x9 == c_0)) kr (fun hc11 => ?_) (fun hc11 => ?_)
    ·replace h2 := ite_t hc11 h2
     refine gv_seq <| gv_region <| pN 1 [4] [(4, (.bool true))] ?_
     refine gv_nil <| gv_cret ?_
     have e := sj h2; subst e
     replace h1 := congrArg some (hR2 _ rfl)
     have e := sj h1; subst e
     replace h0 := cont_inr h0
     have e := sj h0; subst e
     refine gv_ret (gv_done [(.bool true)] rfl ⟨kr, trivial⟩ ?_)
     exact ⟨grown_of_below hB6, rfl⟩
    ·replace h2 := ite_f hc11 h2
     refine gv_skip <| gv_blk <| gv_region <| pN 3 [5, 10, 11] [(5, (.int .i64 (IntKind.i64.wrap (s4 + 1))))] ?_
     refine gv_nil ?_
     have e := sj h2; subst e
     refine gv_goal fun a hd hs hok => ?_
     have hz12 := hz7
     exact ⟨(IntKind.i64.wrap (s4 + 1)), rfl, hB6, hz12, hd, hs, okp [0, 1, 5] hok⟩
   ·replace h2 := ite_f hc8 h2
    refine gv_cexit <| gv_exit rfl ?_
    have e := sj h2; subst e
    replace h1 := congrArg some (hR2 _ rfl)
    have e := sj h1; subst e
    refine gv_goal fun a hd hs hok => ?_
    have hz13 := hz7
    exact ⟨(), rfl, hB6, hz13, hd, hs, okp [] hok⟩
 ·rintro a w3 ⟨s2, e, hB14, hz15, hd, hs, hok⟩
  subst e
  refine gv_in ?_ hd hs hok
  clear hd hs hok
  replace h0 := cont_inl h0
  refine gv_seq <| gv_region <| pN 1 [4] [(4, (.bool false))] ?_
  refine gv_nil <| gv_cret ?_
  have e := sj h0; subst e
  refine gv_ret (gv_done [(.bool false)] rfl ⟨kr, trivial⟩ ?_)
  exact ⟨grown_of_below hB14, rfl⟩

theorem ref4_FieldsFault_ok (fuel : Nat) (pa0_0 : Option Addr) (pc0_0 : Nat) (l_0 : (List (Int × Int × Bool))) (w0 : World) (X0 : Nat → Prop) (hX0 : ∀ k, X0 k → k < w0.heap.size) (hpa0_0 : Rd (prE (iE .u8) (prE (iE .i64) tE)) w0 X0 pa0_0 pc0_0 l_0) (r0 : (Int × Int)) (h0 : ref4_FieldsFault fuel l_0 = some r0) :
    Calls Tryz.prog 17 ([(.slice pa0_0 (length l_0) pc0_0)] : List Value).toArray w0 (Ret fun v w' => w0.grownBy w' none ∧ v = tup [(.agg #[(.int .i64 r0.1), (.int .i64 r0.2)])]) := by
 have hB0 : Below w0.heap.size w0 w0 := Below.refl _ _
 unfold ref4_FieldsFault at h0
 refine calls_run Tryz.func17 rfl Tryz.ntmps17 kr ?_
 refine gv_sub [0] (σ' := [(0, (.slice pa0_0 (length l_0) pc0_0))]) kr ?_
 refine gv_seq <| gv_region <| gv_new0 (fun b => .pointer (some ⟨b, 0, none⟩)) #[(.int .i64 0), (.int .i64 0)] 26 kr kr ?_
 intro b1 w2 hg3 hb4 hbe5 hz6
 refine gv_nil <| gv_seq <| gv_seq <| gv_region <| pN 3 [5, 6, 7] [(7, (.bool (decide (((length l_0 : Nat) : Int) > 100))))] ?_
 refine gv_nil <| gv_cond (b := (decide (((length l_0 : Nat) : Int) > 100))) kr (fun hc7 => ?_) (fun hc7 => ?_)
 ·replace h0 := ite_t hc7 h0
  refine gv_seq <| gv_region <| bindE h0 ?_; clear h0; intro r8 hr9 h0
  refine gv_call0 kr rfl kr enters19 (ref4_At_ok fuel 2 (-1) w2  r8 hr9) ?_
  rintro v12 w10 ⟨hg11, rfl⟩
  have hk17 := hb4.grown hg11 nb
  refine gv_store0 26 0 (.agg #[(.int .i64 r8.1), (.int .i64 r8.2)]) #[(.int .i64 r8.1), (.int .i64 r8.2)] hk17 kr kr kr ?_
  intro w13 hg14 hb15 hz16
  refine gv_nil <| gv_cret ?_
  have e := sj h0; subst e
  refine gv_ret (gv_done [(.agg #[(.int .i64 r8.1), (.int .i64 r8.2)])] rfl ⟨⟨⟨b1, 0, none⟩, kr, run_loadVar_row w13 b1 _ 26 _ _ _ hb15 Tryz.underlying26 rfl kr⟩, trivial⟩ ?_)
  have hg18 := (grown_trans hg3 hg11)
  have hB19 := bg hB0 hg18 nb
  have hlo20 : w0.heap.size ≤ b1 := lob hbe5 hB0.size
  have hB21 := bg hB19 hg14 (rowlo hlo20)
  exact ⟨grown_of_below hB21, rfl⟩
 ·replace h0 := ite_f hc7 h0
  refine gv_skip <| gv_seq <| gv_seq <| gv_region <| pN 1 [3] [(3, (.int .i64 0))] ?_
  refine gv_nil <| bindE h0 ?_; clear h0; intro j22 h1 h0
  refine gv_cut_code (J := fun a w24 => ∃ s23 : (Int × Int), j22 = .inl s23 ∧ Below w0.heap.size w0 w24 ∧ w2.heap.size ≤ w24.heap.size ∧ Box w24 b1 26 #[(.int .i64 s23.1), (.int .i64 s23.2)] ∧ a.defers = [] ∧ a.tmps.size = 93 ∧ Ok [(2, (bp b1))] a.tmps) ?_ ?_
  ·skip
   refine gv_block <| gv_loop (A := fun (s25 : (Int × (Int × Int))) a w26 => Below w0.heap.size w0 w26 ∧ w2.heap.size ≤ w26.heap.size ∧ Box w26 b1 26 #[(.int .i64 s25.2.1), (.int .i64 s25.2.2)] ∧ a.defers = [] ∧ a.tmps.size = 93 ∧ Ok [(0, (.slice pa0_0 (length l_0) pc0_0)), (2, (bp b1)), (3, (.int .i64 s25.1))] a.tmps) h1 ?_ ?_
   ·intro a hd hs hok
    have hB27 := bg hB0 hg3 nb
    exact ⟨hB27, nrf, hb4, hd, hs, okp [0, 2, 3] hok⟩
   ·rintro s25 r2 h2 hR2 a w26 ⟨hB28, hz29, hb30, hd, hs, hok⟩
    refine gv_in ?_ hd hs hok
    clear hd hs hok
    clear hc7 hz6 hb4 hg3
    refine gv_seq <| gv_seq <| gv_region <| pN 4 [9, 10, 11, 12] [(12, (.bool (decide (s25.1 < ((length l_0 : Nat) : Int)))))] ?_
    refine gv_nil <| gv_cond (b := (decide (s25.1 < ((length l_0 : Nat) : Int)))) kr (fun hc31 => ?_) (fun hc31 => ?_)
    ·replace h2 := ite_t hc31 h2
     refine gv_skip <| gv_seq <| gv_block <| gv_seq <| gv_region <| bindE h2 ?_; clear h2; intro j32 h3 h2
     refine gv_cut_ops (J := fun a w33 => Below w0.heap.size w0 w33 ∧ w26.heap.size ≤ w33.heap.size ∧ Box w33 b1 26 #[(.int .i64 s25.2.1), (.int .i64 s25.2.2)] ∧ a.defers = [] ∧ a.tmps.size = 93 ∧ Ok [(0, (.slice pa0_0 (length l_0) pc0_0)), (2, (bp b1)), (3, (.int .i64 s25.1)), (4, (.bool j32))] a.tmps) ?_ ?_
     ·skip
      refine pN 2 [15, 16] [(15, (.slice pa0_0 (length l_0) pc0_0)), (16, (.int .i64 s25.1))] ?_
      refine bindE h3 ?_; clear h3; intro x34 hx35 h3
      refine gv_idxaddr (t := 22) (e := 49) (a := pa0_0) (len := length l_0) (cap := pc0_0) (kk := .i64) (i := s25.1) (sz := 3) [] (fun e => by cases e) rfl rfl rfl kr kr Tryz.underlying22 kr ((hpa0_0.below hB28 hX0).has hx35) (idx_spec hx35).1 (idx_spec hx35).2.1 rfl ?_
      refine pN 1 [18] [(18, (.pointer (some (elemAddr pa0_0 ((s25.1 : Int).toNat * 3)))))] ?_
      obtain ⟨_, ⟨_, _, rfl, rfl, ⟨_, _, rfl, rfl, rfl⟩⟩, hc36⟩ := hpa0_0.cellsK hx35
      refine gv_load (t := 5) (A := (elemAddr pa0_0 ((s25.1 : Int).toNat * 3))) (.int .u8 x34.1) [] (fun e => by cases e) rfl rfl rfl kr kr kr (inw0 ((hc36 w26 (fun k hk => hB28.block k (hX0 k hk))).zero rfl)) rfl ?_
      refine pN 2 [20, 21] [(21, (.bool (x34.1 == 115)))] ?_
      refine gv_split (s := 21) (g := (x34.1 == 115)) kr (fun hc37 => ?_) (fun hc37 => ?_)
      ·skip
       replace h3 := ite_t hc37 h3
       refine pN 8 [4, 22, 23, 24, 25, 26, 27, 28] [(4, (.bool true))] ?_
       refine gv_nil ?_
       have e := sj h3; subst e
       refine gv_goal fun a hd hs hok => ?_
       exact ⟨hB28, nrf, hb30, hd, hs, okp [0, 2, 3, 4] hok⟩
      ·skip
       replace h3 := ite_f hc37 h3
       refine pN 2 [22, 23] [(22, (.slice pa0_0 (length l_0) pc0_0)), (23, (.int .i64 s25.1))] ?_
       refine bindE h3 ?_; clear h3; intro x38 hx39 h3
       refine gv_idxaddr (t := 22) (e := 49) (a := pa0_0) (len := length l_0) (cap := pc0_0) (kk := .i64) (i := s25.1) (sz := 3) [] (fun e => by cases e) rfl rfl rfl kr kr Tryz.underlying22 kr ((hpa0_0.below hB28 hX0).has hx39) (idx_spec hx39).1 (idx_spec hx39).2.1 rfl ?_
       refine pN 1 [25] [(25, (.pointer (some (elemAddr pa0_0 ((s25.1 : Int).toNat * 3)))))] ?_
       obtain ⟨_, ⟨_, _, rfl, rfl, ⟨_, _, rfl, rfl, rfl⟩⟩, hc40⟩ := hpa0_0.cellsK hx39
       refine gv_load (t := 5) (A := (elemAddr pa0_0 ((s25.1 : Int).toNat * 3))) (.int .u8 x38.1) [] (fun e => by cases e) rfl rfl rfl kr kr kr (inw0 ((hc40 w26 (fun k hk => hB28.block k (hX0 k hk))).zero rfl)) rfl ?_
       refine pN 3 [4, 27, 28] [(4, (.bool (x38.1 == 120)))] ?_
       refine gv_nil ?_
       have e := sj h3; subst e
       refine gv_goal fun a hd hs hok => ?_
       exact ⟨hB28, nrf, hb30, hd, hs, okp [0, 2, 3, 4] hok⟩
     ·rintro a w33 ⟨hB41, hz42, hb43, hd, hs, hok⟩
      refine gv_in ?_ hd hs hok
      clear hd hs hok
      have hz44 := (nt hz29 hz42)
      clear hz42 hc31 hb30 hz29 hB28
      refine gv_block <| gv_seq <| gv_region <| bindE h2 ?_; clear h2; intro j45 h3 h2
      refine gv_cut_ops (J := fun a w46 => Below w0.heap.size w0 w46 ∧ w33.heap.size ≤ w46.heap.size ∧ Box w46 b1 26 #[(.int .i64 s25.2.1), (.int .i64 s25.2.2)] ∧ a.defers = [] ∧ a.tmps.size = 93 ∧ Ok [(0, (.slice pa0_0 (length l_0) pc0_0)), (2, (bp b1)), (3, (.int .i64 s25.1)), (4, (.bool j32)), (29, (.bool j45))] a.tmps) ?_ ?_
      ·skip
       refine pN 2 [30, 31] [(30, (.slice pa0_0 (length l_0) pc0_0)), (31, (.int .i64 s25.1))] ?_
       refine bindE h3 ?_; clear h3; intro x47 hx48 h3
       refine gv_idxaddr (t := 22) (e := 49) (a := pa0_0) (len := length l_0) (cap := pc0_0) (kk := .i64) (i := s25.1) (sz := 3) [] (fun e => by cases e) rfl rfl rfl kr kr Tryz.underlying22 kr ((hpa0_0.below hB41 hX0).has hx48) (idx_spec hx48).1 (idx_spec hx48).2.1 rfl ?_
       refine pN 1 [33] [(33, (.pointer (some (elemAddr pa0_0 ((s25.1 : Int).toNat * 3)))))] ?_
       obtain ⟨_, ⟨_, _, rfl, rfl, ⟨_, _, rfl, rfl, rfl⟩⟩, hc49⟩ := hpa0_0.cellsK hx48
       refine gv_load (t := 5) (A := (elemAddr pa0_0 ((s25.1 : Int).toNat * 3))) (.int .u8 x47.1) [] (fun e => by cases e) rfl rfl rfl kr kr kr (inw0 ((hc49 w33 (fun k hk => hB41.block k (hX0 k hk))).zero rfl)) rfl ?_
       refine pN 2 [35, 36] [(36, (.bool (x47.1 == 0)))] ?_
       refine gv_split (s := 36) (g := (x47.1 == 0)) kr (fun hc50 => ?_) (fun hc50 => ?_)
       ·skip
        replace h3 := ite_t hc50 h3
        refine pN 9 [29, 37, 38, 39, 40, 41, 42, 43, 44] [(29, (.bool true))] ?_
        refine gv_nil ?_
        have e := sj h3; subst e
        refine gv_goal fun a hd hs hok => ?_
        exact ⟨hB41, nrf, hb43, hd, hs, okp [0, 2, 3, 4, 29] hok⟩
       ·skip
        replace h3 := ite_f hc50 h3
        refine pN 2 [37, 38] [(37, (.slice pa0_0 (length l_0) pc0_0)), (38, (.int .i64 s25.1))] ?_
        refine bindE h3 ?_; clear h3; intro x51 hx52 h3
        refine gv_idxaddr (t := 22) (e := 49) (a := pa0_0) (len := length l_0) (cap := pc0_0) (kk := .i64) (i := s25.1) (sz := 3) [] (fun e => by cases e) rfl rfl rfl kr kr Tryz.underlying22 kr ((hpa0_0.below hB41 hX0).has hx52) (idx_spec hx52).1 (idx_spec hx52).2.1 rfl ?_
        refine pN 1 [40] [(40, (.pointer (some (elemAddr pa0_0 ((s25.1 : Int).toNat * 3)))))] ?_
        obtain ⟨_, ⟨_, _, rfl, rfl, ⟨_, _, rfl, rfl, rfl⟩⟩, hc53⟩ := hpa0_0.cellsK hx52
        refine gv_load (t := 5) (A := (elemAddr pa0_0 ((s25.1 : Int).toNat * 3))) (.int .u8 x51.1) [] (fun e => by cases e) rfl rfl rfl kr kr kr (inw0 ((hc53 w33 (fun k hk => hB41.block k (hX0 k hk))).zero rfl)) rfl ?_
        refine bindE h3 ?_; clear h3; intro r54 hr55 h3
        refine gv_call0 kr rfl kr enters44 (ref4_oneOf_ok fuel x51.1 (strOf [98, 66, 104, 72, 105, 73, 113, 81, 118, 115, 112, 120, 63]) w33  r54 hr55) ?_
        rintro v58 w56 ⟨hg57, rfl⟩
        refine pN 3 [29, 43, 44] [(29, (.bool (!r54)))] ?_
        refine gv_nil ?_
        have e := sj h3; subst e
        refine gv_goal fun a hd hs hok => ?_
        have hB59 := bg hB41 hg57 nb
        have hz60 := hg57.size
        have hk61 := hb43.grown hg57 nb
        exact ⟨hB59, hz60, hk61, hd, hs, okp [0, 2, 3, 4, 29] hok⟩
      ·rintro a w46 ⟨hB62, hz63, hb64, hd, hs, hok⟩
       refine gv_in ?_ hd hs hok
       clear hd hs hok
       have hz65 := (nt hz44 hz63)
       clear hz63 hz44 hb43 hB41
       refine gv_cond (b := j45) kr (fun hc66 => ?_) (fun hc66 => ?_)
       ·replace h2 := ite_t hc66 h2
        refine gv_seq <| gv_region <| pN 1 [45] [(45, (.int .i64 s25.1))] ?_
        refine bindE h2 ?_; clear h2; intro r67 hr68 h2
        refine gv_call0 kr rfl kr enters19 (ref4_At_ok fuel 5 s25.1 w46  r67 hr68) ?_
        rintro v71 w69 ⟨hg70, rfl⟩
        have hk76 := hb64.grown hg70 nb
        refine gv_store0 26 0 (.agg #[(.int .i64 r67.1), (.int .i64 r67.2)]) #[(.int .i64 r67.1), (.int .i64 r67.2)] hk76 kr kr kr ?_
        intro w72 hg73 hb74 hz75
        refine gv_nil <| gv_cret ?_
        have e := sj h2; subst e
        replace h1 := congrArg some (hR2 _ rfl)
        have e := sj h1; subst e
        replace h0 := cont_inr h0
        have e := sj h0; subst e
        refine gv_ret (gv_done [(.agg #[(.int .i64 r67.1), (.int .i64 r67.2)])] rfl ⟨⟨⟨b1, 0, none⟩, kr, run_loadVar_row w72 b1 _ 26 _ _ _ hb74 Tryz.underlying26 rfl kr⟩, trivial⟩ ?_)
        have hB77 := bg hB62 hg70 nb
        have hlo78 : w0.heap.size ≤ b1 := lob hbe5 hB0.size
        have hB79 := bg hB77 hg73 (rowlo hlo78)
        exact ⟨grown_of_below hB79, rfl⟩
       ·replace h2 := ite_f hc66 h2
        refine gv_seq <| gv_region <| bindE h2 ?_; clear h2; intro j80 h3 h2
        refine gv_cut_ops (J := fun a w81 => Below w0.heap.size w0 w81 ∧ w46.heap.size ≤ w81.heap.size ∧ Box w81 b1 26 #[(.int .i64 s25.2.1), (.int .i64 s25.2.2)] ∧ a.defers = [] ∧ a.tmps.size = 93 ∧ Ok [(0, (.slice pa0_0 (length l_0) pc0_0)), (2, (bp b1)), (3, (.int .i64 s25.1)), (47, (.bool j80))] a.tmps) ?_ ?_
        ·skip
         refine pN 2 [48, 49] [(49, (.bool j32))] ?_
         refine gv_split (s := 49) (g := j32) kr (fun hc82 => ?_) (fun hc82 => ?_)
         ·skip
          replace h3 := ite_t hc82 h3
          refine pN 2 [50, 51] [(50, (.slice pa0_0 (length l_0) pc0_0)), (51, (.int .i64 s25.1))] ?_
          refine bindE h3 ?_; clear h3; intro x83 hx84 h3
          refine gv_idxaddr (t := 22) (e := 49) (a := pa0_0) (len := length l_0) (cap := pc0_0) (kk := .i64) (i := s25.1) (sz := 3) [] (fun e => by cases e) rfl rfl rfl kr kr Tryz.underlying22 kr ((hpa0_0.below hB62 hX0).has hx84) (idx_spec hx84).1 (idx_spec hx84).2.1 rfl ?_
          refine pN 1 [53] [(53, (.pointer (some (Addr.add (elemAddr pa0_0 ((s25.1 : Int).toNat * 3)) 1))))] ?_
          obtain ⟨_, ⟨_, _, rfl, rfl, ⟨_, _, rfl, rfl, rfl⟩⟩, hc85⟩ := hpa0_0.cellsK hx84
          refine gv_load (t := 3) (A := (Addr.add (elemAddr pa0_0 ((s25.1 : Int).toNat * 3)) 1)) (.int .i64 x83.2.1) [] (fun e => by cases e) rfl rfl rfl kr kr kr (inw0 ((hc85 w46 (fun k hk => hB62.block k (hX0 k hk))) 1 _ rfl)) rfl ?_
          refine pN 2 [55, 56] [(56, (.bool (decide (x83.2.1 < 0))))] ?_
          refine gv_split (s := 56) (g := (decide (x83.2.1 < 0))) kr (fun hc86 => ?_) (fun hc86 => ?_)
          ·skip
           replace h3 := ite_t hc86 h3
           refine pN 21 [47, 57, 58, 59, 60, 61, 62, 63, 64, 65, 66, 67, 68, 69, 70, 71, 72, 73, 74, 75, 76] [(47, (.bool true))] ?_
           refine gv_nil ?_
           have e := sj h3; subst e
           refine gv_goal fun a hd hs hok => ?_
           exact ⟨hB62, nrf, hb64, hd, hs, okp [0, 2, 3, 47] hok⟩
          ·skip
           replace h3 := ite_f hc86 h3
           refine pN 2 [57, 58] [(57, (.slice pa0_0 (length l_0) pc0_0)), (58, (.int .i64 s25.1))] ?_
           refine bindE h3 ?_; clear h3; intro x87 hx88 h3
           refine gv_idxaddr (t := 22) (e := 49) (a := pa0_0) (len := length l_0) (cap := pc0_0) (kk := .i64) (i := s25.1) (sz := 3) [] (fun e => by cases e) rfl rfl rfl kr kr Tryz.underlying22 kr ((hpa0_0.below hB62 hX0).has hx88) (idx_spec hx88).1 (idx_spec hx88).2.1 rfl ?_
           refine pN 1 [60] [(60, (.pointer (some (Addr.add (elemAddr pa0_0 ((s25.1 : Int).toNat * 3)) 1))))] ?_
           obtain ⟨_, ⟨_, _, rfl, rfl, ⟨_, _, rfl, rfl, rfl⟩⟩, hc89⟩ := hpa0_0.cellsK hx88
           refine gv_load (t := 3) (A := (Addr.add (elemAddr pa0_0 ((s25.1 : Int).toNat * 3)) 1)) (.int .i64 x87.2.1) [] (fun e => by cases e) rfl rfl rfl kr kr kr (inw0 ((hc89 w46 (fun k hk => hB62.block k (hX0 k hk))) 1 _ rfl)) rfl ?_
           refine pN 4 [62, 63, 64, 65] [(65, (.bool (decide (x87.2.1 > 100))))] ?_
           refine gv_split (s := 65) (g := (decide (x87.2.1 > 100))) kr (fun hc90 => ?_) (fun hc90 => ?_)
           ·skip
            replace h3 := ite_t hc90 h3
            refine pN 12 [47, 66, 67, 68, 69, 70, 71, 72, 73, 74, 75, 76] [(47, (.bool true))] ?_
            refine gv_nil ?_
            have e := sj h3; subst e
            refine gv_goal fun a hd hs hok => ?_
            exact ⟨hB62, nrf, hb64, hd, hs, okp [0, 2, 3, 47] hok⟩
           ·skip
            replace h3 := ite_f hc90 h3
            refine pN 3 [66, 67, 68] [(68, (.bool (!j32)))] ?_
            refine gv_split (s := 68) (g := (!j32)) kr (fun hc91 => ?_) (fun hc91 => ?_)
            ·skip
             replace h3 := ite_t hc91 h3
             refine pN 2 [69, 70] [(69, (.slice pa0_0 (length l_0) pc0_0)), (70, (.int .i64 s25.1))] ?_
             refine bindE h3 ?_; clear h3; intro x92 hx93 h3
             refine gv_idxaddr (t := 22) (e := 49) (a := pa0_0) (len := length l_0) (cap := pc0_0) (kk := .i64) (i := s25.1) (sz := 3) [] (fun e => by cases e) rfl rfl rfl kr kr Tryz.underlying22 kr ((hpa0_0.below hB62 hX0).has hx93) (idx_spec hx93).1 (idx_spec hx93).2.1 rfl ?_
             refine pN 1 [72] [(72, (.pointer (some (Addr.add (elemAddr pa0_0 ((s25.1 : Int).toNat * 3)) 1))))] ?_
             refine gv_sub [0, 2, 3, 65, 68, 72] (σ' := [(0, (.slice pa0_0 (length l_0) pc0_0)), (2, (bp b1)), (3, (.int .i64 s25.1)), (65, (.bool false)), (68, (.bool true)), (72, (.pointer (some (Addr.add (elemAddr pa0_0 ((s25.1 : Int).toNat * 3)) 1))))]) kr ?_
             obtain ⟨_, ⟨_, _, rfl, rfl, ⟨_, _, rfl, rfl, rfl⟩⟩, hc94⟩ := hpa0_0.cellsK hx93
             refine gv_load (t := 3) (A := (Addr.add (elemAddr pa0_0 ((s25.1 : Int).toNat * 3)) 1)) (.int .i64 x92.2.1) [] (fun e => by cases e) rfl rfl rfl kr kr kr (inw0 ((hc94 w46 (fun k hk => hB62.block k (hX0 k hk))) 1 _ rfl)) rfl ?_
             refine pN 4 [47, 74, 75, 76] [(47, (.bool (x92.2.1 != 1)))] ?_
             refine gv_nil ?_
             have e := sj h3; subst e
             refine gv_goal fun a hd hs hok => ?_
             exact ⟨hB62, nrf, hb64, hd, hs, okp [0, 2, 3, 47] hok⟩
            ·skip
             replace h3 := ite_f hc91 h3
             refine pN 9 [47, 69, 70, 71, 72, 73, 74, 75, 76] [(47, (.bool false))] ?_
             refine gv_nil ?_
             have e := sj h3; subst e
             refine gv_goal fun a hd hs hok => ?_
             exact ⟨hB62, nrf, hb64, hd, hs, okp [0, 2, 3, 47] hok⟩
         ·skip
          replace h3 := ite_f hc82 h3
          refine pN 19 [50, 51, 52, 53, 54, 55, 56, 57, 58, 59, 60, 61, 62, 63, 64, 65, 66, 67, 68] [(65, (.bool false)), (68, (.bool (!j32)))] ?_
          refine gv_split (s := 68) (g := (!j32)) kr (fun hc95 => ?_) (fun hc95 => ?_)
          ·skip
           replace h3 := ite_t hc95 h3
           refine pN 2 [69, 70] [(69, (.slice pa0_0 (length l_0) pc0_0)), (70, (.int .i64 s25.1))] ?_
           refine bindE h3 ?_; clear h3; intro x96 hx97 h3
           refine gv_idxaddr (t := 22) (e := 49) (a := pa0_0) (len := length l_0) (cap := pc0_0) (kk := .i64) (i := s25.1) (sz := 3) [] (fun e => by cases e) rfl rfl rfl kr kr Tryz.underlying22 kr ((hpa0_0.below hB62 hX0).has hx97) (idx_spec hx97).1 (idx_spec hx97).2.1 rfl ?_
           refine pN 1 [72] [(72, (.pointer (some (Addr.add (elemAddr pa0_0 ((s25.1 : Int).toNat * 3)) 1))))] ?_
           obtain ⟨_, ⟨_, _, rfl, rfl, ⟨_, _, rfl, rfl, rfl⟩⟩, hc98⟩ := hpa0_0.cellsK hx97
           refine gv_load (t := 3) (A := (Addr.add (elemAddr pa0_0 ((s25.1 : Int).toNat * 3)) 1)) (.int .i64 x96.2.1) [] (fun e => by cases e) rfl rfl rfl kr kr kr (inw0 ((hc98 w46 (fun k hk => hB62.block k (hX0 k hk))) 1 _ rfl)) rfl ?_
           refine pN 4 [47, 74, 75, 76] [(47, (.bool (x96.2.1 != 1)))] ?_
           refine gv_nil ?_
           have e := sj h3; subst e
           refine gv_goal fun a hd hs hok => ?_
           exact ⟨hB62, nrf, hb64, hd, hs, okp [0, 2, 3, 47] hok⟩
          ·skip
           replace h3 := ite_f hc95 h3
           refine pN 9 [47, 69, 70, 71, 72, 73, 74, 75, 76] [(47, (.bool false))] ?_
           refine gv_nil ?_
           have e := sj h3; subst e
           refine gv_goal fun a hd hs hok => ?_
           exact ⟨hB62, nrf, hb64, hd, hs, okp [0, 2, 3, 47] hok⟩
        ·rintro a w81 ⟨hB99, hz100, hb101, hd, hs, hok⟩
         refine gv_in ?_ hd hs hok
         clear hd hs hok
         have hz102 := (nt hz65 hz100)
         clear hz100 hc66 hz65 hb64 hB62
         refine gv_cond (b := j80) kr (fun hc103 => ?_) (fun hc103 => ?_)
         ·replace h2 := ite_t hc103 h2
          refine gv_seq <| gv_region <| pN 1 [77] [(77, (.int .i64 s25.1))] ?_
          refine bindE h2 ?_; clear h2; intro r104 hr105 h2
          refine gv_call0 kr rfl kr enters19 (ref4_At_ok fuel 4 s25.1 w81  r104 hr105) ?_
          rintro v108 w106 ⟨hg107, rfl⟩
          have hk113 := hb101.grown hg107 nb
          refine gv_store0 26 0 (.agg #[(.int .i64 r104.1), (.int .i64 r104.2)]) #[(.int .i64 r104.1), (.int .i64 r104.2)] hk113 kr kr kr ?_
          intro w109 hg110 hb111 hz112
          have hz114 := (nt (nt hz102 hg107.size) hg110.size)
          clear hz112 hk113 hr105 hc103 hz102 hb101
          refine gv_nil <| gv_cret ?_
          have e := sj h2; subst e
          replace h1 := congrArg some (hR2 _ rfl)
          have e := sj h1; subst e
          replace h0 := cont_inr h0
          have e := sj h0; subst e
          refine gv_ret (gv_done [(.agg #[(.int .i64 r104.1), (.int .i64 r104.2)])] rfl ⟨⟨⟨b1, 0, none⟩, kr, run_loadVar_row w109 b1 _ 26 _ _ _ hb111 Tryz.underlying26 rfl kr⟩, trivial⟩ ?_)
          have hB115 := bg hB99 hg107 nb
          have hlo116 : w0.heap.size ≤ b1 := lob hbe5 hB0.size
          have hB117 := bg hB115 hg110 (rowlo hlo116)
          exact ⟨grown_of_below hB117, rfl⟩
         ·replace h2 := ite_f hc103 h2
          refine gv_seq <| gv_drawA kr ?_
          intro w118 hg119
          refine gv_pre [0, 1, 2, 3, 5, 6, 7] (bA 11 [0, 1, 2, 3, 5, 6, 7]) 4 kr kr ?_
          refine pN 2 [80, 81] [(80, (.slice pa0_0 (length l_0) pc0_0)), (81, (.int .i64 s25.1))] ?_
          refine bindE h2 ?_; clear h2; intro x120 hx121 h2
          have hB122 := bg hB99 hg119 nb
          refine gv_idxaddr (t := 22) (e := 49) (a := pa0_0) (len := length l_0) (cap := pc0_0) (kk := .i64) (i := s25.1) (sz := 3) [] (fun e => by cases e) rfl rfl rfl kr kr Tryz.underlying22 kr ((hpa0_0.below hB122 hX0).has hx121) (idx_spec hx121).1 (idx_spec hx121).2.1 rfl ?_
          refine pN 2 [83, 85] [(83, (.pointer (some (Addr.add (elemAddr pa0_0 ((s25.1 : Int).toNat * 3)) 2)))), (85, (.slice pa0_0 (length l_0) pc0_0))] ?_
          refine bindE h2 ?_; clear h2; intro x123 hx124 h2
          refine gv_idxaddr (t := 22) (e := 49) (a := pa0_0) (len := length l_0) (cap := pc0_0) (kk := .i64) (i := 0) (sz := 3) [] (fun e => by cases e) rfl rfl rfl kr kr Tryz.underlying22 kr ((hpa0_0.below hB122 hX0).has hx124) (idx_spec hx124).1 (idx_spec hx124).2.1 rfl ?_
          refine pN 1 [87] [(87, (.pointer (some (Addr.add (elemAddr pa0_0 ((0 : Int).toNat * 3)) 2))))] ?_
          refine gv_nil <| gv_goA ?_
          refine gv_stage (Cls w118 []) [4, 8] [(4, some true), (8, some true)] (bA 11 [0, 1, 2, 3, 4, 5, 6, 7, 8]) 2 kr kr (Cls.refl _ _) ?_
          have hC125 := Cls.refl w118 []
          obtain ⟨_, ⟨_, _, rfl, rfl, ⟨_, _, rfl, rfl, rfl⟩⟩, hc126⟩ := hpa0_0.cellsK hx121
          refine gv_load (t := 4) (A := (Addr.add (elemAddr pa0_0 ((s25.1 : Int).toNat * 3)) 2)) (.bool x120.2.2) [] (fun e => by cases e) rfl rfl rfl kr kr kr (inw1 fun w' hC' => ((hc126 w' (fun k hk => (hC'.2 k ((fun k (hk : X0 k) => ltl (hX0 k hk) hB122.size) k hk) (fun hg => nmx_nil k hg hk)).trans (hB122.block k (hX0 k hk)))) 2 _ rfl)) rfl ?_
          obtain ⟨_, ⟨_, _, rfl, rfl, ⟨_, _, rfl, rfl, rfl⟩⟩, hc127⟩ := hpa0_0.cellsK hx124
          refine gv_load (t := 4) (A := (Addr.add (elemAddr pa0_0 ((0 : Int).toNat * 3)) 2)) (.bool x123.2.2) [] (fun e => by cases e) rfl rfl rfl kr kr kr (inw1 fun w' hC' => ((hc127 w' (fun k hk => (hC'.2 k ((fun k (hk : X0 k) => ltl (hX0 k hk) hB122.size) k hk) (fun hg => nmx_nil k hg hk)).trans (hB122.block k (hX0 k hk)))) 2 _ rfl)) rfl ?_
          refine gv_nil <| gv_goA ?_
          refine gv_pre [9, 10] (bA 11 [0, 1, 2, 3, 4, 5, 6, 7, 8, 9, 10]) 0 kr kr ?_
          refine pN 2 [79, 89] [(79, (.bool (!(x120.2.2 == x123.2.2))))] ?_
          refine gv_nil <| gv_goA ?_
          refine gv_stageE kr ?_
          refine gv_cond (b := (!(x120.2.2 == x123.2.2))) kr (fun hc128 => ?_) (fun hc128 => ?_)
          ·replace h2 := ite_t hc128 h2
           refine gv_seq <| gv_region <| pN 1 [90] [(90, (.int .i64 s25.1))] ?_
           refine bindE h2 ?_; clear h2; intro r129 hr130 h2
           refine gv_call0 kr rfl kr enters19 (ref4_At_ok fuel 19 s25.1 w118  r129 hr130) ?_
           rintro v133 w131 ⟨hg132, rfl⟩
           have hg138 := (grown_trans hg119 hg132)
           have hk139 := hb101.grown hg138 nb
           refine gv_store0 26 0 (.agg #[(.int .i64 r129.1), (.int .i64 r129.2)]) #[(.int .i64 r129.1), (.int .i64 r129.2)] hk139 kr kr kr ?_
           intro w134 hg135 hb136 hz137
           refine gv_nil <| gv_cret ?_
           have e := sj h2; subst e
           replace h1 := congrArg some (hR2 _ rfl)
           have e := sj h1; subst e
           replace h0 := cont_inr h0
           have e := sj h0; subst e
           refine gv_ret (gv_done [(.agg #[(.int .i64 r129.1), (.int .i64 r129.2)])] rfl ⟨⟨⟨b1, 0, none⟩, kr, run_loadVar_row w134 b1 _ 26 _ _ _ hb136 Tryz.underlying26 rfl kr⟩, trivial⟩ ?_)
           have hB140 := bg hB122 hg132 nb
           have hlo141 : w0.heap.size ≤ b1 := lob hbe5 hB0.size
           have hB142 := bg hB140 hg135 (rowlo hlo141)
           exact ⟨grown_of_below hB142, rfl⟩
          ·replace h2 := ite_f hc128 h2
           refine gv_skip <| gv_blk <| gv_blk <| gv_region <| pN 3 [3, 13, 14] [(3, (.int .i64 (IntKind.i64.wrap (s25.1 + 1))))] ?_
           refine gv_nil ?_
           have e := sj h2; subst e
           refine gv_goal fun a hd hs hok => ?_
           have hz143 := (nt hz102 hg119.size)
           have hk144 := hb101.grown hg119 nb
           exact ⟨((IntKind.i64.wrap (s25.1 + 1)), (s25.2.1, s25.2.2)), rfl, hB122, hz143, hk144, hd, hs, okp [0, 2, 3] hok⟩
    ·replace h2 := ite_f hc31 h2
     refine gv_cexit <| gv_exit rfl ?_
     have e := sj h2; subst e
     replace h1 := congrArg some (hR2 _ rfl)
     have e := sj h1; subst e
     refine gv_goal fun a hd hs hok => ?_
     have hz145 := hz29
     exact ⟨(s25.2.1, s25.2.2), rfl, hB28, hz145, hb30, hd, hs, okp [2] hok⟩
  ·rintro a w24 ⟨s23, e, hB146, hz147, hb148, hd, hs, hok⟩
   subst e
   refine gv_in ?_ hd hs hok
   clear hd hs hok
   replace h0 := cont_inl h0
   clear hz147 hc7 hz6 hb4 hg3
   refine gv_seq <| gv_region <| pN 1 [92] [(92, (.agg #[(.int .i64 0), (.int .i64 0)]))] ?_
   refine gv_store0 26 0 (.agg #[(.int .i64 0), (.int .i64 0)]) #[(.int .i64 0), (.int .i64 0)] hb148 kr kr kr ?_
   intro w149 hg150 hb151 hz152
   refine gv_nil <| gv_cret ?_
   have e := sj h0; subst e
   refine gv_ret (gv_done [(.agg #[(.int .i64 0), (.int .i64 0)])] rfl ⟨⟨⟨b1, 0, none⟩, kr, run_loadVar_row w149 b1 _ 26 _ _ _ hb151 Tryz.underlying26 rfl kr⟩, trivial⟩ ?_)
   have hlo153 : w0.heap.size ≤ b1 := lob hbe5 hB0.size
   have hB154 := bg hB146 hg150 (rowlo hlo153)
   exact ⟨grown_of_below hB154, rfl⟩

theorem ref4_widthOf_ok (fuel : Nat) (code_0 : Int) (w0 : World)  (r0 : Int) (h0 : ref4_widthOf fuel code_0 = some r0) :
    Calls Tryz.prog 18 ([(.int .u8 code_0)] : List Value).toArray w0 (Ret fun v w' => w0.grownBy w' none ∧ v = tup [(.int .i64 r0)]) := by
 have hB0 : Below w0.heap.size w0 w0 := Below.refl _ _
 unfold ref4_widthOf at h0
 refine calls_run Tryz.func18 rfl Tryz.ntmps18 kr ?_
 refine gv_sub [0] (σ' := [(0, (.int .u8 code_0))]) kr ?_
 refine gv_seq <| gv_region <| pN 1 [2] [] ?_
 refine gv_nil <| gv_seq <| gv_seq <| gv_region <| pN 1 [3] [(3, (.int .i64 0))] ?_
 refine gv_nil <| bindE h0 ?_; clear h0; intro j1 h1 h0
 refine gv_cut_code (J := fun a w3 => ∃ s2 : Unit, j1 = .inl s2 ∧ Below w0.heap.size w0 w3 ∧ w0.heap.size ≤ w3.heap.size ∧ a.defers = [] ∧ a.tmps.size = 15 ∧ Ok [] a.tmps) ?_ ?_
 ·skip
  refine gv_block <| gv_loop (A := fun (s4 : Int) a w5 => Below w0.heap.size w0 w5 ∧ w0.heap.size ≤ w5.heap.size ∧ a.defers = [] ∧ a.tmps.size = 15 ∧ Ok [(0, (.int .u8 code_0)), (3, (.int .i64 s4))] a.tmps) h1 ?_ ?_
  ·intro a hd hs hok
   exact ⟨hB0, nrf, hd, hs, okp [0, 3] hok⟩
  ·rintro s4 r2 h2 hR2 a w5 ⟨hB6, hz7, hd, hs, hok⟩
   refine gv_in ?_ hd hs hok
   clear hd hs hok
   refine gv_seq <| gv_seq <| gv_region <| pN 2 [4, 5] [(5, (.bool (decide (s4 < 8))))] ?_
   refine gv_nil <| gv_cond (b := (decide (s4 < 8))) kr (fun hc8 => ?_) (fun hc8 => ?_)
   ·replace h2 := ite_t hc8 h2
    refine gv_skip <| gv_seq <| gv_block <| gv_seq <| gv_region <| pN 1 [8] [(8, (.int .i64 s4))] ?_
    refine bindE h2 ?_; clear h2; intro x9 hx10 h2
    refine gv_sindex (t := 9) (s := (strOf [98, 66, 104, 72, 105, 73, 113, 81])) (kk := .i64) (i := s4) x9 [] (fun e => by cases e) rfl rfl rfl kr kr Tryz.underlying9 hx10 rfl ?_
    refine pN 2 [10, 11] [(11, (.bool (x9 == code_0)))] ?_
    refine gv_nil <| gv_cond (b := (x9 == code_0)) kr (fun hc11 => ?_) (fun hc11 => ?_)
    ·replace h2 := ite_t hc11 h2
     refine gv_seq <| gv_region <| pN 2 [12, 13] [(13, (.int .i64 (IntKind.i64.wrap ((s4).tdiv 2))))] ?_
     refine bindE h2 ?_; clear h2; intro _ hx12 h2
     refine gv_shift .shl (t := 3) (kk := .i64) (ky := .i64) (x := 1) (y := (IntKind.i64.wrap ((s4).tdiv 2))) (shlI .i64 1 (IntKind.i64.wrap ((s4).tdiv 2))) [] (fun e => by cases e) rfl rfl rfl kr kr (nn_spec hx12) (.inl ⟨rfl, rfl⟩) rfl ?_
     refine pN 1 [2] [(2, (.int .i64 (shlI .i64 1 (IntKind.i64.wrap ((s4).tdiv 2)))))] ?_
     refine bindE h2 ?_; clear h2; intro n13 hn14 h2
     refine gv_name (s := 2) (v := (.int .i64 (shlI .i64 1 (IntKind.i64.wrap ((s4).tdiv 2))))) (v' := (.int .i64 n13)) kr (congrArg (Value.int .i64) (sj hn14)) ?_
     refine gv_nil <| gv_cret ?_
     have e := sj h2; subst e
     replace h1 := congrArg some (hR2 _ rfl)
     have e := sj h1; subst e
     replace h0 := cont_inr h0
     have e := sj h0; subst e
     refine gv_ret (gv_done [(.int .i64 n13)] rfl ⟨kr, trivial⟩ ?_)
     exact ⟨grown_of_below hB6, rfl⟩
    ·replace h2 := ite_f hc11 h2
     refine gv_skip <| gv_blk <| gv_region <| pN 3 [3, 6, 7] [(3, (.int .i64 (IntKind.i64.wrap (s4 + 1))))] ?_
     refine gv_nil ?_
     have e := sj h2; subst e
     refine gv_goal fun a hd hs hok => ?_
     have hz15 := hz7
     exact ⟨(IntKind.i64.wrap (s4 + 1)), rfl, hB6, hz15, hd, hs, okp [0, 3] hok⟩
   ·replace h2 := ite_f hc8 h2
    refine gv_cexit <| gv_exit rfl ?_
    have e := sj h2; subst e
    replace h1 := congrArg some (hR2 _ rfl)
    have e := sj h1; subst e
    refine gv_goal fun a hd hs hok => ?_
    have hz16 := hz7
    exact ⟨(), rfl, hB6, hz16, hd, hs, okp [] hok⟩
 ·rintro a w3 ⟨s2, e, hB17, hz18, hd, hs, hok⟩
  subst e
  refine gv_in ?_ hd hs hok
  clear hd hs hok
  replace h0 := cont_inl h0
  refine gv_seq <| gv_region <| pN 1 [2] [(2, (.int .i64 0))] ?_
  refine gv_nil <| gv_cret ?_
  have e := sj h0; subst e
  refine gv_ret (gv_done [(.int .i64 0)] rfl ⟨kr, trivial⟩ ?_)
  exact ⟨grown_of_below hB17, rfl⟩

theorem ref3_trim_ok (fuel : Nat) (pa0_0 : Option Addr) (pc0_0 : Nat) (a_0 : (List Int)) (w0 : World) (X0 : Nat → Prop) (hX0 : ∀ k, X0 k → k < w0.heap.size) (hpa0_0 : Rd (iE .i64) w0 X0 pa0_0 pc0_0 a_0) (r0 : (List Int)) (h0 : ref3_trim fuel a_0 = some r0) :
    Calls Tryz.prog 50 ([(.slice pa0_0 (length a_0) pc0_0)] : List Value).toArray w0 (Ret fun v w' => w0.grownBy w' none ∧ ∃ (a0_0r : Option Addr) (c0_0r : Nat), ∃ (X0_0r : Nat → Prop), v = tup [(.slice a0_0r (length r0) c0_0r)] ∧ Rd (iE .i64) w' X0_0r a0_0r c0_0r r0 ∧ (∀ k, X0_0r k → k < w'.heap.size ∧ (X0 k ∨ w0.heap.size ≤ k))) := by
 have hB0 : Below w0.heap.size w0 w0 := Below.refl _ _
 unfold ref3_trim at h0
 refine calls_run Tryz.func50 rfl Tryz.ntmps50 kr ?_
 refine gv_sub [0] (σ' := [(0, (.slice pa0_0 (length a_0) pc0_0))]) kr ?_
 refine gv_seq <| gv_region <| pN 1 [2] [] ?_
 refine gv_nil <| gv_seq <| bindE h0 ?_; clear h0; intro j1 h1 h0
 refine gv_cut_code (J := fun a w2 => ∃ (a0_0j : Option Addr) (c0_0j : Nat), Below w0.heap.size w0 w2 ∧ w0.heap.size ≤ w2.heap.size ∧ Rd (iE .i64) w0 X0 a0_0j c0_0j j1 ∧ a.defers = [] ∧ a.tmps.size = 21 ∧ Ok [(0, (.slice a0_0j (length j1) c0_0j))] a.tmps) ?_ ?_
 ·skip
  refine gv_block <| gv_loop (A := fun (s3 : (List Int)) a w4 => ∃ (a0_0j : Option Addr) (c0_0j : Nat), Below w0.heap.size w0 w4 ∧ w0.heap.size ≤ w4.heap.size ∧ Rd (iE .i64) w0 X0 a0_0j c0_0j s3 ∧ a.defers = [] ∧ a.tmps.size = 21 ∧ Ok [(0, (.slice a0_0j (length s3) c0_0j))] a.tmps) h1 ?_ ?_
  ·intro a hd hs hok
   exact ⟨pa0_0, pc0_0, hB0, nrf, hpa0_0, hd, hs, okp [0] hok⟩
  ·rintro s3 r2 h2 hR2 a w4 ⟨a7, c8, hB5, hz6, hp9, hd, hs, hok⟩
   refine gv_in ?_ hd hs hok
   clear hd hs hok
   refine gv_seq <| gv_seq <| gv_region <| bindE h2 ?_; clear h2; intro j10 h3 h2
   refine gv_cut_ops (J := fun a w11 => Below w0.heap.size w0 w11 ∧ w4.heap.size ≤ w11.heap.size ∧ a.defers = [] ∧ a.tmps.size = 21 ∧ Ok [(0, (.slice a7 (length s3) c8)), (14, (.bool j10))] a.tmps) ?_ ?_
   ·skip
    refine pN 4 [3, 4, 5, 6] [(6, (.bool (decide (((length s3 : Nat) : Int) > 0))))] ?_
    refine gv_split (s := 6) (g := (decide (((length s3 : Nat) : Int) > 0))) kr (fun hc12 => ?_) (fun hc12 => ?_)
    ·skip
     replace h3 := ite_t hc12 h3
     refine pN 4 [7, 8, 9, 10] [(7, (.slice a7 (length s3) c8)), (10, (.int .i64 (IntKind.i64.wrap (((length s3 : Nat) : Int) - 1))))] ?_
     refine bindE h3 ?_; clear h3; intro x13 hx14 h3
     refine gv_idxaddr (t := 55) (e := 3) (a := a7) (len := length s3) (cap := c8) (kk := .i64) (i := (IntKind.i64.wrap (((length s3 : Nat) : Int) - 1))) (sz := 1) [] (fun e => by cases e) rfl rfl rfl kr kr Tryz.underlying55 kr ((hp9.below hB5 hX0).has hx14) (idx_spec hx14).1 (idx_spec hx14).2.1 rfl ?_
     refine gv_load (t := 3) (A := (elemAddr a7 (((IntKind.i64.wrap (((length s3 : Nat) : Int) - 1)) : Int).toNat * 1))) (.int .i64 x13) [] (fun e => by cases e) rfl rfl rfl kr kr kr (inw0 ((hp9.below hB5 hX0).cell hx14)) rfl ?_
     refine pN 2 [13, 14] [(14, (.bool (x13 == 0)))] ?_
     refine gv_nil ?_
     have e := sj h3; subst e
     refine gv_goal fun a hd hs hok => ?_
     exact ⟨hB5, nrf, hd, hs, okp [0, 14] hok⟩
    ·skip
     replace h3 := ite_f hc12 h3
     refine pN 8 [7, 8, 9, 10, 11, 12, 13, 14] [(14, (.bool false))] ?_
     refine gv_nil ?_
     have e := sj h3; subst e
     refine gv_goal fun a hd hs hok => ?_
     exact ⟨hB5, nrf, hd, hs, okp [0, 14] hok⟩
   ·rintro a w11 ⟨hB15, hz16, hd, hs, hok⟩
    refine gv_in ?_ hd hs hok
    clear hd hs hok
    have hz17 := (nt hz6 hz16)
    refine gv_cond (b := j10) kr (fun hc18 => ?_) (fun hc18 => ?_)
    ·replace h2 := ite_t hc18 h2
     refine gv_skip <| gv_block <| gv_region <| pN 4 [15, 16, 17, 18] [(15, (.slice a7 (length s3) c8)), (18, (.int .i64 (IntKind.i64.wrap (((length s3 : Nat) : Int) - 1))))] ?_
     refine bindE h2 ?_; clear h2; intro x19 hx20 h2
     refine gv_ssl2 (iE .i64) (t := 55) (e := 3) (xs := s3) (a := a7) (cap := c8) (lo := none) (hi := (some (.int .i64 (IntKind.i64.wrap (((length s3 : Nat) : Int) - 1))))) 0 (IntKind.i64.wrap (((length s3 : Nat) : Int) - 1)) x19 (fun e => by cases e) rfl rfl rfl kr kr Tryz.underlying55 kr (.inl ⟨rfl, rfl⟩) (.inr ⟨_, rfl⟩) hx20 (hp9.below hB15 hX0).1 ?_
     intro a21 c22 hsub23
     have hp24 := hsub23 _ _ hp9
     refine pN 1 [0] [(0, (.slice a21 (length x19) c22))] ?_
     refine gv_nil <| gv_blk ?_
     have e := sj h2; subst e
     refine gv_goal fun a hd hs hok => ?_
     have hz25 := hz17
     exact ⟨x19, rfl, a21, c22, hB15, hz25, hp24, hd, hs, okp [0] hok⟩
    ·replace h2 := ite_f hc18 h2
     refine gv_cexit <| gv_exit rfl ?_
     have e := sj h2; subst e
     replace h1 := congrArg some (hR2 _ rfl)
     have e := sj h1; subst e
     refine gv_goal fun a hd hs hok => ?_
     have hz26 := hz17
     exact ⟨a7, c8, hB15, hz26, hp9, hd, hs, okp [0] hok⟩
 ·rintro a w2 ⟨a29, c30, hB27, hz28, hp31, hd, hs, hok⟩
  refine gv_in ?_ hd hs hok
  clear hd hs hok
  refine gv_seq <| gv_region <| pN 2 [2, 20] [(2, (.slice a29 (length j1) c30))] ?_
  refine gv_nil <| gv_cret ?_
  have e := sj h0; subst e
  refine gv_ret (gv_done [(.slice a29 (length j1) c30)] rfl ⟨kr, trivial⟩ ?_)
  exact ⟨grown_of_below hB27, a29, c30, X0, rfl, (hp31.below hB27 hX0), (fun k hk => ⟨(fun k (hk : X0 k) => ltl (hX0 k hk) hB27.size) k hk, (fun k (hk : X0 k) => Or.inl hk) k hk⟩)⟩

theorem ref3_Binary_ok (fuel : Nat) (pa0_0 : Option Addr) (pc0_0 : Nat) (l_0 : (List Bool)) (w0 : World) (X0 : Nat → Prop) (hX0 : ∀ k, X0 k → k < w0.heap.size) (hpa0_0 : Rd tE w0 X0 pa0_0 pc0_0 l_0) (r0 : (List Int)) (h0 : ref3_Binary fuel l_0 = some r0) :
    Calls Tryz.prog 45 ([(.slice pa0_0 (length l_0) pc0_0)] : List Value).toArray w0 (Ret fun v w' => w0.grownBy w' none ∧ ∃ (a0_0r : Option Addr) (c0_0r : Nat), ∃ (X0_0r : Nat → Prop), v = tup [(.slice a0_0r (length r0) c0_0r)] ∧ Rd (iE .i64) w' X0_0r a0_0r c0_0r r0 ∧ (∀ k, X0_0r k → k < w'.heap.size ∧ (X0 k ∨ w0.heap.size ≤ k))) := by
 have hB0 : Below w0.heap.size w0 w0 := Below.refl _ _
 unfold ref3_Binary at h0
 refine calls_run Tryz.func45 rfl Tryz.ntmps45 kr ?_
 refine gv_sub [0] (σ' := [(0, (.slice pa0_0 (length l_0) pc0_0))]) kr ?_
 refine gv_seq <| gv_region <| pN 1 [2] [] ?_
 refine gv_nil <| gv_seq <| gv_region <| pN 1 [3] [(3, (.slice none (length ([] : List Int)) 0))] ?_
 refine gv_nil <| gv_seq <| gv_seq <| gv_region <| pN 1 [4] [(4, (.int .i64 0))] ?_
 refine gv_nil <| bindE h0 ?_; clear h0; intro j1 h1 h0
 refine gv_cut_code (J := fun a w2 => ∃ (a3_0j : Option Addr) (c3_0j : Nat), Below w0.heap.size w0 w2 ∧ w0.heap.size ≤ w2.heap.size ∧ Gv.Own (iE .i64) 3 w2 (fun _ => False) a3_0j c3_0j j1 ∧ (∀ g, blk a3_0j = some g → w0.heap.size ≤ g) ∧ a.defers = [] ∧ a.tmps.size = 41 ∧ Ok [(3, (.slice a3_0j (length j1) c3_0j))] a.tmps) ?_ ?_
 ·skip
  refine gv_block <| gv_loop (A := fun (s3 : ((List Int) × Int)) a w4 => ∃ (a3_0j : Option Addr) (c3_0j : Nat), Below w0.heap.size w0 w4 ∧ w0.heap.size ≤ w4.heap.size ∧ Gv.Own (iE .i64) 3 w4 (fun _ => False) a3_0j c3_0j s3.1 ∧ (∀ g, blk a3_0j = some g → w0.heap.size ≤ g) ∧ a.defers = [] ∧ a.tmps.size = 41 ∧ Ok [(0, (.slice pa0_0 (length l_0) pc0_0)), (3, (.slice a3_0j (length s3.1) c3_0j)), (4, (.int .i64 s3.2))] a.tmps) h1 ?_ ?_
  ·intro a hd hs hok
   exact ⟨none, 0, hB0, nrf, (Gv.Own.nil (iE .i64) 3 w0 (fun _ => False)), (fun _ h => by cases h), hd, hs, okp [0, 3, 4] hok⟩
  ·rintro s3 r2 h2 hR2 a w4 ⟨a7, c8, hB5, hz6, ho9, hl10, hd, hs, hok⟩
   refine gv_in ?_ hd hs hok
   clear hd hs hok
   refine gv_seq <| gv_seq <| gv_region <| pN 4 [7, 8, 9, 10] [(10, (.bool (decide (s3.2 < ((length l_0 : Nat) : Int)))))] ?_
   refine gv_nil <| gv_cond (b := (decide (s3.2 < ((length l_0 : Nat) : Int)))) kr (fun hc11 => ?_) (fun hc11 => ?_)
   ·replace h2 := ite_t hc11 h2
    refine gv_skip <| gv_seq <| gv_block <| gv_seq <| gv_region <| pN 1 [5] [(5, (.int .i64 0))] ?_
    refine gv_nil <| gv_seq <| gv_seq <| gv_region <| pN 1 [6] [(6, (.int .i64 15))] ?_
    refine gv_nil <| bindE h2 ?_; clear h2; intro j12 h3 h2
    refine gv_cut_code (J := fun a w13 => Below w0.heap.size w0 w13 ∧ w4.heap.size ≤ w13.heap.size ∧ Gv.Own (iE .i64) 3 w13 (fun _ => False) a7 c8 s3.1 ∧ a.defers = [] ∧ a.tmps.size = 41 ∧ Ok [(0, (.slice pa0_0 (length l_0) pc0_0)), (3, (.slice a7 (length s3.1) c8)), (4, (.int .i64 s3.2)), (5, (.int .i64 j12))] a.tmps) ?_ ?_
    ·skip
     refine gv_block <| gv_loop (A := fun (s14 : (Int × Int)) a w15 => Below w0.heap.size w0 w15 ∧ w4.heap.size ≤ w15.heap.size ∧ Gv.Own (iE .i64) 3 w15 (fun _ => False) a7 c8 s3.1 ∧ a.defers = [] ∧ a.tmps.size = 41 ∧ Ok [(0, (.slice pa0_0 (length l_0) pc0_0)), (3, (.slice a7 (length s3.1) c8)), (4, (.int .i64 s3.2)), (5, (.int .i64 s14.1)), (6, (.int .i64 s14.2))] a.tmps) h3 ?_ ?_
     ·intro a hd hs hok
      exact ⟨hB5, nrf, ho9, hd, hs, okp [0, 3, 4, 5, 6] hok⟩
     ·rintro s14 r4 h4 hR4 a w15 ⟨hB16, hz17, hk18, hd, hs, hok⟩
      refine gv_in ?_ hd hs hok
      clear hd hs hok
      refine gv_seq <| gv_seq <| gv_region <| pN 2 [13, 14] [(14, (.bool (decide (s14.2 ≥ 0))))] ?_
      refine gv_nil <| gv_cond (b := (decide (s14.2 ≥ 0))) kr (fun hc19 => ?_) (fun hc19 => ?_)
      ·replace h4 := ite_t hc19 h4
       refine gv_skip <| gv_seq <| gv_block <| gv_seq <| gv_region <| pN 3 [5, 17, 18] [(5, (.int .i64 (IntKind.i64.wrap (s14.1 * 2))))] ?_
       refine gv_nil <| gv_seq <| gv_region <| bindE h4 ?_; clear h4; intro j20 h5 h4
       refine gv_cut_ops (J := fun a w21 => Below w0.heap.size w0 w21 ∧ w15.heap.size ≤ w21.heap.size ∧ Gv.Own (iE .i64) 3 w21 (fun _ => False) a7 c8 s3.1 ∧ a.defers = [] ∧ a.tmps.size = 41 ∧ Ok [(0, (.slice pa0_0 (length l_0) pc0_0)), (3, (.slice a7 (length s3.1) c8)), (4, (.int .i64 s3.2)), (5, (.int .i64 (IntKind.i64.wrap (s14.1 * 2)))), (6, (.int .i64 s14.2)), (32, (.bool j20))] a.tmps) ?_ ?_
       ·skip
        refine pN 7 [19, 20, 21, 22, 23, 24, 25] [(25, (.bool (decide ((IntKind.i64.wrap (s3.2 + s14.2)) < ((length l_0 : Nat) : Int)))))] ?_
        refine gv_split (s := 25) (g := (decide ((IntKind.i64.wrap (s3.2 + s14.2)) < ((length l_0 : Nat) : Int)))) kr (fun hc22 => ?_) (fun hc22 => ?_)
        ·skip
         replace h5 := ite_t hc22 h5
         refine pN 4 [26, 27, 28, 29] [(26, (.slice pa0_0 (length l_0) pc0_0)), (29, (.int .i64 (IntKind.i64.wrap (s3.2 + s14.2))))] ?_
         refine bindE h5 ?_; clear h5; intro x23 hx24 h5
         refine gv_idxaddr (t := 87) (e := 4) (a := pa0_0) (len := length l_0) (cap := pc0_0) (kk := .i64) (i := (IntKind.i64.wrap (s3.2 + s14.2))) (sz := 1) [] (fun e => by cases e) rfl rfl rfl kr kr Tryz.underlying87 kr ((hpa0_0.below hB16 hX0).has hx24) (idx_spec hx24).1 (idx_spec hx24).2.1 rfl ?_
         refine gv_load (t := 4) (A := (elemAddr pa0_0 (((IntKind.i64.wrap (s3.2 + s14.2)) : Int).toNat * 1))) (.bool x23) [] (fun e => by cases e) rfl rfl rfl kr kr kr (inw0 ((hpa0_0.below hB16 hX0).cell hx24)) rfl ?_
         refine pN 1 [32] [(32, (.bool x23))] ?_
         refine gv_nil ?_
         have e := sj h5; subst e
         refine gv_goal fun a hd hs hok => ?_
         exact ⟨hB16, nrf, hk18, hd, hs, okp [0, 3, 4, 5, 6, 32] hok⟩
        ·skip
         replace h5 := ite_f hc22 h5
         refine pN 7 [26, 27, 28, 29, 30, 31, 32] [(32, (.bool false))] ?_
         refine gv_nil ?_
         have e := sj h5; subst e
         refine gv_goal fun a hd hs hok => ?_
         exact ⟨hB16, nrf, hk18, hd, hs, okp [0, 3, 4, 5, 6, 32] hok⟩
       ·rintro a w21 ⟨hB25, hz26, hk27, hd, hs, hok⟩
        refine gv_in ?_ hd hs hok
        clear hd hs hok
        have hz28 := (nt hz17 hz26)
        clear hz26 hc19 hk18 hz17 hB16 hc11 ho9 hB5
        refine bindE h4 ?_; clear h4; intro j29 h5 h4
        refine gv_cut_code (J := fun a w30 => Below w0.heap.size w0 w30 ∧ w21.heap.size ≤ w30.heap.size ∧ Gv.Own (iE .i64) 3 w30 (fun _ => False) a7 c8 s3.1 ∧ a.defers = [] ∧ a.tmps.size = 41 ∧ Ok [(0, (.slice pa0_0 (length l_0) pc0_0)), (3, (.slice a7 (length s3.1) c8)), (4, (.int .i64 s3.2)), (5, (.int .i64 j29)), (6, (.int .i64 s14.2))] a.tmps) ?_ ?_
        ·skip
         refine gv_cond (b := j20) kr (fun hc31 => ?_) (fun hc31 => ?_)
         ·replace h5 := ite_t hc31 h5
          refine gv_region <| pN 3 [5, 33, 34] [(5, (.int .i64 (IntKind.i64.wrap ((IntKind.i64.wrap (s14.1 * 2)) + 1))))] ?_
          refine bindE h5 ?_; clear h5; intro n32 hn33 h5
          refine gv_name (s := 5) (v := (.int .i64 (IntKind.i64.wrap ((IntKind.i64.wrap (s14.1 * 2)) + 1)))) (v' := (.int .i64 n32)) kr (congrArg (Value.int .i64) (sj hn33)) ?_
          refine gv_nil ?_
          have e := sj h5; subst e
          refine gv_goal fun a hd hs hok => ?_
          exact ⟨hB25, nrf, hk27, hd, hs, okp [0, 3, 4, 5, 6] hok⟩
         ·replace h5 := ite_f hc31 h5
          refine gv_skip ?_
          have e := sj h5; subst e
          refine gv_goal fun a hd hs hok => ?_
          exact ⟨hB25, nrf, hk27, hd, hs, okp [0, 3, 4, 5, 6] hok⟩
        ·rintro a w30 ⟨hB34, hz35, hk36, hd, hs, hok⟩
         refine gv_in ?_ hd hs hok
         clear hd hs hok
         have hz37 := (nt hz28 hz35)
         clear hz35 hz28 hk27 hB25
         refine gv_blk <| gv_region <| pN 3 [6, 15, 16] [(6, (.int .i64 (IntKind.i64.wrap (s14.2 - 1))))] ?_
         refine gv_nil ?_
         have e := sj h4; subst e
         refine gv_goal fun a hd hs hok => ?_
         have hz38 := hz37
         exact ⟨(j29, (IntKind.i64.wrap (s14.2 - 1))), rfl, hB34, hz38, hk36, hd, hs, okp [0, 3, 4, 5, 6] hok⟩
      ·replace h4 := ite_f hc19 h4
       refine gv_cexit <| gv_exit rfl ?_
       have e := sj h4; subst e
       replace h3 := congrArg some (hR4 _ rfl)
       have e := sj h3; subst e
       refine gv_goal fun a hd hs hok => ?_
       have hz39 := hz17
       exact ⟨hB16, hz39, hk18, hd, hs, okp [0, 3, 4, 5] hok⟩
    ·rintro a w13 ⟨hB40, hz41, hk42, hd, hs, hok⟩
     refine gv_in ?_ hd hs hok
     clear hd hs hok
     have hz43 := (nt hz6 hz41)
     clear hz41 hc11 ho9 hz6 hB5
     refine gv_region <| pN 2 [35, 36] [(35, (.slice a7 (length s3.1) c8)), (36, (.int .i64 j12))] ?_
     refine gv_new0 (fun b => .slice (some ⟨b, 0, none⟩) 1 1) #[(.int .i64 j12)] 3 kr kr ?_
     intro b44 w45 hg46 hb47 hbe48 hz49
     have ho50 : Gv.Own (iE .i64) 3 w45 (fun _ => False) (some ⟨b44, 0, none⟩) 1 ([j12] : List Int) := Box.ownE hb47 ⟨[(.int .i64 j12)], [], rfl, rfl, rfl⟩ (show 1 ≤ maxLen by decide) (fun h => h)
     have hl51 : ∀ g, blk (some ⟨b44, 0, none⟩) = some g → w0.heap.size ≤ g := loo hbe48 hB40.size
     refine bindE h2 ?_; clear h2; intro l55 hx56 h2
     have hk63 := hk42.grown hg46 (fun _ h => h.elim) nb
     refine gv_append (iE .i64) (t := 55) (ty := 55) (e := 3) (a := a7) (ax := (some ⟨b44, 0, none⟩)) (cap := c8) (cx := 1) (xs := s3.1) (ys := ([j12] : List Int)) l55 (X := (fun _ => False)) (Y := (fun k => blk (some ⟨b44, 0, none⟩) = some k)) (by decide) rfl rfl kr kr Tryz.underlying55 info3 hk63 (ho50.rd (Y := fun k => blk (some ⟨b44, 0, none⟩) = some k) (fun _ h => h.elim) (fun g e => e)) hx56 (.inr fun _ _ _ _ _ h => h) (fun _ h => h.elim) ?_
     intro a57 c58 w59 hg60 ho61 hk62
     refine ⟨(fun e => by cases e), ?_⟩
     have hB65 := bg hB40 hg46 nb
     have hl64 : ∀ g, blk a57 = some g → w0.heap.size ≤ g := blk_step hk62 hl10 hB65.size
     have ap67 : ∀ g, blk a7 = some g → ¬ (fun k => blk (some ⟨b44, 0, none⟩) = some k) g := fun g e hx => nl ((lowo hbe48) _ hx) ((fun k (hk : blk a7 = some k) => hk42.lt k hk) g e)
     have ap66 : ∀ g, blk a57 = some g → ¬ (fun k => blk (some ⟨b44, 0, none⟩) = some k) g := blk_neX hk62 ap67 (fun k (hk : blk (some ⟨b44, 0, none⟩) = some k) => ho50.lt k hk)
     have ap69 : ∀ g, blk (some ⟨b44, 0, none⟩) = some g → ¬ (fun k => blk a7 = some k) g := fun g e hx => nl ((lowo hbe48) g e) ((fun k (hk : blk a7 = some k) => hk42.lt k hk) _ hx)
     have ap68 : ∀ g, blk (some ⟨b44, 0, none⟩) = some g → ¬ (fun k => blk a57 = some k) g := fun g e h => blk_rev hk62 (fun h => ((ap69) g e) h) (ho50.lt g e) h
     refine pN 1 [3] [(3, (.slice a57 (length l55) c58))] ?_
     refine gv_nil <| gv_blk <| gv_region <| pN 3 [4, 11, 12] [(4, (.int .i64 (IntKind.i64.wrap (s3.2 + 16))))] ?_
     refine gv_nil ?_
     have e := sj h2; subst e
     refine gv_goal fun a hd hs hok => ?_
     have hB70 := bg hB65 hg60 hl10
     have hz71 := (nt (nt hz43 hg46.size) hg60.size)
     exact ⟨(l55, (IntKind.i64.wrap (s3.2 + 16))), rfl, a57, c58, hB70, hz71, ho61, hl64, hd, hs, okp [0, 3, 4] hok⟩
   ·replace h2 := ite_f hc11 h2
    refine gv_cexit <| gv_exit rfl ?_
    have e := sj h2; subst e
    replace h1 := congrArg some (hR2 _ rfl)
    have e := sj h1; subst e
    refine gv_goal fun a hd hs hok => ?_
    have hz72 := hz6
    exact ⟨a7, c8, hB5, hz72, ho9, hl10, hd, hs, okp [3] hok⟩
 ·rintro a w2 ⟨a75, c76, hB73, hz74, ho77, hl78, hd, hs, hok⟩
  refine gv_in ?_ hd hs hok
  clear hd hs hok
  refine gv_seq <| gv_region <| pN 1 [39] [(39, (.slice a75 (length j1) c76))] ?_
  refine bindE h0 ?_; clear h0; intro r79 hr80 h0
  refine gv_call0 kr rfl kr enters50 (ref3_trim_ok fuel a75 c76 j1 w2 (fun k => (fun k => blk a75 = some k) k) (fun k hk => (fun k (hk : blk a75 = some k) => ho77.lt k hk) k hk) ((ho77.rd (Y := fun k => blk a75 = some k) (fun _ h => h.elim) (fun g e => e)).wide (fun k hk => hk)) r79 hr80) ?_
  rintro v83 w81 ⟨hg82, a84, c85, X87, rfl, ho86, hx88⟩
  have hx89 : ∀ k, X87 k → k < w81.heap.size := fun k hk => (hx88 k hk).1
  have hx90 : ∀ k, X87 k → X0 k ∨ w0.heap.size ≤ k := fun k hk => (hx88 k hk).2.elim (fun h => (fun k (hk : blk a75 = some k) => Or.inr (hl78 k hk)) k h) (fun h => .inr (Nat.le_trans hB73.size h))
  refine pN 1 [2] [(2, (.slice a84 (length r79) c85))] ?_
  refine gv_nil <| gv_cret ?_
  have e := sj h0; subst e
  refine gv_ret (gv_done [(.slice a84 (length r79) c85)] rfl ⟨kr, trivial⟩ ?_)
  have hB91 := bg hB73 hg82 nb
  exact ⟨grown_of_below hB91, a84, c85, X87, rfl, ho86, (fun k hk => ⟨hx89 k hk, hx90 k hk⟩)⟩

theorem ref3_Number_ok (fuel : Nat) (n_0 : Int) (w0 : World)  (r0 : (Bool × (List Int))) (h0 : ref3_Number fuel n_0 = some r0) :
    Calls Tryz.prog 20 ([(.int .i64 n_0)] : List Value).toArray w0 (Ret fun v w' => w0.grownBy w' none ∧ ∃ (a0_0r : Option Addr) (c0_0r : Nat), ∃ (X0_0r : Nat → Prop), v = tup [(.agg #[(.bool r0.1), (.slice a0_0r (length r0.2) c0_0r)])] ∧ Rd (iE .i64) w' X0_0r a0_0r c0_0r r0.2 ∧ (∀ k, X0_0r k → k < w'.heap.size ∧ ((fun _ => False) k ∨ w0.heap.size ≤ k))) := by
 have hB0 : Below w0.heap.size w0 w0 := Below.refl _ _
 unfold ref3_Number at h0
 refine calls_run Tryz.func20 rfl Tryz.ntmps20 kr ?_
 refine gv_sub [0] (σ' := [(0, (.int .i64 n_0))]) kr ?_
 refine gv_seq <| gv_region <| gv_new0 (fun b => .pointer (some ⟨b, 0, none⟩)) #[(.bool false), (.slice none (length ([] : List Int)) 0)] 57 kr kr ?_
 intro b1 w2 hg3 hb4 hbe5 hz6
 refine gv_nil <| gv_seq <| gv_region <| pN 1 [3] [(3, (.slice none (length ([] : List Bool)) 0))] ?_
 refine gv_nil <| gv_seq <| gv_region <| pN 3 [4, 5, 6] [(4, (.bool (decide (n_0 < 0))))] ?_
 refine gv_nil <| gv_seq <| bindE h0 ?_; clear h0; intro j7 h1 h0
 refine gv_cut_code (J := fun a w8 => ∃ (a3_0j : Option Addr) (c3_0j : Nat), Below w0.heap.size w0 w8 ∧ w2.heap.size ≤ w8.heap.size ∧ Gv.Own tE 4 w8 (fun _ => False) a3_0j c3_0j j7 ∧ (∀ g, blk a3_0j = some g → w0.heap.size ≤ g) ∧ (∀ g, blk a3_0j = some g → ¬ (· = b1) g) ∧ ¬ (fun k => blk a3_0j = some k) b1 ∧ Box w8 b1 57 #[(.bool false), (.slice none (length ([] : List Int)) 0)] ∧ a.defers = [] ∧ a.tmps.size = 21 ∧ Ok [(2, (bp b1)), (3, (.slice a3_0j (length j7) c3_0j)), (4, (.bool (decide (n_0 < 0))))] a.tmps) ?_ ?_
 ·skip
  refine gv_block <| gv_loop (A := fun (s9 : (Int × (List Bool))) a w10 => ∃ (a3_0j : Option Addr) (c3_0j : Nat), Below w0.heap.size w0 w10 ∧ w2.heap.size ≤ w10.heap.size ∧ Gv.Own tE 4 w10 (fun _ => False) a3_0j c3_0j s9.2 ∧ (∀ g, blk a3_0j = some g → w0.heap.size ≤ g) ∧ (∀ g, blk a3_0j = some g → ¬ (· = b1) g) ∧ ¬ (fun k => blk a3_0j = some k) b1 ∧ Box w10 b1 57 #[(.bool false), (.slice none (length ([] : List Int)) 0)] ∧ a.defers = [] ∧ a.tmps.size = 21 ∧ Ok [(0, (.int .i64 s9.1)), (2, (bp b1)), (3, (.slice a3_0j (length s9.2) c3_0j)), (4, (.bool (decide (n_0 < 0))))] a.tmps) h1 ?_ ?_
  ·intro a hd hs hok
   have hB11 := bg hB0 hg3 nb
   exact ⟨none, 0, hB11, nrf, (Gv.Own.nil tE 4 w2 (fun _ => False)), (fun _ h => by cases h), (fun _ h => by cases h), (fun h => by cases h), hb4, hd, hs, okp [0, 2, 3, 4] hok⟩
  ·rintro s9 r2 h2 hR2 a w10 ⟨a14, c15, hB12, hz13, ho16, hl17, ap18, ap19, hb20, hd, hs, hok⟩
   refine gv_in ?_ hd hs hok
   clear hd hs hok
   refine gv_seq <| gv_seq <| gv_region <| pN 2 [7, 8] [(8, (.bool (s9.1 != 0)))] ?_
   refine gv_nil <| gv_cond (b := (s9.1 != 0)) kr (fun hc21 => ?_) (fun hc21 => ?_)
   ·replace h2 := ite_t hc21 h2
    refine gv_skip <| gv_block <| gv_seq <| gv_region <| pN 4 [9, 10, 11, 12] [(9, (.slice a14 (length s9.2) c15)), (12, (.bool (((s9.1).tmod 2) != 0)))] ?_
    refine gv_new0 (fun b => .slice (some ⟨b, 0, none⟩) 1 1) #[(.bool (((s9.1).tmod 2) != 0))] 4 kr kr ?_
    intro b22 w23 hg24 hb25 hbe26 hz27
    have ho28 : Gv.Own tE 4 w23 (fun _ => False) (some ⟨b22, 0, none⟩) 1 ([(((s9.1).tmod 2) != 0)] : List Bool) := Box.ownE hb25 ⟨[(.bool (((s9.1).tmod 2) != 0))], [], rfl, rfl, rfl⟩ (show 1 ≤ maxLen by decide) (fun h => h)
    have hl29 : ∀ g, blk (some ⟨b22, 0, none⟩) = some g → w0.heap.size ≤ g := loo hbe26 hB12.size
    refine bindE h2 ?_; clear h2; intro l33 hx34 h2
    have hk41 := ho16.grown hg24 (fun _ h => h.elim) nb
    refine gv_append tE (t := 87) (ty := 87) (e := 4) (a := a14) (ax := (some ⟨b22, 0, none⟩)) (cap := c15) (cx := 1) (xs := s9.2) (ys := ([(((s9.1).tmod 2) != 0)] : List Bool)) l33 (X := (fun _ => False)) (Y := (fun k => blk (some ⟨b22, 0, none⟩) = some k)) (by decide) rfl rfl kr kr Tryz.underlying87 info4 hk41 (ho28.rd (Y := fun k => blk (some ⟨b22, 0, none⟩) = some k) (fun _ h => h.elim) (fun g e => e)) hx34 (.inr fun _ _ _ _ _ h => h) (fun _ h => h.elim) ?_
    intro a35 c36 w37 hg38 ho39 hk40
    refine ⟨(fun e => by cases e), ?_⟩
    have hB43 := bg hB12 hg24 nb
    have hl42 : ∀ g, blk a35 = some g → w0.heap.size ≤ g := blk_step hk40 hl17 hB43.size
    have hk45 := hb20.grown hg24 nb
    have ap44 : ∀ g, blk a35 = some g → ¬ (· = b1) g := blk_neX hk40 ap18 (ltb hk45)
    have ap46 : ¬ (fun k => blk a35 = some k) b1 := fun h => blk_rev hk40 (fun h => (ap19) h) (hk45.lt) h
    have ap48 : ∀ g, blk a14 = some g → ¬ (fun k => blk (some ⟨b22, 0, none⟩) = some k) g := fun g e hx => nl ((lowo hbe26) _ hx) ((fun k (hk : blk a14 = some k) => ho16.lt k hk) g e)
    have ap47 : ∀ g, blk a35 = some g → ¬ (fun k => blk (some ⟨b22, 0, none⟩) = some k) g := blk_neX hk40 ap48 (fun k (hk : blk (some ⟨b22, 0, none⟩) = some k) => ho28.lt k hk)
    have ap50 : ∀ g, blk (some ⟨b22, 0, none⟩) = some g → ¬ (fun k => blk a14 = some k) g := fun g e hx => nl ((lowo hbe26) g e) ((fun k (hk : blk a14 = some k) => ho16.lt k hk) _ hx)
    have ap49 : ∀ g, blk (some ⟨b22, 0, none⟩) = some g → ¬ (fun k => blk a35 = some k) g := fun g e h => blk_rev hk40 (fun h => ((ap50) g e) h) (ho28.lt g e) h
    refine pN 1 [3] [(3, (.slice a35 (length l33) c36))] ?_
    refine gv_nil <| gv_region <| pN 3 [0, 15, 16] [(0, (.int .i64 (IntKind.i64.wrap ((s9.1).tdiv 2))))] ?_
    refine gv_nil <| gv_blk ?_
    have e := sj h2; subst e
    refine gv_goal fun a hd hs hok => ?_
    have hB51 := bg hB43 hg38 hl17
    have hz52 := (nt (nt hz13 hg24.size) hg38.size)
    have hk53 := hk45.grown hg38 ap18
    exact ⟨((IntKind.i64.wrap ((s9.1).tdiv 2)), l33), rfl, a35, c36, hB51, hz52, ho39, hl42, ap44, ap46, hk53, hd, hs, okp [0, 2, 3, 4] hok⟩
   ·replace h2 := ite_f hc21 h2
    refine gv_cexit <| gv_exit rfl ?_
    have e := sj h2; subst e
    replace h1 := congrArg some (hR2 _ rfl)
    have e := sj h1; subst e
    refine gv_goal fun a hd hs hok => ?_
    have hz54 := hz13
    exact ⟨a14, c15, hB12, hz54, ho16, hl17, ap18, ap19, hb20, hd, hs, okp [2, 3, 4] hok⟩
 ·rintro a w8 ⟨a57, c58, hB55, hz56, ho59, hl60, ap61, ap62, hb63, hd, hs, hok⟩
  refine gv_in ?_ hd hs hok
  clear hd hs hok
  clear hz56 hz6 hb4 hg3
  refine gv_seq <| gv_region <| pN 2 [17, 18] [(17, (.bool (decide (n_0 < 0)))), (18, (.slice a57 (length j7) c58))] ?_
  refine bindE h0 ?_; clear h0; intro r64 hr65 h0
  refine gv_call0 kr rfl kr enters45 (ref3_Binary_ok fuel a57 c58 j7 w8 (fun k => (fun k => blk a57 = some k) k) (fun k hk => (fun k (hk : blk a57 = some k) => ho59.lt k hk) k hk) ((ho59.rd (Y := fun k => blk a57 = some k) (fun _ h => h.elim) (fun g e => e)).wide (fun k hk => hk)) r64 hr65) ?_
  rintro v68 w66 ⟨hg67, a69, c70, X72, rfl, ho71, hx73⟩
  have hx74 : ∀ k, X72 k → k < w66.heap.size := fun k hk => (hx73 k hk).1
  have hx75 : ∀ k, X72 k → (fun _ => False) k ∨ w0.heap.size ≤ k := fun k hk => (hx73 k hk).2.elim (fun h => (fun k (hk : blk a57 = some k) => Or.inr (hl60 k hk)) k h) (fun h => .inr (Nat.le_trans hB55.size h))
  refine pN 1 [20] [(20, (.agg #[(.bool (decide (n_0 < 0))), (.slice a69 (length r64) c70)]))] ?_
  have hk80 := hb63.grown hg67 nb
  refine gv_store0 57 0 (.agg #[(.bool (decide (n_0 < 0))), (.slice a69 (length r64) c70)]) #[(.bool (decide (n_0 < 0))), (.slice a69 (length r64) c70)] hk80 kr kr kr ?_
  intro w76 hg77 hb78 hz79
  refine gv_nil <| gv_cret ?_
  have e := sj h0; subst e
  refine gv_ret (gv_done [(.agg #[(.bool (decide (n_0 < 0))), (.slice a69 (length r64) c70)])] rfl ⟨⟨⟨b1, 0, none⟩, kr, run_loadVar_row w76 b1 _ 57 _ _ _ hb78 Tryz.underlying57 rfl kr⟩, trivial⟩ ?_)
  have hB81 := bg hB55 hg67 nb
  have hlo82 : w0.heap.size ≤ b1 := lob hbe5 hB0.size
  have hB83 := bg hB81 hg77 (rowlo hlo82)
  have ap84 : ¬ X72 b1 := fun h => ((hx73 _ h).2.elim (fun h => (ap62)  h) (fun h => nl h (hb63.lt)))
  have hk85 := ho71.grown hg77 hx74 (rowne ap84)
  have hx86 := ltx hx74 hg77.size
  exact ⟨grown_of_below hB83, a69, c70, X72, rfl, hk85, (fun k hk => ⟨hx86 k hk, hx75 k hk⟩)⟩

end Go.Proofs.YtdpmkphjcjacfaaGreatDoor
