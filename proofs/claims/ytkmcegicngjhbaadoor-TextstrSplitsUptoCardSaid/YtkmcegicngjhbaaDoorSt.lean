import Derived.Test.YtkmcegicngjhbaaDoorProg
import Derived.Shelf.LaysM
import Derived.Shelf.Strings.LastIndexAll
import Derived.Shelf.Strings.Repeat
import Derived.Shelf.Strings.FieldsFuncGrows
import Derived.Shelf.Strings.OnBuilder
import Derived.Shelf.Strings.Replace
import Derived.Shelf.Strings.Split
import Derived.Test.YtkmcegicngjhbaaDoorGs
set_option linter.all false
namespace Go.Gv
open Go.RowKit
/-- A row just laid, of which the first cells are in use. -/
theorem own_alloc {α : Type} {f : α → Value} {hf : ∀ x, (f x).oneCell' = true} {w : World} {b : Nat} {e : TypeId} {cs : Array Value} {cap : Nat} {xs : List α} (h : Box w b e cs) (hc : cs.size = cap) (hx : cs.toList.take xs.length = xs.map f)
    (hn : xs.length ≤ cap) (hl : cap ≤ maxLen) : Own (flat f hf) e w (fun _ => False) (some ⟨b, 0, none⟩) cap xs := by
  refine ⟨xs.map f, ⟨by simp [flat], .inr ⟨b, cap, cs, rfl, Nat.zero_le _, h, hn, hl, by simp [flat, hc], ?_⟩⟩, fun i x hi => ?_, fun _ _ h => h⟩
  · show List.take (xs.length * 1) cs.toList = xs.map f
    rw [Nat.mul_one]; exact hx
  · show List.take 1 (List.drop (i * 1) (List.map f xs)) = [f x]
    obtain ⟨hlt, hx'⟩ := List.getElem?_eq_some_iff.1 hi
    rw [Nat.mul_one, ← List.map_drop, ← List.map_take, List.drop_eq_getElem_cons hlt, hx']
    rfl
theorem rows_base {w : World} {B e sz : Nat} {v : Value} {n : Nat} {xs : List Value} (h : w.ownsRow B e sz v n xs) : w.ownsRow 0 e sz v n xs := by
  refine ⟨h.1, ?_⟩
  rcases h.2 with h | ⟨g, cap, cur, h1, _, h3⟩
  · exact .inl h
  · exact .inr ⟨g, cap, cur, h1, Nat.zero_le _, h3⟩
theorem own_rows {w : World} {e : TypeId} {a : Option Addr} {cap n : Nat} {xs : List ByteArray} (h : w.ownsRow 0 e 1 (.slice a n cap) n (xs.map Value.string)) (hn : n = xs.length) : Own sE e w (fun _ => False) a cap xs := by
  subst hn
  refine ⟨_, h, fun i x hi => ?_, fun _ _ h => h⟩
  show List.take 1 (List.drop (i * 1) (List.map Value.string xs)) = [.string x]
  obtain ⟨hlt, hx'⟩ := List.getElem?_eq_some_iff.1 hi
  rw [Nat.mul_one, ← List.map_drop, ← List.map_take, List.drop_eq_getElem_cons hlt, hx']
  rfl
end Go.Gv
namespace Go.Proofs.YtkmcegicngjhbaaDoor
open Go.Gv Go.Gv.D Go.Shelf Go.RowKit
set_option maxRecDepth 1000000
def renT : Ren := ⟨fun n => if n = 143 then 71 else if n = 219 then 93 else if n = 217 then 118 else if n = 225 then 119 else if n = 224 then 120 else if n = 267 then 121 else if n = 266 then 134 else if n = 314 then 135 else if n = 148 then 72 else if n = 222 then 94 else if n = 223 then 95 else if n = 269 then 122 else if n = 138 then 74 else if n = 195 then 73 else if n = 218 then 96 else if n = 146 then 80 else if n = 221 then 106 else if n = 268 then 130 else if n = 197 then 102 else if n = 260 then 126 else if n = 147 then 81 else if n = 154 then 78 else if n = 165 then 99 else if n = 166 then 100 else if n = 169 then 101 else if n = 240 then 124 else if n = 241 then 125 else if n = 276 then 136 else if n = 277 then 137 else if n = 105 then 79 else if n = 212 then 103 else if n = 99 then 104 else if n = 170 then 105 else if n = 263 then 127 else if n = 264 then 128 else if n = 206 then 129 else if n = 156 then 77 else if n = 229 then 59 else if n = 167 then 116 else if n = 168 then 114 else if n = 242 then 133 else if n = 278 then 139 else n,
  fun n => if n = 46 then 123 else if n = 146 then 138 else if n = 51 then 137 else if n = 31 then 22 else if n = 105 then 121 else if n = 119 then 141 else if n = 139 then 144 else if n = 138 then 143 else if n = 72 then 114 else if n = 76 then 118 else if n = 70 then 112 else if n = 37 then 82 else if n = 75 then 117 else if n = 127 then 145 else if n = 164 then 152 else if n = 80 then 120 else if n = 109 then 124 else if n = 53 then 147 else if n = 40 then 75 else if n = 152 then 103 else if n = 154 then 105 else n,
  fun n => if n = 1 then 0 else if n = 3 then 1 else if n = 4 then 2 else n⟩

theorem lays143 : Lays.n143 Tryd.prog renT := by constructor <;> first | kernel_rfl | (intro w; kernel_rfl)
theorem lays148 : Lays.n148 Tryd.prog renT := by constructor <;> first | kernel_rfl | (intro w; kernel_rfl)
theorem lays138 : Lays.n138 Tryd.prog renT := by constructor <;> first | kernel_rfl | (intro w; kernel_rfl)
theorem lays146 : Lays.n146 Tryd.prog renT := by constructor <;> first | kernel_rfl | (intro w; kernel_rfl)
theorem lays147 : Lays.n147 Tryd.prog renT := by constructor <;> first | kernel_rfl | (intro w; kernel_rfl)
theorem lays154 : Lays.n154 Tryd.prog renT := by constructor <;> first | kernel_rfl | (intro w; kernel_rfl)
theorem lays105 : Lays.n105 Tryd.prog renT := by constructor <;> first | kernel_rfl | (intro w; kernel_rfl)
theorem lays156 : Lays.n156 Tryd.prog renT := by constructor <;> first | kernel_rfl | (intro w; kernel_rfl)
theorem lays229 : Lays.n229 Tryd.prog renT := by constructor <;> first | kernel_rfl | (intro w; kernel_rfl)
theorem lays165 : Lays.n165 Tryd.prog renT := by constructor <;> first | kernel_rfl | (intro w; kernel_rfl)
theorem lays166 : Lays.n166 Tryd.prog renT := by constructor <;> first | kernel_rfl | (intro w; kernel_rfl)
theorem lays167 : Lays.n167 Tryd.prog renT := by constructor <;> first | kernel_rfl | (intro w; kernel_rfl)
theorem lays168 : Lays.n168 Tryd.prog renT := by constructor <;> first | kernel_rfl | (intro w; kernel_rfl)
theorem lays169 : Lays.n169 Tryd.prog renT := by constructor <;> first | kernel_rfl | (intro w; kernel_rfl)
theorem extraT : Builder.Extra Tryd.prog renT where
  sizeBuilder := by kernel_rfl
  liesBuilder := by kernel_rfl
  t5 := by kernel_rfl
  a5 := by intro w; kernel_rfl
  z5 := by intro w; kernel_rfl
  v5 := by intro w; kernel_rfl
  infoByte := by kernel_rfl
  cellsByte := by kernel_rfl
  sizeByte := by kernel_rfl
  neB5 := by decide
theorem hi9 : (Tryd.prog.info? (renT.t 9)).map (fun i => (i.zero, i.size, i.bytes)) = some (some (.string ByteArray.empty), 1, 16) := by kernel_rfl
theorem hi154 : (Tryd.prog.info? (renT.t 154)).map (fun i => (i.zero, i.size, i.bytes)) = some (some (.agg #[.int .i64 0, .int .i64 0]), 2, 16) := by kernel_rfl
theorem max_cell {gmx : Int} {w : World} {X : Nat → Prop} (h : Rd (iE .i64) w X (some ⟨0, 0, none⟩) 1 [gmx]) : w.cell? ⟨0, 0, none⟩ = some (.int .i64 gmx) := by
  obtain ⟨b, off, c, e, _, hc, hat⟩ := h.2 0 gmx rfl
  cases e
  have hc : c = [.int .i64 gmx] := hc
  subst hc
  have := hat 0 _ rfl
  rwa [add_lit] at this
theorem builder_Grow {b : Nat} {w : World} {n : Int} {x y : Option (List UInt8)} (h : Bld 114 5 w b x) (hy : growB x n = some y) :
    Calls Tryd.prog 99 ([bp b, .int .i64 n] : List Value).toArray w (Ret fun v w' => v = .tuple #[] ∧ Below b w w' ∧ Bld 114 5 w' b y) := bld_Grow lays165 extraT h hy
theorem builder_WriteString {b : Nat} {w : World} {s : ByteArray} {x y : Option (List UInt8)} (h : Bld 114 5 w b x) (hy : wstrB x s = some y) :
    Calls Tryd.prog 100 ([bp b, .string s] : List Value).toArray w (Ret fun v w' => v = .tuple #[.int .i64 s.size, .nilIface] ∧ Below b w w' ∧ Lib.OthersKept 5 (some b) w w' ∧ Bld 114 5 w' b y) := bld_WriteString lays166 extraT h hy
theorem builder_WriteRune {b : Nat} {w : World} {r : Int} {x y : Option (List UInt8)} (h : Bld 114 5 w b x) (hy : wruneB x r = some y) :
    Calls Tryd.prog 114 ([bp b, .int .i32 r] : List Value).toArray w (Ret fun v w' => v = .tuple #[.int .i64 ((Lib.runeCells r).length : Nat), .nilIface] ∧ Below b w w' ∧ Lib.OthersKept 5 (some b) w w' ∧ Bld 114 5 w' b y) := bld_WriteRune lays168 extraT h hy
theorem builder_WriteByte {b : Nat} {w : World} {c : Int} {x y : Option (List UInt8)} (h : Bld 114 5 w b x) (hy : wbyteB x c = some y) :
    Calls Tryd.prog 116 ([bp b, .int .u8 c] : List Value).toArray w (Ret fun v w' => v = .nilIface ∧ Below b w w' ∧ Lib.OthersKept 5 (some b) w w' ∧ Bld 114 5 w' b y) := bld_WriteByte lays167 extraT h hy
theorem builder_String {b : Nat} {w : World} {s : ByteArray} {x : Option (List UInt8)} (h : Bld 114 5 w b x) (hy : strB x = some s) :
    Calls Tryd.prog 101 ([bp b] : List Value).toArray w (Ret fun v w' => v = .string s ∧ Below b w w' ∧ Lib.OthersKept 5 (some b) w w') := bld_String lays169 extraT h hy
theorem builder_Cap {b : Nat} {w : World} {x : Option (List UInt8)} (h : Bld 114 5 w b x) :
    Calls Tryd.prog 115 ([bp b] : List Value).toArray w (Ret fun v w' => ∃ c : Nat, v = tup [.int .i64 (c : Int)] ∧ ((c : Int) == 0) = x.isNone ∧ w' = w) := by
  have hcell : ∃ a n c, w.cell? ⟨b, 1, none⟩ = some (.slice a n c) ∧ ((c : Int) == 0) = x.isNone := by
    cases x with
    | none => exact ⟨none, 0, 0, Box.cell h 1 rfl, rfl⟩
    | some bs =>
      obtain ⟨_, v, hv, hc⟩ := h
      cases v <;> first | exact absurd hc (Nat.lt_irrefl 0) | skip
      rename_i a n c
      refine ⟨a, n, c, hv, ?_⟩
      have hc : 0 < c := hc
      show ((c : Int) == 0) = false
      exact beq_eq_false_iff_ne.2 (by omega)
  obtain ⟨a, n, c, hc, hx⟩ := hcell
  refine calls_run Tryd.func115 rfl Tryd.ntmps115 (by kernel_rfl) ?_
  refine gv_sub [0] (σ' := [(0, bp b)]) (by kernel_rfl) ?_
  refine gv_seq <| gv_region ?_
  refine gv_pureN 1 [2] [(2, .int .i64 0)] (by kernel_rfl) ?_
  refine gv_nil <| gv_seq <| gv_region ?_
  refine gv_pureN 3 [3, 4, 5] [(5, .pointer (some ⟨b, 1, none⟩))] (by kernel_rfl) ?_
  refine gv_load (t := 82) (A := ⟨b, 1, none⟩) (.slice a n c) [] (fun e => by cases e) rfl rfl rfl (by kernel_rfl) (by kernel_rfl) (by kernel_rfl) (inw0 hc) rfl ?_
  refine gv_pureN 2 [7, 2] [(2, .int .i64 c)] (by kernel_rfl) ?_
  refine gv_nil <| gv_cret ?_
  refine gv_ret (gv_done [.int .i64 c] rfl ⟨(by kernel_rfl), trivial⟩ ?_)
  exact ⟨c, rfl, hx, rfl⟩
theorem strings_Count_ok (fuel : Nat) (s_0 : ByteArray) (substr_1 : ByteArray) (w0 : World) (X0 : Nat → Prop) (hX0 : ∀ k, X0 k → k < w0.heap.size) {gmx : Int} (hG : Rd (iE .i64) w0 X0 (some ⟨0, 0, none⟩) 1 [gmx]) (r0 : Int) (h0 : strings_Count fuel s_0 substr_1 = some r0) :
    Calls Tryd.prog 74 ([(.string s_0), (.string substr_1)] : List Value).toArray w0 (Ret fun v w' => w0.grownBy w' none ∧ v = tup [(.int .i64 r0)]) := by
  unfold strings_Count at h0
  split at h0
  · rename_i hb
    cases h0
    refine (Any.strings_Count_any lays138 s_0 substr_1 gmx w0 hb.1 (max_cell hG) hb.2).mono fun e w' ⟨he, hw⟩ => ?_
    subst he hw
    exact ⟨World.grownBy.refl _ _, rfl⟩
  · cases h0
theorem strings_Index_ok (fuel : Nat) (s_0 : ByteArray) (substr_1 : ByteArray) (w0 : World) (X0 : Nat → Prop) (hX0 : ∀ k, X0 k → k < w0.heap.size) {gmx : Int} (hG : Rd (iE .i64) w0 X0 (some ⟨0, 0, none⟩) 1 [gmx]) (r0 : Int) (h0 : strings_Index fuel s_0 substr_1 = some r0) :
    Calls Tryd.prog 71 ([(.string s_0), (.string substr_1)] : List Value).toArray w0 (Ret fun v w' => w0.grownBy w' none ∧ v = tup [(.int .i64 r0)]) := by
  unfold strings_Index at h0
  split at h0
  · rename_i hb
    cases h0
    refine (Any.strings_Index lays143 s_0 substr_1 gmx w0 hb (max_cell hG)).mono fun e w' ⟨he, hw⟩ => ?_
    subst he hw
    exact ⟨World.grownBy.refl _ _, rfl⟩
  · cases h0
theorem strings_LastIndex_ok (fuel : Nat) (s_0 : ByteArray) (substr_1 : ByteArray) (w0 : World)  (r0 : Int) (h0 : strings_LastIndex fuel s_0 substr_1 = some r0) :
    Calls Tryd.prog 72 ([(.string s_0), (.string substr_1)] : List Value).toArray w0 (Ret fun v w' => w0.grownBy w' none ∧ v = tup [(.int .i64 r0)]) := by
  unfold strings_LastIndex at h0
  split at h0
  · rename_i hb
    cases h0
    refine (Any.strings_LastIndex lays148 s_0 substr_1 hb w0).mono fun e w' ⟨he, hw⟩ => ?_
    subst he hw
    exact ⟨World.grownBy.refl _ _, rfl⟩
  · cases h0
theorem strings_Replace_ok (fuel : Nat) (s_0 : ByteArray) (old_1 : ByteArray) (new_2 : ByteArray) (n_3 : Int) (w0 : World) (X0 : Nat → Prop) (hX0 : ∀ k, X0 k → k < w0.heap.size) {gmx : Int} (hG : Rd (iE .i64) w0 X0 (some ⟨0, 0, none⟩) 1 [gmx]) (hG1 : Rd bE w0 X0 (some ⟨1, 0, none⟩) 256 utf8First) (hG2 : Rd (prE (iE .u8) (iE .u8)) w0 X0 (some ⟨2, 0, none⟩) 16 utf8Acc) (r0 : ByteArray) (h0 : strings_Replace fuel s_0 old_1 new_2 n_3 = some r0) :
    Calls Tryd.prog 78 ([(.string s_0), (.string old_1), (.string new_2), (.int .i64 n_3)] : List Value).toArray w0 (Ret fun v w' => w0.grownBy w' none ∧ v = tup [(.string r0)]) := by
  unfold strings_Replace at h0
  split at h0
  · rename_i hb
    cases h0
    refine (Any.strings_Replace lays154 extraT s_0 old_1 new_2 n_3 gmx w0 hb.1 (max_cell hG) hb.2.1 hb.2.2).mono fun e w' ⟨he, hw⟩ => ?_
    subst he
    exact ⟨grown_of_below hw, rfl⟩
  · cases h0
theorem strings_Repeat_ok (fuel : Nat) (s_0 : ByteArray) (count_1 : Int) (w0 : World)  (r0 : ByteArray) (h0 : strings_Repeat fuel s_0 count_1 = some r0) :
    Calls Tryd.prog 79 ([(.string s_0), (.int .i64 count_1)] : List Value).toArray w0 (Ret fun v w' => w0.grownBy w' none ∧ v = tup [(.string r0)]) := by
  unfold strings_Repeat at h0
  split at h0
  · rename_i hb
    cases h0
    obtain ⟨c, rfl⟩ : ∃ c : Nat, count_1 = c := ⟨count_1.toNat, by omega⟩
    refine (Any.strings_Repeat lays105 extraT s_0 c w0 (by omega) (by have := hb.2.2; simpa using this)).mono fun e w' ⟨he, hw⟩ => ?_
    subst he
    exact ⟨grown_of_below hw, rfl⟩
  · cases h0
theorem strings_Split_ok (fuel : Nat) (s_0 : ByteArray) (sep_1 : ByteArray) (w0 : World) (X0 : Nat → Prop) (hX0 : ∀ k, X0 k → k < w0.heap.size) {gmx : Int} (hG : Rd (iE .i64) w0 X0 (some ⟨0, 0, none⟩) 1 [gmx]) (hG1 : Rd bE w0 X0 (some ⟨1, 0, none⟩) 256 utf8First) (hG2 : Rd (prE (iE .u8) (iE .u8)) w0 X0 (some ⟨2, 0, none⟩) 16 utf8Acc) (r0 : (List ByteArray)) (h0 : strings_Split fuel s_0 sep_1 = some r0) :
    Calls Tryd.prog 80 ([(.string s_0), (.string sep_1)] : List Value).toArray w0 (Ret fun v w' => w0.grownBy w' none ∧ ∃ (a0_0r : Option Addr) (c0_0r : Nat), v = tup [(.slice a0_0r (List.length r0) c0_0r)] ∧ Gv.Own sE 9 w' (fun _ => False) a0_0r c0_0r r0 ∧ (∀ g, blk a0_0r = some g → w0.heap.size ≤ g)) := by
  unfold strings_Split at h0
  split at h0
  · rename_i hb
    cases h0
    refine (Any.strings_Split lays146 hi9 s_0 sep_1 gmx w0 hb.1 (max_cell hG) hb.2).mono fun e w' ⟨he, hw⟩ => ?_
    subst he hw
    have hlen := (Lib.splitB_all sep_1 hb.2 0 _ s_0 rfl)
    have hle := Lib.countB_le sep_1 hb.2 s_0.size s_0 (Nat.le_refl _)
    refine ⟨grown_alloc w0 _, some ⟨w0.heap.size, 0, none⟩, Lib.countB s_0 sep_1 + 1, by rw [hlen]; rfl, own_alloc (cs := (List.map Value.string (Lib.splitB sep_1 0 (Lib.countB s_0 sep_1) s_0)).toArray) (heap_alloc_new w0 _) (by simp [hlen]) (by rw [List.take_of_length_le]; simp) (by omega) (by have := hb.1; unfold maxLen; omega), fun g hg => by cases hg; exact Nat.le_refl _⟩
  · cases h0
theorem strings_SplitN_ok (fuel : Nat) (s_0 : ByteArray) (sep_1 : ByteArray) (n_2 : Int) (w0 : World) (X0 : Nat → Prop) (hX0 : ∀ k, X0 k → k < w0.heap.size) {gmx : Int} (hG : Rd (iE .i64) w0 X0 (some ⟨0, 0, none⟩) 1 [gmx]) (hG1 : Rd bE w0 X0 (some ⟨1, 0, none⟩) 256 utf8First) (hG2 : Rd (prE (iE .u8) (iE .u8)) w0 X0 (some ⟨2, 0, none⟩) 16 utf8Acc) (r0 : (List ByteArray)) (h0 : strings_SplitN fuel s_0 sep_1 n_2 = some r0) :
    Calls Tryd.prog 81 ([(.string s_0), (.string sep_1), (.int .i64 n_2)] : List Value).toArray w0 (Ret fun v w' => w0.grownBy w' none ∧ ∃ (a0_0r : Option Addr) (c0_0r : Nat), v = tup [(.slice a0_0r (List.length r0) c0_0r)] ∧ Gv.Own sE 9 w' (fun _ => False) a0_0r c0_0r r0 ∧ (∀ g, blk a0_0r = some g → w0.heap.size ≤ g)) := by
  unfold strings_SplitN at h0
  split at h0
  · rename_i hb
    cases h0
    obtain ⟨n, rfl⟩ : ∃ n : Nat, n_2 = n := ⟨n_2.toNat, by omega⟩
    refine (Any.strings_SplitN lays147 hi9 s_0 sep_1 n gmx w0 hb.1 (max_cell hG) hb.2.1 (by omega) (by omega)).mono fun e w' ⟨he, hw⟩ => ?_
    subst he hw
    have hle := Lib.splitB_length_le sep_1 0 (min n (s_0.size + 1) - 1) s_0
    have hle' : (Lib.splitB sep_1 0 (min n (s_0.size + 1) - 1) s_0).length ≤ min n (s_0.size + 1) := by omega
    refine ⟨grown_alloc w0 _, some ⟨w0.heap.size, 0, none⟩, min n (s_0.size + 1), rfl, own_alloc (cs := Lib.cellsOf (Lib.splitB sep_1 0 (min n (s_0.size + 1) - 1) s_0) (min n (s_0.size + 1))) (heap_alloc_new w0 _) (Lib.cellsOf_size hle') ?_ hle' (by have := hb.1; unfold maxLen; omega), fun g hg => by cases hg; exact Nat.le_refl _⟩
    unfold Lib.cellsOf
    simp
  · cases h0
theorem strings_Join_ok (fuel : Nat) (pa0_0 : Option Addr) (pc0_0 : Nat) (elems_0 : (List ByteArray)) (sep_1 : ByteArray) (w0 : World) (X0 : Nat → Prop) (hX0 : ∀ k, X0 k → k < w0.heap.size) (hpa0_0 : Rd sE w0 X0 pa0_0 pc0_0 elems_0) (r0 : ByteArray) (h0 : strings_Join fuel elems_0 sep_1 = some r0) :
    Calls Tryd.prog 77 ([(.slice pa0_0 (List.length elems_0) pc0_0), (.string sep_1)] : List Value).toArray w0 (Ret fun v w' => w0.grownBy w' none ∧ v = tup [(.string r0)]) := by
  unfold strings_Join at h0
  split at h0
  · rename_i hb
    cases h0
    cases elems_0 with
    | nil =>
      refine (Any.strings_Join_none lays156 extraT pa0_0 pc0_0 sep_1 w0).mono fun e w' ⟨he, hw⟩ => ?_
      subst he hw
      exact ⟨World.grownBy.refl _ _, rfl⟩
    | cons x xs =>
      obtain ⟨b, off, c, rfl, hX, _⟩ := hpa0_0.2 0 x rfl
      refine (Any.strings_Join lays156 extraT b off pc0_0 (x :: xs) sep_1 w0 (fun j y hj => ?_) (hX0 b hX) hb.1 hpa0_0.1 hb.2).mono fun e w' ⟨he, hw⟩ => ?_
      · obtain ⟨b', off', c', e', _, hc', hat⟩ := hpa0_0.2 j y hj
        cases e'
        have hc' : c' = [.string y] := hc'
        subst hc'
        have := hat 0 _ rfl
        rw [add_lit] at this
        simpa [sE, flat] using this
      · subst he
        exact ⟨grown_of_below hw, rfl⟩
  · cases h0
end Go.Proofs.YtkmcegicngjhbaaDoor
