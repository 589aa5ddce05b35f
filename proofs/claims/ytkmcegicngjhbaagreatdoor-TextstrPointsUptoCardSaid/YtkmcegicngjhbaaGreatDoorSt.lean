import Derived.Test.YtkmcegicngjhbaaGreatDoorProg
import Derived.Shelf.LaysM
import Derived.Shelf.Strings.LastIndexAll
import Derived.Shelf.Strings.Repeat
import Derived.Shelf.Strings.FieldsFuncGrows
import Derived.Shelf.Strings.OnBuilder
import Derived.Shelf.Strings.Replace
import Derived.Shelf.Strings.Split
import Derived.Test.YtkmcegicngjhbaaGreatDoorGs
set_option linter.all false
namespace Go.Gv
open Go.RowKit
/-- A row just laid, of which the first cells are in use. -/
theorem own_alloc {α : Type} {f : α → Value} {hf : ∀ x, (f x).oneCell' = true} {w : World} {b : Nat} {e : TypeId} {cs : Array Value} {cap : Nat} {xs : List α} (h : Box w b e cs) (hc : cs.size = cap) (hx : cs.toList.take xs.length = xs.map f)
    (hn : xs.length ≤ cap) (hl : cap ≤ maxLen) : Own (flat f hf) e w (fun _ => False) (some ⟨b, 0, none⟩) cap xs := by
  refine ⟨xs.map f, ⟨by simp [flat], .inr ⟨b, cap, cs, rfl, Nat.zero_le _, h, hn, hl, by simp [flat, hc], ?_⟩⟩, fun i x hi => ?_, fun _ _ h => h⟩
  · show List.take (xs.length * 1) cs.toList = xs.map f
    rw [Nat.mul_one]; exact hx
  · show List.take 1 (List.drop (i * 1) (List.map f xs)) = [f x]
    obtain ⟨hlt, hx'⟩ := List.getElem?_eq_some_iff.1 hi
    rw [Nat.mul_one, ← List.map_drop, ← List.map_take, List.drop_eq_getElem_cons hlt, hx']
    rfl
theorem rows_base {w : World} {B e sz : Nat} {v : Value} {n : Nat} {xs : List Value} (h : w.ownsRow B e sz v n xs) : w.ownsRow 0 e sz v n xs := by
  refine ⟨h.1, ?_⟩
  rcases h.2 with h | ⟨g, cap, cur, h1, _, h3⟩
  · exact .inl h
  · exact .inr ⟨g, cap, cur, h1, Nat.zero_le _, h3⟩
theorem own_rows {w : World} {e : TypeId} {a : Option Addr} {cap n : Nat} {xs : List ByteArray} (h : w.ownsRow 0 e 1 (.slice a n cap) n (xs.map Value.string)) (hn : n = xs.length) : Own sE e w (fun _ => False) a cap xs := by
  subst hn
  refine ⟨_, h, fun i x hi => ?_, fun _ _ h => h⟩
  show List.take 1 (List.drop (i * 1) (List.map Value.string xs)) = [.string x]
  obtain ⟨hlt, hx'⟩ := List.getElem?_eq_some_iff.1 hi
  rw [Nat.mul_one, ← List.map_drop, ← List.map_take, List.drop_eq_getElem_cons hlt, hx']
  rfl
end Go.Gv
namespace Go.Proofs.YtkmcegicngjhbaaGreatDoor
open Go.Gv Go.Gv.D Go.Shelf Go.RowKit
set_option maxRecDepth 1000000
def renT : Ren := ⟨fun n => if n = 143 then 83 else if n = 219 then 99 else if n = 217 then 103 else if n = 225 then 104 else if n = 224 then 105 else if n = 267 then 106 else if n = 266 then 107 else if n = 314 then 108 else if n = 138 then 82 else if n = 195 then 49 else if n = 218 then 98 else if n = 146 then 42 else if n = 221 then 63 else if n = 268 then 81 else if n = 197 then 84 else if n = 260 then 100 else if n = 147 then 43 else if n = 165 then 69 else if n = 166 then 70 else if n = 169 then 72 else if n = 240 then 93 else if n = 241 then 94 else if n = 276 then 101 else if n = 277 then 102 else if n = 105 then 51 else if n = 212 then 67 else if n = 99 then 68 else if n = 170 then 71 else if n = 263 then 90 else if n = 264 then 91 else if n = 206 then 92 else if n = 229 then 73 else if n = 167 then 88 else if n = 168 then 86 else if n = 242 then 24 else if n = 278 then 39 else n,
  fun n => if n = 46 then 94 else if n = 146 then 135 else if n = 51 then 76 else if n = 31 then 58 else if n = 105 then 128 else if n = 119 then 90 else if n = 139 then 93 else if n = 138 then 92 else if n = 72 then 110 else if n = 76 then 114 else if n = 70 then 108 else if n = 37 then 45 else if n = 75 then 113 else if n = 127 then 139 else if n = 164 then 145 else if n = 80 then 117 else if n = 109 then 105 else if n = 53 then 119 else if n = 40 then 53 else if n = 152 then 140 else if n = 154 then 142 else if n = 22 then 58 else if n = 23 then 28 else if n = 24 then 29 else if n = 25 then 59 else if n = 26 then 63 else if n = 27 then 37 else if n = 28 then 88 else if n = 29 then 34 else if n = 30 then 35 else if n = 33 then 32 else if n = 34 then 61 else if n = 38 then 22 else if n = 39 then 40 else if n = 41 then 47 else if n = 42 then 48 else if n = 45 then 44 else if n = 48 then 38 else if n = 65 then 60 else if n = 69 then 62 else if n = 73 then 79 else if n = 74 then 118 else if n = 77 then 31 else if n = 78 then 82 else if n = 79 then 83 else if n = 81 then 66 else if n = 82 then 45 else if n = 83 then 46 else if n = 89 then 127 else if n = 90 then 85 else if n = 94 then 87 else if n = 95 then 80 else if n = 96 then 81 else if n = 103 then 140 else if n = 104 then 141 else if n = 106 then 102 else if n = 107 then 103 else if n = 108 then 104 else if n = 110 then 144 else if n = 111 then 42 else if n = 112 then 108 else if n = 113 then 109 else if n = 114 then 110 else if n = 115 then 111 else if n = 116 then 112 else if n = 117 then 113 else if n = 118 then 114 else if n = 120 then 117 else if n = 121 then 128 else if n = 122 then 129 else if n = 123 then 94 else if n = 124 then 105 else if n = 125 then 106 else if n = 126 then 107 else if n = 128 then 101 else if n = 131 then 130 else if n = 132 then 131 else if n = 133 then 132 else if n = 134 then 133 else if n = 135 then 134 else if n = 136 then 148 else if n = 137 then 76 else if n = 140 then 89 else if n = 141 then 90 else if n = 142 then 91 else if n = 143 then 92 else if n = 144 then 93 else if n = 145 then 139 else if n = 147 then 119 else if n = 148 then 137 else if n = 149 then 138 else if n = 150 then 126 else if n = 151 then 54 else if n = 153 then 146 else if n = 156 then 150 else if n = 157 then 151 else if n = 158 then 152 else if n = 159 then 153 else if n = 160 then 154 else if n = 161 then 155 else if n = 162 then 156 else if n = 163 then 157 else if n = 165 then 159 else if n = 166 then 160 else if n = 167 then 161 else n,
  fun n => if n = 1 then 2 else if n = 3 then 0 else if n = 4 then 1 else n⟩

theorem lays143 : Lays.n143 Tryz.prog renT := by constructor <;> first | kernel_rfl | (intro w; kernel_rfl)
theorem lays138 : Lays.n138 Tryz.prog renT := by constructor <;> first | kernel_rfl | (intro w; kernel_rfl)
theorem lays146 : Lays.n146 Tryz.prog renT := by constructor <;> first | kernel_rfl | (intro w; kernel_rfl)
theorem lays147 : Lays.n147 Tryz.prog renT := by constructor <;> first | kernel_rfl | (intro w; kernel_rfl)
theorem lays105 : Lays.n105 Tryz.prog renT := by constructor <;> first | kernel_rfl | (intro w; kernel_rfl)
theorem lays229 : Lays.n229 Tryz.prog renT := by constructor <;> first | kernel_rfl | (intro w; kernel_rfl)
theorem lays165 : Lays.n165 Tryz.prog renT := by constructor <;> first | kernel_rfl | (intro w; kernel_rfl)
theorem lays166 : Lays.n166 Tryz.prog renT := by constructor <;> first | kernel_rfl | (intro w; kernel_rfl)
theorem lays167 : Lays.n167 Tryz.prog renT := by constructor <;> first | kernel_rfl | (intro w; kernel_rfl)
theorem lays168 : Lays.n168 Tryz.prog renT := by constructor <;> first | kernel_rfl | (intro w; kernel_rfl)
theorem lays169 : Lays.n169 Tryz.prog renT := by constructor <;> first | kernel_rfl | (intro w; kernel_rfl)
theorem extraT : Builder.Extra Tryz.prog renT where
  sizeBuilder := by kernel_rfl
  liesBuilder := by kernel_rfl
  t5 := by kernel_rfl
  a5 := by intro w; kernel_rfl
  z5 := by intro w; kernel_rfl
  v5 := by intro w; kernel_rfl
  infoByte := by kernel_rfl
  cellsByte := by kernel_rfl
  sizeByte := by kernel_rfl
  neB5 := by decide
theorem hi9 : (Tryz.prog.info? (renT.t 9)).map (fun i => (i.zero, i.size, i.bytes)) = some (some (.string ByteArray.empty), 1, 16) := by kernel_rfl
theorem hi154 : (Tryz.prog.info? (renT.t 154)).map (fun i => (i.zero, i.size, i.bytes)) = some (some (.agg #[.int .i64 0, .int .i64 0]), 2, 16) := by kernel_rfl
theorem max_cell {gmx : Int} {w : World} {X : Nat → Prop} (h : Rd (iE .i64) w X (some ⟨2, 0, none⟩) 1 [gmx]) : w.cell? ⟨2, 0, none⟩ = some (.int .i64 gmx) := by
  obtain ⟨b, off, c, e, _, hc, hat⟩ := h.2 0 gmx rfl
  cases e
  have hc : c = [.int .i64 gmx] := hc
  subst hc
  have := hat 0 _ rfl
  rwa [add_lit] at this
theorem builder_Grow {b : Nat} {w : World} {n : Int} {x y : Option (List UInt8)} (h : Bld 110 5 w b x) (hy : growB x n = some y) :
    Calls Tryz.prog 69 ([bp b, .int .i64 n] : List Value).toArray w (Ret fun v w' => v = .tuple #[] ∧ Below b w w' ∧ Bld 110 5 w' b y) := bld_Grow lays165 extraT h hy
theorem builder_WriteString {b : Nat} {w : World} {s : ByteArray} {x y : Option (List UInt8)} (h : Bld 110 5 w b x) (hy : wstrB x s = some y) :
    Calls Tryz.prog 70 ([bp b, .string s] : List Value).toArray w (Ret fun v w' => v = .tuple #[.int .i64 s.size, .nilIface] ∧ Below b w w' ∧ Lib.OthersKept 5 (some b) w w' ∧ Bld 110 5 w' b y) := bld_WriteString lays166 extraT h hy
theorem builder_WriteRune {b : Nat} {w : World} {r : Int} {x y : Option (List UInt8)} (h : Bld 110 5 w b x) (hy : wruneB x r = some y) :
    Calls Tryz.prog 86 ([bp b, .int .i32 r] : List Value).toArray w (Ret fun v w' => v = .tuple #[.int .i64 ((Lib.runeCells r).length : Nat), .nilIface] ∧ Below b w w' ∧ Lib.OthersKept 5 (some b) w w' ∧ Bld 110 5 w' b y) := bld_WriteRune lays168 extraT h hy
theorem builder_WriteByte {b : Nat} {w : World} {c : Int} {x y : Option (List UInt8)} (h : Bld 110 5 w b x) (hy : wbyteB x c = some y) :
    Calls Tryz.prog 88 ([bp b, .int .u8 c] : List Value).toArray w (Ret fun v w' => v = .nilIface ∧ Below b w w' ∧ Lib.OthersKept 5 (some b) w w' ∧ Bld 110 5 w' b y) := bld_WriteByte lays167 extraT h hy
theorem builder_String {b : Nat} {w : World} {s : ByteArray} {x : Option (List UInt8)} (h : Bld 110 5 w b x) (hy : strB x = some s) :
    Calls Tryz.prog 72 ([bp b] : List Value).toArray w (Ret fun v w' => v = .string s ∧ Below b w w' ∧ Lib.OthersKept 5 (some b) w w') := bld_String lays169 extraT h hy
theorem builder_Cap {b : Nat} {w : World} {x : Option (List UInt8)} (h : Bld 110 5 w b x) :
    Calls Tryz.prog 87 ([bp b] : List Value).toArray w (Ret fun v w' => ∃ c : Nat, v = tup [.int .i64 (c : Int)] ∧ ((c : Int) == 0) = x.isNone ∧ w' = w) := by
  have hcell : ∃ a n c, w.cell? ⟨b, 1, none⟩ = some (.slice a n c) ∧ ((c : Int) == 0) = x.isNone := by
    cases x with
    | none => exact ⟨none, 0, 0, Box.cell h 1 rfl, rfl⟩
    | some bs =>
      obtain ⟨_, v, hv, hc⟩ := h
      cases v <;> first | exact absurd hc (Nat.lt_irrefl 0) | skip
      rename_i a n c
      refine ⟨a, n, c, hv, ?_⟩
      have hc : 0 < c := hc
      show ((c : Int) == 0) = false
      exact beq_eq_false_iff_ne.2 (by omega)
  obtain ⟨a, n, c, hc, hx⟩ := hcell
  refine calls_run Tryz.func87 rfl Tryz.ntmps87 (by kernel_rfl) ?_
  refine gv_sub [0] (σ' := [(0, bp b)]) (by kernel_rfl) ?_
  refine gv_seq <| gv_region ?_
  refine gv_pureN 1 [2] [(2, .int .i64 0)] (by kernel_rfl) ?_
  refine gv_nil <| gv_seq <| gv_region ?_
  refine gv_pureN 3 [3, 4, 5] [(5, .pointer (some ⟨b, 1, none⟩))] (by kernel_rfl) ?_
  refine gv_load (t := 45) (A := ⟨b, 1, none⟩) (.slice a n c) [] (fun e => by cases e) rfl rfl rfl (by kernel_rfl) (by kernel_rfl) (by kernel_rfl) (inw0 hc) rfl ?_
  refine gv_pureN 2 [7, 2] [(2, .int .i64 c)] (by kernel_rfl) ?_
  refine gv_nil <| gv_cret ?_
  refine gv_ret (gv_done [.int .i64 c] rfl ⟨(by kernel_rfl), trivial⟩ ?_)
  exact ⟨c, rfl, hx, rfl⟩
theorem strings_Count_ok (fuel : Nat) (s_0 : ByteArray) (substr_1 : ByteArray) (w0 : World) (X0 : Nat → Prop) (hX0 : ∀ k, X0 k → k < w0.heap.size) {gmx : Int} (hG : Rd (iE .i64) w0 X0 (some ⟨2, 0, none⟩) 1 [gmx]) (r0 : Int) (h0 : strings_Count fuel s_0 substr_1 = some r0) :
    Calls Tryz.prog 82 ([(.string s_0), (.string substr_1)] : List Value).toArray w0 (Ret fun v w' => w0.grownBy w' none ∧ v = tup [(.int .i64 r0)]) := by
  unfold strings_Count at h0
  split at h0
  · rename_i hb
    cases h0
    refine (Any.strings_Count_any lays138 s_0 substr_1 gmx w0 hb.1 (max_cell hG) hb.2).mono fun e w' ⟨he, hw⟩ => ?_
    subst he hw
    exact ⟨World.grownBy.refl _ _, rfl⟩
  · cases h0
theorem strings_Index_ok (fuel : Nat) (s_0 : ByteArray) (substr_1 : ByteArray) (w0 : World) (X0 : Nat → Prop) (hX0 : ∀ k, X0 k → k < w0.heap.size) {gmx : Int} (hG : Rd (iE .i64) w0 X0 (some ⟨2, 0, none⟩) 1 [gmx]) (r0 : Int) (h0 : strings_Index fuel s_0 substr_1 = some r0) :
    Calls Tryz.prog 83 ([(.string s_0), (.string substr_1)] : List Value).toArray w0 (Ret fun v w' => w0.grownBy w' none ∧ v = tup [(.int .i64 r0)]) := by
  unfold strings_Index at h0
  split at h0
  · rename_i hb
    cases h0
    refine (Any.strings_Index lays143 s_0 substr_1 gmx w0 hb (max_cell hG)).mono fun e w' ⟨he, hw⟩ => ?_
    subst he hw
    exact ⟨World.grownBy.refl _ _, rfl⟩
  · cases h0
theorem strings_Repeat_ok (fuel : Nat) (s_0 : ByteArray) (count_1 : Int) (w0 : World)  (r0 : ByteArray) (h0 : strings_Repeat fuel s_0 count_1 = some r0) :
    Calls Tryz.prog 51 ([(.string s_0), (.int .i64 count_1)] : List Value).toArray w0 (Ret fun v w' => w0.grownBy w' none ∧ v = tup [(.string r0)]) := by
  unfold strings_Repeat at h0
  split at h0
  · rename_i hb
    cases h0
    obtain ⟨c, rfl⟩ : ∃ c : Nat, count_1 = c := ⟨count_1.toNat, by omega⟩
    refine (Any.strings_Repeat lays105 extraT s_0 c w0 (by omega) (by have := hb.2.2; simpa using this)).mono fun e w' ⟨he, hw⟩ => ?_
    subst he
    exact ⟨grown_of_below hw, rfl⟩
  · cases h0
theorem strings_Split_ok (fuel : Nat) (s_0 : ByteArray) (sep_1 : ByteArray) (w0 : World) (X0 : Nat → Prop) (hX0 : ∀ k, X0 k → k < w0.heap.size) (hG1 : Rd bE w0 X0 (some ⟨0, 0, none⟩) 256 utf8First) (hG2 : Rd (prE (iE .u8) (iE .u8)) w0 X0 (some ⟨1, 0, none⟩) 16 utf8Acc) {gmx : Int} (hG : Rd (iE .i64) w0 X0 (some ⟨2, 0, none⟩) 1 [gmx]) (r0 : (List ByteArray)) (h0 : strings_Split fuel s_0 sep_1 = some r0) :
    Calls Tryz.prog 42 ([(.string s_0), (.string sep_1)] : List Value).toArray w0 (Ret fun v w' => w0.grownBy w' none ∧ ∃ (a0_0r : Option Addr) (c0_0r : Nat), v = tup [(.slice a0_0r (List.length r0) c0_0r)] ∧ Gv.Own sE 9 w' (fun _ => False) a0_0r c0_0r r0 ∧ (∀ g, blk a0_0r = some g → w0.heap.size ≤ g)) := by
  unfold strings_Split at h0
  split at h0
  · rename_i hb
    cases h0
    refine (Any.strings_Split lays146 hi9 s_0 sep_1 gmx w0 hb.1 (max_cell hG) hb.2).mono fun e w' ⟨he, hw⟩ => ?_
    subst he hw
    have hlen := (Lib.splitB_all sep_1 hb.2 0 _ s_0 rfl)
    have hle := Lib.countB_le sep_1 hb.2 s_0.size s_0 (Nat.le_refl _)
    refine ⟨grown_alloc w0 _, some ⟨w0.heap.size, 0, none⟩, Lib.countB s_0 sep_1 + 1, by rw [hlen]; rfl, own_alloc (cs := (List.map Value.string (Lib.splitB sep_1 0 (Lib.countB s_0 sep_1) s_0)).toArray) (heap_alloc_new w0 _) (by simp [hlen]) (by rw [List.take_of_length_le]; simp) (by omega) (by have := hb.1; unfold maxLen; omega), fun g hg => by cases hg; exact Nat.le_refl _⟩
  · cases h0
theorem strings_SplitN_ok (fuel : Nat) (s_0 : ByteArray) (sep_1 : ByteArray) (n_2 : Int) (w0 : World) (X0 : Nat → Prop) (hX0 : ∀ k, X0 k → k < w0.heap.size) (hG1 : Rd bE w0 X0 (some ⟨0, 0, none⟩) 256 utf8First) (hG2 : Rd (prE (iE .u8) (iE .u8)) w0 X0 (some ⟨1, 0, none⟩) 16 utf8Acc) {gmx : Int} (hG : Rd (iE .i64) w0 X0 (some ⟨2, 0, none⟩) 1 [gmx]) (r0 : (List ByteArray)) (h0 : strings_SplitN fuel s_0 sep_1 n_2 = some r0) :
    Calls Tryz.prog 43 ([(.string s_0), (.string sep_1), (.int .i64 n_2)] : List Value).toArray w0 (Ret fun v w' => w0.grownBy w' none ∧ ∃ (a0_0r : Option Addr) (c0_0r : Nat), v = tup [(.slice a0_0r (List.length r0) c0_0r)] ∧ Gv.Own sE 9 w' (fun _ => False) a0_0r c0_0r r0 ∧ (∀ g, blk a0_0r = some g → w0.heap.size ≤ g)) := by
  unfold strings_SplitN at h0
  split at h0
  · rename_i hb
    cases h0
    obtain ⟨n, rfl⟩ : ∃ n : Nat, n_2 = n := ⟨n_2.toNat, by omega⟩
    refine (Any.strings_SplitN lays147 hi9 s_0 sep_1 n gmx w0 hb.1 (max_cell hG) hb.2.1 (by omega) (by omega)).mono fun e w' ⟨he, hw⟩ => ?_
    subst he hw
    have hle := Lib.splitB_length_le sep_1 0 (min n (s_0.size + 1) - 1) s_0
    have hle' : (Lib.splitB sep_1 0 (min n (s_0.size + 1) - 1) s_0).length ≤ min n (s_0.size + 1) := by omega
    refine ⟨grown_alloc w0 _, some ⟨w0.heap.size, 0, none⟩, min n (s_0.size + 1), rfl, own_alloc (cs := Lib.cellsOf (Lib.splitB sep_1 0 (min n (s_0.size + 1) - 1) s_0) (min n (s_0.size + 1))) (heap_alloc_new w0 _) (Lib.cellsOf_size hle') ?_ hle' (by have := hb.1; unfold maxLen; omega), fun g hg => by cases hg; exact Nat.le_refl _⟩
    unfold Lib.cellsOf
    simp
  · cases h0
end Go.Proofs.YtkmcegicngjhbaaGreatDoor
