import Derived.Test.YtlclmpegnkomcaaDoorProg
import Derived.Shelf.Strings.Replace
import Derived.Shelf.Strings.Split
import Derived.Test.YtlclmpegnkomcaaDoorJn
set_option linter.all false
namespace Go.Proofs.YtlclmpegnkomcaaDoor
open Go.Gv Go.Gv.D Go.Shelf Go.RowKit
set_option maxRecDepth 1000000
def renR : Ren := ⟨fun n => if n = 154 then 52 else if n = 138 then 51 else if n = 165 then 69 else if n = 143 then 68 else if n = 166 then 70 else if n = 197 then 71 else if n = 169 then 72 else if n = 195 then 66 else if n = 218 then 67 else if n = 240 then 83 else if n = 241 then 84 else if n = 219 then 82 else if n = 260 then 85 else if n = 276 then 93 else if n = 277 then 59 else if n = 217 then 90 else if n = 225 then 91 else if n = 224 then 75 else if n = 267 then 92 else if n = 266 then 96 else if n = 314 then 97 else n,
  fun n => if n = 72 then 105 else if n = 76 then 109 else if n = 105 then 98 else if n = 70 then 103 else if n = 37 then 22 else if n = 75 then 108 else if n = 127 then 117 else if n = 164 then 121 else if n = 46 then 71 else if n = 119 then 93 else if n = 139 then 96 else if n = 138 then 95 else if n = 146 then 118 else if n = 51 then 97 else if n = 80 then 112 else n, fun n => if n = 1 then 2 else if n = 3 then 0 else if n = 4 then 1 else n⟩
theorem laysR : Lays.n154 Tryd.prog renR := by
  constructor <;> first | kernel_rfl | (intro w; kernel_rfl)
theorem laysC : Lays.n138 Tryd.prog renR := by
  constructor <;> first | kernel_rfl | (intro w; kernel_rfl)
theorem extraR : Builder.Extra Tryd.prog renR where
  sizeBuilder := by kernel_rfl
  liesBuilder := by kernel_rfl
  t5 := by kernel_rfl
  a5 := by intro w; kernel_rfl
  z5 := by intro w; kernel_rfl
  v5 := by intro w; kernel_rfl
  infoByte := by kernel_rfl
  cellsByte := by kernel_rfl
  sizeByte := by kernel_rfl
  neB5 := by decide
theorem max_cell {gmx : Int} {w : World} {X : Nat → Prop} (h : Rd (iE .i64) w X (some ⟨2, 0, none⟩) 1 [gmx]) : w.cell? ⟨2, 0, none⟩ = some (.int .i64 gmx) := by
  obtain ⟨b, off, c, e, _, hc, hat⟩ := h.2 0 gmx rfl
  cases e
  have hc : c = [.int .i64 gmx] := hc
  subst hc
  have := hat 0 _ rfl
  rwa [add_lit] at this
theorem strings_Count_ok (fuel : Nat) (s_0 : ByteArray) (sep_1 : ByteArray) (w0 : World) (X0 : Nat → Prop) (hX0 : ∀ k, X0 k → k < w0.heap.size) {gmx : Int} (hG2 : Rd (iE .i64) w0 X0 (some ⟨2, 0, none⟩) 1 [gmx]) (r0 : Int) (h0 : strings_Count fuel s_0 sep_1 = some r0) :
    Calls Tryd.prog 51 ([(.string s_0), (.string sep_1)] : List Value).toArray w0 (Ret fun v w' => w0.grownBy w' none ∧ v = tup [(.int .i64 r0)]) := by
  unfold strings_Count at h0
  split at h0
  · rename_i hb
    cases h0
    refine (Any.strings_Count_any laysC s_0 sep_1 gmx w0 hb.1 (max_cell hG2) hb.2).mono fun e w' ⟨he, hw⟩ => ?_
    subst he hw
    exact ⟨World.grownBy.refl _ _, rfl⟩
  · cases h0
theorem strings_Replace_ok (fuel : Nat) (s_0 : ByteArray) (old_1 : ByteArray) (new_2 : ByteArray) (n_3 : Int) (w0 : World) (X0 : Nat → Prop) (hX0 : ∀ k, X0 k → k < w0.heap.size) (hG0 : Rd bE w0 X0 (some ⟨0, 0, none⟩) 256 utf8First) (hG1 : Rd (prE (iE .u8) (iE .u8)) w0 X0 (some ⟨1, 0, none⟩) 16 utf8Acc) {gmx : Int} (hG2 : Rd (iE .i64) w0 X0 (some ⟨2, 0, none⟩) 1 [gmx]) (r0 : ByteArray) (h0 : strings_Replace fuel s_0 old_1 new_2 n_3 = some r0) :
    Calls Tryd.prog 52 ([(.string s_0), (.string old_1), (.string new_2), (.int .i64 n_3)] : List Value).toArray w0 (Ret fun v w' => w0.grownBy w' none ∧ v = tup [(.string r0)]) := by
  unfold strings_Replace at h0
  split at h0
  · rename_i hb
    cases h0
    refine (Any.strings_Replace laysR extraR s_0 old_1 new_2 n_3 gmx w0 hb.1 (max_cell hG2) hb.2.1 hb.2.2).mono fun e w' ⟨he, hw⟩ => ?_
    subst he
    exact ⟨grown_of_below hw, rfl⟩
  · cases h0
end Go.Proofs.YtlclmpegnkomcaaDoor
