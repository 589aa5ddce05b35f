import Derived.Test.YtdpmkphjcjacfaaGreatDoorProg
import Derived.Shelf.LaysM
import Derived.Shelf.LaysC
import Derived.Shelf.Strings.SlTrimAscii
import Derived.Shelf.Strconv.AtoiAll
import Derived.Test.YtdpmkphjcjacfaaGreatDoorGs
import Derived.Test.YtdpmkphjcjacfaaGreatDoorGq
set_option linter.all false
namespace Go.Proofs.YtdpmkphjcjacfaaGreatDoor
open Go.Gv Go.Gv.D Go.Shelf Go.RowKit
set_option maxRecDepth 1000000
def renL : Ren := ⟨fun n => if n = 161 then 76 else if n = 231 then 67 else if n = 227 then 69 else if n = 233 then 70 else if n = 235 then 72 else if n = 228 then 80 else if n = 197 then 81 else if n = 151 then 82 else if n = 260 then 86 else if n = 152 then 87 else if n = 137 then 38 else if n = 119 then 94 else if n = 224 then 95 else if n = 225 then 96 else if n = 217 then 64 else if n = 266 then 79 else n, fun n => if n = 117 then 114 else if n = 116 then 113 else if n = 124 then 117 else if n = 105 then 124 else if n = 119 then 135 else if n = 46 then 110 else if n = 139 then 138 else if n = 138 then 137 else n, fun n => if n = 3 then 1 else if n = 4 then 2 else n⟩
def renT : Ren := ⟨fun n => if n = 160 then 43 else if n = 232 then 68 else if n = 231 then 67 else if n = 227 then 69 else if n = 234 then 71 else if n = 233 then 70 else if n = 236 then 73 else if n = 235 then 72 else if n = 228 then 80 else if n = 271 then 83 else if n = 151 then 82 else if n = 197 then 81 else if n = 120 then 88 else if n = 152 then 87 else if n = 260 then 86 else if n = 137 then 38 else if n = 119 then 94 else if n = 224 then 95 else if n = 225 then 96 else if n = 217 then 64 else if n = 266 then 79 else n, fun n => if n = 117 then 114 else if n = 116 then 113 else if n = 124 then 117 else if n = 105 then 124 else if n = 46 then 110 else if n = 119 then 135 else if n = 139 then 138 else if n = 138 then 137 else n, fun n => if n = 3 then 1 else if n = 4 then 2 else n⟩
def renA : Ren := ⟨fun n => if n = 172 then 77 else if n = 244 then 84 else if n = 245 then 85 else if n = 247 then 89 else if n = 279 then 90 else if n = 280 then 91 else if n = 281 then 92 else if n = 282 then 93 else if n = 287 then 97 else if n = 316 then 98 else if n = 171 then 100 else if n = 205 then 99 else if n = 321 then 101 else if n = 322 then 102 else if n = 243 then 103 else if n = 246 then 104 else if n = 283 then 105 else if n = 284 then 106 else if n = 285 then 107 else if n = 286 then 108 else if n = 129 then 110 else if n = 317 then 109 else if n = 318 then 111 else if n = 319 then 112 else if n = 320 then 113 else if n = 337 then 114 else if n = 338 then 115 else n, fun n => if n = 75 then 120 else if n = 76 then 121 else if n = 167 then 129 else if n = 37 then 23 else if n = 85 then 130 else if n = 168 then 132 else if n = 53 then 100 else if n = 175 then 142 else if n = 46 then 110 else if n = 210 then 146 else if n = 127 then 151 else if n = 145 then 154 else if n = 143 then 152 else if n = 171 then 156 else if n = 173 then 159 else if n = 212 then 162 else if n = 51 then 107 else if n = 213 then 163 else if n = 232 then 167 else if n = 233 then 168 else if n = 80 then 169 else n, fun n => if n = 15 then 3 else if n = 16 then 4 else if n = 17 then 5 else if n = 18 then 6 else if n = 19 then 7 else n⟩
theorem lays161 : Lays.n161 Tryz.prog renL := by constructor <;> first | kernel_rfl | (intro w; kernel_rfl)
theorem lays160 : Lays.n160 Tryz.prog renT := by constructor <;> first | kernel_rfl | (intro w; kernel_rfl)
theorem lays172m : LaysM.n172 Tryz.prog renA := by constructor <;> first | kernel_rfl | (intro w; kernel_rfl) | (constructor <;> first | kernel_rfl | (intro w; kernel_rfl))
theorem lays172 : LaysC.n172 Tryz.prog renA := by constructor <;> first | exact lays172m | kernel_rfl | (intro w; kernel_rfl)
theorem hi116L : (Tryz.prog.info? (renL.t 116)).map (fun i => (i.zero, i.size)) = some (some (.agg (Array.replicate 256 (.bool false))), 256) := by kernel_rfl
theorem hi116T : (Tryz.prog.info? (renT.t 116)).map (fun i => (i.zero, i.size)) = some (some (.agg (Array.replicate 256 (.bool false))), 256) := by kernel_rfl
theorem asciiB_at {s : ByteArray} (h : asciiB s = true) : ∀ (j : Nat) b, s.data.toList[j]? = some b → b.toNat < 128 := fun j b hj => by
  have := List.all_eq_true.1 h b (List.mem_of_getElem? hj)
  exact of_decide_eq_true this
theorem strings_TrimLeft_ok (fuel : Nat) (s_0 cs_1 : ByteArray) (w0 : World) (r0 : ByteArray) (h0 : strings_TrimLeft fuel s_0 cs_1 = some r0) :
    Calls Tryz.prog 76 ([(.string s_0), (.string cs_1)] : List Value).toArray w0 (Ret fun v w' => w0.grownBy w' none ∧ v = tup [(.string r0)]) := by
  unfold strings_TrimLeft at h0
  split at h0
  · rename_i hb
    cases h0
    refine (Any.strings_TrimLeft_laid lays161 hi116L s_0 cs_1 w0 hb.1 (asciiB_at hb.2)).mono fun e w' ⟨he, hw⟩ => ?_
    subst he
    exact ⟨grown_of_below hw, rfl⟩
  · cases h0
theorem strings_Trim_ok (fuel : Nat) (s_0 cs_1 : ByteArray) (w0 : World) (r0 : ByteArray) (h0 : strings_Trim fuel s_0 cs_1 = some r0) :
    Calls Tryz.prog 43 ([(.string s_0), (.string cs_1)] : List Value).toArray w0 (Ret fun v w' => w0.grownBy w' none ∧ v = tup [(.string r0)]) := by
  unfold strings_Trim at h0
  split at h0
  · rename_i hb
    cases h0
    refine (Any.strings_Trim_laid lays160 hi116T s_0 cs_1 w0 hb.1 hb.2.1 (asciiB_at hb.2.2)).mono fun e w' ⟨he, hw⟩ => ?_
    subst he
    exact ⟨grown_of_below hw, rfl⟩
  · cases h0
theorem err_cell {erx : TypeId × Value} {w : World} {X : Nat → Prop} (h : Rd eE w X (some ⟨4, 0, none⟩) 1 [erx]) : w.cell? ⟨4, 0, none⟩ = some (.iface erx.1 erx.2) := by
  obtain ⟨b, off, c, e, _, hc, hat⟩ := h.2 0 erx rfl
  cases e
  have hc : c = [.iface erx.1 erx.2] := hc
  subst hc
  have := hat 0 _ rfl
  rwa [add_lit] at this
theorem strconv_Atoi_ok (fuel : Nat) (s_0 : ByteArray) (w0 : World) (X0 : Nat → Prop) (hX0 : ∀ k, X0 k → k < w0.heap.size) {erx : TypeId × Value} (hG : Rd eE w0 X0 (some ⟨4, 0, none⟩) 1 [erx]) (r0 : Int × Bool) (h0 : strconv_Atoi fuel s_0 = some r0) :
    Calls Tryz.prog 77 ([(.string s_0)] : List Value).toArray w0 (Ret fun v w' => w0.grownBy w' none ∧ ∃ (te : TypeId) (pe : Value), v = tup [(.int .i64 r0.1), (ifE r0.2 te pe)]) := by
  unfold strconv_Atoi at h0
  split at h0
  · rename_i hb
    split at h0
    · rename_i v hv
      cases h0
      refine (Any.strconv_Atoi_ok lays172 s_0 (by omega) v hv w0).mono fun e w' ⟨he, hw⟩ => ?_
      subst he
      refine ⟨?_, 0, .nilIface, rfl⟩
      rcases hw with hw | ⟨t, hw⟩
      · subst hw; exact World.grownBy.refl _ _
      · subst hw; exact grown_of_below (Lib.bytesWorld_below _ _ _)
    · rename_i hv
      cases h0
      refine (Any.strconv_Atoi_range lays172 s_0 hb hv (.iface erx.1 erx.2) w0 (err_cell hG) (Or.inr ⟨_, _, rfl⟩)).mono fun e w' ⟨N, he, _, _, hw⟩ => ?_
      subst he
      exact ⟨grown_of_below hw, _, _, rfl⟩
    · cases h0
  · cases h0
end Go.Proofs.YtdpmkphjcjacfaaGreatDoor
