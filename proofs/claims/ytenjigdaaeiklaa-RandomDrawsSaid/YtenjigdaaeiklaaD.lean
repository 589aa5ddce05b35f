import Derived.Test.YtenjigdaaeiklaaGd
set_option linter.all false
/- Own work, printed by a program of mine: for each function the plain function that it computes. -/
namespace Go.Gv.D
open Go Go.Gv
/-- brindlewood/integer.Valid -/
def integer_Valid (fuel : Nat) (a_0 : (Bool × (List Int))) : Option Bool :=
  (Option.bind (if (decide (((List.length a_0.2 : Nat) : Int) ≤ 128)) then (if (((List.length a_0.2 : Nat) : Int) == 0) then (if (!a_0.1) then (some (true)) else (if (decide (((List.length a_0.2 : Nat) : Int) > 0)) then (Option.bind (idx a_0.2 (IntKind.i64.wrap (((List.length a_0.2 : Nat) : Int) - 1))) fun x14 => (some ((x14 != 0)))) else (some (false)))) else (if (decide (((List.length a_0.2 : Nat) : Int) > 0)) then (Option.bind (idx a_0.2 (IntKind.i64.wrap (((List.length a_0.2 : Nat) : Int) - 1))) fun x19 => (some ((x19 != 0)))) else (some (false)))) else (some (false))) fun (j7 : Bool) => (some (j7)))

/-- brindlewood/random.at -/
def random_at (fuel : Nat) (code_0 : Int) (index_1 : Int) : Option (Int × Int) :=
  (some ((code_0, index_1)))

/-- brindlewood/random.mix -/
def random_mix (fuel : Nat) (x_0 : Int) : Option Int :=
  (Option.bind (some (IntKind.u64.wrap ((bwXor .u64 x_0 ((x_0).fdiv (2 ^ 30))) * 13787848793156543929))) fun n1 => (Option.bind (some (IntKind.u64.wrap ((bwXor .u64 n1 ((n1).fdiv (2 ^ 27))) * 10723151780598845931))) fun n3 => (some ((bwXor .u64 n3 ((n3).fdiv (2 ^ 31)))))))

/-- brindlewood/random.Seed -/
def random_Seed (fuel : Nat) (n_0 : (Bool × (List Int))) : Option ((Int × Int) × (Int × Int)) :=
  (Option.bind (integer_Valid fuel (n_0.1, n_0.2)) fun r21 => (if (!r21) then (Option.bind (random_at fuel 6 (-1)) fun r29 => (some (((0, 0), (r29.1, r29.2))))) else (Option.bind (some (IntKind.u64.wrap (((List.length n_0.2 : Nat) : Int)))) fun n57 => (Option.bind (if n_0.1 then (some ((bwXor .u64 18446744073709551615 n57))) else (some (n57))) fun (j59 : Int) => (Option.bind (loopN (fun (s77 : (Int × Int)) => (if (decide (s77.2 < ((List.length n_0.2 : Nat) : Int))) then (Option.bind (idx n_0.2 s77.2) fun x84 => (Option.bind (random_mix fuel (IntKind.u64.wrap ((IntKind.u64.wrap ((IntKind.u64.wrap (s77.1 * 6364136223846793005)) + (IntKind.u64.wrap (x84)))) + 1))) fun r86 => (some (.inl (r86, (IntKind.i64.wrap (s77.2 + 1))))))) else (some (.inr (s77.1))))) fuel (j59, 0)) fun (j75 : Int) => (some (((j75, 1442695040888963407), (0, 0)))))))))

/-- brindlewood/random.open -/
def random_open (fuel : Nat) (g_0 : (Int × Int)) : Option ((Option ((Int × Int))) × (Int × Int)) :=
  (if (((g_0.2).tmod 2) == 0) then (Option.bind (random_at fuel 6 (-1)) fun r15 => (some ((none, (r15.1, r15.2))))) else (some (((some (g_0.1, g_0.2)), (0, 0)))))

/-- (*brindlewood/random.source).next -/
def random_source_next (fuel : Nat) (s_0 : ((Int × Int))) : Option (Int × ((Int × Int))) :=
  (Option.bind (random_mix fuel (IntKind.u64.wrap ((IntKind.u64.wrap (s_0.1 * 6364136223846793005)) + s_0.2))) fun r9 => (some ((r9, ((IntKind.u64.wrap ((IntKind.u64.wrap (s_0.1 * 6364136223846793005)) + s_0.2)), s_0.2)))))

/-- brindlewood/random.Next -/
def random_Next (fuel : Nat) (g_0 : (Int × Int)) : Option (Int × (Int × Int) × (Int × Int)) :=
  (Option.bind (random_open fuel (g_0.1, g_0.2)) fun r21 => (optc r21.1 (if (r21.2.1 != 0) then (some ((0, (0, 0), (r21.2.1, r21.2.2)))) else (none)) fun x30 => (if (r21.2.1 != 0) then (some ((0, (0, 0), (r21.2.1, r21.2.2)))) else (Option.bind (random_source_next fuel (x30.1, x30.2)) fun r131 => (some ((r131.1, (r131.2.1, r131.2.2), (0, 0))))))))

/-- brindlewood/random.Skip -/
def random_Skip (fuel : Nat) (g_0 : (Int × Int)) (n_1 : Int) : Option ((Int × Int) × (Int × Int)) :=
  (Option.bind (random_open fuel (g_0.1, g_0.2)) fun r21 => (optc r21.1 (if (r21.2.1 != 0) then (some (((0, 0), (r21.2.1, r21.2.2)))) else (Option.bind (loopN (fun (s90 : (Int × Int × Int × Int × Int)) => (if (decide (s90.1 > 0)) then (Option.bind (if ((bwAnd .u64 s90.1 1) == 1) then (Option.bind (some (IntKind.u64.wrap (s90.2.1 * s90.2.2.2.1))) fun n116 => (Option.bind (some (IntKind.u64.wrap ((IntKind.u64.wrap (s90.2.2.1 * s90.2.2.2.1)) + s90.2.2.2.2))) fun n118 => (some ((n116, n118))))) else (some ((s90.2.1, s90.2.2.1)))) fun (j113 : (Int × Int)) => (Option.bind (some (IntKind.u64.wrap (s90.2.2.2.1 * s90.2.2.2.1))) fun n126 => (Option.bind (some (IntKind.u64.wrap ((IntKind.u64.wrap (s90.2.2.2.2 * s90.2.2.2.1)) + s90.2.2.2.2))) fun n128 => (some (.inl (((s90.1).fdiv (2 ^ 1)), j113.1, j113.2, n126, n128)))))) else (some (.inr ((s90.2.1, s90.2.2.1)))))) fuel (n_1, 1, 0, 6364136223846793005, g_0.2)) fun (j88 : (Int × Int)) => (some ((((IntKind.u64.wrap ((IntKind.u64.wrap (g_0.1 * j88.1)) + j88.2)), g_0.2), (0, 0)))))) fun x30 => (if (r21.2.1 != 0) then (some (((0, 0), (r21.2.1, r21.2.2)))) else (Option.bind (loopN (fun (s212 : (Int × Int × Int × Int × Int)) => (if (decide (s212.1 > 0)) then (Option.bind (if ((bwAnd .u64 s212.1 1) == 1) then (Option.bind (some (IntKind.u64.wrap (s212.2.1 * s212.2.2.2.1))) fun n236 => (Option.bind (some (IntKind.u64.wrap ((IntKind.u64.wrap (s212.2.2.1 * s212.2.2.2.1)) + s212.2.2.2.2))) fun n238 => (some ((n236, n238))))) else (some ((s212.2.1, s212.2.2.1)))) fun (j233 : (Int × Int)) => (Option.bind (some (IntKind.u64.wrap (s212.2.2.2.1 * s212.2.2.2.1))) fun n246 => (Option.bind (some (IntKind.u64.wrap ((IntKind.u64.wrap (s212.2.2.2.2 * s212.2.2.2.1)) + s212.2.2.2.2))) fun n248 => (some (.inl (((s212.1).fdiv (2 ^ 1)), j233.1, j233.2, n246, n248)))))) else (some (.inr ((s212.2.1, s212.2.2.1)))))) fuel (n_1, 1, 0, 6364136223846793005, g_0.2)) fun (j210 : (Int × Int)) => (some ((((IntKind.u64.wrap ((IntKind.u64.wrap (g_0.1 * j210.1)) + j210.2)), g_0.2), (0, 0))))))))

/-- brindlewood/integer.Of -/
def integer_Of (fuel : Nat) (n_0 : Int) : Option (Bool × (List Int)) :=
  (Option.bind (if (decide (n_0 < 0)) then (Option.bind (some (IntKind.u64.wrap (0 - (IntKind.u64.wrap (n_0))))) fun n10 => (some (n10))) else (some ((IntKind.u64.wrap (n_0))))) fun (j7 : Int) => (Option.bind (loopN (fun (s30 : (List Int)) => (Option.bind (if (decide (((List.length s30 : Nat) : Int) > 0)) then (Option.bind (idx s30 (IntKind.i64.wrap (((List.length s30 : Nat) : Int) - 1))) fun x48 => (some ((x48 == 0)))) else (some (false))) fun (j45 : Bool) => (if j45 then (Option.bind (sub s30 0 (IntKind.i64.wrap (((List.length s30 : Nat) : Int) - 1))) fun x56 => (some (.inl x56))) else (some (.inr (s30)))))) fuel ([(IntKind.u32.wrap (j7)), (IntKind.u32.wrap (((j7).fdiv (2 ^ 32))))] : List Int)) fun (j28 : (List Int)) => (some (((decide (n_0 < 0)), j28)))))

/-- brindlewood/brindlewoodlaw4.whole -/
def law4_whole (fuel : Nat) (n_0 : Int) : Option (Int × (Bool × (List Int)) × (Bool × (List Int)) × ByteArray × Int) :=
  (Option.bind (integer_Of fuel n_0) fun r7 => (some ((2, (r7.1, r7.2), (false, ([] : List Int)), (strOf []), 0))))

/-- brindlewood/integer.at -/
def integer_at (fuel : Nat) (code_0 : Int) (index_1 : Int) : Option (Int × Int) :=
  (some ((code_0, index_1)))

/-- brindlewood/integer.check -/
def integer_check (fuel : Nat) (l_0 : (List (Bool × (List Int)))) : Option (Int × Int) :=
  (Option.bind (loopN (fun (s10 : (Int × (Int × Int))) => (if (decide (s10.1 < ((List.length l_0 : Nat) : Int))) then (Option.bind (idx l_0 s10.1) fun x17 => (Option.bind (integer_Valid fuel (x17.1, x17.2)) fun r33 => (if (!r33) then (Option.bind (integer_at fuel 6 (IntKind.i64.wrap ((-1) - s10.1))) fun r42 => (some (.inr (.inr ((r42.1, r42.2)))))) else (some (.inl ((IntKind.i64.wrap (s10.1 + 1)), (s10.2.1, s10.2.2))))))) else (some (.inr (.inl (s10.2.1, s10.2.2)))))) fuel (0, (0, 0))) (cont fun (s8 : (Int × Int)) => (some ((0, 0)))))

/-- brindlewood/natural.Valid -/
def natural_Valid (fuel : Nat) (a_0 : (List Int)) : Option Bool :=
  (Option.bind (if (decide (((List.length a_0 : Nat) : Int) ≤ 600)) then (if (((List.length a_0 : Nat) : Int) == 0) then (some (true)) else (Option.bind (idx a_0 (IntKind.i64.wrap (((List.length a_0 : Nat) : Int) - 1))) fun x5 => (some ((x5 != 0))))) else (some (false))) fun (j1 : Bool) => (some (j1)))

/-- brindlewood/natural.at -/
def natural_at (fuel : Nat) (code_0 : Int) (index_1 : Int) : Option (Int × Int) :=
  (some ((code_0, index_1)))

/-- brindlewood/natural.check -/
def natural_check (fuel : Nat) (a_0 : (List Int)) (b_1 : (List Int)) : Option (Int × Int) :=
  (Option.bind (natural_Valid fuel a_0) fun r7 => (if (!r7) then (Option.bind (natural_at fuel 6 (-1)) fun r14 => (some ((r14.1, r14.2)))) else (Option.bind (natural_Valid fuel b_1) fun r28 => (if (!r28) then (Option.bind (natural_at fuel 6 (-2)) fun r35 => (some ((r35.1, r35.2)))) else (some ((0, 0)))))))

/-- brindlewood/natural.trim -/
def natural_trim (fuel : Nat) (a_0 : (List Int)) : Option (List Int) :=
  (Option.bind (loopN (fun (s3 : (List Int)) => (Option.bind (if (decide (((List.length s3 : Nat) : Int) > 0)) then (Option.bind (idx s3 (IntKind.i64.wrap (((List.length s3 : Nat) : Int) - 1))) fun x13 => (some ((x13 == 0)))) else (some (false))) fun (j10 : Bool) => (if j10 then (Option.bind (sub s3 0 (IntKind.i64.wrap (((List.length s3 : Nat) : Int) - 1))) fun x19 => (some (.inl x19))) else (some (.inr (s3)))))) fuel a_0) fun (j1 : (List Int)) => (some (j1)))

/-- brindlewood/natural.add -/
def natural_add (fuel : Nat) (a_0 : (List Int)) (b_1 : (List Int)) : Option (List Int) :=
  (Option.bind (if (decide (((List.length a_0 : Nat) : Int) < ((List.length b_1 : Nat) : Int))) then (some ((b_1, a_0))) else (some ((a_0, b_1)))) fun (j1 : ((List Int) × (List Int))) => (Option.bind (mkC 0 (IntKind.i64.wrap (((List.length j1.1 : Nat) : Int) + 1)) 0) fun l12 => (Option.bind (loopN (fun (s23 : ((List Int) × Int × Int)) => (if (decide (s23.2.2 < ((List.length j1.1 : Nat) : Int))) then (Option.bind (idx j1.1 s23.2.2) fun x33 => (Option.bind (some (IntKind.u64.wrap (s23.2.1 + (IntKind.u64.wrap (x33))))) fun n35 => (Option.bind (if (decide (s23.2.2 < ((List.length j1.2 : Nat) : Int))) then (Option.bind (idx j1.2 s23.2.2) fun x40 => (Option.bind (some (IntKind.u64.wrap (n35 + (IntKind.u64.wrap (x40))))) fun n42 => (some (n42)))) else (some (n35))) fun (j37 : Int) => (Option.bind (app s23.1 ([(IntKind.u32.wrap (j37))] : List Int)) fun l59 => (some (.inl (l59, ((j37).fdiv (2 ^ 32)), (IntKind.i64.wrap (s23.2.2 + 1))))))))) else (some (.inr ((s23.1, s23.2.1)))))) fuel (l12, 0, 0)) fun (j21 : ((List Int) × Int)) => (Option.bind (app j21.1 ([(IntKind.u32.wrap (j21.2))] : List Int)) fun l94 => (Option.bind (natural_trim fuel l94) fun r109 => (some (r109)))))))

/-- brindlewood/natural.fit -/
def natural_fit (fuel : Nat) (a_0 : (List Int)) : Option ((List Int) × (Int × Int)) :=
  (Option.bind (natural_trim fuel a_0) fun r7 => (if (decide (((List.length r7 : Nat) : Int) > 600)) then (Option.bind (natural_at fuel 14 (-1)) fun r21 => (some ((([] : List Int), (r21.1, r21.2))))) else (some ((r7, (0, 0))))))

/-- brindlewood/natural.Add -/
def natural_Add (fuel : Nat) (a_0 : (List Int)) (b_1 : (List Int)) : Option ((List Int) × (Int × Int)) :=
  (Option.bind (natural_check fuel a_0 b_1) fun r7 => (if (r7.1 != 0) then (some ((([] : List Int), (r7.1, r7.2)))) else (Option.bind (natural_add fuel a_0 b_1) fun r43 => (Option.bind (natural_fit fuel r43) fun r60 => (some ((r60.1, (r60.2.1, r60.2.2))))))))

/-- brindlewood/integer.signed -/
def integer_signed (fuel : Nat) (neg_0 : Bool) (limbs_1 : (List Int)) : Option ((Bool × (List Int)) × (Int × Int)) :=
  (if (decide (((List.length limbs_1 : Nat) : Int) > 128)) then (Option.bind (integer_at fuel 14 (-1)) fun r14 => (some (((false, ([] : List Int)), (r14.1, r14.2))))) else (Option.bind (if neg_0 then (some ((((decide (((List.length limbs_1 : Nat) : Int) > 0)), limbs_1), (0, 0)))) else (some (((false, limbs_1), (0, 0))))) fun (j40 : ((Bool × (List Int)) × (Int × Int))) => (some (((j40.1.1, j40.1.2), (j40.2.1, j40.2.2))))))

/-- brindlewood/natural.compare -/
def natural_compare (fuel : Nat) (a_0 : (List Int)) (b_1 : (List Int)) : Option Int :=
  (if (((List.length a_0 : Nat) : Int) != ((List.length b_1 : Nat) : Int)) then (Option.bind (some (IntKind.i64.wrap (((List.length a_0 : Nat) : Int) - ((List.length b_1 : Nat) : Int)))) fun n2 => (some (n2))) else (Option.bind (some (IntKind.i64.wrap (((List.length a_0 : Nat) : Int) - 1))) fun n4 => (Option.bind (loopN (fun (s9 : Int) => (if (decide (s9 ≥ 0)) then (Option.bind (idx a_0 s9) fun x16 => (Option.bind (idx b_1 s9) fun x19 => (if (x16 != x19) then (Option.bind (idx a_0 s9) fun x25 => (Option.bind (idx b_1 s9) fun x28 => (if (decide (x25 < x28)) then (some (.inr (.inr ((-1))))) else (some (.inr (.inr (1))))))) else (some (.inl (IntKind.i64.wrap (s9 - 1))))))) else (some (.inr (.inl ()))))) fuel n4) (cont fun (s7 : Unit) => (some (0))))))

/-- brindlewood/natural.Cmp -/
def natural_Cmp (fuel : Nat) (a_0 : (List Int)) (b_1 : (List Int)) : Option (Int × (Int × Int)) :=
  (Option.bind (natural_check fuel a_0 b_1) fun r7 => (if (r7.1 != 0) then (some ((0, (r7.1, r7.2)))) else (Option.bind (natural_compare fuel a_0 b_1) fun r43 => (Option.bind (some (if 1 < (if r43 < (-1) then (-1) else r43) then 1 else (if r43 < (-1) then (-1) else r43))) fun n60 => (some ((n60, (0, 0))))))))

/-- slices.Clone[[]uint32,uint32] -/
def slices_Clone_suint32_uint32 (fuel : Nat) (s_0 : (List Int)) : Option (List Int) :=
  (Option.bind (app ([] : List Int) s_0) fun l13 => (some (l13)))

/-- math/bits.Sub32 -/
def bits_Sub32 (fuel : Nat) (x_0 : Int) (y_1 : Int) (borrow_2 : Int) : Option (Int × Int) :=
  (Option.bind (some (IntKind.u32.wrap ((IntKind.u32.wrap (x_0 - y_1)) - borrow_2))) fun n1 => (Option.bind (some (((bwOr .u32 (bwAnd .u32 (bwXor .u32 4294967295 x_0) y_1) (bwAnd .u32 (bwXor .u32 4294967295 (bwXor .u32 x_0 y_1)) n1))).fdiv (2 ^ 31))) fun n3 => (some ((n1, n3)))))

/-- brindlewood/natural.sub -/
def natural_sub (fuel : Nat) (a_0 : (List Int)) (b_1 : (List Int)) : Option (List Int) :=
  (Option.bind (slices_Clone_suint32_uint32 fuel a_0) fun r1 => (Option.bind (loopN (fun (s13 : ((List Int) × Int × Int)) => (if (decide (s13.2.2 < ((List.length r1 : Nat) : Int))) then (Option.bind (if (decide (s13.2.2 < ((List.length b_1 : Nat) : Int))) then (Option.bind (idx b_1 s13.2.2) fun x26 => (some (x26))) else (some (0))) fun (j23 : Int) => (Option.bind (idx s13.1 s13.2.2) fun x32 => (Option.bind (bits_Sub32 fuel x32 j23 s13.2.1) fun r34 => (Option.bind (idx s13.1 s13.2.2) fun x39 => (Option.bind (upd s13.1 s13.2.2 r34.1) fun l42 => (some (.inl (l42, r34.2, (IntKind.i64.wrap (s13.2.2 + 1)))))))))) else (some (.inr (s13.1))))) fuel (r1, 0, 0)) fun (j11 : (List Int)) => (Option.bind (natural_trim fuel j11) fun r59 => (some (r59)))))

/-- brindlewood/natural.Sub -/
def natural_Sub (fuel : Nat) (a_0 : (List Int)) (b_1 : (List Int)) : Option ((List Int) × (Int × Int)) :=
  (Option.bind (natural_check fuel a_0 b_1) fun r7 => (if (r7.1 != 0) then (some ((([] : List Int), (r7.1, r7.2)))) else (Option.bind (natural_compare fuel a_0 b_1) fun r43 => (if (decide (r43 < 0)) then (Option.bind (natural_at fuel 4 (-2)) fun r54 => (some ((([] : List Int), (r54.1, r54.2))))) else (Option.bind (natural_sub fuel a_0 b_1) fun r71 => (some ((r71, (0, 0)))))))))

/-- brindlewood/integer.plus -/
def integer_plus (fuel : Nat) (a_0 : (Bool × (List Int))) (b_1 : (Bool × (List Int))) : Option ((Bool × (List Int)) × (Int × Int)) :=
  (if (a_0.1 == b_1.1) then (Option.bind (natural_Add fuel a_0.2 b_1.2) fun r30 => (Option.bind (integer_signed fuel a_0.1 r30.1) fun r58 => (some (((r58.1.1, r58.1.2), (r58.2.1, r58.2.2)))))) else (Option.bind (natural_Cmp fuel a_0.2 b_1.2) fun r116 => (Option.bind (if (decide (r116.1 < 0)) then (some (((b_1.1, b_1.2), (a_0.1, a_0.2)))) else (some (((a_0.1, a_0.2), (b_1.1, b_1.2))))) fun (j133 : ((Bool × (List Int)) × (Bool × (List Int)))) => (Option.bind (natural_Sub fuel j133.1.2 j133.2.2) fun r211 => (Option.bind (integer_signed fuel j133.1.1 r211.1) fun r237 => (some (((r237.1.1, r237.1.2), (r237.2.1, r237.2.2)))))))))

/-- brindlewood/integer.Sub -/
def integer_Sub (fuel : Nat) (a_0 : (Bool × (List Int))) (b_1 : (Bool × (List Int))) : Option ((Bool × (List Int)) × (Int × Int)) :=
  (Option.bind (integer_check fuel ([(a_0.1, a_0.2), (b_1.1, b_1.2)] : List (Bool × (List Int)))) fun r62 => (if (r62.1 != 0) then (some (((false, ([] : List Int)), (r62.1, r62.2)))) else (Option.bind (integer_plus fuel (a_0.1, a_0.2) ((!b_1.1), b_1.2)) fun r117 => (some (((r117.1.1, r117.1.2), (r117.2.1, r117.2.2)))))))

/-- math/bits.Len32 -/
def bits_Len32 (fuel : Nat) (x_0 : Int) : Option Int :=
  (Option.bind (if (decide (x_0 ≥ 65536)) then (some ((((x_0).fdiv (2 ^ 16)), 16))) else (some ((x_0, 0)))) fun (j1 : (Int × Int)) => (Option.bind (if (decide (j1.1 ≥ 256)) then (some ((((j1.1).fdiv (2 ^ 8)), (IntKind.i64.wrap (j1.2 + 8))))) else (some ((j1.1, j1.2)))) fun (j6 : (Int × Int)) => (Option.bind (sidx (strOf [0, 1, 2, 2, 3, 3, 3, 3, 4, 4, 4, 4, 4, 4, 4, 4, 5, 5, 5, 5, 5, 5, 5, 5, 5, 5, 5, 5, 5, 5, 5, 5, 6, 6, 6, 6, 6, 6, 6, 6, 6, 6, 6, 6, 6, 6, 6, 6, 6, 6, 6, 6, 6, 6, 6, 6, 6, 6, 6, 6, 6, 6, 6, 6, 7, 7, 7, 7, 7, 7, 7, 7, 7, 7, 7, 7, 7, 7, 7, 7, 7, 7, 7, 7, 7, 7, 7, 7, 7, 7, 7, 7, 7, 7, 7, 7, 7, 7, 7, 7, 7, 7, 7, 7, 7, 7, 7, 7, 7, 7, 7, 7, 7, 7, 7, 7, 7, 7, 7, 7, 7, 7, 7, 7, 7, 7, 7, 7, 8, 8, 8, 8, 8, 8, 8, 8, 8, 8, 8, 8, 8, 8, 8, 8, 8, 8, 8, 8, 8, 8, 8, 8, 8, 8, 8, 8, 8, 8, 8, 8, 8, 8, 8, 8, 8, 8, 8, 8, 8, 8, 8, 8, 8, 8, 8, 8, 8, 8, 8, 8, 8, 8, 8, 8, 8, 8, 8, 8, 8, 8, 8, 8, 8, 8, 8, 8, 8, 8, 8, 8, 8, 8, 8, 8, 8, 8, 8, 8, 8, 8, 8, 8, 8, 8, 8, 8, 8, 8, 8, 8, 8, 8, 8, 8, 8, 8, 8, 8, 8, 8, 8, 8, 8, 8, 8, 8, 8, 8, 8, 8, 8, 8, 8, 8, 8, 8, 8, 8, 8, 8, 8, 8, 8, 8, 8, 8]) (IntKind.u8.wrap (j6.1))) fun x11 => (Option.bind (some (IntKind.i64.wrap (j6.2 + (IntKind.i64.wrap (x11))))) fun n13 => (some (n13))))))

/-- brindlewood/natural.Bits -/
def natural_Bits (fuel : Nat) (a_0 : (List Int)) : Option (Int × (Int × Int)) :=
  (Option.bind (natural_Valid fuel a_0) fun r7 => (if (!r7) then (Option.bind (natural_at fuel 6 (-1)) fun r14 => (some ((0, (r14.1, r14.2))))) else (if (((List.length a_0 : Nat) : Int) == 0) then (some ((0, (0, 0)))) else (Option.bind (idx a_0 (IntKind.i64.wrap (((List.length a_0 : Nat) : Int) - 1))) fun x37 => (Option.bind (bits_Len32 fuel x37) fun r40 => (Option.bind (some (IntKind.i64.wrap ((IntKind.i64.wrap (32 * (IntKind.i64.wrap (((List.length a_0 : Nat) : Int) - 1)))) + r40))) fun n51 => (some ((n51, (0, 0))))))))))

/-- brindlewood/integer.Bits -/
def integer_Bits (fuel : Nat) (a_0 : (Bool × (List Int))) : Option (Int × (Int × Int)) :=
  (Option.bind (integer_check fuel ([(a_0.1, a_0.2)] : List (Bool × (List Int)))) fun r38 => (if (r38.1 != 0) then (some ((0, (r38.1, r38.2)))) else (Option.bind (natural_Bits fuel a_0.2) fun r79 => (some ((r79.1, (r79.2.1, r79.2.2)))))))

/-- (*brindlewood/random.source).bits -/
def random_source_bits (fuel : Nat) (s_0 : ((Int × Int))) (n_1 : Int) : Option ((Bool × (List Int)) × ((Int × Int))) :=
  (Option.bind (loopN (fun (s9 : (Int × (List Int) × ((Int × Int)))) => (if (decide (s9.1 > 0)) then (Option.bind (random_source_next fuel (s9.2.2.1, s9.2.2.2)) fun r24 => (Option.bind (some (IntKind.u32.wrap (((r24.1).fdiv (2 ^ 32))))) fun n30 => (Option.bind (if (decide (s9.1 < 32)) then (Option.bind (nn (IntKind.i64.wrap (32 - s9.1))) fun _ => (Option.bind (some (shrI .u32 n30 (IntKind.i64.wrap (32 - s9.1)))) fun n36 => (some (n36)))) else (some (n30))) fun (j32 : Int) => (Option.bind (app s9.2.1 ([j32] : List Int)) fun l63 => (some (.inl ((IntKind.i64.wrap (s9.1 - 32)), l63, (r24.2.1, r24.2.2)))))))) else (some (.inr ((s9.2.1, (s9.2.2.1, s9.2.2.2))))))) fuel (n_1, ([] : List Int), (s_0.1, s_0.2))) fun (j7 : ((List Int) × ((Int × Int)))) => (Option.bind (loopN (fun (s98 : (List Int)) => (Option.bind (if (decide (((List.length s98 : Nat) : Int) > 0)) then (Option.bind (idx s98 (IntKind.i64.wrap (((List.length s98 : Nat) : Int) - 1))) fun x113 => (some ((x113 == 0)))) else (some (false))) fun (j110 : Bool) => (if j110 then (Option.bind (sub s98 0 (IntKind.i64.wrap (((List.length s98 : Nat) : Int) - 1))) fun x122 => (some (.inl x122))) else (some (.inr (s98)))))) fuel j7.1) fun (j96 : (List Int)) => (some (((false, j96), (j7.2.1, j7.2.2))))))

/-- brindlewood/integer.Cmp -/
def integer_Cmp (fuel : Nat) (a_0 : (Bool × (List Int))) (b_1 : (Bool × (List Int))) : Option (Int × (Int × Int)) :=
  (Option.bind (integer_check fuel ([(a_0.1, a_0.2), (b_1.1, b_1.2)] : List (Bool × (List Int)))) fun r50 => (if (r50.1 != 0) then (some ((0, (r50.1, r50.2)))) else (Option.bind (natural_Cmp fuel a_0.2 b_1.2) fun r94 => (Option.bind (if a_0.1 then (some (b_1.1)) else (some (false))) fun (j114 : Bool) => (if j114 then (some (((IntKind.i64.wrap (0 - r94.1)), (0, 0)))) else (if a_0.1 then (some (((-1), (0, 0)))) else (if b_1.1 then (some ((1, (0, 0)))) else (some ((r94.1, (0, 0)))))))))))

/-- (*brindlewood/random.source).below -/
def random_source_below (fuel : Nat) (s_0 : ((Int × Int))) (n_1 : (Bool × (List Int))) : Option ((Bool × (List Int)) × ((Int × Int))) :=
  (Option.bind (integer_Of fuel 1) fun r36 => (Option.bind (integer_Sub fuel (n_1.1, n_1.2) (r36.1, r36.2)) fun r77 => (Option.bind (integer_Bits fuel (r77.1.1, r77.1.2)) fun r249 => (Option.bind (loopN (fun (s267 : (((Int × Int)) × (Bool × (List Int)))) => (Option.bind (random_source_bits fuel (s267.1.1, s267.1.2) r249.1) fun r296 => (Option.bind (integer_Cmp fuel (r296.1.1, r296.1.2) (n_1.1, n_1.2)) fun r321 => (if (decide (r321.1 < 0)) then (some (.inr (.inr (((r296.1.1, r296.1.2), (r296.2.1, r296.2.2)))))) else (some (.inl ((r296.2.1, r296.2.2), (s267.2.1, s267.2.2)))))))) fuel ((s_0.1, s_0.2), (false, ([] : List Int)))) (cont fun (s265 : (((Int × Int)) × (Bool × (List Int)))) => (some (((s265.2.1, s265.2.2), (s265.1.1, s265.1.2)))))))))

/-- brindlewood/random.Below -/
def random_Below (fuel : Nat) (g_0 : (Int × Int)) (n_1 : (Bool × (List Int))) : Option ((Bool × (List Int)) × (Int × Int) × (Int × Int)) :=
  (Option.bind (random_open fuel (g_0.1, g_0.2)) fun r33 => (optc r33.1 (if (r33.2.1 != 0) then (some (((false, ([] : List Int)), (0, 0), (r33.2.1, r33.2.2)))) else (Option.bind (integer_Valid fuel (n_1.1, n_1.2)) fun r117 => (if (!r117) then (Option.bind (random_at fuel 6 (-2)) fun r129 => (some (((false, ([] : List Int)), (0, 0), (r129.1, r129.2))))) else (Option.bind (if n_1.1 then (some (true)) else (some ((((List.length n_1.2 : Nat) : Int) == 0)))) fun (j182 : Bool) => (if j182 then (Option.bind (random_at fuel 4 (-2)) fun r223 => (some (((false, ([] : List Int)), (0, 0), (r223.1, r223.2))))) else (none)))))) fun x42 => (if (r33.2.1 != 0) then (some (((false, ([] : List Int)), (0, 0), (r33.2.1, r33.2.2)))) else (Option.bind (integer_Valid fuel (n_1.1, n_1.2)) fun r337 => (if (!r337) then (Option.bind (random_at fuel 6 (-2)) fun r348 => (some (((false, ([] : List Int)), (0, 0), (r348.1, r348.2))))) else (Option.bind (if n_1.1 then (some (true)) else (some ((((List.length n_1.2 : Nat) : Int) == 0)))) fun (j400 : Bool) => (if j400 then (Option.bind (random_at fuel 4 (-2)) fun r444 => (some (((false, ([] : List Int)), (0, 0), (r444.1, r444.2))))) else (Option.bind (random_source_below fuel (x42.1, x42.2) (n_1.1, n_1.2)) fun r484 => (some (((r484.1.1, r484.1.2), (r484.2.1, r484.2.2), (0, 0))))))))))))

/-- brindlewood/brindlewoodref4.Mixed -/
def ref4_Mixed (fuel : Nat) (x_0 : Int) : Option Int :=
  (Option.bind (some (bwXor .u64 x_0 (IntKind.u64.wrap ((x_0).tdiv 1073741824)))) fun n1 => (Option.bind (some (IntKind.u64.wrap (n1 * 13787848793156543929))) fun n3 => (Option.bind (some (bwXor .u64 n3 (IntKind.u64.wrap ((n3).tdiv 134217728)))) fun n5 => (Option.bind (some (IntKind.u64.wrap (n5 * 10723151780598845931))) fun n7 => (Option.bind (some (bwXor .u64 n7 (IntKind.u64.wrap ((n7).tdiv 2147483648)))) fun n9 => (some (n9)))))))

/-- brindlewood/brindlewoodref4.Seeded -/
def ref4_Seeded (fuel : Nat) (n_0 : (Bool × (List Int))) : Option (Int × Int) :=
  (Option.bind (some (IntKind.u64.wrap (((List.length n_0.2 : Nat) : Int)))) fun n14 => (Option.bind (if n_0.1 then (some ((bwXor .u64 18446744073709551615 n14))) else (some (n14))) fun (j16 : Int) => (Option.bind (loopN (fun (s29 : (Int × Int)) => (if (decide (s29.2 < ((List.length n_0.2 : Nat) : Int))) then (Option.bind (idx n_0.2 s29.2) fun x36 => (Option.bind (ref4_Mixed fuel (IntKind.u64.wrap ((IntKind.u64.wrap ((IntKind.u64.wrap (s29.1 * 6364136223846793005)) + (IntKind.u64.wrap (x36)))) + 1))) fun r38 => (some (.inl (r38, (IntKind.i64.wrap (s29.2 + 1))))))) else (some (.inr (s29.1))))) fuel (j16, 0)) fun (j27 : Int) => (some ((j27, 1442695040888963407))))))

/-- (*brindlewood/brindlewoodref4.Random).Draw -/
def ref4_Random_Draw (fuel : Nat) (g_0 : ((Int × Int))) : Option (Int × ((Int × Int))) :=
  (Option.bind (ref4_Mixed fuel (IntKind.u64.wrap ((IntKind.u64.wrap (g_0.1 * 6364136223846793005)) + g_0.2))) fun r9 => (some ((r9, ((IntKind.u64.wrap ((IntKind.u64.wrap (g_0.1 * 6364136223846793005)) + g_0.2)), g_0.2)))))

/-- brindlewood/brindlewoodref3.NoInt -/
def ref3_NoInt (fuel : Nat) (a_0 : (Bool × (List Int))) : Option Bool :=
  (Option.bind (if (!a_0.1) then (some ((((List.length a_0.2 : Nat) : Int) == 0))) else (some (false))) fun (j7 : Bool) => (some (j7)))

/-- brindlewood/brindlewoodlaw4.draws -/
def law4_draws (fuel : Nat)  : Option Bool :=
  (Option.bind (law4_whole fuel 0) fun r1 => (Option.bind (random_Seed fuel (r1.2.1.1, r1.2.1.2)) fun r17 => (Option.bind (random_Next fuel (r17.1.1, r17.1.2)) fun r47 => (Option.bind (law4_whole fuel 1) fun r128 => (Option.bind (random_Below fuel (r17.1.1, r17.1.2) (r128.2.1.1, r128.2.1.2)) fun r182 => (Option.bind (law4_whole fuel 0) fun r440 => (Option.bind (ref4_Seeded fuel (r440.2.1.1, r440.2.1.2)) fun r456 => (Option.bind (ref4_Random_Draw fuel (r456.1, r456.2)) fun r471 => (Option.bind (if (r17.2.1 == 0) then (if (r47.2.2.1 == 0) then (if (r182.2.2.1 == 0) then (if (r17.1.1 == 0) then (if (r47.1 == r471.1) then (if ((r47.2.1.1 == r471.2.1) && (r47.2.1.2 == r471.2.2)) then (Option.bind (ref3_NoInt fuel (r182.1.1, r182.1.2)) fun r505 => (if r505 then (Option.bind (some ((r182.2.1.1 == r17.1.1) && (r182.2.1.2 == r17.1.2))) fun n518 => (some (n518))) else (some (false)))) else (some (false))) else (some (false))) else (some (false))) else (some (false))) else (some (false))) else (some (false))) fun (j477 : Bool) => (some (j477)))))))))))

/-- brindlewood/brindlewoodref3.IntOk -/
def ref3_IntOk (fuel : Nat) (a_0 : (Bool × (List Int))) : Option Bool :=
  (Option.bind (if (decide (((List.length a_0.2 : Nat) : Int) ≤ 128)) then (if (((List.length a_0.2 : Nat) : Int) == 0) then (if (!a_0.1) then (some (true)) else (if (decide (((List.length a_0.2 : Nat) : Int) > 0)) then (Option.bind (idx a_0.2 (IntKind.i64.wrap (((List.length a_0.2 : Nat) : Int) - 1))) fun x14 => (some ((x14 != 0)))) else (some (false)))) else (if (decide (((List.length a_0.2 : Nat) : Int) > 0)) then (Option.bind (idx a_0.2 (IntKind.i64.wrap (((List.length a_0.2 : Nat) : Int) - 1))) fun x19 => (some ((x19 != 0)))) else (some (false)))) else (some (false))) fun (j7 : Bool) => (some (j7)))

/-- brindlewood/brindlewoodref4.At -/
def ref4_At (fuel : Nat) (code_0 : Int) (index_1 : Int) : Option (Int × Int) :=
  (some ((code_0, index_1)))

/-- brindlewood/brindlewoodlaw4.RandomDraws -/
def law4_RandomDraws (fuel : Nat) (seed_0 : (Bool × (List Int))) (g_1 : (Int × Int)) (n_2 : Int) (m_3 : Int) : Option Bool :=
  (Option.bind (random_Seed fuel (seed_0.1, seed_0.2)) fun r14 => (Option.bind (random_Next fuel (g_1.1, g_1.2)) fun r50 => (Option.bind (random_Skip fuel (g_1.1, g_1.2) ((n_2).tmod 5000)) fun r84 => (Option.bind (random_Skip fuel (g_1.1, g_1.2) n_2) fun r118 => (Option.bind (law4_draws fuel ) fun r146 => (if (!r146) then (some (false)) else (Option.bind (ref3_IntOk fuel (seed_0.1, seed_0.2)) fun r213 => (Option.bind (if (!r213) then (Option.bind (Option.bind (ref4_At fuel 6 (-1)) fun r282 => (if (!((r14.2.1 == r282.1) && (r14.2.2 == r282.2))) then (some (true)) else (some ((!((r14.1.1 == 0) && (r14.1.2 == 0))))))) fun (j260 : Bool) => (if j260 then (some (.inr (false))) else (some (.inl ())))) else (Option.bind (if (r14.2.1 != 0) then (some (true)) else (Option.bind (ref4_Seeded fuel (seed_0.1, seed_0.2)) fun r480 => (some ((!((r14.1.1 == r480.1) && (r14.1.2 == r480.2))))))) fun (j399 : Bool) => (if j399 then (some (.inr (false))) else (some (.inl ()))))) (cont fun (s257 : Unit) => (if (((g_1.2).tmod 2) == 0) then (Option.bind (ref4_At fuel 6 (-1)) fun r548 => (Option.bind (if ((r50.2.2.1 == r548.1) && (r50.2.2.2 == r548.2)) then (if ((r84.2.1 == r548.1) && (r84.2.2 == r548.2)) then (if ((r118.2.1 == r548.1) && (r118.2.2 == r548.2)) then (if (r50.1 == 0) then (if ((r50.2.1.1 == 0) && (r50.2.1.2 == 0)) then (if ((r84.1.1 == r50.2.1.1) && (r84.1.2 == r50.2.1.2)) then (Option.bind (some ((r118.1.1 == r50.2.1.1) && (r118.1.2 == r50.2.1.2))) fun n590 => (some (n590))) else (some (false))) else (some (false))) else (some (false))) else (some (false))) else (some (false))) else (some (false))) fun (j563 : Bool) => (some (j563)))) else (Option.bind (ref4_Random_Draw fuel (g_1.1, g_1.2)) fun r632 => (Option.bind (if (r50.2.2.1 != 0) then (some (true)) else (if (r84.2.1 != 0) then (some (true)) else (if (r118.2.1 != 0) then (some (true)) else (if (r50.1 != r632.1) then (some (true)) else (some ((!((r50.2.1.1 == r632.2.1) && (r50.2.1.2 == r632.2.2))))))))) fun (j638 : Bool) => (if j638 then (some (false)) else (Option.bind (loopN (fun (s715 : (Int × ((Int × Int)))) => (if (decide (s715.1 > 0)) then (Option.bind (ref4_Random_Draw fuel (s715.2.1, s715.2.2)) fun r732 => (some (.inl ((IntKind.u64.wrap (s715.1 - 1)), (r732.2.1, r732.2.2))))) else (some (.inr ((s715.2.1, s715.2.2)))))) fuel (((n_2).tmod 5000), (g_1.1, g_1.2))) fun (j713 : ((Int × Int))) => (if (!((r84.1.1 == j713.1) && (r84.1.2 == j713.2))) then (some (false)) else (Option.bind (random_Skip fuel (r118.1.1, r118.1.2) m_3) fun r755 => (Option.bind (random_Skip fuel (g_1.1, g_1.2) (IntKind.u64.wrap (n_2 + m_3))) fun r789 => (Option.bind (random_Skip fuel (g_1.1, g_1.2) (IntKind.u64.wrap (n_2 + 1))) fun r823 => (Option.bind (random_Next fuel (r118.1.1, r118.1.2)) fun r867 => (Option.bind (if (r755.2.1 == 0) then (if (r789.2.1 == 0) then (if (r823.2.1 == 0) then (if (r867.2.2.1 == 0) then (if (decide ((IntKind.u64.wrap (n_2 + m_3)) < n_2)) then (if ((IntKind.u64.wrap (n_2 + 1)) == 0) then (some (true)) else (Option.bind (some ((r823.1.1 == r867.2.1.1) && (r823.1.2 == r867.2.1.2))) fun n979 => (some (n979)))) else (if ((r755.1.1 == r789.1.1) && (r755.1.2 == r789.1.2)) then (if ((IntKind.u64.wrap (n_2 + 1)) == 0) then (some (true)) else (Option.bind (some ((r823.1.1 == r867.2.1.1) && (r823.1.2 == r867.2.1.2))) fun n1091 => (some (n1091)))) else (some (false)))) else (some (false))) else (some (false))) else (some (false))) else (some (false))) fun (j895 : Bool) => (some (j895))))))))))))))))))))))

end Go.Gv.D
