import Derived.Test.YtenjigdaaeiklaaGd
set_option linter.all false
/- Own work, printed by a program of mine: for each function the plain function that it computes. -/
namespace Go.Gv.D
open Go Go.Gv
/-- brindlewood/integer.Valid -/
def integer_Valid (fuel : Nat) (a_0 : (Bool × (List Int))) : Option Bool :=
  (Option.bind (if (decide (((List.length a_0.2 : Nat) : Int) ≤ 128)) then (if (((List.length a_0.2 : Nat) : Int) == 0) then (if (!a_0.1) then (some (true)) else (if (decide (((List.length a_0.2 : Nat) : Int) > 0)) then (Option.bind (idx a_0.2 (IntKind.i64.wrap (((List.length a_0.2 : Nat) : Int) - 1))) fun x14 => (some ((x14 != 0)))) else (some (false)))) else (if (decide (((List.length a_0.2 : Nat) : Int) > 0)) then (Option.bind (idx a_0.2 (IntKind.i64.wrap (((List.length a_0.2 : Nat) : Int) - 1))) fun x19 => (some ((x19 != 0)))) else (some (false)))) else (some (false))) fun (j7 : Bool) => (some (j7)))

/-- brindlewood/random.at -/
def random_at (fuel : Nat) (code_0 : Int) (index_1 : Int) : Option (Int × Int) :=
  (some ((code_0, index_1)))

/-- brindlewood/random.mix -/
def random_mix (fuel : Nat) (x_0 : Int) : Option Int :=
  (Option.bind (some (IntKind.u64.wrap ((bwXor .u64 x_0 ((x_0).fdiv (2 ^ 30))) * 13787848793156543929))) fun n1 => (Option.bind (some (IntKind.u64.wrap ((bwXor .u64 n1 ((n1).fdiv (2 ^ 27))) * 10723151780598845931))) fun n3 => (some ((bwXor .u64 n3 ((n3).fdiv (2 ^ 31)))))))

/-- brindlewood/random.Seed -/
def random_Seed (fuel : Nat) (n_0 : (Bool × (List Int))) : Option ((Int × Int) × (Int × Int)) :=
  (Option.bind (integer_Valid fuel (n_0.1, n_0.2)) fun r21 => (if (!r21) then (Option.bind (random_at fuel 6 (-1)) fun r29 => (some (((0, 0), (r29.1, r29.2))))) else (Option.bind (some (IntKind.u64.wrap (((List.length n_0.2 : Nat) : Int)))) fun n56 => (Option.bind (if n_0.1 then (some ((bwXor .u64 18446744073709551615 n56))) else (some (n56))) fun (j58 : Int) => (Option.bind (loopN (fun (s76 : (Int × Int)) => (if (decide (s76.2 < ((List.length n_0.2 : Nat) : Int))) then (Option.bind (idx n_0.2 s76.2) fun x83 => (Option.bind (random_mix fuel (IntKind.u64.wrap ((IntKind.u64.wrap ((IntKind.u64.wrap (s76.1 * 6364136223846793005)) + (IntKind.u64.wrap (x83)))) + 1))) fun r85 => (some (.inl (r85, (IntKind.i64.wrap (s76.2 + 1))))))) else (some (.inr (s76.1))))) fuel (j58, 0)) fun (j74 : Int) => (some (((j74, 1442695040888963407), (0, 0)))))))))

/-- brindlewood/random.open -/
def random_open (fuel : Nat) (g_0 : (Int × Int)) : Option ((Option ((Int × Int))) × (Int × Int)) :=
  (if (((g_0.2).tmod 2) == 0) then (Option.bind (random_at fuel 6 (-1)) fun r15 => (some ((none, (r15.1, r15.2))))) else (some (((some (g_0.1, g_0.2)), (0, 0)))))

/-- (*brindlewood/random.source).next -/
def random_source_next (fuel : Nat) (s_0 : ((Int × Int))) : Option (Int × ((Int × Int))) :=
  (Option.bind (random_mix fuel (IntKind.u64.wrap ((IntKind.u64.wrap (s_0.1 * 6364136223846793005)) + s_0.2))) fun r9 => (some ((r9, ((IntKind.u64.wrap ((IntKind.u64.wrap (s_0.1 * 6364136223846793005)) + s_0.2)), s_0.2)))))

/-- brindlewood/random.Next -/
def random_Next (fuel : Nat) (g_0 : (Int × Int)) : Option (Int × (Int × Int) × (Int × Int)) :=
  (Option.bind (random_open fuel (g_0.1, g_0.2)) fun r21 => (optc r21.1 (if (r21.2.1 != 0) then (some ((0, (0, 0), (r21.2.1, r21.2.2)))) else (none)) fun x30 => (if (r21.2.1 != 0) then (some ((0, (0, 0), (r21.2.1, r21.2.2)))) else (Option.bind (random_source_next fuel (x30.1, x30.2)) fun r128 => (some ((r128.1, (r128.2.1, r128.2.2), (0, 0))))))))

/-- brindlewood/random.Skip -/
def random_Skip (fuel : Nat) (g_0 : (Int × Int)) (n_1 : Int) : Option ((Int × Int) × (Int × Int)) :=
  (Option.bind (random_open fuel (g_0.1, g_0.2)) fun r21 => (optc r21.1 (if (r21.2.1 != 0) then (some (((0, 0), (r21.2.1, r21.2.2)))) else (Option.bind (loopN (fun (s91 : (Int × Int × Int × Int × Int)) => (if (decide (s91.1 > 0)) then (Option.bind (if ((bwAnd .u64 s91.1 1) == 1) then (Option.bind (some (IntKind.u64.wrap (s91.2.1 * s91.2.2.2.1))) fun n113 => (Option.bind (some (IntKind.u64.wrap ((IntKind.u64.wrap (s91.2.2.1 * s91.2.2.2.1)) + s91.2.2.2.2))) fun n115 => (some ((n113, n115))))) else (some ((s91.2.1, s91.2.2.1)))) fun (j110 : (Int × Int)) => (Option.bind (some (IntKind.u64.wrap (s91.2.2.2.1 * s91.2.2.2.1))) fun n123 => (Option.bind (some (IntKind.u64.wrap ((IntKind.u64.wrap (s91.2.2.2.2 * s91.2.2.2.1)) + s91.2.2.2.2))) fun n125 => (some (.inl (((s91.1).fdiv (2 ^ 1)), j110.1, j110.2, n123, n125)))))) else (some (.inr ((s91.2.1, s91.2.2.1)))))) fuel (n_1, 1, 0, 6364136223846793005, g_0.2)) fun (j89 : (Int × Int)) => (some ((((IntKind.u64.wrap ((IntKind.u64.wrap (g_0.1 * j89.1)) + j89.2)), g_0.2), (0, 0)))))) fun x30 => (if (r21.2.1 != 0) then (some (((0, 0), (r21.2.1, r21.2.2)))) else (Option.bind (loopN (fun (s212 : (Int × Int × Int × Int × Int)) => (if (decide (s212.1 > 0)) then (Option.bind (if ((bwAnd .u64 s212.1 1) == 1) then (Option.bind (some (IntKind.u64.wrap (s212.2.1 * s212.2.2.2.1))) fun n234 => (Option.bind (some (IntKind.u64.wrap ((IntKind.u64.wrap (s212.2.2.1 * s212.2.2.2.1)) + s212.2.2.2.2))) fun n236 => (some ((n234, n236))))) else (some ((s212.2.1, s212.2.2.1)))) fun (j231 : (Int × Int)) => (Option.bind (some (IntKind.u64.wrap (s212.2.2.2.1 * s212.2.2.2.1))) fun n244 => (Option.bind (some (IntKind.u64.wrap ((IntKind.u64.wrap (s212.2.2.2.2 * s212.2.2.2.1)) + s212.2.2.2.2))) fun n246 => (some (.inl (((s212.1).fdiv (2 ^ 1)), j231.1, j231.2, n244, n246)))))) else (some (.inr ((s212.2.1, s212.2.2.1)))))) fuel (n_1, 1, 0, 6364136223846793005, g_0.2)) fun (j210 : (Int × Int)) => (some ((((IntKind.u64.wrap ((IntKind.u64.wrap (g_0.1 * j210.1)) + j210.2)), g_0.2), (0, 0))))))))

/-- brindlewood/integer.Of -/
def integer_Of (fuel : Nat) (n_0 : Int) : Option (Bool × (List Int)) :=
  (Option.bind (if (decide (n_0 < 0)) then (Option.bind (some (IntKind.u64.wrap (0 - (IntKind.u64.wrap (n_0))))) fun n10 => (some (n10))) else (some ((IntKind.u64.wrap (n_0))))) fun (j7 : Int) => (Option.bind (loopN (fun (s30 : (List Int)) => (Option.bind (if (decide (((List.length s30 : Nat) : Int) > 0)) then (Option.bind (idx s30 (IntKind.i64.wrap (((List.length s30 : Nat) : Int) - 1))) fun x48 => (some ((x48 == 0)))) else (some (false))) fun (j45 : Bool) => (if j45 then (Option.bind (sub s30 0 (IntKind.i64.wrap (((List.length s30 : Nat) : Int) - 1))) fun x56 => (some (.inl x56))) else (some (.inr (s30)))))) fuel ([(IntKind.u32.wrap (j7)), (IntKind.u32.wrap (((j7).fdiv (2 ^ 32))))] : List Int)) fun (j28 : (List Int)) => (some (((decide (n_0 < 0)), j28)))))

/-- brindlewood/brindlewoodlaw4.whole -/
def law4_whole (fuel : Nat) (n_0 : Int) : Option (Int × (Bool × (List Int)) × (Bool × (List Int)) × ByteArray × Int) :=
  (Option.bind (integer_Of fuel n_0) fun r7 => (some ((2, (r7.1, r7.2), (false, ([] : List Int)), (strOf []), 0))))

/-- brindlewood/integer.at -/
def integer_at (fuel : Nat) (code_0 : Int) (index_1 : Int) : Option (Int × Int) :=
  (some ((code_0, index_1)))

/-- brindlewood/integer.check -/
def integer_check (fuel : Nat) (l_0 : (List (Bool × (List Int)))) : Option (Int × Int) :=
  (Option.bind (loopN (fun (s10 : (Int × (Int × Int))) => (if (decide (s10.1 < ((List.length l_0 : Nat) : Int))) then (Option.bind (idx l_0 s10.1) fun x17 => (Option.bind (integer_Valid fuel (x17.1, x17.2)) fun r33 => (if (!r33) then (Option.bind (integer_at fuel 6 (IntKind.i64.wrap ((-1) - s10.1))) fun r42 => (some (.inr (.inr ((r42.1, r42.2)))))) else (some (.inl ((IntKind.i64.wrap (s10.1 + 1)), (s10.2.1, s10.2.2))))))) else (some (.inr (.inl (s10.2.1, s10.2.2)))))) fuel (0, (0, 0))) (cont fun (s8 : (Int × Int)) => (some ((0, 0)))))

/-- brindlewood/natural.Valid -/
def natural_Valid (fuel : Nat) (a_0 : (List Int)) : Option Bool :=
  (Option.bind (if (decide (((List.length a_0 : Nat) : Int) ≤ 600)) then (if (((List.length a_0 : Nat) : Int) == 0) then (some (true)) else (Option.bind (idx a_0 (IntKind.i64.wrap (((List.length a_0 : Nat) : Int) - 1))) fun x5 => (some ((x5 != 0))))) else (some (false))) fun (j1 : Bool) => (some (j1)))

/-- brindlewood/natural.at -/
def natural_at (fuel : Nat) (code_0 : Int) (index_1 : Int) : Option (Int × Int) :=
  (some ((code_0, index_1)))

/-- brindlewood/natural.check -/
def natural_check (fuel : Nat) (a_0 : (List Int)) (b_1 : (List Int)) : Option (Int × Int) :=
  (Option.bind (natural_Valid fuel a_0) fun r7 => (if (!r7) then (Option.bind (natural_at fuel 6 (-1)) fun r14 => (some ((r14.1, r14.2)))) else (Option.bind (natural_Valid fuel b_1) fun r28 => (if (!r28) then (Option.bind (natural_at fuel 6 (-2)) fun r35 => (some ((r35.1, r35.2)))) else (some ((0, 0)))))))

/-- brindlewood/natural.trim -/
def natural_trim (fuel : Nat) (a_0 : (List Int)) : Option (List Int) :=
  (Option.bind (loopN (fun (s3 : (List Int)) => (Option.bind (if (decide (((List.length s3 : Nat) : Int) > 0)) then (Option.bind (idx s3 (IntKind.i64.wrap (((List.length s3 : Nat) : Int) - 1))) fun x13 => (some ((x13 == 0)))) else (some (false))) fun (j10 : Bool) => (if j10 then (Option.bind (sub s3 0 (IntKind.i64.wrap (((List.length s3 : Nat) : Int) - 1))) fun x19 => (some (.inl x19))) else (some (.inr (s3)))))) fuel a_0) fun (j1 : (List Int)) => (some (j1)))

/-- brindlewood/natural.add -/
def natural_add (fuel : Nat) (a_0 : (List Int)) (b_1 : (List Int)) : Option (List Int) :=
  (Option.bind (if (decide (((List.length a_0 : Nat) : Int) < ((List.length b_1 : Nat) : Int))) then (some ((b_1, a_0))) else (some ((a_0, b_1)))) fun (j1 : ((List Int) × (List Int))) => (Option.bind (mkC 0 (IntKind.i64.wrap (((List.length j1.1 : Nat) : Int) + 1)) 0) fun l12 => (Option.bind (loopN (fun (s23 : ((List Int) × Int × Int)) => (if (decide (s23.2.2 < ((List.length j1.1 : Nat) : Int))) then (Option.bind (idx j1.1 s23.2.2) fun x33 => (Option.bind (some (IntKind.u64.wrap (s23.2.1 + (IntKind.u64.wrap (x33))))) fun n35 => (Option.bind (if (decide (s23.2.2 < ((List.length j1.2 : Nat) : Int))) then (Option.bind (idx j1.2 s23.2.2) fun x40 => (Option.bind (some (IntKind.u64.wrap (n35 + (IntKind.u64.wrap (x40))))) fun n42 => (some (n42)))) else (some (n35))) fun (j37 : Int) => (Option.bind (app s23.1 ([(IntKind.u32.wrap (j37))] : List Int)) fun l59 => (some (.inl (l59, ((j37).fdiv (2 ^ 32)), (IntKind.i64.wrap (s23.2.2 + 1))))))))) else (some (.inr ((s23.1, s23.2.1)))))) fuel (l12, 0, 0)) fun (j21 : ((List Int) × Int)) => (Option.bind (app j21.1 ([(IntKind.u32.wrap (j21.2))] : List Int)) fun l94 => (Option.bind (natural_trim fuel l94) fun r109 => (some (r109)))))))

/-- brindlewood/natural.fit -/
def natural_fit (fuel : Nat) (a_0 : (List Int)) : Option ((List Int) × (Int × Int)) :=
  (Option.bind (natural_trim fuel a_0) fun r7 => (if (decide (((List.length r7 : Nat) : Int) > 600)) then (Option.bind (natural_at fuel 14 (-1)) fun r21 => (some ((([] : List Int), (r21.1, r21.2))))) else (some ((r7, (0, 0))))))

/-- brindlewood/natural.Add -/
def natural_Add (fuel : Nat) (a_0 : (List Int)) (b_1 : (List Int)) : Option ((List Int) × (Int × Int)) :=
  (Option.bind (natural_check fuel a_0 b_1) fun r7 => (if (r7.1 != 0) then (some ((([] : List Int), (r7.1, r7.2)))) else (Option.bind (natural_add fuel a_0 b_1) fun r43 => (Option.bind (natural_fit fuel r43) fun r60 => (some ((r60.1, (r60.2.1, r60.2.2))))))))

/-- brindlewood/integer.signed -/
def integer_signed (fuel : Nat) (neg_0 : Bool) (limbs_1 : (List Int)) : Option ((Bool × (List Int)) × (Int × Int)) :=
  (if (decide (((List.length limbs_1 : Nat) : Int) > 128)) then (Option.bind (integer_at fuel 14 (-1)) fun r14 => (some (((false, ([] : List Int)), (r14.1, r14.2))))) else (Option.bind (if neg_0 then (some ((((decide (((List.length limbs_1 : Nat) : Int) > 0)), limbs_1), (0, 0)))) else (some (((false, limbs_1), (0, 0))))) fun (j39 : ((Bool × (List Int)) × (Int × Int))) => (some (((j39.1.1, j39.1.2), (j39.2.1, j39.2.2))))))

/-- brindlewood/natural.compare -/
def natural_compare (fuel : Nat) (a_0 : (List Int)) (b_1 : (List Int)) : Option Int :=
  (if (((List.length a_0 : Nat) : Int) != ((List.length b_1 : Nat) : Int)) then (Option.bind (some (IntKind.i64.wrap (((List.length a_0 : Nat) : Int) - ((List.length b_1 : Nat) : Int)))) fun n2 => (some (n2))) else (Option.bind (some (IntKind.i64.wrap (((List.length a_0 : Nat) : Int) - 1))) fun n4 => (Option.bind (loopN (fun (s9 : Int) => (if (decide (s9 ≥ 0)) then (Option.bind (idx a_0 s9) fun x16 => (Option.bind (idx b_1 s9) fun x19 => (if (x16 != x19) then (Option.bind (idx a_0 s9) fun x25 => (Option.bind (idx b_1 s9) fun x28 => (if (decide (x25 < x28)) then (some (.inr (.inr ((-1))))) else (some (.inr (.inr (1))))))) else (some (.inl (IntKind.i64.wrap (s9 - 1))))))) else (some (.inr (.inl ()))))) fuel n4) (cont fun (s7 : Unit) => (some (0))))))

/-- brindlewood/natural.Cmp -/
def natural_Cmp (fuel : Nat) (a_0 : (List Int)) (b_1 : (List Int)) : Option (Int × (Int × Int)) :=
  (Option.bind (natural_check fuel a_0 b_1) fun r7 => (if (r7.1 != 0) then (some ((0, (r7.1, r7.2)))) else (Option.bind (natural_compare fuel a_0 b_1) fun r43 => (Option.bind (some (if 1 < (if r43 < (-1) then (-1) else r43) then 1 else (if r43 < (-1) then (-1) else r43))) fun n60 => (some ((n60, (0, 0))))))))

/-- slices.Clone[[]uint32,uint32] -/
def slices_Clone_suint32_uint32 (fuel : Nat) (s_0 : (List Int)) : Option (List Int) :=
  (Option.bind (app ([] : List Int) s_0) fun l13 => (some (l13)))

/-- math/bits.Sub32 -/
def bits_Sub32 (fuel : Nat) (x_0 : Int) (y_1 : Int) (borrow_2 : Int) : Option (Int × Int) :=
  (Option.bind (some (IntKind.u32.wrap ((IntKind.u32.wrap (x_0 - y_1)) - borrow_2))) fun n1 => (Option.bind (some (((bwOr .u32 (bwAnd .u32 (bwXor .u32 4294967295 x_0) y_1) (bwAnd .u32 (bwXor .u32 4294967295 (bwXor .u32 x_0 y_1)) n1))).fdiv (2 ^ 31))) fun n3 => (some ((n1, n3)))))

/-- brindlewood/natural.sub -/
def natural_sub (fuel : Nat) (a_0 : (List Int)) (b_1 : (List Int)) : Option (List Int) :=
  (Option.bind (slices_Clone_suint32_uint32 fuel a_0) fun r1 => (Option.bind (loopN (fun (s13 : ((List Int) × Int × Int)) => (if (decide (s13.2.2 < ((List.length r1 : Nat) : Int))) then (Option.bind (if (decide (s13.2.2 < ((List.length b_1 : Nat) : Int))) then (Option.bind (idx b_1 s13.2.2) fun x26 => (some (x26))) else (some (0))) fun (j23 : Int) => (Option.bind (idx s13.1 s13.2.2) fun x32 => (Option.bind (bits_Sub32 fuel x32 j23 s13.2.1) fun r34 => (Option.bind (idx s13.1 s13.2.2) fun x39 => (Option.bind (upd s13.1 s13.2.2 r34.1) fun l42 => (some (.inl (l42, r34.2, (IntKind.i64.wrap (s13.2.2 + 1)))))))))) else (some (.inr (s13.1))))) fuel (r1, 0, 0)) fun (j11 : (List Int)) => (Option.bind (natural_trim fuel j11) fun r59 => (some (r59)))))

/-- brindlewood/natural.Sub -/
def natural_Sub (fuel : Nat) (a_0 : (List Int)) (b_1 : (List Int)) : Option ((List Int) × (Int × Int)) :=
  (Option.bind (natural_check fuel a_0 b_1) fun r7 => (if (r7.1 != 0) then (some ((([] : List Int), (r7.1, r7.2)))) else (Option.bind (natural_compare fuel a_0 b_1) fun r43 => (if (decide (r43 < 0)) then (Option.bind (natural_at fuel 4 (-2)) fun r54 => (some ((([] : List Int), (r54.1, r54.2))))) else (Option.bind (natural_sub fuel a_0 b_1) fun r71 => (some ((r71, (0, 0)))))))))

/-- brindlewood/integer.plus -/
def integer_plus (fuel : Nat) (a_0 : (Bool × (List Int))) (b_1 : (Bool × (List Int))) : Option ((Bool × (List Int)) × (Int × Int)) :=
  (if (a_0.1 == b_1.1) then (Option.bind (natural_Add fuel a_0.2 b_1.2) fun r30 => (Option.bind (integer_signed fuel a_0.1 r30.1) fun r64 => (some (((r64.1.1, r64.1.2), (r64.2.1, r64.2.2)))))) else (Option.bind (natural_Cmp fuel a_0.2 b_1.2) fun r116 => (Option.bind (if (decide (r116.1 < 0)) then (some (((b_1.1, b_1.2), (a_0.1, a_0.2)))) else (some (((a_0.1, a_0.2), (b_1.1, b_1.2))))) fun (j133 : ((Bool × (List Int)) × (Bool × (List Int)))) => (Option.bind (natural_Sub fuel j133.1.2 j133.2.2) fun r206 => (Option.bind (integer_signed fuel j133.1.1 r206.1) fun r238 => (some (((r238.1.1, r238.1.2), (r238.2.1, r238.2.2)))))))))

/-- brindlewood/integer.Sub -/
def integer_Sub (fuel : Nat) (a_0 : (Bool × (List Int))) (b_1 : (Bool × (List Int))) : Option ((Bool × (List Int)) × (Int × Int)) :=
  (Option.bind (integer_check fuel ([(a_0.1, a_0.2), (b_1.1, b_1.2)] : List (Bool × (List Int)))) fun r62 => (if (r62.1 != 0) then (some (((false, ([] : List Int)), (r62.1, r62.2)))) else (Option.bind (integer_plus fuel (a_0.1, a_0.2) ((!b_1.1), b_1.2)) fun r121 => (some (((r121.1.1, r121.1.2), (r121.2.1, r121.2.2)))))))

/-- math/bits.Len32 -/
def bits_Len32 (fuel : Nat) (x_0 : Int) : Option Int :=
  (Option.bind (if (decide (x_0 ≥ 65536)) then (some ((((x_0).fdiv (2 ^ 16)), 16))) else (some ((x_0, 0)))) fun (j1 : (Int × Int)) => (Option.bind (if (decide (j1.1 ≥ 256)) then (some ((((j1.1).fdiv (2 ^ 8)), (IntKind.i64.wrap (j1.2 + 8))))) else (some ((j1.1, j1.2)))) fun (j6 : (Int × Int)) => (Option.bind (sidx (strOf [0, 1, 2, 2, 3, 3, 3, 3, 4, 4, 4, 4, 4, 4, 4, 4, 5, 5, 5, 5, 5, 5, 5, 5, 5, 5, 5, 5, 5, 5, 5, 5, 6, 6, 6, 6, 6, 6, 6, 6, 6, 6, 6, 6, 6, 6, 6, 6, 6, 6, 6, 6, 6, 6, 6, 6, 6, 6, 6, 6, 6, 6, 6, 6, 7, 7, 7, 7, 7, 7, 7, 7, 7, 7, 7, 7, 7, 7, 7, 7, 7, 7, 7, 7, 7, 7, 7, 7, 7, 7, 7, 7, 7, 7, 7, 7, 7, 7, 7, 7, 7, 7, 7, 7, 7, 7, 7, 7, 7, 7, 7, 7, 7, 7, 7, 7, 7, 7, 7, 7, 7, 7, 7, 7, 7, 7, 7, 7, 8, 8, 8, 8, 8, 8, 8, 8, 8, 8, 8, 8, 8, 8, 8, 8, 8, 8, 8, 8, 8, 8, 8, 8, 8, 8, 8, 8, 8, 8, 8, 8, 8, 8, 8, 8, 8, 8, 8, 8, 8, 8, 8, 8, 8, 8, 8, 8, 8, 8, 8, 8, 8, 8, 8, 8, 8, 8, 8, 8, 8, 8, 8, 8, 8, 8, 8, 8, 8, 8, 8, 8, 8, 8, 8, 8, 8, 8, 8, 8, 8, 8, 8, 8, 8, 8, 8, 8, 8, 8, 8, 8, 8, 8, 8, 8, 8, 8, 8, 8, 8, 8, 8, 8, 8, 8, 8, 8, 8, 8, 8, 8, 8, 8, 8, 8, 8, 8, 8, 8, 8, 8, 8, 8, 8, 8, 8, 8]) (IntKind.u8.wrap (j6.1))) fun x11 => (Option.bind (some (IntKind.i64.wrap (j6.2 + (IntKind.i64.wrap (x11))))) fun n13 => (some (n13))))))

/-- brindlewood/natural.Bits -/
def natural_Bits (fuel : Nat) (a_0 : (List Int)) : Option (Int × (Int × Int)) :=
  (Option.bind (natural_Valid fuel a_0) fun r7 => (if (!r7) then (Option.bind (natural_at fuel 6 (-1)) fun r14 => (some ((0, (r14.1, r14.2))))) else (if (((List.length a_0 : Nat) : Int) == 0) then (some ((0, (0, 0)))) else (Option.bind (idx a_0 (IntKind.i64.wrap (((List.length a_0 : Nat) : Int) - 1))) fun x37 => (Option.bind (bits_Len32 fuel x37) fun r40 => (Option.bind (some (IntKind.i64.wrap ((IntKind.i64.wrap (32 * (IntKind.i64.wrap (((List.length a_0 : Nat) : Int) - 1)))) + r40))) fun n51 => (some ((n51, (0, 0))))))))))

/-- brindlewood/integer.Bits -/
def integer_Bits (fuel : Nat) (a_0 : (Bool × (List Int))) : Option (Int × (Int × Int)) :=
  (Option.bind (integer_check fuel ([(a_0.1, a_0.2)] : List (Bool × (List Int)))) fun r38 => (if (r38.1 != 0) then (some ((0, (r38.1, r38.2)))) else (Option.bind (natural_Bits fuel a_0.2) fun r81 => (some ((r81.1, (r81.2.1, r81.2.2)))))))

/-- (*brindlewood/random.source).bits -/
def random_source_bits (fuel : Nat) (s_0 : ((Int × Int))) (n_1 : Int) : Option ((Bool × (List Int)) × ((Int × Int))) :=
  (Option.bind (loopN (fun (s9 : (Int × (List Int) × ((Int × Int)))) => (if (decide (s9.1 > 0)) then (Option.bind (random_source_next fuel (s9.2.2.1, s9.2.2.2)) fun r24 => (Option.bind (some (IntKind.u32.wrap (((r24.1).fdiv (2 ^ 32))))) fun n30 => (Option.bind (if (decide (s9.1 < 32)) then (Option.bind (nn (IntKind.i64.wrap (32 - s9.1))) fun _ => (Option.bind (some (shrI .u32 n30 (IntKind.i64.wrap (32 - s9.1)))) fun n36 => (some (n36)))) else (some (n30))) fun (j32 : Int) => (Option.bind (app s9.2.1 ([j32] : List Int)) fun l63 => (some (.inl ((IntKind.i64.wrap (s9.1 - 32)), l63, (r24.2.1, r24.2.2)))))))) else (some (.inr ((s9.2.1, (s9.2.2.1, s9.2.2.2))))))) fuel (n_1, ([] : List Int), (s_0.1, s_0.2))) fun (j7 : ((List Int) × ((Int × Int)))) => (Option.bind (loopN (fun (s98 : (List Int)) => (Option.bind (if (decide (((List.length s98 : Nat) : Int) > 0)) then (Option.bind (idx s98 (IntKind.i64.wrap (((List.length s98 : Nat) : Int) - 1))) fun x113 => (some ((x113 == 0)))) else (some (false))) fun (j110 : Bool) => (if j110 then (Option.bind (sub s98 0 (IntKind.i64.wrap (((List.length s98 : Nat) : Int) - 1))) fun x122 => (some (.inl x122))) else (some (.inr (s98)))))) fuel j7.1) fun (j96 : (List Int)) => (some (((false, j96), (j7.2.1, j7.2.2))))))

/-- brindlewood/integer.Cmp -/
def integer_Cmp (fuel : Nat) (a_0 : (Bool × (List Int))) (b_1 : (Bool × (List Int))) : Option (Int × (Int × Int)) :=
  (Option.bind (integer_check fuel ([(a_0.1, a_0.2), (b_1.1, b_1.2)] : List (Bool × (List Int)))) fun r50 => (if (r50.1 != 0) then (some ((0, (r50.1, r50.2)))) else (Option.bind (natural_Cmp fuel a_0.2 b_1.2) fun r97 => (Option.bind (if a_0.1 then (some (b_1.1)) else (some (false))) fun (j117 : Bool) => (if j117 then (some (((IntKind.i64.wrap (0 - r97.1)), (0, 0)))) else (if a_0.1 then (some (((-1), (0, 0)))) else (if b_1.1 then (some ((1, (0, 0)))) else (some ((r97.1, (0, 0)))))))))))

/-- (*brindlewood/random.source).below -/
def random_source_below (fuel : Nat) (s_0 : ((Int × Int))) (n_1 : (Bool × (List Int))) : Option ((Bool × (List Int)) × ((Int × Int))) :=
  (Option.bind (integer_Of fuel 1) fun r36 => (Option.bind (integer_Sub fuel (n_1.1, n_1.2) (r36.1, r36.2)) fun r77 => (Option.bind (integer_Bits fuel (r77.1.1, r77.1.2)) fun r249 => (Option.bind (loopN (fun (s267 : (((Int × Int)) × (Bool × (List Int)))) => (Option.bind (random_source_bits fuel (s267.1.1, s267.1.2) r249.1) fun r296 => (Option.bind (integer_Cmp fuel (r296.1.1, r296.1.2) (n_1.1, n_1.2)) fun r325 => (if (decide (r325.1 < 0)) then (some (.inr (.inr (((r296.1.1, r296.1.2), (r296.2.1, r296.2.2)))))) else (some (.inl ((r296.2.1, r296.2.2), (s267.2.1, s267.2.2)))))))) fuel ((s_0.1, s_0.2), (false, ([] : List Int)))) (cont fun (s265 : (((Int × Int)) × (Bool × (List Int)))) => (some (((s265.2.1, s265.2.2), (s265.1.1, s265.1.2)))))))))

/-- brindlewood/random.Below -/
def random_Below (fuel : Nat) (g_0 : (Int × Int)) (n_1 : (Bool × (List Int))) : Option ((Bool × (List Int)) × (Int × Int) × (Int × Int)) :=
  (Option.bind (random_open fuel (g_0.1, g_0.2)) fun r33 => (optc r33.1 (if (r33.2.1 != 0) then (some (((false, ([] : List Int)), (0, 0), (r33.2.1, r33.2.2)))) else (Option.bind (integer_Valid fuel (n_1.1, n_1.2)) fun r115 => (if (!r115) then (Option.bind (random_at fuel 6 (-2)) fun r127 => (some (((false, ([] : List Int)), (0, 0), (r127.1, r127.2))))) else (Option.bind (if n_1.1 then (some (true)) else (some ((((List.length n_1.2 : Nat) : Int) == 0)))) fun (j167 : Bool) => (if j167 then (Option.bind (random_at fuel 4 (-2)) fun r196 => (some (((false, ([] : List Int)), (0, 0), (r196.1, r196.2))))) else (none)))))) fun x42 => (if (r33.2.1 != 0) then (some (((false, ([] : List Int)), (0, 0), (r33.2.1, r33.2.2)))) else (Option.bind (integer_Valid fuel (n_1.1, n_1.2)) fun r307 => (if (!r307) then (Option.bind (random_at fuel 6 (-2)) fun r318 => (some (((false, ([] : List Int)), (0, 0), (r318.1, r318.2))))) else (Option.bind (if n_1.1 then (some (true)) else (some ((((List.length n_1.2 : Nat) : Int) == 0)))) fun (j361 : Bool) => (if j361 then (Option.bind (random_at fuel 4 (-2)) fun r399 => (some (((false, ([] : List Int)), (0, 0), (r399.1, r399.2))))) else (Option.bind (random_source_below fuel (x42.1, x42.2) (n_1.1, n_1.2)) fun r433 => (some (((r433.1.1, r433.1.2), (r433.2.1, r433.2.2), (0, 0))))))))))))

/-- brindlewood/brindlewoodref4.Mixed -/
def ref4_Mixed (fuel : Nat) (x_0 : Int) : Option Int :=
  (Option.bind (some (bwXor .u64 x_0 (IntKind.u64.wrap ((x_0).tdiv 1073741824)))) fun n1 => (Option.bind (some (IntKind.u64.wrap (n1 * 13787848793156543929))) fun n3 => (Option.bind (some (bwXor .u64 n3 (IntKind.u64.wrap ((n3).tdiv 134217728)))) fun n5 => (Option.bind (some (IntKind.u64.wrap (n5 * 10723151780598845931))) fun n7 => (Option.bind (some (bwXor .u64 n7 (IntKind.u64.wrap ((n7).tdiv 2147483648)))) fun n9 => (some (n9)))))))

/-- brindlewood/brindlewoodref4.Seeded -/
def ref4_Seeded (fuel : Nat) (n_0 : (Bool × (List Int))) : Option (Int × Int) :=
  (Option.bind (some (IntKind.u64.wrap (((List.length n_0.2 : Nat) : Int)))) fun n14 => (Option.bind (if n_0.1 then (some ((bwXor .u64 18446744073709551615 n14))) else (some (n14))) fun (j16 : Int) => (Option.bind (loopN (fun (s29 : (Int × Int)) => (if (decide (s29.2 < ((List.length n_0.2 : Nat) : Int))) then (Option.bind (idx n_0.2 s29.2) fun x36 => (Option.bind (ref4_Mixed fuel (IntKind.u64.wrap ((IntKind.u64.wrap ((IntKind.u64.wrap (s29.1 * 6364136223846793005)) + (IntKind.u64.wrap (x36)))) + 1))) fun r38 => (some (.inl (r38, (IntKind.i64.wrap (s29.2 + 1))))))) else (some (.inr (s29.1))))) fuel (j16, 0)) fun (j27 : Int) => (some ((j27, 1442695040888963407))))))

/-- (*brindlewood/brindlewoodref4.Random).Draw -/
def ref4_Random_Draw (fuel : Nat) (g_0 : ((Int × Int))) : Option (Int × ((Int × Int))) :=
  (Option.bind (ref4_Mixed fuel (IntKind.u64.wrap ((IntKind.u64.wrap (g_0.1 * 6364136223846793005)) + g_0.2))) fun r9 => (some ((r9, ((IntKind.u64.wrap ((IntKind.u64.wrap (g_0.1 * 6364136223846793005)) + g_0.2)), g_0.2)))))

/-- brindlewood/brindlewoodref3.NoInt -/
def ref3_NoInt (fuel : Nat) (a_0 : (Bool × (List Int))) : Option Bool :=
  (Option.bind (if (!a_0.1) then (some ((((List.length a_0.2 : Nat) : Int) == 0))) else (some (false))) fun (j7 : Bool) => (some (j7)))

/-- brindlewood/brindlewoodlaw4.draws -/
def law4_draws (fuel : Nat)  : Option Bool :=
  (Option.bind (law4_whole fuel 0) fun r1 => (Option.bind (random_Seed fuel (r1.2.1.1, r1.2.1.2)) fun r17 => (Option.bind (random_Next fuel (r17.1.1, r17.1.2)) fun r46 => (Option.bind (law4_whole fuel 1) fun r124 => (Option.bind (random_Below fuel (r17.1.1, r17.1.2) (r124.2.1.1, r124.2.1.2)) fun r178 => (Option.bind (law4_whole fuel 0) fun r436 => (Option.bind (ref4_Seeded fuel (r436.2.1.1, r436.2.1.2)) fun r452 => (Option.bind (ref4_Random_Draw fuel (r452.1, r452.2)) fun r467 => (Option.bind (if (r17.2.1 == 0) then (if (r46.2.2.1 == 0) then (if (r178.2.2.1 == 0) then (if (r17.1.1 == 0) then (if (r46.1 == r467.1) then (if ((r46.2.1.1 == r467.2.1) && (r46.2.1.2 == r467.2.2)) then (Option.bind (ref3_NoInt fuel (r178.1.1, r178.1.2)) fun r498 => (if r498 then (Option.bind (some ((r178.2.1.1 == r17.1.1) && (r178.2.1.2 == r17.1.2))) fun n511 => (some (n511))) else (some (false)))) else (some (false))) else (some (false))) else (some (false))) else (some (false))) else (some (false))) else (some (false))) fun (j473 : Bool) => (some (j473)))))))))))

/-- brindlewood/brindlewoodref3.IntOk -/
def ref3_IntOk (fuel : Nat) (a_0 : (Bool × (List Int))) : Option Bool :=
  (Option.bind (if (decide (((List.length a_0.2 : Nat) : Int) ≤ 128)) then (if (((List.length a_0.2 : Nat) : Int) == 0) then (if (!a_0.1) then (some (true)) else (if (decide (((List.length a_0.2 : Nat) : Int) > 0)) then (Option.bind (idx a_0.2 (IntKind.i64.wrap (((List.length a_0.2 : Nat) : Int) - 1))) fun x14 => (some ((x14 != 0)))) else (some (false)))) else (if (decide (((List.length a_0.2 : Nat) : Int) > 0)) then (Option.bind (idx a_0.2 (IntKind.i64.wrap (((List.length a_0.2 : Nat) : Int) - 1))) fun x19 => (some ((x19 != 0)))) else (some (false)))) else (some (false))) fun (j7 : Bool) => (some (j7)))

/-- brindlewood/brindlewoodref4.At -/
def ref4_At (fuel : Nat) (code_0 : Int) (index_1 : Int) : Option (Int × Int) :=
  (some ((code_0, index_1)))

/-- brindlewood/integer.Add -/
def integer_Add (fuel : Nat) (a_0 : (Bool × (List Int))) (b_1 : (Bool × (List Int))) : Option ((Bool × (List Int)) × (Int × Int)) :=
  (Option.bind (integer_check fuel ([(a_0.1, a_0.2), (b_1.1, b_1.2)] : List (Bool × (List Int)))) fun r62 => (if (r62.1 != 0) then (some (((false, ([] : List Int)), (r62.1, r62.2)))) else (Option.bind (integer_plus fuel (a_0.1, a_0.2) (b_1.1, b_1.2)) fun r121 => (some (((r121.1.1, r121.1.2), (r121.2.1, r121.2.2)))))))

/-- brindlewood/random.Between -/
def random_Between (fuel : Nat) (g_0 : (Int × Int)) (low_1 : (Bool × (List Int))) (high_2 : (Bool × (List Int))) : Option ((Bool × (List Int)) × (Int × Int) × (Int × Int)) :=
  (Option.bind (random_open fuel (g_0.1, g_0.2)) fun r39 => (optc r39.1 (if (r39.2.1 != 0) then (some (((false, ([] : List Int)), (0, 0), (r39.2.1, r39.2.2)))) else (Option.bind (integer_Valid fuel (low_1.1, low_1.2)) fun r123 => (if (!r123) then (Option.bind (random_at fuel 6 (-2)) fun r135 => (some (((false, ([] : List Int)), (0, 0), (r135.1, r135.2))))) else (Option.bind (integer_Valid fuel (high_2.1, high_2.2)) fun r180 => (if (!r180) then (Option.bind (random_at fuel 6 (-3)) fun r187 => (some (((false, ([] : List Int)), (0, 0), (r187.1, r187.2))))) else (Option.bind (integer_Cmp fuel (high_2.1, high_2.2) (low_1.1, low_1.2)) fun r230 => (if (decide (r230.1 < 0)) then (Option.bind (random_at fuel 4 (-3)) fun r247 => (some (((false, ([] : List Int)), (0, 0), (r247.1, r247.2))))) else (Option.bind (integer_Sub fuel (high_2.1, high_2.2) (low_1.1, low_1.2)) fun r305 => (Option.bind (if (r305.2.1 == 0) then (Option.bind (integer_Of fuel 1) fun r347 => (Option.bind (integer_Add fuel (r305.1.1, r305.1.2) (r347.1, r347.2)) fun r363 => (some (((r363.2.1, r363.2.2), (r363.1.1, r363.1.2)))))) else (some (((r305.2.1, r305.2.2), (r305.1.1, r305.1.2))))) fun (j340 : ((Int × Int) × (Bool × (List Int)))) => (if (j340.1.1 != 0) then (Option.bind (random_at fuel 14 (-3)) fun r527 => (some (((false, ([] : List Int)), (0, 0), (r527.1, r527.2))))) else (none))))))))))) fun x48 => (if (r39.2.1 != 0) then (some (((false, ([] : List Int)), (0, 0), (r39.2.1, r39.2.2)))) else (Option.bind (integer_Valid fuel (low_1.1, low_1.2)) fun r639 => (if (!r639) then (Option.bind (random_at fuel 6 (-2)) fun r650 => (some (((false, ([] : List Int)), (0, 0), (r650.1, r650.2))))) else (Option.bind (integer_Valid fuel (high_2.1, high_2.2)) fun r698 => (if (!r698) then (Option.bind (random_at fuel 6 (-3)) fun r705 => (some (((false, ([] : List Int)), (0, 0), (r705.1, r705.2))))) else (Option.bind (integer_Cmp fuel (high_2.1, high_2.2) (low_1.1, low_1.2)) fun r752 => (if (decide (r752.1 < 0)) then (Option.bind (random_at fuel 4 (-3)) fun r769 => (some (((false, ([] : List Int)), (0, 0), (r769.1, r769.2))))) else (Option.bind (integer_Sub fuel (high_2.1, high_2.2) (low_1.1, low_1.2)) fun r832 => (Option.bind (if (r832.2.1 == 0) then (Option.bind (integer_Of fuel 1) fun r874 => (Option.bind (integer_Add fuel (r832.1.1, r832.1.2) (r874.1, r874.2)) fun r890 => (some (((r890.2.1, r890.2.2), (r890.1.1, r890.1.2)))))) else (some (((r832.2.1, r832.2.2), (r832.1.1, r832.1.2))))) fun (j867 : ((Int × Int) × (Bool × (List Int)))) => (if (j867.1.1 != 0) then (Option.bind (random_at fuel 14 (-3)) fun r1078 => (some (((false, ([] : List Int)), (0, 0), (r1078.1, r1078.2))))) else (Option.bind (random_source_below fuel (x48.1, x48.2) (j867.2.1, j867.2.2)) fun r1152 => (Option.bind (integer_Add fuel (low_1.1, low_1.2) (r1152.1.1, r1152.1.2)) fun r1226 => (some (((r1226.1.1, r1226.1.2), (r1152.2.1, r1152.2.2), (0, 0))))))))))))))))))

/-- brindlewood/brindlewoodref3.trim -/
def ref3_trim (fuel : Nat) (a_0 : (List Int)) : Option (List Int) :=
  (Option.bind (loopN (fun (s3 : (List Int)) => (Option.bind (if (decide (((List.length s3 : Nat) : Int) > 0)) then (Option.bind (idx s3 (IntKind.i64.wrap (((List.length s3 : Nat) : Int) - 1))) fun x13 => (some ((x13 == 0)))) else (some (false))) fun (j10 : Bool) => (if j10 then (Option.bind (sub s3 0 (IntKind.i64.wrap (((List.length s3 : Nat) : Int) - 1))) fun x19 => (some (.inl x19))) else (some (.inr (s3)))))) fuel a_0) fun (j1 : (List Int)) => (some (j1)))

/-- brindlewood/brindlewoodref3.Of -/
def ref3_Of (fuel : Nat) (limbs_0 : (List Int)) : Option (List Int) :=
  (Option.bind (loopN (fun (s3 : ((List Int) × Int)) => (if (decide (s3.2 < ((List.length limbs_0 : Nat) : Int))) then (Option.bind (idx limbs_0 s3.2) fun x14 => (Option.bind (idx limbs_0 s3.2) fun x17 => (Option.bind (app s3.1 ([(IntKind.i64.wrap (((x14).tmod 65536))), (IntKind.i64.wrap ((IntKind.u32.wrap ((x17).tdiv 65536))))] : List Int)) fun l31 => (some (.inl (l31, (IntKind.i64.wrap (s3.2 + 1)))))))) else (some (.inr (s3.1))))) fuel (([] : List Int), 0)) fun (j1 : (List Int)) => (Option.bind (ref3_trim fuel j1) fun r57 => (some (r57))))

/-- brindlewood/brindlewoodref3.IntOf -/
def ref3_IntOf (fuel : Nat) (a_0 : (Bool × (List Int))) : Option (Bool × (List Int)) :=
  (Option.bind (ref3_Of fuel a_0.2) fun r18 => (some ((a_0.1, r18))))

/-- brindlewood/brindlewoodref3.Binary -/
def ref3_Binary (fuel : Nat) (l_0 : (List Bool)) : Option (List Int) :=
  (Option.bind (loopN (fun (s3 : ((List Int) × Int)) => (if (decide (s3.2 < ((List.length l_0 : Nat) : Int))) then (Option.bind (loopN (fun (s14 : (Int × Int)) => (if (decide (s14.2 ≥ 0)) then (Option.bind (if (decide ((IntKind.i64.wrap (s3.2 + s14.2)) < ((List.length l_0 : Nat) : Int))) then (Option.bind (idx l_0 (IntKind.i64.wrap (s3.2 + s14.2))) fun x23 => (some (x23))) else (some (false))) fun (j20 : Bool) => (Option.bind (if j20 then (Option.bind (some (IntKind.i64.wrap ((IntKind.i64.wrap (s14.1 * 2)) + 1))) fun n32 => (some (n32))) else (some ((IntKind.i64.wrap (s14.1 * 2))))) fun (j29 : Int) => (some (.inl (j29, (IntKind.i64.wrap (s14.2 - 1))))))) else (some (.inr (s14.1))))) fuel (0, 15)) fun (j12 : Int) => (Option.bind (app s3.1 ([j12] : List Int)) fun l55 => (some (.inl (l55, (IntKind.i64.wrap (s3.2 + 16))))))) else (some (.inr (s3.1))))) fuel (([] : List Int), 0)) fun (j1 : (List Int)) => (Option.bind (ref3_trim fuel j1) fun r79 => (some (r79))))

/-- brindlewood/brindlewoodref3.Number -/
def ref3_Number (fuel : Nat) (n_0 : Int) : Option (Bool × (List Int)) :=
  (Option.bind (loopN (fun (s9 : (Int × (List Bool))) => (if (s9.1 != 0) then (Option.bind (app s9.2 ([(((s9.1).tmod 2) != 0)] : List Bool)) fun l33 => (some (.inl ((IntKind.i64.wrap ((s9.1).tdiv 2)), l33)))) else (some (.inr (s9.2))))) fuel (n_0, ([] : List Bool))) fun (j7 : (List Bool)) => (Option.bind (ref3_Binary fuel j7) fun r64 => (some (((decide (n_0 < 0)), r64)))))

/-- brindlewood/brindlewoodref3.Plus -/
def ref3_Plus (fuel : Nat) (a_0 : (List Int)) (b_1 : (List Int)) : Option (List Int) :=
  (Option.bind (loopN (fun (s3 : ((List Int) × Int × Int)) => (if ((decide (s3.2.2 < ((List.length a_0 : Nat) : Int))) || ((decide (s3.2.2 < ((List.length b_1 : Nat) : Int))) || (decide (s3.2.1 > 0)))) then (Option.bind (if (decide (s3.2.2 < ((List.length a_0 : Nat) : Int))) then (Option.bind (idx a_0 s3.2.2) fun x18 => (some ((IntKind.i64.wrap (s3.2.1 + x18))))) else (some (s3.2.1))) fun (j15 : Int) => (Option.bind (if (decide (s3.2.2 < ((List.length b_1 : Nat) : Int))) then (Option.bind (idx b_1 s3.2.2) fun x27 => (some ((IntKind.i64.wrap (j15 + x27))))) else (some (j15))) fun (j24 : Int) => (Option.bind (app s3.1 ([((j24).tmod 65536)] : List Int)) fun l44 => (some (.inl (l44, (IntKind.i64.wrap ((j24).tdiv 65536)), (IntKind.i64.wrap (s3.2.2 + 1)))))))) else (some (.inr (s3.1))))) fuel (([] : List Int), 0, 0)) fun (j1 : (List Int)) => (Option.bind (ref3_trim fuel j1) fun r68 => (some (r68))))

/-- brindlewood/brindlewoodref3.Compare -/
def ref3_Compare (fuel : Nat) (a_0 : (List Int)) (b_1 : (List Int)) : Option Int :=
  (if (((List.length a_0 : Nat) : Int) != ((List.length b_1 : Nat) : Int)) then (if (decide (((List.length a_0 : Nat) : Int) < ((List.length b_1 : Nat) : Int))) then (some ((-1))) else (some (1))) else (Option.bind (some (IntKind.i64.wrap (((List.length a_0 : Nat) : Int) - 1))) fun n3 => (Option.bind (loopN (fun (s8 : Int) => (if (decide (s8 ≥ 0)) then (Option.bind (idx a_0 s8) fun x15 => (Option.bind (idx b_1 s8) fun x18 => (if (decide (x15 < x18)) then (some (.inr (.inr ((-1))))) else (Option.bind (idx a_0 s8) fun x24 => (Option.bind (idx b_1 s8) fun x27 => (if (decide (x24 > x27)) then (some (.inr (.inr (1)))) else (some (.inl (IntKind.i64.wrap (s8 - 1)))))))))) else (some (.inr (.inl ()))))) fuel n3) (cont fun (s6 : Unit) => (some (0))))))

/-- brindlewood/brindlewoodref3.Minus -/
def ref3_Minus (fuel : Nat) (a_0 : (List Int)) (b_1 : (List Int)) : Option (List Int) :=
  (Option.bind (loopN (fun (s3 : ((List Int) × Int × Int)) => (if (decide (s3.2.2 < ((List.length a_0 : Nat) : Int))) then (Option.bind (idx a_0 s3.2.2) fun x12 => (Option.bind (if (decide (s3.2.2 < ((List.length b_1 : Nat) : Int))) then (Option.bind (idx b_1 s3.2.2) fun x17 => (Option.bind (some (IntKind.i64.wrap ((IntKind.i64.wrap (x12 - s3.2.1)) - x17))) fun n19 => (some (n19)))) else (some ((IntKind.i64.wrap (x12 - s3.2.1))))) fun (j14 : Int) => (Option.bind (if (decide (j14 < 0)) then (some ((1, (IntKind.i64.wrap (j14 + 65536))))) else (some ((0, j14)))) fun (j25 : (Int × Int)) => (Option.bind (app s3.1 ([j25.2] : List Int)) fun l43 => (some (.inl (l43, j25.1, (IntKind.i64.wrap (s3.2.2 + 1))))))))) else (some (.inr (s3.1))))) fuel (([] : List Int), 0, 0)) fun (j1 : (List Int)) => (Option.bind (ref3_trim fuel j1) fun r67 => (some (r67))))

/-- (brindlewood/brindlewoodref3.Int).Plus -/
def ref3_Int_Plus (fuel : Nat) (a_0 : (Bool × (List Int))) (b_1 : (Bool × (List Int))) : Option (Bool × (List Int)) :=
  (if (a_0.1 == b_1.1) then (Option.bind (ref3_Plus fuel a_0.2 b_1.2) fun r28 => (some ((a_0.1, r28)))) else (Option.bind (ref3_Compare fuel a_0.2 b_1.2) fun r57 => (if (decide (r57 ≥ 0)) then (Option.bind (ref3_Minus fuel a_0.2 b_1.2) fun r71 => (some ((a_0.1, r71)))) else (Option.bind (ref3_Minus fuel b_1.2 a_0.2) fun r105 => (some ((b_1.1, r105)))))))

/-- brindlewood/brindlewoodref3.Ones -/
def ref3_Ones (fuel : Nat) (a_0 : (List Int)) : Option (List Bool) :=
  (Option.bind (loopN (fun (s3 : ((List Bool) × Int)) => (if (decide (s3.2 < ((List.length a_0 : Nat) : Int))) then (Option.bind (idx a_0 s3.2) fun x12 => (Option.bind (loopN (fun (s16 : ((List Bool) × Int × Int)) => (if (decide (s16.2.2 < 16)) then (Option.bind (app s16.1 ([(((s16.2.1).tmod 2) == 1)] : List Bool)) fun l36 => (some (.inl (l36, (IntKind.i64.wrap ((s16.2.1).tdiv 2)), (IntKind.i64.wrap (s16.2.2 + 1)))))) else (some (.inr (s16.1))))) fuel (s3.1, x12, 0)) fun (j14 : (List Bool)) => (some (.inl (j14, (IntKind.i64.wrap (s3.2 + 1))))))) else (some (.inr (s3.1))))) fuel (([] : List Bool), 0)) fun (j1 : (List Bool)) => (Option.bind (loopN (fun (s71 : (List Bool)) => (Option.bind (if (decide (((List.length s71 : Nat) : Int) > 0)) then (Option.bind (idx s71 (IntKind.i64.wrap (((List.length s71 : Nat) : Int) - 1))) fun x82 => (some ((!x82)))) else (some (false))) fun (j79 : Bool) => (if j79 then (Option.bind (sub s71 0 (IntKind.i64.wrap (((List.length s71 : Nat) : Int) - 1))) fun x89 => (some (.inl x89))) else (some (.inr (s71)))))) fuel j1) fun (j69 : (List Bool)) => (some (j69))))

/-- (brindlewood/brindlewoodref3.Int).Order -/
def ref3_Int_Order (fuel : Nat) (a_0 : (Bool × (List Int))) (b_1 : (Bool × (List Int))) : Option Int :=
  (Option.bind (if a_0.1 then (if b_1.1 then (Option.bind (some (decide (((List.length a_0.2 : Nat) : Int) > 0))) fun n23 => (Option.bind (some (decide (((List.length b_1.2 : Nat) : Int) > 0))) fun n25 => (some ((n23, n25))))) else (Option.bind (some (decide (((List.length a_0.2 : Nat) : Int) > 0))) fun n30 => (some ((n30, false))))) else (if b_1.1 then (Option.bind (some (decide (((List.length b_1.2 : Nat) : Int) > 0))) fun n37 => (some ((false, n37)))) else (some ((false, false))))) fun (j13 : (Bool × Bool)) => (if (j13.1 && j13.2) then (Option.bind (ref3_Compare fuel b_1.2 a_0.2) fun r52 => (some (r52))) else (if j13.1 then (some ((-1))) else (if j13.2 then (some (1)) else (Option.bind (ref3_Compare fuel a_0.2 b_1.2) fun r60 => (some (r60)))))))

/-- (*brindlewood/brindlewoodref4.Random).Below -/
def ref4_Random_Below (fuel : Nat) (g_0 : ((Int × Int))) (n_1 : (Bool × (List Int))) : Option ((Bool × (List Int)) × Bool × ((Int × Int))) :=
  (Option.bind (ref3_Number fuel (-1)) fun r18 => (Option.bind (ref3_Int_Plus fuel (n_1.1, n_1.2) (r18.1, r18.2)) fun r32 => (Option.bind (ref3_Ones fuel r32.2) fun r45 => (Option.bind (loopN (fun (s59 : (Int × ((Int × Int)) × (Bool × (List Int)))) => (if (decide (s59.1 < 1000)) then (Option.bind (loopN (fun (s84 : ((List Bool) × Int × ((Int × Int)))) => (if (decide (s84.2.1 > 0)) then (Option.bind (ref4_Random_Draw fuel (s84.2.2.1, s84.2.2.2)) fun r103 => (Option.bind (if (decide (s84.2.1 > 32)) then (some (32)) else (some (s84.2.1))) fun (j109 : Int) => (Option.bind (nn (IntKind.u64.wrap ((IntKind.i64.wrap (64 - j109))))) fun _ => (Option.bind (some (shrI .u64 r103.1 (IntKind.u64.wrap ((IntKind.i64.wrap (64 - j109)))))) fun n137 => (Option.bind (loopN (fun (s141 : ((List Bool) × Int × Int)) => (if (decide (s141.2.2 > 0)) then (Option.bind (app s141.1 ([(((s141.2.1).tmod 2) == 1)] : List Bool)) fun l172 => (some (.inl (l172, (IntKind.u64.wrap ((s141.2.1).tdiv 2)), (IntKind.i64.wrap (s141.2.2 - 1)))))) else (some (.inr (s141.1))))) fuel (s84.1, n137, j109)) fun (j139 : (List Bool)) => (some (.inl (j139, (IntKind.i64.wrap (s84.2.1 - 32)), (r103.2.1, r103.2.2))))))))) else (some (.inr ((s84.1, (s84.2.2.1, s84.2.2.2))))))) fuel (([] : List Bool), ((List.length r45 : Nat) : Int), (s59.2.1.1, s59.2.1.2))) fun (j82 : ((List Bool) × ((Int × Int)))) => (Option.bind (ref3_Binary fuel j82.1) fun r239 => (Option.bind (ref3_Int_Order fuel (false, r239) (n_1.1, n_1.2)) fun r267 => (if (decide (r267 < 0)) then (some (.inr (.inr (((false, r239), true, (j82.2.1, j82.2.2)))))) else (some (.inl ((IntKind.i64.wrap (s59.1 + 1)), (j82.2.1, j82.2.2), (s59.2.2.1, s59.2.2.2)))))))) else (some (.inr (.inl ((s59.2.1.1, s59.2.1.2), (s59.2.2.1, s59.2.2.2))))))) fuel (0, (g_0.1, g_0.2), (false, ([] : List Int)))) (cont fun (s57 : (((Int × Int)) × (Bool × (List Int)))) => (some (((false, ([] : List Int)), false, (s57.1.1, s57.1.2)))))))))

/-- brindlewood/brindlewoodref3.Limbs -/
def ref3_Limbs (fuel : Nat) (a_0 : (List Int)) : Option (List Int) :=
  (Option.bind (loopN (fun (s3 : ((List Int) × Int)) => (if (decide (s3.2 < ((List.length a_0 : Nat) : Int))) then (Option.bind (idx a_0 s3.2) fun x12 => (Option.bind (if (decide ((IntKind.i64.wrap (s3.2 + 1)) < ((List.length a_0 : Nat) : Int))) then (Option.bind (idx a_0 (IntKind.i64.wrap (s3.2 + 1))) fun x17 => (Option.bind (some (IntKind.u32.wrap ((IntKind.u32.wrap (x12)) + (IntKind.u32.wrap ((IntKind.u32.wrap (x17)) * 65536))))) fun n19 => (some (n19)))) else (some ((IntKind.u32.wrap (x12))))) fun (j14 : Int) => (Option.bind (app s3.1 ([j14] : List Int)) fun l36 => (some (.inl (l36, (IntKind.i64.wrap (s3.2 + 2)))))))) else (some (.inr (s3.1))))) fuel (([] : List Int), 0)) fun (j1 : (List Int)) => (some (j1)))

/-- brindlewood/brindlewoodref3.SameLimbs -/
def ref3_SameLimbs (fuel : Nat) (a_0 : (List Int)) (b_1 : (List Int)) : Option Bool :=
  (if (((List.length a_0 : Nat) : Int) != ((List.length b_1 : Nat) : Int)) then (some (false)) else (Option.bind (loopN (fun (s5 : Int) => (if (decide (s5 < ((List.length a_0 : Nat) : Int))) then (Option.bind (idx a_0 s5) fun x12 => (Option.bind (idx b_1 s5) fun x15 => (if (x12 != x15) then (some (.inr (.inr (false)))) else (some (.inl (IntKind.i64.wrap (s5 + 1))))))) else (some (.inr (.inl ()))))) fuel 0) (cont fun (s3 : Unit) => (some (true)))))

/-- brindlewood/brindlewoodref3.SameInt -/
def ref3_SameInt (fuel : Nat) (a_0 : (Bool × (List Int))) (b_1 : (Bool × (List Int))) : Option Bool :=
  (Option.bind (if b_1.1 then (if (a_0.1 == (decide (((List.length b_1.2 : Nat) : Int) > 0))) then (Option.bind (ref3_Limbs fuel b_1.2) fun r24 => (Option.bind (ref3_SameLimbs fuel a_0.2 r24) fun r36 => (some (r36)))) else (some (false))) else (if (a_0.1 == false) then (Option.bind (ref3_Limbs fuel b_1.2) fun r50 => (Option.bind (ref3_SameLimbs fuel a_0.2 r50) fun r62 => (some (r62)))) else (some (false)))) fun (j13 : Bool) => (some (j13)))

/-- (brindlewood/brindlewoodref3.Int).Minus -/
def ref3_Int_Minus (fuel : Nat) (a_0 : (Bool × (List Int))) : Option (Bool × (List Int)) :=
  (Option.bind (if (!a_0.1) then (some (((decide (((List.length a_0.2 : Nat) : Int) > 0)), a_0.2))) else (some ((false, a_0.2)))) fun (j13 : (Bool × (List Int))) => (some ((j13.1, j13.2))))

/-- (brindlewood/brindlewoodref3.Int).Fits -/
def ref3_Int_Fits (fuel : Nat) (a_0 : (Bool × (List Int))) (limbs_1 : Int) : Option Bool :=
  (Option.bind (some (decide (((List.length a_0.2 : Nat) : Int) ≤ (IntKind.i64.wrap (2 * limbs_1))))) fun n7 => (some (n7)))

/-- brindlewood/brindlewoodlaw4.RandomIntegers -/
def law4_RandomIntegers (fuel : Nat) (g_0 : (Int × Int)) (n_1 : (Bool × (List Int))) (low_2 : (Bool × (List Int))) (high_3 : (Bool × (List Int))) : Option Bool :=
  (Option.bind (random_Below fuel (g_0.1, g_0.2) (n_1.1, n_1.2)) fun r29 => (Option.bind (random_Between fuel (g_0.1, g_0.2) (low_2.1, low_2.2) (high_3.1, high_3.2)) fun r99 => (Option.bind (law4_draws fuel ) fun r158 => (if (!r158) then (some (false)) else (Option.bind (if (((g_0.2).tmod 2) == 0) then (Option.bind (ref4_At fuel 6 (-1)) fun r200 => (some ((r200.1, r200.2)))) else (some ((0, 0)))) fun (j197 : (Int × Int)) => (Option.bind (if (j197.1 != 0) then (some ((j197.1, j197.2))) else (Option.bind (ref3_IntOk fuel (n_1.1, n_1.2)) fun r488 => (if (!r488) then (Option.bind (ref4_At fuel 6 (-2)) fun r497 => (some ((r497.1, r497.2)))) else (Option.bind (if n_1.1 then (some (true)) else (Option.bind (ref3_NoInt fuel (n_1.1, n_1.2)) fun r646 => (some (r646)))) fun (j591 : Bool) => (if j591 then (Option.bind (ref4_At fuel 4 (-2)) fun r724 => (some ((r724.1, r724.2)))) else (some ((j197.1, j197.2)))))))) fun (j415 : (Int × Int)) => (Option.bind (if (j415.1 != 0) then (Option.bind (if (!((r29.2.2.1 == j415.1) && (r29.2.2.2 == j415.2))) then (some (true)) else (Option.bind (ref3_NoInt fuel (r29.1.1, r29.1.2)) fun r829 => (if (!r829) then (some (true)) else (some ((!((r29.2.1.1 == 0) && (r29.2.1.2 == 0)))))))) fun (j826 : Bool) => (if j826 then (some (.inr (false))) else (some (.inl ())))) else (Option.bind (ref3_IntOf fuel (n_1.1, n_1.2)) fun r898 => (Option.bind (ref4_Random_Below fuel (g_0.1, g_0.2) (r898.1, r898.2)) fun r913 => (Option.bind (if r913.2.1 then (if (r29.2.2.1 != 0) then (some (true)) else (Option.bind (ref3_SameInt fuel (r29.1.1, r29.1.2) (r913.1.1, r913.1.2)) fun r1012 => (if (!r1012) then (some (true)) else (some ((!((r29.2.1.1 == r913.2.2.1) && (r29.2.1.2 == r913.2.2.2)))))))) else (some (false))) fun (j939 : Bool) => (if j939 then (some (.inr (false))) else (some (.inl ()))))))) (cont fun (s823 : Unit) => (Option.bind (if (j197.1 != 0) then (some ((j197.1, j197.2))) else (Option.bind (ref3_IntOk fuel (low_2.1, low_2.2)) fun r1227 => (if (!r1227) then (Option.bind (ref4_At fuel 6 (-2)) fun r1233 => (some ((r1233.1, r1233.2)))) else (Option.bind (ref3_IntOk fuel (high_3.1, high_3.2)) fun r1278 => (if (!r1278) then (Option.bind (ref4_At fuel 6 (-3)) fun r1285 => (some ((r1285.1, r1285.2)))) else (Option.bind (ref3_IntOf fuel (high_3.1, high_3.2)) fun r1337 => (Option.bind (ref3_IntOf fuel (low_2.1, low_2.2)) fun r1350 => (Option.bind (ref3_Int_Order fuel (r1337.1, r1337.2) (r1350.1, r1350.2)) fun r1364 => (if (decide (r1364 < 0)) then (Option.bind (ref4_At fuel 4 (-3)) fun r1372 => (some ((r1372.1, r1372.2)))) else (some ((j197.1, j197.2)))))))))))) fun (j1224 : (Int × Int)) => (Option.bind (if (j1224.1 == 0) then (Option.bind (ref3_IntOf fuel (high_3.1, high_3.2)) fun r1461 => (Option.bind (ref3_IntOf fuel (low_2.1, low_2.2)) fun r1474 => (Option.bind (ref3_Int_Minus fuel (r1474.1, r1474.2)) fun r1487 => (Option.bind (ref3_Int_Plus fuel (r1461.1, r1461.2) (r1487.1, r1487.2)) fun r1501 => (Option.bind (ref3_Number fuel 1) fun r1517 => (Option.bind (ref3_Int_Plus fuel (r1501.1, r1501.2) (r1517.1, r1517.2)) fun r1530 => (Option.bind (ref3_Int_Fits fuel (r1530.1, r1530.2) 128) fun r1551 => (if (!r1551) then (Option.bind (ref4_At fuel 14 (-3)) fun r1572 => (some (((r1572.1, r1572.2), (r1530.1, r1530.2))))) else (some (((j1224.1, j1224.2), (r1530.1, r1530.2)))))))))))) else (some (((j1224.1, j1224.2), (false, ([] : List Int)))))) fun (j1452 : ((Int × Int) × (Bool × (List Int)))) => (if (j1452.1.1 != 0) then (Option.bind (if ((r99.2.2.1 == j1452.1.1) && (r99.2.2.2 == j1452.1.2)) then (Option.bind (ref3_NoInt fuel (r99.1.1, r99.1.2)) fun r1867 => (if r1867 then (some (((r99.2.1.1 == 0) && (r99.2.1.2 == 0)))) else (some (false)))) else (some (false))) fun (j1864 : Bool) => (some (j1864))) else (Option.bind (ref4_Random_Below fuel (g_0.1, g_0.2) (j1452.2.1, j1452.2.2)) fun r1897 => (Option.bind (if (!r1897.2.1) then (some (true)) else (if (r99.2.2.1 == 0) then (Option.bind (ref3_IntOf fuel (low_2.1, low_2.2)) fun r1968 => (Option.bind (ref3_Int_Plus fuel (r1897.1.1, r1897.1.2) (r1968.1, r1968.2)) fun r1986 => (Option.bind (ref3_SameInt fuel (r99.1.1, r99.1.2) (r1986.1, r1986.2)) fun r2007 => (if r2007 then (Option.bind (some ((r99.2.1.1 == r1897.2.2.1) && (r99.2.1.2 == r1897.2.2.2))) fun n2037 => (some (n2037))) else (some (false)))))) else (some (false)))) fun (j1927 : Bool) => (some (j1927)))))))))))))))

/-- brindlewood/integer.Small -/
def integer_Small (fuel : Nat) (a_0 : (Bool × (List Int))) : Option (Int × (Int × Int)) :=
  (Option.bind (integer_check fuel ([(a_0.1, a_0.2)] : List (Bool × (List Int)))) fun r38 => (if (r38.1 != 0) then (some ((0, (r38.1, r38.2)))) else (Option.bind (loopN (fun (s84 : (Int × Int × (Int × Int))) => (if (decide (s84.2.1 < ((List.length a_0.2 : Nat) : Int))) then (Option.bind (idx a_0.2 s84.2.1) fun x97 => (if (decide (s84.2.1 > 1)) then (Option.bind (integer_at fuel 14 (-1)) fun r100 => (some (.inr (.inr ((0, (r100.1, r100.2))))))) else (Option.bind (nn (IntKind.i64.wrap (32 * s84.2.1))) fun _ => (Option.bind (some (bwOr .u64 s84.1 (shlI .u64 (IntKind.u64.wrap (x97)) (IntKind.i64.wrap (32 * s84.2.1))))) fun n113 => (some (.inl (n113, (IntKind.i64.wrap (s84.2.1 + 1)), (s84.2.2.1, s84.2.2.2)))))))) else (some (.inr (.inl (s84.1, (s84.2.2.1, s84.2.2.2))))))) fuel (0, 0, (0, 0))) (cont fun (s82 : (Int × (Int × Int))) => (Option.bind (if a_0.1 then (Option.bind (some (IntKind.i64.wrap (0 - (IntKind.i64.wrap (s82.1))))) fun n124 => (some (n124))) else (some ((IntKind.i64.wrap (s82.1))))) fun (j121 : Int) => (if (!((decide (j121 < 0)) == a_0.1)) then (Option.bind (integer_at fuel 14 (-1)) fun r131 => (some ((0, (r131.1, r131.2))))) else (some ((j121, (0, 0))))))))))

/-- (*brindlewood/random.source).small -/
def random_source_small (fuel : Nat) (s_0 : ((Int × Int))) (n_1 : Int) : Option (Int × ((Int × Int))) :=
  (Option.bind (integer_Of fuel n_1) fun r1 => (Option.bind (random_source_below fuel (s_0.1, s_0.2) (r1.1, r1.2)) fun r11 => (Option.bind (integer_Small fuel (r11.1.1, r11.1.2)) fun r25 => (some ((r25.1, (r11.2.1, r11.2.2)))))))

end Go.Gv.D
