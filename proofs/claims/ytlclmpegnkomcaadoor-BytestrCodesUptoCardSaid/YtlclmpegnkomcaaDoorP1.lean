import Derived.Test.YtlclmpegnkomcaaDoorP0
set_option linter.all false
set_option maxHeartbeats 4000000
set_option maxRecDepth 100000
/- Own work, printed by a program of mine: the walk of each function: a call returns what the plain function says. -/
namespace Go.Proofs.YtlclmpegnkomcaaDoor
open Go.Gv Go.Gv.D Go.RowKit
theorem utf8_ValidString_ok (fuel : Nat) (s_0 : ByteArray) (w0 : World) (X0 : Nat → Prop) (hX0 : ∀ k, X0 k → k < w0.heap.size) (hG0 : Rd bE w0 X0 (some ⟨0, 0, none⟩) 256 utf8First) (hG1 : Rd (prE (iE .u8) (iE .u8)) w0 X0 (some ⟨1, 0, none⟩) 16 utf8Acc) (r0 : Bool) (h0 : utf8_ValidString fuel s_0 = some r0) :
    Calls Tryd.prog 42 ([(.string s_0)] : List Value).toArray w0 (Ret fun v w' => w0.grownBy w' none ∧ v = tup [(.bool r0)]) := by
 have hB0 : Below w0.heap.size w0 w0 := Below.refl _ _
 unfold utf8_ValidString at h0
 refine calls_run Tryd.func42 rfl Tryd.ntmps42 (by kernel_rfl) ?_
 refine gv_sub [0] (σ' := [(0, (.string s_0))]) (by kernel_rfl) ?_
 refine gv_seq <| gv_region <| gv_pureN 1 [2] [] (by kernel_rfl) ?_
 refine gv_nil <| gv_seq <| bindE h0 ?_; clear h0; intro j1 h1 h0
 refine gv_cut_code (J := fun a w3 => ∃ s2 : Unit, j1 = .inl s2 ∧ Below w0.heap.size w0 w3 ∧ w0.heap.size ≤ w3.heap.size ∧ a.defers = [] ∧ a.tmps.size = 169 ∧ Ok [] a.tmps) ?_ ?_
 ·skip
  refine gv_block <| gv_loop (A := fun (s4 : ByteArray) a w5 => Below w0.heap.size w0 w5 ∧ w0.heap.size ≤ w5.heap.size ∧ a.defers = [] ∧ a.tmps.size = 169 ∧ Ok [(0, (.string s4))] a.tmps) h1 ?_ ?_
  ·intro a hd hs hok
   exact ⟨hB0, (Nat.le_refl _), hd, hs, ok_pick [0] hok (by kernel_rfl)⟩
  ·rintro s4 r2 h2 hR2 a w5 ⟨hB6, hz7, hd, hs, hok⟩
   refine gv_in ?_ hd hs hok
   clear hd hs hok
   refine gv_seq <| gv_seq <| gv_region <| gv_pureN 3 [7, 8, 9] [(9, (.bool (decide (((ByteArray.size s4 : Nat) : Int) > 0))))] (by kernel_rfl) ?_
   refine gv_nil <| gv_cond (b := (decide (((ByteArray.size s4 : Nat) : Int) > 0))) (by kernel_rfl) (fun hc8 => ?_) (fun hc8 => ?_)
   ·replace h2 := ite_t hc8 h2
    refine gv_skip <| gv_block <| gv_seq <| gv_region <| gv_pureN 1 [10] [(10, (.string s4))] (by kernel_rfl) ?_
    refine bindE h2 ?_; clear h2; intro x9 hx10 h2
    refine gv_sindex (t := 9) (s := s4) (kk := .i64) (i := 0) x9 [] (fun e => by cases e) rfl rfl rfl (by kernel_rfl) (by kernel_rfl) Tryd.underlying9 hx10 rfl ?_
    refine gv_pureN 1 [3] [(3, (.int .u8 x9))] (by kernel_rfl) ?_
    refine gv_nil <| gv_seq <| gv_seq <| gv_region <| gv_pureN 2 [12, 13] [(13, (.bool (decide (x9 < 128))))] (by kernel_rfl) ?_
    refine gv_nil <| gv_cond (b := (decide (x9 < 128))) (by kernel_rfl) (fun hc11 => ?_) (fun hc11 => ?_)
    ·replace h2 := ite_t hc11 h2
     refine gv_seq <| gv_region <| gv_pureN 1 [14] [(14, (.string s4))] (by kernel_rfl) ?_
     refine bindE h2 ?_; clear h2; intro x12 hx13 h2
     refine gv_ssub (t := 9) (s := s4) (lo := (some (.int .i64 1))) (hi := none) 1 ((ByteArray.size s4 : Nat) : Int) x12 [] (fun e => by cases e) rfl rfl rfl (by kernel_rfl) (by kernel_rfl) Tryd.underlying9 (.inr ⟨_, rfl⟩) (.inl ⟨rfl, rfl⟩) hx13 rfl ?_
     refine gv_pureN 1 [0] [(0, (.string x12))] (by kernel_rfl) ?_
     refine gv_nil <| gv_seq <| gv_seq <| gv_region <| bindE h2 ?_; clear h2; intro j14 h3 h2
     refine gv_cut_ops (J := fun a w15 => Below w0.heap.size w0 w15 ∧ w5.heap.size ≤ w15.heap.size ∧ a.defers = [] ∧ a.tmps.size = 169 ∧ Ok [(0, (.string x12)), (24, (.bool j14))] a.tmps) ?_ ?_
     ·skip
      refine gv_pureN 4 [16, 17, 18, 19] [(19, (.bool (decide (((ByteArray.size x12 : Nat) : Int) > 8))))] (by kernel_rfl) ?_
      refine gv_split (s := 19) (g := (decide (((ByteArray.size x12 : Nat) : Int) > 8))) (by kernel_rfl) (fun hc16 => ?_) (fun hc16 => ?_)
      ·skip
       replace h3 := ite_t hc16 h3
       refine gv_pureN 1 [20] [(20, (.string x12))] (by kernel_rfl) ?_
       refine bindE h3 ?_; clear h3; intro r17 hr18 h3
       refine gv_call0 (by kernel_rfl) rfl (by kernel_rfl) enters61 (utf8_word_string_ok fuel x12 w5  r17 hr18) ?_
       rintro v21 w19 ⟨hg20, rfl⟩
       refine gv_pureN 3 [22, 23, 24] [(24, (.bool ((bwAnd .u64 r17 9259542123273814144) == 0)))] (by kernel_rfl) ?_
       refine gv_nil ?_
       have e := sj h3; subst e
       refine gv_goal fun a hd hs hok => ?_
       have hB22 := bg hB6 hg20 nb
       have hz23 := hg20.size
       exact ⟨hB22, hz23, hd, hs, ok_pick [0, 24] hok (by kernel_rfl)⟩
      ·skip
       replace h3 := ite_f hc16 h3
       refine gv_pureN 5 [20, 21, 22, 23, 24] [(24, (.bool false))] (by kernel_rfl) ?_
       refine gv_nil ?_
       have e := sj h3; subst e
       refine gv_goal fun a hd hs hok => ?_
       exact ⟨hB6, (Nat.le_refl _), hd, hs, ok_pick [0, 24] hok (by kernel_rfl)⟩
     ·rintro a w15 ⟨hB24, hz25, hd, hs, hok⟩
      refine gv_in ?_ hd hs hok
      clear hd hs hok
      have hz26 := (nt hz7 hz25)
      clear hz25 hx13 hc11 hx10 hc8 hz7 hB6
      refine bindE h2 ?_; clear h2; intro j27 h3 h2
      refine gv_cut_code (J := fun a w28 => Below w0.heap.size w0 w28 ∧ w15.heap.size ≤ w28.heap.size ∧ a.defers = [] ∧ a.tmps.size = 169 ∧ Ok [(0, (.string j27))] a.tmps) ?_ ?_
      ·skip
       refine gv_cond (b := j14) (by kernel_rfl) (fun hc29 => ?_) (fun hc29 => ?_)
       ·replace h3 := ite_t hc29 h3
        refine gv_seq <| gv_region <| gv_pureN 1 [25] [(25, (.string x12))] (by kernel_rfl) ?_
        refine bindE h3 ?_; clear h3; intro x30 hx31 h3
        refine gv_ssub (t := 9) (s := x12) (lo := (some (.int .i64 8))) (hi := none) 8 ((ByteArray.size x12 : Nat) : Int) x30 [] (fun e => by cases e) rfl rfl rfl (by kernel_rfl) (by kernel_rfl) Tryd.underlying9 (.inr ⟨_, rfl⟩) (.inl ⟨rfl, rfl⟩) hx31 rfl ?_
        refine gv_pureN 1 [0] [(0, (.string x30))] (by kernel_rfl) ?_
        refine gv_nil <| gv_seq <| bindE h3 ?_; clear h3; intro j32 h4 h3
        refine gv_cut_code (J := fun a w33 => Below w0.heap.size w0 w33 ∧ w15.heap.size ≤ w33.heap.size ∧ a.defers = [] ∧ a.tmps.size = 169 ∧ Ok [(0, (.string x30)), (39, (.bool j32))] a.tmps) ?_ ?_
        ·skip
         refine gv_drawA (by kernel_rfl) ?_
         intro w34 hg35
         refine gv_pre [0, 1, 2, 3, 4, 6, 7] (bA 13 [0, 1, 2, 3, 4, 6, 7]) 6 (by kernel_rfl) (by kernel_rfl) ?_
         refine gv_pureN 4 [27, 28, 29, 30] [(30, (.bool (decide (((ByteArray.size x30 : Nat) : Int) > 16))))] (by kernel_rfl) ?_
         refine gv_split (s := 30) (g := (decide (((ByteArray.size x30 : Nat) : Int) > 16))) (by kernel_rfl) (fun hc36 => ?_) (fun hc36 => ?_)
         ·skip
          replace h4 := ite_t hc36 h4
          refine gv_pureN 2 [31, 33] [(31, (.string x30)), (33, (.string x30))] (by kernel_rfl) ?_
          refine bindE h4 ?_; clear h4; intro x37 hx38 h4
          refine gv_ssub (t := 9) (s := x30) (lo := (some (.int .i64 8))) (hi := none) 8 ((ByteArray.size x30 : Nat) : Int) x37 [] (fun e => by cases e) rfl rfl rfl (by kernel_rfl) (by kernel_rfl) Tryd.underlying9 (.inr ⟨_, rfl⟩) (.inl ⟨rfl, rfl⟩) hx38 rfl ?_
          refine gv_nil <| gv_goA ?_
          refine gv_stage (fun _ => True) [0, 1, 2, 3, 4, 5, 6, 7] [(5, some false)] (bA 13 [0, 1, 2, 3, 4, 5, 6, 7]) 5 (by kernel_rfl) (by kernel_rfl) trivial ?_
          refine bindE h4 ?_; clear h4; intro r39 hr40 h4
          refine gv_call (f := 61) (vs := [(.string x30)]) (cap := []) _ (by decide) rfl rfl rfl (by kernel_rfl) (by kernel_rfl) enters61 (utf8_word_string_ok fuel x30 w34  r39 hr40) ?_
          rintro v43 w41 ⟨hg42, rfl⟩
          refine ⟨(fun _ => trivial), ?_⟩
          refine gv_nil <| gv_goA ?_
          refine gv_stage (fun _ => True) [0, 1, 2, 3, 4, 5, 6, 7, 8] [(8, some false)] (bA 13 [0, 1, 2, 3, 4, 5, 6, 7, 8]) 4 (by kernel_rfl) (by kernel_rfl) trivial ?_
          refine bindE h4 ?_; clear h4; intro r44 hr45 h4
          refine gv_call (f := 61) (vs := [(.string x37)]) (cap := []) _ (by decide) rfl rfl rfl (by kernel_rfl) (by kernel_rfl) enters61 (utf8_word_string_ok fuel x37 w41  r44 hr45) ?_
          rintro v48 w46 ⟨hg47, rfl⟩
          refine ⟨(fun _ => trivial), ?_⟩
          refine gv_nil <| gv_goA ?_
          refine gv_pre [9, 10, 11, 12] (bA 13 [0, 1, 2, 3, 4, 5, 6, 7, 8, 9, 10, 11, 12]) 0 (by kernel_rfl) (by kernel_rfl) ?_
          refine gv_pureN 4 [36, 37, 38, 39] [(39, (.bool ((bwAnd .u64 (bwOr .u64 r39 r44) 9259542123273814144) == 0)))] (by kernel_rfl) ?_
          refine gv_nil <| gv_goA ?_
          refine gv_stageE (by kernel_rfl) ?_
          have e := sj h4; subst e
          refine gv_goal fun a hd hs hok => ?_
          have hg49 := (grown_trans (grown_trans hg35 hg42) hg47)
          have hB50 := bg hB24 hg49 nb
          have hz51 := (nt (nt hg35.size hg42.size) hg47.size)
          exact ⟨hB50, hz51, hd, hs, ok_pick [0, 39] hok (by kernel_rfl)⟩
         ·skip
          replace h4 := ite_f hc36 h4
          refine gv_pureN 3 [31, 33, 34] [(31, undef), (34, undef)] (by kernel_rfl) ?_
          refine gv_nil <| gv_goA ?_
          refine gv_stage (fun _ => True) [0, 1, 2, 3, 4, 5, 6, 7] [(5, some false)] (bA 13 [0, 1, 2, 3, 4, 5, 6, 7]) 5 (by kernel_rfl) (by kernel_rfl) trivial ?_
          refine gv_pureNC trivial 1 [32] [(32, undef)] (by kernel_rfl) ?_
          refine gv_nil <| gv_goA ?_
          refine gv_stage (fun _ => True) [0, 1, 2, 3, 4, 5, 6, 7, 8] [(8, some false)] (bA 13 [0, 1, 2, 3, 4, 5, 6, 7, 8]) 4 (by kernel_rfl) (by kernel_rfl) trivial ?_
          refine gv_pureNC trivial 1 [35] [(35, undef)] (by kernel_rfl) ?_
          refine gv_nil <| gv_goA ?_
          refine gv_pre [9, 10, 11, 12] (bA 13 [0, 1, 2, 3, 4, 5, 6, 7, 8, 9, 10, 11, 12]) 0 (by kernel_rfl) (by kernel_rfl) ?_
          refine gv_pureN 4 [36, 37, 38, 39] [(39, (.bool false))] (by kernel_rfl) ?_
          refine gv_nil <| gv_goA ?_
          refine gv_stageE (by kernel_rfl) ?_
          have e := sj h4; subst e
          refine gv_goal fun a hd hs hok => ?_
          have hB52 := bg hB24 hg35 nb
          have hz53 := hg35.size
          exact ⟨hB52, hz53, hd, hs, ok_pick [0, 39] hok (by kernel_rfl)⟩
        ·rintro a w33 ⟨hB54, hz55, hd, hs, hok⟩
         refine gv_in ?_ hd hs hok
         clear hd hs hok
         refine gv_cond (b := j32) (by kernel_rfl) (fun hc56 => ?_) (fun hc56 => ?_)
         ·replace h3 := ite_t hc56 h3
          refine gv_seq <| gv_region <| gv_pureN 1 [40] [(40, (.string x30))] (by kernel_rfl) ?_
          refine bindE h3 ?_; clear h3; intro x57 hx58 h3
          refine gv_ssub (t := 9) (s := x30) (lo := (some (.int .i64 16))) (hi := none) 16 ((ByteArray.size x30 : Nat) : Int) x57 [] (fun e => by cases e) rfl rfl rfl (by kernel_rfl) (by kernel_rfl) Tryd.underlying9 (.inr ⟨_, rfl⟩) (.inl ⟨rfl, rfl⟩) hx58 rfl ?_
          refine gv_pureN 1 [0] [(0, (.string x57))] (by kernel_rfl) ?_
          refine gv_nil <| bindE h3 ?_; clear h3; intro j59 h4 h3
          refine gv_cut_code (J := fun a w60 => Below w0.heap.size w0 w60 ∧ w33.heap.size ≤ w60.heap.size ∧ a.defers = [] ∧ a.tmps.size = 169 ∧ Ok [(0, (.string j59))] a.tmps) ?_ ?_
          ·skip
           refine gv_block <| gv_loop (A := fun (s61 : ByteArray) a w62 => Below w0.heap.size w0 w62 ∧ w33.heap.size ≤ w62.heap.size ∧ a.defers = [] ∧ a.tmps.size = 169 ∧ Ok [(0, (.string s61))] a.tmps) h4 ?_ ?_
           ·intro a hd hs hok
            exact ⟨hB54, (Nat.le_refl _), hd, hs, ok_pick [0] hok (by kernel_rfl)⟩
           ·rintro s61 r5 h5 hR5 a w62 ⟨hB63, hz64, hd, hs, hok⟩
            refine gv_in ?_ hd hs hok
            clear hd hs hok
            clear hx58 hc56 hB54 hx31 hc29 hB24
            refine gv_seq <| gv_seq <| bindE h5 ?_; clear h5; intro j65 h6 h5
            refine gv_cut_code (J := fun a w66 => Below w0.heap.size w0 w66 ∧ w62.heap.size ≤ w66.heap.size ∧ a.defers = [] ∧ a.tmps.size = 169 ∧ Ok [(0, (.string s61)), (62, (.bool j65))] a.tmps) ?_ ?_
            ·skip
             refine gv_drawA (by kernel_rfl) ?_
             intro w67 hg68
             refine gv_pre [0, 1, 2, 3, 4, 6, 7, 10, 11, 13, 14] (bA 21 [0, 1, 2, 3, 4, 6, 7, 10, 11, 13, 14]) 10 (by kernel_rfl) (by kernel_rfl) ?_
             refine gv_pureN 4 [42, 43, 44, 45] [(45, (.bool (decide (((ByteArray.size s61 : Nat) : Int) > 32))))] (by kernel_rfl) ?_
             refine gv_split (s := 45) (g := (decide (((ByteArray.size s61 : Nat) : Int) > 32))) (by kernel_rfl) (fun hc69 => ?_) (fun hc69 => ?_)
             ·skip
              replace h6 := ite_t hc69 h6
              refine gv_pureN 2 [46, 48] [(46, (.string s61)), (48, (.string s61))] (by kernel_rfl) ?_
              refine bindE h6 ?_; clear h6; intro x70 hx71 h6
              refine gv_ssub (t := 9) (s := s61) (lo := (some (.int .i64 8))) (hi := none) 8 ((ByteArray.size s61 : Nat) : Int) x70 [] (fun e => by cases e) rfl rfl rfl (by kernel_rfl) (by kernel_rfl) Tryd.underlying9 (.inr ⟨_, rfl⟩) (.inl ⟨rfl, rfl⟩) hx71 rfl ?_
              refine gv_pureN 1 [52] [(52, (.string s61))] (by kernel_rfl) ?_
              refine bindE h6 ?_; clear h6; intro x72 hx73 h6
              refine gv_ssub (t := 9) (s := s61) (lo := (some (.int .i64 16))) (hi := none) 16 ((ByteArray.size s61 : Nat) : Int) x72 [] (fun e => by cases e) rfl rfl rfl (by kernel_rfl) (by kernel_rfl) Tryd.underlying9 (.inr ⟨_, rfl⟩) (.inl ⟨rfl, rfl⟩) hx73 rfl ?_
              refine gv_pureN 1 [55] [(55, (.string s61))] (by kernel_rfl) ?_
              refine bindE h6 ?_; clear h6; intro x74 hx75 h6
              refine gv_ssub (t := 9) (s := s61) (lo := (some (.int .i64 24))) (hi := none) 24 ((ByteArray.size s61 : Nat) : Int) x74 [] (fun e => by cases e) rfl rfl rfl (by kernel_rfl) (by kernel_rfl) Tryd.underlying9 (.inr ⟨_, rfl⟩) (.inl ⟨rfl, rfl⟩) hx75 rfl ?_
              refine gv_nil <| gv_goA ?_
              refine gv_stage (fun _ => True) [0, 1, 2, 3, 4, 5, 6, 7, 10, 11, 13, 14] [(5, some false)] (bA 21 [0, 1, 2, 3, 4, 5, 6, 7, 10, 11, 13, 14]) 9 (by kernel_rfl) (by kernel_rfl) trivial ?_
              refine bindE h6 ?_; clear h6; intro r76 hr77 h6
              refine gv_call (f := 61) (vs := [(.string s61)]) (cap := []) _ (by decide) rfl rfl rfl (by kernel_rfl) (by kernel_rfl) enters61 (utf8_word_string_ok fuel s61 w67  r76 hr77) ?_
              rintro v80 w78 ⟨hg79, rfl⟩
              refine ⟨(fun _ => trivial), ?_⟩
              refine gv_nil <| gv_goA ?_
              refine gv_stage (fun _ => True) [0, 1, 2, 3, 4, 5, 6, 7, 8, 10, 11, 13, 14] [(8, some false)] (bA 21 [0, 1, 2, 3, 4, 5, 6, 7, 8, 10, 11, 13, 14]) 8 (by kernel_rfl) (by kernel_rfl) trivial ?_
              refine bindE h6 ?_; clear h6; intro r81 hr82 h6
              refine gv_call (f := 61) (vs := [(.string x70)]) (cap := []) _ (by decide) rfl rfl rfl (by kernel_rfl) (by kernel_rfl) enters61 (utf8_word_string_ok fuel x70 w78  r81 hr82) ?_
              rintro v85 w83 ⟨hg84, rfl⟩
              refine ⟨(fun _ => trivial), ?_⟩
              refine gv_nil <| gv_goA ?_
              refine gv_pre [9] (bA 21 [0, 1, 2, 3, 4, 5, 6, 7, 8, 9, 10, 11, 13, 14]) 7 (by kernel_rfl) (by kernel_rfl) ?_
              refine gv_pureN 1 [51] [(51, (.int .u64 (bwOr .u64 r76 r81)))] (by kernel_rfl) ?_
              refine gv_nil <| gv_goA ?_
              refine gv_stage (fun _ => True) [0, 1, 2, 3, 4, 5, 6, 7, 8, 9, 10, 11, 12, 13, 14] [(12, some false)] (bA 21 [0, 1, 2, 3, 4, 5, 6, 7, 8, 9, 10, 11, 12, 13, 14]) 6 (by kernel_rfl) (by kernel_rfl) trivial ?_
              refine bindE h6 ?_; clear h6; intro r86 hr87 h6
              refine gv_call (f := 61) (vs := [(.string x72)]) (cap := []) _ (by decide) rfl rfl rfl (by kernel_rfl) (by kernel_rfl) enters61 (utf8_word_string_ok fuel x72 w83  r86 hr87) ?_
              rintro v90 w88 ⟨hg89, rfl⟩
              refine ⟨(fun _ => trivial), ?_⟩
              have hz91 := (nt (nt hg68.size hg79.size) hg84.size)
              clear hr87 hr82 hr77 hx75 hx73 hx71 hc69
              refine gv_nil <| gv_goA ?_
              refine gv_stage (fun _ => True) [0, 1, 2, 3, 4, 5, 6, 7, 8, 9, 10, 11, 12, 13, 14, 15] [(15, some false)] (bA 21 [0, 1, 2, 3, 4, 5, 6, 7, 8, 9, 10, 11, 12, 13, 14, 15]) 5 (by kernel_rfl) (by kernel_rfl) trivial ?_
              refine bindE h6 ?_; clear h6; intro r92 hr93 h6
              refine gv_call (f := 61) (vs := [(.string x74)]) (cap := []) _ (by decide) rfl rfl rfl (by kernel_rfl) (by kernel_rfl) enters61 (utf8_word_string_ok fuel x74 w88  r92 hr93) ?_
              rintro v96 w94 ⟨hg95, rfl⟩
              refine ⟨(fun _ => trivial), ?_⟩
              refine gv_nil <| gv_goA ?_
              refine gv_pre [16, 17, 18, 19, 20] (bA 21 [0, 1, 2, 3, 4, 5, 6, 7, 8, 9, 10, 11, 12, 13, 14, 15, 16, 17, 18, 19, 20]) 0 (by kernel_rfl) (by kernel_rfl) ?_
              refine gv_pureN 5 [58, 59, 60, 61, 62] [(62, (.bool ((bwAnd .u64 (bwOr .u64 (bwOr .u64 r76 r81) (bwOr .u64 r86 r92)) 9259542123273814144) == 0)))] (by kernel_rfl) ?_
              refine gv_nil <| gv_goA ?_
              refine gv_stageE (by kernel_rfl) ?_
              have e := sj h6; subst e
              refine gv_goal fun a hd hs hok => ?_
              have hg97 := (grown_trans (grown_trans (grown_trans (grown_trans hg68 hg79) hg84) hg89) hg95)
              have hB98 := bg hB63 hg97 nb
              have hz99 := (nt (nt hz91 hg89.size) hg95.size)
              exact ⟨hB98, hz99, hd, hs, ok_pick [0, 62] hok (by kernel_rfl)⟩
             ·skip
              replace h6 := ite_f hc69 h6
              refine gv_pureN 7 [46, 48, 49, 52, 53, 55, 56] [(46, undef), (49, undef), (53, undef), (56, undef)] (by kernel_rfl) ?_
              refine gv_nil <| gv_goA ?_
              refine gv_stage (fun _ => True) [0, 1, 2, 3, 4, 5, 6, 7, 10, 11, 13, 14] [(5, some false)] (bA 21 [0, 1, 2, 3, 4, 5, 6, 7, 10, 11, 13, 14]) 9 (by kernel_rfl) (by kernel_rfl) trivial ?_
              refine gv_pureNC trivial 1 [47] [(47, undef)] (by kernel_rfl) ?_
              refine gv_nil <| gv_goA ?_
              refine gv_stage (fun _ => True) [0, 1, 2, 3, 4, 5, 6, 7, 8, 10, 11, 13, 14] [(8, some false)] (bA 21 [0, 1, 2, 3, 4, 5, 6, 7, 8, 10, 11, 13, 14]) 8 (by kernel_rfl) (by kernel_rfl) trivial ?_
              refine gv_pureNC trivial 1 [50] [(50, undef)] (by kernel_rfl) ?_
              refine gv_nil <| gv_goA ?_
              refine gv_pre [9] (bA 21 [0, 1, 2, 3, 4, 5, 6, 7, 8, 9, 10, 11, 13, 14]) 7 (by kernel_rfl) (by kernel_rfl) ?_
              refine gv_pureN 1 [51] [(51, undef)] (by kernel_rfl) ?_
              refine gv_nil <| gv_goA ?_
              refine gv_stage (fun _ => True) [0, 1, 2, 3, 4, 5, 6, 7, 8, 9, 10, 11, 12, 13, 14] [(12, some false)] (bA 21 [0, 1, 2, 3, 4, 5, 6, 7, 8, 9, 10, 11, 12, 13, 14]) 6 (by kernel_rfl) (by kernel_rfl) trivial ?_
              refine gv_pureNC trivial 1 [54] [(54, undef)] (by kernel_rfl) ?_
              refine gv_nil <| gv_goA ?_
              refine gv_stage (fun _ => True) [0, 1, 2, 3, 4, 5, 6, 7, 8, 9, 10, 11, 12, 13, 14, 15] [(15, some false)] (bA 21 [0, 1, 2, 3, 4, 5, 6, 7, 8, 9, 10, 11, 12, 13, 14, 15]) 5 (by kernel_rfl) (by kernel_rfl) trivial ?_
              refine gv_pureNC trivial 1 [57] [(57, undef)] (by kernel_rfl) ?_
              refine gv_nil <| gv_goA ?_
              refine gv_pre [16, 17, 18, 19, 20] (bA 21 [0, 1, 2, 3, 4, 5, 6, 7, 8, 9, 10, 11, 12, 13, 14, 15, 16, 17, 18, 19, 20]) 0 (by kernel_rfl) (by kernel_rfl) ?_
              refine gv_pureN 5 [58, 59, 60, 61, 62] [(62, (.bool false))] (by kernel_rfl) ?_
              refine gv_nil <| gv_goA ?_
              refine gv_stageE (by kernel_rfl) ?_
              have e := sj h6; subst e
              refine gv_goal fun a hd hs hok => ?_
              have hB100 := bg hB63 hg68 nb
              have hz101 := hg68.size
              exact ⟨hB100, hz101, hd, hs, ok_pick [0, 62] hok (by kernel_rfl)⟩
            ·rintro a w66 ⟨hB102, hz103, hd, hs, hok⟩
             refine gv_in ?_ hd hs hok
             clear hd hs hok
             have hz104 := (nt hz64 hz103)
             refine gv_cond (b := j65) (by kernel_rfl) (fun hc105 => ?_) (fun hc105 => ?_)
             ·replace h5 := ite_t hc105 h5
              refine gv_skip <| gv_block <| gv_region <| gv_pureN 1 [63] [(63, (.string s61))] (by kernel_rfl) ?_
              refine bindE h5 ?_; clear h5; intro x106 hx107 h5
              refine gv_ssub (t := 9) (s := s61) (lo := (some (.int .i64 32))) (hi := none) 32 ((ByteArray.size s61 : Nat) : Int) x106 [] (fun e => by cases e) rfl rfl rfl (by kernel_rfl) (by kernel_rfl) Tryd.underlying9 (.inr ⟨_, rfl⟩) (.inl ⟨rfl, rfl⟩) hx107 rfl ?_
              refine gv_pureN 1 [0] [(0, (.string x106))] (by kernel_rfl) ?_
              refine gv_nil <| gv_blk ?_
              have e := sj h5; subst e
              refine gv_goal fun a hd hs hok => ?_
              have hz108 := hz104
              exact ⟨x106, rfl, hB102, hz108, hd, hs, ok_pick [0] hok (by kernel_rfl)⟩
             ·replace h5 := ite_f hc105 h5
              refine gv_cexit <| gv_exit rfl ?_
              have e := sj h5; subst e
              replace h4 := congrArg some (hR5 _ rfl)
              have e := sj h4; subst e
              refine gv_goal fun a hd hs hok => ?_
              have hz109 := hz104
              exact ⟨hB102, hz109, hd, hs, ok_pick [0] hok (by kernel_rfl)⟩
          ·rintro a w60 ⟨hB110, hz111, hd, hs, hok⟩
           refine gv_in ?_ hd hs hok
           clear hd hs hok
           have hz112 := (nt hz55 hz111)
           clear hz111 hx58 hc56 hz55 hB54 hx31 hc29 hB24
           have e := sj h3; subst e
           refine gv_goal fun a hd hs hok => ?_
           have hz113 := hz112
           exact ⟨hB110, hz113, hd, hs, ok_pick [0] hok (by kernel_rfl)⟩
         ·replace h3 := ite_f hc56 h3
          refine gv_skip ?_
          have e := sj h3; subst e
          refine gv_goal fun a hd hs hok => ?_
          have hz114 := hz55
          exact ⟨hB54, hz114, hd, hs, ok_pick [0] hok (by kernel_rfl)⟩
       ·replace h3 := ite_f hc29 h3
        refine gv_skip ?_
        have e := sj h3; subst e
        refine gv_goal fun a hd hs hok => ?_
        exact ⟨hB24, (Nat.le_refl _), hd, hs, ok_pick [0] hok (by kernel_rfl)⟩
      ·rintro a w28 ⟨hB115, hz116, hd, hs, hok⟩
       refine gv_in ?_ hd hs hok
       clear hd hs hok
       have hz117 := (nt hz26 hz116)
       refine gv_cexit <| gv_exit rfl ?_
       have e := sj h2; subst e
       refine gv_goal fun a hd hs hok => ?_
       have hz118 := hz117
       exact ⟨j27, rfl, hB115, hz118, hd, hs, ok_pick [0] hok (by kernel_rfl)⟩
    ·replace h2 := ite_f hc11 h2
     refine gv_skip <| gv_seq <| gv_region <| gv_pureN 1 [65] [(65, (.int .u8 x9))] (by kernel_rfl) ?_
     refine bindE h2 ?_; clear h2; intro x119 hx120 h2
     refine gv_idxarr (t := 93) (e := 5) (A := ⟨0, 0, none⟩) (len := 256) (kk := .u8) (i := x9) (sz := 1) [] (fun e => by cases e) rfl rfl rfl (by kernel_rfl) (by kernel_rfl) Tryd.underlying93 (by kernel_rfl) (idx_spec hx120).1 (by have e := (idx_spec hx120).2.1; rw [utf8First_len] at e; exact e) rfl ?_
     refine gv_load (t := 5) (A := (elemAddr (some ⟨0, 0, none⟩) ((x9 : Int).toNat * 1))) (.int .u8 ((x119).toNat : Int)) [] (fun e => by cases e) rfl rfl rfl (by kernel_rfl) (by kernel_rfl) (by kernel_rfl) (inw0 ((hG0.below hB6 hX0).cell hx120)) rfl ?_
     refine gv_pureN 1 [4] [(4, (.int .u8 ((x119).toNat : Int)))] (by kernel_rfl) ?_
     refine gv_nil <| gv_seq <| gv_region <| gv_pureN 4 [5, 68, 69, 70] [(5, (.int .i64 (IntKind.i64.wrap ((bwAnd .u8 ((x119).toNat : Int) 7)))))] (by kernel_rfl) ?_
     refine bindE h2 ?_; clear h2; intro n121 hn122 h2
     refine gv_name (s := 5) (v := (.int .i64 (IntKind.i64.wrap ((bwAnd .u8 ((x119).toNat : Int) 7))))) (v' := (.int .i64 n121)) (by kernel_rfl) (congrArg (Value.int .i64) (sj hn122)) ?_
     refine gv_nil <| gv_seq <| gv_region <| gv_pureN 2 [71, 72] [(72, (.int .u8 ((((x119).toNat : Int)).fdiv (2 ^ 4))))] (by kernel_rfl) ?_
     refine bindE h2 ?_; clear h2; intro x123 hx124 h2
     refine gv_idxarr (t := 96) (e := 95) (A := ⟨1, 0, none⟩) (len := 16) (kk := .u8) (i := ((((x119).toNat : Int)).fdiv (2 ^ 4))) (sz := 2) [] (fun e => by cases e) rfl rfl rfl (by kernel_rfl) (by kernel_rfl) Tryd.underlying96 (by kernel_rfl) (idx_spec hx124).1 (by have e := (idx_spec hx124).2.1; rw [utf8Acc_len] at e; exact e) rfl ?_
     obtain ⟨_, ⟨_, _, rfl, rfl, rfl⟩, hc125⟩ := hG1.cellsK hx124
     refine gv_loadAgg (t := 95) (A := (elemAddr (some ⟨1, 0, none⟩) ((((((x119).toNat : Int)).fdiv (2 ^ 4)) : Int).toNat * 2))) #[(.int .u8 x123.1), (.int .u8 x123.2)] [] (fun e => by cases e) rfl rfl rfl (by kernel_rfl) (by kernel_rfl) (by kernel_rfl) (by kernel_rfl) (inw0 (hc125 w5 (fun k hk => hB6.block k (hX0 k hk)))) rfl ?_
     refine gv_new0 (fun b => .pointer (some ⟨b, 0, none⟩)) #[(.int .u8 0), (.int .u8 0)] 95 (by kernel_rfl) (by kernel_rfl) ?_
     intro b126 w127 hg128 hb129 hbe130 hz131
     refine gv_sub [0, 5, 6, 74] (σ' := [(0, (.string s4)), (5, (.int .i64 n121)), (6, (bp b126)), (74, (.agg #[(.int .u8 x123.1), (.int .u8 x123.2)]))]) (by kernel_rfl) ?_
     refine gv_store0 95 0 (.agg #[(.int .u8 x123.1), (.int .u8 x123.2)]) #[(.int .u8 x123.1), (.int .u8 x123.2)] hb129 (by kernel_rfl) (by kernel_rfl) (by kernel_rfl) ?_
     intro w132 hg133 hb134 hz135
     refine gv_nil <| gv_seq <| gv_region <| gv_pureN 1 [75] [(75, (.int .i64 n121))] (by kernel_rfl) ?_
     refine gv_nil <| gv_block <| gv_seq <| gv_region <| gv_pureN 2 [76, 77] [(76, (.bool (n121 == 2)))] (by kernel_rfl) ?_
     refine gv_nil <| bindE h2 ?_; clear h2; intro j136 h3 h2
     refine gv_cut_code (J := fun a w138 => ∃ s137 : ByteArray, j136 = .inl s137 ∧ Below w0.heap.size w0 w138 ∧ w132.heap.size ≤ w138.heap.size ∧ a.defers = [] ∧ a.tmps.size = 169 ∧ Ok [(0, (.string s137))] a.tmps) ?_ ?_
     ·skip
      refine gv_cond (b := (n121 == 2)) (by kernel_rfl) (fun hc139 => ?_) (fun hc139 => ?_)
      ·replace h3 := ite_t hc139 h3
       refine gv_seq <| gv_seq <| bindE h3 ?_; clear h3; intro j140 h4 h3
       refine gv_cut_code (J := fun a w141 => Below w0.heap.size w0 w141 ∧ w132.heap.size ≤ w141.heap.size ∧ a.defers = [] ∧ a.tmps.size = 169 ∧ Ok [(0, (.string s4)), (94, (.bool j140))] a.tmps) ?_ ?_
       ·skip
        refine gv_drawA (by kernel_rfl) ?_
        intro w142 hg143
        refine gv_pre [0, 1, 2, 3, 4, 5, 6] (bA 17 [0, 1, 2, 3, 4, 5, 6]) 10 (by kernel_rfl) (by kernel_rfl) ?_
        refine gv_pureN 4 [78, 79, 80, 81] [(81, (.bool (decide (((ByteArray.size s4 : Nat) : Int) < 2))))] (by kernel_rfl) ?_
        refine gv_split (s := 81) (g := (decide (((ByteArray.size s4 : Nat) : Int) < 2))) (by kernel_rfl) (fun hc144 => ?_) (fun hc144 => ?_)
        ·skip
         replace h4 := ite_t hc144 h4
         refine gv_pureN 3 [82, 83, 84] [(83, undef), (84, undef)] (by kernel_rfl) ?_
         refine gv_nil <| gv_goA ?_
         refine gv_stage (Cls w142 []) [0, 1, 2, 3, 4, 5, 6, 7] [(7, some true)] (bA 17 [0, 1, 2, 3, 4, 5, 6, 7]) 9 (by kernel_rfl) (by kernel_rfl) (Cls.refl _ _) ?_
         have hC145 := Cls.refl w142 []
         refine gv_pureN 1 [85] [(85, undef)] (by kernel_rfl) ?_
         refine gv_nil <| gv_goA ?_
         refine gv_pre [8, 9, 10, 11, 13, 14] (bA 17 [0, 1, 2, 3, 4, 5, 6, 7, 8, 9, 10, 11, 13, 14]) 3 (by kernel_rfl) (by kernel_rfl) ?_
         refine gv_pureN 6 [86, 87, 88, 89, 91, 92] [(88, (.bool true)), (89, undef), (92, undef)] (by kernel_rfl) ?_
         refine gv_nil <| gv_goA ?_
         refine gv_stage (Cls w142 []) [0, 1, 2, 3, 4, 5, 6, 7, 8, 9, 10, 11, 12, 13, 14] [(12, some true)] (bA 17 [0, 1, 2, 3, 4, 5, 6, 7, 8, 9, 10, 11, 12, 13, 14]) 2 (by kernel_rfl) (by kernel_rfl) (Cls.refl _ _) ?_
         have hC146 := Cls.refl w142 []
         refine gv_pureN 1 [90] [(90, undef)] (by kernel_rfl) ?_
         refine gv_nil <| gv_goA ?_
         refine gv_pre [15, 16] (bA 17 [0, 1, 2, 3, 4, 5, 6, 7, 8, 9, 10, 11, 12, 13, 14, 15, 16]) 0 (by kernel_rfl) (by kernel_rfl) ?_
         refine gv_pureN 2 [93, 94] [(94, (.bool true))] (by kernel_rfl) ?_
         refine gv_nil <| gv_goA ?_
         refine gv_stageE (by kernel_rfl) ?_
         have e := sj h4; subst e
         refine gv_goal fun a hd hs hok => ?_
         have hB147 := bg hB6 hg128 nb
         have hlo148 : w0.heap.size ≤ b126 := lob hbe130 hB6.size
         have hB149 := bg hB147 hg133 (rowlo hlo148)
         have hB150 := bg hB149 hg143 nb
         have hz151 := hg143.size
         exact ⟨hB150, hz151, hd, hs, ok_pick [0, 94] hok (by kernel_rfl)⟩
        ·skip
         replace h4 := ite_f hc144 h4
         refine gv_pureN 1 [82] [(82, (.string s4))] (by kernel_rfl) ?_
         refine bindE h4 ?_; clear h4; intro x152 hx153 h4
         refine gv_sindex (t := 9) (s := s4) (kk := .i64) (i := 1) x152 [] (fun e => by cases e) rfl rfl rfl (by kernel_rfl) (by kernel_rfl) Tryd.underlying9 hx153 rfl ?_
         refine gv_pureN 1 [84] [(84, (bp b126))] (by kernel_rfl) ?_
         refine gv_nil <| gv_goA ?_
         refine gv_stage (Cls w142 []) [0, 1, 2, 3, 4, 5, 6, 7] [(7, some true)] (bA 17 [0, 1, 2, 3, 4, 5, 6, 7]) 9 (by kernel_rfl) (by kernel_rfl) (Cls.refl _ _) ?_
         have hC154 := Cls.refl w142 []
         have hk155 := hb134.grown hg143 nb
         refine gv_load (t := 5) (A := ⟨b126, 0, none⟩) (.int .u8 x123.1) [] (fun e => by cases e) rfl rfl rfl (by kernel_rfl) (by kernel_rfl) (by kernel_rfl) (inw1 fun w' hC' => ((hC'.box hk155 nm_nil).cell 0 rfl)) rfl ?_
         refine gv_nil <| gv_goA ?_
         refine gv_pre [8, 9, 10, 11, 13, 14] (bA 17 [0, 1, 2, 3, 4, 5, 6, 7, 8, 9, 10, 11, 13, 14]) 3 (by kernel_rfl) (by kernel_rfl) ?_
         refine gv_pureN 3 [86, 87, 88] [(88, (.bool (decide (x152 < x123.1))))] (by kernel_rfl) ?_
         refine gv_split (s := 88) (g := (decide (x152 < x123.1))) (by kernel_rfl) (fun hc156 => ?_) (fun hc156 => ?_)
         ·skip
          replace h4 := ite_t hc156 h4
          refine gv_pureN 3 [89, 91, 92] [(89, undef), (92, undef)] (by kernel_rfl) ?_
          refine gv_nil <| gv_goA ?_
          refine gv_stage (Cls w142 []) [0, 1, 2, 3, 4, 5, 6, 7, 8, 9, 10, 11, 12, 13, 14] [(12, some true)] (bA 17 [0, 1, 2, 3, 4, 5, 6, 7, 8, 9, 10, 11, 12, 13, 14]) 2 (by kernel_rfl) (by kernel_rfl) (Cls.refl _ _) ?_
          have hC157 := Cls.refl w142 []
          refine gv_pureN 1 [90] [(90, undef)] (by kernel_rfl) ?_
          refine gv_nil <| gv_goA ?_
          refine gv_pre [15, 16] (bA 17 [0, 1, 2, 3, 4, 5, 6, 7, 8, 9, 10, 11, 12, 13, 14, 15, 16]) 0 (by kernel_rfl) (by kernel_rfl) ?_
          refine gv_pureN 2 [93, 94] [(94, (.bool true))] (by kernel_rfl) ?_
          refine gv_nil <| gv_goA ?_
          refine gv_stageE (by kernel_rfl) ?_
          have e := sj h4; subst e
          refine gv_goal fun a hd hs hok => ?_
          have hB158 := bg hB6 hg128 nb
          have hlo159 : w0.heap.size ≤ b126 := lob hbe130 hB6.size
          have hB160 := bg hB158 hg133 (rowlo hlo159)
          have hB161 := bg hB160 hg143 nb
          have hz162 := hg143.size
          exact ⟨hB161, hz162, hd, hs, ok_pick [0, 94] hok (by kernel_rfl)⟩
         ·skip
          replace h4 := ite_f hc156 h4
          refine gv_pureN 2 [89, 91] [(89, (.pointer (some ⟨b126, 1, none⟩))), (91, (.string s4))] (by kernel_rfl) ?_
          refine bindE h4 ?_; clear h4; intro x163 hx164 h4
          refine gv_sindex (t := 9) (s := s4) (kk := .i64) (i := 1) x163 [] (fun e => by cases e) rfl rfl rfl (by kernel_rfl) (by kernel_rfl) Tryd.underlying9 hx164 rfl ?_
          refine gv_nil <| gv_goA ?_
          refine gv_stage (Cls w142 []) [0, 1, 2, 3, 4, 5, 6, 7, 8, 9, 10, 11, 12, 13, 14] [(12, some true)] (bA 17 [0, 1, 2, 3, 4, 5, 6, 7, 8, 9, 10, 11, 12, 13, 14]) 2 (by kernel_rfl) (by kernel_rfl) (Cls.refl _ _) ?_
          have hC165 := Cls.refl w142 []
          refine gv_load (t := 5) (A := ⟨b126, 1, none⟩) (.int .u8 x123.2) [] (fun e => by cases e) rfl rfl rfl (by kernel_rfl) (by kernel_rfl) (by kernel_rfl) (inw1 fun w' hC' => ((hC'.box hk155 nm_nil).cell 1 rfl)) rfl ?_
          refine gv_nil <| gv_goA ?_
          refine gv_pre [15, 16] (bA 17 [0, 1, 2, 3, 4, 5, 6, 7, 8, 9, 10, 11, 12, 13, 14, 15, 16]) 0 (by kernel_rfl) (by kernel_rfl) ?_
          refine gv_pureN 2 [93, 94] [(94, (.bool (decide (x123.2 < x163))))] (by kernel_rfl) ?_
          refine gv_nil <| gv_goA ?_
          refine gv_stageE (by kernel_rfl) ?_
          have e := sj h4; subst e
          refine gv_goal fun a hd hs hok => ?_
          have hB166 := bg hB6 hg128 nb
          have hlo167 : w0.heap.size ≤ b126 := lob hbe130 hB6.size
          have hB168 := bg hB166 hg133 (rowlo hlo167)
          have hB169 := bg hB168 hg143 nb
          have hz170 := hg143.size
          exact ⟨hB169, hz170, hd, hs, ok_pick [0, 94] hok (by kernel_rfl)⟩
       ·rintro a w141 ⟨hB171, hz172, hd, hs, hok⟩
        refine gv_in ?_ hd hs hok
        clear hd hs hok
        have hz173 := (nt (nt hz7 hg128.size) hg133.size)
        clear hc139 hz135 hb134 hg133 hz131 hbe130 hb129 hg128 hc125 hx124 hn122 hx120 hc11 hx10 hc8 hz7 hB6
        refine gv_cond (b := j140) (by kernel_rfl) (fun hc174 => ?_) (fun hc174 => ?_)
        ·replace h3 := ite_t hc174 h3
         refine gv_seq <| gv_region <| gv_pureN 1 [2] [(2, (.bool false))] (by kernel_rfl) ?_
         refine gv_nil <| gv_cret ?_
         have e := sj h3; subst e
         replace h2 := cont_inr h2
         have e := sj h2; subst e
         replace h1 := congrArg some (hR2 _ rfl)
         have e := sj h1; subst e
         replace h0 := cont_inr h0
         have e := sj h0; subst e
         refine gv_ret (gv_done [(.bool false)] rfl ⟨(by kernel_rfl), trivial⟩ ?_)
         exact ⟨grown_of_below hB171, rfl⟩
        ·replace h3 := ite_f hc174 h3
         refine gv_skip <| gv_region <| gv_pureN 1 [95] [(95, (.string s4))] (by kernel_rfl) ?_
         refine bindE h3 ?_; clear h3; intro x175 hx176 h3
         refine gv_ssub (t := 9) (s := s4) (lo := (some (.int .i64 2))) (hi := none) 2 ((ByteArray.size s4 : Nat) : Int) x175 [] (fun e => by cases e) rfl rfl rfl (by kernel_rfl) (by kernel_rfl) Tryd.underlying9 (.inr ⟨_, rfl⟩) (.inl ⟨rfl, rfl⟩) hx176 rfl ?_
         refine gv_pureN 1 [0] [(0, (.string x175))] (by kernel_rfl) ?_
         refine gv_nil ?_
         have e := sj h3; subst e
         refine gv_goal fun a hd hs hok => ?_
         have hz177 := hz172
         exact ⟨x175, rfl, hB171, hz177, hd, hs, ok_pick [0] hok (by kernel_rfl)⟩
      ·replace h3 := ite_f hc139 h3
       refine gv_seq <| gv_region <| gv_pureN 2 [97, 98] [(97, (.bool (n121 == 3)))] (by kernel_rfl) ?_
       refine gv_nil <| gv_cond (b := (n121 == 3)) (by kernel_rfl) (fun hc178 => ?_) (fun hc178 => ?_)
       ·replace h3 := ite_t hc178 h3
        refine gv_seq <| gv_seq <| bindE h3 ?_; clear h3; intro j179 h4 h3
        refine gv_cut_code (J := fun a w180 => Below w0.heap.size w0 w180 ∧ w132.heap.size ≤ w180.heap.size ∧ a.defers = [] ∧ a.tmps.size = 169 ∧ Ok [(0, (.string s4)), (125, (.bool j179))] a.tmps) ?_ ?_
        ·skip
         refine gv_drawA (by kernel_rfl) ?_
         intro w181 hg182
         refine gv_pre [0, 1, 2, 3, 4, 5, 6] (bA 27 [0, 1, 2, 3, 4, 5, 6]) 20 (by kernel_rfl) (by kernel_rfl) ?_
         refine gv_pureN 4 [99, 100, 101, 102] [(102, (.bool (decide (((ByteArray.size s4 : Nat) : Int) < 3))))] (by kernel_rfl) ?_
         refine gv_split (s := 102) (g := (decide (((ByteArray.size s4 : Nat) : Int) < 3))) (by kernel_rfl) (fun hc183 => ?_) (fun hc183 => ?_)
         ·skip
          replace h4 := ite_t hc183 h4
          refine gv_pureN 3 [103, 104, 105] [(104, undef), (105, undef)] (by kernel_rfl) ?_
          refine gv_nil <| gv_goA ?_
          refine gv_stage (Cls w181 []) [0, 1, 2, 3, 4, 5, 6, 7] [(7, some true)] (bA 27 [0, 1, 2, 3, 4, 5, 6, 7]) 19 (by kernel_rfl) (by kernel_rfl) (Cls.refl _ _) ?_
          have hC184 := Cls.refl w181 []
          refine gv_pureN 1 [106] [(106, undef)] (by kernel_rfl) ?_
          refine gv_nil <| gv_goA ?_
          refine gv_pre [8, 9, 10, 11, 13, 14] (bA 27 [0, 1, 2, 3, 4, 5, 6, 7, 8, 9, 10, 11, 13, 14]) 13 (by kernel_rfl) (by kernel_rfl) ?_
          refine gv_pureN 6 [107, 108, 109, 110, 112, 113] [(109, (.bool true)), (110, undef), (113, undef)] (by kernel_rfl) ?_
          refine gv_nil <| gv_goA ?_
          refine gv_stage (Cls w181 []) [0, 1, 2, 3, 4, 5, 6, 7, 8, 9, 10, 11, 12, 13, 14] [(12, some true)] (bA 27 [0, 1, 2, 3, 4, 5, 6, 7, 8, 9, 10, 11, 12, 13, 14]) 12 (by kernel_rfl) (by kernel_rfl) (Cls.refl _ _) ?_
          have hC185 := Cls.refl w181 []
          refine gv_pureN 1 [111] [(111, undef)] (by kernel_rfl) ?_
          refine gv_nil <| gv_goA ?_
          refine gv_pre [15, 16, 17, 18, 19, 20, 21, 22, 23, 24, 25, 26] (bA 27 [0, 1, 2, 3, 4, 5, 6, 7, 8, 9, 10, 11, 12, 13, 14, 15, 16, 17, 18, 19, 20, 21, 22, 23, 24, 25, 26]) 0 (by kernel_rfl) (by kernel_rfl) ?_
          refine gv_pureN 12 [114, 115, 116, 117, 118, 119, 120, 121, 122, 123, 124, 125] [(125, (.bool true))] (by kernel_rfl) ?_
          refine gv_nil <| gv_goA ?_
          refine gv_stageE (by kernel_rfl) ?_
          have e := sj h4; subst e
          refine gv_goal fun a hd hs hok => ?_
          have hB186 := bg hB6 hg128 nb
          have hlo187 : w0.heap.size ≤ b126 := lob hbe130 hB6.size
          have hB188 := bg hB186 hg133 (rowlo hlo187)
          have hB189 := bg hB188 hg182 nb
          have hz190 := hg182.size
          exact ⟨hB189, hz190, hd, hs, ok_pick [0, 125] hok (by kernel_rfl)⟩
         ·skip
          replace h4 := ite_f hc183 h4
          refine gv_pureN 1 [103] [(103, (.string s4))] (by kernel_rfl) ?_
          refine bindE h4 ?_; clear h4; intro x191 hx192 h4
          refine gv_sindex (t := 9) (s := s4) (kk := .i64) (i := 1) x191 [] (fun e => by cases e) rfl rfl rfl (by kernel_rfl) (by kernel_rfl) Tryd.underlying9 hx192 rfl ?_
          refine gv_pureN 1 [105] [(105, (bp b126))] (by kernel_rfl) ?_
          refine gv_nil <| gv_goA ?_
          refine gv_stage (Cls w181 []) [0, 1, 2, 3, 4, 5, 6, 7] [(7, some true)] (bA 27 [0, 1, 2, 3, 4, 5, 6, 7]) 19 (by kernel_rfl) (by kernel_rfl) (Cls.refl _ _) ?_
          have hC193 := Cls.refl w181 []
          have hk194 := hb134.grown hg182 nb
          refine gv_load (t := 5) (A := ⟨b126, 0, none⟩) (.int .u8 x123.1) [] (fun e => by cases e) rfl rfl rfl (by kernel_rfl) (by kernel_rfl) (by kernel_rfl) (inw1 fun w' hC' => ((hC'.box hk194 nm_nil).cell 0 rfl)) rfl ?_
          refine gv_nil <| gv_goA ?_
          refine gv_pre [8, 9, 10, 11, 13, 14] (bA 27 [0, 1, 2, 3, 4, 5, 6, 7, 8, 9, 10, 11, 13, 14]) 13 (by kernel_rfl) (by kernel_rfl) ?_
          refine gv_pureN 3 [107, 108, 109] [(109, (.bool (decide (x191 < x123.1))))] (by kernel_rfl) ?_
          refine gv_split (s := 109) (g := (decide (x191 < x123.1))) (by kernel_rfl) (fun hc195 => ?_) (fun hc195 => ?_)
          ·skip
           replace h4 := ite_t hc195 h4
           refine gv_pureN 3 [110, 112, 113] [(110, undef), (113, undef)] (by kernel_rfl) ?_
           refine gv_nil <| gv_goA ?_
           refine gv_stage (Cls w181 []) [0, 1, 2, 3, 4, 5, 6, 7, 8, 9, 10, 11, 12, 13, 14] [(12, some true)] (bA 27 [0, 1, 2, 3, 4, 5, 6, 7, 8, 9, 10, 11, 12, 13, 14]) 12 (by kernel_rfl) (by kernel_rfl) (Cls.refl _ _) ?_
           have hC196 := Cls.refl w181 []
           refine gv_pureN 1 [111] [(111, undef)] (by kernel_rfl) ?_
           refine gv_nil <| gv_goA ?_
           refine gv_pre [15, 16, 17, 18, 19, 20, 21, 22, 23, 24, 25, 26] (bA 27 [0, 1, 2, 3, 4, 5, 6, 7, 8, 9, 10, 11, 12, 13, 14, 15, 16, 17, 18, 19, 20, 21, 22, 23, 24, 25, 26]) 0 (by kernel_rfl) (by kernel_rfl) ?_
           refine gv_pureN 12 [114, 115, 116, 117, 118, 119, 120, 121, 122, 123, 124, 125] [(125, (.bool true))] (by kernel_rfl) ?_
           refine gv_nil <| gv_goA ?_
           refine gv_stageE (by kernel_rfl) ?_
           have e := sj h4; subst e
           refine gv_goal fun a hd hs hok => ?_
           have hB197 := bg hB6 hg128 nb
           have hlo198 : w0.heap.size ≤ b126 := lob hbe130 hB6.size
           have hB199 := bg hB197 hg133 (rowlo hlo198)
           have hB200 := bg hB199 hg182 nb
           have hz201 := hg182.size
           exact ⟨hB200, hz201, hd, hs, ok_pick [0, 125] hok (by kernel_rfl)⟩
          ·skip
           replace h4 := ite_f hc195 h4
           refine gv_pureN 2 [110, 112] [(110, (.pointer (some ⟨b126, 1, none⟩))), (112, (.string s4))] (by kernel_rfl) ?_
           refine bindE h4 ?_; clear h4; intro x202 hx203 h4
           refine gv_sindex (t := 9) (s := s4) (kk := .i64) (i := 1) x202 [] (fun e => by cases e) rfl rfl rfl (by kernel_rfl) (by kernel_rfl) Tryd.underlying9 hx203 rfl ?_
           refine gv_nil <| gv_goA ?_
           refine gv_stage (Cls w181 []) [0, 1, 2, 3, 4, 5, 6, 7, 8, 9, 10, 11, 12, 13, 14] [(12, some true)] (bA 27 [0, 1, 2, 3, 4, 5, 6, 7, 8, 9, 10, 11, 12, 13, 14]) 12 (by kernel_rfl) (by kernel_rfl) (Cls.refl _ _) ?_
           have hC204 := Cls.refl w181 []
           refine gv_load (t := 5) (A := ⟨b126, 1, none⟩) (.int .u8 x123.2) [] (fun e => by cases e) rfl rfl rfl (by kernel_rfl) (by kernel_rfl) (by kernel_rfl) (inw1 fun w' hC' => ((hC'.box hk194 nm_nil).cell 1 rfl)) rfl ?_
           refine gv_nil <| gv_goA ?_
           refine gv_pre [15, 16, 17, 18, 19, 20, 21, 22, 23, 24, 25, 26] (bA 27 [0, 1, 2, 3, 4, 5, 6, 7, 8, 9, 10, 11, 12, 13, 14, 15, 16, 17, 18, 19, 20, 21, 22, 23, 24, 25, 26]) 0 (by kernel_rfl) (by kernel_rfl) ?_
           refine gv_pureN 3 [114, 115, 116] [(116, (.bool (decide (x123.2 < x202))))] (by kernel_rfl) ?_
           refine gv_sub [0, 116] (σ' := [(0, (.string s4)), (116, (.bool (decide (x123.2 < x202))))]) (by kernel_rfl) ?_
           refine gv_split (s := 116) (g := (decide (x123.2 < x202))) (by kernel_rfl) (fun hc205 => ?_) (fun hc205 => ?_)
           ·skip
            replace h4 := ite_t hc205 h4
            refine gv_pureN 9 [117, 118, 119, 120, 121, 122, 123, 124, 125] [(125, (.bool true))] (by kernel_rfl) ?_
            refine gv_nil <| gv_goA ?_
            refine gv_stageE (by kernel_rfl) ?_
            have e := sj h4; subst e
            refine gv_goal fun a hd hs hok => ?_
            have hB206 := bg hB6 hg128 nb
            have hlo207 : w0.heap.size ≤ b126 := lob hbe130 hB6.size
            have hB208 := bg hB206 hg133 (rowlo hlo207)
            have hB209 := bg hB208 hg182 nb
            have hz210 := hg182.size
            exact ⟨hB209, hz210, hd, hs, ok_pick [0, 125] hok (by kernel_rfl)⟩
           ·skip
            replace h4 := ite_f hc205 h4
            refine gv_pureN 1 [117] [(117, (.string s4))] (by kernel_rfl) ?_
            refine bindE h4 ?_; clear h4; intro x211 hx212 h4
            refine gv_sindex (t := 9) (s := s4) (kk := .i64) (i := 2) x211 [] (fun e => by cases e) rfl rfl rfl (by kernel_rfl) (by kernel_rfl) Tryd.underlying9 hx212 rfl ?_
            refine gv_pureN 3 [119, 120, 121] [(121, (.bool (decide (x211 < 128))))] (by kernel_rfl) ?_
            refine gv_split (s := 121) (g := (decide (x211 < 128))) (by kernel_rfl) (fun hc213 => ?_) (fun hc213 => ?_)
            ·skip
             replace h4 := ite_t hc213 h4
             refine gv_pureN 4 [122, 123, 124, 125] [(125, (.bool true))] (by kernel_rfl) ?_
             refine gv_nil <| gv_goA ?_
             refine gv_stageE (by kernel_rfl) ?_
             have e := sj h4; subst e
             refine gv_goal fun a hd hs hok => ?_
             have hB214 := bg hB6 hg128 nb
             have hlo215 : w0.heap.size ≤ b126 := lob hbe130 hB6.size
             have hB216 := bg hB214 hg133 (rowlo hlo215)
             have hB217 := bg hB216 hg182 nb
             have hz218 := hg182.size
             exact ⟨hB217, hz218, hd, hs, ok_pick [0, 125] hok (by kernel_rfl)⟩
            ·skip
             replace h4 := ite_f hc213 h4
             refine gv_pureN 1 [122] [(122, (.string s4))] (by kernel_rfl) ?_
             refine bindE h4 ?_; clear h4; intro x219 hx220 h4
             refine gv_sindex (t := 9) (s := s4) (kk := .i64) (i := 2) x219 [] (fun e => by cases e) rfl rfl rfl (by kernel_rfl) (by kernel_rfl) Tryd.underlying9 hx220 rfl ?_
             refine gv_pureN 2 [124, 125] [(125, (.bool (decide (191 < x219))))] (by kernel_rfl) ?_
             refine gv_nil <| gv_goA ?_
             refine gv_stageE (by kernel_rfl) ?_
             have e := sj h4; subst e
             refine gv_goal fun a hd hs hok => ?_
             have hB221 := bg hB6 hg128 nb
             have hlo222 : w0.heap.size ≤ b126 := lob hbe130 hB6.size
             have hB223 := bg hB221 hg133 (rowlo hlo222)
             have hB224 := bg hB223 hg182 nb
             have hz225 := hg182.size
             exact ⟨hB224, hz225, hd, hs, ok_pick [0, 125] hok (by kernel_rfl)⟩
        ·rintro a w180 ⟨hB226, hz227, hd, hs, hok⟩
         refine gv_in ?_ hd hs hok
         clear hd hs hok
         have hz228 := (nt (nt hz7 hg128.size) hg133.size)
         clear hc178 hc139 hz135 hb134 hg133 hz131 hbe130 hb129 hg128 hc125 hx124 hn122 hx120 hc11 hx10 hc8 hz7 hB6
         refine gv_cond (b := j179) (by kernel_rfl) (fun hc229 => ?_) (fun hc229 => ?_)
         ·replace h3 := ite_t hc229 h3
          refine gv_seq <| gv_region <| gv_pureN 1 [2] [(2, (.bool false))] (by kernel_rfl) ?_
          refine gv_nil <| gv_cret ?_
          have e := sj h3; subst e
          replace h2 := cont_inr h2
          have e := sj h2; subst e
          replace h1 := congrArg some (hR2 _ rfl)
          have e := sj h1; subst e
          replace h0 := cont_inr h0
          have e := sj h0; subst e
          refine gv_ret (gv_done [(.bool false)] rfl ⟨(by kernel_rfl), trivial⟩ ?_)
          exact ⟨grown_of_below hB226, rfl⟩
         ·replace h3 := ite_f hc229 h3
          refine gv_skip <| gv_region <| gv_pureN 1 [126] [(126, (.string s4))] (by kernel_rfl) ?_
          refine bindE h3 ?_; clear h3; intro x230 hx231 h3
          refine gv_ssub (t := 9) (s := s4) (lo := (some (.int .i64 3))) (hi := none) 3 ((ByteArray.size s4 : Nat) : Int) x230 [] (fun e => by cases e) rfl rfl rfl (by kernel_rfl) (by kernel_rfl) Tryd.underlying9 (.inr ⟨_, rfl⟩) (.inl ⟨rfl, rfl⟩) hx231 rfl ?_
          refine gv_pureN 1 [0] [(0, (.string x230))] (by kernel_rfl) ?_
          refine gv_nil ?_
          have e := sj h3; subst e
          refine gv_goal fun a hd hs hok => ?_
          have hz232 := hz227
          exact ⟨x230, rfl, hB226, hz232, hd, hs, ok_pick [0] hok (by kernel_rfl)⟩
       ·replace h3 := ite_f hc178 h3
        refine gv_seq <| gv_region <| gv_pureN 2 [128, 129] [(128, (.bool (n121 == 4)))] (by kernel_rfl) ?_
        refine gv_nil <| gv_cond (b := (n121 == 4)) (by kernel_rfl) (fun hc233 => ?_) (fun hc233 => ?_)
        ·replace h3 := ite_t hc233 h3
         refine gv_seq <| gv_seq <| bindE h3 ?_; clear h3; intro j234 h4 h3
         refine gv_cut_code (J := fun a w235 => Below w0.heap.size w0 w235 ∧ w132.heap.size ≤ w235.heap.size ∧ a.defers = [] ∧ a.tmps.size = 169 ∧ Ok [(0, (.string s4)), (166, (.bool j234))] a.tmps) ?_ ?_
         ·skip
          refine gv_drawA (by kernel_rfl) ?_
          intro w236 hg237
          refine gv_pre [0, 1, 2, 3, 4, 5, 6] (bA 37 [0, 1, 2, 3, 4, 5, 6]) 30 (by kernel_rfl) (by kernel_rfl) ?_
          refine gv_pureN 4 [130, 131, 132, 133] [(133, (.bool (decide (((ByteArray.size s4 : Nat) : Int) < 4))))] (by kernel_rfl) ?_
          refine gv_split (s := 133) (g := (decide (((ByteArray.size s4 : Nat) : Int) < 4))) (by kernel_rfl) (fun hc238 => ?_) (fun hc238 => ?_)
          ·skip
           replace h4 := ite_t hc238 h4
           refine gv_pureN 3 [134, 135, 136] [(135, undef), (136, undef)] (by kernel_rfl) ?_
           refine gv_nil <| gv_goA ?_
           refine gv_stage (Cls w236 []) [0, 1, 2, 3, 4, 5, 6, 7] [(7, some true)] (bA 37 [0, 1, 2, 3, 4, 5, 6, 7]) 29 (by kernel_rfl) (by kernel_rfl) (Cls.refl _ _) ?_
           have hC239 := Cls.refl w236 []
           refine gv_pureN 1 [137] [(137, undef)] (by kernel_rfl) ?_
           refine gv_nil <| gv_goA ?_
           refine gv_pre [8, 9, 10, 11, 13, 14] (bA 37 [0, 1, 2, 3, 4, 5, 6, 7, 8, 9, 10, 11, 13, 14]) 23 (by kernel_rfl) (by kernel_rfl) ?_
           refine gv_pureN 6 [138, 139, 140, 141, 143, 144] [(140, (.bool true)), (141, undef), (144, undef)] (by kernel_rfl) ?_
           refine gv_nil <| gv_goA ?_
           refine gv_stage (Cls w236 []) [0, 1, 2, 3, 4, 5, 6, 7, 8, 9, 10, 11, 12, 13, 14] [(12, some true)] (bA 37 [0, 1, 2, 3, 4, 5, 6, 7, 8, 9, 10, 11, 12, 13, 14]) 22 (by kernel_rfl) (by kernel_rfl) (Cls.refl _ _) ?_
           have hC240 := Cls.refl w236 []
           refine gv_pureN 1 [142] [(142, undef)] (by kernel_rfl) ?_
           refine gv_nil <| gv_goA ?_
           refine gv_pre [15, 16, 17, 18, 19, 20, 21, 22, 23, 24, 25, 26, 27, 28, 29, 30, 31, 32, 33, 34, 35, 36] (bA 37 [0, 1, 2, 3, 4, 5, 6, 7, 8, 9, 10, 11, 12, 13, 14, 15, 16, 17, 18, 19, 20, 21, 22, 23, 24, 25, 26, 27, 28, 29, 30, 31, 32, 33, 34, 35, 36]) 0 (by kernel_rfl) (by kernel_rfl) ?_
           refine gv_pureN 22 [145, 146, 147, 148, 149, 150, 151, 152, 153, 154, 155, 156, 157, 158, 159, 160, 161, 162, 163, 164, 165, 166] [(166, (.bool true))] (by kernel_rfl) ?_
           refine gv_nil <| gv_goA ?_
           refine gv_stageE (by kernel_rfl) ?_
           have e := sj h4; subst e
           refine gv_goal fun a hd hs hok => ?_
           have hB241 := bg hB6 hg128 nb
           have hlo242 : w0.heap.size ≤ b126 := lob hbe130 hB6.size
           have hB243 := bg hB241 hg133 (rowlo hlo242)
           have hB244 := bg hB243 hg237 nb
           have hz245 := hg237.size
           exact ⟨hB244, hz245, hd, hs, ok_pick [0, 166] hok (by kernel_rfl)⟩
          ·skip
           replace h4 := ite_f hc238 h4
           refine gv_pureN 1 [134] [(134, (.string s4))] (by kernel_rfl) ?_
           refine bindE h4 ?_; clear h4; intro x246 hx247 h4
           refine gv_sindex (t := 9) (s := s4) (kk := .i64) (i := 1) x246 [] (fun e => by cases e) rfl rfl rfl (by kernel_rfl) (by kernel_rfl) Tryd.underlying9 hx247 rfl ?_
           refine gv_pureN 1 [136] [(136, (bp b126))] (by kernel_rfl) ?_
           refine gv_nil <| gv_goA ?_
           refine gv_stage (Cls w236 []) [0, 1, 2, 3, 4, 5, 6, 7] [(7, some true)] (bA 37 [0, 1, 2, 3, 4, 5, 6, 7]) 29 (by kernel_rfl) (by kernel_rfl) (Cls.refl _ _) ?_
           have hC248 := Cls.refl w236 []
           have hk249 := hb134.grown hg237 nb
           refine gv_load (t := 5) (A := ⟨b126, 0, none⟩) (.int .u8 x123.1) [] (fun e => by cases e) rfl rfl rfl (by kernel_rfl) (by kernel_rfl) (by kernel_rfl) (inw1 fun w' hC' => ((hC'.box hk249 nm_nil).cell 0 rfl)) rfl ?_
           refine gv_nil <| gv_goA ?_
           refine gv_pre [8, 9, 10, 11, 13, 14] (bA 37 [0, 1, 2, 3, 4, 5, 6, 7, 8, 9, 10, 11, 13, 14]) 23 (by kernel_rfl) (by kernel_rfl) ?_
           refine gv_pureN 3 [138, 139, 140] [(140, (.bool (decide (x246 < x123.1))))] (by kernel_rfl) ?_
           refine gv_split (s := 140) (g := (decide (x246 < x123.1))) (by kernel_rfl) (fun hc250 => ?_) (fun hc250 => ?_)
           ·skip
            replace h4 := ite_t hc250 h4
            refine gv_pureN 3 [141, 143, 144] [(141, undef), (144, undef)] (by kernel_rfl) ?_
            refine gv_nil <| gv_goA ?_
            refine gv_stage (Cls w236 []) [0, 1, 2, 3, 4, 5, 6, 7, 8, 9, 10, 11, 12, 13, 14] [(12, some true)] (bA 37 [0, 1, 2, 3, 4, 5, 6, 7, 8, 9, 10, 11, 12, 13, 14]) 22 (by kernel_rfl) (by kernel_rfl) (Cls.refl _ _) ?_
            have hC251 := Cls.refl w236 []
            refine gv_pureN 1 [142] [(142, undef)] (by kernel_rfl) ?_
            refine gv_nil <| gv_goA ?_
            refine gv_pre [15, 16, 17, 18, 19, 20, 21, 22, 23, 24, 25, 26, 27, 28, 29, 30, 31, 32, 33, 34, 35, 36] (bA 37 [0, 1, 2, 3, 4, 5, 6, 7, 8, 9, 10, 11, 12, 13, 14, 15, 16, 17, 18, 19, 20, 21, 22, 23, 24, 25, 26, 27, 28, 29, 30, 31, 32, 33, 34, 35, 36]) 0 (by kernel_rfl) (by kernel_rfl) ?_
            refine gv_pureN 22 [145, 146, 147, 148, 149, 150, 151, 152, 153, 154, 155, 156, 157, 158, 159, 160, 161, 162, 163, 164, 165, 166] [(166, (.bool true))] (by kernel_rfl) ?_
            refine gv_sub [0, 166] (σ' := [(0, (.string s4)), (166, (.bool true))]) (by kernel_rfl) ?_
            refine gv_nil <| gv_goA ?_
            refine gv_stageE (by kernel_rfl) ?_
            have e := sj h4; subst e
            refine gv_goal fun a hd hs hok => ?_
            have hB252 := bg hB6 hg128 nb
            have hlo253 : w0.heap.size ≤ b126 := lob hbe130 hB6.size
            have hB254 := bg hB252 hg133 (rowlo hlo253)
            have hB255 := bg hB254 hg237 nb
            have hz256 := hg237.size
            exact ⟨hB255, hz256, hd, hs, ok_pick [0, 166] hok (by kernel_rfl)⟩
           ·skip
            replace h4 := ite_f hc250 h4
            refine gv_pureN 2 [141, 143] [(141, (.pointer (some ⟨b126, 1, none⟩))), (143, (.string s4))] (by kernel_rfl) ?_
            refine bindE h4 ?_; clear h4; intro x257 hx258 h4
            refine gv_sindex (t := 9) (s := s4) (kk := .i64) (i := 1) x257 [] (fun e => by cases e) rfl rfl rfl (by kernel_rfl) (by kernel_rfl) Tryd.underlying9 hx258 rfl ?_
            refine gv_nil <| gv_goA ?_
            refine gv_stage (Cls w236 []) [0, 1, 2, 3, 4, 5, 6, 7, 8, 9, 10, 11, 12, 13, 14] [(12, some true)] (bA 37 [0, 1, 2, 3, 4, 5, 6, 7, 8, 9, 10, 11, 12, 13, 14]) 22 (by kernel_rfl) (by kernel_rfl) (Cls.refl _ _) ?_
            have hC259 := Cls.refl w236 []
            refine gv_load (t := 5) (A := ⟨b126, 1, none⟩) (.int .u8 x123.2) [] (fun e => by cases e) rfl rfl rfl (by kernel_rfl) (by kernel_rfl) (by kernel_rfl) (inw1 fun w' hC' => ((hC'.box hk249 nm_nil).cell 1 rfl)) rfl ?_
            refine gv_nil <| gv_goA ?_
            refine gv_pre [15, 16, 17, 18, 19, 20, 21, 22, 23, 24, 25, 26, 27, 28, 29, 30, 31, 32, 33, 34, 35, 36] (bA 37 [0, 1, 2, 3, 4, 5, 6, 7, 8, 9, 10, 11, 12, 13, 14, 15, 16, 17, 18, 19, 20, 21, 22, 23, 24, 25, 26, 27, 28, 29, 30, 31, 32, 33, 34, 35, 36]) 0 (by kernel_rfl) (by kernel_rfl) ?_
            refine gv_pureN 3 [145, 146, 147] [(147, (.bool (decide (x123.2 < x257))))] (by kernel_rfl) ?_
            refine gv_sub [0, 147] (σ' := [(0, (.string s4)), (147, (.bool (decide (x123.2 < x257))))]) (by kernel_rfl) ?_
            refine gv_split (s := 147) (g := (decide (x123.2 < x257))) (by kernel_rfl) (fun hc260 => ?_) (fun hc260 => ?_)
            ·skip
             replace h4 := ite_t hc260 h4
             refine gv_pureN 19 [148, 149, 150, 151, 152, 153, 154, 155, 156, 157, 158, 159, 160, 161, 162, 163, 164, 165, 166] [(166, (.bool true))] (by kernel_rfl) ?_
             refine gv_nil <| gv_goA ?_
             refine gv_stageE (by kernel_rfl) ?_
             have e := sj h4; subst e
             refine gv_goal fun a hd hs hok => ?_
             have hB261 := bg hB6 hg128 nb
             have hlo262 : w0.heap.size ≤ b126 := lob hbe130 hB6.size
             have hB263 := bg hB261 hg133 (rowlo hlo262)
             have hB264 := bg hB263 hg237 nb
             have hz265 := hg237.size
             exact ⟨hB264, hz265, hd, hs, ok_pick [0, 166] hok (by kernel_rfl)⟩
            ·skip
             replace h4 := ite_f hc260 h4
             refine gv_pureN 1 [148] [(148, (.string s4))] (by kernel_rfl) ?_
             refine bindE h4 ?_; clear h4; intro x266 hx267 h4
             refine gv_sindex (t := 9) (s := s4) (kk := .i64) (i := 2) x266 [] (fun e => by cases e) rfl rfl rfl (by kernel_rfl) (by kernel_rfl) Tryd.underlying9 hx267 rfl ?_
             refine gv_pureN 3 [150, 151, 152] [(152, (.bool (decide (x266 < 128))))] (by kernel_rfl) ?_
             refine gv_split (s := 152) (g := (decide (x266 < 128))) (by kernel_rfl) (fun hc268 => ?_) (fun hc268 => ?_)
             ·skip
              replace h4 := ite_t hc268 h4
              refine gv_pureN 14 [153, 154, 155, 156, 157, 158, 159, 160, 161, 162, 163, 164, 165, 166] [(166, (.bool true))] (by kernel_rfl) ?_
              refine gv_nil <| gv_goA ?_
              refine gv_stageE (by kernel_rfl) ?_
              have e := sj h4; subst e
              refine gv_goal fun a hd hs hok => ?_
              have hB269 := bg hB6 hg128 nb
              have hlo270 : w0.heap.size ≤ b126 := lob hbe130 hB6.size
              have hB271 := bg hB269 hg133 (rowlo hlo270)
              have hB272 := bg hB271 hg237 nb
              have hz273 := hg237.size
              exact ⟨hB272, hz273, hd, hs, ok_pick [0, 166] hok (by kernel_rfl)⟩
             ·skip
              replace h4 := ite_f hc268 h4
              refine gv_pureN 1 [153] [(153, (.string s4))] (by kernel_rfl) ?_
              refine bindE h4 ?_; clear h4; intro x274 hx275 h4
              refine gv_sindex (t := 9) (s := s4) (kk := .i64) (i := 2) x274 [] (fun e => by cases e) rfl rfl rfl (by kernel_rfl) (by kernel_rfl) Tryd.underlying9 hx275 rfl ?_
              refine gv_pureN 3 [155, 156, 157] [(157, (.bool (decide (191 < x274))))] (by kernel_rfl) ?_
              refine gv_split (s := 157) (g := (decide (191 < x274))) (by kernel_rfl) (fun hc276 => ?_) (fun hc276 => ?_)
              ·skip
               replace h4 := ite_t hc276 h4
               refine gv_pureN 9 [158, 159, 160, 161, 162, 163, 164, 165, 166] [(166, (.bool true))] (by kernel_rfl) ?_
               refine gv_nil <| gv_goA ?_
               refine gv_stageE (by kernel_rfl) ?_
               have e := sj h4; subst e
               refine gv_goal fun a hd hs hok => ?_
               have hB277 := bg hB6 hg128 nb
               have hlo278 : w0.heap.size ≤ b126 := lob hbe130 hB6.size
               have hB279 := bg hB277 hg133 (rowlo hlo278)
               have hB280 := bg hB279 hg237 nb
               have hz281 := hg237.size
               exact ⟨hB280, hz281, hd, hs, ok_pick [0, 166] hok (by kernel_rfl)⟩
              ·skip
               replace h4 := ite_f hc276 h4
               refine gv_pureN 1 [158] [(158, (.string s4))] (by kernel_rfl) ?_
               refine bindE h4 ?_; clear h4; intro x282 hx283 h4
               refine gv_sindex (t := 9) (s := s4) (kk := .i64) (i := 3) x282 [] (fun e => by cases e) rfl rfl rfl (by kernel_rfl) (by kernel_rfl) Tryd.underlying9 hx283 rfl ?_
               refine gv_pureN 3 [160, 161, 162] [(162, (.bool (decide (x282 < 128))))] (by kernel_rfl) ?_
               refine gv_split (s := 162) (g := (decide (x282 < 128))) (by kernel_rfl) (fun hc284 => ?_) (fun hc284 => ?_)
               ·skip
                replace h4 := ite_t hc284 h4
                refine gv_pureN 4 [163, 164, 165, 166] [(166, (.bool true))] (by kernel_rfl) ?_
                refine gv_nil <| gv_goA ?_
                refine gv_stageE (by kernel_rfl) ?_
                have e := sj h4; subst e
                refine gv_goal fun a hd hs hok => ?_
                have hB285 := bg hB6 hg128 nb
                have hlo286 : w0.heap.size ≤ b126 := lob hbe130 hB6.size
                have hB287 := bg hB285 hg133 (rowlo hlo286)
                have hB288 := bg hB287 hg237 nb
                have hz289 := hg237.size
                exact ⟨hB288, hz289, hd, hs, ok_pick [0, 166] hok (by kernel_rfl)⟩
               ·skip
                replace h4 := ite_f hc284 h4
                refine gv_pureN 1 [163] [(163, (.string s4))] (by kernel_rfl) ?_
                refine bindE h4 ?_; clear h4; intro x290 hx291 h4
                refine gv_sindex (t := 9) (s := s4) (kk := .i64) (i := 3) x290 [] (fun e => by cases e) rfl rfl rfl (by kernel_rfl) (by kernel_rfl) Tryd.underlying9 hx291 rfl ?_
                refine gv_pureN 2 [165, 166] [(166, (.bool (decide (191 < x290))))] (by kernel_rfl) ?_
                refine gv_nil <| gv_goA ?_
                refine gv_stageE (by kernel_rfl) ?_
                have e := sj h4; subst e
                refine gv_goal fun a hd hs hok => ?_
                have hB292 := bg hB6 hg128 nb
                have hlo293 : w0.heap.size ≤ b126 := lob hbe130 hB6.size
                have hB294 := bg hB292 hg133 (rowlo hlo293)
                have hB295 := bg hB294 hg237 nb
                have hz296 := hg237.size
                exact ⟨hB295, hz296, hd, hs, ok_pick [0, 166] hok (by kernel_rfl)⟩
         ·rintro a w235 ⟨hB297, hz298, hd, hs, hok⟩
          refine gv_in ?_ hd hs hok
          clear hd hs hok
          have hz299 := (nt (nt hz7 hg128.size) hg133.size)
          clear hc233 hc178 hc139 hz135 hb134 hg133 hz131 hbe130 hb129 hg128 hc125 hx124 hn122 hx120 hc11 hx10 hc8 hz7 hB6
          refine gv_cond (b := j234) (by kernel_rfl) (fun hc300 => ?_) (fun hc300 => ?_)
          ·replace h3 := ite_t hc300 h3
           refine gv_seq <| gv_region <| gv_pureN 1 [2] [(2, (.bool false))] (by kernel_rfl) ?_
           refine gv_nil <| gv_cret ?_
           have e := sj h3; subst e
           replace h2 := cont_inr h2
           have e := sj h2; subst e
           replace h1 := congrArg some (hR2 _ rfl)
           have e := sj h1; subst e
           replace h0 := cont_inr h0
           have e := sj h0; subst e
           refine gv_ret (gv_done [(.bool false)] rfl ⟨(by kernel_rfl), trivial⟩ ?_)
           exact ⟨grown_of_below hB297, rfl⟩
          ·replace h3 := ite_f hc300 h3
           refine gv_skip <| gv_region <| gv_pureN 1 [167] [(167, (.string s4))] (by kernel_rfl) ?_
           refine bindE h3 ?_; clear h3; intro x301 hx302 h3
           refine gv_ssub (t := 9) (s := s4) (lo := (some (.int .i64 4))) (hi := none) 4 ((ByteArray.size s4 : Nat) : Int) x301 [] (fun e => by cases e) rfl rfl rfl (by kernel_rfl) (by kernel_rfl) Tryd.underlying9 (.inr ⟨_, rfl⟩) (.inl ⟨rfl, rfl⟩) hx302 rfl ?_
           refine gv_pureN 1 [0] [(0, (.string x301))] (by kernel_rfl) ?_
           refine gv_nil ?_
           have e := sj h3; subst e
           refine gv_goal fun a hd hs hok => ?_
           have hz303 := hz298
           exact ⟨x301, rfl, hB297, hz303, hd, hs, ok_pick [0] hok (by kernel_rfl)⟩
        ·replace h3 := ite_f hc233 h3
         refine gv_seq <| gv_region <| gv_pureN 1 [2] [(2, (.bool false))] (by kernel_rfl) ?_
         refine gv_nil <| gv_cret ?_
         have e := sj h3; subst e
         replace h2 := cont_inr h2
         have e := sj h2; subst e
         replace h1 := congrArg some (hR2 _ rfl)
         have e := sj h1; subst e
         replace h0 := cont_inr h0
         have e := sj h0; subst e
         refine gv_ret (gv_done [(.bool false)] rfl ⟨(by kernel_rfl), trivial⟩ ?_)
         have hB304 := bg hB6 hg128 nb
         have hlo305 : w0.heap.size ≤ b126 := lob hbe130 hB6.size
         have hB306 := bg hB304 hg133 (rowlo hlo305)
         exact ⟨grown_of_below hB306, rfl⟩
     ·rintro a w138 ⟨s137, e, hB307, hz308, hd, hs, hok⟩
      subst e
      refine gv_in ?_ hd hs hok
      clear hd hs hok
      replace h2 := cont_inl h2
      have hz309 := (nt (nt (nt hz7 hg128.size) hg133.size) hz308)
      clear hz308 hz135 hb134 hg133 hz131 hbe130 hb129 hg128 hc125 hx124 hn122 hx120 hc11 hx10 hc8 hz7 hB6
      refine gv_blk <| gv_blk ?_
      have e := sj h2; subst e
      refine gv_goal fun a hd hs hok => ?_
      have hz310 := hz309
      exact ⟨s137, rfl, hB307, hz310, hd, hs, ok_pick [0] hok (by kernel_rfl)⟩
   ·replace h2 := ite_f hc8 h2
    refine gv_cexit <| gv_exit rfl ?_
    have e := sj h2; subst e
    replace h1 := congrArg some (hR2 _ rfl)
    have e := sj h1; subst e
    refine gv_goal fun a hd hs hok => ?_
    have hz311 := hz7
    exact ⟨(), rfl, hB6, hz311, hd, hs, ok_pick [] hok (by kernel_rfl)⟩
 ·rintro a w3 ⟨s2, e, hB312, hz313, hd, hs, hok⟩
  subst e
  refine gv_in ?_ hd hs hok
  clear hd hs hok
  replace h0 := cont_inl h0
  refine gv_seq <| gv_region <| gv_pureN 1 [2] [(2, (.bool true))] (by kernel_rfl) ?_
  refine gv_nil <| gv_cret ?_
  have e := sj h0; subst e
  refine gv_ret (gv_done [(.bool true)] rfl ⟨(by kernel_rfl), trivial⟩ ?_)
  exact ⟨grown_of_below hB312, rfl⟩

theorem bytestr_result_ok (fuel : Nat) (pa0_0 : Option Addr) (pc0_0 : Nat) (b_0 : (List UInt8)) (w0 : World) (X0 : Nat → Prop) (hX0 : ∀ k, X0 k → k < w0.heap.size) (hpa0_0 : Rd bE w0 X0 pa0_0 pc0_0 b_0) (r0 : ((List UInt8) × (Int × Int))) (h0 : bytestr_result fuel b_0 = some r0) :
    Calls Tryd.prog 44 ([(.slice pa0_0 (List.length b_0) pc0_0)] : List Value).toArray w0 (Ret fun v w' => w0.grownBy w' none ∧ ∃ (a0_0r : Option Addr) (c0_0r : Nat), ∃ (X0_0r : Nat → Prop), v = tup [(.slice a0_0r (List.length r0.1) c0_0r), (.agg #[(.int .i64 r0.2.1), (.int .i64 r0.2.2)])] ∧ Rd bE w' X0_0r a0_0r c0_0r r0.1 ∧ (∀ k, X0_0r k → k < w'.heap.size ∧ (X0 k ∨ w0.heap.size ≤ k))) := by
 have hB0 : Below w0.heap.size w0 w0 := Below.refl _ _
 unfold bytestr_result at h0
 refine calls_run Tryd.func44 rfl Tryd.ntmps44 (by kernel_rfl) ?_
 refine gv_sub [0] (σ' := [(0, (.slice pa0_0 (List.length b_0) pc0_0))]) (by kernel_rfl) ?_
 refine gv_seq <| gv_region <| gv_pureN 1 [2] [] (by kernel_rfl) ?_
 refine gv_new0 (fun b => .pointer (some ⟨b, 0, none⟩)) #[(.int .i64 0), (.int .i64 0)] 25 (by kernel_rfl) (by kernel_rfl) ?_
 intro b1 w2 hg3 hb4 hbe5 hz6
 refine gv_nil <| gv_seq <| gv_seq <| gv_region <| gv_pureN 3 [4, 5, 6] [(6, (.bool (decide (((List.length b_0 : Nat) : Int) > 4000))))] (by kernel_rfl) ?_
 refine gv_nil <| gv_cond (b := (decide (((List.length b_0 : Nat) : Int) > 4000))) (by kernel_rfl) (fun hc7 => ?_) (fun hc7 => ?_)
 ·replace h0 := ite_t hc7 h0
  refine gv_seq <| gv_region <| bindE h0 ?_; clear h0; intro r8 hr9 h0
  refine gv_call0 (by kernel_rfl) rfl (by kernel_rfl) enters38 (bytestr_at_ok fuel 3 (-1) w2  r8 hr9) ?_
  rintro v12 w10 ⟨hg11, rfl⟩
  refine gv_pureN 1 [2] [(2, (.slice none (List.length ([] : List UInt8)) 0))] (by kernel_rfl) ?_
  have hk17 := hb4.grown hg11 nb
  refine gv_store0 25 0 (.agg #[(.int .i64 r8.1), (.int .i64 r8.2)]) #[(.int .i64 r8.1), (.int .i64 r8.2)] hk17 (by kernel_rfl) (by kernel_rfl) (by kernel_rfl) ?_
  intro w13 hg14 hb15 hz16
  refine gv_nil <| gv_cret ?_
  have e := sj h0; subst e
  refine gv_ret (gv_done [(.slice none (List.length ([] : List UInt8)) 0), (.agg #[(.int .i64 r8.1), (.int .i64 r8.2)])] rfl ⟨(by kernel_rfl), ⟨⟨b1, 0, none⟩, (by kernel_rfl), run_loadVar_row w13 b1 _ 25 _ _ _ hb15 Tryd.underlying25 rfl (by kernel_rfl)⟩, trivial⟩ ?_)
  have hg18 := (grown_trans hg3 hg11)
  have hB19 := bg hB0 hg18 nb
  have hlo20 : w0.heap.size ≤ b1 := lob hbe5 hB0.size
  have hB21 := bg hB19 hg14 (rowlo hlo20)
  exact ⟨grown_of_below hB21, none, 0, (fun _ => False), rfl, (Rd.nil bE w13 (fun _ => False) none 0), (fun k hk => ⟨(fun _ h => h.elim) k hk, (fun _ h => h.elim) k hk⟩)⟩
 ·replace h0 := ite_f hc7 h0
  refine gv_skip <| gv_seq <| gv_region <| gv_pureN 3 [2, 8, 9] [(2, (.slice pa0_0 (List.length b_0) pc0_0)), (9, (.agg #[(.int .i64 0), (.int .i64 0)]))] (by kernel_rfl) ?_
  refine gv_store0 25 0 (.agg #[(.int .i64 0), (.int .i64 0)]) #[(.int .i64 0), (.int .i64 0)] hb4 (by kernel_rfl) (by kernel_rfl) (by kernel_rfl) ?_
  intro w22 hg23 hb24 hz25
  refine gv_nil <| gv_cret ?_
  have e := sj h0; subst e
  refine gv_ret (gv_done [(.slice pa0_0 (List.length b_0) pc0_0), (.agg #[(.int .i64 0), (.int .i64 0)])] rfl ⟨(by kernel_rfl), ⟨⟨b1, 0, none⟩, (by kernel_rfl), run_loadVar_row w22 b1 _ 25 _ _ _ hb24 Tryd.underlying25 rfl (by kernel_rfl)⟩, trivial⟩ ?_)
  have hB26 := bg hB0 hg3 nb
  have hlo27 : w0.heap.size ≤ b1 := lob hbe5 hB0.size
  have hB28 := bg hB26 hg23 (rowlo hlo27)
  exact ⟨grown_of_below hB28, pa0_0, pc0_0, X0, rfl, (hpa0_0.below hB28 hX0), (fun k hk => ⟨(fun k (hk : X0 k) => ltl (hX0 k hk) hB28.size) k hk, (fun k (hk : X0 k) => Or.inl hk) k hk⟩)⟩

theorem bytestr_Encode_ok (fuel : Nat) (s_0 : ByteArray) (coding_1 : Int) (w0 : World) (X0 : Nat → Prop) (hX0 : ∀ k, X0 k → k < w0.heap.size) (hG0 : Rd bE w0 X0 (some ⟨0, 0, none⟩) 256 utf8First) (hG1 : Rd (prE (iE .u8) (iE .u8)) w0 X0 (some ⟨1, 0, none⟩) 16 utf8Acc) (r0 : ((List UInt8) × (Int × Int))) (h0 : bytestr_Encode fuel s_0 coding_1 = some r0) :
    Calls Tryd.prog 22 ([(.string s_0), (.int .i64 coding_1)] : List Value).toArray w0 (Ret fun v w' => w0.grownBy w' none ∧ ∃ (a0_0r : Option Addr) (c0_0r : Nat), ∃ (X0_0r : Nat → Prop), v = tup [(.slice a0_0r (List.length r0.1) c0_0r), (.agg #[(.int .i64 r0.2.1), (.int .i64 r0.2.2)])] ∧ Rd bE w' X0_0r a0_0r c0_0r r0.1 ∧ (∀ k, X0_0r k → k < w'.heap.size ∧ (X0 k ∨ w0.heap.size ≤ k))) := by
 have hB0 : Below w0.heap.size w0 w0 := Below.refl _ _
 unfold bytestr_Encode at h0
 refine calls_run Tryd.func22 rfl Tryd.ntmps22 (by kernel_rfl) ?_
 refine gv_sub [0, 1] (σ' := [(0, (.string s_0)), (1, (.int .i64 coding_1))]) (by kernel_rfl) ?_
 refine gv_seq <| gv_region <| gv_pureN 1 [4] [] (by kernel_rfl) ?_
 refine gv_new0 (fun b => .pointer (some ⟨b, 0, none⟩)) #[(.int .i64 0), (.int .i64 0)] 25 (by kernel_rfl) (by kernel_rfl) ?_
 intro b1 w2 hg3 hb4 hbe5 hz6
 refine gv_nil <| gv_seq <| gv_block <| gv_seq <| gv_region <| bindE h0 ?_; clear h0; intro j7 h1 h0
 refine gv_cut_ops (J := fun a w8 => Below w0.heap.size w0 w8 ∧ w2.heap.size ≤ w8.heap.size ∧ Box w8 b1 25 #[(.int .i64 0), (.int .i64 0)] ∧ a.defers = [] ∧ a.tmps.size = 96 ∧ Ok [(0, (.string s_0)), (1, (.int .i64 coding_1)), (5, (bp b1)), (12, (.bool j7))] a.tmps) ?_ ?_
 ·skip
  refine gv_pureN 1 [13] [(13, (.string s_0))] (by kernel_rfl) ?_
  refine bindE h1 ?_; clear h1; intro r9 hr10 h1
  have hB11 := bg hB0 hg3 nb
  refine gv_call0 (by kernel_rfl) rfl (by kernel_rfl) enters42 (utf8_ValidString_ok fuel s_0 w2 (fun k => X0 k ∨ X0 k) (fun k hk => (hk).elim (fun h => (fun k (hk : X0 k) => ltl (hX0 k hk) hB11.size) k h) (fun h => (fun k (hk : X0 k) => ltl (hX0 k hk) hB11.size) k h)) ((hG0.below hB11 hX0).wide (fun k hk => (.inl hk))) ((hG1.below hB11 hX0).wide (fun k hk => (.inr hk))) r9 hr10) ?_
  rintro v14 w12 ⟨hg13, rfl⟩
  refine gv_pureN 2 [15, 16] [(16, (.bool (!r9)))] (by kernel_rfl) ?_
  refine gv_split (s := 16) (g := (!r9)) (by kernel_rfl) (fun hc15 => ?_) (fun hc15 => ?_)
  ·skip
   replace h1 := ite_t hc15 h1
   refine gv_pureN 5 [12, 17, 18, 19, 20] [(12, (.bool true))] (by kernel_rfl) ?_
   refine gv_nil ?_
   have e := sj h1; subst e
   refine gv_goal fun a hd hs hok => ?_
   have hB16 := bg hB11 hg13 nb
   have hz17 := hg13.size
   have hk18 := hb4.grown hg13 nb
   exact ⟨hB16, hz17, hk18, hd, hs, ok_pick [0, 1, 5, 12] hok (by kernel_rfl)⟩
  ·skip
   replace h1 := ite_f hc15 h1
   refine gv_pureN 5 [12, 17, 18, 19, 20] [(12, (.bool (decide (((ByteArray.size s_0 : Nat) : Int) > 4000))))] (by kernel_rfl) ?_
   refine bindE h1 ?_; clear h1; intro n19 hn20 h1
   refine gv_name (s := 12) (v := (.bool (decide (((ByteArray.size s_0 : Nat) : Int) > 4000)))) (v' := (.bool n19)) (by kernel_rfl) (congrArg (Value.bool) (sj hn20)) ?_
   refine gv_nil ?_
   have e := sj h1; subst e
   refine gv_goal fun a hd hs hok => ?_
   have hB21 := bg hB11 hg13 nb
   have hz22 := hg13.size
   have hk23 := hb4.grown hg13 nb
   exact ⟨hB21, hz22, hk23, hd, hs, ok_pick [0, 1, 5, 12] hok (by kernel_rfl)⟩
 ·rintro a w8 ⟨hB24, hz25, hb26, hd, hs, hok⟩
  refine gv_in ?_ hd hs hok
  clear hd hs hok
  clear hz25 hz6 hb4 hg3
  refine gv_cond (b := j7) (by kernel_rfl) (fun hc27 => ?_) (fun hc27 => ?_)
  ·replace h0 := ite_t hc27 h0
   refine gv_seq <| gv_region <| bindE h0 ?_; clear h0; intro r28 hr29 h0
   refine gv_call0 (by kernel_rfl) rfl (by kernel_rfl) enters38 (bytestr_at_ok fuel 6 (-1) w8  r28 hr29) ?_
   rintro v32 w30 ⟨hg31, rfl⟩
   refine gv_pureN 1 [4] [(4, (.slice none (List.length ([] : List UInt8)) 0))] (by kernel_rfl) ?_
   have hk37 := hb26.grown hg31 nb
   refine gv_store0 25 0 (.agg #[(.int .i64 r28.1), (.int .i64 r28.2)]) #[(.int .i64 r28.1), (.int .i64 r28.2)] hk37 (by kernel_rfl) (by kernel_rfl) (by kernel_rfl) ?_
   intro w33 hg34 hb35 hz36
   refine gv_nil <| gv_cret ?_
   have e := sj h0; subst e
   refine gv_ret (gv_done [(.slice none (List.length ([] : List UInt8)) 0), (.agg #[(.int .i64 r28.1), (.int .i64 r28.2)])] rfl ⟨(by kernel_rfl), ⟨⟨b1, 0, none⟩, (by kernel_rfl), run_loadVar_row w33 b1 _ 25 _ _ _ hb35 Tryd.underlying25 rfl (by kernel_rfl)⟩, trivial⟩ ?_)
   have hB38 := bg hB24 hg31 nb
   have hlo39 : w0.heap.size ≤ b1 := lob hbe5 hB0.size
   have hB40 := bg hB38 hg34 (rowlo hlo39)
   exact ⟨grown_of_below hB40, none, 0, (fun _ => False), rfl, (Rd.nil bE w33 (fun _ => False) none 0), (fun k hk => ⟨(fun _ h => h.elim) k hk, (fun _ h => h.elim) k hk⟩)⟩
  ·replace h0 := ite_f hc27 h0
   refine gv_seq <| gv_region <| gv_cut_ops (J := fun a w41 => w8 = w41 ∧ a.defers = [] ∧ a.tmps.size = 96 ∧ Ok [(0, (.string s_0)), (1, (.int .i64 coding_1)), (5, (bp b1)), (22, (.bool ((decide (coding_1 < 0)) || (decide (coding_1 > 2)))))] a.tmps) ?_ ?_
   ·skip
    refine gv_pureN 3 [23, 24, 25] [(25, (.bool (decide (coding_1 < 0))))] (by kernel_rfl) ?_
    refine gv_split (s := 25) (g := (decide (coding_1 < 0))) (by kernel_rfl) (fun hc42 => ?_) (fun hc42 => ?_)
    ·skip
     refine gv_pureN 4 [22, 26, 27, 28] [(22, (.bool true))] (by kernel_rfl) ?_
     refine gv_nil <| gv_sub [0, 1, 5, 22] (σ' := [(0, (.string s_0)), (1, (.int .i64 coding_1)), (5, (bp b1)), (22, (.bool true))]) (by kernel_rfl) ?_
     refine gv_goal fun a hd hs hok => ⟨rfl, hd, hs, ?_⟩
     obtain ⟨q0, q1, q5, q22, _⟩ := hok
     exact ⟨q0, q1, q5, (by rw [hc42]; exact q22), trivial⟩
    ·skip
     refine gv_pureN 4 [22, 26, 27, 28] [(22, (.bool (decide (coding_1 > 2))))] (by kernel_rfl) ?_
     refine gv_nil <| gv_sub [0, 1, 5, 22] (σ' := [(0, (.string s_0)), (1, (.int .i64 coding_1)), (5, (bp b1)), (22, (.bool (decide (coding_1 > 2))))]) (by kernel_rfl) ?_
     refine gv_goal fun a hd hs hok => ⟨rfl, hd, hs, ?_⟩
     obtain ⟨q0, q1, q5, q22, _⟩ := hok
     exact ⟨q0, q1, q5, (by rw [hc42]; exact q22), trivial⟩
   ·rintro a w41 ⟨e, hd, hs, hok⟩; subst e
    refine gv_in ?_ hd hs hok
    clear hd hs hok
    refine gv_cond (b := ((decide (coding_1 < 0)) || (decide (coding_1 > 2)))) (by kernel_rfl) (fun hc43 => ?_) (fun hc43 => ?_)
    ·replace h0 := ite_t hc43 h0
     refine gv_seq <| gv_region <| bindE h0 ?_; clear h0; intro r44 hr45 h0
     refine gv_call0 (by kernel_rfl) rfl (by kernel_rfl) enters38 (bytestr_at_ok fuel 5 (-2) w8  r44 hr45) ?_
     rintro v48 w46 ⟨hg47, rfl⟩
     refine gv_pureN 1 [4] [(4, (.slice none (List.length ([] : List UInt8)) 0))] (by kernel_rfl) ?_
     have hk53 := hb26.grown hg47 nb
     refine gv_store0 25 0 (.agg #[(.int .i64 r44.1), (.int .i64 r44.2)]) #[(.int .i64 r44.1), (.int .i64 r44.2)] hk53 (by kernel_rfl) (by kernel_rfl) (by kernel_rfl) ?_
     intro w49 hg50 hb51 hz52
     refine gv_nil <| gv_cret ?_
     have e := sj h0; subst e
     refine gv_ret (gv_done [(.slice none (List.length ([] : List UInt8)) 0), (.agg #[(.int .i64 r44.1), (.int .i64 r44.2)])] rfl ⟨(by kernel_rfl), ⟨⟨b1, 0, none⟩, (by kernel_rfl), run_loadVar_row w49 b1 _ 25 _ _ _ hb51 Tryd.underlying25 rfl (by kernel_rfl)⟩, trivial⟩ ?_)
     have hB54 := bg hB24 hg47 nb
     have hlo55 : w0.heap.size ≤ b1 := lob hbe5 hB0.size
     have hB56 := bg hB54 hg50 (rowlo hlo55)
     exact ⟨grown_of_below hB56, none, 0, (fun _ => False), rfl, (Rd.nil bE w49 (fun _ => False) none 0), (fun k hk => ⟨(fun _ h => h.elim) k hk, (fun _ h => h.elim) k hk⟩)⟩
    ·replace h0 := ite_f hc43 h0
     refine gv_skip <| gv_blk <| gv_seq <| gv_region <| gv_pureN 1 [6] [(6, (.slice none (List.length ([] : List UInt8)) 0))] (by kernel_rfl) ?_
     refine gv_nil <| gv_seq <| gv_region <| gv_pureN 1 [7] [(7, (.int .i64 0))] (by kernel_rfl) ?_
     refine gv_nil <| gv_seq <| gv_seq <| gv_region <| gv_pureN 1 [30] [(30, (.string s_0))] (by kernel_rfl) ?_
     refine gv_range (t := 9) (s := s_0) (by kernel_rfl) (by kernel_rfl) Tryd.underlying9 ?_
     intro b57 w58 hg59 hb60 hbe61 hz62
     refine gv_nil <| bindE h0 ?_; clear h0; intro j63 h1 h0
     refine gv_cut_code (J := fun a w65 => ∃ s64 : ((List UInt8) × (Int × Int)), j63 = .inl s64 ∧ ∃ (a6_0j : Option Addr) (c6_0j : Nat), Below w0.heap.size w0 w65 ∧ w58.heap.size ≤ w65.heap.size ∧ Gv.Own bE 5 w65 (fun _ => False) a6_0j c6_0j s64.1 ∧ (∀ g, blk a6_0j = some g → w0.heap.size ≤ g) ∧ (∀ g, blk a6_0j = some g → ¬ (· = b1) g) ∧ ¬ (fun k => blk a6_0j = some k) b1 ∧ Box w65 b1 25 #[(.int .i64 s64.2.1), (.int .i64 s64.2.2)] ∧ a.defers = [] ∧ a.tmps.size = 96 ∧ Ok [(5, (bp b1)), (6, (.slice a6_0j (List.length s64.1) c6_0j))] a.tmps) ?_ ?_
     ·skip
      refine gv_block <| gv_loop (A := fun (s66 : ((List UInt8) × Int × (Int × Int) × Nat)) a w67 => ∃ (a6_0j : Option Addr) (c6_0j : Nat), Below w0.heap.size w0 w67 ∧ w58.heap.size ≤ w67.heap.size ∧ Gv.Own bE 5 w67 (fun _ => False) a6_0j c6_0j s66.1 ∧ (∀ g, blk a6_0j = some g → w0.heap.size ≤ g) ∧ (∀ g, blk a6_0j = some g → ¬ (· = b1) g) ∧ (∀ g, blk a6_0j = some g → ¬ (· = b57) g) ∧ ¬ (fun k => blk a6_0j = some k) b1 ∧ ¬ (fun k => blk a6_0j = some k) b57 ∧ Box w67 b1 25 #[(.int .i64 s66.2.2.1.1), (.int .i64 s66.2.2.1.2)] ∧ At w67 b57 (.stringIter s_0 s66.2.2.2) ∧ a.defers = [] ∧ a.tmps.size = 96 ∧ Ok [(1, (.int .i64 coding_1)), (5, (bp b1)), (6, (.slice a6_0j (List.length s66.1) c6_0j)), (7, (.int .i64 s66.2.1)), (31, (bp b57))] a.tmps) h1 ?_ ?_
      ·intro a hd hs hok
       have hB68 := bg hB24 hg59 nb
       have hk69 := hb26.grown hg59 nb
       exact ⟨none, 0, hB68, (Nat.le_refl _), (Gv.Own.nil bE 5 w58 (fun _ => False)), (fun _ h => by cases h), (fun _ h => by cases h), (fun _ h => by cases h), (fun h => by cases h), (fun h => by cases h), hk69, hb60, hd, hs, ok_pick [1, 5, 6, 7, 31] hok (by kernel_rfl)⟩
      ·rintro s66 r2 h2 hR2 a w67 ⟨a72, c73, hB70, hz71, ho74, hl75, ap76, ap77, ap78, ap79, hb80, hb81, hd, hs, hok⟩
       refine gv_in ?_ hd hs hok
       clear hd hs hok
       clear hz62 hb60 hg59 hc43 hc27
       refine gv_seq <| gv_region <| gv_next (b := b57) (s := s_0) (pos := s66.2.2.2) (ty := 0) (by kernel_rfl) (by kernel_rfl) hb81 (fun hc82 => ?_) (fun hc82 => ?_)
       ·skip
        replace h2 := ite_t hc82 h2
        intro w83 hg84 hb85 hz86
        have hz87 := (nt hz71 hg84.size)
        clear hz86 hc82 hb81 hz71
        refine gv_pureN 1 [33] [(33, (.bool true))] (by kernel_rfl) ?_
        refine gv_nil <| gv_seq <| gv_cond (b := true) (by kernel_rfl) (fun hc => ?_) (fun hc => ?_)
        rotate_left; · cases hc
        clear hc
        refine gv_skip <| gv_block <| gv_seq <| gv_region <| gv_pureN 2 [9, 34] [(9, (.int .i32 (runeI s_0 s66.2.2.2)))] (by kernel_rfl) ?_
        refine gv_nil <| gv_seq <| gv_block <| gv_seq <| gv_region <| gv_pureN 3 [40, 41, 42] [(40, (.bool (coding_1 == 0)))] (by kernel_rfl) ?_
        refine gv_nil <| bindE h2 ?_; clear h2; intro j88 h3 h2
        refine gv_cut_code (J := fun a w90 => ∃ s89 : ((List UInt8) × (Int × Int)), j88 = .inl s89 ∧ ∃ (a6_0j : Option Addr) (c6_0j : Nat), Below w0.heap.size w0 w90 ∧ w83.heap.size ≤ w90.heap.size ∧ Gv.Own bE 5 w90 (fun _ => False) a6_0j c6_0j s89.1 ∧ (∀ g, blk a6_0j = some g → w0.heap.size ≤ g) ∧ (∀ g, blk a6_0j = some g → ¬ (· = b1) g) ∧ (∀ g, blk a6_0j = some g → ¬ (· = b57) g) ∧ ¬ (fun k => blk a6_0j = some k) b1 ∧ ¬ (fun k => blk a6_0j = some k) b57 ∧ Box w90 b1 25 #[(.int .i64 s89.2.1), (.int .i64 s89.2.2)] ∧ At w90 b57 (.stringIter s_0 (s66.2.2.2 + runeN s_0 s66.2.2.2)) ∧ a.defers = [] ∧ a.tmps.size = 96 ∧ Ok [(1, (.int .i64 coding_1)), (5, (bp b1)), (6, (.slice a6_0j (List.length s89.1) c6_0j)), (7, (.int .i64 s66.2.1)), (31, (bp b57))] a.tmps) ?_ ?_
        ·skip
         refine gv_cond (b := (coding_1 == 0)) (by kernel_rfl) (fun hc91 => ?_) (fun hc91 => ?_)
         ·replace h3 := ite_t hc91 h3
          refine gv_region <| gv_pureN 2 [43, 44] [(43, (.slice a72 (List.length s66.1) c73)), (44, (.int .i32 (runeI s_0 s66.2.2.2)))] (by kernel_rfl) ?_
          refine bindE h3 ?_; clear h3; intro r92 hr93 h3
          have hk94 := ho74.grown hg84 (fun _ h => h.elim) (rdnn (rowne ap79))
          refine gv_call0 (by kernel_rfl) rfl (by kernel_rfl) enters43 (utf8_AppendRune_ok fuel a72 c73 s66.1 (runeI s_0 s66.2.2.2) w83 hk94 r92 hr93) ?_
          rintro v97 w95 ⟨hg96, a98, c99, rfl, ho100, hk101⟩
          have hlo103 : w0.heap.size ≤ b57 := lob hbe61 hB24.size
          have hB104 := bg hB70 hg84 (rowlo hlo103)
          have hl102 : ∀ g, blk a98 = some g → w0.heap.size ≤ g := blkw_step hk101 hl75 hB104.size
          refine gv_pureN 1 [6] [(6, (.slice a98 (List.length r92) c99))] (by kernel_rfl) ?_
          refine gv_nil ?_
          have e := sj h3; subst e
          refine gv_goal fun a hd hs hok => ?_
          have hB105 := bg hB104 hg96 hl75
          have hz106 := hg96.size
          have lt107 := ltl ((ltb hb26) _ rfl) ((lowb hbe61) _ rfl)
          have hk108 := hb80.grown hg84 (rowne (ng lt107))
          have ap109 : ∀ g, blk a98 = some g → ¬ (· = b1) g := blkw_neX hk101 ap76 (ltb hk108)
          have ap110 : ∀ g, blk a98 = some g → ¬ (· = b57) g := blkw_neX hk101 ap77 (ltA hb85)
          have ap111 : ¬ (fun k => blk a98 = some k) b1 := fun h => blkw_rev hk101 (fun h => (ap78) h) (hk108.lt) h
          have ap112 : ¬ (fun k => blk a98 = some k) b57 := fun h => blkw_rev hk101 (fun h => (ap79) h) (hb85.lt) h
          have hk113 := hk108.grown hg96 ap76
          have hk114 := hb85.grown hg96 ap77
          exact ⟨(r92, (s66.2.2.1.1, s66.2.2.1.2)), rfl, a98, c99, hB105, hz106, ho100, hl102, ap109, ap110, ap111, ap112, hk113, hk114, hd, hs, ok_pick [1, 5, 6, 7, 31] hok (by kernel_rfl)⟩
         ·replace h3 := ite_f hc91 h3
          refine gv_seq <| gv_region <| gv_cut_ops (J := fun a w115 => w83 = w115 ∧ a.defers = [] ∧ a.tmps.size = 96 ∧ Ok [(1, (.int .i64 coding_1)), (5, (bp b1)), (6, (.slice a72 (List.length s66.1) c73)), (7, (.int .i64 s66.2.1)), (9, (.int .i32 (runeI s_0 s66.2.2.2))), (31, (bp b57)), (46, (.bool ((coding_1 == 2) && (decide ((runeI s_0 s66.2.2.2) ≥ 65536)))))] a.tmps) ?_ ?_
          ·skip
           refine gv_pureN 3 [47, 48, 49] [(49, (.bool (coding_1 == 2)))] (by kernel_rfl) ?_
           refine gv_split (s := 49) (g := (coding_1 == 2)) (by kernel_rfl) (fun hc116 => ?_) (fun hc116 => ?_)
           ·skip
            refine gv_pureN 4 [46, 50, 51, 52] [(46, (.bool (decide ((runeI s_0 s66.2.2.2) ≥ 65536))))] (by kernel_rfl) ?_
            refine gv_nil <| gv_sub [1, 5, 6, 7, 9, 31, 46] (σ' := [(1, (.int .i64 coding_1)), (5, (bp b1)), (6, (.slice a72 (List.length s66.1) c73)), (7, (.int .i64 s66.2.1)), (9, (.int .i32 (runeI s_0 s66.2.2.2))), (31, (bp b57)), (46, (.bool (decide ((runeI s_0 s66.2.2.2) ≥ 65536))))]) (by kernel_rfl) ?_
            refine gv_goal fun a hd hs hok => ⟨rfl, hd, hs, ?_⟩
            obtain ⟨q1, q5, q6, q7, q9, q31, q46, _⟩ := hok
            exact ⟨q1, q5, q6, q7, q9, q31, (by rw [hc116]; exact q46), trivial⟩
           ·skip
            refine gv_pureN 4 [46, 50, 51, 52] [(46, (.bool false))] (by kernel_rfl) ?_
            refine gv_nil <| gv_sub [1, 5, 6, 7, 9, 31, 46] (σ' := [(1, (.int .i64 coding_1)), (5, (bp b1)), (6, (.slice a72 (List.length s66.1) c73)), (7, (.int .i64 s66.2.1)), (9, (.int .i32 (runeI s_0 s66.2.2.2))), (31, (bp b57)), (46, (.bool false))]) (by kernel_rfl) ?_
            refine gv_goal fun a hd hs hok => ⟨rfl, hd, hs, ?_⟩
            obtain ⟨q1, q5, q6, q7, q9, q31, q46, _⟩ := hok
            exact ⟨q1, q5, q6, q7, q9, q31, (by rw [hc116]; exact q46), trivial⟩
          ·rintro a w115 ⟨e, hd, hs, hok⟩; subst e
           refine gv_in ?_ hd hs hok
           clear hd hs hok
           refine gv_cond (b := ((coding_1 == 2) && (decide ((runeI s_0 s66.2.2.2) ≥ 65536)))) (by kernel_rfl) (fun hc117 => ?_) (fun hc117 => ?_)
           ·replace h3 := ite_t hc117 h3
            refine gv_seq <| gv_region <| gv_pureN 10 [10, 11, 53, 54, 55, 56, 57, 58, 59, 60] [(10, (.int .i32 (IntKind.i32.wrap (55296 + (((IntKind.i32.wrap ((runeI s_0 s66.2.2.2) - 65536))).fdiv (2 ^ 10)))))), (11, (.int .i32 (IntKind.i32.wrap (56320 + (bwAnd .i32 (IntKind.i32.wrap ((runeI s_0 s66.2.2.2) - 65536)) 1023)))))] (by kernel_rfl) ?_
            refine bindE h3 ?_; clear h3; intro n118 hn119 h3
            refine gv_name (s := 10) (v := (.int .i32 (IntKind.i32.wrap (55296 + (((IntKind.i32.wrap ((runeI s_0 s66.2.2.2) - 65536))).fdiv (2 ^ 10)))))) (v' := (.int .i32 n118)) (by kernel_rfl) (congrArg (Value.int .i32) (sj hn119)) ?_
            refine bindE h3 ?_; clear h3; intro n120 hn121 h3
            refine gv_name (s := 11) (v := (.int .i32 (IntKind.i32.wrap (56320 + (bwAnd .i32 (IntKind.i32.wrap ((runeI s_0 s66.2.2.2) - 65536)) 1023))))) (v' := (.int .i32 n120)) (by kernel_rfl) (congrArg (Value.int .i32) (sj hn121)) ?_
            refine gv_nil <| gv_region <| gv_pureN 11 [61, 62, 63, 64, 65, 66, 67, 68, 69, 70, 71] [(61, (.slice a72 (List.length s66.1) c73)), (64, (.int .u8 (IntKind.u8.wrap (((n118).fdiv (2 ^ 8)))))), (66, (.int .u8 (IntKind.u8.wrap (n118)))), (69, (.int .u8 (IntKind.u8.wrap (((n120).fdiv (2 ^ 8)))))), (71, (.int .u8 (IntKind.u8.wrap (n120))))] (by kernel_rfl) ?_
            refine bindE h3 ?_; clear h3; intro b122 hb123 h3
            have hu124 := u8_spec hb123
            refine bindE h3 ?_; clear h3; intro b125 hb126 h3
            have hu127 := u8_spec hb126
            refine bindE h3 ?_; clear h3; intro b128 hb129 h3
            have hu130 := u8_spec hb129
            refine bindE h3 ?_; clear h3; intro b131 hb132 h3
            have hu133 := u8_spec hb132
            refine gv_new0 (fun b => .slice (some ⟨b, 0, none⟩) 4 4) #[(.int .u8 (IntKind.u8.wrap (((n118).fdiv (2 ^ 8))))), (.int .u8 (IntKind.u8.wrap (n118))), (.int .u8 (IntKind.u8.wrap (((n120).fdiv (2 ^ 8))))), (.int .u8 (IntKind.u8.wrap (n120)))] 5 (by kernel_rfl) (by kernel_rfl) ?_
            intro b134 w135 hg136 hb137 hbe138 hz139
            have ho140 : Gv.Own bE 5 w135 (fun _ => False) (some ⟨b134, 0, none⟩) 4 ([b122, b125, b128, b131] : List UInt8) := Box.ownE hb137 ⟨[(.int .u8 (IntKind.u8.wrap (((n118).fdiv (2 ^ 8)))))], [(.int .u8 (IntKind.u8.wrap (n118))), (.int .u8 (IntKind.u8.wrap (((n120).fdiv (2 ^ 8))))), (.int .u8 (IntKind.u8.wrap (n120)))], rfl, (by simp only [bE, flat, hu124]), ⟨[(.int .u8 (IntKind.u8.wrap (n118)))], [(.int .u8 (IntKind.u8.wrap (((n120).fdiv (2 ^ 8))))), (.int .u8 (IntKind.u8.wrap (n120)))], rfl, (by simp only [bE, flat, hu127]), ⟨[(.int .u8 (IntKind.u8.wrap (((n120).fdiv (2 ^ 8)))))], [(.int .u8 (IntKind.u8.wrap (n120)))], rfl, (by simp only [bE, flat, hu130]), ⟨[(.int .u8 (IntKind.u8.wrap (n120)))], [], rfl, (by simp only [bE, flat, hu133]), rfl⟩⟩⟩⟩ (show 4 ≤ maxLen by decide) (fun h => h)
            have hlo145 : w0.heap.size ≤ b57 := lob hbe61 hB24.size
            have hB146 := bg hB70 hg84 (rowlo hlo145)
            have hl141 : ∀ g, blk (some ⟨b134, 0, none⟩) = some g → w0.heap.size ≤ g := loo hbe138 hB146.size
            refine bindE h3 ?_; clear h3; intro l147 hx148 h3
            have hk155 := (ho74.grown hg84 (fun _ h => h.elim) (rdnn (rowne ap79))).grown hg136 (fun _ h => h.elim) nb
            refine gv_append bE (t := 22) (ty := 22) (e := 5) (a := a72) (ax := (some ⟨b134, 0, none⟩)) (cap := c73) (cx := 4) (xs := s66.1) (ys := ([b122, b125, b128, b131] : List UInt8)) l147 (X := (fun _ => False)) (Y := (fun k => blk (some ⟨b134, 0, none⟩) = some k)) (by decide) rfl rfl (by kernel_rfl) (by kernel_rfl) Tryd.underlying22 info5 hk155 (ho140.rd (Y := fun k => blk (some ⟨b134, 0, none⟩) = some k) (fun _ h => h.elim) (fun g e => e)) hx148 (.inr fun _ _ _ _ _ h => h) (fun _ h => h.elim) ?_
            intro a149 c150 w151 hg152 ho153 hk154
            refine ⟨(fun e => by cases e), ?_⟩
            have hB157 := bg hB146 hg136 nb
            have hl156 : ∀ g, blk a149 = some g → w0.heap.size ≤ g := blk_step hk154 hl75 hB157.size
            have lt159 := ltl ((ltb hb26) _ rfl) ((lowb hbe61) _ rfl)
            have hk160 := (hb80.grown hg84 (rowne (ng lt159))).grown hg136 nb
            have ap158 : ∀ g, blk a149 = some g → ¬ (· = b1) g := blk_neX hk154 ap76 (ltb hk160)
            have ap161 : ¬ (fun k => blk a149 = some k) b1 := fun h => blk_rev hk154 (fun h => (ap78) h) (hk160.lt) h
            have hk163 := hb85.grown hg136 nb
            have ap162 : ∀ g, blk a149 = some g → ¬ (· = b57) g := blk_neX hk154 ap77 (ltA hk163)
            have ap164 : ¬ (fun k => blk a149 = some k) b57 := fun h => blk_rev hk154 (fun h => (ap79) h) (hk163.lt) h
            have hk166 := ho74.grown hg84 (fun _ h => h.elim) (rdnn (rowne ap79))
            have ap167 : ∀ g, blk a72 = some g → ¬ (fun k => blk (some ⟨b134, 0, none⟩) = some k) g := fun g e hx => nl ((lowo hbe138) _ hx) ((fun k (hk : blk a72 = some k) => hk166.lt k hk) g e)
            have ap165 : ∀ g, blk a149 = some g → ¬ (fun k => blk (some ⟨b134, 0, none⟩) = some k) g := blk_neX hk154 ap167 (fun k (hk : blk (some ⟨b134, 0, none⟩) = some k) => ho140.lt k hk)
            have ap169 : ∀ g, blk (some ⟨b134, 0, none⟩) = some g → ¬ (fun k => blk a72 = some k) g := fun g e hx => nl ((lowo hbe138) g e) ((fun k (hk : blk a72 = some k) => hk166.lt k hk) _ hx)
            have ap168 : ∀ g, blk (some ⟨b134, 0, none⟩) = some g → ¬ (fun k => blk a149 = some k) g := fun g e h => blk_rev hk154 (fun h => ((ap169) g e) h) (ho140.lt g e) h
            refine gv_pureN 1 [6] [(6, (.slice a149 (List.length l147) c150))] (by kernel_rfl) ?_
            refine gv_nil ?_
            have e := sj h3; subst e
            refine gv_goal fun a hd hs hok => ?_
            have hB170 := bg hB157 hg152 hl75
            have hz171 := (nt hg136.size hg152.size)
            have hk172 := hk160.grown hg152 ap76
            have hk173 := hk163.grown hg152 ap77
            exact ⟨(l147, (s66.2.2.1.1, s66.2.2.1.2)), rfl, a149, c150, hB170, hz171, ho153, hl156, ap158, ap162, ap161, ap164, hk172, hk173, hd, hs, ok_pick [1, 5, 6, 7, 31] hok (by kernel_rfl)⟩
           ·replace h3 := ite_f hc117 h3
            refine gv_seq <| gv_region <| gv_pureN 3 [74, 75, 76] [(74, (.bool (coding_1 == 2)))] (by kernel_rfl) ?_
            refine gv_nil <| gv_cond (b := (coding_1 == 2)) (by kernel_rfl) (fun hc174 => ?_) (fun hc174 => ?_)
            ·replace h3 := ite_t hc174 h3
             refine gv_region <| gv_pureN 6 [77, 78, 79, 80, 81, 82] [(77, (.slice a72 (List.length s66.1) c73)), (80, (.int .u8 (IntKind.u8.wrap ((((runeI s_0 s66.2.2.2)).fdiv (2 ^ 8)))))), (82, (.int .u8 (IntKind.u8.wrap ((runeI s_0 s66.2.2.2)))))] (by kernel_rfl) ?_
             refine bindE h3 ?_; clear h3; intro b175 hb176 h3
             have hu177 := u8_spec hb176
             refine bindE h3 ?_; clear h3; intro b178 hb179 h3
             have hu180 := u8_spec hb179
             refine gv_new0 (fun b => .slice (some ⟨b, 0, none⟩) 2 2) #[(.int .u8 (IntKind.u8.wrap ((((runeI s_0 s66.2.2.2)).fdiv (2 ^ 8))))), (.int .u8 (IntKind.u8.wrap ((runeI s_0 s66.2.2.2))))] 5 (by kernel_rfl) (by kernel_rfl) ?_
             intro b181 w182 hg183 hb184 hbe185 hz186
             have ho187 : Gv.Own bE 5 w182 (fun _ => False) (some ⟨b181, 0, none⟩) 2 ([b175, b178] : List UInt8) := Box.ownE hb184 ⟨[(.int .u8 (IntKind.u8.wrap ((((runeI s_0 s66.2.2.2)).fdiv (2 ^ 8)))))], [(.int .u8 (IntKind.u8.wrap ((runeI s_0 s66.2.2.2))))], rfl, (by simp only [bE, flat, hu177]), ⟨[(.int .u8 (IntKind.u8.wrap ((runeI s_0 s66.2.2.2))))], [], rfl, (by simp only [bE, flat, hu180]), rfl⟩⟩ (show 2 ≤ maxLen by decide) (fun h => h)
             have hlo192 : w0.heap.size ≤ b57 := lob hbe61 hB24.size
             have hB193 := bg hB70 hg84 (rowlo hlo192)
             have hl188 : ∀ g, blk (some ⟨b181, 0, none⟩) = some g → w0.heap.size ≤ g := loo hbe185 hB193.size
             refine bindE h3 ?_; clear h3; intro l194 hx195 h3
             have hk202 := (ho74.grown hg84 (fun _ h => h.elim) (rdnn (rowne ap79))).grown hg183 (fun _ h => h.elim) nb
             refine gv_append bE (t := 22) (ty := 22) (e := 5) (a := a72) (ax := (some ⟨b181, 0, none⟩)) (cap := c73) (cx := 2) (xs := s66.1) (ys := ([b175, b178] : List UInt8)) l194 (X := (fun _ => False)) (Y := (fun k => blk (some ⟨b181, 0, none⟩) = some k)) (by decide) rfl rfl (by kernel_rfl) (by kernel_rfl) Tryd.underlying22 info5 hk202 (ho187.rd (Y := fun k => blk (some ⟨b181, 0, none⟩) = some k) (fun _ h => h.elim) (fun g e => e)) hx195 (.inr fun _ _ _ _ _ h => h) (fun _ h => h.elim) ?_
             intro a196 c197 w198 hg199 ho200 hk201
             refine ⟨(fun e => by cases e), ?_⟩
             have hB204 := bg hB193 hg183 nb
             have hl203 : ∀ g, blk a196 = some g → w0.heap.size ≤ g := blk_step hk201 hl75 hB204.size
             have lt206 := ltl ((ltb hb26) _ rfl) ((lowb hbe61) _ rfl)
             have hk207 := (hb80.grown hg84 (rowne (ng lt206))).grown hg183 nb
             have ap205 : ∀ g, blk a196 = some g → ¬ (· = b1) g := blk_neX hk201 ap76 (ltb hk207)
             have ap208 : ¬ (fun k => blk a196 = some k) b1 := fun h => blk_rev hk201 (fun h => (ap78) h) (hk207.lt) h
             have hk210 := hb85.grown hg183 nb
             have ap209 : ∀ g, blk a196 = some g → ¬ (· = b57) g := blk_neX hk201 ap77 (ltA hk210)
             have ap211 : ¬ (fun k => blk a196 = some k) b57 := fun h => blk_rev hk201 (fun h => (ap79) h) (hk210.lt) h
             have hk213 := ho74.grown hg84 (fun _ h => h.elim) (rdnn (rowne ap79))
             have ap214 : ∀ g, blk a72 = some g → ¬ (fun k => blk (some ⟨b181, 0, none⟩) = some k) g := fun g e hx => nl ((lowo hbe185) _ hx) ((fun k (hk : blk a72 = some k) => hk213.lt k hk) g e)
             have ap212 : ∀ g, blk a196 = some g → ¬ (fun k => blk (some ⟨b181, 0, none⟩) = some k) g := blk_neX hk201 ap214 (fun k (hk : blk (some ⟨b181, 0, none⟩) = some k) => ho187.lt k hk)
             have ap216 : ∀ g, blk (some ⟨b181, 0, none⟩) = some g → ¬ (fun k => blk a72 = some k) g := fun g e hx => nl ((lowo hbe185) g e) ((fun k (hk : blk a72 = some k) => hk213.lt k hk) _ hx)
             have ap215 : ∀ g, blk (some ⟨b181, 0, none⟩) = some g → ¬ (fun k => blk a196 = some k) g := fun g e h => blk_rev hk201 (fun h => ((ap216) g e) h) (ho187.lt g e) h
             refine gv_pureN 1 [6] [(6, (.slice a196 (List.length l194) c197))] (by kernel_rfl) ?_
             refine gv_nil ?_
             have e := sj h3; subst e
             refine gv_goal fun a hd hs hok => ?_
             have hB217 := bg hB204 hg199 hl75
             have hz218 := (nt hg183.size hg199.size)
             have hk219 := hk207.grown hg199 ap76
             have hk220 := hk210.grown hg199 ap77
             exact ⟨(l194, (s66.2.2.1.1, s66.2.2.1.2)), rfl, a196, c197, hB217, hz218, ho200, hl203, ap205, ap209, ap208, ap211, hk219, hk220, hd, hs, ok_pick [1, 5, 6, 7, 31] hok (by kernel_rfl)⟩
            ·replace h3 := ite_f hc174 h3
             refine gv_seq <| gv_region <| gv_pureN 3 [85, 86, 87] [(85, (.bool (decide ((runeI s_0 s66.2.2.2) > 255))))] (by kernel_rfl) ?_
             refine gv_nil <| gv_cond (b := (decide ((runeI s_0 s66.2.2.2) > 255))) (by kernel_rfl) (fun hc221 => ?_) (fun hc221 => ?_)
             ·replace h3 := ite_t hc221 h3
              refine gv_seq <| gv_region <| gv_pureN 1 [88] [(88, (.int .i64 s66.2.1))] (by kernel_rfl) ?_
              refine bindE h3 ?_; clear h3; intro r222 hr223 h3
              refine gv_call0 (by kernel_rfl) rfl (by kernel_rfl) enters38 (bytestr_at_ok fuel 4 s66.2.1 w83  r222 hr223) ?_
              rintro v226 w224 ⟨hg225, rfl⟩
              refine gv_pureN 1 [4] [(4, (.slice none (List.length ([] : List UInt8)) 0))] (by kernel_rfl) ?_
              have lt231 := ltl ((ltb hb26) _ rfl) ((lowb hbe61) _ rfl)
              have hk232 := (hb80.grown hg84 (rowne (ng lt231))).grown hg225 nb
              refine gv_store0 25 0 (.agg #[(.int .i64 r222.1), (.int .i64 r222.2)]) #[(.int .i64 r222.1), (.int .i64 r222.2)] hk232 (by kernel_rfl) (by kernel_rfl) (by kernel_rfl) ?_
              intro w227 hg228 hb229 hz230
              refine gv_nil <| gv_cret ?_
              have e := sj h3; subst e
              replace h2 := cont_inr h2
              have e := sj h2; subst e
              replace h1 := congrArg some (hR2 _ rfl)
              have e := sj h1; subst e
              replace h0 := cont_inr h0
              have e := sj h0; subst e
              refine gv_ret (gv_done [(.slice none (List.length ([] : List UInt8)) 0), (.agg #[(.int .i64 r222.1), (.int .i64 r222.2)])] rfl ⟨(by kernel_rfl), ⟨⟨b1, 0, none⟩, (by kernel_rfl), run_loadVar_row w227 b1 _ 25 _ _ _ hb229 Tryd.underlying25 rfl (by kernel_rfl)⟩, trivial⟩ ?_)
              have hlo233 : w0.heap.size ≤ b57 := lob hbe61 hB24.size
              have hB234 := bg hB70 hg84 (rowlo hlo233)
              have hB235 := bg hB234 hg225 nb
              have hlo236 : w0.heap.size ≤ b1 := lob hbe5 hB0.size
              have hB237 := bg hB235 hg228 (rowlo hlo236)
              exact ⟨grown_of_below hB237, none, 0, (fun _ => False), rfl, (Rd.nil bE w227 (fun _ => False) none 0), (fun k hk => ⟨(fun _ h => h.elim) k hk, (fun _ h => h.elim) k hk⟩)⟩
             ·replace h3 := ite_f hc221 h3
              refine gv_region <| gv_pureN 3 [35, 36, 37] [(35, (.slice a72 (List.length s66.1) c73)), (37, (.int .u8 (IntKind.u8.wrap ((runeI s_0 s66.2.2.2)))))] (by kernel_rfl) ?_
              refine bindE h3 ?_; clear h3; intro b238 hb239 h3
              have hu240 := u8_spec hb239
              refine gv_new0 (fun b => .slice (some ⟨b, 0, none⟩) 1 1) #[(.int .u8 (IntKind.u8.wrap ((runeI s_0 s66.2.2.2))))] 5 (by kernel_rfl) (by kernel_rfl) ?_
              intro b241 w242 hg243 hb244 hbe245 hz246
              have ho247 : Gv.Own bE 5 w242 (fun _ => False) (some ⟨b241, 0, none⟩) 1 ([b238] : List UInt8) := Box.ownE hb244 ⟨[(.int .u8 (IntKind.u8.wrap ((runeI s_0 s66.2.2.2))))], [], rfl, (by simp only [bE, flat, hu240]), rfl⟩ (show 1 ≤ maxLen by decide) (fun h => h)
              have hlo252 : w0.heap.size ≤ b57 := lob hbe61 hB24.size
              have hB253 := bg hB70 hg84 (rowlo hlo252)
              have hl248 : ∀ g, blk (some ⟨b241, 0, none⟩) = some g → w0.heap.size ≤ g := loo hbe245 hB253.size
              clear hz246 hb244 hu240 hb239 hc221 hc174 hc117 hc91 hB70 hB24
              refine bindE h3 ?_; clear h3; intro l254 hx255 h3
              have hk262 := (ho74.grown hg84 (fun _ h => h.elim) (rdnn (rowne ap79))).grown hg243 (fun _ h => h.elim) nb
              refine gv_append bE (t := 22) (ty := 22) (e := 5) (a := a72) (ax := (some ⟨b241, 0, none⟩)) (cap := c73) (cx := 1) (xs := s66.1) (ys := ([b238] : List UInt8)) l254 (X := (fun _ => False)) (Y := (fun k => blk (some ⟨b241, 0, none⟩) = some k)) (by decide) rfl rfl (by kernel_rfl) (by kernel_rfl) Tryd.underlying22 info5 hk262 (ho247.rd (Y := fun k => blk (some ⟨b241, 0, none⟩) = some k) (fun _ h => h.elim) (fun g e => e)) hx255 (.inr fun _ _ _ _ _ h => h) (fun _ h => h.elim) ?_
              intro a256 c257 w258 hg259 ho260 hk261
              refine ⟨(fun e => by cases e), ?_⟩
              have hB264 := bg hB253 hg243 nb
              have hl263 : ∀ g, blk a256 = some g → w0.heap.size ≤ g := blk_step hk261 hl75 hB264.size
              have lt266 := ltl ((ltb hb26) _ rfl) ((lowb hbe61) _ rfl)
              have hk267 := (hb80.grown hg84 (rowne (ng lt266))).grown hg243 nb
              have ap265 : ∀ g, blk a256 = some g → ¬ (· = b1) g := blk_neX hk261 ap76 (ltb hk267)
              have ap268 : ¬ (fun k => blk a256 = some k) b1 := fun h => blk_rev hk261 (fun h => (ap78) h) (hk267.lt) h
              have hk270 := hb85.grown hg243 nb
              have ap269 : ∀ g, blk a256 = some g → ¬ (· = b57) g := blk_neX hk261 ap77 (ltA hk270)
              have ap271 : ¬ (fun k => blk a256 = some k) b57 := fun h => blk_rev hk261 (fun h => (ap79) h) (hk270.lt) h
              have hk273 := ho74.grown hg84 (fun _ h => h.elim) (rdnn (rowne ap79))
              have ap274 : ∀ g, blk a72 = some g → ¬ (fun k => blk (some ⟨b241, 0, none⟩) = some k) g := fun g e hx => nl ((lowo hbe245) _ hx) ((fun k (hk : blk a72 = some k) => hk273.lt k hk) g e)
              have ap272 : ∀ g, blk a256 = some g → ¬ (fun k => blk (some ⟨b241, 0, none⟩) = some k) g := blk_neX hk261 ap274 (fun k (hk : blk (some ⟨b241, 0, none⟩) = some k) => ho247.lt k hk)
              have ap276 : ∀ g, blk (some ⟨b241, 0, none⟩) = some g → ¬ (fun k => blk a72 = some k) g := fun g e hx => nl ((lowo hbe245) g e) ((fun k (hk : blk a72 = some k) => hk273.lt k hk) _ hx)
              have ap275 : ∀ g, blk (some ⟨b241, 0, none⟩) = some g → ¬ (fun k => blk a256 = some k) g := fun g e h => blk_rev hk261 (fun h => ((ap276) g e) h) (ho247.lt g e) h
              refine gv_pureN 1 [6] [(6, (.slice a256 (List.length l254) c257))] (by kernel_rfl) ?_
              refine gv_nil ?_
              have e := sj h3; subst e
              refine gv_goal fun a hd hs hok => ?_
              have hB277 := bg hB264 hg259 hl75
              have hz278 := (nt hg243.size hg259.size)
              have hk279 := hk267.grown hg259 ap76
              have hk280 := hk270.grown hg259 ap77
              exact ⟨(l254, (s66.2.2.1.1, s66.2.2.1.2)), rfl, a256, c257, hB277, hz278, ho260, hl263, ap265, ap269, ap268, ap271, hk279, hk280, hd, hs, ok_pick [1, 5, 6, 7, 31] hok (by kernel_rfl)⟩
        ·rintro a w90 ⟨s89, e, a283, c284, hB281, hz282, ho285, hl286, ap287, ap288, ap289, ap290, hb291, hb292, hd, hs, hok⟩
         subst e
         refine gv_in ?_ hd hs hok
         clear hd hs hok
         replace h2 := cont_inl h2
         have hz293 := (nt hz87 hz282)
         clear hz282 hz87 hb85 hg84 hb80 ap79 ap78 ap77 ap76 hl75 ho74 hB70
         refine gv_blk <| gv_region <| gv_pureN 3 [7, 90, 91] [(7, (.int .i64 (IntKind.i64.wrap (s66.2.1 + 1))))] (by kernel_rfl) ?_
         refine gv_nil <| gv_blk ?_
         have e := sj h2; subst e
         refine gv_goal fun a hd hs hok => ?_
         have hz294 := hz293
         exact ⟨(s89.1, (IntKind.i64.wrap (s66.2.1 + 1)), (s89.2.1, s89.2.2), (s66.2.2.2 + runeN s_0 s66.2.2.2)), rfl, a283, c284, hB281, hz294, ho285, hl286, ap287, ap288, ap289, ap290, hb291, hb292, hd, hs, ok_pick [1, 5, 6, 7, 31] hok (by kernel_rfl)⟩
       ·skip
        replace h2 := ite_f hc82 h2
        refine gv_pureN 1 [33] [(33, (.bool false))] (by kernel_rfl) ?_
        refine gv_nil <| gv_seq <| gv_cond (b := false) (by kernel_rfl) (fun hc => ?_) (fun hc => ?_)
        ·cases hc
        clear hc
        refine gv_cexit <| gv_exit rfl ?_
        have e := sj h2; subst e
        replace h1 := congrArg some (hR2 _ rfl)
        have e := sj h1; subst e
        refine gv_goal fun a hd hs hok => ?_
        have hz295 := hz71
        exact ⟨(s66.1, (s66.2.2.1.1, s66.2.2.1.2)), rfl, a72, c73, hB70, hz295, ho74, hl75, ap76, ap78, hb80, hd, hs, ok_pick [5, 6] hok (by kernel_rfl)⟩
     ·rintro a w65 ⟨s64, e, a298, c299, hB296, hz297, ho300, hl301, ap302, ap303, hb304, hd, hs, hok⟩
      subst e
      refine gv_in ?_ hd hs hok
      clear hd hs hok
      replace h0 := cont_inl h0
      clear hz297 hz62 hbe61 hb60 hg59 hc43 hc27 hb26 hB24
      refine gv_seq <| gv_region <| gv_pureN 1 [92] [(92, (.slice a298 (List.length s64.1) c299))] (by kernel_rfl) ?_
      refine bindE h0 ?_; clear h0; intro r305 hr306 h0
      refine gv_call0 (by kernel_rfl) rfl (by kernel_rfl) enters44 (bytestr_result_ok fuel a298 c299 s64.1 w65 (fun k => (fun k => blk a298 = some k) k) (fun k hk => (fun k (hk : blk a298 = some k) => ho300.lt k hk) k hk) ((ho300.rd (Y := fun k => blk a298 = some k) (fun _ h => h.elim) (fun g e => e)).wide (fun k hk => hk)) r305 hr306) ?_
      rintro v309 w307 ⟨hg308, a310, c311, X313, rfl, ho312, hx314⟩
      have hx315 : ∀ k, X313 k → k < w307.heap.size := fun k hk => (hx314 k hk).1
      have hx316 : ∀ k, X313 k → X0 k ∨ w0.heap.size ≤ k := fun k hk => (hx314 k hk).2.elim (fun h => (fun k (hk : blk a298 = some k) => Or.inr (hl301 k hk)) k h) (fun h => .inr (Nat.le_trans hB296.size h))
      refine gv_pureN 3 [4, 94, 95] [(4, (.slice a310 (List.length r305.1) c311)), (95, (.agg #[(.int .i64 r305.2.1), (.int .i64 r305.2.2)]))] (by kernel_rfl) ?_
      have hk321 := hb304.grown hg308 nb
      refine gv_store0 25 0 (.agg #[(.int .i64 r305.2.1), (.int .i64 r305.2.2)]) #[(.int .i64 r305.2.1), (.int .i64 r305.2.2)] hk321 (by kernel_rfl) (by kernel_rfl) (by kernel_rfl) ?_
      intro w317 hg318 hb319 hz320
      refine gv_nil <| gv_cret ?_
      have e := sj h0; subst e
      refine gv_ret (gv_done [(.slice a310 (List.length r305.1) c311), (.agg #[(.int .i64 r305.2.1), (.int .i64 r305.2.2)])] rfl ⟨(by kernel_rfl), ⟨⟨b1, 0, none⟩, (by kernel_rfl), run_loadVar_row w317 b1 _ 25 _ _ _ hb319 Tryd.underlying25 rfl (by kernel_rfl)⟩, trivial⟩ ?_)
      have hB322 := bg hB296 hg308 nb
      have hlo323 : w0.heap.size ≤ b1 := lob hbe5 hB0.size
      have hB324 := bg hB322 hg318 (rowlo hlo323)
      have ap325 : ¬ X313 b1 := fun h => ((hx314 _ h).2.elim (fun h => (ap303)  h) (fun h => nl h (hb304.lt)))
      have hk326 := ho312.grown hg318 hx315 (rowne ap325)
      have hx327 := ltx hx315 hg318.size
      exact ⟨grown_of_below hB324, a310, c311, X313, rfl, hk326, (fun k hk => ⟨hx327 k hk, hx316 k hk⟩)⟩

theorem ref4_behind_ok (fuel : Nat) (pa0_0 : Option Addr) (pc0_0 : Nat) (s_0 : (List UInt8)) (i_1 : Int) (w0 : World) (X0 : Nat → Prop) (hX0 : ∀ k, X0 k → k < w0.heap.size) (hpa0_0 : Rd bE w0 X0 pa0_0 pc0_0 s_0) (r0 : Int) (h0 : ref4_behind fuel s_0 i_1 = some r0) :
    Calls Tryd.prog 64 ([(.slice pa0_0 (List.length s_0) pc0_0), (.int .i64 i_1)] : List Value).toArray w0 (Ret fun v w' => w0.grownBy w' none ∧ v = tup [(.int .i64 r0)]) := by
 have hB0 : Below w0.heap.size w0 w0 := Below.refl _ _
 unfold ref4_behind at h0
 refine calls_run Tryd.func64 rfl Tryd.ntmps64 (by kernel_rfl) ?_
 refine gv_sub [0, 1] (σ' := [(0, (.slice pa0_0 (List.length s_0) pc0_0)), (1, (.int .i64 i_1))]) (by kernel_rfl) ?_
 refine gv_seq <| gv_region <| gv_pureN 1 [4] [] (by kernel_rfl) ?_
 refine gv_nil <| gv_seq <| gv_seq <| gv_region <| bindE h0 ?_; clear h0; intro j1 h1 h0
 refine gv_cut_ops (J := fun a w2 => Below w0.heap.size w0 w2 ∧ w0.heap.size ≤ w2.heap.size ∧ a.defers = [] ∧ a.tmps.size = 29 ∧ Ok [(0, (.slice pa0_0 (List.length s_0) pc0_0)), (1, (.int .i64 i_1)), (22, (.bool j1))] a.tmps) ?_ ?_
 ·skip
  refine gv_pureN 5 [5, 6, 7, 8, 9] [(9, (.bool (decide (i_1 < ((List.length s_0 : Nat) : Int)))))] (by kernel_rfl) ?_
  refine gv_split (s := 9) (g := (decide (i_1 < ((List.length s_0 : Nat) : Int)))) (by kernel_rfl) (fun hc3 => ?_) (fun hc3 => ?_)
  ·skip
   replace h1 := ite_t hc3 h1
   refine gv_pureN 2 [10, 11] [(10, (.slice pa0_0 (List.length s_0) pc0_0)), (11, (.int .i64 i_1))] (by kernel_rfl) ?_
   refine bindE h1 ?_; clear h1; intro x4 hx5 h1
   refine gv_idxaddr (t := 22) (e := 5) (a := pa0_0) (len := List.length s_0) (cap := pc0_0) (kk := .i64) (i := i_1) (sz := 1) [] (fun e => by cases e) rfl rfl rfl (by kernel_rfl) (by kernel_rfl) Tryd.underlying22 (by kernel_rfl) ((hpa0_0.below hB0 hX0).has hx5) (idx_spec hx5).1 (idx_spec hx5).2.1 rfl ?_
   refine gv_load (t := 5) (A := (elemAddr pa0_0 ((i_1 : Int).toNat * 1))) (.int .u8 ((x4).toNat : Int)) [] (fun e => by cases e) rfl rfl rfl (by kernel_rfl) (by kernel_rfl) (by kernel_rfl) (inw0 ((hpa0_0.below hB0 hX0).cell hx5)) rfl ?_
   refine gv_pureN 3 [14, 15, 16] [(16, (.bool (decide (((x4).toNat : Int) ≥ 128))))] (by kernel_rfl) ?_
   refine gv_split (s := 16) (g := (decide (((x4).toNat : Int) ≥ 128))) (by kernel_rfl) (fun hc6 => ?_) (fun hc6 => ?_)
   ·skip
    replace h1 := ite_t hc6 h1
    refine gv_pureN 2 [17, 18] [(17, (.slice pa0_0 (List.length s_0) pc0_0)), (18, (.int .i64 i_1))] (by kernel_rfl) ?_
    refine bindE h1 ?_; clear h1; intro x7 hx8 h1
    refine gv_idxaddr (t := 22) (e := 5) (a := pa0_0) (len := List.length s_0) (cap := pc0_0) (kk := .i64) (i := i_1) (sz := 1) [] (fun e => by cases e) rfl rfl rfl (by kernel_rfl) (by kernel_rfl) Tryd.underlying22 (by kernel_rfl) ((hpa0_0.below hB0 hX0).has hx8) (idx_spec hx8).1 (idx_spec hx8).2.1 rfl ?_
    refine gv_load (t := 5) (A := (elemAddr pa0_0 ((i_1 : Int).toNat * 1))) (.int .u8 ((x7).toNat : Int)) [] (fun e => by cases e) rfl rfl rfl (by kernel_rfl) (by kernel_rfl) (by kernel_rfl) (inw0 ((hpa0_0.below hB0 hX0).cell hx8)) rfl ?_
    refine gv_pureN 2 [21, 22] [(22, (.bool (decide (((x7).toNat : Int) < 192))))] (by kernel_rfl) ?_
    refine gv_nil ?_
    have e := sj h1; subst e
    refine gv_goal fun a hd hs hok => ?_
    exact ⟨hB0, (Nat.le_refl _), hd, hs, ok_pick [0, 1, 22] hok (by kernel_rfl)⟩
   ·skip
    replace h1 := ite_f hc6 h1
    refine gv_pureN 6 [17, 18, 19, 20, 21, 22] [(22, (.bool false))] (by kernel_rfl) ?_
    refine gv_nil ?_
    have e := sj h1; subst e
    refine gv_goal fun a hd hs hok => ?_
    exact ⟨hB0, (Nat.le_refl _), hd, hs, ok_pick [0, 1, 22] hok (by kernel_rfl)⟩
  ·skip
   replace h1 := ite_f hc3 h1
   refine gv_pureN 13 [10, 11, 12, 13, 14, 15, 16, 17, 18, 19, 20, 21, 22] [(22, (.bool false))] (by kernel_rfl) ?_
   refine gv_nil ?_
   have e := sj h1; subst e
   refine gv_goal fun a hd hs hok => ?_
   exact ⟨hB0, (Nat.le_refl _), hd, hs, ok_pick [0, 1, 22] hok (by kernel_rfl)⟩
 ·rintro a w2 ⟨hB9, hz10, hd, hs, hok⟩
  refine gv_in ?_ hd hs hok
  clear hd hs hok
  refine gv_cond (b := j1) (by kernel_rfl) (fun hc11 => ?_) (fun hc11 => ?_)
  ·replace h0 := ite_t hc11 h0
   refine gv_seq <| gv_region <| gv_pureN 2 [23, 24] [(23, (.slice pa0_0 (List.length s_0) pc0_0)), (24, (.int .i64 i_1))] (by kernel_rfl) ?_
   refine bindE h0 ?_; clear h0; intro x12 hx13 h0
   refine gv_idxaddr (t := 22) (e := 5) (a := pa0_0) (len := List.length s_0) (cap := pc0_0) (kk := .i64) (i := i_1) (sz := 1) [] (fun e => by cases e) rfl rfl rfl (by kernel_rfl) (by kernel_rfl) Tryd.underlying22 (by kernel_rfl) ((hpa0_0.below hB9 hX0).has hx13) (idx_spec hx13).1 (idx_spec hx13).2.1 rfl ?_
   refine gv_load (t := 5) (A := (elemAddr pa0_0 ((i_1 : Int).toNat * 1))) (.int .u8 ((x12).toNat : Int)) [] (fun e => by cases e) rfl rfl rfl (by kernel_rfl) (by kernel_rfl) (by kernel_rfl) (inw0 ((hpa0_0.below hB9 hX0).cell hx13)) rfl ?_
   refine gv_pureN 3 [4, 27, 28] [(4, (.int .i64 (IntKind.i64.wrap ((IntKind.i64.wrap (((x12).toNat : Int))) - 128))))] (by kernel_rfl) ?_
   refine bindE h0 ?_; clear h0; intro n14 hn15 h0
   refine gv_name (s := 4) (v := (.int .i64 (IntKind.i64.wrap ((IntKind.i64.wrap (((x12).toNat : Int))) - 128)))) (v' := (.int .i64 n14)) (by kernel_rfl) (congrArg (Value.int .i64) (sj hn15)) ?_
   refine gv_nil <| gv_cret ?_
   have e := sj h0; subst e
   refine gv_ret (gv_done [(.int .i64 n14)] rfl ⟨(by kernel_rfl), trivial⟩ ?_)
   exact ⟨grown_of_below hB9, rfl⟩
  ·replace h0 := ite_f hc11 h0
   refine gv_skip <| gv_seq <| gv_region <| gv_pureN 1 [4] [(4, (.int .i64 (-1)))] (by kernel_rfl) ?_
   refine gv_nil <| gv_cret ?_
   have e := sj h0; subst e
   refine gv_ret (gv_done [(.int .i64 (-1))] rfl ⟨(by kernel_rfl), trivial⟩ ?_)
   exact ⟨grown_of_below hB9, rfl⟩

theorem ref4_unit_ok (fuel : Nat) (pa0_0 : Option Addr) (pc0_0 : Nat) (s_0 : (List UInt8)) (at_1 : Int) (w0 : World) (X0 : Nat → Prop) (hX0 : ∀ k, X0 k → k < w0.heap.size) (hpa0_0 : Rd bE w0 X0 pa0_0 pc0_0 s_0) (r0 : (Int × Int)) (h0 : ref4_unit fuel s_0 at_1 = some r0) :
    Calls Tryd.prog 47 ([(.slice pa0_0 (List.length s_0) pc0_0), (.int .i64 at_1)] : List Value).toArray w0 (Ret fun v w' => w0.grownBy w' none ∧ v = tup [(.int .i64 r0.1), (.int .i64 r0.2)]) := by
 have hB0 : Below w0.heap.size w0 w0 := Below.refl _ _
 unfold ref4_unit at h0
 refine calls_run Tryd.func47 rfl Tryd.ntmps47 (by kernel_rfl) ?_
 refine gv_sub [0, 1] (σ' := [(0, (.slice pa0_0 (List.length s_0) pc0_0)), (1, (.int .i64 at_1))]) (by kernel_rfl) ?_
 refine gv_seq <| gv_region <| gv_pureN 2 [4, 5] [] (by kernel_rfl) ?_
 refine gv_nil <| gv_seq <| gv_drawA (by kernel_rfl) ?_
 intro w1 hg2
 refine gv_pre [0, 1, 2, 5, 6, 7, 9, 10, 11, 13, 14, 15] (bA 21 [0, 1, 2, 5, 6, 7, 9, 10, 11, 13, 14, 15]) 9 (by kernel_rfl) (by kernel_rfl) ?_
 refine gv_pureN 2 [12, 13] [(12, (.slice pa0_0 (List.length s_0) pc0_0)), (13, (.int .i64 at_1))] (by kernel_rfl) ?_
 refine bindE h0 ?_; clear h0; intro x3 hx4 h0
 have hB5 := bg hB0 hg2 nb
 refine gv_idxaddr (t := 22) (e := 5) (a := pa0_0) (len := List.length s_0) (cap := pc0_0) (kk := .i64) (i := at_1) (sz := 1) [] (fun e => by cases e) rfl rfl rfl (by kernel_rfl) (by kernel_rfl) Tryd.underlying22 (by kernel_rfl) ((hpa0_0.below hB5 hX0).has hx4) (idx_spec hx4).1 (idx_spec hx4).2.1 rfl ?_
 refine gv_pureN 9 [17, 18, 19, 21, 22, 23, 25, 26, 27] [(17, (.slice pa0_0 (List.length s_0) pc0_0)), (19, (.int .i64 (IntKind.i64.wrap (at_1 + 1)))), (21, (.slice pa0_0 (List.length s_0) pc0_0)), (23, (.int .i64 (IntKind.i64.wrap (at_1 + 2)))), (25, (.slice pa0_0 (List.length s_0) pc0_0)), (27, (.int .i64 (IntKind.i64.wrap (at_1 + 3))))] (by kernel_rfl) ?_
 refine gv_nil <| gv_goA ?_
 refine gv_stage (Cls w1 []) [0, 1, 2, 3, 4, 5, 6, 7, 8, 9, 10, 11, 12, 13, 14, 15, 16] [(3, some true), (4, some true), (8, some false), (12, some false), (16, some false)] (bA 21 [0, 1, 2, 3, 4, 5, 6, 7, 8, 9, 10, 11, 12, 13, 14, 15, 16]) 4 (by kernel_rfl) (by kernel_rfl) (Cls.refl _ _) ?_
 have hC6 := Cls.refl w1 []
 refine gv_load (t := 5) (A := (elemAddr pa0_0 ((at_1 : Int).toNat * 1))) (.int .u8 ((x3).toNat : Int)) [] (fun e => by cases e) rfl rfl rfl (by kernel_rfl) (by kernel_rfl) (by kernel_rfl) (inw1 fun w' hC' => ((hC'.rd (hpa0_0.below hB5 hX0) (fun k (hk : X0 k) => ltl (hX0 k hk) hB5.size) nmx_nil).cell hx4)) rfl ?_
 refine gv_pureN 1 [16] [(16, (.int .i64 (IntKind.i64.wrap (((x3).toNat : Int)))))] (by kernel_rfl) ?_
 refine bindE h0 ?_; clear h0; intro r7 hr8 h0
 refine gv_call (f := 64) (vs := [(.slice pa0_0 (List.length s_0) pc0_0), (.int .i64 (IntKind.i64.wrap (at_1 + 1)))]) (cap := []) _ (by decide) rfl rfl rfl (by kernel_rfl) (by kernel_rfl) enters64 (ref4_behind_ok fuel pa0_0 pc0_0 s_0 (IntKind.i64.wrap (at_1 + 1)) w1 (fun k => X0 k) (fun k hk => (fun k (hk : X0 k) => ltl (hX0 k hk) hB5.size) k hk) ((hpa0_0.below hB5 hX0).wide (fun k hk => hk)) r7 hr8) ?_
 rintro v11 w9 ⟨hg10, rfl⟩
 refine ⟨(fun _ => hC6.grown hg10 nb), ?_⟩
 refine bindE h0 ?_; clear h0; intro r12 hr13 h0
 have hB14 := bg hB5 hg10 nb
 refine gv_call (f := 64) (vs := [(.slice pa0_0 (List.length s_0) pc0_0), (.int .i64 (IntKind.i64.wrap (at_1 + 2)))]) (cap := []) _ (by decide) rfl rfl rfl (by kernel_rfl) (by kernel_rfl) enters64 (ref4_behind_ok fuel pa0_0 pc0_0 s_0 (IntKind.i64.wrap (at_1 + 2)) w9 (fun k => X0 k) (fun k hk => (fun k (hk : X0 k) => ltl (hX0 k hk) hB14.size) k hk) ((hpa0_0.below hB14 hX0).wide (fun k hk => hk)) r12 hr13) ?_
 rintro v17 w15 ⟨hg16, rfl⟩
 have hC18 := hC6.grown hg10 nb
 refine ⟨(fun _ => hC18.grown hg16 nb), ?_⟩
 refine bindE h0 ?_; clear h0; intro r19 hr20 h0
 have hB21 := bg hB14 hg16 nb
 refine gv_call (f := 64) (vs := [(.slice pa0_0 (List.length s_0) pc0_0), (.int .i64 (IntKind.i64.wrap (at_1 + 3)))]) (cap := []) _ (by decide) rfl rfl rfl (by kernel_rfl) (by kernel_rfl) enters64 (ref4_behind_ok fuel pa0_0 pc0_0 s_0 (IntKind.i64.wrap (at_1 + 3)) w15 (fun k => X0 k) (fun k hk => (fun k (hk : X0 k) => ltl (hX0 k hk) hB21.size) k hk) ((hpa0_0.below hB21 hX0).wide (fun k hk => hk)) r19 hr20) ?_
 rintro v24 w22 ⟨hg23, rfl⟩
 have hC25 := hC18.grown hg16 nb
 refine ⟨(fun _ => hC25.grown hg23 nb), ?_⟩
 refine gv_nil <| gv_goA ?_
 refine gv_pre [17, 18, 19, 20] (bA 21 [0, 1, 2, 3, 4, 5, 6, 7, 8, 9, 10, 11, 12, 13, 14, 15, 16, 17, 18, 19, 20]) 0 (by kernel_rfl) (by kernel_rfl) ?_
 refine gv_pureN 4 [6, 7, 8, 9] [(6, (.int .i64 (IntKind.i64.wrap (((x3).toNat : Int))))), (7, (.int .i64 r7)), (8, (.int .i64 r12)), (9, (.int .i64 r19))] (by kernel_rfl) ?_
 refine gv_nil <| gv_goA ?_
 refine gv_stageE (by kernel_rfl) ?_
 refine gv_seq <| gv_block <| gv_seq <| gv_region <| gv_pureN 3 [29, 30, 31] [(29, (.bool (decide ((IntKind.i64.wrap (((x3).toNat : Int))) < 128))))] (by kernel_rfl) ?_
 refine bindE h0 ?_; clear h0; intro n26 hn27 h0
 refine gv_name (s := 29) (v := (.bool (decide ((IntKind.i64.wrap (((x3).toNat : Int))) < 128)))) (v' := (.bool n26)) (by kernel_rfl) (congrArg (Value.bool) (sj hn27)) ?_
 refine gv_nil <| gv_cond (b := n26) (by kernel_rfl) (fun hc28 => ?_) (fun hc28 => ?_)
 ·replace h0 := ite_t hc28 h0
  refine gv_seq <| gv_region <| gv_pureN 3 [4, 5, 32] [(4, (.int .i64 (IntKind.i64.wrap (((x3).toNat : Int))))), (5, (.int .i64 1))] (by kernel_rfl) ?_
  refine gv_nil <| gv_cret ?_
  have e := sj h0; subst e
  refine gv_ret (gv_done [(.int .i64 (IntKind.i64.wrap (((x3).toNat : Int)))), (.int .i64 1)] rfl ⟨(by kernel_rfl), (by kernel_rfl), trivial⟩ ?_)
  have hB29 := bg hB21 hg23 nb
  exact ⟨grown_of_below hB29, rfl⟩
 ·replace h0 := ite_f hc28 h0
  refine gv_seq <| gv_region <| gv_cut_ops (J := fun a w30 => w22 = w30 ∧ a.defers = [] ∧ a.tmps.size = 120 ∧ Ok [(6, (.int .i64 (IntKind.i64.wrap (((x3).toNat : Int))))), (7, (.int .i64 r7)), (8, (.int .i64 r12)), (9, (.int .i64 r19)), (33, (.bool ((decide ((IntKind.i64.wrap (((x3).toNat : Int))) ≥ 194)) && ((decide ((IntKind.i64.wrap (((x3).toNat : Int))) < 224)) && (decide (r7 ≥ 0))))))] a.tmps) ?_ ?_
  ·skip
   refine gv_pureN 3 [34, 35, 36] [(36, (.bool (decide ((IntKind.i64.wrap (((x3).toNat : Int))) ≥ 194))))] (by kernel_rfl) ?_
   refine gv_split (s := 36) (g := (decide ((IntKind.i64.wrap (((x3).toNat : Int))) ≥ 194))) (by kernel_rfl) (fun hc31 => ?_) (fun hc31 => ?_)
   ·skip
    refine gv_pureN 4 [37, 38, 39, 40] [(40, (.bool (decide ((IntKind.i64.wrap (((x3).toNat : Int))) < 224))))] (by kernel_rfl) ?_
    refine gv_split (s := 40) (g := (decide ((IntKind.i64.wrap (((x3).toNat : Int))) < 224))) (by kernel_rfl) (fun hc32 => ?_) (fun hc32 => ?_)
    ·skip
     refine gv_pureN 4 [33, 41, 42, 43] [(33, (.bool (decide (r7 ≥ 0))))] (by kernel_rfl) ?_
     refine gv_sub [6, 7, 8, 9, 33] (σ' := [(6, (.int .i64 (IntKind.i64.wrap (((x3).toNat : Int))))), (7, (.int .i64 r7)), (8, (.int .i64 r12)), (9, (.int .i64 r19)), (33, (.bool (decide (r7 ≥ 0))))]) (by kernel_rfl) ?_
     refine gv_nil <| gv_sub [6, 7, 8, 9, 33] (σ' := [(6, (.int .i64 (IntKind.i64.wrap (((x3).toNat : Int))))), (7, (.int .i64 r7)), (8, (.int .i64 r12)), (9, (.int .i64 r19)), (33, (.bool (decide (r7 ≥ 0))))]) (by kernel_rfl) ?_
     refine gv_goal fun a hd hs hok => ⟨rfl, hd, hs, ?_⟩
     obtain ⟨q6, q7, q8, q9, q33, _⟩ := hok
     exact ⟨q6, q7, q8, q9, (by rw [hc31, hc32]; exact q33), trivial⟩
    ·skip
     refine gv_pureN 4 [33, 41, 42, 43] [(33, (.bool false))] (by kernel_rfl) ?_
     refine gv_sub [6, 7, 8, 9, 33] (σ' := [(6, (.int .i64 (IntKind.i64.wrap (((x3).toNat : Int))))), (7, (.int .i64 r7)), (8, (.int .i64 r12)), (9, (.int .i64 r19)), (33, (.bool false))]) (by kernel_rfl) ?_
     refine gv_nil <| gv_sub [6, 7, 8, 9, 33] (σ' := [(6, (.int .i64 (IntKind.i64.wrap (((x3).toNat : Int))))), (7, (.int .i64 r7)), (8, (.int .i64 r12)), (9, (.int .i64 r19)), (33, (.bool false))]) (by kernel_rfl) ?_
     refine gv_goal fun a hd hs hok => ⟨rfl, hd, hs, ?_⟩
     obtain ⟨q6, q7, q8, q9, q33, _⟩ := hok
     exact ⟨q6, q7, q8, q9, (by rw [hc31, hc32]; exact q33), trivial⟩
   ·skip
    refine gv_pureN 8 [33, 37, 38, 39, 40, 41, 42, 43] [(33, (.bool false))] (by kernel_rfl) ?_
    refine gv_nil <| gv_sub [6, 7, 8, 9, 33] (σ' := [(6, (.int .i64 (IntKind.i64.wrap (((x3).toNat : Int))))), (7, (.int .i64 r7)), (8, (.int .i64 r12)), (9, (.int .i64 r19)), (33, (.bool false))]) (by kernel_rfl) ?_
    refine gv_goal fun a hd hs hok => ⟨rfl, hd, hs, ?_⟩
    obtain ⟨q6, q7, q8, q9, q33, _⟩ := hok
    exact ⟨q6, q7, q8, q9, (by rw [hc31]; exact q33), trivial⟩
  ·rintro a w30 ⟨e, hd, hs, hok⟩; subst e
   refine gv_in ?_ hd hs hok
   clear hd hs hok
   refine gv_cond (b := ((decide ((IntKind.i64.wrap (((x3).toNat : Int))) ≥ 194)) && ((decide ((IntKind.i64.wrap (((x3).toNat : Int))) < 224)) && (decide (r7 ≥ 0))))) (by kernel_rfl) (fun hc33 => ?_) (fun hc33 => ?_)
   ·replace h0 := ite_t hc33 h0
    refine gv_seq <| gv_region <| gv_pureN 7 [4, 5, 44, 45, 46, 47, 48] [(4, (.int .i64 (IntKind.i64.wrap ((IntKind.i64.wrap ((IntKind.i64.wrap ((IntKind.i64.wrap (((x3).toNat : Int))) - 192)) * 64)) + r7)))), (5, (.int .i64 2))] (by kernel_rfl) ?_
    refine bindE h0 ?_; clear h0; intro n34 hn35 h0
    refine gv_name (s := 4) (v := (.int .i64 (IntKind.i64.wrap ((IntKind.i64.wrap ((IntKind.i64.wrap ((IntKind.i64.wrap (((x3).toNat : Int))) - 192)) * 64)) + r7)))) (v' := (.int .i64 n34)) (by kernel_rfl) (congrArg (Value.int .i64) (sj hn35)) ?_
    refine gv_nil <| gv_cret ?_
    have e := sj h0; subst e
    refine gv_ret (gv_done [(.int .i64 n34), (.int .i64 2)] rfl ⟨(by kernel_rfl), (by kernel_rfl), trivial⟩ ?_)
    have hB36 := bg hB21 hg23 nb
    exact ⟨grown_of_below hB36, rfl⟩
   ·replace h0 := ite_f hc33 h0
    refine gv_seq <| gv_region <| gv_cut_ops (J := fun a w37 => w22 = w37 ∧ a.defers = [] ∧ a.tmps.size = 120 ∧ Ok [(6, (.int .i64 (IntKind.i64.wrap (((x3).toNat : Int))))), (7, (.int .i64 r7)), (8, (.int .i64 r12)), (9, (.int .i64 r19)), (49, (.bool ((decide ((IntKind.i64.wrap (((x3).toNat : Int))) ≥ 224)) && ((decide ((IntKind.i64.wrap (((x3).toNat : Int))) < 240)) && ((decide (r7 ≥ 0)) && (decide (r12 ≥ 0)))))))] a.tmps) ?_ ?_
    ·skip
     refine gv_pureN 3 [50, 51, 52] [(52, (.bool (decide ((IntKind.i64.wrap (((x3).toNat : Int))) ≥ 224))))] (by kernel_rfl) ?_
     refine gv_split (s := 52) (g := (decide ((IntKind.i64.wrap (((x3).toNat : Int))) ≥ 224))) (by kernel_rfl) (fun hc38 => ?_) (fun hc38 => ?_)
     ·skip
      refine gv_pureN 4 [53, 54, 55, 56] [(56, (.bool (decide ((IntKind.i64.wrap (((x3).toNat : Int))) < 240))))] (by kernel_rfl) ?_
      refine gv_split (s := 56) (g := (decide ((IntKind.i64.wrap (((x3).toNat : Int))) < 240))) (by kernel_rfl) (fun hc39 => ?_) (fun hc39 => ?_)
      ·skip
       refine gv_pureN 4 [57, 58, 59, 60] [(60, (.bool (decide (r7 ≥ 0))))] (by kernel_rfl) ?_
       refine gv_sub [6, 7, 8, 9, 60] (σ' := [(6, (.int .i64 (IntKind.i64.wrap (((x3).toNat : Int))))), (7, (.int .i64 r7)), (8, (.int .i64 r12)), (9, (.int .i64 r19)), (60, (.bool (decide (r7 ≥ 0))))]) (by kernel_rfl) ?_
       refine gv_split (s := 60) (g := (decide (r7 ≥ 0))) (by kernel_rfl) (fun hc40 => ?_) (fun hc40 => ?_)
       ·skip
        refine gv_pureN 4 [49, 61, 62, 63] [(49, (.bool (decide (r12 ≥ 0))))] (by kernel_rfl) ?_
        refine gv_nil <| gv_sub [6, 7, 8, 9, 49] (σ' := [(6, (.int .i64 (IntKind.i64.wrap (((x3).toNat : Int))))), (7, (.int .i64 r7)), (8, (.int .i64 r12)), (9, (.int .i64 r19)), (49, (.bool (decide (r12 ≥ 0))))]) (by kernel_rfl) ?_
        refine gv_goal fun a hd hs hok => ⟨rfl, hd, hs, ?_⟩
        obtain ⟨q6, q7, q8, q9, q49, _⟩ := hok
        exact ⟨q6, q7, q8, q9, (by rw [hc38, hc39, hc40]; exact q49), trivial⟩
       ·skip
        refine gv_pureN 4 [49, 61, 62, 63] [(49, (.bool false))] (by kernel_rfl) ?_
        refine gv_nil <| gv_sub [6, 7, 8, 9, 49] (σ' := [(6, (.int .i64 (IntKind.i64.wrap (((x3).toNat : Int))))), (7, (.int .i64 r7)), (8, (.int .i64 r12)), (9, (.int .i64 r19)), (49, (.bool false))]) (by kernel_rfl) ?_
        refine gv_goal fun a hd hs hok => ⟨rfl, hd, hs, ?_⟩
        obtain ⟨q6, q7, q8, q9, q49, _⟩ := hok
        exact ⟨q6, q7, q8, q9, (by rw [hc38, hc39, hc40]; exact q49), trivial⟩
      ·skip
       refine gv_pureN 8 [49, 57, 58, 59, 60, 61, 62, 63] [(49, (.bool false))] (by kernel_rfl) ?_
       refine gv_sub [6, 7, 8, 9, 49] (σ' := [(6, (.int .i64 (IntKind.i64.wrap (((x3).toNat : Int))))), (7, (.int .i64 r7)), (8, (.int .i64 r12)), (9, (.int .i64 r19)), (49, (.bool false))]) (by kernel_rfl) ?_
       refine gv_nil <| gv_sub [6, 7, 8, 9, 49] (σ' := [(6, (.int .i64 (IntKind.i64.wrap (((x3).toNat : Int))))), (7, (.int .i64 r7)), (8, (.int .i64 r12)), (9, (.int .i64 r19)), (49, (.bool false))]) (by kernel_rfl) ?_
       refine gv_goal fun a hd hs hok => ⟨rfl, hd, hs, ?_⟩
       obtain ⟨q6, q7, q8, q9, q49, _⟩ := hok
       exact ⟨q6, q7, q8, q9, (by rw [hc38, hc39]; exact q49), trivial⟩
     ·skip
      refine gv_pureN 12 [49, 53, 54, 55, 56, 57, 58, 59, 60, 61, 62, 63] [(49, (.bool false))] (by kernel_rfl) ?_
      refine gv_nil <| gv_sub [6, 7, 8, 9, 49] (σ' := [(6, (.int .i64 (IntKind.i64.wrap (((x3).toNat : Int))))), (7, (.int .i64 r7)), (8, (.int .i64 r12)), (9, (.int .i64 r19)), (49, (.bool false))]) (by kernel_rfl) ?_
      refine gv_goal fun a hd hs hok => ⟨rfl, hd, hs, ?_⟩
      obtain ⟨q6, q7, q8, q9, q49, _⟩ := hok
      exact ⟨q6, q7, q8, q9, (by rw [hc38]; exact q49), trivial⟩
    ·rintro a w37 ⟨e, hd, hs, hok⟩; subst e
     refine gv_in ?_ hd hs hok
     clear hd hs hok
     refine bindE h0 ?_; clear h0; intro j41 h1 h0
     refine gv_cut_code (J := fun a w43 => ∃ s42 : Unit, j41 = .inl s42 ∧ Below w0.heap.size w0 w43 ∧ w22.heap.size ≤ w43.heap.size ∧ a.defers = [] ∧ a.tmps.size = 120 ∧ Ok [] a.tmps) ?_ ?_
     ·skip
      refine gv_cond (b := ((decide ((IntKind.i64.wrap (((x3).toNat : Int))) ≥ 224)) && ((decide ((IntKind.i64.wrap (((x3).toNat : Int))) < 240)) && ((decide (r7 ≥ 0)) && (decide (r12 ≥ 0)))))) (by kernel_rfl) (fun hc44 => ?_) (fun hc44 => ?_)
      ·replace h1 := ite_t hc44 h1
       refine gv_seq <| gv_region <| gv_pureN 9 [10, 64, 65, 66, 67, 68, 69, 70, 71] [(10, (.int .i64 (IntKind.i64.wrap ((IntKind.i64.wrap ((IntKind.i64.wrap ((IntKind.i64.wrap ((IntKind.i64.wrap (((x3).toNat : Int))) - 224)) * 4096)) + (IntKind.i64.wrap (r7 * 64)))) + r12))))] (by kernel_rfl) ?_
       refine bindE h1 ?_; clear h1; intro n45 hn46 h1
       refine gv_name (s := 10) (v := (.int .i64 (IntKind.i64.wrap ((IntKind.i64.wrap ((IntKind.i64.wrap ((IntKind.i64.wrap ((IntKind.i64.wrap (((x3).toNat : Int))) - 224)) * 4096)) + (IntKind.i64.wrap (r7 * 64)))) + r12)))) (v' := (.int .i64 n45)) (by kernel_rfl) (congrArg (Value.int .i64) (sj hn46)) ?_
       refine gv_nil <| gv_seq <| gv_region <| gv_cut_ops (J := fun a w47 => w22 = w47 ∧ a.defers = [] ∧ a.tmps.size = 120 ∧ Ok [(10, (.int .i64 n45)), (81, (.bool ((decide (n45 ≥ 2048)) && ((decide (n45 < 55296)) || (decide (n45 > 57343))))))] a.tmps) ?_ ?_
       ·skip
        refine gv_pureN 3 [72, 73, 74] [(74, (.bool (decide (n45 ≥ 2048))))] (by kernel_rfl) ?_
        refine gv_split (s := 74) (g := (decide (n45 ≥ 2048))) (by kernel_rfl) (fun hc48 => ?_) (fun hc48 => ?_)
        ·skip
         refine gv_pureN 3 [75, 76, 77] [(77, (.bool (decide (n45 < 55296))))] (by kernel_rfl) ?_
         refine gv_sub [10, 74, 77] (σ' := [(10, (.int .i64 n45)), (74, (.bool true)), (77, (.bool (decide (n45 < 55296))))]) (by kernel_rfl) ?_
         refine gv_split (s := 77) (g := (decide (n45 < 55296))) (by kernel_rfl) (fun hc49 => ?_) (fun hc49 => ?_)
         ·skip
          refine gv_pureN 4 [78, 79, 80, 81] [(81, (.bool true))] (by kernel_rfl) ?_
          refine gv_nil <| gv_sub [10, 81] (σ' := [(10, (.int .i64 n45)), (81, (.bool true))]) (by kernel_rfl) ?_
          refine gv_goal fun a hd hs hok => ⟨rfl, hd, hs, ?_⟩
          obtain ⟨q10, q81, _⟩ := hok
          exact ⟨q10, (by rw [hc48, hc49]; exact q81), trivial⟩
         ·skip
          refine gv_pureN 4 [78, 79, 80, 81] [(81, (.bool (decide (n45 > 57343))))] (by kernel_rfl) ?_
          refine gv_nil <| gv_sub [10, 81] (σ' := [(10, (.int .i64 n45)), (81, (.bool (decide (n45 > 57343))))]) (by kernel_rfl) ?_
          refine gv_goal fun a hd hs hok => ⟨rfl, hd, hs, ?_⟩
          obtain ⟨q10, q81, _⟩ := hok
          exact ⟨q10, (by rw [hc48, hc49]; exact q81), trivial⟩
        ·skip
         refine gv_pureN 7 [75, 76, 77, 78, 79, 80, 81] [(81, (.bool false))] (by kernel_rfl) ?_
         refine gv_sub [10, 81] (σ' := [(10, (.int .i64 n45)), (81, (.bool false))]) (by kernel_rfl) ?_
         refine gv_nil <| gv_sub [10, 81] (σ' := [(10, (.int .i64 n45)), (81, (.bool false))]) (by kernel_rfl) ?_
         refine gv_goal fun a hd hs hok => ⟨rfl, hd, hs, ?_⟩
         obtain ⟨q10, q81, _⟩ := hok
         exact ⟨q10, (by rw [hc48]; exact q81), trivial⟩
       ·rintro a w47 ⟨e, hd, hs, hok⟩; subst e
        refine gv_in ?_ hd hs hok
        clear hd hs hok
        refine gv_cond (b := ((decide (n45 ≥ 2048)) && ((decide (n45 < 55296)) || (decide (n45 > 57343))))) (by kernel_rfl) (fun hc50 => ?_) (fun hc50 => ?_)
        ·replace h1 := ite_t hc50 h1
         refine gv_seq <| gv_region <| gv_pureN 3 [4, 5, 82] [(4, (.int .i64 n45)), (5, (.int .i64 3))] (by kernel_rfl) ?_
         refine gv_nil <| gv_cret ?_
         have e := sj h1; subst e
         replace h0 := cont_inr h0
         have e := sj h0; subst e
         refine gv_ret (gv_done [(.int .i64 n45), (.int .i64 3)] rfl ⟨(by kernel_rfl), (by kernel_rfl), trivial⟩ ?_)
         have hB51 := bg hB21 hg23 nb
         exact ⟨grown_of_below hB51, rfl⟩
        ·replace h1 := ite_f hc50 h1
         refine gv_skip ?_
         have e := sj h1; subst e
         refine gv_goal fun a hd hs hok => ?_
         have hB52 := bg hB21 hg23 nb
         exact ⟨(), rfl, hB52, (Nat.le_refl _), hd, hs, ok_pick [] hok (by kernel_rfl)⟩
      ·replace h1 := ite_f hc44 h1
       refine gv_seq <| gv_region <| gv_cut_ops (J := fun a w53 => w22 = w53 ∧ a.defers = [] ∧ a.tmps.size = 120 ∧ Ok [(6, (.int .i64 (IntKind.i64.wrap (((x3).toNat : Int))))), (7, (.int .i64 r7)), (8, (.int .i64 r12)), (9, (.int .i64 r19)), (83, (.bool ((decide ((IntKind.i64.wrap (((x3).toNat : Int))) ≥ 240)) && ((decide ((IntKind.i64.wrap (((x3).toNat : Int))) < 245)) && ((decide (r7 ≥ 0)) && ((decide (r12 ≥ 0)) && (decide (r19 ≥ 0))))))))] a.tmps) ?_ ?_
       ·skip
        refine gv_pureN 3 [84, 85, 86] [(86, (.bool (decide ((IntKind.i64.wrap (((x3).toNat : Int))) ≥ 240))))] (by kernel_rfl) ?_
        refine gv_split (s := 86) (g := (decide ((IntKind.i64.wrap (((x3).toNat : Int))) ≥ 240))) (by kernel_rfl) (fun hc54 => ?_) (fun hc54 => ?_)
        ·skip
         refine gv_pureN 4 [87, 88, 89, 90] [(90, (.bool (decide ((IntKind.i64.wrap (((x3).toNat : Int))) < 245))))] (by kernel_rfl) ?_
         refine gv_split (s := 90) (g := (decide ((IntKind.i64.wrap (((x3).toNat : Int))) < 245))) (by kernel_rfl) (fun hc55 => ?_) (fun hc55 => ?_)
         ·skip
          refine gv_pureN 4 [91, 92, 93, 94] [(94, (.bool (decide (r7 ≥ 0))))] (by kernel_rfl) ?_
          refine gv_sub [6, 7, 8, 9, 94] (σ' := [(6, (.int .i64 (IntKind.i64.wrap (((x3).toNat : Int))))), (7, (.int .i64 r7)), (8, (.int .i64 r12)), (9, (.int .i64 r19)), (94, (.bool (decide (r7 ≥ 0))))]) (by kernel_rfl) ?_
          refine gv_split (s := 94) (g := (decide (r7 ≥ 0))) (by kernel_rfl) (fun hc56 => ?_) (fun hc56 => ?_)
          ·skip
           refine gv_pureN 4 [95, 96, 97, 98] [(98, (.bool (decide (r12 ≥ 0))))] (by kernel_rfl) ?_
           refine gv_split (s := 98) (g := (decide (r12 ≥ 0))) (by kernel_rfl) (fun hc57 => ?_) (fun hc57 => ?_)
           ·skip
            refine gv_pureN 4 [83, 99, 100, 101] [(83, (.bool (decide (r19 ≥ 0))))] (by kernel_rfl) ?_
            refine gv_nil <| gv_sub [6, 7, 8, 9, 83] (σ' := [(6, (.int .i64 (IntKind.i64.wrap (((x3).toNat : Int))))), (7, (.int .i64 r7)), (8, (.int .i64 r12)), (9, (.int .i64 r19)), (83, (.bool (decide (r19 ≥ 0))))]) (by kernel_rfl) ?_
            refine gv_goal fun a hd hs hok => ⟨rfl, hd, hs, ?_⟩
            obtain ⟨q6, q7, q8, q9, q83, _⟩ := hok
            exact ⟨q6, q7, q8, q9, (by rw [hc54, hc55, hc56, hc57]; exact q83), trivial⟩
           ·skip
            refine gv_pureN 4 [83, 99, 100, 101] [(83, (.bool false))] (by kernel_rfl) ?_
            refine gv_nil <| gv_sub [6, 7, 8, 9, 83] (σ' := [(6, (.int .i64 (IntKind.i64.wrap (((x3).toNat : Int))))), (7, (.int .i64 r7)), (8, (.int .i64 r12)), (9, (.int .i64 r19)), (83, (.bool false))]) (by kernel_rfl) ?_
            refine gv_goal fun a hd hs hok => ⟨rfl, hd, hs, ?_⟩
            obtain ⟨q6, q7, q8, q9, q83, _⟩ := hok
            exact ⟨q6, q7, q8, q9, (by rw [hc54, hc55, hc56, hc57]; exact q83), trivial⟩
          ·skip
           refine gv_pureN 8 [83, 95, 96, 97, 98, 99, 100, 101] [(83, (.bool false))] (by kernel_rfl) ?_
           refine gv_nil <| gv_sub [6, 7, 8, 9, 83] (σ' := [(6, (.int .i64 (IntKind.i64.wrap (((x3).toNat : Int))))), (7, (.int .i64 r7)), (8, (.int .i64 r12)), (9, (.int .i64 r19)), (83, (.bool false))]) (by kernel_rfl) ?_
           refine gv_goal fun a hd hs hok => ⟨rfl, hd, hs, ?_⟩
           obtain ⟨q6, q7, q8, q9, q83, _⟩ := hok
           exact ⟨q6, q7, q8, q9, (by rw [hc54, hc55, hc56]; exact q83), trivial⟩
         ·skip
          refine gv_pureN 12 [83, 91, 92, 93, 94, 95, 96, 97, 98, 99, 100, 101] [(83, (.bool false))] (by kernel_rfl) ?_
          refine gv_sub [6, 7, 8, 9, 83] (σ' := [(6, (.int .i64 (IntKind.i64.wrap (((x3).toNat : Int))))), (7, (.int .i64 r7)), (8, (.int .i64 r12)), (9, (.int .i64 r19)), (83, (.bool false))]) (by kernel_rfl) ?_
          refine gv_nil <| gv_sub [6, 7, 8, 9, 83] (σ' := [(6, (.int .i64 (IntKind.i64.wrap (((x3).toNat : Int))))), (7, (.int .i64 r7)), (8, (.int .i64 r12)), (9, (.int .i64 r19)), (83, (.bool false))]) (by kernel_rfl) ?_
          refine gv_goal fun a hd hs hok => ⟨rfl, hd, hs, ?_⟩
          obtain ⟨q6, q7, q8, q9, q83, _⟩ := hok
          exact ⟨q6, q7, q8, q9, (by rw [hc54, hc55]; exact q83), trivial⟩
        ·skip
         refine gv_pureN 16 [83, 87, 88, 89, 90, 91, 92, 93, 94, 95, 96, 97, 98, 99, 100, 101] [(83, (.bool false))] (by kernel_rfl) ?_
         refine gv_nil <| gv_sub [6, 7, 8, 9, 83] (σ' := [(6, (.int .i64 (IntKind.i64.wrap (((x3).toNat : Int))))), (7, (.int .i64 r7)), (8, (.int .i64 r12)), (9, (.int .i64 r19)), (83, (.bool false))]) (by kernel_rfl) ?_
         refine gv_goal fun a hd hs hok => ⟨rfl, hd, hs, ?_⟩
         obtain ⟨q6, q7, q8, q9, q83, _⟩ := hok
         exact ⟨q6, q7, q8, q9, (by rw [hc54]; exact q83), trivial⟩
       ·rintro a w53 ⟨e, hd, hs, hok⟩; subst e
        refine gv_in ?_ hd hs hok
        clear hd hs hok
        refine gv_cond (b := ((decide ((IntKind.i64.wrap (((x3).toNat : Int))) ≥ 240)) && ((decide ((IntKind.i64.wrap (((x3).toNat : Int))) < 245)) && ((decide (r7 ≥ 0)) && ((decide (r12 ≥ 0)) && (decide (r19 ≥ 0))))))) (by kernel_rfl) (fun hc58 => ?_) (fun hc58 => ?_)
        ·replace h1 := ite_t hc58 h1
         refine gv_seq <| gv_region <| gv_pureN 12 [11, 102, 103, 104, 105, 106, 107, 108, 109, 110, 111, 112] [(11, (.int .i64 (IntKind.i64.wrap ((IntKind.i64.wrap ((IntKind.i64.wrap ((IntKind.i64.wrap ((IntKind.i64.wrap ((IntKind.i64.wrap (((x3).toNat : Int))) - 240)) * 262144)) + (IntKind.i64.wrap (r7 * 4096)))) + (IntKind.i64.wrap (r12 * 64)))) + r19))))] (by kernel_rfl) ?_
         refine bindE h1 ?_; clear h1; intro n59 hn60 h1
         refine gv_name (s := 11) (v := (.int .i64 (IntKind.i64.wrap ((IntKind.i64.wrap ((IntKind.i64.wrap ((IntKind.i64.wrap ((IntKind.i64.wrap ((IntKind.i64.wrap (((x3).toNat : Int))) - 240)) * 262144)) + (IntKind.i64.wrap (r7 * 4096)))) + (IntKind.i64.wrap (r12 * 64)))) + r19)))) (v' := (.int .i64 n59)) (by kernel_rfl) (congrArg (Value.int .i64) (sj hn60)) ?_
         refine gv_nil <| gv_seq <| gv_region <| gv_cut_ops (J := fun a w61 => w22 = w61 ∧ a.defers = [] ∧ a.tmps.size = 120 ∧ Ok [(11, (.int .i64 n59)), (118, (.bool ((decide (n59 ≥ 65536)) && (decide (n59 ≤ 1114111)))))] a.tmps) ?_ ?_
         ·skip
          refine gv_pureN 3 [113, 114, 115] [(115, (.bool (decide (n59 ≥ 65536))))] (by kernel_rfl) ?_
          refine gv_split (s := 115) (g := (decide (n59 ≥ 65536))) (by kernel_rfl) (fun hc62 => ?_) (fun hc62 => ?_)
          ·skip
           refine gv_pureN 3 [116, 117, 118] [(118, (.bool (decide (n59 ≤ 1114111))))] (by kernel_rfl) ?_
           refine gv_sub [11, 118] (σ' := [(11, (.int .i64 n59)), (118, (.bool (decide (n59 ≤ 1114111))))]) (by kernel_rfl) ?_
           refine gv_nil <| gv_sub [11, 118] (σ' := [(11, (.int .i64 n59)), (118, (.bool (decide (n59 ≤ 1114111))))]) (by kernel_rfl) ?_
           refine gv_goal fun a hd hs hok => ⟨rfl, hd, hs, ?_⟩
           obtain ⟨q11, q118, _⟩ := hok
           exact ⟨q11, (by rw [hc62]; exact q118), trivial⟩
          ·skip
           refine gv_pureN 3 [116, 117, 118] [(118, (.bool false))] (by kernel_rfl) ?_
           refine gv_sub [11, 118] (σ' := [(11, (.int .i64 n59)), (118, (.bool false))]) (by kernel_rfl) ?_
           refine gv_nil <| gv_sub [11, 118] (σ' := [(11, (.int .i64 n59)), (118, (.bool false))]) (by kernel_rfl) ?_
           refine gv_goal fun a hd hs hok => ⟨rfl, hd, hs, ?_⟩
           obtain ⟨q11, q118, _⟩ := hok
           exact ⟨q11, (by rw [hc62]; exact q118), trivial⟩
         ·rintro a w61 ⟨e, hd, hs, hok⟩; subst e
          refine gv_in ?_ hd hs hok
          clear hd hs hok
          refine gv_cond (b := ((decide (n59 ≥ 65536)) && (decide (n59 ≤ 1114111)))) (by kernel_rfl) (fun hc63 => ?_) (fun hc63 => ?_)
          ·replace h1 := ite_t hc63 h1
           refine gv_seq <| gv_region <| gv_pureN 3 [4, 5, 119] [(4, (.int .i64 n59)), (5, (.int .i64 4))] (by kernel_rfl) ?_
           refine gv_nil <| gv_cret ?_
           have e := sj h1; subst e
           replace h0 := cont_inr h0
           have e := sj h0; subst e
           refine gv_ret (gv_done [(.int .i64 n59), (.int .i64 4)] rfl ⟨(by kernel_rfl), (by kernel_rfl), trivial⟩ ?_)
           have hB64 := bg hB21 hg23 nb
           exact ⟨grown_of_below hB64, rfl⟩
          ·replace h1 := ite_f hc63 h1
           refine gv_skip ?_
           have e := sj h1; subst e
           refine gv_goal fun a hd hs hok => ?_
           have hB65 := bg hB21 hg23 nb
           exact ⟨(), rfl, hB65, (Nat.le_refl _), hd, hs, ok_pick [] hok (by kernel_rfl)⟩
        ·replace h1 := ite_f hc58 h1
         refine gv_skip ?_
         have e := sj h1; subst e
         refine gv_goal fun a hd hs hok => ?_
         have hB66 := bg hB21 hg23 nb
         exact ⟨(), rfl, hB66, (Nat.le_refl _), hd, hs, ok_pick [] hok (by kernel_rfl)⟩
     ·rintro a w43 ⟨s42, e, hB67, hz68, hd, hs, hok⟩
      subst e
      refine gv_in ?_ hd hs hok
      clear hd hs hok
      replace h0 := cont_inl h0
      clear hc33 hc28 hn27 hC25 hg23 hB21 hr20 hC18 hg16 hB14 hr13 hg10 hr8 hC6 hB5 hx4 hg2
      refine gv_blk <| gv_seq <| gv_region <| gv_pureN 2 [4, 5] [(4, (.int .i64 0)), (5, (.int .i64 0))] (by kernel_rfl) ?_
      refine gv_nil <| gv_cret ?_
      have e := sj h0; subst e
      refine gv_ret (gv_done [(.int .i64 0), (.int .i64 0)] rfl ⟨(by kernel_rfl), (by kernel_rfl), trivial⟩ ?_)
      exact ⟨grown_of_below hB67, rfl⟩

theorem ref4_Points_ok (fuel : Nat) (s_0 : ByteArray) (w0 : World)  (r0 : ((List Int) × Bool)) (h0 : ref4_Points fuel s_0 = some r0) :
    Calls Tryd.prog 25 ([(.string s_0)] : List Value).toArray w0 (Ret fun v w' => w0.grownBy w' none ∧ ∃ (a0_0r : Option Addr) (c0_0r : Nat), v = tup [(.slice a0_0r (List.length r0.1) c0_0r), (.bool r0.2)] ∧ Gv.Own (iE .i64) 3 w' (fun _ => False) a0_0r c0_0r r0.1 ∧ (∀ g, blk a0_0r = some g → w0.heap.size ≤ g)) := by
 have hB0 : Below w0.heap.size w0 w0 := Below.refl _ _
 unfold ref4_Points at h0
 refine calls_run Tryd.func25 rfl Tryd.ntmps25 (by kernel_rfl) ?_
 refine gv_sub [0] (σ' := [(0, (.string s_0))]) (by kernel_rfl) ?_
 refine gv_seq <| gv_region <| gv_pureN 2 [2, 3] [] (by kernel_rfl) ?_
 refine gv_nil <| gv_seq <| gv_region <| gv_pureN 1 [4] [(4, (.slice none (List.length ([] : List Int)) 0))] (by kernel_rfl) ?_
 refine gv_nil <| gv_seq <| gv_seq <| gv_region <| gv_pureN 1 [5] [(5, (.int .i64 0))] (by kernel_rfl) ?_
 refine gv_nil <| bindE h0 ?_; clear h0; intro j1 h1 h0
 refine gv_cut_code (J := fun a w3 => ∃ s2 : (List Int), j1 = .inl s2 ∧ ∃ (a4_0j : Option Addr) (c4_0j : Nat), Below w0.heap.size w0 w3 ∧ w0.heap.size ≤ w3.heap.size ∧ Gv.Own (iE .i64) 3 w3 (fun _ => False) a4_0j c4_0j s2 ∧ (∀ g, blk a4_0j = some g → w0.heap.size ≤ g) ∧ a.defers = [] ∧ a.tmps.size = 29 ∧ Ok [(4, (.slice a4_0j (List.length s2) c4_0j))] a.tmps) ?_ ?_
 ·skip
  refine gv_block <| gv_loop (A := fun (s4 : ((List Int) × Int)) a w5 => ∃ (a4_0j : Option Addr) (c4_0j : Nat), Below w0.heap.size w0 w5 ∧ w0.heap.size ≤ w5.heap.size ∧ Gv.Own (iE .i64) 3 w5 (fun _ => False) a4_0j c4_0j s4.1 ∧ (∀ g, blk a4_0j = some g → w0.heap.size ≤ g) ∧ a.defers = [] ∧ a.tmps.size = 29 ∧ Ok [(0, (.string s_0)), (4, (.slice a4_0j (List.length s4.1) c4_0j)), (5, (.int .i64 s4.2))] a.tmps) h1 ?_ ?_
  ·intro a hd hs hok
   exact ⟨none, 0, hB0, (Nat.le_refl _), (Gv.Own.nil (iE .i64) 3 w0 (fun _ => False)), (fun _ h => by cases h), hd, hs, ok_pick [0, 4, 5] hok (by kernel_rfl)⟩
  ·rintro s4 r2 h2 hR2 a w5 ⟨a8, c9, hB6, hz7, ho10, hl11, hd, hs, hok⟩
   refine gv_in ?_ hd hs hok
   clear hd hs hok
   refine gv_seq <| gv_seq <| gv_region <| gv_pureN 4 [8, 9, 10, 11] [(11, (.bool (decide (s4.2 < ((ByteArray.size s_0 : Nat) : Int)))))] (by kernel_rfl) ?_
   refine gv_nil <| gv_cond (b := (decide (s4.2 < ((ByteArray.size s_0 : Nat) : Int)))) (by kernel_rfl) (fun hc12 => ?_) (fun hc12 => ?_)
   ·replace h2 := ite_t hc12 h2
    refine gv_skip <| gv_block <| gv_seq <| gv_region <| gv_pureN 1 [13] [(13, (.string s_0))] (by kernel_rfl) ?_
    refine gv_s2b (src := 9) (dst := 22) (e := 5) (s := s_0) (by decide) rfl rfl (by kernel_rfl) (by kernel_rfl) Tryd.underlying9 Tryd.underlying22 Tryd.underlying5 ?_
    rintro a13 c14 w15 hg16 hr17 hz19
    refine ⟨(fun e => by cases e), ?_⟩
    have hx20 : ∀ k, k = w5.heap.size → k < w15.heap.size := lts hz19
    have hx21 : ∀ k, k = w5.heap.size → (fun _ => False) k ∨ w0.heap.size ≤ k := fun k hk => .inr (lowe hB6.size k hk)
    refine gv_pureN 1 [15] [(15, (.int .i64 s4.2))] (by kernel_rfl) ?_
    refine bindE h2 ?_; clear h2; intro r22 hr23 h2
    refine gv_call0 (by kernel_rfl) rfl (by kernel_rfl) enters47 (ref4_unit_ok fuel a13 c14 (bytesOf s_0) s4.2 w15 (fun k => (· = w5.heap.size) k) (fun k hk => hx20 k hk) (hr17.wide (fun k hk => hk)) r22 hr23) ?_
    rintro v26 w24 ⟨hg25, rfl⟩
    refine gv_pureN 5 [6, 7, 12, 17, 18] [(6, (.int .i64 r22.1)), (7, (.int .i64 r22.2))] (by kernel_rfl) ?_
    refine gv_nil <| gv_seq <| gv_seq <| gv_region <| gv_pureN 2 [19, 20] [(20, (.bool (r22.2 == 0)))] (by kernel_rfl) ?_
    refine gv_nil <| gv_cond (b := (r22.2 == 0)) (by kernel_rfl) (fun hc27 => ?_) (fun hc27 => ?_)
    ·replace h2 := ite_t hc27 h2
     refine gv_seq <| gv_region <| gv_pureN 2 [2, 3] [(2, (.slice none (List.length ([] : List Int)) 0)), (3, (.bool false))] (by kernel_rfl) ?_
     refine gv_nil <| gv_cret ?_
     have e := sj h2; subst e
     replace h1 := congrArg some (hR2 _ rfl)
     have e := sj h1; subst e
     replace h0 := cont_inr h0
     have e := sj h0; subst e
     refine gv_ret (gv_done [(.slice none (List.length ([] : List Int)) 0), (.bool false)] rfl ⟨(by kernel_rfl), (by kernel_rfl), trivial⟩ ?_)
     have hg28 := (grown_trans hg16 hg25)
     have hB29 := bg hB6 hg28 nb
     exact ⟨grown_of_below hB29, none, 0, rfl, (Gv.Own.nil (iE .i64) 3 w24 (fun _ => False)), (fun _ h => by cases h)⟩
    ·replace h2 := ite_f hc27 h2
     refine gv_skip <| gv_seq <| gv_region <| gv_pureN 2 [21, 22] [(21, (.slice a8 (List.length s4.1) c9)), (22, (.int .i64 r22.1))] (by kernel_rfl) ?_
     refine gv_new0 (fun b => .slice (some ⟨b, 0, none⟩) 1 1) #[(.int .i64 r22.1)] 3 (by kernel_rfl) (by kernel_rfl) ?_
     intro b30 w31 hg32 hb33 hbe34 hz35
     have ho36 : Gv.Own (iE .i64) 3 w31 (fun _ => False) (some ⟨b30, 0, none⟩) 1 ([r22.1] : List Int) := Box.ownE hb33 ⟨[(.int .i64 r22.1)], [], rfl, rfl, rfl⟩ (show 1 ≤ maxLen by decide) (fun h => h)
     have hg41 := (grown_trans hg16 hg25)
     have hB42 := bg hB6 hg41 nb
     have hl37 : ∀ g, blk (some ⟨b30, 0, none⟩) = some g → w0.heap.size ≤ g := loo hbe34 hB42.size
     refine bindE h2 ?_; clear h2; intro l43 hx44 h2
     have hg51 := (grown_trans hg41 hg32)
     have hk52 := ho10.grown hg51 (fun _ h => h.elim) nb
     refine gv_append (iE .i64) (t := 45) (ty := 45) (e := 3) (a := a8) (ax := (some ⟨b30, 0, none⟩)) (cap := c9) (cx := 1) (xs := s4.1) (ys := ([r22.1] : List Int)) l43 (X := (fun _ => False)) (Y := (fun k => blk (some ⟨b30, 0, none⟩) = some k)) (by decide) rfl rfl (by kernel_rfl) (by kernel_rfl) Tryd.underlying45 info3 hk52 (ho36.rd (Y := fun k => blk (some ⟨b30, 0, none⟩) = some k) (fun _ h => h.elim) (fun g e => e)) hx44 (.inr fun _ _ _ _ _ h => h) (fun _ h => h.elim) ?_
     intro a45 c46 w47 hg48 ho49 hk50
     refine ⟨(fun e => by cases e), ?_⟩
     have hB54 := bg hB42 hg32 nb
     have hl53 : ∀ g, blk a45 = some g → w0.heap.size ≤ g := blk_step hk50 hl11 hB54.size
     have ap56 : ∀ g, blk a8 = some g → ¬ (· = w5.heap.size) g := fun g e hx => nl ((lowe (Nat.le_refl w5.heap.size)) _ hx) ((fun k (hk : blk a8 = some k) => ho10.lt k hk) g e)
     have hg57 := (grown_trans hg25 hg32)
     have hx58 := ltx hx20 hg57.size
     have ap55 : ∀ g, blk a45 = some g → ¬ (· = w5.heap.size) g := blk_neX hk50 ap56 hx58
     have hk60 := ho10.grown hg41 (fun _ h => h.elim) nb
     have ap61 : ∀ g, blk a8 = some g → ¬ (fun k => blk (some ⟨b30, 0, none⟩) = some k) g := fun g e hx => nl ((lowo hbe34) _ hx) ((fun k (hk : blk a8 = some k) => hk60.lt k hk) g e)
     have ap59 : ∀ g, blk a45 = some g → ¬ (fun k => blk (some ⟨b30, 0, none⟩) = some k) g := blk_neX hk50 ap61 (fun k (hk : blk (some ⟨b30, 0, none⟩) = some k) => ho36.lt k hk)
     have ap63 : ∀ g, blk (some ⟨b30, 0, none⟩) = some g → ¬ (fun k => blk a8 = some k) g := fun g e hx => nl ((lowo hbe34) g e) ((fun k (hk : blk a8 = some k) => hk60.lt k hk) _ hx)
     have ap62 : ∀ g, blk (some ⟨b30, 0, none⟩) = some g → ¬ (fun k => blk a45 = some k) g := fun g e h => blk_rev hk50 (fun h => ((ap63) g e) h) (ho36.lt g e) h
     refine gv_pureN 1 [4] [(4, (.slice a45 (List.length l43) c46))] (by kernel_rfl) ?_
     refine gv_nil <| gv_region <| gv_pureN 4 [5, 25, 26, 27] [(5, (.int .i64 (IntKind.i64.wrap (s4.2 + r22.2))))] (by kernel_rfl) ?_
     refine gv_nil <| gv_blk ?_
     have e := sj h2; subst e
     refine gv_goal fun a hd hs hok => ?_
     have hB64 := bg hB54 hg48 hl11
     have hz65 := (nt (nt (nt (nt hz7 hg16.size) hg25.size) hg32.size) hg48.size)
     exact ⟨(l43, (IntKind.i64.wrap (s4.2 + r22.2))), rfl, a45, c46, hB64, hz65, ho49, hl53, hd, hs, ok_pick [0, 4, 5] hok (by kernel_rfl)⟩
   ·replace h2 := ite_f hc12 h2
    refine gv_cexit <| gv_exit rfl ?_
    have e := sj h2; subst e
    replace h1 := congrArg some (hR2 _ rfl)
    have e := sj h1; subst e
    refine gv_goal fun a hd hs hok => ?_
    have hz66 := hz7
    exact ⟨s4.1, rfl, a8, c9, hB6, hz66, ho10, hl11, hd, hs, ok_pick [4] hok (by kernel_rfl)⟩
 ·rintro a w3 ⟨s2, e, a69, c70, hB67, hz68, ho71, hl72, hd, hs, hok⟩
  subst e
  refine gv_in ?_ hd hs hok
  clear hd hs hok
  replace h0 := cont_inl h0
  refine gv_seq <| gv_region <| gv_pureN 3 [2, 3, 28] [(2, (.slice a69 (List.length s2) c70)), (3, (.bool true))] (by kernel_rfl) ?_
  refine gv_nil <| gv_cret ?_
  have e := sj h0; subst e
  refine gv_ret (gv_done [(.slice a69 (List.length s2) c70), (.bool true)] rfl ⟨(by kernel_rfl), (by kernel_rfl), trivial⟩ ?_)
  exact ⟨grown_of_below hB67, a69, c70, rfl, ho71, hl72⟩

theorem ref4_TextOk_ok (fuel : Nat) (s_0 : ByteArray) (w0 : World)  (r0 : Bool) (h0 : ref4_TextOk fuel s_0 = some r0) :
    Calls Tryd.prog 46 ([(.string s_0)] : List Value).toArray w0 (Ret fun v w' => w0.grownBy w' none ∧ v = tup [(.bool r0)]) := by
 have hB0 : Below w0.heap.size w0 w0 := Below.refl _ _
 unfold ref4_TextOk at h0
 refine calls_run Tryd.func46 rfl Tryd.ntmps46 (by kernel_rfl) ?_
 refine gv_sub [0] (σ' := [(0, (.string s_0))]) (by kernel_rfl) ?_
 refine gv_seq <| gv_region <| gv_pureN 1 [2] [] (by kernel_rfl) ?_
 refine gv_nil <| gv_seq <| gv_region <| gv_pureN 1 [6] [(6, (.string s_0))] (by kernel_rfl) ?_
 refine bindE h0 ?_; clear h0; intro r1 hr2 h0
 refine gv_call0 (by kernel_rfl) rfl (by kernel_rfl) enters25 (ref4_Points_ok fuel s_0 w0  r1 hr2) ?_
 rintro v5 w3 ⟨hg4, a6, c7, rfl, ho8, hl9⟩
 have hl10 : ∀ g, blk a6 = some g → w0.heap.size ≤ g := fun g e => Nat.le_trans hB0.size (hl9 g e)
 refine gv_pureN 5 [3, 4, 5, 8, 9] [(4, (.bool r1.2))] (by kernel_rfl) ?_
 refine gv_nil <| gv_seq <| gv_region <| gv_cut_ops (J := fun a w11 => w3 = w11 ∧ a.defers = [] ∧ a.tmps.size = 16 ∧ Ok [(2, (.bool (r1.2 && (decide (((ByteArray.size s_0 : Nat) : Int) ≤ 4000)))))] a.tmps) ?_ ?_
 ·skip
  refine gv_pureN 2 [10, 11] [(11, (.bool r1.2))] (by kernel_rfl) ?_
  refine gv_split (s := 11) (g := r1.2) (by kernel_rfl) (fun hc12 => ?_) (fun hc12 => ?_)
  ·skip
   refine gv_pureN 5 [2, 12, 13, 14, 15] [(2, (.bool (decide (((ByteArray.size s_0 : Nat) : Int) ≤ 4000))))] (by kernel_rfl) ?_
   refine gv_nil <| gv_sub [2] (σ' := [(2, (.bool (decide (((ByteArray.size s_0 : Nat) : Int) ≤ 4000))))]) (by kernel_rfl) ?_
   refine gv_goal fun a hd hs hok => ⟨rfl, hd, hs, ?_⟩
   obtain ⟨q2, _⟩ := hok
   exact ⟨(by rw [hc12]; exact q2), trivial⟩
  ·skip
   refine gv_pureN 5 [2, 12, 13, 14, 15] [(2, (.bool false))] (by kernel_rfl) ?_
   refine gv_nil <| gv_sub [2] (σ' := [(2, (.bool false))]) (by kernel_rfl) ?_
   refine gv_goal fun a hd hs hok => ⟨rfl, hd, hs, ?_⟩
   obtain ⟨q2, _⟩ := hok
   exact ⟨(by rw [hc12]; exact q2), trivial⟩
 ·rintro a w11 ⟨e, hd, hs, hok⟩; subst e
  refine gv_in ?_ hd hs hok
  clear hd hs hok
  refine gv_cret ?_
  have e := sj h0; subst e
  refine gv_ret (gv_done [(.bool (r1.2 && (decide (((ByteArray.size s_0 : Nat) : Int) ≤ 4000))))] rfl ⟨(by kernel_rfl), trivial⟩ ?_)
  have hB13 := bg hB0 hg4 nb
  exact ⟨grown_of_below hB13, rfl⟩

theorem ref4_TextFaults_ok (fuel : Nat) (pa0_0 : Option Addr) (pc0_0 : Nat) (l_0 : (List ByteArray)) (w0 : World) (X0 : Nat → Prop) (hX0 : ∀ k, X0 k → k < w0.heap.size) (hpa0_0 : Rd sE w0 X0 pa0_0 pc0_0 l_0) (r0 : (Int × Int)) (h0 : ref4_TextFaults fuel l_0 = some r0) :
    Calls Tryd.prog 24 ([(.slice pa0_0 (List.length l_0) pc0_0)] : List Value).toArray w0 (Ret fun v w' => w0.grownBy w' none ∧ v = tup [(.agg #[(.int .i64 r0.1), (.int .i64 r0.2)])]) := by
 have hB0 : Below w0.heap.size w0 w0 := Below.refl _ _
 unfold ref4_TextFaults at h0
 refine calls_run Tryd.func24 rfl Tryd.ntmps24 (by kernel_rfl) ?_
 refine gv_sub [0] (σ' := [(0, (.slice pa0_0 (List.length l_0) pc0_0))]) (by kernel_rfl) ?_
 refine gv_seq <| gv_region <| gv_new0 (fun b => .pointer (some ⟨b, 0, none⟩)) #[(.int .i64 0), (.int .i64 0)] 25 (by kernel_rfl) (by kernel_rfl) ?_
 intro b1 w2 hg3 hb4 hbe5 hz6
 refine gv_nil <| gv_seq <| gv_seq <| gv_region <| gv_pureN 1 [3] [(3, (.int .i64 0))] (by kernel_rfl) ?_
 refine gv_nil <| bindE h0 ?_; clear h0; intro j7 h1 h0
 refine gv_cut_code (J := fun a w9 => ∃ s8 : (Int × Int), j7 = .inl s8 ∧ Below w0.heap.size w0 w9 ∧ w2.heap.size ≤ w9.heap.size ∧ Box w9 b1 25 #[(.int .i64 s8.1), (.int .i64 s8.2)] ∧ a.defers = [] ∧ a.tmps.size = 20 ∧ Ok [(2, (bp b1))] a.tmps) ?_ ?_
 ·skip
  refine gv_block <| gv_loop (A := fun (s10 : (Int × (Int × Int))) a w11 => Below w0.heap.size w0 w11 ∧ w2.heap.size ≤ w11.heap.size ∧ Box w11 b1 25 #[(.int .i64 s10.2.1), (.int .i64 s10.2.2)] ∧ a.defers = [] ∧ a.tmps.size = 20 ∧ Ok [(0, (.slice pa0_0 (List.length l_0) pc0_0)), (2, (bp b1)), (3, (.int .i64 s10.1))] a.tmps) h1 ?_ ?_
  ·intro a hd hs hok
   have hB12 := bg hB0 hg3 nb
   exact ⟨hB12, (Nat.le_refl _), hb4, hd, hs, ok_pick [0, 2, 3] hok (by kernel_rfl)⟩
  ·rintro s10 r2 h2 hR2 a w11 ⟨hB13, hz14, hb15, hd, hs, hok⟩
   refine gv_in ?_ hd hs hok
   clear hd hs hok
   refine gv_seq <| gv_seq <| gv_region <| gv_pureN 4 [4, 5, 6, 7] [(7, (.bool (decide (s10.1 < ((List.length l_0 : Nat) : Int)))))] (by kernel_rfl) ?_
   refine gv_nil <| gv_cond (b := (decide (s10.1 < ((List.length l_0 : Nat) : Int)))) (by kernel_rfl) (fun hc16 => ?_) (fun hc16 => ?_)
   ·replace h2 := ite_t hc16 h2
    refine gv_skip <| gv_seq <| gv_block <| gv_seq <| gv_region <| gv_pureN 2 [10, 11] [(10, (.slice pa0_0 (List.length l_0) pc0_0)), (11, (.int .i64 s10.1))] (by kernel_rfl) ?_
    refine bindE h2 ?_; clear h2; intro x17 hx18 h2
    refine gv_idxaddr (t := 80) (e := 9) (a := pa0_0) (len := List.length l_0) (cap := pc0_0) (kk := .i64) (i := s10.1) (sz := 1) [] (fun e => by cases e) rfl rfl rfl (by kernel_rfl) (by kernel_rfl) Tryd.underlying80 (by kernel_rfl) ((hpa0_0.below hB13 hX0).has hx18) (idx_spec hx18).1 (idx_spec hx18).2.1 rfl ?_
    refine gv_load (t := 9) (A := (elemAddr pa0_0 ((s10.1 : Int).toNat * 1))) (.string x17) [] (fun e => by cases e) rfl rfl rfl (by kernel_rfl) (by kernel_rfl) (by kernel_rfl) (inw0 ((hpa0_0.below hB13 hX0).cell hx18)) rfl ?_
    refine bindE h2 ?_; clear h2; intro r19 hr20 h2
    refine gv_call0 (by kernel_rfl) rfl (by kernel_rfl) enters46 (ref4_TextOk_ok fuel x17 w11  r19 hr20) ?_
    rintro v23 w21 ⟨hg22, rfl⟩
    refine gv_pureN 1 [15] [(15, (.bool (!r19)))] (by kernel_rfl) ?_
    refine gv_nil <| gv_cond (b := (!r19)) (by kernel_rfl) (fun hc24 => ?_) (fun hc24 => ?_)
    ·replace h2 := ite_t hc24 h2
     refine gv_seq <| gv_region <| gv_pureN 2 [16, 17] [(17, (.int .i64 (IntKind.i64.wrap ((-1) - s10.1))))] (by kernel_rfl) ?_
     refine bindE h2 ?_; clear h2; intro r25 hr26 h2
     refine gv_call0 (by kernel_rfl) rfl (by kernel_rfl) enters12 (ref4_At_ok fuel 6 (IntKind.i64.wrap ((-1) - s10.1)) w21  r25 hr26) ?_
     rintro v29 w27 ⟨hg28, rfl⟩
     have hg34 := (grown_trans hg22 hg28)
     have hk35 := hb15.grown hg34 nb
     refine gv_store0 25 0 (.agg #[(.int .i64 r25.1), (.int .i64 r25.2)]) #[(.int .i64 r25.1), (.int .i64 r25.2)] hk35 (by kernel_rfl) (by kernel_rfl) (by kernel_rfl) ?_
     intro w30 hg31 hb32 hz33
     refine gv_nil <| gv_cret ?_
     have e := sj h2; subst e
     replace h1 := congrArg some (hR2 _ rfl)
     have e := sj h1; subst e
     replace h0 := cont_inr h0
     have e := sj h0; subst e
     refine gv_ret (gv_done [(.agg #[(.int .i64 r25.1), (.int .i64 r25.2)])] rfl ⟨⟨⟨b1, 0, none⟩, (by kernel_rfl), run_loadVar_row w30 b1 _ 25 _ _ _ hb32 Tryd.underlying25 rfl (by kernel_rfl)⟩, trivial⟩ ?_)
     have hB36 := bg hB13 hg34 nb
     have hlo37 : w0.heap.size ≤ b1 := lob hbe5 hB0.size
     have hB38 := bg hB36 hg31 (rowlo hlo37)
     exact ⟨grown_of_below hB38, rfl⟩
    ·replace h2 := ite_f hc24 h2
     refine gv_skip <| gv_blk <| gv_region <| gv_pureN 3 [3, 8, 9] [(3, (.int .i64 (IntKind.i64.wrap (s10.1 + 1))))] (by kernel_rfl) ?_
     refine gv_nil ?_
     have e := sj h2; subst e
     refine gv_goal fun a hd hs hok => ?_
     have hB39 := bg hB13 hg22 nb
     have hz40 := (nt hz14 hg22.size)
     have hk41 := hb15.grown hg22 nb
     exact ⟨((IntKind.i64.wrap (s10.1 + 1)), (s10.2.1, s10.2.2)), rfl, hB39, hz40, hk41, hd, hs, ok_pick [0, 2, 3] hok (by kernel_rfl)⟩
   ·replace h2 := ite_f hc16 h2
    refine gv_cexit <| gv_exit rfl ?_
    have e := sj h2; subst e
    replace h1 := congrArg some (hR2 _ rfl)
    have e := sj h1; subst e
    refine gv_goal fun a hd hs hok => ?_
    have hz42 := hz14
    exact ⟨(s10.2.1, s10.2.2), rfl, hB13, hz42, hb15, hd, hs, ok_pick [2] hok (by kernel_rfl)⟩
 ·rintro a w9 ⟨s8, e, hB43, hz44, hb45, hd, hs, hok⟩
  subst e
  refine gv_in ?_ hd hs hok
  clear hd hs hok
  replace h0 := cont_inl h0
  clear hz44 hz6 hb4 hg3
  refine gv_seq <| gv_region <| gv_pureN 1 [19] [(19, (.agg #[(.int .i64 0), (.int .i64 0)]))] (by kernel_rfl) ?_
  refine gv_store0 25 0 (.agg #[(.int .i64 0), (.int .i64 0)]) #[(.int .i64 0), (.int .i64 0)] hb45 (by kernel_rfl) (by kernel_rfl) (by kernel_rfl) ?_
  intro w46 hg47 hb48 hz49
  refine gv_nil <| gv_cret ?_
  have e := sj h0; subst e
  refine gv_ret (gv_done [(.agg #[(.int .i64 0), (.int .i64 0)])] rfl ⟨⟨⟨b1, 0, none⟩, (by kernel_rfl), run_loadVar_row w46 b1 _ 25 _ _ _ hb48 Tryd.underlying25 rfl (by kernel_rfl)⟩, trivial⟩ ?_)
  have hlo50 : w0.heap.size ≤ b1 := lob hbe5 hB0.size
  have hB51 := bg hB43 hg47 (rowlo hlo50)
  exact ⟨grown_of_below hB51, rfl⟩

theorem ref4_Encoded_ok (fuel : Nat) (pa0_0 : Option Addr) (pc0_0 : Nat) (l_0 : (List Int)) (w0 : World) (X0 : Nat → Prop) (hX0 : ∀ k, X0 k → k < w0.heap.size) (hpa0_0 : Rd (iE .i64) w0 X0 pa0_0 pc0_0 l_0) (r0 : (List UInt8)) (h0 : ref4_Encoded fuel l_0 = some r0) :
    Calls Tryd.prog 48 ([(.slice pa0_0 (List.length l_0) pc0_0)] : List Value).toArray w0 (Ret fun v w' => w0.grownBy w' none ∧ ∃ (a0_0r : Option Addr) (c0_0r : Nat), v = tup [(.slice a0_0r (List.length r0) c0_0r)] ∧ Gv.Own bE 5 w' (fun _ => False) a0_0r c0_0r r0 ∧ (∀ g, blk a0_0r = some g → w0.heap.size ≤ g)) := by
 have hB0 : Below w0.heap.size w0 w0 := Below.refl _ _
 unfold ref4_Encoded at h0
 refine calls_run Tryd.func48 rfl Tryd.ntmps48 (by kernel_rfl) ?_
 refine gv_sub [0] (σ' := [(0, (.slice pa0_0 (List.length l_0) pc0_0))]) (by kernel_rfl) ?_
 refine gv_seq <| gv_region <| gv_pureN 1 [2] [] (by kernel_rfl) ?_
 refine gv_nil <| gv_seq <| gv_region <| gv_pureN 1 [3] [(3, (.slice none (List.length ([] : List UInt8)) 0))] (by kernel_rfl) ?_
 refine gv_nil <| gv_seq <| gv_seq <| gv_region <| gv_pureN 1 [4] [(4, (.int .i64 0))] (by kernel_rfl) ?_
 refine gv_nil <| bindE h0 ?_; clear h0; intro j1 h1 h0
 refine gv_cut_code (J := fun a w2 => ∃ (a3_0j : Option Addr) (c3_0j : Nat), Below w0.heap.size w0 w2 ∧ w0.heap.size ≤ w2.heap.size ∧ Gv.Own bE 5 w2 (fun _ => False) a3_0j c3_0j j1 ∧ (∀ g, blk a3_0j = some g → w0.heap.size ≤ g) ∧ a.defers = [] ∧ a.tmps.size = 79 ∧ Ok [(3, (.slice a3_0j (List.length j1) c3_0j))] a.tmps) ?_ ?_
 ·skip
  refine gv_block <| gv_loop (A := fun (s3 : ((List UInt8) × Int)) a w4 => ∃ (a3_0j : Option Addr) (c3_0j : Nat), Below w0.heap.size w0 w4 ∧ w0.heap.size ≤ w4.heap.size ∧ Gv.Own bE 5 w4 (fun _ => False) a3_0j c3_0j s3.1 ∧ (∀ g, blk a3_0j = some g → w0.heap.size ≤ g) ∧ a.defers = [] ∧ a.tmps.size = 79 ∧ Ok [(0, (.slice pa0_0 (List.length l_0) pc0_0)), (3, (.slice a3_0j (List.length s3.1) c3_0j)), (4, (.int .i64 s3.2))] a.tmps) h1 ?_ ?_
  ·intro a hd hs hok
   exact ⟨none, 0, hB0, (Nat.le_refl _), (Gv.Own.nil bE 5 w0 (fun _ => False)), (fun _ h => by cases h), hd, hs, ok_pick [0, 3, 4] hok (by kernel_rfl)⟩
  ·rintro s3 r2 h2 hR2 a w4 ⟨a7, c8, hB5, hz6, ho9, hl10, hd, hs, hok⟩
   refine gv_in ?_ hd hs hok
   clear hd hs hok
   refine gv_seq <| gv_seq <| gv_region <| gv_pureN 4 [6, 7, 8, 9] [(9, (.bool (decide (s3.2 < ((List.length l_0 : Nat) : Int)))))] (by kernel_rfl) ?_
   refine gv_nil <| gv_cond (b := (decide (s3.2 < ((List.length l_0 : Nat) : Int)))) (by kernel_rfl) (fun hc11 => ?_) (fun hc11 => ?_)
   ·replace h2 := ite_t hc11 h2
    refine gv_skip <| gv_seq <| gv_block <| gv_seq <| gv_region <| gv_pureN 2 [12, 13] [(12, (.slice pa0_0 (List.length l_0) pc0_0)), (13, (.int .i64 s3.2))] (by kernel_rfl) ?_
    refine bindE h2 ?_; clear h2; intro x12 hx13 h2
    refine gv_idxaddr (t := 45) (e := 3) (a := pa0_0) (len := List.length l_0) (cap := pc0_0) (kk := .i64) (i := s3.2) (sz := 1) [] (fun e => by cases e) rfl rfl rfl (by kernel_rfl) (by kernel_rfl) Tryd.underlying45 (by kernel_rfl) ((hpa0_0.below hB5 hX0).has hx13) (idx_spec hx13).1 (idx_spec hx13).2.1 rfl ?_
    refine gv_load (t := 3) (A := (elemAddr pa0_0 ((s3.2 : Int).toNat * 1))) (.int .i64 x12) [] (fun e => by cases e) rfl rfl rfl (by kernel_rfl) (by kernel_rfl) (by kernel_rfl) (inw0 ((hpa0_0.below hB5 hX0).cell hx13)) rfl ?_
    refine gv_pureN 1 [5] [(5, (.int .i64 x12))] (by kernel_rfl) ?_
    refine gv_nil <| gv_block <| gv_seq <| gv_region <| gv_pureN 3 [37, 38, 39] [(37, (.bool (decide (x12 < 128))))] (by kernel_rfl) ?_
    refine gv_nil <| bindE h2 ?_; clear h2; intro j14 h3 h2
    refine gv_cut_code (J := fun a w15 => ∃ (a3_0j : Option Addr) (c3_0j : Nat), Below w0.heap.size w0 w15 ∧ w4.heap.size ≤ w15.heap.size ∧ Gv.Own bE 5 w15 (fun _ => False) a3_0j c3_0j j14 ∧ (∀ g, blk a3_0j = some g → w0.heap.size ≤ g) ∧ a.defers = [] ∧ a.tmps.size = 79 ∧ Ok [(0, (.slice pa0_0 (List.length l_0) pc0_0)), (3, (.slice a3_0j (List.length j14) c3_0j)), (4, (.int .i64 s3.2))] a.tmps) ?_ ?_
    ·skip
     refine gv_cond (b := (decide (x12 < 128))) (by kernel_rfl) (fun hc16 => ?_) (fun hc16 => ?_)
     ·replace h3 := ite_t hc16 h3
      refine gv_region <| gv_pureN 3 [40, 41, 42] [(40, (.slice a7 (List.length s3.1) c8)), (42, (.int .u8 (IntKind.u8.wrap (x12))))] (by kernel_rfl) ?_
      refine bindE h3 ?_; clear h3; intro b17 hb18 h3
      have hu19 := u8_spec hb18
      refine gv_new0 (fun b => .slice (some ⟨b, 0, none⟩) 1 1) #[(.int .u8 (IntKind.u8.wrap (x12)))] 5 (by kernel_rfl) (by kernel_rfl) ?_
      intro b20 w21 hg22 hb23 hbe24 hz25
      have ho26 : Gv.Own bE 5 w21 (fun _ => False) (some ⟨b20, 0, none⟩) 1 ([b17] : List UInt8) := Box.ownE hb23 ⟨[(.int .u8 (IntKind.u8.wrap (x12)))], [], rfl, (by simp only [bE, flat, hu19]), rfl⟩ (show 1 ≤ maxLen by decide) (fun h => h)
      have hl27 : ∀ g, blk (some ⟨b20, 0, none⟩) = some g → w0.heap.size ≤ g := loo hbe24 hB5.size
      refine bindE h3 ?_; clear h3; intro l31 hx32 h3
      have hk39 := ho9.grown hg22 (fun _ h => h.elim) nb
      refine gv_append bE (t := 22) (ty := 22) (e := 5) (a := a7) (ax := (some ⟨b20, 0, none⟩)) (cap := c8) (cx := 1) (xs := s3.1) (ys := ([b17] : List UInt8)) l31 (X := (fun _ => False)) (Y := (fun k => blk (some ⟨b20, 0, none⟩) = some k)) (by decide) rfl rfl (by kernel_rfl) (by kernel_rfl) Tryd.underlying22 info5 hk39 (ho26.rd (Y := fun k => blk (some ⟨b20, 0, none⟩) = some k) (fun _ h => h.elim) (fun g e => e)) hx32 (.inr fun _ _ _ _ _ h => h) (fun _ h => h.elim) ?_
      intro a33 c34 w35 hg36 ho37 hk38
      refine ⟨(fun e => by cases e), ?_⟩
      have hB41 := bg hB5 hg22 nb
      have hl40 : ∀ g, blk a33 = some g → w0.heap.size ≤ g := blk_step hk38 hl10 hB41.size
      have ap43 : ∀ g, blk a7 = some g → ¬ (fun k => blk (some ⟨b20, 0, none⟩) = some k) g := fun g e hx => nl ((lowo hbe24) _ hx) ((fun k (hk : blk a7 = some k) => ho9.lt k hk) g e)
      have ap42 : ∀ g, blk a33 = some g → ¬ (fun k => blk (some ⟨b20, 0, none⟩) = some k) g := blk_neX hk38 ap43 (fun k (hk : blk (some ⟨b20, 0, none⟩) = some k) => ho26.lt k hk)
      have ap45 : ∀ g, blk (some ⟨b20, 0, none⟩) = some g → ¬ (fun k => blk a7 = some k) g := fun g e hx => nl ((lowo hbe24) g e) ((fun k (hk : blk a7 = some k) => ho9.lt k hk) _ hx)
      have ap44 : ∀ g, blk (some ⟨b20, 0, none⟩) = some g → ¬ (fun k => blk a33 = some k) g := fun g e h => blk_rev hk38 (fun h => ((ap45) g e) h) (ho26.lt g e) h
      refine gv_pureN 1 [3] [(3, (.slice a33 (List.length l31) c34))] (by kernel_rfl) ?_
      refine gv_nil ?_
      have e := sj h3; subst e
      refine gv_goal fun a hd hs hok => ?_
      have hB46 := bg hB41 hg36 hl10
      have hz47 := (nt hg22.size hg36.size)
      exact ⟨a33, c34, hB46, hz47, ho37, hl40, hd, hs, ok_pick [0, 3, 4] hok (by kernel_rfl)⟩
     ·replace h3 := ite_f hc16 h3
      refine gv_seq <| gv_region <| gv_pureN 3 [45, 46, 47] [(45, (.bool (decide (x12 < 2048))))] (by kernel_rfl) ?_
      refine gv_nil <| gv_cond (b := (decide (x12 < 2048))) (by kernel_rfl) (fun hc48 => ?_) (fun hc48 => ?_)
      ·replace h3 := ite_t hc48 h3
       refine gv_region <| gv_pureN 9 [48, 49, 50, 51, 52, 53, 54, 55, 56] [(48, (.slice a7 (List.length s3.1) c8)), (52, (.int .u8 (IntKind.u8.wrap ((IntKind.i64.wrap (192 + (IntKind.i64.wrap ((x12).tdiv 64)))))))), (56, (.int .u8 (IntKind.u8.wrap ((IntKind.i64.wrap (128 + ((x12).tmod 64)))))))] (by kernel_rfl) ?_
       refine bindE h3 ?_; clear h3; intro b49 hb50 h3
       have hu51 := u8_spec hb50
       refine bindE h3 ?_; clear h3; intro b52 hb53 h3
       have hu54 := u8_spec hb53
       refine gv_new0 (fun b => .slice (some ⟨b, 0, none⟩) 2 2) #[(.int .u8 (IntKind.u8.wrap ((IntKind.i64.wrap (192 + (IntKind.i64.wrap ((x12).tdiv 64))))))), (.int .u8 (IntKind.u8.wrap ((IntKind.i64.wrap (128 + ((x12).tmod 64))))))] 5 (by kernel_rfl) (by kernel_rfl) ?_
       intro b55 w56 hg57 hb58 hbe59 hz60
       have ho61 : Gv.Own bE 5 w56 (fun _ => False) (some ⟨b55, 0, none⟩) 2 ([b49, b52] : List UInt8) := Box.ownE hb58 ⟨[(.int .u8 (IntKind.u8.wrap ((IntKind.i64.wrap (192 + (IntKind.i64.wrap ((x12).tdiv 64)))))))], [(.int .u8 (IntKind.u8.wrap ((IntKind.i64.wrap (128 + ((x12).tmod 64))))))], rfl, (by simp only [bE, flat, hu51]), ⟨[(.int .u8 (IntKind.u8.wrap ((IntKind.i64.wrap (128 + ((x12).tmod 64))))))], [], rfl, (by simp only [bE, flat, hu54]), rfl⟩⟩ (show 2 ≤ maxLen by decide) (fun h => h)
       have hl62 : ∀ g, blk (some ⟨b55, 0, none⟩) = some g → w0.heap.size ≤ g := loo hbe59 hB5.size
       refine bindE h3 ?_; clear h3; intro l66 hx67 h3
       have hk74 := ho9.grown hg57 (fun _ h => h.elim) nb
       refine gv_append bE (t := 22) (ty := 22) (e := 5) (a := a7) (ax := (some ⟨b55, 0, none⟩)) (cap := c8) (cx := 2) (xs := s3.1) (ys := ([b49, b52] : List UInt8)) l66 (X := (fun _ => False)) (Y := (fun k => blk (some ⟨b55, 0, none⟩) = some k)) (by decide) rfl rfl (by kernel_rfl) (by kernel_rfl) Tryd.underlying22 info5 hk74 (ho61.rd (Y := fun k => blk (some ⟨b55, 0, none⟩) = some k) (fun _ h => h.elim) (fun g e => e)) hx67 (.inr fun _ _ _ _ _ h => h) (fun _ h => h.elim) ?_
       intro a68 c69 w70 hg71 ho72 hk73
       refine ⟨(fun e => by cases e), ?_⟩
       have hB76 := bg hB5 hg57 nb
       have hl75 : ∀ g, blk a68 = some g → w0.heap.size ≤ g := blk_step hk73 hl10 hB76.size
       have ap78 : ∀ g, blk a7 = some g → ¬ (fun k => blk (some ⟨b55, 0, none⟩) = some k) g := fun g e hx => nl ((lowo hbe59) _ hx) ((fun k (hk : blk a7 = some k) => ho9.lt k hk) g e)
       have ap77 : ∀ g, blk a68 = some g → ¬ (fun k => blk (some ⟨b55, 0, none⟩) = some k) g := blk_neX hk73 ap78 (fun k (hk : blk (some ⟨b55, 0, none⟩) = some k) => ho61.lt k hk)
       have ap80 : ∀ g, blk (some ⟨b55, 0, none⟩) = some g → ¬ (fun k => blk a7 = some k) g := fun g e hx => nl ((lowo hbe59) g e) ((fun k (hk : blk a7 = some k) => ho9.lt k hk) _ hx)
       have ap79 : ∀ g, blk (some ⟨b55, 0, none⟩) = some g → ¬ (fun k => blk a68 = some k) g := fun g e h => blk_rev hk73 (fun h => ((ap80) g e) h) (ho61.lt g e) h
       refine gv_pureN 1 [3] [(3, (.slice a68 (List.length l66) c69))] (by kernel_rfl) ?_
       refine gv_nil ?_
       have e := sj h3; subst e
       refine gv_goal fun a hd hs hok => ?_
       have hB81 := bg hB76 hg71 hl10
       have hz82 := (nt hg57.size hg71.size)
       exact ⟨a68, c69, hB81, hz82, ho72, hl75, hd, hs, ok_pick [0, 3, 4] hok (by kernel_rfl)⟩
      ·replace h3 := ite_f hc48 h3
       refine gv_seq <| gv_region <| gv_pureN 3 [59, 60, 61] [(59, (.bool (decide (x12 < 65536))))] (by kernel_rfl) ?_
       refine gv_nil <| gv_cond (b := (decide (x12 < 65536))) (by kernel_rfl) (fun hc83 => ?_) (fun hc83 => ?_)
       ·replace h3 := ite_t hc83 h3
        refine gv_region <| gv_pureN 14 [62, 63, 64, 65, 66, 67, 68, 69, 70, 71, 72, 73, 74, 75] [(62, (.slice a7 (List.length s3.1) c8)), (66, (.int .u8 (IntKind.u8.wrap ((IntKind.i64.wrap (224 + (IntKind.i64.wrap ((x12).tdiv 4096)))))))), (71, (.int .u8 (IntKind.u8.wrap ((IntKind.i64.wrap (128 + (((IntKind.i64.wrap ((x12).tdiv 64))).tmod 64))))))), (75, (.int .u8 (IntKind.u8.wrap ((IntKind.i64.wrap (128 + ((x12).tmod 64)))))))] (by kernel_rfl) ?_
        refine bindE h3 ?_; clear h3; intro b84 hb85 h3
        have hu86 := u8_spec hb85
        refine bindE h3 ?_; clear h3; intro b87 hb88 h3
        have hu89 := u8_spec hb88
        refine bindE h3 ?_; clear h3; intro b90 hb91 h3
        have hu92 := u8_spec hb91
        refine gv_new0 (fun b => .slice (some ⟨b, 0, none⟩) 3 3) #[(.int .u8 (IntKind.u8.wrap ((IntKind.i64.wrap (224 + (IntKind.i64.wrap ((x12).tdiv 4096))))))), (.int .u8 (IntKind.u8.wrap ((IntKind.i64.wrap (128 + (((IntKind.i64.wrap ((x12).tdiv 64))).tmod 64)))))), (.int .u8 (IntKind.u8.wrap ((IntKind.i64.wrap (128 + ((x12).tmod 64))))))] 5 (by kernel_rfl) (by kernel_rfl) ?_
        intro b93 w94 hg95 hb96 hbe97 hz98
        have ho99 : Gv.Own bE 5 w94 (fun _ => False) (some ⟨b93, 0, none⟩) 3 ([b84, b87, b90] : List UInt8) := Box.ownE hb96 ⟨[(.int .u8 (IntKind.u8.wrap ((IntKind.i64.wrap (224 + (IntKind.i64.wrap ((x12).tdiv 4096)))))))], [(.int .u8 (IntKind.u8.wrap ((IntKind.i64.wrap (128 + (((IntKind.i64.wrap ((x12).tdiv 64))).tmod 64)))))), (.int .u8 (IntKind.u8.wrap ((IntKind.i64.wrap (128 + ((x12).tmod 64))))))], rfl, (by simp only [bE, flat, hu86]), ⟨[(.int .u8 (IntKind.u8.wrap ((IntKind.i64.wrap (128 + (((IntKind.i64.wrap ((x12).tdiv 64))).tmod 64))))))], [(.int .u8 (IntKind.u8.wrap ((IntKind.i64.wrap (128 + ((x12).tmod 64))))))], rfl, (by simp only [bE, flat, hu89]), ⟨[(.int .u8 (IntKind.u8.wrap ((IntKind.i64.wrap (128 + ((x12).tmod 64))))))], [], rfl, (by simp only [bE, flat, hu92]), rfl⟩⟩⟩ (show 3 ≤ maxLen by decide) (fun h => h)
        have hl100 : ∀ g, blk (some ⟨b93, 0, none⟩) = some g → w0.heap.size ≤ g := loo hbe97 hB5.size
        refine bindE h3 ?_; clear h3; intro l104 hx105 h3
        have hk112 := ho9.grown hg95 (fun _ h => h.elim) nb
        refine gv_append bE (t := 22) (ty := 22) (e := 5) (a := a7) (ax := (some ⟨b93, 0, none⟩)) (cap := c8) (cx := 3) (xs := s3.1) (ys := ([b84, b87, b90] : List UInt8)) l104 (X := (fun _ => False)) (Y := (fun k => blk (some ⟨b93, 0, none⟩) = some k)) (by decide) rfl rfl (by kernel_rfl) (by kernel_rfl) Tryd.underlying22 info5 hk112 (ho99.rd (Y := fun k => blk (some ⟨b93, 0, none⟩) = some k) (fun _ h => h.elim) (fun g e => e)) hx105 (.inr fun _ _ _ _ _ h => h) (fun _ h => h.elim) ?_
        intro a106 c107 w108 hg109 ho110 hk111
        refine ⟨(fun e => by cases e), ?_⟩
        have hB114 := bg hB5 hg95 nb
        have hl113 : ∀ g, blk a106 = some g → w0.heap.size ≤ g := blk_step hk111 hl10 hB114.size
        have ap116 : ∀ g, blk a7 = some g → ¬ (fun k => blk (some ⟨b93, 0, none⟩) = some k) g := fun g e hx => nl ((lowo hbe97) _ hx) ((fun k (hk : blk a7 = some k) => ho9.lt k hk) g e)
        have ap115 : ∀ g, blk a106 = some g → ¬ (fun k => blk (some ⟨b93, 0, none⟩) = some k) g := blk_neX hk111 ap116 (fun k (hk : blk (some ⟨b93, 0, none⟩) = some k) => ho99.lt k hk)
        have ap118 : ∀ g, blk (some ⟨b93, 0, none⟩) = some g → ¬ (fun k => blk a7 = some k) g := fun g e hx => nl ((lowo hbe97) g e) ((fun k (hk : blk a7 = some k) => ho9.lt k hk) _ hx)
        have ap117 : ∀ g, blk (some ⟨b93, 0, none⟩) = some g → ¬ (fun k => blk a106 = some k) g := fun g e h => blk_rev hk111 (fun h => ((ap118) g e) h) (ho99.lt g e) h
        refine gv_pureN 1 [3] [(3, (.slice a106 (List.length l104) c107))] (by kernel_rfl) ?_
        refine gv_nil ?_
        have e := sj h3; subst e
        refine gv_goal fun a hd hs hok => ?_
        have hB119 := bg hB114 hg109 hl10
        have hz120 := (nt hg95.size hg109.size)
        exact ⟨a106, c107, hB119, hz120, ho110, hl113, hd, hs, ok_pick [0, 3, 4] hok (by kernel_rfl)⟩
       ·replace h3 := ite_f hc83 h3
        refine gv_region <| gv_pureN 19 [16, 17, 18, 19, 20, 21, 22, 23, 24, 25, 26, 27, 28, 29, 30, 31, 32, 33, 34] [(16, (.slice a7 (List.length s3.1) c8)), (20, (.int .u8 (IntKind.u8.wrap ((IntKind.i64.wrap (240 + (IntKind.i64.wrap ((x12).tdiv 262144)))))))), (25, (.int .u8 (IntKind.u8.wrap ((IntKind.i64.wrap (128 + (((IntKind.i64.wrap ((x12).tdiv 4096))).tmod 64))))))), (30, (.int .u8 (IntKind.u8.wrap ((IntKind.i64.wrap (128 + (((IntKind.i64.wrap ((x12).tdiv 64))).tmod 64))))))), (34, (.int .u8 (IntKind.u8.wrap ((IntKind.i64.wrap (128 + ((x12).tmod 64)))))))] (by kernel_rfl) ?_
        refine bindE h3 ?_; clear h3; intro b121 hb122 h3
        have hu123 := u8_spec hb122
        refine bindE h3 ?_; clear h3; intro b124 hb125 h3
        have hu126 := u8_spec hb125
        refine bindE h3 ?_; clear h3; intro b127 hb128 h3
        have hu129 := u8_spec hb128
        refine bindE h3 ?_; clear h3; intro b130 hb131 h3
        have hu132 := u8_spec hb131
        refine gv_new0 (fun b => .slice (some ⟨b, 0, none⟩) 4 4) #[(.int .u8 (IntKind.u8.wrap ((IntKind.i64.wrap (240 + (IntKind.i64.wrap ((x12).tdiv 262144))))))), (.int .u8 (IntKind.u8.wrap ((IntKind.i64.wrap (128 + (((IntKind.i64.wrap ((x12).tdiv 4096))).tmod 64)))))), (.int .u8 (IntKind.u8.wrap ((IntKind.i64.wrap (128 + (((IntKind.i64.wrap ((x12).tdiv 64))).tmod 64)))))), (.int .u8 (IntKind.u8.wrap ((IntKind.i64.wrap (128 + ((x12).tmod 64))))))] 5 (by kernel_rfl) (by kernel_rfl) ?_
        intro b133 w134 hg135 hb136 hbe137 hz138
        have ho139 : Gv.Own bE 5 w134 (fun _ => False) (some ⟨b133, 0, none⟩) 4 ([b121, b124, b127, b130] : List UInt8) := Box.ownE hb136 ⟨[(.int .u8 (IntKind.u8.wrap ((IntKind.i64.wrap (240 + (IntKind.i64.wrap ((x12).tdiv 262144)))))))], [(.int .u8 (IntKind.u8.wrap ((IntKind.i64.wrap (128 + (((IntKind.i64.wrap ((x12).tdiv 4096))).tmod 64)))))), (.int .u8 (IntKind.u8.wrap ((IntKind.i64.wrap (128 + (((IntKind.i64.wrap ((x12).tdiv 64))).tmod 64)))))), (.int .u8 (IntKind.u8.wrap ((IntKind.i64.wrap (128 + ((x12).tmod 64))))))], rfl, (by simp only [bE, flat, hu123]), ⟨[(.int .u8 (IntKind.u8.wrap ((IntKind.i64.wrap (128 + (((IntKind.i64.wrap ((x12).tdiv 4096))).tmod 64))))))], [(.int .u8 (IntKind.u8.wrap ((IntKind.i64.wrap (128 + (((IntKind.i64.wrap ((x12).tdiv 64))).tmod 64)))))), (.int .u8 (IntKind.u8.wrap ((IntKind.i64.wrap (128 + ((x12).tmod 64))))))], rfl, (by simp only [bE, flat, hu126]), ⟨[(.int .u8 (IntKind.u8.wrap ((IntKind.i64.wrap (128 + (((IntKind.i64.wrap ((x12).tdiv 64))).tmod 64))))))], [(.int .u8 (IntKind.u8.wrap ((IntKind.i64.wrap (128 + ((x12).tmod 64))))))], rfl, (by simp only [bE, flat, hu129]), ⟨[(.int .u8 (IntKind.u8.wrap ((IntKind.i64.wrap (128 + ((x12).tmod 64))))))], [], rfl, (by simp only [bE, flat, hu132]), rfl⟩⟩⟩⟩ (show 4 ≤ maxLen by decide) (fun h => h)
        have hl140 : ∀ g, blk (some ⟨b133, 0, none⟩) = some g → w0.heap.size ≤ g := loo hbe137 hB5.size
        refine bindE h3 ?_; clear h3; intro l144 hx145 h3
        have hk152 := ho9.grown hg135 (fun _ h => h.elim) nb
        refine gv_append bE (t := 22) (ty := 22) (e := 5) (a := a7) (ax := (some ⟨b133, 0, none⟩)) (cap := c8) (cx := 4) (xs := s3.1) (ys := ([b121, b124, b127, b130] : List UInt8)) l144 (X := (fun _ => False)) (Y := (fun k => blk (some ⟨b133, 0, none⟩) = some k)) (by decide) rfl rfl (by kernel_rfl) (by kernel_rfl) Tryd.underlying22 info5 hk152 (ho139.rd (Y := fun k => blk (some ⟨b133, 0, none⟩) = some k) (fun _ h => h.elim) (fun g e => e)) hx145 (.inr fun _ _ _ _ _ h => h) (fun _ h => h.elim) ?_
        intro a146 c147 w148 hg149 ho150 hk151
        refine ⟨(fun e => by cases e), ?_⟩
        have hB154 := bg hB5 hg135 nb
        have hl153 : ∀ g, blk a146 = some g → w0.heap.size ≤ g := blk_step hk151 hl10 hB154.size
        have ap156 : ∀ g, blk a7 = some g → ¬ (fun k => blk (some ⟨b133, 0, none⟩) = some k) g := fun g e hx => nl ((lowo hbe137) _ hx) ((fun k (hk : blk a7 = some k) => ho9.lt k hk) g e)
        have ap155 : ∀ g, blk a146 = some g → ¬ (fun k => blk (some ⟨b133, 0, none⟩) = some k) g := blk_neX hk151 ap156 (fun k (hk : blk (some ⟨b133, 0, none⟩) = some k) => ho139.lt k hk)
        have ap158 : ∀ g, blk (some ⟨b133, 0, none⟩) = some g → ¬ (fun k => blk a7 = some k) g := fun g e hx => nl ((lowo hbe137) g e) ((fun k (hk : blk a7 = some k) => ho9.lt k hk) _ hx)
        have ap157 : ∀ g, blk (some ⟨b133, 0, none⟩) = some g → ¬ (fun k => blk a146 = some k) g := fun g e h => blk_rev hk151 (fun h => ((ap158) g e) h) (ho139.lt g e) h
        have hz159 := (nt hg135.size hg149.size)
        clear ap157 ap158 ap155 ap156 hk151 hk152 hx145 hl140 ho139 hz138 hbe137 hb136 hg135 hu132 hb131 hu129 hb128 hu126 hb125 hu123 hb122 hc83 hc48 hc16 hx13 hc11 ho9 hB5
        refine gv_pureN 1 [3] [(3, (.slice a146 (List.length l144) c147))] (by kernel_rfl) ?_
        refine gv_nil ?_
        have e := sj h3; subst e
        refine gv_goal fun a hd hs hok => ?_
        have hB160 := bg hB154 hg149 hl10
        have hz161 := hz159
        exact ⟨a146, c147, hB160, hz161, ho150, hl153, hd, hs, ok_pick [0, 3, 4] hok (by kernel_rfl)⟩
    ·rintro a w15 ⟨a164, c165, hB162, hz163, ho166, hl167, hd, hs, hok⟩
     refine gv_in ?_ hd hs hok
     clear hd hs hok
     have hz168 := (nt hz6 hz163)
     clear hz163 hx13 hc11 hl10 ho9 hz6 hB5
     refine gv_blk <| gv_blk <| gv_region <| gv_pureN 3 [4, 10, 11] [(4, (.int .i64 (IntKind.i64.wrap (s3.2 + 1))))] (by kernel_rfl) ?_
     refine gv_nil ?_
     have e := sj h2; subst e
     refine gv_goal fun a hd hs hok => ?_
     have hz169 := hz168
     exact ⟨(j14, (IntKind.i64.wrap (s3.2 + 1))), rfl, a164, c165, hB162, hz169, ho166, hl167, hd, hs, ok_pick [0, 3, 4] hok (by kernel_rfl)⟩
   ·replace h2 := ite_f hc11 h2
    refine gv_cexit <| gv_exit rfl ?_
    have e := sj h2; subst e
    replace h1 := congrArg some (hR2 _ rfl)
    have e := sj h1; subst e
    refine gv_goal fun a hd hs hok => ?_
    have hz170 := hz6
    exact ⟨a7, c8, hB5, hz170, ho9, hl10, hd, hs, ok_pick [3] hok (by kernel_rfl)⟩
 ·rintro a w2 ⟨a173, c174, hB171, hz172, ho175, hl176, hd, hs, hok⟩
  refine gv_in ?_ hd hs hok
  clear hd hs hok
  refine gv_seq <| gv_region <| gv_pureN 2 [2, 78] [(2, (.slice a173 (List.length j1) c174))] (by kernel_rfl) ?_
  refine gv_nil <| gv_cret ?_
  have e := sj h0; subst e
  refine gv_ret (gv_done [(.slice a173 (List.length j1) c174)] rfl ⟨(by kernel_rfl), trivial⟩ ?_)
  exact ⟨grown_of_below hB171, a173, c174, rfl, ho175, hl176⟩

theorem ref4_Coded_ok (fuel : Nat) (pa0_0 : Option Addr) (pc0_0 : Nat) (l_0 : (List Int)) (coding_1 : Int) (w0 : World) (X0 : Nat → Prop) (hX0 : ∀ k, X0 k → k < w0.heap.size) (hpa0_0 : Rd (iE .i64) w0 X0 pa0_0 pc0_0 l_0) (r0 : ((List UInt8) × Int)) (h0 : ref4_Coded fuel l_0 coding_1 = some r0) :
    Calls Tryd.prog 26 ([(.slice pa0_0 (List.length l_0) pc0_0), (.int .i64 coding_1)] : List Value).toArray w0 (Ret fun v w' => w0.grownBy w' none ∧ ∃ (a0_0r : Option Addr) (c0_0r : Nat), v = tup [(.slice a0_0r (List.length r0.1) c0_0r), (.int .i64 r0.2)] ∧ Gv.Own bE 5 w' (fun _ => False) a0_0r c0_0r r0.1 ∧ (∀ g, blk a0_0r = some g → w0.heap.size ≤ g)) := by
 have hB0 : Below w0.heap.size w0 w0 := Below.refl _ _
 unfold ref4_Coded at h0
 refine calls_run Tryd.func26 rfl Tryd.ntmps26 (by kernel_rfl) ?_
 refine gv_sub [0, 1] (σ' := [(0, (.slice pa0_0 (List.length l_0) pc0_0)), (1, (.int .i64 coding_1))]) (by kernel_rfl) ?_
 refine gv_seq <| gv_region <| gv_pureN 2 [4, 5] [] (by kernel_rfl) ?_
 refine gv_nil <| gv_seq <| gv_seq <| gv_region <| gv_pureN 2 [9, 10] [(10, (.bool (coding_1 == 0)))] (by kernel_rfl) ?_
 refine gv_nil <| gv_cond (b := (coding_1 == 0)) (by kernel_rfl) (fun hc1 => ?_) (fun hc1 => ?_)
 ·replace h0 := ite_t hc1 h0
  refine gv_seq <| gv_region <| gv_pureN 1 [11] [(11, (.slice pa0_0 (List.length l_0) pc0_0))] (by kernel_rfl) ?_
  refine bindE h0 ?_; clear h0; intro r2 hr3 h0
  refine gv_call0 (by kernel_rfl) rfl (by kernel_rfl) enters48 (ref4_Encoded_ok fuel pa0_0 pc0_0 l_0 w0 (fun k => X0 k) (fun k hk => (fun k (hk : X0 k) => ltl (hX0 k hk) hB0.size) k hk) ((hpa0_0.below hB0 hX0).wide (fun k hk => hk)) r2 hr3) ?_
  rintro v6 w4 ⟨hg5, a7, c8, rfl, ho9, hl10⟩
  have hl11 : ∀ g, blk a7 = some g → w0.heap.size ≤ g := fun g e => Nat.le_trans hB0.size (hl10 g e)
  refine gv_pureN 2 [4, 5] [(4, (.slice a7 (List.length r2) c8)), (5, (.int .i64 (-1)))] (by kernel_rfl) ?_
  refine gv_nil <| gv_cret ?_
  have e := sj h0; subst e
  refine gv_ret (gv_done [(.slice a7 (List.length r2) c8), (.int .i64 (-1))] rfl ⟨(by kernel_rfl), (by kernel_rfl), trivial⟩ ?_)
  have hB12 := bg hB0 hg5 nb
  exact ⟨grown_of_below hB12, a7, c8, rfl, ho9, hl11⟩
 ·replace h0 := ite_f hc1 h0
  refine gv_skip <| gv_seq <| gv_region <| gv_pureN 1 [6] [(6, (.slice none (List.length ([] : List UInt8)) 0))] (by kernel_rfl) ?_
  refine gv_nil <| gv_seq <| gv_seq <| gv_region <| gv_pureN 1 [7] [(7, (.int .i64 0))] (by kernel_rfl) ?_
  refine gv_nil <| bindE h0 ?_; clear h0; intro j13 h1 h0
  refine gv_cut_code (J := fun a w15 => ∃ s14 : (List UInt8), j13 = .inl s14 ∧ ∃ (a6_0j : Option Addr) (c6_0j : Nat), Below w0.heap.size w0 w15 ∧ w0.heap.size ≤ w15.heap.size ∧ Gv.Own bE 5 w15 (fun _ => False) a6_0j c6_0j s14 ∧ (∀ g, blk a6_0j = some g → w0.heap.size ≤ g) ∧ a.defers = [] ∧ a.tmps.size = 75 ∧ Ok [(6, (.slice a6_0j (List.length s14) c6_0j))] a.tmps) ?_ ?_
  ·skip
   refine gv_block <| gv_loop (A := fun (s16 : ((List UInt8) × Int)) a w17 => ∃ (a6_0j : Option Addr) (c6_0j : Nat), Below w0.heap.size w0 w17 ∧ w0.heap.size ≤ w17.heap.size ∧ Gv.Own bE 5 w17 (fun _ => False) a6_0j c6_0j s16.1 ∧ (∀ g, blk a6_0j = some g → w0.heap.size ≤ g) ∧ a.defers = [] ∧ a.tmps.size = 75 ∧ Ok [(0, (.slice pa0_0 (List.length l_0) pc0_0)), (1, (.int .i64 coding_1)), (6, (.slice a6_0j (List.length s16.1) c6_0j)), (7, (.int .i64 s16.2))] a.tmps) h1 ?_ ?_
   ·intro a hd hs hok
    exact ⟨none, 0, hB0, (Nat.le_refl _), (Gv.Own.nil bE 5 w0 (fun _ => False)), (fun _ h => by cases h), hd, hs, ok_pick [0, 1, 6, 7] hok (by kernel_rfl)⟩
   ·rintro s16 r2 h2 hR2 a w17 ⟨a20, c21, hB18, hz19, ho22, hl23, hd, hs, hok⟩
    refine gv_in ?_ hd hs hok
    clear hd hs hok
    refine gv_seq <| gv_seq <| gv_region <| gv_pureN 4 [13, 14, 15, 16] [(16, (.bool (decide (s16.2 < ((List.length l_0 : Nat) : Int)))))] (by kernel_rfl) ?_
    refine gv_nil <| gv_cond (b := (decide (s16.2 < ((List.length l_0 : Nat) : Int)))) (by kernel_rfl) (fun hc24 => ?_) (fun hc24 => ?_)
    ·replace h2 := ite_t hc24 h2
     refine gv_skip <| gv_seq <| gv_block <| gv_seq <| gv_region <| gv_pureN 2 [19, 20] [(19, (.slice pa0_0 (List.length l_0) pc0_0)), (20, (.int .i64 s16.2))] (by kernel_rfl) ?_
     refine bindE h2 ?_; clear h2; intro x25 hx26 h2
     refine gv_idxaddr (t := 45) (e := 3) (a := pa0_0) (len := List.length l_0) (cap := pc0_0) (kk := .i64) (i := s16.2) (sz := 1) [] (fun e => by cases e) rfl rfl rfl (by kernel_rfl) (by kernel_rfl) Tryd.underlying45 (by kernel_rfl) ((hpa0_0.below hB18 hX0).has hx26) (idx_spec hx26).1 (idx_spec hx26).2.1 rfl ?_
     refine gv_load (t := 3) (A := (elemAddr pa0_0 ((s16.2 : Int).toNat * 1))) (.int .i64 x25) [] (fun e => by cases e) rfl rfl rfl (by kernel_rfl) (by kernel_rfl) (by kernel_rfl) (inw0 ((hpa0_0.below hB18 hX0).cell hx26)) rfl ?_
     refine gv_pureN 1 [8] [(8, (.int .i64 x25))] (by kernel_rfl) ?_
     refine gv_nil <| gv_block <| gv_seq <| gv_region <| gv_cut_ops (J := fun a w27 => w17 = w27 ∧ a.defers = [] ∧ a.tmps.size = 75 ∧ Ok [(0, (.slice pa0_0 (List.length l_0) pc0_0)), (1, (.int .i64 coding_1)), (6, (.slice a20 (List.length s16.1) c21)), (7, (.int .i64 s16.2)), (8, (.int .i64 x25)), (46, (.bool ((coding_1 == 1) && (decide (x25 > 255)))))] a.tmps) ?_ ?_
     ·skip
      refine gv_pureN 3 [47, 48, 49] [(49, (.bool (coding_1 == 1)))] (by kernel_rfl) ?_
      refine gv_split (s := 49) (g := (coding_1 == 1)) (by kernel_rfl) (fun hc28 => ?_) (fun hc28 => ?_)
      ·skip
       refine gv_pureN 4 [46, 50, 51, 52] [(46, (.bool (decide (x25 > 255))))] (by kernel_rfl) ?_
       refine gv_nil <| gv_sub [0, 1, 6, 7, 8, 46] (σ' := [(0, (.slice pa0_0 (List.length l_0) pc0_0)), (1, (.int .i64 coding_1)), (6, (.slice a20 (List.length s16.1) c21)), (7, (.int .i64 s16.2)), (8, (.int .i64 x25)), (46, (.bool (decide (x25 > 255))))]) (by kernel_rfl) ?_
       refine gv_goal fun a hd hs hok => ⟨rfl, hd, hs, ?_⟩
       obtain ⟨q0, q1, q6, q7, q8, q46, _⟩ := hok
       exact ⟨q0, q1, q6, q7, q8, (by rw [hc28]; exact q46), trivial⟩
      ·skip
       refine gv_pureN 4 [46, 50, 51, 52] [(46, (.bool false))] (by kernel_rfl) ?_
       refine gv_nil <| gv_sub [0, 1, 6, 7, 8, 46] (σ' := [(0, (.slice pa0_0 (List.length l_0) pc0_0)), (1, (.int .i64 coding_1)), (6, (.slice a20 (List.length s16.1) c21)), (7, (.int .i64 s16.2)), (8, (.int .i64 x25)), (46, (.bool false))]) (by kernel_rfl) ?_
       refine gv_goal fun a hd hs hok => ⟨rfl, hd, hs, ?_⟩
       obtain ⟨q0, q1, q6, q7, q8, q46, _⟩ := hok
       exact ⟨q0, q1, q6, q7, q8, (by rw [hc28]; exact q46), trivial⟩
     ·rintro a w27 ⟨e, hd, hs, hok⟩; subst e
      refine gv_in ?_ hd hs hok
      clear hd hs hok
      refine gv_cond (b := ((coding_1 == 1) && (decide (x25 > 255)))) (by kernel_rfl) (fun hc29 => ?_) (fun hc29 => ?_)
      ·replace h2 := ite_t hc29 h2
       refine gv_seq <| gv_region <| gv_pureN 3 [4, 5, 53] [(4, (.slice none (List.length ([] : List UInt8)) 0)), (5, (.int .i64 s16.2))] (by kernel_rfl) ?_
       refine gv_nil <| gv_cret ?_
       have e := sj h2; subst e
       replace h1 := congrArg some (hR2 _ rfl)
       have e := sj h1; subst e
       replace h0 := cont_inr h0
       have e := sj h0; subst e
       refine gv_ret (gv_done [(.slice none (List.length ([] : List UInt8)) 0), (.int .i64 s16.2)] rfl ⟨(by kernel_rfl), (by kernel_rfl), trivial⟩ ?_)
       exact ⟨grown_of_below hB18, none, 0, rfl, (Gv.Own.nil bE 5 w17 (fun _ => False)), (fun _ h => by cases h)⟩
      ·replace h2 := ite_f hc29 h2
       refine gv_seq <| gv_region <| gv_pureN 3 [54, 55, 56] [(54, (.bool (coding_1 == 1)))] (by kernel_rfl) ?_
       refine gv_nil <| bindE h2 ?_; clear h2; intro j30 h3 h2
       refine gv_cut_code (J := fun a w31 => ∃ (a6_0j : Option Addr) (c6_0j : Nat), Below w0.heap.size w0 w31 ∧ w17.heap.size ≤ w31.heap.size ∧ Gv.Own bE 5 w31 (fun _ => False) a6_0j c6_0j j30 ∧ (∀ g, blk a6_0j = some g → w0.heap.size ≤ g) ∧ a.defers = [] ∧ a.tmps.size = 75 ∧ Ok [(0, (.slice pa0_0 (List.length l_0) pc0_0)), (1, (.int .i64 coding_1)), (6, (.slice a6_0j (List.length j30) c6_0j)), (7, (.int .i64 s16.2))] a.tmps) ?_ ?_
       ·skip
        refine gv_cond (b := (coding_1 == 1)) (by kernel_rfl) (fun hc32 => ?_) (fun hc32 => ?_)
        ·replace h3 := ite_t hc32 h3
         refine gv_region <| gv_pureN 3 [57, 58, 59] [(57, (.slice a20 (List.length s16.1) c21)), (59, (.int .u8 (IntKind.u8.wrap (x25))))] (by kernel_rfl) ?_
         refine bindE h3 ?_; clear h3; intro b33 hb34 h3
         have hu35 := u8_spec hb34
         refine gv_new0 (fun b => .slice (some ⟨b, 0, none⟩) 1 1) #[(.int .u8 (IntKind.u8.wrap (x25)))] 5 (by kernel_rfl) (by kernel_rfl) ?_
         intro b36 w37 hg38 hb39 hbe40 hz41
         have ho42 : Gv.Own bE 5 w37 (fun _ => False) (some ⟨b36, 0, none⟩) 1 ([b33] : List UInt8) := Box.ownE hb39 ⟨[(.int .u8 (IntKind.u8.wrap (x25)))], [], rfl, (by simp only [bE, flat, hu35]), rfl⟩ (show 1 ≤ maxLen by decide) (fun h => h)
         have hl43 : ∀ g, blk (some ⟨b36, 0, none⟩) = some g → w0.heap.size ≤ g := loo hbe40 hB18.size
         refine bindE h3 ?_; clear h3; intro l47 hx48 h3
         have hk55 := ho22.grown hg38 (fun _ h => h.elim) nb
         refine gv_append bE (t := 22) (ty := 22) (e := 5) (a := a20) (ax := (some ⟨b36, 0, none⟩)) (cap := c21) (cx := 1) (xs := s16.1) (ys := ([b33] : List UInt8)) l47 (X := (fun _ => False)) (Y := (fun k => blk (some ⟨b36, 0, none⟩) = some k)) (by decide) rfl rfl (by kernel_rfl) (by kernel_rfl) Tryd.underlying22 info5 hk55 (ho42.rd (Y := fun k => blk (some ⟨b36, 0, none⟩) = some k) (fun _ h => h.elim) (fun g e => e)) hx48 (.inr fun _ _ _ _ _ h => h) (fun _ h => h.elim) ?_
         intro a49 c50 w51 hg52 ho53 hk54
         refine ⟨(fun e => by cases e), ?_⟩
         have hB57 := bg hB18 hg38 nb
         have hl56 : ∀ g, blk a49 = some g → w0.heap.size ≤ g := blk_step hk54 hl23 hB57.size
         have ap59 : ∀ g, blk a20 = some g → ¬ (fun k => blk (some ⟨b36, 0, none⟩) = some k) g := fun g e hx => nl ((lowo hbe40) _ hx) ((fun k (hk : blk a20 = some k) => ho22.lt k hk) g e)
         have ap58 : ∀ g, blk a49 = some g → ¬ (fun k => blk (some ⟨b36, 0, none⟩) = some k) g := blk_neX hk54 ap59 (fun k (hk : blk (some ⟨b36, 0, none⟩) = some k) => ho42.lt k hk)
         have ap61 : ∀ g, blk (some ⟨b36, 0, none⟩) = some g → ¬ (fun k => blk a20 = some k) g := fun g e hx => nl ((lowo hbe40) g e) ((fun k (hk : blk a20 = some k) => ho22.lt k hk) _ hx)
         have ap60 : ∀ g, blk (some ⟨b36, 0, none⟩) = some g → ¬ (fun k => blk a49 = some k) g := fun g e h => blk_rev hk54 (fun h => ((ap61) g e) h) (ho42.lt g e) h
         refine gv_pureN 1 [6] [(6, (.slice a49 (List.length l47) c50))] (by kernel_rfl) ?_
         refine gv_nil ?_
         have e := sj h3; subst e
         refine gv_goal fun a hd hs hok => ?_
         have hB62 := bg hB57 hg52 hl23
         have hz63 := (nt hg38.size hg52.size)
         exact ⟨a49, c50, hB62, hz63, ho53, hl56, hd, hs, ok_pick [0, 1, 6, 7] hok (by kernel_rfl)⟩
        ·replace h3 := ite_f hc32 h3
         refine gv_seq <| gv_region <| gv_pureN 3 [62, 63, 64] [(62, (.bool (decide (x25 < 65536))))] (by kernel_rfl) ?_
         refine gv_nil <| gv_cond (b := (decide (x25 < 65536))) (by kernel_rfl) (fun hc64 => ?_) (fun hc64 => ?_)
         ·replace h3 := ite_t hc64 h3
          refine gv_region <| gv_pureN 7 [65, 66, 67, 68, 69, 70, 71] [(65, (.slice a20 (List.length s16.1) c21)), (68, (.int .u8 (IntKind.u8.wrap ((IntKind.i64.wrap ((x25).tdiv 256)))))), (71, (.int .u8 (IntKind.u8.wrap (((x25).tmod 256)))))] (by kernel_rfl) ?_
          refine bindE h3 ?_; clear h3; intro b65 hb66 h3
          have hu67 := u8_spec hb66
          refine bindE h3 ?_; clear h3; intro b68 hb69 h3
          have hu70 := u8_spec hb69
          refine gv_new0 (fun b => .slice (some ⟨b, 0, none⟩) 2 2) #[(.int .u8 (IntKind.u8.wrap ((IntKind.i64.wrap ((x25).tdiv 256))))), (.int .u8 (IntKind.u8.wrap (((x25).tmod 256))))] 5 (by kernel_rfl) (by kernel_rfl) ?_
          intro b71 w72 hg73 hb74 hbe75 hz76
          have ho77 : Gv.Own bE 5 w72 (fun _ => False) (some ⟨b71, 0, none⟩) 2 ([b65, b68] : List UInt8) := Box.ownE hb74 ⟨[(.int .u8 (IntKind.u8.wrap ((IntKind.i64.wrap ((x25).tdiv 256)))))], [(.int .u8 (IntKind.u8.wrap (((x25).tmod 256))))], rfl, (by simp only [bE, flat, hu67]), ⟨[(.int .u8 (IntKind.u8.wrap (((x25).tmod 256))))], [], rfl, (by simp only [bE, flat, hu70]), rfl⟩⟩ (show 2 ≤ maxLen by decide) (fun h => h)
          have hl78 : ∀ g, blk (some ⟨b71, 0, none⟩) = some g → w0.heap.size ≤ g := loo hbe75 hB18.size
          refine bindE h3 ?_; clear h3; intro l82 hx83 h3
          have hk90 := ho22.grown hg73 (fun _ h => h.elim) nb
          refine gv_append bE (t := 22) (ty := 22) (e := 5) (a := a20) (ax := (some ⟨b71, 0, none⟩)) (cap := c21) (cx := 2) (xs := s16.1) (ys := ([b65, b68] : List UInt8)) l82 (X := (fun _ => False)) (Y := (fun k => blk (some ⟨b71, 0, none⟩) = some k)) (by decide) rfl rfl (by kernel_rfl) (by kernel_rfl) Tryd.underlying22 info5 hk90 (ho77.rd (Y := fun k => blk (some ⟨b71, 0, none⟩) = some k) (fun _ h => h.elim) (fun g e => e)) hx83 (.inr fun _ _ _ _ _ h => h) (fun _ h => h.elim) ?_
          intro a84 c85 w86 hg87 ho88 hk89
          refine ⟨(fun e => by cases e), ?_⟩
          have hB92 := bg hB18 hg73 nb
          have hl91 : ∀ g, blk a84 = some g → w0.heap.size ≤ g := blk_step hk89 hl23 hB92.size
          have ap94 : ∀ g, blk a20 = some g → ¬ (fun k => blk (some ⟨b71, 0, none⟩) = some k) g := fun g e hx => nl ((lowo hbe75) _ hx) ((fun k (hk : blk a20 = some k) => ho22.lt k hk) g e)
          have ap93 : ∀ g, blk a84 = some g → ¬ (fun k => blk (some ⟨b71, 0, none⟩) = some k) g := blk_neX hk89 ap94 (fun k (hk : blk (some ⟨b71, 0, none⟩) = some k) => ho77.lt k hk)
          have ap96 : ∀ g, blk (some ⟨b71, 0, none⟩) = some g → ¬ (fun k => blk a20 = some k) g := fun g e hx => nl ((lowo hbe75) g e) ((fun k (hk : blk a20 = some k) => ho22.lt k hk) _ hx)
          have ap95 : ∀ g, blk (some ⟨b71, 0, none⟩) = some g → ¬ (fun k => blk a84 = some k) g := fun g e h => blk_rev hk89 (fun h => ((ap96) g e) h) (ho77.lt g e) h
          refine gv_pureN 1 [6] [(6, (.slice a84 (List.length l82) c85))] (by kernel_rfl) ?_
          refine gv_nil ?_
          have e := sj h3; subst e
          refine gv_goal fun a hd hs hok => ?_
          have hB97 := bg hB92 hg87 hl23
          have hz98 := (nt hg73.size hg87.size)
          exact ⟨a84, c85, hB97, hz98, ho88, hl91, hd, hs, ok_pick [0, 1, 6, 7] hok (by kernel_rfl)⟩
         ·replace h3 := ite_f hc64 h3
          refine gv_seq <| gv_region <| gv_pureN 3 [8, 23, 24] [(8, (.int .i64 (IntKind.i64.wrap (x25 - 65536))))] (by kernel_rfl) ?_
          refine gv_nil <| gv_region <| gv_pureN 19 [25, 26, 27, 28, 29, 30, 31, 32, 33, 34, 35, 36, 37, 38, 39, 40, 41, 42, 43] [(25, (.slice a20 (List.length s16.1) c21)), (30, (.int .u8 (IntKind.u8.wrap ((IntKind.i64.wrap (216 + (IntKind.i64.wrap (((IntKind.i64.wrap (((IntKind.i64.wrap (x25 - 65536))).tdiv 1024))).tdiv 256)))))))), (34, (.int .u8 (IntKind.u8.wrap ((((IntKind.i64.wrap (((IntKind.i64.wrap (x25 - 65536))).tdiv 1024))).tmod 256))))), (39, (.int .u8 (IntKind.u8.wrap ((IntKind.i64.wrap (220 + (IntKind.i64.wrap (((((IntKind.i64.wrap (x25 - 65536))).tmod 1024)).tdiv 256)))))))), (43, (.int .u8 (IntKind.u8.wrap ((((((IntKind.i64.wrap (x25 - 65536))).tmod 1024)).tmod 256)))))] (by kernel_rfl) ?_
          refine bindE h3 ?_; clear h3; intro b99 hb100 h3
          have hu101 := u8_spec hb100
          refine bindE h3 ?_; clear h3; intro b102 hb103 h3
          have hu104 := u8_spec hb103
          refine bindE h3 ?_; clear h3; intro b105 hb106 h3
          have hu107 := u8_spec hb106
          refine bindE h3 ?_; clear h3; intro b108 hb109 h3
          have hu110 := u8_spec hb109
          refine gv_new0 (fun b => .slice (some ⟨b, 0, none⟩) 4 4) #[(.int .u8 (IntKind.u8.wrap ((IntKind.i64.wrap (216 + (IntKind.i64.wrap (((IntKind.i64.wrap (((IntKind.i64.wrap (x25 - 65536))).tdiv 1024))).tdiv 256))))))), (.int .u8 (IntKind.u8.wrap ((((IntKind.i64.wrap (((IntKind.i64.wrap (x25 - 65536))).tdiv 1024))).tmod 256)))), (.int .u8 (IntKind.u8.wrap ((IntKind.i64.wrap (220 + (IntKind.i64.wrap (((((IntKind.i64.wrap (x25 - 65536))).tmod 1024)).tdiv 256))))))), (.int .u8 (IntKind.u8.wrap ((((((IntKind.i64.wrap (x25 - 65536))).tmod 1024)).tmod 256))))] 5 (by kernel_rfl) (by kernel_rfl) ?_
          intro b111 w112 hg113 hb114 hbe115 hz116
          have ho117 : Gv.Own bE 5 w112 (fun _ => False) (some ⟨b111, 0, none⟩) 4 ([b99, b102, b105, b108] : List UInt8) := Box.ownE hb114 ⟨[(.int .u8 (IntKind.u8.wrap ((IntKind.i64.wrap (216 + (IntKind.i64.wrap (((IntKind.i64.wrap (((IntKind.i64.wrap (x25 - 65536))).tdiv 1024))).tdiv 256)))))))], [(.int .u8 (IntKind.u8.wrap ((((IntKind.i64.wrap (((IntKind.i64.wrap (x25 - 65536))).tdiv 1024))).tmod 256)))), (.int .u8 (IntKind.u8.wrap ((IntKind.i64.wrap (220 + (IntKind.i64.wrap (((((IntKind.i64.wrap (x25 - 65536))).tmod 1024)).tdiv 256))))))), (.int .u8 (IntKind.u8.wrap ((((((IntKind.i64.wrap (x25 - 65536))).tmod 1024)).tmod 256))))], rfl, (by simp only [bE, flat, hu101]), ⟨[(.int .u8 (IntKind.u8.wrap ((((IntKind.i64.wrap (((IntKind.i64.wrap (x25 - 65536))).tdiv 1024))).tmod 256))))], [(.int .u8 (IntKind.u8.wrap ((IntKind.i64.wrap (220 + (IntKind.i64.wrap (((((IntKind.i64.wrap (x25 - 65536))).tmod 1024)).tdiv 256))))))), (.int .u8 (IntKind.u8.wrap ((((((IntKind.i64.wrap (x25 - 65536))).tmod 1024)).tmod 256))))], rfl, (by simp only [bE, flat, hu104]), ⟨[(.int .u8 (IntKind.u8.wrap ((IntKind.i64.wrap (220 + (IntKind.i64.wrap (((((IntKind.i64.wrap (x25 - 65536))).tmod 1024)).tdiv 256)))))))], [(.int .u8 (IntKind.u8.wrap ((((((IntKind.i64.wrap (x25 - 65536))).tmod 1024)).tmod 256))))], rfl, (by simp only [bE, flat, hu107]), ⟨[(.int .u8 (IntKind.u8.wrap ((((((IntKind.i64.wrap (x25 - 65536))).tmod 1024)).tmod 256))))], [], rfl, (by simp only [bE, flat, hu110]), rfl⟩⟩⟩⟩ (show 4 ≤ maxLen by decide) (fun h => h)
          have hl118 : ∀ g, blk (some ⟨b111, 0, none⟩) = some g → w0.heap.size ≤ g := loo hbe115 hB18.size
          refine bindE h3 ?_; clear h3; intro l122 hx123 h3
          have hk130 := ho22.grown hg113 (fun _ h => h.elim) nb
          refine gv_append bE (t := 22) (ty := 22) (e := 5) (a := a20) (ax := (some ⟨b111, 0, none⟩)) (cap := c21) (cx := 4) (xs := s16.1) (ys := ([b99, b102, b105, b108] : List UInt8)) l122 (X := (fun _ => False)) (Y := (fun k => blk (some ⟨b111, 0, none⟩) = some k)) (by decide) rfl rfl (by kernel_rfl) (by kernel_rfl) Tryd.underlying22 info5 hk130 (ho117.rd (Y := fun k => blk (some ⟨b111, 0, none⟩) = some k) (fun _ h => h.elim) (fun g e => e)) hx123 (.inr fun _ _ _ _ _ h => h) (fun _ h => h.elim) ?_
          intro a124 c125 w126 hg127 ho128 hk129
          refine ⟨(fun e => by cases e), ?_⟩
          have hB132 := bg hB18 hg113 nb
          have hl131 : ∀ g, blk a124 = some g → w0.heap.size ≤ g := blk_step hk129 hl23 hB132.size
          have ap134 : ∀ g, blk a20 = some g → ¬ (fun k => blk (some ⟨b111, 0, none⟩) = some k) g := fun g e hx => nl ((lowo hbe115) _ hx) ((fun k (hk : blk a20 = some k) => ho22.lt k hk) g e)
          have ap133 : ∀ g, blk a124 = some g → ¬ (fun k => blk (some ⟨b111, 0, none⟩) = some k) g := blk_neX hk129 ap134 (fun k (hk : blk (some ⟨b111, 0, none⟩) = some k) => ho117.lt k hk)
          have ap136 : ∀ g, blk (some ⟨b111, 0, none⟩) = some g → ¬ (fun k => blk a20 = some k) g := fun g e hx => nl ((lowo hbe115) g e) ((fun k (hk : blk a20 = some k) => ho22.lt k hk) _ hx)
          have ap135 : ∀ g, blk (some ⟨b111, 0, none⟩) = some g → ¬ (fun k => blk a124 = some k) g := fun g e h => blk_rev hk129 (fun h => ((ap136) g e) h) (ho117.lt g e) h
          refine gv_pureN 1 [6] [(6, (.slice a124 (List.length l122) c125))] (by kernel_rfl) ?_
          refine gv_nil ?_
          have e := sj h3; subst e
          refine gv_goal fun a hd hs hok => ?_
          have hB137 := bg hB132 hg127 hl23
          have hz138 := (nt hg113.size hg127.size)
          exact ⟨a124, c125, hB137, hz138, ho128, hl131, hd, hs, ok_pick [0, 1, 6, 7] hok (by kernel_rfl)⟩
       ·rintro a w31 ⟨a141, c142, hB139, hz140, ho143, hl144, hd, hs, hok⟩
        refine gv_in ?_ hd hs hok
        clear hd hs hok
        have hz145 := (nt hz19 hz140)
        clear hz140 hc29 hx26 hc24 hl23 ho22 hz19 hB18 hc1
        refine gv_blk <| gv_blk <| gv_region <| gv_pureN 3 [7, 17, 18] [(7, (.int .i64 (IntKind.i64.wrap (s16.2 + 1))))] (by kernel_rfl) ?_
        refine gv_nil ?_
        have e := sj h2; subst e
        refine gv_goal fun a hd hs hok => ?_
        have hz146 := hz145
        exact ⟨(j30, (IntKind.i64.wrap (s16.2 + 1))), rfl, a141, c142, hB139, hz146, ho143, hl144, hd, hs, ok_pick [0, 1, 6, 7] hok (by kernel_rfl)⟩
    ·replace h2 := ite_f hc24 h2
     refine gv_cexit <| gv_exit rfl ?_
     have e := sj h2; subst e
     replace h1 := congrArg some (hR2 _ rfl)
     have e := sj h1; subst e
     refine gv_goal fun a hd hs hok => ?_
     have hz147 := hz19
     exact ⟨s16.1, rfl, a20, c21, hB18, hz147, ho22, hl23, hd, hs, ok_pick [6] hok (by kernel_rfl)⟩
  ·rintro a w15 ⟨s14, e, a150, c151, hB148, hz149, ho152, hl153, hd, hs, hok⟩
   subst e
   refine gv_in ?_ hd hs hok
   clear hd hs hok
   replace h0 := cont_inl h0
   refine gv_seq <| gv_region <| gv_pureN 3 [4, 5, 74] [(4, (.slice a150 (List.length s14) c151)), (5, (.int .i64 (-1)))] (by kernel_rfl) ?_
   refine gv_nil <| gv_cret ?_
   have e := sj h0; subst e
   refine gv_ret (gv_done [(.slice a150 (List.length s14) c151), (.int .i64 (-1))] rfl ⟨(by kernel_rfl), (by kernel_rfl), trivial⟩ ?_)
   exact ⟨grown_of_below hB148, a150, c151, rfl, ho152, hl153⟩

theorem ref4_Decoded_ok (fuel : Nat) (pa0_0 : Option Addr) (pc0_0 : Nat) (b_0 : (List UInt8)) (coding_1 : Int) (w0 : World) (X0 : Nat → Prop) (hX0 : ∀ k, X0 k → k < w0.heap.size) (hpa0_0 : Rd bE w0 X0 pa0_0 pc0_0 b_0) (r0 : ((List Int) × Int)) (h0 : ref4_Decoded fuel b_0 coding_1 = some r0) :
    Calls Tryd.prog 27 ([(.slice pa0_0 (List.length b_0) pc0_0), (.int .i64 coding_1)] : List Value).toArray w0 (Ret fun v w' => w0.grownBy w' none ∧ ∃ (a0_0r : Option Addr) (c0_0r : Nat), v = tup [(.slice a0_0r (List.length r0.1) c0_0r), (.int .i64 r0.2)] ∧ Gv.Own (iE .i64) 3 w' (fun _ => False) a0_0r c0_0r r0.1 ∧ (∀ g, blk a0_0r = some g → w0.heap.size ≤ g)) := by
 have hB0 : Below w0.heap.size w0 w0 := Below.refl _ _
 unfold ref4_Decoded at h0
 refine calls_run Tryd.func27 rfl Tryd.ntmps27 (by kernel_rfl) ?_
 refine gv_sub [0, 1] (σ' := [(0, (.slice pa0_0 (List.length b_0) pc0_0)), (1, (.int .i64 coding_1))]) (by kernel_rfl) ?_
 refine gv_seq <| gv_region <| gv_pureN 2 [4, 5] [] (by kernel_rfl) ?_
 refine gv_nil <| gv_seq <| gv_region <| gv_pureN 1 [6] [(6, (.slice none (List.length ([] : List Int)) 0))] (by kernel_rfl) ?_
 refine gv_nil <| gv_seq <| gv_region <| gv_pureN 1 [7] [(7, (.int .i64 (-1)))] (by kernel_rfl) ?_
 refine gv_nil <| gv_seq <| gv_seq <| gv_region <| gv_pureN 1 [8] [(8, (.int .i64 0))] (by kernel_rfl) ?_
 refine gv_nil <| bindE h0 ?_; clear h0; intro j1 h1 h0
 refine gv_cut_code (J := fun a w2 => ∃ (a6_0j : Option Addr) (c6_0j : Nat), Below w0.heap.size w0 w2 ∧ w0.heap.size ≤ w2.heap.size ∧ Gv.Own (iE .i64) 3 w2 (fun _ => False) a6_0j c6_0j j1.1 ∧ (∀ g, blk a6_0j = some g → w0.heap.size ≤ g) ∧ a.defers = [] ∧ a.tmps.size = 116 ∧ Ok [(6, (.slice a6_0j (List.length j1.1) c6_0j)), (7, (.int .i64 j1.2))] a.tmps) ?_ ?_
 ·skip
  refine gv_block <| gv_loop (A := fun (s3 : ((List Int) × Int × Int)) a w4 => ∃ (a6_0j : Option Addr) (c6_0j : Nat), Below w0.heap.size w0 w4 ∧ w0.heap.size ≤ w4.heap.size ∧ Gv.Own (iE .i64) 3 w4 (fun _ => False) a6_0j c6_0j s3.1 ∧ (∀ g, blk a6_0j = some g → w0.heap.size ≤ g) ∧ a.defers = [] ∧ a.tmps.size = 116 ∧ Ok [(0, (.slice pa0_0 (List.length b_0) pc0_0)), (1, (.int .i64 coding_1)), (6, (.slice a6_0j (List.length s3.1) c6_0j)), (7, (.int .i64 s3.2.1)), (8, (.int .i64 s3.2.2))] a.tmps) h1 ?_ ?_
  ·intro a hd hs hok
   exact ⟨none, 0, hB0, (Nat.le_refl _), (Gv.Own.nil (iE .i64) 3 w0 (fun _ => False)), (fun _ h => by cases h), hd, hs, ok_pick [0, 1, 6, 7, 8] hok (by kernel_rfl)⟩
  ·rintro s3 r2 h2 hR2 a w4 ⟨a7, c8, hB5, hz6, ho9, hl10, hd, hs, hok⟩
   refine gv_in ?_ hd hs hok
   clear hd hs hok
   refine gv_seq <| gv_seq <| gv_region <| gv_pureN 4 [15, 16, 17, 18] [(18, (.bool (decide (s3.2.2 < ((List.length b_0 : Nat) : Int)))))] (by kernel_rfl) ?_
   refine gv_nil <| gv_cond (b := (decide (s3.2.2 < ((List.length b_0 : Nat) : Int)))) (by kernel_rfl) (fun hc11 => ?_) (fun hc11 => ?_)
   ·replace h2 := ite_t hc11 h2
    refine gv_skip <| gv_block <| gv_seq <| gv_region <| gv_pureN 2 [9, 10] [(9, (.int .i64 (-1))), (10, (.int .i64 1))] (by kernel_rfl) ?_
    refine gv_nil <| gv_seq <| gv_seq <| gv_region <| gv_pureN 1 [19] [(19, (.int .i64 coding_1))] (by kernel_rfl) ?_
    refine gv_nil <| bindE h2 ?_; clear h2; intro j12 h3 h2
    refine gv_cut_code (J := fun a w13 => Below w0.heap.size w0 w13 ∧ w4.heap.size ≤ w13.heap.size ∧ Gv.Own (iE .i64) 3 w13 (fun _ => False) a7 c8 s3.1 ∧ a.defers = [] ∧ a.tmps.size = 116 ∧ Ok [(0, (.slice pa0_0 (List.length b_0) pc0_0)), (1, (.int .i64 coding_1)), (6, (.slice a7 (List.length s3.1) c8)), (7, (.int .i64 s3.2.1)), (8, (.int .i64 s3.2.2)), (9, (.int .i64 j12.1)), (10, (.int .i64 j12.2))] a.tmps) ?_ ?_
    ·skip
     refine gv_block <| gv_seq <| gv_region <| gv_pureN 2 [81, 82] [(81, (.bool (coding_1 == 0)))] (by kernel_rfl) ?_
     refine gv_nil <| bindE h3 ?_; clear h3; intro j14 h4 h3
     refine gv_cut_code (J := fun a w16 => ∃ s15 : (Int × Int), j14 = .inl s15 ∧ Below w0.heap.size w0 w16 ∧ w4.heap.size ≤ w16.heap.size ∧ Gv.Own (iE .i64) 3 w16 (fun _ => False) a7 c8 s3.1 ∧ a.defers = [] ∧ a.tmps.size = 116 ∧ Ok [(0, (.slice pa0_0 (List.length b_0) pc0_0)), (1, (.int .i64 coding_1)), (6, (.slice a7 (List.length s3.1) c8)), (7, (.int .i64 s3.2.1)), (8, (.int .i64 s3.2.2)), (9, (.int .i64 s15.1)), (10, (.int .i64 s15.2))] a.tmps) ?_ ?_
     ·skip
      refine gv_cond (b := (coding_1 == 0)) (by kernel_rfl) (fun hc17 => ?_) (fun hc17 => ?_)
      ·replace h4 := ite_t hc17 h4
       refine gv_seq <| gv_region <| gv_pureN 2 [84, 85] [(84, (.slice pa0_0 (List.length b_0) pc0_0)), (85, (.int .i64 s3.2.2))] (by kernel_rfl) ?_
       refine bindE h4 ?_; clear h4; intro r18 hr19 h4
       refine gv_call0 (by kernel_rfl) rfl (by kernel_rfl) enters47 (ref4_unit_ok fuel pa0_0 pc0_0 b_0 s3.2.2 w4 (fun k => X0 k) (fun k hk => (fun k (hk : X0 k) => ltl (hX0 k hk) hB5.size) k hk) ((hpa0_0.below hB5 hX0).wide (fun k hk => hk)) r18 hr19) ?_
       rintro v22 w20 ⟨hg21, rfl⟩
       refine gv_pureN 5 [11, 12, 83, 87, 88] [(11, (.int .i64 r18.1)), (12, (.int .i64 r18.2))] (by kernel_rfl) ?_
       refine gv_nil <| gv_seq <| gv_region <| gv_pureN 2 [89, 90] [(90, (.bool (decide (r18.2 > 0))))] (by kernel_rfl) ?_
       refine gv_nil <| gv_cond (b := (decide (r18.2 > 0))) (by kernel_rfl) (fun hc23 => ?_) (fun hc23 => ?_)
       ·replace h4 := ite_t hc23 h4
        refine gv_region <| gv_pureN 4 [9, 10, 91, 92] [(9, (.int .i64 r18.1)), (10, (.int .i64 r18.2))] (by kernel_rfl) ?_
        refine gv_nil ?_
        have e := sj h4; subst e
        refine gv_goal fun a hd hs hok => ?_
        have hB24 := bg hB5 hg21 nb
        have hz25 := hg21.size
        have hk26 := ho9.grown hg21 (fun _ h => h.elim) nb
        exact ⟨(r18.1, r18.2), rfl, hB24, hz25, hk26, hd, hs, ok_pick [0, 1, 6, 7, 8, 9, 10] hok (by kernel_rfl)⟩
       ·replace h4 := ite_f hc23 h4
        refine gv_skip ?_
        have e := sj h4; subst e
        refine gv_goal fun a hd hs hok => ?_
        have hB27 := bg hB5 hg21 nb
        have hz28 := hg21.size
        have hk29 := ho9.grown hg21 (fun _ h => h.elim) nb
        exact ⟨((-1), 1), rfl, hB27, hz28, hk29, hd, hs, ok_pick [0, 1, 6, 7, 8, 9, 10] hok (by kernel_rfl)⟩
      ·replace h4 := ite_f hc17 h4
       refine gv_seq <| gv_region <| gv_pureN 2 [93, 94] [(93, (.bool (coding_1 == 1)))] (by kernel_rfl) ?_
       refine gv_nil <| gv_cond (b := (coding_1 == 1)) (by kernel_rfl) (fun hc30 => ?_) (fun hc30 => ?_)
       ·replace h4 := ite_t hc30 h4
        refine gv_region <| gv_pureN 2 [95, 96] [(95, (.slice pa0_0 (List.length b_0) pc0_0)), (96, (.int .i64 s3.2.2))] (by kernel_rfl) ?_
        refine bindE h4 ?_; clear h4; intro x31 hx32 h4
        refine gv_idxaddr (t := 22) (e := 5) (a := pa0_0) (len := List.length b_0) (cap := pc0_0) (kk := .i64) (i := s3.2.2) (sz := 1) [] (fun e => by cases e) rfl rfl rfl (by kernel_rfl) (by kernel_rfl) Tryd.underlying22 (by kernel_rfl) ((hpa0_0.below hB5 hX0).has hx32) (idx_spec hx32).1 (idx_spec hx32).2.1 rfl ?_
        refine gv_load (t := 5) (A := (elemAddr pa0_0 ((s3.2.2 : Int).toNat * 1))) (.int .u8 ((x31).toNat : Int)) [] (fun e => by cases e) rfl rfl rfl (by kernel_rfl) (by kernel_rfl) (by kernel_rfl) (inw0 ((hpa0_0.below hB5 hX0).cell hx32)) rfl ?_
        refine gv_pureN 2 [9, 99] [(9, (.int .i64 (IntKind.i64.wrap (((x31).toNat : Int)))))] (by kernel_rfl) ?_
        refine gv_nil ?_
        have e := sj h4; subst e
        refine gv_goal fun a hd hs hok => ?_
        exact ⟨((IntKind.i64.wrap (((x31).toNat : Int))), 1), rfl, hB5, (Nat.le_refl _), ho9, hd, hs, ok_pick [0, 1, 6, 7, 8, 9, 10] hok (by kernel_rfl)⟩
       ·replace h4 := ite_f hc30 h4
        refine gv_seq <| gv_seq <| gv_region <| gv_pureN 5 [20, 21, 22, 23, 24] [(24, (.bool (decide ((IntKind.i64.wrap (s3.2.2 + 1)) ≥ ((List.length b_0 : Nat) : Int)))))] (by kernel_rfl) ?_
        refine gv_nil <| gv_cond (b := (decide ((IntKind.i64.wrap (s3.2.2 + 1)) ≥ ((List.length b_0 : Nat) : Int)))) (by kernel_rfl) (fun hc33 => ?_) (fun hc33 => ?_)
        ·replace h4 := ite_t hc33 h4
         refine gv_cexit <| gv_exit rfl ?_
         have e := sj h4; subst e
         replace h3 := cont_inr h3
         have e := sj h3; subst e
         refine gv_goal fun a hd hs hok => ?_
         exact ⟨hB5, (Nat.le_refl _), ho9, hd, hs, ok_pick [0, 1, 6, 7, 8, 9, 10] hok (by kernel_rfl)⟩
        ·replace h4 := ite_f hc33 h4
         refine gv_skip <| gv_seq <| gv_region <| gv_pureN 1 [10] [(10, (.int .i64 2))] (by kernel_rfl) ?_
         refine gv_nil <| gv_seq <| gv_drawA (by kernel_rfl) ?_
         intro w34 hg35
         refine gv_pre [0, 1, 2, 6, 7, 8, 9] (bA 14 [0, 1, 2, 6, 7, 8, 9]) 7 (by kernel_rfl) (by kernel_rfl) ?_
         refine gv_pureN 2 [25, 26] [(25, (.slice pa0_0 (List.length b_0) pc0_0)), (26, (.int .i64 s3.2.2))] (by kernel_rfl) ?_
         refine bindE h4 ?_; clear h4; intro x36 hx37 h4
         have hB38 := bg hB5 hg35 nb
         refine gv_idxaddr (t := 22) (e := 5) (a := pa0_0) (len := List.length b_0) (cap := pc0_0) (kk := .i64) (i := s3.2.2) (sz := 1) [] (fun e => by cases e) rfl rfl rfl (by kernel_rfl) (by kernel_rfl) Tryd.underlying22 (by kernel_rfl) ((hpa0_0.below hB38 hX0).has hx37) (idx_spec hx37).1 (idx_spec hx37).2.1 rfl ?_
         refine gv_pureN 3 [31, 32, 33] [(31, (.slice pa0_0 (List.length b_0) pc0_0)), (33, (.int .i64 (IntKind.i64.wrap (s3.2.2 + 1))))] (by kernel_rfl) ?_
         refine bindE h4 ?_; clear h4; intro x39 hx40 h4
         refine gv_idxaddr (t := 22) (e := 5) (a := pa0_0) (len := List.length b_0) (cap := pc0_0) (kk := .i64) (i := (IntKind.i64.wrap (s3.2.2 + 1))) (sz := 1) [] (fun e => by cases e) rfl rfl rfl (by kernel_rfl) (by kernel_rfl) Tryd.underlying22 (by kernel_rfl) ((hpa0_0.below hB38 hX0).has hx40) (idx_spec hx40).1 (idx_spec hx40).2.1 rfl ?_
         refine gv_nil <| gv_goA ?_
         refine gv_stage (Cls w34 []) [0, 1, 2, 3, 4, 5, 6, 7, 8, 9, 10, 11] [(3, some true), (4, some true), (5, some true), (10, some true), (11, some true)] (bA 14 [0, 1, 2, 3, 4, 5, 6, 7, 8, 9, 10, 11]) 2 (by kernel_rfl) (by kernel_rfl) (Cls.refl _ _) ?_
         have hC41 := Cls.refl w34 []
         refine gv_load (t := 5) (A := (elemAddr pa0_0 ((s3.2.2 : Int).toNat * 1))) (.int .u8 ((x36).toNat : Int)) [] (fun e => by cases e) rfl rfl rfl (by kernel_rfl) (by kernel_rfl) (by kernel_rfl) (inw1 fun w' hC' => ((hC'.rd (hpa0_0.below hB38 hX0) (fun k (hk : X0 k) => ltl (hX0 k hk) hB38.size) nmx_nil).cell hx37)) rfl ?_
         refine gv_pureN 2 [29, 30] [(30, (.int .i64 (IntKind.i64.wrap ((IntKind.i64.wrap (((x36).toNat : Int))) * 256))))] (by kernel_rfl) ?_
         refine gv_load (t := 5) (A := (elemAddr pa0_0 (((IntKind.i64.wrap (s3.2.2 + 1)) : Int).toNat * 1))) (.int .u8 ((x39).toNat : Int)) [] (fun e => by cases e) rfl rfl rfl (by kernel_rfl) (by kernel_rfl) (by kernel_rfl) (inw1 fun w' hC' => ((hC'.rd (hpa0_0.below hB38 hX0) (fun k (hk : X0 k) => ltl (hX0 k hk) hB38.size) nmx_nil).cell hx40)) rfl ?_
         refine gv_pureN 1 [36] [(36, (.int .i64 (IntKind.i64.wrap (((x39).toNat : Int)))))] (by kernel_rfl) ?_
         refine gv_sub [0, 1, 6, 7, 8, 9, 10, 30, 36] (σ' := [(0, (.slice pa0_0 (List.length b_0) pc0_0)), (1, (.int .i64 coding_1)), (6, (.slice a7 (List.length s3.1) c8)), (7, (.int .i64 s3.2.1)), (8, (.int .i64 s3.2.2)), (9, (.int .i64 (-1))), (10, (.int .i64 2)), (30, (.int .i64 (IntKind.i64.wrap ((IntKind.i64.wrap (((x36).toNat : Int))) * 256)))), (36, (.int .i64 (IntKind.i64.wrap (((x39).toNat : Int)))))]) (by kernel_rfl) ?_
         refine gv_nil <| gv_goA ?_
         refine gv_pre [12, 13] (bA 14 [0, 1, 2, 3, 4, 5, 6, 7, 8, 9, 10, 11, 12, 13]) 0 (by kernel_rfl) (by kernel_rfl) ?_
         refine gv_pureN 2 [13, 37] [(13, (.int .i64 (IntKind.i64.wrap ((IntKind.i64.wrap ((IntKind.i64.wrap (((x36).toNat : Int))) * 256)) + (IntKind.i64.wrap (((x39).toNat : Int)))))))] (by kernel_rfl) ?_
         refine bindE h4 ?_; clear h4; intro n42 hn43 h4
         refine gv_name (s := 13) (v := (.int .i64 (IntKind.i64.wrap ((IntKind.i64.wrap ((IntKind.i64.wrap (((x36).toNat : Int))) * 256)) + (IntKind.i64.wrap (((x39).toNat : Int))))))) (v' := (.int .i64 n42)) (by kernel_rfl) (congrArg (Value.int .i64) (sj hn43)) ?_
         refine gv_nil <| gv_goA ?_
         refine gv_stageE (by kernel_rfl) ?_
         refine gv_seq <| gv_region <| gv_cut_ops (J := fun a w44 => w34 = w44 ∧ a.defers = [] ∧ a.tmps.size = 116 ∧ Ok [(0, (.slice pa0_0 (List.length b_0) pc0_0)), (1, (.int .i64 coding_1)), (6, (.slice a7 (List.length s3.1) c8)), (7, (.int .i64 s3.2.1)), (8, (.int .i64 s3.2.2)), (9, (.int .i64 (-1))), (10, (.int .i64 2)), (13, (.int .i64 n42)), (43, (.bool ((decide (n42 < 55296)) || (decide (n42 > 57343)))))] a.tmps) ?_ ?_
         ·skip
          refine gv_pureN 3 [38, 39, 40] [(40, (.bool (decide (n42 < 55296))))] (by kernel_rfl) ?_
          refine gv_split (s := 40) (g := (decide (n42 < 55296))) (by kernel_rfl) (fun hc45 => ?_) (fun hc45 => ?_)
          ·skip
           refine gv_pureN 3 [41, 42, 43] [(43, (.bool true))] (by kernel_rfl) ?_
           refine gv_nil <| gv_sub [0, 1, 6, 7, 8, 9, 10, 13, 43] (σ' := [(0, (.slice pa0_0 (List.length b_0) pc0_0)), (1, (.int .i64 coding_1)), (6, (.slice a7 (List.length s3.1) c8)), (7, (.int .i64 s3.2.1)), (8, (.int .i64 s3.2.2)), (9, (.int .i64 (-1))), (10, (.int .i64 2)), (13, (.int .i64 n42)), (43, (.bool true))]) (by kernel_rfl) ?_
           refine gv_goal fun a hd hs hok => ⟨rfl, hd, hs, ?_⟩
           obtain ⟨q0, q1, q6, q7, q8, q9, q10, q13, q43, _⟩ := hok
           exact ⟨q0, q1, q6, q7, q8, q9, q10, q13, (by rw [hc45]; exact q43), trivial⟩
          ·skip
           refine gv_pureN 3 [41, 42, 43] [(43, (.bool (decide (n42 > 57343))))] (by kernel_rfl) ?_
           refine gv_nil <| gv_sub [0, 1, 6, 7, 8, 9, 10, 13, 43] (σ' := [(0, (.slice pa0_0 (List.length b_0) pc0_0)), (1, (.int .i64 coding_1)), (6, (.slice a7 (List.length s3.1) c8)), (7, (.int .i64 s3.2.1)), (8, (.int .i64 s3.2.2)), (9, (.int .i64 (-1))), (10, (.int .i64 2)), (13, (.int .i64 n42)), (43, (.bool (decide (n42 > 57343))))]) (by kernel_rfl) ?_
           refine gv_goal fun a hd hs hok => ⟨rfl, hd, hs, ?_⟩
           obtain ⟨q0, q1, q6, q7, q8, q9, q10, q13, q43, _⟩ := hok
           exact ⟨q0, q1, q6, q7, q8, q9, q10, q13, (by rw [hc45]; exact q43), trivial⟩
         ·rintro a w44 ⟨e, hd, hs, hok⟩; subst e
          refine gv_in ?_ hd hs hok
          clear hd hs hok
          refine gv_cond (b := ((decide (n42 < 55296)) || (decide (n42 > 57343)))) (by kernel_rfl) (fun hc46 => ?_) (fun hc46 => ?_)
          ·replace h4 := ite_t hc46 h4
           refine gv_region <| gv_pureN 2 [9, 44] [(9, (.int .i64 n42))] (by kernel_rfl) ?_
           refine gv_nil ?_
           have e := sj h4; subst e
           refine gv_goal fun a hd hs hok => ?_
           have hz47 := hg35.size
           have hk48 := ho9.grown hg35 (fun _ h => h.elim) nb
           exact ⟨(n42, 2), rfl, hB38, hz47, hk48, hd, hs, ok_pick [0, 1, 6, 7, 8, 9, 10] hok (by kernel_rfl)⟩
          ·replace h4 := ite_f hc46 h4
           refine gv_seq <| gv_region <| gv_cut_ops (J := fun a w49 => w34 = w49 ∧ a.defers = [] ∧ a.tmps.size = 116 ∧ Ok [(0, (.slice pa0_0 (List.length b_0) pc0_0)), (1, (.int .i64 coding_1)), (6, (.slice a7 (List.length s3.1) c8)), (7, (.int .i64 s3.2.1)), (8, (.int .i64 s3.2.2)), (9, (.int .i64 (-1))), (10, (.int .i64 2)), (13, (.int .i64 n42)), (53, (.bool ((decide (n42 < 56320)) && (decide ((IntKind.i64.wrap (s3.2.2 + 3)) < ((List.length b_0 : Nat) : Int))))))] a.tmps) ?_ ?_
           ·skip
            refine gv_pureN 3 [45, 46, 47] [(47, (.bool (decide (n42 < 56320))))] (by kernel_rfl) ?_
            refine gv_split (s := 47) (g := (decide (n42 < 56320))) (by kernel_rfl) (fun hc50 => ?_) (fun hc50 => ?_)
            ·skip
             refine gv_pureN 6 [48, 49, 50, 51, 52, 53] [(53, (.bool (decide ((IntKind.i64.wrap (s3.2.2 + 3)) < ((List.length b_0 : Nat) : Int)))))] (by kernel_rfl) ?_
             refine gv_nil <| gv_sub [0, 1, 6, 7, 8, 9, 10, 13, 53] (σ' := [(0, (.slice pa0_0 (List.length b_0) pc0_0)), (1, (.int .i64 coding_1)), (6, (.slice a7 (List.length s3.1) c8)), (7, (.int .i64 s3.2.1)), (8, (.int .i64 s3.2.2)), (9, (.int .i64 (-1))), (10, (.int .i64 2)), (13, (.int .i64 n42)), (53, (.bool (decide ((IntKind.i64.wrap (s3.2.2 + 3)) < ((List.length b_0 : Nat) : Int)))))]) (by kernel_rfl) ?_
             refine gv_goal fun a hd hs hok => ⟨rfl, hd, hs, ?_⟩
             obtain ⟨q0, q1, q6, q7, q8, q9, q10, q13, q53, _⟩ := hok
             exact ⟨q0, q1, q6, q7, q8, q9, q10, q13, (by rw [hc50]; exact q53), trivial⟩
            ·skip
             refine gv_pureN 6 [48, 49, 50, 51, 52, 53] [(53, (.bool false))] (by kernel_rfl) ?_
             refine gv_nil <| gv_sub [0, 1, 6, 7, 8, 9, 10, 13, 53] (σ' := [(0, (.slice pa0_0 (List.length b_0) pc0_0)), (1, (.int .i64 coding_1)), (6, (.slice a7 (List.length s3.1) c8)), (7, (.int .i64 s3.2.1)), (8, (.int .i64 s3.2.2)), (9, (.int .i64 (-1))), (10, (.int .i64 2)), (13, (.int .i64 n42)), (53, (.bool false))]) (by kernel_rfl) ?_
             refine gv_goal fun a hd hs hok => ⟨rfl, hd, hs, ?_⟩
             obtain ⟨q0, q1, q6, q7, q8, q9, q10, q13, q53, _⟩ := hok
             exact ⟨q0, q1, q6, q7, q8, q9, q10, q13, (by rw [hc50]; exact q53), trivial⟩
           ·rintro a w49 ⟨e, hd, hs, hok⟩; subst e
            refine gv_in ?_ hd hs hok
            clear hd hs hok
            refine gv_cond (b := ((decide (n42 < 56320)) && (decide ((IntKind.i64.wrap (s3.2.2 + 3)) < ((List.length b_0 : Nat) : Int))))) (by kernel_rfl) (fun hc51 => ?_) (fun hc51 => ?_)
            ·replace h4 := ite_t hc51 h4
             refine gv_seq <| gv_drawA (by kernel_rfl) ?_
             intro w52 hg53
             refine gv_pre [0, 1, 2, 3, 7, 8, 9, 10] (bA 15 [0, 1, 2, 3, 7, 8, 9, 10]) 7 (by kernel_rfl) (by kernel_rfl) ?_
             refine gv_pureN 3 [54, 55, 56] [(54, (.slice pa0_0 (List.length b_0) pc0_0)), (56, (.int .i64 (IntKind.i64.wrap (s3.2.2 + 2))))] (by kernel_rfl) ?_
             refine bindE h4 ?_; clear h4; intro x54 hx55 h4
             have hB56 := bg hB38 hg53 nb
             refine gv_idxaddr (t := 22) (e := 5) (a := pa0_0) (len := List.length b_0) (cap := pc0_0) (kk := .i64) (i := (IntKind.i64.wrap (s3.2.2 + 2))) (sz := 1) [] (fun e => by cases e) rfl rfl rfl (by kernel_rfl) (by kernel_rfl) Tryd.underlying22 (by kernel_rfl) ((hpa0_0.below hB56 hX0).has hx55) (idx_spec hx55).1 (idx_spec hx55).2.1 rfl ?_
             refine gv_pureN 3 [61, 62, 63] [(61, (.slice pa0_0 (List.length b_0) pc0_0)), (63, (.int .i64 (IntKind.i64.wrap (s3.2.2 + 3))))] (by kernel_rfl) ?_
             refine bindE h4 ?_; clear h4; intro x57 hx58 h4
             refine gv_idxaddr (t := 22) (e := 5) (a := pa0_0) (len := List.length b_0) (cap := pc0_0) (kk := .i64) (i := (IntKind.i64.wrap (s3.2.2 + 3))) (sz := 1) [] (fun e => by cases e) rfl rfl rfl (by kernel_rfl) (by kernel_rfl) Tryd.underlying22 (by kernel_rfl) ((hpa0_0.below hB56 hX0).has hx58) (idx_spec hx58).1 (idx_spec hx58).2.1 rfl ?_
             refine gv_nil <| gv_goA ?_
             refine gv_stage (Cls w52 []) [0, 1, 2, 3, 4, 5, 6, 7, 8, 9, 10, 11, 12] [(4, some true), (5, some true), (6, some true), (11, some true), (12, some true)] (bA 15 [0, 1, 2, 3, 4, 5, 6, 7, 8, 9, 10, 11, 12]) 2 (by kernel_rfl) (by kernel_rfl) (Cls.refl _ _) ?_
             have hC59 := Cls.refl w52 []
             refine gv_load (t := 5) (A := (elemAddr pa0_0 (((IntKind.i64.wrap (s3.2.2 + 2)) : Int).toNat * 1))) (.int .u8 ((x54).toNat : Int)) [] (fun e => by cases e) rfl rfl rfl (by kernel_rfl) (by kernel_rfl) (by kernel_rfl) (inw1 fun w' hC' => ((hC'.rd (hpa0_0.below hB56 hX0) (fun k (hk : X0 k) => ltl (hX0 k hk) hB56.size) nmx_nil).cell hx55)) rfl ?_
             refine gv_pureN 2 [59, 60] [(60, (.int .i64 (IntKind.i64.wrap ((IntKind.i64.wrap (((x54).toNat : Int))) * 256))))] (by kernel_rfl) ?_
             refine gv_load (t := 5) (A := (elemAddr pa0_0 (((IntKind.i64.wrap (s3.2.2 + 3)) : Int).toNat * 1))) (.int .u8 ((x57).toNat : Int)) [] (fun e => by cases e) rfl rfl rfl (by kernel_rfl) (by kernel_rfl) (by kernel_rfl) (inw1 fun w' hC' => ((hC'.rd (hpa0_0.below hB56 hX0) (fun k (hk : X0 k) => ltl (hX0 k hk) hB56.size) nmx_nil).cell hx58)) rfl ?_
             refine gv_pureN 1 [66] [(66, (.int .i64 (IntKind.i64.wrap (((x57).toNat : Int)))))] (by kernel_rfl) ?_
             refine gv_nil <| gv_goA ?_
             refine gv_pre [13, 14] (bA 15 [0, 1, 2, 3, 4, 5, 6, 7, 8, 9, 10, 11, 12, 13, 14]) 0 (by kernel_rfl) (by kernel_rfl) ?_
             refine gv_pureN 2 [14, 67] [(14, (.int .i64 (IntKind.i64.wrap ((IntKind.i64.wrap ((IntKind.i64.wrap (((x54).toNat : Int))) * 256)) + (IntKind.i64.wrap (((x57).toNat : Int)))))))] (by kernel_rfl) ?_
             refine bindE h4 ?_; clear h4; intro n60 hn61 h4
             refine gv_name (s := 14) (v := (.int .i64 (IntKind.i64.wrap ((IntKind.i64.wrap ((IntKind.i64.wrap (((x54).toNat : Int))) * 256)) + (IntKind.i64.wrap (((x57).toNat : Int))))))) (v' := (.int .i64 n60)) (by kernel_rfl) (congrArg (Value.int .i64) (sj hn61)) ?_
             refine gv_nil <| gv_goA ?_
             refine gv_stageE (by kernel_rfl) ?_
             refine gv_seq <| gv_region <| gv_cut_ops (J := fun a w62 => w52 = w62 ∧ a.defers = [] ∧ a.tmps.size = 116 ∧ Ok [(0, (.slice pa0_0 (List.length b_0) pc0_0)), (1, (.int .i64 coding_1)), (6, (.slice a7 (List.length s3.1) c8)), (7, (.int .i64 s3.2.1)), (8, (.int .i64 s3.2.2)), (9, (.int .i64 (-1))), (10, (.int .i64 2)), (13, (.int .i64 n42)), (14, (.int .i64 n60)), (73, (.bool ((decide (n60 ≥ 56320)) && (decide (n60 ≤ 57343)))))] a.tmps) ?_ ?_
             ·skip
              refine gv_pureN 3 [68, 69, 70] [(70, (.bool (decide (n60 ≥ 56320))))] (by kernel_rfl) ?_
              refine gv_split (s := 70) (g := (decide (n60 ≥ 56320))) (by kernel_rfl) (fun hc63 => ?_) (fun hc63 => ?_)
              ·skip
               refine gv_pureN 3 [71, 72, 73] [(73, (.bool (decide (n60 ≤ 57343))))] (by kernel_rfl) ?_
               refine gv_nil <| gv_sub [0, 1, 6, 7, 8, 9, 10, 13, 14, 73] (σ' := [(0, (.slice pa0_0 (List.length b_0) pc0_0)), (1, (.int .i64 coding_1)), (6, (.slice a7 (List.length s3.1) c8)), (7, (.int .i64 s3.2.1)), (8, (.int .i64 s3.2.2)), (9, (.int .i64 (-1))), (10, (.int .i64 2)), (13, (.int .i64 n42)), (14, (.int .i64 n60)), (73, (.bool (decide (n60 ≤ 57343))))]) (by kernel_rfl) ?_
               refine gv_goal fun a hd hs hok => ⟨rfl, hd, hs, ?_⟩
               obtain ⟨q0, q1, q6, q7, q8, q9, q10, q13, q14, q73, _⟩ := hok
               exact ⟨q0, q1, q6, q7, q8, q9, q10, q13, q14, (by rw [hc63]; exact q73), trivial⟩
              ·skip
               refine gv_pureN 3 [71, 72, 73] [(73, (.bool false))] (by kernel_rfl) ?_
               refine gv_nil <| gv_sub [0, 1, 6, 7, 8, 9, 10, 13, 14, 73] (σ' := [(0, (.slice pa0_0 (List.length b_0) pc0_0)), (1, (.int .i64 coding_1)), (6, (.slice a7 (List.length s3.1) c8)), (7, (.int .i64 s3.2.1)), (8, (.int .i64 s3.2.2)), (9, (.int .i64 (-1))), (10, (.int .i64 2)), (13, (.int .i64 n42)), (14, (.int .i64 n60)), (73, (.bool false))]) (by kernel_rfl) ?_
               refine gv_goal fun a hd hs hok => ⟨rfl, hd, hs, ?_⟩
               obtain ⟨q0, q1, q6, q7, q8, q9, q10, q13, q14, q73, _⟩ := hok
               exact ⟨q0, q1, q6, q7, q8, q9, q10, q13, q14, (by rw [hc63]; exact q73), trivial⟩
             ·rintro a w62 ⟨e, hd, hs, hok⟩; subst e
              refine gv_in ?_ hd hs hok
              clear hd hs hok
              refine gv_cond (b := ((decide (n60 ≥ 56320)) && (decide (n60 ≤ 57343)))) (by kernel_rfl) (fun hc64 => ?_) (fun hc64 => ?_)
              ·replace h4 := ite_t hc64 h4
               refine gv_region <| gv_pureN 9 [9, 10, 74, 75, 76, 77, 78, 79, 80] [(9, (.int .i64 (IntKind.i64.wrap ((IntKind.i64.wrap ((IntKind.i64.wrap (65536 + (IntKind.i64.wrap ((IntKind.i64.wrap (n42 - 55296)) * 1024)))) + n60)) - 56320)))), (10, (.int .i64 4))] (by kernel_rfl) ?_
               refine bindE h4 ?_; clear h4; intro n65 hn66 h4
               refine gv_name (s := 9) (v := (.int .i64 (IntKind.i64.wrap ((IntKind.i64.wrap ((IntKind.i64.wrap (65536 + (IntKind.i64.wrap ((IntKind.i64.wrap (n42 - 55296)) * 1024)))) + n60)) - 56320)))) (v' := (.int .i64 n65)) (by kernel_rfl) (congrArg (Value.int .i64) (sj hn66)) ?_
               refine gv_nil ?_
               have e := sj h4; subst e
               refine gv_goal fun a hd hs hok => ?_
               have hz67 := (nt hg35.size hg53.size)
               have hg68 := (grown_trans hg35 hg53)
               have hk69 := ho9.grown hg68 (fun _ h => h.elim) nb
               exact ⟨(n65, 4), rfl, hB56, hz67, hk69, hd, hs, ok_pick [0, 1, 6, 7, 8, 9, 10] hok (by kernel_rfl)⟩
              ·replace h4 := ite_f hc64 h4
               refine gv_skip ?_
               have e := sj h4; subst e
               refine gv_goal fun a hd hs hok => ?_
               have hz70 := (nt hg35.size hg53.size)
               have hg71 := (grown_trans hg35 hg53)
               have hk72 := ho9.grown hg71 (fun _ h => h.elim) nb
               exact ⟨((-1), 2), rfl, hB56, hz70, hk72, hd, hs, ok_pick [0, 1, 6, 7, 8, 9, 10] hok (by kernel_rfl)⟩
            ·replace h4 := ite_f hc51 h4
             refine gv_skip ?_
             have e := sj h4; subst e
             refine gv_goal fun a hd hs hok => ?_
             have hz73 := hg35.size
             have hk74 := ho9.grown hg35 (fun _ h => h.elim) nb
             exact ⟨((-1), 2), rfl, hB38, hz73, hk74, hd, hs, ok_pick [0, 1, 6, 7, 8, 9, 10] hok (by kernel_rfl)⟩
     ·rintro a w16 ⟨s15, e, hB75, hz76, hk77, hd, hs, hok⟩
      subst e
      refine gv_in ?_ hd hs hok
      clear hd hs hok
      replace h3 := cont_inl h3
      refine gv_blk ?_
      have e := sj h3; subst e
      refine gv_goal fun a hd hs hok => ?_
      have hz78 := hz76
      exact ⟨hB75, hz78, hk77, hd, hs, ok_pick [0, 1, 6, 7, 8, 9, 10] hok (by kernel_rfl)⟩
    ·rintro a w13 ⟨hB79, hz80, hk81, hd, hs, hok⟩
     refine gv_in ?_ hd hs hok
     clear hd hs hok
     have hz82 := (nt hz6 hz80)
     clear hz80 hc11 ho9 hz6 hB5
     refine gv_seq <| gv_seq <| gv_region <| gv_cut_ops (J := fun a w83 => w13 = w83 ∧ a.defers = [] ∧ a.tmps.size = 116 ∧ Ok [(0, (.slice pa0_0 (List.length b_0) pc0_0)), (1, (.int .i64 coding_1)), (6, (.slice a7 (List.length s3.1) c8)), (7, (.int .i64 s3.2.1)), (8, (.int .i64 s3.2.2)), (9, (.int .i64 j12.1)), (10, (.int .i64 j12.2)), (105, (.bool ((decide (j12.1 < 0)) && (decide (s3.2.1 < 0)))))] a.tmps) ?_ ?_
     ·skip
      refine gv_pureN 3 [100, 101, 102] [(102, (.bool (decide (j12.1 < 0))))] (by kernel_rfl) ?_
      refine gv_split (s := 102) (g := (decide (j12.1 < 0))) (by kernel_rfl) (fun hc84 => ?_) (fun hc84 => ?_)
      ·skip
       refine gv_pureN 3 [103, 104, 105] [(105, (.bool (decide (s3.2.1 < 0))))] (by kernel_rfl) ?_
       refine gv_nil <| gv_sub [0, 1, 6, 7, 8, 9, 10, 105] (σ' := [(0, (.slice pa0_0 (List.length b_0) pc0_0)), (1, (.int .i64 coding_1)), (6, (.slice a7 (List.length s3.1) c8)), (7, (.int .i64 s3.2.1)), (8, (.int .i64 s3.2.2)), (9, (.int .i64 j12.1)), (10, (.int .i64 j12.2)), (105, (.bool (decide (s3.2.1 < 0))))]) (by kernel_rfl) ?_
       refine gv_goal fun a hd hs hok => ⟨rfl, hd, hs, ?_⟩
       obtain ⟨q0, q1, q6, q7, q8, q9, q10, q105, _⟩ := hok
       exact ⟨q0, q1, q6, q7, q8, q9, q10, (by rw [hc84]; exact q105), trivial⟩
      ·skip
       refine gv_pureN 3 [103, 104, 105] [(105, (.bool false))] (by kernel_rfl) ?_
       refine gv_nil <| gv_sub [0, 1, 6, 7, 8, 9, 10, 105] (σ' := [(0, (.slice pa0_0 (List.length b_0) pc0_0)), (1, (.int .i64 coding_1)), (6, (.slice a7 (List.length s3.1) c8)), (7, (.int .i64 s3.2.1)), (8, (.int .i64 s3.2.2)), (9, (.int .i64 j12.1)), (10, (.int .i64 j12.2)), (105, (.bool false))]) (by kernel_rfl) ?_
       refine gv_goal fun a hd hs hok => ⟨rfl, hd, hs, ?_⟩
       obtain ⟨q0, q1, q6, q7, q8, q9, q10, q105, _⟩ := hok
       exact ⟨q0, q1, q6, q7, q8, q9, q10, (by rw [hc84]; exact q105), trivial⟩
     ·rintro a w83 ⟨e, hd, hs, hok⟩; subst e
      refine gv_in ?_ hd hs hok
      clear hd hs hok
      refine bindE h2 ?_; clear h2; intro j85 h3 h2
      refine gv_cut_code (J := fun a w86 => Below w0.heap.size w0 w86 ∧ w13.heap.size ≤ w86.heap.size ∧ Gv.Own (iE .i64) 3 w86 (fun _ => False) a7 c8 s3.1 ∧ a.defers = [] ∧ a.tmps.size = 116 ∧ Ok [(0, (.slice pa0_0 (List.length b_0) pc0_0)), (1, (.int .i64 coding_1)), (6, (.slice a7 (List.length s3.1) c8)), (7, (.int .i64 j85)), (8, (.int .i64 s3.2.2)), (9, (.int .i64 j12.1)), (10, (.int .i64 j12.2))] a.tmps) ?_ ?_
      ·skip
       refine gv_cond (b := ((decide (j12.1 < 0)) && (decide (s3.2.1 < 0)))) (by kernel_rfl) (fun hc87 => ?_) (fun hc87 => ?_)
       ·replace h3 := ite_t hc87 h3
        refine gv_region <| gv_pureN 2 [7, 106] [(7, (.int .i64 s3.2.2))] (by kernel_rfl) ?_
        refine gv_nil ?_
        have e := sj h3; subst e
        refine gv_goal fun a hd hs hok => ?_
        exact ⟨hB79, (Nat.le_refl _), hk81, hd, hs, ok_pick [0, 1, 6, 7, 8, 9, 10] hok (by kernel_rfl)⟩
       ·replace h3 := ite_f hc87 h3
        refine gv_skip ?_
        have e := sj h3; subst e
        refine gv_goal fun a hd hs hok => ?_
        exact ⟨hB79, (Nat.le_refl _), hk81, hd, hs, ok_pick [0, 1, 6, 7, 8, 9, 10] hok (by kernel_rfl)⟩
      ·rintro a w86 ⟨hB88, hz89, hk90, hd, hs, hok⟩
       refine gv_in ?_ hd hs hok
       clear hd hs hok
       have hz91 := (nt hz82 hz89)
       clear hz89 hz82 hk81 hB79
       refine gv_seq <| gv_region <| gv_pureN 2 [107, 108] [(107, (.slice a7 (List.length s3.1) c8)), (108, (.int .i64 j12.1))] (by kernel_rfl) ?_
       refine gv_new0 (fun b => .slice (some ⟨b, 0, none⟩) 1 1) #[(.int .i64 j12.1)] 3 (by kernel_rfl) (by kernel_rfl) ?_
       intro b92 w93 hg94 hb95 hbe96 hz97
       have ho98 : Gv.Own (iE .i64) 3 w93 (fun _ => False) (some ⟨b92, 0, none⟩) 1 ([j12.1] : List Int) := Box.ownE hb95 ⟨[(.int .i64 j12.1)], [], rfl, rfl, rfl⟩ (show 1 ≤ maxLen by decide) (fun h => h)
       have hl99 : ∀ g, blk (some ⟨b92, 0, none⟩) = some g → w0.heap.size ≤ g := loo hbe96 hB88.size
       refine bindE h2 ?_; clear h2; intro l103 hx104 h2
       have hk111 := hk90.grown hg94 (fun _ h => h.elim) nb
       refine gv_append (iE .i64) (t := 45) (ty := 45) (e := 3) (a := a7) (ax := (some ⟨b92, 0, none⟩)) (cap := c8) (cx := 1) (xs := s3.1) (ys := ([j12.1] : List Int)) l103 (X := (fun _ => False)) (Y := (fun k => blk (some ⟨b92, 0, none⟩) = some k)) (by decide) rfl rfl (by kernel_rfl) (by kernel_rfl) Tryd.underlying45 info3 hk111 (ho98.rd (Y := fun k => blk (some ⟨b92, 0, none⟩) = some k) (fun _ h => h.elim) (fun g e => e)) hx104 (.inr fun _ _ _ _ _ h => h) (fun _ h => h.elim) ?_
       intro a105 c106 w107 hg108 ho109 hk110
       refine ⟨(fun e => by cases e), ?_⟩
       have hB113 := bg hB88 hg94 nb
       have hl112 : ∀ g, blk a105 = some g → w0.heap.size ≤ g := blk_step hk110 hl10 hB113.size
       have ap115 : ∀ g, blk a7 = some g → ¬ (fun k => blk (some ⟨b92, 0, none⟩) = some k) g := fun g e hx => nl ((lowo hbe96) _ hx) ((fun k (hk : blk a7 = some k) => hk90.lt k hk) g e)
       have ap114 : ∀ g, blk a105 = some g → ¬ (fun k => blk (some ⟨b92, 0, none⟩) = some k) g := blk_neX hk110 ap115 (fun k (hk : blk (some ⟨b92, 0, none⟩) = some k) => ho98.lt k hk)
       have ap117 : ∀ g, blk (some ⟨b92, 0, none⟩) = some g → ¬ (fun k => blk a7 = some k) g := fun g e hx => nl ((lowo hbe96) g e) ((fun k (hk : blk a7 = some k) => hk90.lt k hk) _ hx)
       have ap116 : ∀ g, blk (some ⟨b92, 0, none⟩) = some g → ¬ (fun k => blk a105 = some k) g := fun g e h => blk_rev hk110 (fun h => ((ap117) g e) h) (ho98.lt g e) h
       refine gv_pureN 1 [6] [(6, (.slice a105 (List.length l103) c106))] (by kernel_rfl) ?_
       refine gv_nil <| gv_region <| gv_pureN 4 [8, 111, 112, 113] [(8, (.int .i64 (IntKind.i64.wrap (s3.2.2 + j12.2))))] (by kernel_rfl) ?_
       refine gv_nil <| gv_blk ?_
       have e := sj h2; subst e
       refine gv_goal fun a hd hs hok => ?_
       have hB118 := bg hB113 hg108 hl10
       have hz119 := (nt (nt hz91 hg94.size) hg108.size)
       exact ⟨(l103, j85, (IntKind.i64.wrap (s3.2.2 + j12.2))), rfl, a105, c106, hB118, hz119, ho109, hl112, hd, hs, ok_pick [0, 1, 6, 7, 8] hok (by kernel_rfl)⟩
   ·replace h2 := ite_f hc11 h2
    refine gv_cexit <| gv_exit rfl ?_
    have e := sj h2; subst e
    replace h1 := congrArg some (hR2 _ rfl)
    have e := sj h1; subst e
    refine gv_goal fun a hd hs hok => ?_
    have hz120 := hz6
    exact ⟨a7, c8, hB5, hz120, ho9, hl10, hd, hs, ok_pick [6, 7] hok (by kernel_rfl)⟩
 ·rintro a w2 ⟨a123, c124, hB121, hz122, ho125, hl126, hd, hs, hok⟩
  refine gv_in ?_ hd hs hok
  clear hd hs hok
  refine gv_seq <| gv_region <| gv_pureN 4 [4, 5, 114, 115] [(4, (.slice a123 (List.length j1.1) c124)), (5, (.int .i64 j1.2))] (by kernel_rfl) ?_
  refine gv_nil <| gv_cret ?_
  have e := sj h0; subst e
  refine gv_ret (gv_done [(.slice a123 (List.length j1.1) c124), (.int .i64 j1.2)] rfl ⟨(by kernel_rfl), (by kernel_rfl), trivial⟩ ?_)
  exact ⟨grown_of_below hB121, a123, c124, rfl, ho125, hl126⟩

theorem ref4_String_ok (fuel : Nat) (pa0_0 : Option Addr) (pc0_0 : Nat) (l_0 : (List Int)) (w0 : World) (X0 : Nat → Prop) (hX0 : ∀ k, X0 k → k < w0.heap.size) (hpa0_0 : Rd (iE .i64) w0 X0 pa0_0 pc0_0 l_0) (r0 : ByteArray) (h0 : ref4_String fuel l_0 = some r0) :
    Calls Tryd.prog 28 ([(.slice pa0_0 (List.length l_0) pc0_0)] : List Value).toArray w0 (Ret fun v w' => w0.grownBy w' none ∧ v = tup [(.string r0)]) := by
 have hB0 : Below w0.heap.size w0 w0 := Below.refl _ _
 unfold ref4_String at h0
 refine calls_run Tryd.func28 rfl Tryd.ntmps28 (by kernel_rfl) ?_
 refine gv_sub [0] (σ' := [(0, (.slice pa0_0 (List.length l_0) pc0_0))]) (by kernel_rfl) ?_
 refine gv_seq <| gv_region <| gv_pureN 1 [2] [] (by kernel_rfl) ?_
 refine gv_nil <| gv_seq <| gv_region <| gv_pureN 1 [3] [(3, (.slice pa0_0 (List.length l_0) pc0_0))] (by kernel_rfl) ?_
 refine bindE h0 ?_; clear h0; intro r1 hr2 h0
 refine gv_call0 (by kernel_rfl) rfl (by kernel_rfl) enters48 (ref4_Encoded_ok fuel pa0_0 pc0_0 l_0 w0 (fun k => X0 k) (fun k hk => (fun k (hk : X0 k) => ltl (hX0 k hk) hB0.size) k hk) ((hpa0_0.below hB0 hX0).wide (fun k hk => hk)) r1 hr2) ?_
 rintro v5 w3 ⟨hg4, a6, c7, rfl, ho8, hl9⟩
 have hl10 : ∀ g, blk a6 = some g → w0.heap.size ≤ g := fun g e => Nat.le_trans hB0.size (hl9 g e)
 refine gv_b2s (src := 22) (dst := 9) (e := 5) (xs := r1) (a := a6) (cap := c7) (X := (fun k => blk a6 = some k)) [] (fun e => by cases e) rfl rfl rfl (by kernel_rfl) (by kernel_rfl) Tryd.underlying22 Tryd.underlying5 Tryd.underlying9 (inw0 (ho8.rd (Y := fun k => blk a6 = some k) (fun _ h => h.elim) (fun g e => e))) rfl ?_
 refine gv_pureN 1 [2] [(2, (.string (strOf r1)))] (by kernel_rfl) ?_
 refine gv_nil <| gv_cret ?_
 have e := sj h0; subst e
 refine gv_ret (gv_done [(.string (strOf r1))] rfl ⟨(by kernel_rfl), trivial⟩ ?_)
 have hB11 := bg hB0 hg4 nb
 exact ⟨grown_of_below hB11, rfl⟩

end Go.Proofs.YtlclmpegnkomcaaDoor
