import Derived.Test.YtlclmpegnkomcaaDoorP0
set_option linter.all false
set_option maxHeartbeats 4000000
set_option maxRecDepth 100000
/- Own work, printed by a program of mine: the walk of each function: a call returns what the plain function says. -/
namespace Go.Proofs.YtlclmpegnkomcaaDoor
open Go.Gv Go.Gv.D Go.RowKit
theorem utf8_ValidString_ok (fuel : Nat) (s_0 : ByteArray) (w0 : World) (X0 : Nat → Prop) (hX0 : ∀ k, X0 k → k < w0.heap.size) (hG0 : Rd bE w0 X0 (some ⟨0, 0, none⟩) 256 utf8First) (hG1 : Rd (prE (iE .u8) (iE .u8)) w0 X0 (some ⟨1, 0, none⟩) 16 utf8Acc) (r0 : Bool) (h0 : utf8_ValidString fuel s_0 = some r0) :
    Calls Tryd.prog 42 ([(.string s_0)] : List Value).toArray w0 (Ret fun v w' => w0.grownBy w' none ∧ v = tup [(.bool r0)]) := by
 have hB0 : Below w0.heap.size w0 w0 := Below.refl _ _
 unfold utf8_ValidString at h0
 refine calls_run Tryd.func42 rfl Tryd.ntmps42 (by kernel_rfl) ?_
 refine gv_sub [0] (σ' := [(0, (.string s_0))]) (by kernel_rfl) ?_
 refine gv_seq <| gv_region <| gv_pureN 1 [2] [] (by kernel_rfl) ?_
 refine gv_nil <| gv_seq <| bindE h0 ?_; clear h0; intro j1 h1 h0
 refine gv_cut_code (J := fun a w3 => ∃ s2 : Unit, j1 = .inl s2 ∧ Below w0.heap.size w0 w3 ∧ w0.heap.size ≤ w3.heap.size ∧ a.defers = [] ∧ a.tmps.size = 169 ∧ Ok [] a.tmps) ?_ ?_
 ·skip
  refine gv_block <| gv_loop (A := fun (s4 : ByteArray) a w5 => Below w0.heap.size w0 w5 ∧ w0.heap.size ≤ w5.heap.size ∧ a.defers = [] ∧ a.tmps.size = 169 ∧ Ok [(0, (.string s4))] a.tmps) h1 ?_ ?_
  ·intro a hd hs hok
   exact ⟨hB0, (Nat.le_refl _), hd, hs, ok_pick [0] hok (by kernel_rfl)⟩
  ·rintro s4 r2 h2 hR2 a w5 ⟨hB6, hz7, hd, hs, hok⟩
   refine gv_in ?_ hd hs hok
   clear hd hs hok
   refine gv_seq <| gv_seq <| gv_region <| gv_pureN 3 [7, 8, 9] [(9, (.bool (decide (((ByteArray.size s4 : Nat) : Int) > 0))))] (by kernel_rfl) ?_
   refine gv_nil <| gv_cond (b := (decide (((ByteArray.size s4 : Nat) : Int) > 0))) (by kernel_rfl) (fun hc8 => ?_) (fun hc8 => ?_)
   ·replace h2 := ite_t hc8 h2
    refine gv_skip <| gv_block <| gv_seq <| gv_region <| gv_pureN 1 [10] [(10, (.string s4))] (by kernel_rfl) ?_
    refine bindE h2 ?_; clear h2; intro x9 hx10 h2
    refine gv_sindex (t := 9) (s := s4) (kk := .i64) (i := 0) x9 [] (fun e => by cases e) rfl rfl rfl (by kernel_rfl) (by kernel_rfl) Tryd.underlying9 hx10 rfl ?_
    refine gv_pureN 1 [3] [(3, (.int .u8 x9))] (by kernel_rfl) ?_
    refine gv_nil <| gv_seq <| gv_seq <| gv_region <| gv_pureN 2 [12, 13] [(13, (.bool (decide (x9 < 128))))] (by kernel_rfl) ?_
    refine gv_nil <| gv_cond (b := (decide (x9 < 128))) (by kernel_rfl) (fun hc11 => ?_) (fun hc11 => ?_)
    ·replace h2 := ite_t hc11 h2
     refine gv_seq <| gv_region <| gv_pureN 1 [14] [(14, (.string s4))] (by kernel_rfl) ?_
     refine bindE h2 ?_; clear h2; intro x12 hx13 h2
     refine gv_ssub (t := 9) (s := s4) (lo := (some (.int .i64 1))) (hi := none) 1 ((ByteArray.size s4 : Nat) : Int) x12 [] (fun e => by cases e) rfl rfl rfl (by kernel_rfl) (by kernel_rfl) Tryd.underlying9 (.inr ⟨_, rfl⟩) (.inl ⟨rfl, rfl⟩) hx13 rfl ?_
     refine gv_pureN 1 [0] [(0, (.string x12))] (by kernel_rfl) ?_
     refine gv_nil <| gv_seq <| gv_seq <| gv_region <| bindE h2 ?_; clear h2; intro j14 h3 h2
     refine gv_cut_ops (J := fun a w15 => Below w0.heap.size w0 w15 ∧ w5.heap.size ≤ w15.heap.size ∧ a.defers = [] ∧ a.tmps.size = 169 ∧ Ok [(0, (.string x12)), (24, (.bool j14))] a.tmps) ?_ ?_
     ·skip
      refine gv_pureN 4 [16, 17, 18, 19] [(19, (.bool (decide (((ByteArray.size x12 : Nat) : Int) > 8))))] (by kernel_rfl) ?_
      refine gv_split (s := 19) (g := (decide (((ByteArray.size x12 : Nat) : Int) > 8))) (by kernel_rfl) (fun hc16 => ?_) (fun hc16 => ?_)
      ·skip
       replace h3 := ite_t hc16 h3
       refine gv_pureN 1 [20] [(20, (.string x12))] (by kernel_rfl) ?_
       refine bindE h3 ?_; clear h3; intro r17 hr18 h3
       refine gv_call0 (by kernel_rfl) rfl (by kernel_rfl) enters61 (utf8_word_string_ok fuel x12 w5  r17 hr18) ?_
       rintro v21 w19 ⟨hg20, rfl⟩
       refine gv_pureN 3 [22, 23, 24] [(24, (.bool ((bwAnd .u64 r17 9259542123273814144) == 0)))] (by kernel_rfl) ?_
       refine gv_nil ?_
       have e := sj h3; subst e
       refine gv_goal fun a hd hs hok => ?_
       have hB22 := bg hB6 hg20 nb
       have hz23 := hg20.size
       exact ⟨hB22, hz23, hd, hs, ok_pick [0, 24] hok (by kernel_rfl)⟩
      ·skip
       replace h3 := ite_f hc16 h3
       refine gv_pureN 5 [20, 21, 22, 23, 24] [(24, (.bool false))] (by kernel_rfl) ?_
       refine gv_nil ?_
       have e := sj h3; subst e
       refine gv_goal fun a hd hs hok => ?_
       exact ⟨hB6, (Nat.le_refl _), hd, hs, ok_pick [0, 24] hok (by kernel_rfl)⟩
     ·rintro a w15 ⟨hB24, hz25, hd, hs, hok⟩
      refine gv_in ?_ hd hs hok
      clear hd hs hok
      have hz26 := (nt hz7 hz25)
      clear hz25 hx13 hc11 hx10 hc8 hz7 hB6
      refine bindE h2 ?_; clear h2; intro j27 h3 h2
      refine gv_cut_code (J := fun a w28 => Below w0.heap.size w0 w28 ∧ w15.heap.size ≤ w28.heap.size ∧ a.defers = [] ∧ a.tmps.size = 169 ∧ Ok [(0, (.string j27))] a.tmps) ?_ ?_
      ·skip
       refine gv_cond (b := j14) (by kernel_rfl) (fun hc29 => ?_) (fun hc29 => ?_)
       ·replace h3 := ite_t hc29 h3
        refine gv_seq <| gv_region <| gv_pureN 1 [25] [(25, (.string x12))] (by kernel_rfl) ?_
        refine bindE h3 ?_; clear h3; intro x30 hx31 h3
        refine gv_ssub (t := 9) (s := x12) (lo := (some (.int .i64 8))) (hi := none) 8 ((ByteArray.size x12 : Nat) : Int) x30 [] (fun e => by cases e) rfl rfl rfl (by kernel_rfl) (by kernel_rfl) Tryd.underlying9 (.inr ⟨_, rfl⟩) (.inl ⟨rfl, rfl⟩) hx31 rfl ?_
        refine gv_pureN 1 [0] [(0, (.string x30))] (by kernel_rfl) ?_
        refine gv_nil <| gv_seq <| bindE h3 ?_; clear h3; intro j32 h4 h3
        refine gv_cut_code (J := fun a w33 => Below w0.heap.size w0 w33 ∧ w15.heap.size ≤ w33.heap.size ∧ a.defers = [] ∧ a.tmps.size = 169 ∧ Ok [(0, (.string x30)), (39, (.bool j32))] a.tmps) ?_ ?_
        ·skip
         refine gv_drawA (by kernel_rfl) ?_
         intro w34 hg35
         refine gv_pre [0, 1, 2, 3, 4, 6, 7] (bA 13 [0, 1, 2, 3, 4, 6, 7]) 6 (by kernel_rfl) (by kernel_rfl) ?_
         refine gv_pureN 4 [27, 28, 29, 30] [(30, (.bool (decide (((ByteArray.size x30 : Nat) : Int) > 16))))] (by kernel_rfl) ?_
         refine gv_split (s := 30) (g := (decide (((ByteArray.size x30 : Nat) : Int) > 16))) (by kernel_rfl) (fun hc36 => ?_) (fun hc36 => ?_)
         ·skip
          replace h4 := ite_t hc36 h4
          refine gv_pureN 2 [31, 33] [(31, (.string x30)), (33, (.string x30))] (by kernel_rfl) ?_
          refine bindE h4 ?_; clear h4; intro x37 hx38 h4
          refine gv_ssub (t := 9) (s := x30) (lo := (some (.int .i64 8))) (hi := none) 8 ((ByteArray.size x30 : Nat) : Int) x37 [] (fun e => by cases e) rfl rfl rfl (by kernel_rfl) (by kernel_rfl) Tryd.underlying9 (.inr ⟨_, rfl⟩) (.inl ⟨rfl, rfl⟩) hx38 rfl ?_
          refine gv_nil <| gv_goA ?_
          refine gv_stage (fun _ => True) [0, 1, 2, 3, 4, 5, 6, 7] [(5, some false)] (bA 13 [0, 1, 2, 3, 4, 5, 6, 7]) 5 (by kernel_rfl) (by kernel_rfl) trivial ?_
          refine bindE h4 ?_; clear h4; intro r39 hr40 h4
          refine gv_call (f := 61) (vs := [(.string x30)]) (cap := []) _ (by decide) rfl rfl rfl (by kernel_rfl) (by kernel_rfl) enters61 (utf8_word_string_ok fuel x30 w34  r39 hr40) ?_
          rintro v43 w41 ⟨hg42, rfl⟩
          refine ⟨(fun _ => trivial), ?_⟩
          refine gv_nil <| gv_goA ?_
          refine gv_stage (fun _ => True) [0, 1, 2, 3, 4, 5, 6, 7, 8] [(8, some false)] (bA 13 [0, 1, 2, 3, 4, 5, 6, 7, 8]) 4 (by kernel_rfl) (by kernel_rfl) trivial ?_
          refine bindE h4 ?_; clear h4; intro r44 hr45 h4
          refine gv_call (f := 61) (vs := [(.string x37)]) (cap := []) _ (by decide) rfl rfl rfl (by kernel_rfl) (by kernel_rfl) enters61 (utf8_word_string_ok fuel x37 w41  r44 hr45) ?_
          rintro v48 w46 ⟨hg47, rfl⟩
          refine ⟨(fun _ => trivial), ?_⟩
          refine gv_nil <| gv_goA ?_
          refine gv_pre [9, 10, 11, 12] (bA 13 [0, 1, 2, 3, 4, 5, 6, 7, 8, 9, 10, 11, 12]) 0 (by kernel_rfl) (by kernel_rfl) ?_
          refine gv_pureN 4 [36, 37, 38, 39] [(39, (.bool ((bwAnd .u64 (bwOr .u64 r39 r44) 9259542123273814144) == 0)))] (by kernel_rfl) ?_
          refine gv_nil <| gv_goA ?_
          refine gv_stageE (by kernel_rfl) ?_
          have e := sj h4; subst e
          refine gv_goal fun a hd hs hok => ?_
          have hg49 := (grown_trans (grown_trans hg35 hg42) hg47)
          have hB50 := bg hB24 hg49 nb
          have hz51 := (nt (nt hg35.size hg42.size) hg47.size)
          exact ⟨hB50, hz51, hd, hs, ok_pick [0, 39] hok (by kernel_rfl)⟩
         ·skip
          replace h4 := ite_f hc36 h4
          refine gv_pureN 3 [31, 33, 34] [(31, undef), (34, undef)] (by kernel_rfl) ?_
          refine gv_nil <| gv_goA ?_
          refine gv_stage (fun _ => True) [0, 1, 2, 3, 4, 5, 6, 7] [(5, some false)] (bA 13 [0, 1, 2, 3, 4, 5, 6, 7]) 5 (by kernel_rfl) (by kernel_rfl) trivial ?_
          refine gv_pureNC trivial 1 [32] [(32, undef)] (by kernel_rfl) ?_
          refine gv_nil <| gv_goA ?_
          refine gv_stage (fun _ => True) [0, 1, 2, 3, 4, 5, 6, 7, 8] [(8, some false)] (bA 13 [0, 1, 2, 3, 4, 5, 6, 7, 8]) 4 (by kernel_rfl) (by kernel_rfl) trivial ?_
          refine gv_pureNC trivial 1 [35] [(35, undef)] (by kernel_rfl) ?_
          refine gv_nil <| gv_goA ?_
          refine gv_pre [9, 10, 11, 12] (bA 13 [0, 1, 2, 3, 4, 5, 6, 7, 8, 9, 10, 11, 12]) 0 (by kernel_rfl) (by kernel_rfl) ?_
          refine gv_pureN 4 [36, 37, 38, 39] [(39, (.bool false))] (by kernel_rfl) ?_
          refine gv_nil <| gv_goA ?_
          refine gv_stageE (by kernel_rfl) ?_
          have e := sj h4; subst e
          refine gv_goal fun a hd hs hok => ?_
          have hB52 := bg hB24 hg35 nb
          have hz53 := hg35.size
          exact ⟨hB52, hz53, hd, hs, ok_pick [0, 39] hok (by kernel_rfl)⟩
        ·rintro a w33 ⟨hB54, hz55, hd, hs, hok⟩
         refine gv_in ?_ hd hs hok
         clear hd hs hok
         refine gv_cond (b := j32) (by kernel_rfl) (fun hc56 => ?_) (fun hc56 => ?_)
         ·replace h3 := ite_t hc56 h3
          refine gv_seq <| gv_region <| gv_pureN 1 [40] [(40, (.string x30))] (by kernel_rfl) ?_
          refine bindE h3 ?_; clear h3; intro x57 hx58 h3
          refine gv_ssub (t := 9) (s := x30) (lo := (some (.int .i64 16))) (hi := none) 16 ((ByteArray.size x30 : Nat) : Int) x57 [] (fun e => by cases e) rfl rfl rfl (by kernel_rfl) (by kernel_rfl) Tryd.underlying9 (.inr ⟨_, rfl⟩) (.inl ⟨rfl, rfl⟩) hx58 rfl ?_
          refine gv_pureN 1 [0] [(0, (.string x57))] (by kernel_rfl) ?_
          refine gv_nil <| bindE h3 ?_; clear h3; intro j59 h4 h3
          refine gv_cut_code (J := fun a w60 => Below w0.heap.size w0 w60 ∧ w33.heap.size ≤ w60.heap.size ∧ a.defers = [] ∧ a.tmps.size = 169 ∧ Ok [(0, (.string j59))] a.tmps) ?_ ?_
          ·skip
           refine gv_block <| gv_loop (A := fun (s61 : ByteArray) a w62 => Below w0.heap.size w0 w62 ∧ w33.heap.size ≤ w62.heap.size ∧ a.defers = [] ∧ a.tmps.size = 169 ∧ Ok [(0, (.string s61))] a.tmps) h4 ?_ ?_
           ·intro a hd hs hok
            exact ⟨hB54, (Nat.le_refl _), hd, hs, ok_pick [0] hok (by kernel_rfl)⟩
           ·rintro s61 r5 h5 hR5 a w62 ⟨hB63, hz64, hd, hs, hok⟩
            refine gv_in ?_ hd hs hok
            clear hd hs hok
            clear hx58 hc56 hB54 hx31 hc29 hB24
            refine gv_seq <| gv_seq <| bindE h5 ?_; clear h5; intro j65 h6 h5
            refine gv_cut_code (J := fun a w66 => Below w0.heap.size w0 w66 ∧ w62.heap.size ≤ w66.heap.size ∧ a.defers = [] ∧ a.tmps.size = 169 ∧ Ok [(0, (.string s61)), (62, (.bool j65))] a.tmps) ?_ ?_
            ·skip
             refine gv_drawA (by kernel_rfl) ?_
             intro w67 hg68
             refine gv_pre [0, 1, 2, 3, 4, 6, 7, 10, 11, 13, 14] (bA 21 [0, 1, 2, 3, 4, 6, 7, 10, 11, 13, 14]) 10 (by kernel_rfl) (by kernel_rfl) ?_
             refine gv_pureN 4 [42, 43, 44, 45] [(45, (.bool (decide (((ByteArray.size s61 : Nat) : Int) > 32))))] (by kernel_rfl) ?_
             refine gv_split (s := 45) (g := (decide (((ByteArray.size s61 : Nat) : Int) > 32))) (by kernel_rfl) (fun hc69 => ?_) (fun hc69 => ?_)
             ·skip
              replace h6 := ite_t hc69 h6
              refine gv_pureN 2 [46, 48] [(46, (.string s61)), (48, (.string s61))] (by kernel_rfl) ?_
              refine bindE h6 ?_; clear h6; intro x70 hx71 h6
              refine gv_ssub (t := 9) (s := s61) (lo := (some (.int .i64 8))) (hi := none) 8 ((ByteArray.size s61 : Nat) : Int) x70 [] (fun e => by cases e) rfl rfl rfl (by kernel_rfl) (by kernel_rfl) Tryd.underlying9 (.inr ⟨_, rfl⟩) (.inl ⟨rfl, rfl⟩) hx71 rfl ?_
              refine gv_pureN 1 [52] [(52, (.string s61))] (by kernel_rfl) ?_
              refine bindE h6 ?_; clear h6; intro x72 hx73 h6
              refine gv_ssub (t := 9) (s := s61) (lo := (some (.int .i64 16))) (hi := none) 16 ((ByteArray.size s61 : Nat) : Int) x72 [] (fun e => by cases e) rfl rfl rfl (by kernel_rfl) (by kernel_rfl) Tryd.underlying9 (.inr ⟨_, rfl⟩) (.inl ⟨rfl, rfl⟩) hx73 rfl ?_
              refine gv_pureN 1 [55] [(55, (.string s61))] (by kernel_rfl) ?_
              refine bindE h6 ?_; clear h6; intro x74 hx75 h6
              refine gv_ssub (t := 9) (s := s61) (lo := (some (.int .i64 24))) (hi := none) 24 ((ByteArray.size s61 : Nat) : Int) x74 [] (fun e => by cases e) rfl rfl rfl (by kernel_rfl) (by kernel_rfl) Tryd.underlying9 (.inr ⟨_, rfl⟩) (.inl ⟨rfl, rfl⟩) hx75 rfl ?_
              refine gv_nil <| gv_goA ?_
              refine gv_stage (fun _ => True) [0, 1, 2, 3, 4, 5, 6, 7, 10, 11, 13, 14] [(5, some false)] (bA 21 [0, 1, 2, 3, 4, 5, 6, 7, 10, 11, 13, 14]) 9 (by kernel_rfl) (by kernel_rfl) trivial ?_
              refine bindE h6 ?_; clear h6; intro r76 hr77 h6
              refine gv_call (f := 61) (vs := [(.string s61)]) (cap := []) _ (by decide) rfl rfl rfl (by kernel_rfl) (by kernel_rfl) enters61 (utf8_word_string_ok fuel s61 w67  r76 hr77) ?_
              rintro v80 w78 ⟨hg79, rfl⟩
              refine ⟨(fun _ => trivial), ?_⟩
              refine gv_nil <| gv_goA ?_
              refine gv_stage (fun _ => True) [0, 1, 2, 3, 4, 5, 6, 7, 8, 10, 11, 13, 14] [(8, some false)] (bA 21 [0, 1, 2, 3, 4, 5, 6, 7, 8, 10, 11, 13, 14]) 8 (by kernel_rfl) (by kernel_rfl) trivial ?_
              refine bindE h6 ?_; clear h6; intro r81 hr82 h6
              refine gv_call (f := 61) (vs := [(.string x70)]) (cap := []) _ (by decide) rfl rfl rfl (by kernel_rfl) (by kernel_rfl) enters61 (utf8_word_string_ok fuel x70 w78  r81 hr82) ?_
              rintro v85 w83 ⟨hg84, rfl⟩
              refine ⟨(fun _ => trivial), ?_⟩
              refine gv_nil <| gv_goA ?_
              refine gv_pre [9] (bA 21 [0, 1, 2, 3, 4, 5, 6, 7, 8, 9, 10, 11, 13, 14]) 7 (by kernel_rfl) (by kernel_rfl) ?_
              refine gv_pureN 1 [51] [(51, (.int .u64 (bwOr .u64 r76 r81)))] (by kernel_rfl) ?_
              refine gv_nil <| gv_goA ?_
              refine gv_stage (fun _ => True) [0, 1, 2, 3, 4, 5, 6, 7, 8, 9, 10, 11, 12, 13, 14] [(12, some false)] (bA 21 [0, 1, 2, 3, 4, 5, 6, 7, 8, 9, 10, 11, 12, 13, 14]) 6 (by kernel_rfl) (by kernel_rfl) trivial ?_
              refine bindE h6 ?_; clear h6; intro r86 hr87 h6
              refine gv_call (f := 61) (vs := [(.string x72)]) (cap := []) _ (by decide) rfl rfl rfl (by kernel_rfl) (by kernel_rfl) enters61 (utf8_word_string_ok fuel x72 w83  r86 hr87) ?_
              rintro v90 w88 ⟨hg89, rfl⟩
              refine ⟨(fun _ => trivial), ?_⟩
              have hz91 := (nt (nt hg68.size hg79.size) hg84.size)
              clear hr87 hr82 hr77 hx75 hx73 hx71 hc69
              refine gv_nil <| gv_goA ?_
              refine gv_stage (fun _ => True) [0, 1, 2, 3, 4, 5, 6, 7, 8, 9, 10, 11, 12, 13, 14, 15] [(15, some false)] (bA 21 [0, 1, 2, 3, 4, 5, 6, 7, 8, 9, 10, 11, 12, 13, 14, 15]) 5 (by kernel_rfl) (by kernel_rfl) trivial ?_
              refine bindE h6 ?_; clear h6; intro r92 hr93 h6
              refine gv_call (f := 61) (vs := [(.string x74)]) (cap := []) _ (by decide) rfl rfl rfl (by kernel_rfl) (by kernel_rfl) enters61 (utf8_word_string_ok fuel x74 w88  r92 hr93) ?_
              rintro v96 w94 ⟨hg95, rfl⟩
              refine ⟨(fun _ => trivial), ?_⟩
              refine gv_nil <| gv_goA ?_
              refine gv_pre [16, 17, 18, 19, 20] (bA 21 [0, 1, 2, 3, 4, 5, 6, 7, 8, 9, 10, 11, 12, 13, 14, 15, 16, 17, 18, 19, 20]) 0 (by kernel_rfl) (by kernel_rfl) ?_
              refine gv_pureN 5 [58, 59, 60, 61, 62] [(62, (.bool ((bwAnd .u64 (bwOr .u64 (bwOr .u64 r76 r81) (bwOr .u64 r86 r92)) 9259542123273814144) == 0)))] (by kernel_rfl) ?_
              refine gv_nil <| gv_goA ?_
              refine gv_stageE (by kernel_rfl) ?_
              have e := sj h6; subst e
              refine gv_goal fun a hd hs hok => ?_
              have hg97 := (grown_trans (grown_trans (grown_trans (grown_trans hg68 hg79) hg84) hg89) hg95)
              have hB98 := bg hB63 hg97 nb
              have hz99 := (nt (nt hz91 hg89.size) hg95.size)
              exact ⟨hB98, hz99, hd, hs, ok_pick [0, 62] hok (by kernel_rfl)⟩
             ·skip
              replace h6 := ite_f hc69 h6
              refine gv_pureN 7 [46, 48, 49, 52, 53, 55, 56] [(46, undef), (49, undef), (53, undef), (56, undef)] (by kernel_rfl) ?_
              refine gv_nil <| gv_goA ?_
              refine gv_stage (fun _ => True) [0, 1, 2, 3, 4, 5, 6, 7, 10, 11, 13, 14] [(5, some false)] (bA 21 [0, 1, 2, 3, 4, 5, 6, 7, 10, 11, 13, 14]) 9 (by kernel_rfl) (by kernel_rfl) trivial ?_
              refine gv_pureNC trivial 1 [47] [(47, undef)] (by kernel_rfl) ?_
              refine gv_nil <| gv_goA ?_
              refine gv_stage (fun _ => True) [0, 1, 2, 3, 4, 5, 6, 7, 8, 10, 11, 13, 14] [(8, some false)] (bA 21 [0, 1, 2, 3, 4, 5, 6, 7, 8, 10, 11, 13, 14]) 8 (by kernel_rfl) (by kernel_rfl) trivial ?_
              refine gv_pureNC trivial 1 [50] [(50, undef)] (by kernel_rfl) ?_
              refine gv_nil <| gv_goA ?_
              refine gv_pre [9] (bA 21 [0, 1, 2, 3, 4, 5, 6, 7, 8, 9, 10, 11, 13, 14]) 7 (by kernel_rfl) (by kernel_rfl) ?_
              refine gv_pureN 1 [51] [(51, undef)] (by kernel_rfl) ?_
              refine gv_nil <| gv_goA ?_
              refine gv_stage (fun _ => True) [0, 1, 2, 3, 4, 5, 6, 7, 8, 9, 10, 11, 12, 13, 14] [(12, some false)] (bA 21 [0, 1, 2, 3, 4, 5, 6, 7, 8, 9, 10, 11, 12, 13, 14]) 6 (by kernel_rfl) (by kernel_rfl) trivial ?_
              refine gv_pureNC trivial 1 [54] [(54, undef)] (by kernel_rfl) ?_
              refine gv_nil <| gv_goA ?_
              refine gv_stage (fun _ => True) [0, 1, 2, 3, 4, 5, 6, 7, 8, 9, 10, 11, 12, 13, 14, 15] [(15, some false)] (bA 21 [0, 1, 2, 3, 4, 5, 6, 7, 8, 9, 10, 11, 12, 13, 14, 15]) 5 (by kernel_rfl) (by kernel_rfl) trivial ?_
              refine gv_pureNC trivial 1 [57] [(57, undef)] (by kernel_rfl) ?_
              refine gv_nil <| gv_goA ?_
              refine gv_pre [16, 17, 18, 19, 20] (bA 21 [0, 1, 2, 3, 4, 5, 6, 7, 8, 9, 10, 11, 12, 13, 14, 15, 16, 17, 18, 19, 20]) 0 (by kernel_rfl) (by kernel_rfl) ?_
              refine gv_pureN 5 [58, 59, 60, 61, 62] [(62, (.bool false))] (by kernel_rfl) ?_
              refine gv_nil <| gv_goA ?_
              refine gv_stageE (by kernel_rfl) ?_
              have e := sj h6; subst e
              refine gv_goal fun a hd hs hok => ?_
              have hB100 := bg hB63 hg68 nb
              have hz101 := hg68.size
              exact ⟨hB100, hz101, hd, hs, ok_pick [0, 62] hok (by kernel_rfl)⟩
            ·rintro a w66 ⟨hB102, hz103, hd, hs, hok⟩
             refine gv_in ?_ hd hs hok
             clear hd hs hok
             have hz104 := (nt hz64 hz103)
             refine gv_cond (b := j65) (by kernel_rfl) (fun hc105 => ?_) (fun hc105 => ?_)
             ·replace h5 := ite_t hc105 h5
              refine gv_skip <| gv_block <| gv_region <| gv_pureN 1 [63] [(63, (.string s61))] (by kernel_rfl) ?_
              refine bindE h5 ?_; clear h5; intro x106 hx107 h5
              refine gv_ssub (t := 9) (s := s61) (lo := (some (.int .i64 32))) (hi := none) 32 ((ByteArray.size s61 : Nat) : Int) x106 [] (fun e => by cases e) rfl rfl rfl (by kernel_rfl) (by kernel_rfl) Tryd.underlying9 (.inr ⟨_, rfl⟩) (.inl ⟨rfl, rfl⟩) hx107 rfl ?_
              refine gv_pureN 1 [0] [(0, (.string x106))] (by kernel_rfl) ?_
              refine gv_nil <| gv_blk ?_
              have e := sj h5; subst e
              refine gv_goal fun a hd hs hok => ?_
              have hz108 := hz104
              exact ⟨x106, rfl, hB102, hz108, hd, hs, ok_pick [0] hok (by kernel_rfl)⟩
             ·replace h5 := ite_f hc105 h5
              refine gv_cexit <| gv_exit rfl ?_
              have e := sj h5; subst e
              replace h4 := congrArg some (hR5 _ rfl)
              have e := sj h4; subst e
              refine gv_goal fun a hd hs hok => ?_
              have hz109 := hz104
              exact ⟨hB102, hz109, hd, hs, ok_pick [0] hok (by kernel_rfl)⟩
          ·rintro a w60 ⟨hB110, hz111, hd, hs, hok⟩
           refine gv_in ?_ hd hs hok
           clear hd hs hok
           have hz112 := (nt hz55 hz111)
           clear hz111 hx58 hc56 hz55 hB54 hx31 hc29 hB24
           have e := sj h3; subst e
           refine gv_goal fun a hd hs hok => ?_
           have hz113 := hz112
           exact ⟨hB110, hz113, hd, hs, ok_pick [0] hok (by kernel_rfl)⟩
         ·replace h3 := ite_f hc56 h3
          refine gv_skip ?_
          have e := sj h3; subst e
          refine gv_goal fun a hd hs hok => ?_
          have hz114 := hz55
          exact ⟨hB54, hz114, hd, hs, ok_pick [0] hok (by kernel_rfl)⟩
       ·replace h3 := ite_f hc29 h3
        refine gv_skip ?_
        have e := sj h3; subst e
        refine gv_goal fun a hd hs hok => ?_
        exact ⟨hB24, (Nat.le_refl _), hd, hs, ok_pick [0] hok (by kernel_rfl)⟩
      ·rintro a w28 ⟨hB115, hz116, hd, hs, hok⟩
       refine gv_in ?_ hd hs hok
       clear hd hs hok
       have hz117 := (nt hz26 hz116)
       refine gv_cexit <| gv_exit rfl ?_
       have e := sj h2; subst e
       refine gv_goal fun a hd hs hok => ?_
       have hz118 := hz117
       exact ⟨j27, rfl, hB115, hz118, hd, hs, ok_pick [0] hok (by kernel_rfl)⟩
    ·replace h2 := ite_f hc11 h2
     refine gv_skip <| gv_seq <| gv_region <| gv_pureN 1 [65] [(65, (.int .u8 x9))] (by kernel_rfl) ?_
     refine bindE h2 ?_; clear h2; intro x119 hx120 h2
     refine gv_idxarr (t := 93) (e := 5) (A := ⟨0, 0, none⟩) (len := 256) (kk := .u8) (i := x9) (sz := 1) [] (fun e => by cases e) rfl rfl rfl (by kernel_rfl) (by kernel_rfl) Tryd.underlying93 (by kernel_rfl) (idx_spec hx120).1 (by have e := (idx_spec hx120).2.1; rw [utf8First_len] at e; exact e) rfl ?_
     refine gv_load (t := 5) (A := (elemAddr (some ⟨0, 0, none⟩) ((x9 : Int).toNat * 1))) (.int .u8 ((x119).toNat : Int)) [] (fun e => by cases e) rfl rfl rfl (by kernel_rfl) (by kernel_rfl) (by kernel_rfl) (inw0 ((hG0.below hB6 hX0).cell hx120)) rfl ?_
     refine gv_pureN 1 [4] [(4, (.int .u8 ((x119).toNat : Int)))] (by kernel_rfl) ?_
     refine gv_nil <| gv_seq <| gv_region <| gv_pureN 4 [5, 68, 69, 70] [(5, (.int .i64 (IntKind.i64.wrap ((bwAnd .u8 ((x119).toNat : Int) 7)))))] (by kernel_rfl) ?_
     refine bindE h2 ?_; clear h2; intro n121 hn122 h2
     refine gv_name (s := 5) (v := (.int .i64 (IntKind.i64.wrap ((bwAnd .u8 ((x119).toNat : Int) 7))))) (v' := (.int .i64 n121)) (by kernel_rfl) (congrArg (Value.int .i64) (sj hn122)) ?_
     refine gv_nil <| gv_seq <| gv_region <| gv_pureN 2 [71, 72] [(72, (.int .u8 ((((x119).toNat : Int)).fdiv (2 ^ 4))))] (by kernel_rfl) ?_
     refine bindE h2 ?_; clear h2; intro x123 hx124 h2
     refine gv_idxarr (t := 96) (e := 95) (A := ⟨1, 0, none⟩) (len := 16) (kk := .u8) (i := ((((x119).toNat : Int)).fdiv (2 ^ 4))) (sz := 2) [] (fun e => by cases e) rfl rfl rfl (by kernel_rfl) (by kernel_rfl) Tryd.underlying96 (by kernel_rfl) (idx_spec hx124).1 (by have e := (idx_spec hx124).2.1; rw [utf8Acc_len] at e; exact e) rfl ?_
     obtain ⟨_, ⟨_, _, rfl, rfl, rfl⟩, hc125⟩ := hG1.cellsK hx124
     refine gv_loadAgg (t := 95) (A := (elemAddr (some ⟨1, 0, none⟩) ((((((x119).toNat : Int)).fdiv (2 ^ 4)) : Int).toNat * 2))) #[(.int .u8 x123.1), (.int .u8 x123.2)] [] (fun e => by cases e) rfl rfl rfl (by kernel_rfl) (by kernel_rfl) (by kernel_rfl) (by kernel_rfl) (inw0 (hc125 w5 (fun k hk => hB6.block k (hX0 k hk)))) rfl ?_
     refine gv_new0 (fun b => .pointer (some ⟨b, 0, none⟩)) #[(.int .u8 0), (.int .u8 0)] 95 (by kernel_rfl) (by kernel_rfl) ?_
     intro b126 w127 hg128 hb129 hbe130 hz131
     refine gv_sub [0, 5, 6, 74] (σ' := [(0, (.string s4)), (5, (.int .i64 n121)), (6, (bp b126)), (74, (.agg #[(.int .u8 x123.1), (.int .u8 x123.2)]))]) (by kernel_rfl) ?_
     refine gv_store0 95 0 (.agg #[(.int .u8 x123.1), (.int .u8 x123.2)]) #[(.int .u8 x123.1), (.int .u8 x123.2)] hb129 (by kernel_rfl) (by kernel_rfl) (by kernel_rfl) ?_
     intro w132 hg133 hb134 hz135
     refine gv_nil <| gv_seq <| gv_region <| gv_pureN 1 [75] [(75, (.int .i64 n121))] (by kernel_rfl) ?_
     refine gv_nil <| gv_block <| gv_seq <| gv_region <| gv_pureN 2 [76, 77] [(76, (.bool (n121 == 2)))] (by kernel_rfl) ?_
     refine gv_nil <| bindE h2 ?_; clear h2; intro j136 h3 h2
     refine gv_cut_code (J := fun a w138 => ∃ s137 : ByteArray, j136 = .inl s137 ∧ Below w0.heap.size w0 w138 ∧ w132.heap.size ≤ w138.heap.size ∧ a.defers = [] ∧ a.tmps.size = 169 ∧ Ok [(0, (.string s137))] a.tmps) ?_ ?_
     ·skip
      refine gv_cond (b := (n121 == 2)) (by kernel_rfl) (fun hc139 => ?_) (fun hc139 => ?_)
      ·replace h3 := ite_t hc139 h3
       refine gv_seq <| gv_seq <| bindE h3 ?_; clear h3; intro j140 h4 h3
       refine gv_cut_code (J := fun a w141 => Below w0.heap.size w0 w141 ∧ w132.heap.size ≤ w141.heap.size ∧ a.defers = [] ∧ a.tmps.size = 169 ∧ Ok [(0, (.string s4)), (94, (.bool j140))] a.tmps) ?_ ?_
       ·skip
        refine gv_drawA (by kernel_rfl) ?_
        intro w142 hg143
        refine gv_pre [0, 1, 2, 3, 4, 5, 6] (bA 17 [0, 1, 2, 3, 4, 5, 6]) 10 (by kernel_rfl) (by kernel_rfl) ?_
        refine gv_pureN 4 [78, 79, 80, 81] [(81, (.bool (decide (((ByteArray.size s4 : Nat) : Int) < 2))))] (by kernel_rfl) ?_
        refine gv_split (s := 81) (g := (decide (((ByteArray.size s4 : Nat) : Int) < 2))) (by kernel_rfl) (fun hc144 => ?_) (fun hc144 => ?_)
        ·skip
         replace h4 := ite_t hc144 h4
         refine gv_pureN 3 [82, 83, 84] [(83, undef), (84, undef)] (by kernel_rfl) ?_
         refine gv_nil <| gv_goA ?_
         refine gv_stage (Cls w142 []) [0, 1, 2, 3, 4, 5, 6, 7] [(7, some true)] (bA 17 [0, 1, 2, 3, 4, 5, 6, 7]) 9 (by kernel_rfl) (by kernel_rfl) (Cls.refl _ _) ?_
         have hC145 := Cls.refl w142 []
         refine gv_pureN 1 [85] [(85, undef)] (by kernel_rfl) ?_
         refine gv_nil <| gv_goA ?_
         refine gv_pre [8, 9, 10, 11, 13, 14] (bA 17 [0, 1, 2, 3, 4, 5, 6, 7, 8, 9, 10, 11, 13, 14]) 3 (by kernel_rfl) (by kernel_rfl) ?_
         refine gv_pureN 6 [86, 87, 88, 89, 91, 92] [(88, (.bool true)), (89, undef), (92, undef)] (by kernel_rfl) ?_
         refine gv_nil <| gv_goA ?_
         refine gv_stage (Cls w142 []) [0, 1, 2, 3, 4, 5, 6, 7, 8, 9, 10, 11, 12, 13, 14] [(12, some true)] (bA 17 [0, 1, 2, 3, 4, 5, 6, 7, 8, 9, 10, 11, 12, 13, 14]) 2 (by kernel_rfl) (by kernel_rfl) (Cls.refl _ _) ?_
         have hC146 := Cls.refl w142 []
         refine gv_pureN 1 [90] [(90, undef)] (by kernel_rfl) ?_
         refine gv_nil <| gv_goA ?_
         refine gv_pre [15, 16] (bA 17 [0, 1, 2, 3, 4, 5, 6, 7, 8, 9, 10, 11, 12, 13, 14, 15, 16]) 0 (by kernel_rfl) (by kernel_rfl) ?_
         refine gv_pureN 2 [93, 94] [(94, (.bool true))] (by kernel_rfl) ?_
         refine gv_nil <| gv_goA ?_
         refine gv_stageE (by kernel_rfl) ?_
         have e := sj h4; subst e
         refine gv_goal fun a hd hs hok => ?_
         have hB147 := bg hB6 hg128 nb
         have hlo148 : w0.heap.size ≤ b126 := lob hbe130 hB6.size
         have hB149 := bg hB147 hg133 (rowlo hlo148)
         have hB150 := bg hB149 hg143 nb
         have hz151 := hg143.size
         exact ⟨hB150, hz151, hd, hs, ok_pick [0, 94] hok (by kernel_rfl)⟩
        ·skip
         replace h4 := ite_f hc144 h4
         refine gv_pureN 1 [82] [(82, (.string s4))] (by kernel_rfl) ?_
         refine bindE h4 ?_; clear h4; intro x152 hx153 h4
         refine gv_sindex (t := 9) (s := s4) (kk := .i64) (i := 1) x152 [] (fun e => by cases e) rfl rfl rfl (by kernel_rfl) (by kernel_rfl) Tryd.underlying9 hx153 rfl ?_
         refine gv_pureN 1 [84] [(84, (bp b126))] (by kernel_rfl) ?_
         refine gv_nil <| gv_goA ?_
         refine gv_stage (Cls w142 []) [0, 1, 2, 3, 4, 5, 6, 7] [(7, some true)] (bA 17 [0, 1, 2, 3, 4, 5, 6, 7]) 9 (by kernel_rfl) (by kernel_rfl) (Cls.refl _ _) ?_
         have hC154 := Cls.refl w142 []
         have hk155 := hb134.grown hg143 nb
         refine gv_load (t := 5) (A := ⟨b126, 0, none⟩) (.int .u8 x123.1) [] (fun e => by cases e) rfl rfl rfl (by kernel_rfl) (by kernel_rfl) (by kernel_rfl) (inw1 fun w' hC' => ((hC'.box hk155 nm_nil).cell 0 rfl)) rfl ?_
         refine gv_nil <| gv_goA ?_
         refine gv_pre [8, 9, 10, 11, 13, 14] (bA 17 [0, 1, 2, 3, 4, 5, 6, 7, 8, 9, 10, 11, 13, 14]) 3 (by kernel_rfl) (by kernel_rfl) ?_
         refine gv_pureN 3 [86, 87, 88] [(88, (.bool (decide (x152 < x123.1))))] (by kernel_rfl) ?_
         refine gv_split (s := 88) (g := (decide (x152 < x123.1))) (by kernel_rfl) (fun hc156 => ?_) (fun hc156 => ?_)
         ·skip
          replace h4 := ite_t hc156 h4
          refine gv_pureN 3 [89, 91, 92] [(89, undef), (92, undef)] (by kernel_rfl) ?_
          refine gv_nil <| gv_goA ?_
          refine gv_stage (Cls w142 []) [0, 1, 2, 3, 4, 5, 6, 7, 8, 9, 10, 11, 12, 13, 14] [(12, some true)] (bA 17 [0, 1, 2, 3, 4, 5, 6, 7, 8, 9, 10, 11, 12, 13, 14]) 2 (by kernel_rfl) (by kernel_rfl) (Cls.refl _ _) ?_
          have hC157 := Cls.refl w142 []
          refine gv_pureN 1 [90] [(90, undef)] (by kernel_rfl) ?_
          refine gv_nil <| gv_goA ?_
          refine gv_pre [15, 16] (bA 17 [0, 1, 2, 3, 4, 5, 6, 7, 8, 9, 10, 11, 12, 13, 14, 15, 16]) 0 (by kernel_rfl) (by kernel_rfl) ?_
          refine gv_pureN 2 [93, 94] [(94, (.bool true))] (by kernel_rfl) ?_
          refine gv_nil <| gv_goA ?_
          refine gv_stageE (by kernel_rfl) ?_
          have e := sj h4; subst e
          refine gv_goal fun a hd hs hok => ?_
          have hB158 := bg hB6 hg128 nb
          have hlo159 : w0.heap.size ≤ b126 := lob hbe130 hB6.size
          have hB160 := bg hB158 hg133 (rowlo hlo159)
          have hB161 := bg hB160 hg143 nb
          have hz162 := hg143.size
          exact ⟨hB161, hz162, hd, hs, ok_pick [0, 94] hok (by kernel_rfl)⟩
         ·skip
          replace h4 := ite_f hc156 h4
          refine gv_pureN 2 [89, 91] [(89, (.pointer (some ⟨b126, 1, none⟩))), (91, (.string s4))] (by kernel_rfl) ?_
          refine bindE h4 ?_; clear h4; intro x163 hx164 h4
          refine gv_sindex (t := 9) (s := s4) (kk := .i64) (i := 1) x163 [] (fun e => by cases e) rfl rfl rfl (by kernel_rfl) (by kernel_rfl) Tryd.underlying9 hx164 rfl ?_
          refine gv_nil <| gv_goA ?_
          refine gv_stage (Cls w142 []) [0, 1, 2, 3, 4, 5, 6, 7, 8, 9, 10, 11, 12, 13, 14] [(12, some true)] (bA 17 [0, 1, 2, 3, 4, 5, 6, 7, 8, 9, 10, 11, 12, 13, 14]) 2 (by kernel_rfl) (by kernel_rfl) (Cls.refl _ _) ?_
          have hC165 := Cls.refl w142 []
          refine gv_load (t := 5) (A := ⟨b126, 1, none⟩) (.int .u8 x123.2) [] (fun e => by cases e) rfl rfl rfl (by kernel_rfl) (by kernel_rfl) (by kernel_rfl) (inw1 fun w' hC' => ((hC'.box hk155 nm_nil).cell 1 rfl)) rfl ?_
          refine gv_nil <| gv_goA ?_
          refine gv_pre [15, 16] (bA 17 [0, 1, 2, 3, 4, 5, 6, 7, 8, 9, 10, 11, 12, 13, 14, 15, 16]) 0 (by kernel_rfl) (by kernel_rfl) ?_
          refine gv_pureN 2 [93, 94] [(94, (.bool (decide (x123.2 < x163))))] (by kernel_rfl) ?_
          refine gv_nil <| gv_goA ?_
          refine gv_stageE (by kernel_rfl) ?_
          have e := sj h4; subst e
          refine gv_goal fun a hd hs hok => ?_
          have hB166 := bg hB6 hg128 nb
          have hlo167 : w0.heap.size ≤ b126 := lob hbe130 hB6.size
          have hB168 := bg hB166 hg133 (rowlo hlo167)
          have hB169 := bg hB168 hg143 nb
          have hz170 := hg143.size
          exact ⟨hB169, hz170, hd, hs, ok_pick [0, 94] hok (by kernel_rfl)⟩
       ·rintro a w141 ⟨hB171, hz172, hd, hs, hok⟩
        refine gv_in ?_ hd hs hok
        clear hd hs hok
        have hz173 := (nt (nt hz7 hg128.size) hg133.size)
        clear hc139 hz135 hb134 hg133 hz131 hbe130 hb129 hg128 hc125 hx124 hn122 hx120 hc11 hx10 hc8 hz7 hB6
        refine gv_cond (b := j140) (by kernel_rfl) (fun hc174 => ?_) (fun hc174 => ?_)
        ·replace h3 := ite_t hc174 h3
         refine gv_seq <| gv_region <| gv_pureN 1 [2] [(2, (.bool false))] (by kernel_rfl) ?_
         refine gv_nil <| gv_cret ?_
         have e := sj h3; subst e
         replace h2 := cont_inr h2
         have e := sj h2; subst e
         replace h1 := congrArg some (hR2 _ rfl)
         have e := sj h1; subst e
         replace h0 := cont_inr h0
         have e := sj h0; subst e
         refine gv_ret (gv_done [(.bool false)] rfl ⟨(by kernel_rfl), trivial⟩ ?_)
         exact ⟨grown_of_below hB171, rfl⟩
        ·replace h3 := ite_f hc174 h3
         refine gv_skip <| gv_region <| gv_pureN 1 [95] [(95, (.string s4))] (by kernel_rfl) ?_
         refine bindE h3 ?_; clear h3; intro x175 hx176 h3
         refine gv_ssub (t := 9) (s := s4) (lo := (some (.int .i64 2))) (hi := none) 2 ((ByteArray.size s4 : Nat) : Int) x175 [] (fun e => by cases e) rfl rfl rfl (by kernel_rfl) (by kernel_rfl) Tryd.underlying9 (.inr ⟨_, rfl⟩) (.inl ⟨rfl, rfl⟩) hx176 rfl ?_
         refine gv_pureN 1 [0] [(0, (.string x175))] (by kernel_rfl) ?_
         refine gv_nil ?_
         have e := sj h3; subst e
         refine gv_goal fun a hd hs hok => ?_
         have hz177 := hz172
         exact ⟨x175, rfl, hB171, hz177, hd, hs, ok_pick [0] hok (by kernel_rfl)⟩
      ·replace h3 := ite_f hc139 h3
       refine gv_seq <| gv_region <| gv_pureN 2 [97, 98] [(97, (.bool (n121 == 3)))] (by kernel_rfl) ?_
       refine gv_nil <| gv_cond (b := (n121 == 3)) (by kernel_rfl) (fun hc178 => ?_) (fun hc178 => ?_)
       ·replace h3 := ite_t hc178 h3
        refine gv_seq <| gv_seq <| bindE h3 ?_; clear h3; intro j179 h4 h3
        refine gv_cut_code (J := fun a w180 => Below w0.heap.size w0 w180 ∧ w132.heap.size ≤ w180.heap.size ∧ a.defers = [] ∧ a.tmps.size = 169 ∧ Ok [(0, (.string s4)), (125, (.bool j179))] a.tmps) ?_ ?_
        ·skip
         refine gv_drawA (by kernel_rfl) ?_
         intro w181 hg182
         refine gv_pre [0, 1, 2, 3, 4, 5, 6] (bA 27 [0, 1, 2, 3, 4, 5, 6]) 20 (by kernel_rfl) (by kernel_rfl) ?_
         refine gv_pureN 4 [99, 100, 101, 102] [(102, (.bool (decide (((ByteArray.size s4 : Nat) : Int) < 3))))] (by kernel_rfl) ?_
         refine gv_split (s := 102) (g := (decide (((ByteArray.size s4 : Nat) : Int) < 3))) (by kernel_rfl) (fun hc183 => ?_) (fun hc183 => ?_)
         ·skip
          replace h4 := ite_t hc183 h4
          refine gv_pureN 3 [103, 104, 105] [(104, undef), (105, undef)] (by kernel_rfl) ?_
          refine gv_nil <| gv_goA ?_
          refine gv_stage (Cls w181 []) [0, 1, 2, 3, 4, 5, 6, 7] [(7, some true)] (bA 27 [0, 1, 2, 3, 4, 5, 6, 7]) 19 (by kernel_rfl) (by kernel_rfl) (Cls.refl _ _) ?_
          have hC184 := Cls.refl w181 []
          refine gv_pureN 1 [106] [(106, undef)] (by kernel_rfl) ?_
          refine gv_nil <| gv_goA ?_
          refine gv_pre [8, 9, 10, 11, 13, 14] (bA 27 [0, 1, 2, 3, 4, 5, 6, 7, 8, 9, 10, 11, 13, 14]) 13 (by kernel_rfl) (by kernel_rfl) ?_
          refine gv_pureN 6 [107, 108, 109, 110, 112, 113] [(109, (.bool true)), (110, undef), (113, undef)] (by kernel_rfl) ?_
          refine gv_nil <| gv_goA ?_
          refine gv_stage (Cls w181 []) [0, 1, 2, 3, 4, 5, 6, 7, 8, 9, 10, 11, 12, 13, 14] [(12, some true)] (bA 27 [0, 1, 2, 3, 4, 5, 6, 7, 8, 9, 10, 11, 12, 13, 14]) 12 (by kernel_rfl) (by kernel_rfl) (Cls.refl _ _) ?_
          have hC185 := Cls.refl w181 []
          refine gv_pureN 1 [111] [(111, undef)] (by kernel_rfl) ?_
          refine gv_nil <| gv_goA ?_
          refine gv_pre [15, 16, 17, 18, 19, 20, 21, 22, 23, 24, 25, 26] (bA 27 [0, 1, 2, 3, 4, 5, 6, 7, 8, 9, 10, 11, 12, 13, 14, 15, 16, 17, 18, 19, 20, 21, 22, 23, 24, 25, 26]) 0 (by kernel_rfl) (by kernel_rfl) ?_
          refine gv_pureN 12 [114, 115, 116, 117, 118, 119, 120, 121, 122, 123, 124, 125] [(125, (.bool true))] (by kernel_rfl) ?_
          refine gv_nil <| gv_goA ?_
          refine gv_stageE (by kernel_rfl) ?_
          have e := sj h4; subst e
          refine gv_goal fun a hd hs hok => ?_
          have hB186 := bg hB6 hg128 nb
          have hlo187 : w0.heap.size ≤ b126 := lob hbe130 hB6.size
          have hB188 := bg hB186 hg133 (rowlo hlo187)
          have hB189 := bg hB188 hg182 nb
          have hz190 := hg182.size
          exact ⟨hB189, hz190, hd, hs, ok_pick [0, 125] hok (by kernel_rfl)⟩
         ·skip
          replace h4 := ite_f hc183 h4
          refine gv_pureN 1 [103] [(103, (.string s4))] (by kernel_rfl) ?_
          refine bindE h4 ?_; clear h4; intro x191 hx192 h4
          refine gv_sindex (t := 9) (s := s4) (kk := .i64) (i := 1) x191 [] (fun e => by cases e) rfl rfl rfl (by kernel_rfl) (by kernel_rfl) Tryd.underlying9 hx192 rfl ?_
          refine gv_pureN 1 [105] [(105, (bp b126))] (by kernel_rfl) ?_
          refine gv_nil <| gv_goA ?_
          refine gv_stage (Cls w181 []) [0, 1, 2, 3, 4, 5, 6, 7] [(7, some true)] (bA 27 [0, 1, 2, 3, 4, 5, 6, 7]) 19 (by kernel_rfl) (by kernel_rfl) (Cls.refl _ _) ?_
          have hC193 := Cls.refl w181 []
          have hk194 := hb134.grown hg182 nb
          refine gv_load (t := 5) (A := ⟨b126, 0, none⟩) (.int .u8 x123.1) [] (fun e => by cases e) rfl rfl rfl (by kernel_rfl) (by kernel_rfl) (by kernel_rfl) (inw1 fun w' hC' => ((hC'.box hk194 nm_nil).cell 0 rfl)) rfl ?_
          refine gv_nil <| gv_goA ?_
          refine gv_pre [8, 9, 10, 11, 13, 14] (bA 27 [0, 1, 2, 3, 4, 5, 6, 7, 8, 9, 10, 11, 13, 14]) 13 (by kernel_rfl) (by kernel_rfl) ?_
          refine gv_pureN 3 [107, 108, 109] [(109, (.bool (decide (x191 < x123.1))))] (by kernel_rfl) ?_
          refine gv_split (s := 109) (g := (decide (x191 < x123.1))) (by kernel_rfl) (fun hc195 => ?_) (fun hc195 => ?_)
          ·skip
           replace h4 := ite_t hc195 h4
           refine gv_pureN 3 [110, 112, 113] [(110, undef), (113, undef)] (by kernel_rfl) ?_
           refine gv_nil <| gv_goA ?_
           refine gv_stage (Cls w181 []) [0, 1, 2, 3, 4, 5, 6, 7, 8, 9, 10, 11, 12, 13, 14] [(12, some true)] (bA 27 [0, 1, 2, 3, 4, 5, 6, 7, 8, 9, 10, 11, 12, 13, 14]) 12 (by kernel_rfl) (by kernel_rfl) (Cls.refl _ _) ?_
           have hC196 := Cls.refl w181 []
           refine gv_pureN 1 [111] [(111, undef)] (by kernel_rfl) ?_
           refine gv_nil <| gv_goA ?_
           refine gv_pre [15, 16, 17, 18, 19, 20, 21, 22, 23, 24, 25, 26] (bA 27 [0, 1, 2, 3, 4, 5, 6, 7, 8, 9, 10, 11, 12, 13, 14, 15, 16, 17, 18, 19, 20, 21, 22, 23, 24, 25, 26]) 0 (by kernel_rfl) (by kernel_rfl) ?_
           refine gv_pureN 12 [114, 115, 116, 117, 118, 119, 120, 121, 122, 123, 124, 125] [(125, (.bool true))] (by kernel_rfl) ?_
           refine gv_nil <| gv_goA ?_
           refine gv_stageE (by kernel_rfl) ?_
           have e := sj h4; subst e
           refine gv_goal fun a hd hs hok => ?_
           have hB197 := bg hB6 hg128 nb
           have hlo198 : w0.heap.size ≤ b126 := lob hbe130 hB6.size
           have hB199 := bg hB197 hg133 (rowlo hlo198)
           have hB200 := bg hB199 hg182 nb
           have hz201 := hg182.size
           exact ⟨hB200, hz201, hd, hs, ok_pick [0, 125] hok (by kernel_rfl)⟩
          ·skip
           replace h4 := ite_f hc195 h4
           refine gv_pureN 2 [110, 112] [(110, (.pointer (some ⟨b126, 1, none⟩))), (112, (.string s4))] (by kernel_rfl) ?_
           refine bindE h4 ?_; clear h4; intro x202 hx203 h4
           refine gv_sindex (t := 9) (s := s4) (kk := .i64) (i := 1) x202 [] (fun e => by cases e) rfl rfl rfl (by kernel_rfl) (by kernel_rfl) Tryd.underlying9 hx203 rfl ?_
           refine gv_nil <| gv_goA ?_
           refine gv_stage (Cls w181 []) [0, 1, 2, 3, 4, 5, 6, 7, 8, 9, 10, 11, 12, 13, 14] [(12, some true)] (bA 27 [0, 1, 2, 3, 4, 5, 6, 7, 8, 9, 10, 11, 12, 13, 14]) 12 (by kernel_rfl) (by kernel_rfl) (Cls.refl _ _) ?_
           have hC204 := Cls.refl w181 []
           refine gv_load (t := 5) (A := ⟨b126, 1, none⟩) (.int .u8 x123.2) [] (fun e => by cases e) rfl rfl rfl (by kernel_rfl) (by kernel_rfl) (by kernel_rfl) (inw1 fun w' hC' => ((hC'.box hk194 nm_nil).cell 1 rfl)) rfl ?_
           refine gv_nil <| gv_goA ?_
           refine gv_pre [15, 16, 17, 18, 19, 20, 21, 22, 23, 24, 25, 26] (bA 27 [0, 1, 2, 3, 4, 5, 6, 7, 8, 9, 10, 11, 12, 13, 14, 15, 16, 17, 18, 19, 20, 21, 22, 23, 24, 25, 26]) 0 (by kernel_rfl) (by kernel_rfl) ?_
           refine gv_pureN 3 [114, 115, 116] [(116, (.bool (decide (x123.2 < x202))))] (by kernel_rfl) ?_
           refine gv_sub [0, 116] (σ' := [(0, (.string s4)), (116, (.bool (decide (x123.2 < x202))))]) (by kernel_rfl) ?_
           refine gv_split (s := 116) (g := (decide (x123.2 < x202))) (by kernel_rfl) (fun hc205 => ?_) (fun hc205 => ?_)
           ·skip
            replace h4 := ite_t hc205 h4
            refine gv_pureN 9 [117, 118, 119, 120, 121, 122, 123, 124, 125] [(125, (.bool true))] (by kernel_rfl) ?_
            refine gv_nil <| gv_goA ?_
            refine gv_stageE (by kernel_rfl) ?_
            have e := sj h4; subst e
            refine gv_goal fun a hd hs hok => ?_
            have hB206 := bg hB6 hg128 nb
            have hlo207 : w0.heap.size ≤ b126 := lob hbe130 hB6.size
            have hB208 := bg hB206 hg133 (rowlo hlo207)
            have hB209 := bg hB208 hg182 nb
            have hz210 := hg182.size
            exact ⟨hB209, hz210, hd, hs, ok_pick [0, 125] hok (by kernel_rfl)⟩
           ·skip
            replace h4 := ite_f hc205 h4
            refine gv_pureN 1 [117] [(117, (.string s4))] (by kernel_rfl) ?_
            refine bindE h4 ?_; clear h4; intro x211 hx212 h4
            refine gv_sindex (t := 9) (s := s4) (kk := .i64) (i := 2) x211 [] (fun e => by cases e) rfl rfl rfl (by kernel_rfl) (by kernel_rfl) Tryd.underlying9 hx212 rfl ?_
            refine gv_pureN 3 [119, 120, 121] [(121, (.bool (decide (x211 < 128))))] (by kernel_rfl) ?_
            refine gv_split (s := 121) (g := (decide (x211 < 128))) (by kernel_rfl) (fun hc213 => ?_) (fun hc213 => ?_)
            ·skip
             replace h4 := ite_t hc213 h4
             refine gv_pureN 4 [122, 123, 124, 125] [(125, (.bool true))] (by kernel_rfl) ?_
             refine gv_nil <| gv_goA ?_
             refine gv_stageE (by kernel_rfl) ?_
             have e := sj h4; subst e
             refine gv_goal fun a hd hs hok => ?_
             have hB214 := bg hB6 hg128 nb
             have hlo215 : w0.heap.size ≤ b126 := lob hbe130 hB6.size
             have hB216 := bg hB214 hg133 (rowlo hlo215)
             have hB217 := bg hB216 hg182 nb
             have hz218 := hg182.size
             exact ⟨hB217, hz218, hd, hs, ok_pick [0, 125] hok (by kernel_rfl)⟩
            ·skip
             replace h4 := ite_f hc213 h4
             refine gv_pureN 1 [122] [(122, (.string s4))] (by kernel_rfl) ?_
             refine bindE h4 ?_; clear h4; intro x219 hx220 h4
             refine gv_sindex (t := 9) (s := s4) (kk := .i64) (i := 2) x219 [] (fun e => by cases e) rfl rfl rfl (by kernel_rfl) (by kernel_rfl) Tryd.underlying9 hx220 rfl ?_
             refine gv_pureN 2 [124, 125] [(125, (.bool (decide (191 < x219))))] (by kernel_rfl) ?_
             refine gv_nil <| gv_goA ?_
             refine gv_stageE (by kernel_rfl) ?_
             have e := sj h4; subst e
             refine gv_goal fun a hd hs hok => ?_
             have hB221 := bg hB6 hg128 nb
             have hlo222 : w0.heap.size ≤ b126 := lob hbe130 hB6.size
             have hB223 := bg hB221 hg133 (rowlo hlo222)
             have hB224 := bg hB223 hg182 nb
             have hz225 := hg182.size
             exact ⟨hB224, hz225, hd, hs, ok_pick [0, 125] hok (by kernel_rfl)⟩
        ·rintro a w180 ⟨hB226, hz227, hd, hs, hok⟩
         refine gv_in ?_ hd hs hok
         clear hd hs hok
         have hz228 := (nt (nt hz7 hg128.size) hg133.size)
         clear hc178 hc139 hz135 hb134 hg133 hz131 hbe130 hb129 hg128 hc125 hx124 hn122 hx120 hc11 hx10 hc8 hz7 hB6
         refine gv_cond (b := j179) (by kernel_rfl) (fun hc229 => ?_) (fun hc229 => ?_)
         ·replace h3 := ite_t hc229 h3
          refine gv_seq <| gv_region <| gv_pureN 1 [2] [(2, (.bool false))] (by kernel_rfl) ?_
          refine gv_nil <| gv_cret ?_
          have e := sj h3; subst e
          replace h2 := cont_inr h2
          have e := sj h2; subst e
          replace h1 := congrArg some (hR2 _ rfl)
          have e := sj h1; subst e
          replace h0 := cont_inr h0
          have e := sj h0; subst e
          refine gv_ret (gv_done [(.bool false)] rfl ⟨(by kernel_rfl), trivial⟩ ?_)
          exact ⟨grown_of_below hB226, rfl⟩
         ·replace h3 := ite_f hc229 h3
          refine gv_skip <| gv_region <| gv_pureN 1 [126] [(126, (.string s4))] (by kernel_rfl) ?_
          refine bindE h3 ?_; clear h3; intro x230 hx231 h3
          refine gv_ssub (t := 9) (s := s4) (lo := (some (.int .i64 3))) (hi := none) 3 ((ByteArray.size s4 : Nat) : Int) x230 [] (fun e => by cases e) rfl rfl rfl (by kernel_rfl) (by kernel_rfl) Tryd.underlying9 (.inr ⟨_, rfl⟩) (.inl ⟨rfl, rfl⟩) hx231 rfl ?_
          refine gv_pureN 1 [0] [(0, (.string x230))] (by kernel_rfl) ?_
          refine gv_nil ?_
          have e := sj h3; subst e
          refine gv_goal fun a hd hs hok => ?_
          have hz232 := hz227
          exact ⟨x230, rfl, hB226, hz232, hd, hs, ok_pick [0] hok (by kernel_rfl)⟩
       ·replace h3 := ite_f hc178 h3
        refine gv_seq <| gv_region <| gv_pureN 2 [128, 129] [(128, (.bool (n121 == 4)))] (by kernel_rfl) ?_
        refine gv_nil <| gv_cond (b := (n121 == 4)) (by kernel_rfl) (fun hc233 => ?_) (fun hc233 => ?_)
        ·replace h3 := ite_t hc233 h3
         refine gv_seq <| gv_seq <| bindE h3 ?_; clear h3; intro j234 h4 h3
         refine gv_cut_code (J := fun a w235 => Below w0.heap.size w0 w235 ∧ w132.heap.size ≤ w235.heap.size ∧ a.defers = [] ∧ a.tmps.size = 169 ∧ Ok [(0, (.string s4)), (166, (.bool j234))] a.tmps) ?_ ?_
         ·skip
          refine gv_drawA (by kernel_rfl) ?_
          intro w236 hg237
          refine gv_pre [0, 1, 2, 3, 4, 5, 6] (bA 37 [0, 1, 2, 3, 4, 5, 6]) 30 (by kernel_rfl) (by kernel_rfl) ?_
          refine gv_pureN 4 [130, 131, 132, 133] [(133, (.bool (decide (((ByteArray.size s4 : Nat) : Int) < 4))))] (by kernel_rfl) ?_
          refine gv_split (s := 133) (g := (decide (((ByteArray.size s4 : Nat) : Int) < 4))) (by kernel_rfl) (fun hc238 => ?_) (fun hc238 => ?_)
          ·skip
           replace h4 := ite_t hc238 h4
           refine gv_pureN 3 [134, 135, 136] [(135, undef), (136, undef)] (by kernel_rfl) ?_
           refine gv_nil <| gv_goA ?_
           refine gv_stage (Cls w236 []) [0, 1, 2, 3, 4, 5, 6, 7] [(7, some true)] (bA 37 [0, 1, 2, 3, 4, 5, 6, 7]) 29 (by kernel_rfl) (by kernel_rfl) (Cls.refl _ _) ?_
           have hC239 := Cls.refl w236 []
           refine gv_pureN 1 [137] [(137, undef)] (by kernel_rfl) ?_
           refine gv_nil <| gv_goA ?_
           refine gv_pre [8, 9, 10, 11, 13, 14] (bA 37 [0, 1, 2, 3, 4, 5, 6, 7, 8, 9, 10, 11, 13, 14]) 23 (by kernel_rfl) (by kernel_rfl) ?_
           refine gv_pureN 6 [138, 139, 140, 141, 143, 144] [(140, (.bool true)), (141, undef), (144, undef)] (by kernel_rfl) ?_
           refine gv_nil <| gv_goA ?_
           refine gv_stage (Cls w236 []) [0, 1, 2, 3, 4, 5, 6, 7, 8, 9, 10, 11, 12, 13, 14] [(12, some true)] (bA 37 [0, 1, 2, 3, 4, 5, 6, 7, 8, 9, 10, 11, 12, 13, 14]) 22 (by kernel_rfl) (by kernel_rfl) (Cls.refl _ _) ?_
           have hC240 := Cls.refl w236 []
           refine gv_pureN 1 [142] [(142, undef)] (by kernel_rfl) ?_
           refine gv_nil <| gv_goA ?_
           refine gv_pre [15, 16, 17, 18, 19, 20, 21, 22, 23, 24, 25, 26, 27, 28, 29, 30, 31, 32, 33, 34, 35, 36] (bA 37 [0, 1, 2, 3, 4, 5, 6, 7, 8, 9, 10, 11, 12, 13, 14, 15, 16, 17, 18, 19, 20, 21, 22, 23, 24, 25, 26, 27, 28, 29, 30, 31, 32, 33, 34, 35, 36]) 0 (by kernel_rfl) (by kernel_rfl) ?_
           refine gv_pureN 22 [145, 146, 147, 148, 149, 150, 151, 152, 153, 154, 155, 156, 157, 158, 159, 160, 161, 162, 163, 164, 165, 166] [(166, (.bool true))] (by kernel_rfl) ?_
           refine gv_nil <| gv_goA ?_
           refine gv_stageE (by kernel_rfl) ?_
           have e := sj h4; subst e
           refine gv_goal fun a hd hs hok => ?_
           have hB241 := bg hB6 hg128 nb
           have hlo242 : w0.heap.size ≤ b126 := lob hbe130 hB6.size
           have hB243 := bg hB241 hg133 (rowlo hlo242)
           have hB244 := bg hB243 hg237 nb
           have hz245 := hg237.size
           exact ⟨hB244, hz245, hd, hs, ok_pick [0, 166] hok (by kernel_rfl)⟩
          ·skip
           replace h4 := ite_f hc238 h4
           refine gv_pureN 1 [134] [(134, (.string s4))] (by kernel_rfl) ?_
           refine bindE h4 ?_; clear h4; intro x246 hx247 h4
           refine gv_sindex (t := 9) (s := s4) (kk := .i64) (i := 1) x246 [] (fun e => by cases e) rfl rfl rfl (by kernel_rfl) (by kernel_rfl) Tryd.underlying9 hx247 rfl ?_
           refine gv_pureN 1 [136] [(136, (bp b126))] (by kernel_rfl) ?_
           refine gv_nil <| gv_goA ?_
           refine gv_stage (Cls w236 []) [0, 1, 2, 3, 4, 5, 6, 7] [(7, some true)] (bA 37 [0, 1, 2, 3, 4, 5, 6, 7]) 29 (by kernel_rfl) (by kernel_rfl) (Cls.refl _ _) ?_
           have hC248 := Cls.refl w236 []
           have hk249 := hb134.grown hg237 nb
           refine gv_load (t := 5) (A := ⟨b126, 0, none⟩) (.int .u8 x123.1) [] (fun e => by cases e) rfl rfl rfl (by kernel_rfl) (by kernel_rfl) (by kernel_rfl) (inw1 fun w' hC' => ((hC'.box hk249 nm_nil).cell 0 rfl)) rfl ?_
           refine gv_nil <| gv_goA ?_
           refine gv_pre [8, 9, 10, 11, 13, 14] (bA 37 [0, 1, 2, 3, 4, 5, 6, 7, 8, 9, 10, 11, 13, 14]) 23 (by kernel_rfl) (by kernel_rfl) ?_
           refine gv_pureN 3 [138, 139, 140] [(140, (.bool (decide (x246 < x123.1))))] (by kernel_rfl) ?_
           refine gv_split (s := 140) (g := (decide (x246 < x123.1))) (by kernel_rfl) (fun hc250 => ?_) (fun hc250 => ?_)
           ·skip
            replace h4 := ite_t hc250 h4
            refine gv_pureN 3 [141, 143, 144] [(141, undef), (144, undef)] (by kernel_rfl) ?_
            refine gv_nil <| gv_goA ?_
            refine gv_stage (Cls w236 []) [0, 1, 2, 3, 4, 5, 6, 7, 8, 9, 10, 11, 12, 13, 14] [(12, some true)] (bA 37 [0, 1, 2, 3, 4, 5, 6, 7, 8, 9, 10, 11, 12, 13, 14]) 22 (by kernel_rfl) (by kernel_rfl) (Cls.refl _ _) ?_
            have hC251 := Cls.refl w236 []
            refine gv_pureN 1 [142] [(142, undef)] (by kernel_rfl) ?_
            refine gv_nil <| gv_goA ?_
            refine gv_pre [15, 16, 17, 18, 19, 20, 21, 22, 23, 24, 25, 26, 27, 28, 29, 30, 31, 32, 33, 34, 35, 36] (bA 37 [0, 1, 2, 3, 4, 5, 6, 7, 8, 9, 10, 11, 12, 13, 14, 15, 16, 17, 18, 19, 20, 21, 22, 23, 24, 25, 26, 27, 28, 29, 30, 31, 32, 33, 34, 35, 36]) 0 (by kernel_rfl) (by kernel_rfl) ?_
            refine gv_pureN 22 [145, 146, 147, 148, 149, 150, 151, 152, 153, 154, 155, 156, 157, 158, 159, 160, 161, 162, 163, 164, 165, 166] [(166, (.bool true))] (by kernel_rfl) ?_
            refine gv_sub [0, 166] (σ' := [(0, (.string s4)), (166, (.bool true))]) (by kernel_rfl) ?_
            refine gv_nil <| gv_goA ?_
            refine gv_stageE (by kernel_rfl) ?_
            have e := sj h4; subst e
            refine gv_goal fun a hd hs hok => ?_
            have hB252 := bg hB6 hg128 nb
            have hlo253 : w0.heap.size ≤ b126 := lob hbe130 hB6.size
            have hB254 := bg hB252 hg133 (rowlo hlo253)
            have hB255 := bg hB254 hg237 nb
            have hz256 := hg237.size
            exact ⟨hB255, hz256, hd, hs, ok_pick [0, 166] hok (by kernel_rfl)⟩
           ·skip
            replace h4 := ite_f hc250 h4
            refine gv_pureN 2 [141, 143] [(141, (.pointer (some ⟨b126, 1, none⟩))), (143, (.string s4))] (by kernel_rfl) ?_
            refine bindE h4 ?_; clear h4; intro x257 hx258 h4
            refine gv_sindex (t := 9) (s := s4) (kk := .i64) (i := 1) x257 [] (fun e => by cases e) rfl rfl rfl (by kernel_rfl) (by kernel_rfl) Tryd.underlying9 hx258 rfl ?_
            refine gv_nil <| gv_goA ?_
            refine gv_stage (Cls w236 []) [0, 1, 2, 3, 4, 5, 6, 7, 8, 9, 10, 11, 12, 13, 14] [(12, some true)] (bA 37 [0, 1, 2, 3, 4, 5, 6, 7, 8, 9, 10, 11, 12, 13, 14]) 22 (by kernel_rfl) (by kernel_rfl) (Cls.refl _ _) ?_
            have hC259 := Cls.refl w236 []
            refine gv_load (t := 5) (A := ⟨b126, 1, none⟩) (.int .u8 x123.2) [] (fun e => by cases e) rfl rfl rfl (by kernel_rfl) (by kernel_rfl) (by kernel_rfl) (inw1 fun w' hC' => ((hC'.box hk249 nm_nil).cell 1 rfl)) rfl ?_
            refine gv_nil <| gv_goA ?_
            refine gv_pre [15, 16, 17, 18, 19, 20, 21, 22, 23, 24, 25, 26, 27, 28, 29, 30, 31, 32, 33, 34, 35, 36] (bA 37 [0, 1, 2, 3, 4, 5, 6, 7, 8, 9, 10, 11, 12, 13, 14, 15, 16, 17, 18, 19, 20, 21, 22, 23, 24, 25, 26, 27, 28, 29, 30, 31, 32, 33, 34, 35, 36]) 0 (by kernel_rfl) (by kernel_rfl) ?_
            refine gv_pureN 3 [145, 146, 147] [(147, (.bool (decide (x123.2 < x257))))] (by kernel_rfl) ?_
            refine gv_sub [0, 147] (σ' := [(0, (.string s4)), (147, (.bool (decide (x123.2 < x257))))]) (by kernel_rfl) ?_
            refine gv_split (s := 147) (g := (decide (x123.2 < x257))) (by kernel_rfl) (fun hc260 => ?_) (fun hc260 => ?_)
            ·skip
             replace h4 := ite_t hc260 h4
             refine gv_pureN 19 [148, 149, 150, 151, 152, 153, 154, 155, 156, 157, 158, 159, 160, 161, 162, 163, 164, 165, 166] [(166, (.bool true))] (by kernel_rfl) ?_
             refine gv_nil <| gv_goA ?_
             refine gv_stageE (by kernel_rfl) ?_
             have e := sj h4; subst e
             refine gv_goal fun a hd hs hok => ?_
             have hB261 := bg hB6 hg128 nb
             have hlo262 : w0.heap.size ≤ b126 := lob hbe130 hB6.size
             have hB263 := bg hB261 hg133 (rowlo hlo262)
             have hB264 := bg hB263 hg237 nb
             have hz265 := hg237.size
             exact ⟨hB264, hz265, hd, hs, ok_pick [0, 166] hok (by kernel_rfl)⟩
            ·skip
             replace h4 := ite_f hc260 h4
             refine gv_pureN 1 [148] [(148, (.string s4))] (by kernel_rfl) ?_
             refine bindE h4 ?_; clear h4; intro x266 hx267 h4
             refine gv_sindex (t := 9) (s := s4) (kk := .i64) (i := 2) x266 [] (fun e => by cases e) rfl rfl rfl (by kernel_rfl) (by kernel_rfl) Tryd.underlying9 hx267 rfl ?_
             refine gv_pureN 3 [150, 151, 152] [(152, (.bool (decide (x266 < 128))))] (by kernel_rfl) ?_
             refine gv_split (s := 152) (g := (decide (x266 < 128))) (by kernel_rfl) (fun hc268 => ?_) (fun hc268 => ?_)
             ·skip
              replace h4 := ite_t hc268 h4
              refine gv_pureN 14 [153, 154, 155, 156, 157, 158, 159, 160, 161, 162, 163, 164, 165, 166] [(166, (.bool true))] (by kernel_rfl) ?_
              refine gv_nil <| gv_goA ?_
              refine gv_stageE (by kernel_rfl) ?_
              have e := sj h4; subst e
              refine gv_goal fun a hd hs hok => ?_
              have hB269 := bg hB6 hg128 nb
              have hlo270 : w0.heap.size ≤ b126 := lob hbe130 hB6.size
              have hB271 := bg hB269 hg133 (rowlo hlo270)
              have hB272 := bg hB271 hg237 nb
              have hz273 := hg237.size
              exact ⟨hB272, hz273, hd, hs, ok_pick [0, 166] hok (by kernel_rfl)⟩
             ·skip
              replace h4 := ite_f hc268 h4
              refine gv_pureN 1 [153] [(153, (.string s4))] (by kernel_rfl) ?_
              refine bindE h4 ?_; clear h4; intro x274 hx275 h4
              refine gv_sindex (t := 9) (s := s4) (kk := .i64) (i := 2) x274 [] (fun e => by cases e) rfl rfl rfl (by kernel_rfl) (by kernel_rfl) Tryd.underlying9 hx275 rfl ?_
              refine gv_pureN 3 [155, 156, 157] [(157, (.bool (decide (191 < x274))))] (by kernel_rfl) ?_
              refine gv_split (s := 157) (g := (decide (191 < x274))) (by kernel_rfl) (fun hc276 => ?_) (fun hc276 => ?_)
              ·skip
               replace h4 := ite_t hc276 h4
               refine gv_pureN 9 [158, 159, 160, 161, 162, 163, 164, 165, 166] [(166, (.bool true))] (by kernel_rfl) ?_
               refine gv_nil <| gv_goA ?_
               refine gv_stageE (by kernel_rfl) ?_
               have e := sj h4; subst e
               refine gv_goal fun a hd hs hok => ?_
               have hB277 := bg hB6 hg128 nb
               have hlo278 : w0.heap.size ≤ b126 := lob hbe130 hB6.size
               have hB279 := bg hB277 hg133 (rowlo hlo278)
               have hB280 := bg hB279 hg237 nb
               have hz281 := hg237.size
               exact ⟨hB280, hz281, hd, hs, ok_pick [0, 166] hok (by kernel_rfl)⟩
              ·skip
               replace h4 := ite_f hc276 h4
               refine gv_pureN 1 [158] [(158, (.string s4))] (by kernel_rfl) ?_
               refine bindE h4 ?_; clear h4; intro x282 hx283 h4
               refine gv_sindex (t := 9) (s := s4) (kk := .i64) (i := 3) x282 [] (fun e => by cases e) rfl rfl rfl (by kernel_rfl) (by kernel_rfl) Tryd.underlying9 hx283 rfl ?_
               refine gv_pureN 3 [160, 161, 162] [(162, (.bool (decide (x282 < 128))))] (by kernel_rfl) ?_
               refine gv_split (s := 162) (g := (decide (x282 < 128))) (by kernel_rfl) (fun hc284 => ?_) (fun hc284 => ?_)
               ·skip
                replace h4 := ite_t hc284 h4
                refine gv_pureN 4 [163, 164, 165, 166] [(166, (.bool true))] (by kernel_rfl) ?_
                refine gv_nil <| gv_goA ?_
                refine gv_stageE (by kernel_rfl) ?_
                have e := sj h4; subst e
                refine gv_goal fun a hd hs hok => ?_
                have hB285 := bg hB6 hg128 nb
                have hlo286 : w0.heap.size ≤ b126 := lob hbe130 hB6.size
                have hB287 := bg hB285 hg133 (rowlo hlo286)
                have hB288 := bg hB287 hg237 nb
                have hz289 := hg237.size
                exact ⟨hB288, hz289, hd, hs, ok_pick [0, 166] hok (by kernel_rfl)⟩
               ·skip
                replace h4 := ite_f hc284 h4
                refine gv_pureN 1 [163] [(163, (.string s4))] (by kernel_rfl) ?_
                refine bindE h4 ?_; clear h4; intro x290 hx291 h4
                refine gv_sindex (t := 9) (s := s4) (kk := .i64) (i := 3) x290 [] (fun e => by cases e) rfl rfl rfl (by kernel_rfl) (by kernel_rfl) Tryd.underlying9 hx291 rfl ?_
                refine gv_pureN 2 [165, 166] [(166, (.bool (decide (191 < x290))))] (by kernel_rfl) ?_
                refine gv_nil <| gv_goA ?_
                refine gv_stageE (by kernel_rfl) ?_
                have e := sj h4; subst e
                refine gv_goal fun a hd hs hok => ?_
                have hB292 := bg hB6 hg128 nb
                have hlo293 : w0.heap.size ≤ b126 := lob hbe130 hB6.size
                have hB294 := bg hB292 hg133 (rowlo hlo293)
                have hB295 := bg hB294 hg237 nb
                have hz296 := hg237.size
                exact ⟨hB295, hz296, hd, hs, ok_pick [0, 166] hok (by kernel_rfl)⟩
         ·rintro a w235 ⟨hB297, hz298, hd, hs, hok⟩
          refine gv_in ?_ hd hs hok
          clear hd hs hok
          have hz299 := (nt (nt hz7 hg128.size) hg133.size)
          clear hc233 hc178 hc139 hz135 hb134 hg133 hz131 hbe130 hb129 hg128 hc125 hx124 hn122 hx120 hc11 hx10 hc8 hz7 hB6
          refine gv_cond (b := j234) (by kernel_rfl) (fun hc300 => ?_) (fun hc300 => ?_)
          ·replace h3 := ite_t hc300 h3
           refine gv_seq <| gv_region <| gv_pureN 1 [2] [(2, (.bool false))] (by kernel_rfl) ?_
           refine gv_nil <| gv_cret ?_
           have e := sj h3; subst e
           replace h2 := cont_inr h2
           have e := sj h2; subst e
           replace h1 := congrArg some (hR2 _ rfl)
           have e := sj h1; subst e
           replace h0 := cont_inr h0
           have e := sj h0; subst e
           refine gv_ret (gv_done [(.bool false)] rfl ⟨(by kernel_rfl), trivial⟩ ?_)
           exact ⟨grown_of_below hB297, rfl⟩
          ·replace h3 := ite_f hc300 h3
           refine gv_skip <| gv_region <| gv_pureN 1 [167] [(167, (.string s4))] (by kernel_rfl) ?_
           refine bindE h3 ?_; clear h3; intro x301 hx302 h3
           refine gv_ssub (t := 9) (s := s4) (lo := (some (.int .i64 4))) (hi := none) 4 ((ByteArray.size s4 : Nat) : Int) x301 [] (fun e => by cases e) rfl rfl rfl (by kernel_rfl) (by kernel_rfl) Tryd.underlying9 (.inr ⟨_, rfl⟩) (.inl ⟨rfl, rfl⟩) hx302 rfl ?_
           refine gv_pureN 1 [0] [(0, (.string x301))] (by kernel_rfl) ?_
           refine gv_nil ?_
           have e := sj h3; subst e
           refine gv_goal fun a hd hs hok => ?_
           have hz303 := hz298
           exact ⟨x301, rfl, hB297, hz303, hd, hs, ok_pick [0] hok (by kernel_rfl)⟩
        ·replace h3 := ite_f hc233 h3
         refine gv_seq <| gv_region <| gv_pureN 1 [2] [(2, (.bool false))] (by kernel_rfl) ?_
         refine gv_nil <| gv_cret ?_
         have e := sj h3; subst e
         replace h2 := cont_inr h2
         have e := sj h2; subst e
         replace h1 := congrArg some (hR2 _ rfl)
         have e := sj h1; subst e
         replace h0 := cont_inr h0
         have e := sj h0; subst e
         refine gv_ret (gv_done [(.bool false)] rfl ⟨(by kernel_rfl), trivial⟩ ?_)
         have hB304 := bg hB6 hg128 nb
         have hlo305 : w0.heap.size ≤ b126 := lob hbe130 hB6.size
         have hB306 := bg hB304 hg133 (rowlo hlo305)
         exact ⟨grown_of_below hB306, rfl⟩
     ·rintro a w138 ⟨s137, e, hB307, hz308, hd, hs, hok⟩
      subst e
      refine gv_in ?_ hd hs hok
      clear hd hs hok
      replace h2 := cont_inl h2
      have hz309 := (nt (nt (nt hz7 hg128.size) hg133.size) hz308)
      clear hz308 hz135 hb134 hg133 hz131 hbe130 hb129 hg128 hc125 hx124 hn122 hx120 hc11 hx10 hc8 hz7 hB6
      refine gv_blk <| gv_blk ?_
      have e := sj h2; subst e
      refine gv_goal fun a hd hs hok => ?_
      have hz310 := hz309
      exact ⟨s137, rfl, hB307, hz310, hd, hs, ok_pick [0] hok (by kernel_rfl)⟩
   ·replace h2 := ite_f hc8 h2
    refine gv_cexit <| gv_exit rfl ?_
    have e := sj h2; subst e
    replace h1 := congrArg some (hR2 _ rfl)
    have e := sj h1; subst e
    refine gv_goal fun a hd hs hok => ?_
    have hz311 := hz7
    exact ⟨(), rfl, hB6, hz311, hd, hs, ok_pick [] hok (by kernel_rfl)⟩
 ·rintro a w3 ⟨s2, e, hB312, hz313, hd, hs, hok⟩
  subst e
  refine gv_in ?_ hd hs hok
  clear hd hs hok
  replace h0 := cont_inl h0
  refine gv_seq <| gv_region <| gv_pureN 1 [2] [(2, (.bool true))] (by kernel_rfl) ?_
  refine gv_nil <| gv_cret ?_
  have e := sj h0; subst e
  refine gv_ret (gv_done [(.bool true)] rfl ⟨(by kernel_rfl), trivial⟩ ?_)
  exact ⟨grown_of_below hB312, rfl⟩

theorem bytestr_result_ok (fuel : Nat) (pa0_0 : Option Addr) (pc0_0 : Nat) (b_0 : (List UInt8)) (w0 : World) (X0 : Nat → Prop) (hX0 : ∀ k, X0 k → k < w0.heap.size) (hpa0_0 : Rd bE w0 X0 pa0_0 pc0_0 b_0) (r0 : ((List UInt8) × (Int × Int))) (h0 : bytestr_result fuel b_0 = some r0) :
    Calls Tryd.prog 44 ([(.slice pa0_0 (List.length b_0) pc0_0)] : List Value).toArray w0 (Ret fun v w' => w0.grownBy w' none ∧ ∃ (a0_0r : Option Addr) (c0_0r : Nat), ∃ (X0_0r : Nat → Prop), v = tup [(.slice a0_0r (List.length r0.1) c0_0r), (.agg #[(.int .i64 r0.2.1), (.int .i64 r0.2.2)])] ∧ Rd bE w' X0_0r a0_0r c0_0r r0.1 ∧ (∀ k, X0_0r k → k < w'.heap.size ∧ (X0 k ∨ w0.heap.size ≤ k))) := by
 have hB0 : Below w0.heap.size w0 w0 := Below.refl _ _
 unfold bytestr_result at h0
 refine calls_run Tryd.func44 rfl Tryd.ntmps44 (by kernel_rfl) ?_
 refine gv_sub [0] (σ' := [(0, (.slice pa0_0 (List.length b_0) pc0_0))]) (by kernel_rfl) ?_
 refine gv_seq <| gv_region <| gv_pureN 1 [2] [] (by kernel_rfl) ?_
 refine gv_new0 (fun b => .pointer (some ⟨b, 0, none⟩)) #[(.int .i64 0), (.int .i64 0)] 25 (by kernel_rfl) (by kernel_rfl) ?_
 intro b1 w2 hg3 hb4 hbe5 hz6
 refine gv_nil <| gv_seq <| gv_seq <| gv_region <| gv_pureN 3 [4, 5, 6] [(6, (.bool (decide (((List.length b_0 : Nat) : Int) > 4000))))] (by kernel_rfl) ?_
 refine gv_nil <| gv_cond (b := (decide (((List.length b_0 : Nat) : Int) > 4000))) (by kernel_rfl) (fun hc7 => ?_) (fun hc7 => ?_)
 ·replace h0 := ite_t hc7 h0
  refine gv_seq <| gv_region <| bindE h0 ?_; clear h0; intro r8 hr9 h0
  refine gv_call0 (by kernel_rfl) rfl (by kernel_rfl) enters38 (bytestr_at_ok fuel 3 (-1) w2  r8 hr9) ?_
  rintro v12 w10 ⟨hg11, rfl⟩
  refine gv_pureN 1 [2] [(2, (.slice none (List.length ([] : List UInt8)) 0))] (by kernel_rfl) ?_
  have hk17 := hb4.grown hg11 nb
  refine gv_store0 25 0 (.agg #[(.int .i64 r8.1), (.int .i64 r8.2)]) #[(.int .i64 r8.1), (.int .i64 r8.2)] hk17 (by kernel_rfl) (by kernel_rfl) (by kernel_rfl) ?_
  intro w13 hg14 hb15 hz16
  refine gv_nil <| gv_cret ?_
  have e := sj h0; subst e
  refine gv_ret (gv_done [(.slice none (List.length ([] : List UInt8)) 0), (.agg #[(.int .i64 r8.1), (.int .i64 r8.2)])] rfl ⟨(by kernel_rfl), ⟨⟨b1, 0, none⟩, (by kernel_rfl), run_loadVar_row w13 b1 _ 25 _ _ _ hb15 Tryd.underlying25 rfl (by kernel_rfl)⟩, trivial⟩ ?_)
  have hg18 := (grown_trans hg3 hg11)
  have hB19 := bg hB0 hg18 nb
  have hlo20 : w0.heap.size ≤ b1 := lob hbe5 hB0.size
  have hB21 := bg hB19 hg14 (rowlo hlo20)
  exact ⟨grown_of_below hB21, none, 0, (fun _ => False), rfl, (Rd.nil bE w13 (fun _ => False) none 0), (fun k hk => ⟨(fun _ h => h.elim) k hk, (fun _ h => h.elim) k hk⟩)⟩
 ·replace h0 := ite_f hc7 h0
  refine gv_skip <| gv_seq <| gv_region <| gv_pureN 3 [2, 8, 9] [(2, (.slice pa0_0 (List.length b_0) pc0_0)), (9, (.agg #[(.int .i64 0), (.int .i64 0)]))] (by kernel_rfl) ?_
  refine gv_store0 25 0 (.agg #[(.int .i64 0), (.int .i64 0)]) #[(.int .i64 0), (.int .i64 0)] hb4 (by kernel_rfl) (by kernel_rfl) (by kernel_rfl) ?_
  intro w22 hg23 hb24 hz25
  refine gv_nil <| gv_cret ?_
  have e := sj h0; subst e
  refine gv_ret (gv_done [(.slice pa0_0 (List.length b_0) pc0_0), (.agg #[(.int .i64 0), (.int .i64 0)])] rfl ⟨(by kernel_rfl), ⟨⟨b1, 0, none⟩, (by kernel_rfl), run_loadVar_row w22 b1 _ 25 _ _ _ hb24 Tryd.underlying25 rfl (by kernel_rfl)⟩, trivial⟩ ?_)
  have hB26 := bg hB0 hg3 nb
  have hlo27 : w0.heap.size ≤ b1 := lob hbe5 hB0.size
  have hB28 := bg hB26 hg23 (rowlo hlo27)
  exact ⟨grown_of_below hB28, pa0_0, pc0_0, X0, rfl, (hpa0_0.below hB28 hX0), (fun k hk => ⟨(fun k (hk : X0 k) => ltl (hX0 k hk) hB28.size) k hk, (fun k (hk : X0 k) => Or.inl hk) k hk⟩)⟩

theorem bytestr_Encode_ok (fuel : Nat) (s_0 : ByteArray) (coding_1 : Int) (w0 : World) (X0 : Nat → Prop) (hX0 : ∀ k, X0 k → k < w0.heap.size) (hG0 : Rd bE w0 X0 (some ⟨0, 0, none⟩) 256 utf8First) (hG1 : Rd (prE (iE .u8) (iE .u8)) w0 X0 (some ⟨1, 0, none⟩) 16 utf8Acc) (r0 : ((List UInt8) × (Int × Int))) (h0 : bytestr_Encode fuel s_0 coding_1 = some r0) :
    Calls Tryd.prog 22 ([(.string s_0), (.int .i64 coding_1)] : List Value).toArray w0 (Ret fun v w' => w0.grownBy w' none ∧ ∃ (a0_0r : Option Addr) (c0_0r : Nat), ∃ (X0_0r : Nat → Prop), v = tup [(.slice a0_0r (List.length r0.1) c0_0r), (.agg #[(.int .i64 r0.2.1), (.int .i64 r0.2.2)])] ∧ Rd bE w' X0_0r a0_0r c0_0r r0.1 ∧ (∀ k, X0_0r k → k < w'.heap.size ∧ (X0 k ∨ w0.heap.size ≤ k))) := by
 have hB0 : Below w0.heap.size w0 w0 := Below.refl _ _
 unfold bytestr_Encode at h0
 refine calls_run Tryd.func22 rfl Tryd.ntmps22 (by kernel_rfl) ?_
 refine gv_sub [0, 1] (σ' := [(0, (.string s_0)), (1, (.int .i64 coding_1))]) (by kernel_rfl) ?_
 refine gv_seq <| gv_region <| gv_pureN 1 [4] [] (by kernel_rfl) ?_
 refine gv_new0 (fun b => .pointer (some ⟨b, 0, none⟩)) #[(.int .i64 0), (.int .i64 0)] 25 (by kernel_rfl) (by kernel_rfl) ?_
 intro b1 w2 hg3 hb4 hbe5 hz6
 refine gv_nil <| gv_seq <| gv_block <| gv_seq <| gv_region <| bindE h0 ?_; clear h0; intro j7 h1 h0
 refine gv_cut_ops (J := fun a w8 => Below w0.heap.size w0 w8 ∧ w2.heap.size ≤ w8.heap.size ∧ Box w8 b1 25 #[(.int .i64 0), (.int .i64 0)] ∧ a.defers = [] ∧ a.tmps.size = 96 ∧ Ok [(0, (.string s_0)), (1, (.int .i64 coding_1)), (5, (bp b1)), (12, (.bool j7))] a.tmps) ?_ ?_
 ·skip
  refine gv_pureN 1 [13] [(13, (.string s_0))] (by kernel_rfl) ?_
  refine bindE h1 ?_; clear h1; intro r9 hr10 h1
  have hB11 := bg hB0 hg3 nb
  refine gv_call0 (by kernel_rfl) rfl (by kernel_rfl) enters42 (utf8_ValidString_ok fuel s_0 w2 (fun k => X0 k ∨ X0 k) (fun k hk => (hk).elim (fun h => (fun k (hk : X0 k) => ltl (hX0 k hk) hB11.size) k h) (fun h => (fun k (hk : X0 k) => ltl (hX0 k hk) hB11.size) k h)) ((hG0.below hB11 hX0).wide (fun k hk => (.inl hk))) ((hG1.below hB11 hX0).wide (fun k hk => (.inr hk))) r9 hr10) ?_
  rintro v14 w12 ⟨hg13, rfl⟩
  refine gv_pureN 2 [15, 16] [(16, (.bool (!r9)))] (by kernel_rfl) ?_
  refine gv_split (s := 16) (g := (!r9)) (by kernel_rfl) (fun hc15 => ?_) (fun hc15 => ?_)
  ·skip
   replace h1 := ite_t hc15 h1
   refine gv_pureN 5 [12, 17, 18, 19, 20] [(12, (.bool true))] (by kernel_rfl) ?_
   refine gv_nil ?_
   have e := sj h1; subst e
   refine gv_goal fun a hd hs hok => ?_
   have hB16 := bg hB11 hg13 nb
   have hz17 := hg13.size
   have hk18 := hb4.grown hg13 nb
   exact ⟨hB16, hz17, hk18, hd, hs, ok_pick [0, 1, 5, 12] hok (by kernel_rfl)⟩
  ·skip
   replace h1 := ite_f hc15 h1
   refine gv_pureN 5 [12, 17, 18, 19, 20] [(12, (.bool (decide (((ByteArray.size s_0 : Nat) : Int) > 4000))))] (by kernel_rfl) ?_
   refine bindE h1 ?_; clear h1; intro n19 hn20 h1
   refine gv_name (s := 12) (v := (.bool (decide (((ByteArray.size s_0 : Nat) : Int) > 4000)))) (v' := (.bool n19)) (by kernel_rfl) (congrArg (Value.bool) (sj hn20)) ?_
   refine gv_nil ?_
   have e := sj h1; subst e
   refine gv_goal fun a hd hs hok => ?_
   have hB21 := bg hB11 hg13 nb
   have hz22 := hg13.size
   have hk23 := hb4.grown hg13 nb
   exact ⟨hB21, hz22, hk23, hd, hs, ok_pick [0, 1, 5, 12] hok (by kernel_rfl)⟩
 ·rintro a w8 ⟨hB24, hz25, hb26, hd, hs, hok⟩
  refine gv_in ?_ hd hs hok
  clear hd hs hok
  clear hz25 hz6 hb4 hg3
  refine gv_cond (b := j7) (by kernel_rfl) (fun hc27 => ?_) (fun hc27 => ?_)
  ·replace h0 := ite_t hc27 h0
   refine gv_seq <| gv_region <| bindE h0 ?_; clear h0; intro r28 hr29 h0
   refine gv_call0 (by kernel_rfl) rfl (by kernel_rfl) enters38 (bytestr_at_ok fuel 6 (-1) w8  r28 hr29) ?_
   rintro v32 w30 ⟨hg31, rfl⟩
   refine gv_pureN 1 [4] [(4, (.slice none (List.length ([] : List UInt8)) 0))] (by kernel_rfl) ?_
   have hk37 := hb26.grown hg31 nb
   refine gv_store0 25 0 (.agg #[(.int .i64 r28.1), (.int .i64 r28.2)]) #[(.int .i64 r28.1), (.int .i64 r28.2)] hk37 (by kernel_rfl) (by kernel_rfl) (by kernel_rfl) ?_
   intro w33 hg34 hb35 hz36
   refine gv_nil <| gv_cret ?_
   have e := sj h0; subst e
   refine gv_ret (gv_done [(.slice none (List.length ([] : List UInt8)) 0), (.agg #[(.int .i64 r28.1), (.int .i64 r28.2)])] rfl ⟨(by kernel_rfl), ⟨⟨b1, 0, none⟩, (by kernel_rfl), run_loadVar_row w33 b1 _ 25 _ _ _ hb35 Tryd.underlying25 rfl (by kernel_rfl)⟩, trivial⟩ ?_)
   have hB38 := bg hB24 hg31 nb
   have hlo39 : w0.heap.size ≤ b1 := lob hbe5 hB0.size
   have hB40 := bg hB38 hg34 (rowlo hlo39)
   exact ⟨grown_of_below hB40, none, 0, (fun _ => False), rfl, (Rd.nil bE w33 (fun _ => False) none 0), (fun k hk => ⟨(fun _ h => h.elim) k hk, (fun _ h => h.elim) k hk⟩)⟩
  ·replace h0 := ite_f hc27 h0
   refine gv_seq <| gv_region <| gv_cut_ops (J := fun a w41 => w8 = w41 ∧ a.defers = [] ∧ a.tmps.size = 96 ∧ Ok [(0, (.string s_0)), (1, (.int .i64 coding_1)), (5, (bp b1)), (22, (.bool ((decide (coding_1 < 0)) || (decide (coding_1 > 2)))))] a.tmps) ?_ ?_
   ·skip
    refine gv_pureN 3 [23, 24, 25] [(25, (.bool (decide (coding_1 < 0))))] (by kernel_rfl) ?_
    refine gv_split (s := 25) (g := (decide (coding_1 < 0))) (by kernel_rfl) (fun hc42 => ?_) (fun hc42 => ?_)
    ·skip
     refine gv_pureN 4 [22, 26, 27, 28] [(22, (.bool true))] (by kernel_rfl) ?_
     refine gv_nil <| gv_sub [0, 1, 5, 22] (σ' := [(0, (.string s_0)), (1, (.int .i64 coding_1)), (5, (bp b1)), (22, (.bool true))]) (by kernel_rfl) ?_
     refine gv_goal fun a hd hs hok => ⟨rfl, hd, hs, ?_⟩
     obtain ⟨q0, q1, q5, q22, _⟩ := hok
     exact ⟨q0, q1, q5, (by rw [hc42]; exact q22), trivial⟩
    ·skip
     refine gv_pureN 4 [22, 26, 27, 28] [(22, (.bool (decide (coding_1 > 2))))] (by kernel_rfl) ?_
     refine gv_nil <| gv_sub [0, 1, 5, 22] (σ' := [(0, (.string s_0)), (1, (.int .i64 coding_1)), (5, (bp b1)), (22, (.bool (decide (coding_1 > 2))))]) (by kernel_rfl) ?_
     refine gv_goal fun a hd hs hok => ⟨rfl, hd, hs, ?_⟩
     obtain ⟨q0, q1, q5, q22, _⟩ := hok
     exact ⟨q0, q1, q5, (by rw [hc42]; exact q22), trivial⟩
   ·rintro a w41 ⟨e, hd, hs, hok⟩; subst e
    refine gv_in ?_ hd hs hok
    clear hd hs hok
    refine gv_cond (b := ((decide (coding_1 < 0)) || (decide (coding_1 > 2)))) (by kernel_rfl) (fun hc43 => ?_) (fun hc43 => ?_)
    ·replace h0 := ite_t hc43 h0
     refine gv_seq <| gv_region <| bindE h0 ?_; clear h0; intro r44 hr45 h0
     refine gv_call0 (by kernel_rfl) rfl (by kernel_rfl) enters38 (bytestr_at_ok fuel 5 (-2) w8  r44 hr45) ?_
     rintro v48 w46 ⟨hg47, rfl⟩
     refine gv_pureN 1 [4] [(4, (.slice none (List.length ([] : List UInt8)) 0))] (by kernel_rfl) ?_
     have hk53 := hb26.grown hg47 nb
     refine gv_store0 25 0 (.agg #[(.int .i64 r44.1), (.int .i64 r44.2)]) #[(.int .i64 r44.1), (.int .i64 r44.2)] hk53 (by kernel_rfl) (by kernel_rfl) (by kernel_rfl) ?_
     intro w49 hg50 hb51 hz52
     refine gv_nil <| gv_cret ?_
     have e := sj h0; subst e
     refine gv_ret (gv_done [(.slice none (List.length ([] : List UInt8)) 0), (.agg #[(.int .i64 r44.1), (.int .i64 r44.2)])] rfl ⟨(by kernel_rfl), ⟨⟨b1, 0, none⟩, (by kernel_rfl), run_loadVar_row w49 b1 _ 25 _ _ _ hb51 Tryd.underlying25 rfl (by kernel_rfl)⟩, trivial⟩ ?_)
     have hB54 := bg hB24 hg47 nb
     have hlo55 : w0.heap.size ≤ b1 := lob hbe5 hB0.size
     have hB56 := bg hB54 hg50 (rowlo hlo55)
     exact ⟨grown_of_below hB56, none, 0, (fun _ => False), rfl, (Rd.nil bE w49 (fun _ => False) none 0), (fun k hk => ⟨(fun _ h => h.elim) k hk, (fun _ h => h.elim) k hk⟩)⟩
    ·replace h0 := ite_f hc43 h0
     refine gv_skip <| gv_blk <| gv_seq <| gv_region <| gv_pureN 1 [6] [(6, (.slice none (List.length ([] : List UInt8)) 0))] (by kernel_rfl) ?_
     refine gv_nil <| gv_seq <| gv_region <| gv_pureN 1 [7] [(7, (.int .i64 0))] (by kernel_rfl) ?_
     refine gv_nil <| gv_seq <| gv_seq <| gv_region <| gv_pureN 1 [30] [(30, (.string s_0))] (by kernel_rfl) ?_
     refine gv_range (t := 9) (s := s_0) (by kernel_rfl) (by kernel_rfl) Tryd.underlying9 ?_
     intro b57 w58 hg59 hb60 hbe61 hz62
     refine gv_nil <| bindE h0 ?_; clear h0; intro j63 h1 h0
     refine gv_cut_code (J := fun a w65 => ∃ s64 : ((List UInt8) × (Int × Int)), j63 = .inl s64 ∧ ∃ (a6_0j : Option Addr) (c6_0j : Nat), Below w0.heap.size w0 w65 ∧ w58.heap.size ≤ w65.heap.size ∧ Gv.Own bE 5 w65 (fun _ => False) a6_0j c6_0j s64.1 ∧ (∀ g, blk a6_0j = some g → w0.heap.size ≤ g) ∧ (∀ g, blk a6_0j = some g → ¬ (· = b1) g) ∧ ¬ (fun k => blk a6_0j = some k) b1 ∧ Box w65 b1 25 #[(.int .i64 s64.2.1), (.int .i64 s64.2.2)] ∧ a.defers = [] ∧ a.tmps.size = 96 ∧ Ok [(5, (bp b1)), (6, (.slice a6_0j (List.length s64.1) c6_0j))] a.tmps) ?_ ?_
     ·skip
      refine gv_block <| gv_loop (A := fun (s66 : ((List UInt8) × Int × (Int × Int) × Nat)) a w67 => ∃ (a6_0j : Option Addr) (c6_0j : Nat), Below w0.heap.size w0 w67 ∧ w58.heap.size ≤ w67.heap.size ∧ Gv.Own bE 5 w67 (fun _ => False) a6_0j c6_0j s66.1 ∧ (∀ g, blk a6_0j = some g → w0.heap.size ≤ g) ∧ (∀ g, blk a6_0j = some g → ¬ (· = b1) g) ∧ (∀ g, blk a6_0j = some g → ¬ (· = b57) g) ∧ ¬ (fun k => blk a6_0j = some k) b1 ∧ ¬ (fun k => blk a6_0j = some k) b57 ∧ Box w67 b1 25 #[(.int .i64 s66.2.2.1.1), (.int .i64 s66.2.2.1.2)] ∧ At w67 b57 (.stringIter s_0 s66.2.2.2) ∧ a.defers = [] ∧ a.tmps.size = 96 ∧ Ok [(1, (.int .i64 coding_1)), (5, (bp b1)), (6, (.slice a6_0j (List.length s66.1) c6_0j)), (7, (.int .i64 s66.2.1)), (31, (bp b57))] a.tmps) h1 ?_ ?_
      ·intro a hd hs hok
       have hB68 := bg hB24 hg59 nb
       have hk69 := hb26.grown hg59 nb
       exact ⟨none, 0, hB68, (Nat.le_refl _), (Gv.Own.nil bE 5 w58 (fun _ => False)), (fun _ h => by cases h), (fun _ h => by cases h), (fun _ h => by cases h), (fun h => by cases h), (fun h => by cases h), hk69, hb60, hd, hs, ok_pick [1, 5, 6, 7, 31] hok (by kernel_rfl)⟩
      ·rintro s66 r2 h2 hR2 a w67 ⟨a72, c73, hB70, hz71, ho74, hl75, ap76, ap77, ap78, ap79, hb80, hb81, hd, hs, hok⟩
       refine gv_in ?_ hd hs hok
       clear hd hs hok
       clear hz62 hb60 hg59 hc43 hc27
       refine gv_seq <| gv_region <| gv_next (b := b57) (s := s_0) (pos := s66.2.2.2) (ty := 0) (by kernel_rfl) (by kernel_rfl) hb81 (fun hc82 => ?_) (fun hc82 => ?_)
       ·skip
        replace h2 := ite_t hc82 h2
        intro w83 hg84 hb85 hz86
        have hz87 := (nt hz71 hg84.size)
        clear hz86 hc82 hb81 hz71
        refine gv_pureN 1 [33] [(33, (.bool true))] (by kernel_rfl) ?_
        refine gv_nil <| gv_seq <| gv_cond (b := true) (by kernel_rfl) (fun hc => ?_) (fun hc => ?_)
        rotate_left; · cases hc
        clear hc
        refine gv_skip <| gv_block <| gv_seq <| gv_region <| gv_pureN 2 [9, 34] [(9, (.int .i32 (runeI s_0 s66.2.2.2)))] (by kernel_rfl) ?_
        refine gv_nil <| gv_seq <| gv_block <| gv_seq <| gv_region <| gv_pureN 3 [40, 41, 42] [(40, (.bool (coding_1 == 0)))] (by kernel_rfl) ?_
        refine gv_nil <| bindE h2 ?_; clear h2; intro j88 h3 h2
        refine gv_cut_code (J := fun a w90 => ∃ s89 : ((List UInt8) × (Int × Int)), j88 = .inl s89 ∧ ∃ (a6_0j : Option Addr) (c6_0j : Nat), Below w0.heap.size w0 w90 ∧ w83.heap.size ≤ w90.heap.size ∧ Gv.Own bE 5 w90 (fun _ => False) a6_0j c6_0j s89.1 ∧ (∀ g, blk a6_0j = some g → w0.heap.size ≤ g) ∧ (∀ g, blk a6_0j = some g → ¬ (· = b1) g) ∧ (∀ g, blk a6_0j = some g → ¬ (· = b57) g) ∧ ¬ (fun k => blk a6_0j = some k) b1 ∧ ¬ (fun k => blk a6_0j = some k) b57 ∧ Box w90 b1 25 #[(.int .i64 s89.2.1), (.int .i64 s89.2.2)] ∧ At w90 b57 (.stringIter s_0 (s66.2.2.2 + runeN s_0 s66.2.2.2)) ∧ a.defers = [] ∧ a.tmps.size = 96 ∧ Ok [(1, (.int .i64 coding_1)), (5, (bp b1)), (6, (.slice a6_0j (List.length s89.1) c6_0j)), (7, (.int .i64 s66.2.1)), (31, (bp b57))] a.tmps) ?_ ?_
        ·skip
         refine gv_cond (b := (coding_1 == 0)) (by kernel_rfl) (fun hc91 => ?_) (fun hc91 => ?_)
         ·replace h3 := ite_t hc91 h3
          refine gv_region <| gv_pureN 2 [43, 44] [(43, (.slice a72 (List.length s66.1) c73)), (44, (.int .i32 (runeI s_0 s66.2.2.2)))] (by kernel_rfl) ?_
          refine bindE h3 ?_; clear h3; intro r92 hr93 h3
          have hk94 := ho74.grown hg84 (fun _ h => h.elim) (rdnn (rowne ap79))
          refine gv_call0 (by kernel_rfl) rfl (by kernel_rfl) enters43 (utf8_AppendRune_ok fuel a72 c73 s66.1 (runeI s_0 s66.2.2.2) w83 hk94 r92 hr93) ?_
          rintro v97 w95 ⟨hg96, a98, c99, rfl, ho100, hk101⟩
          have hlo103 : w0.heap.size ≤ b57 := lob hbe61 hB24.size
          have hB104 := bg hB70 hg84 (rowlo hlo103)
          have hl102 : ∀ g, blk a98 = some g → w0.heap.size ≤ g := blkw_step hk101 hl75 hB104.size
          refine gv_pureN 1 [6] [(6, (.slice a98 (List.length r92) c99))] (by kernel_rfl) ?_
          refine gv_nil ?_
          have e := sj h3; subst e
          refine gv_goal fun a hd hs hok => ?_
          have hB105 := bg hB104 hg96 hl75
          have hz106 := hg96.size
          have lt107 := ltl ((ltb hb26) _ rfl) ((lowb hbe61) _ rfl)
          have hk108 := hb80.grown hg84 (rowne (ng lt107))
          have ap109 : ∀ g, blk a98 = some g → ¬ (· = b1) g := blkw_neX hk101 ap76 (ltb hk108)
          have ap110 : ∀ g, blk a98 = some g → ¬ (· = b57) g := blkw_neX hk101 ap77 (ltA hb85)
          have ap111 : ¬ (fun k => blk a98 = some k) b1 := fun h => blkw_rev hk101 (fun h => (ap78) h) (hk108.lt) h
          have ap112 : ¬ (fun k => blk a98 = some k) b57 := fun h => blkw_rev hk101 (fun h => (ap79) h) (hb85.lt) h
          have hk113 := hk108.grown hg96 ap76
          have hk114 := hb85.grown hg96 ap77
          exact ⟨(r92, (s66.2.2.1.1, s66.2.2.1.2)), rfl, a98, c99, hB105, hz106, ho100, hl102, ap109, ap110, ap111, ap112, hk113, hk114, hd, hs, ok_pick [1, 5, 6, 7, 31] hok (by kernel_rfl)⟩
         ·replace h3 := ite_f hc91 h3
          refine gv_seq <| gv_region <| gv_cut_ops (J := fun a w115 => w83 = w115 ∧ a.defers = [] ∧ a.tmps.size = 96 ∧ Ok [(1, (.int .i64 coding_1)), (5, (bp b1)), (6, (.slice a72 (List.length s66.1) c73)), (7, (.int .i64 s66.2.1)), (9, (.int .i32 (runeI s_0 s66.2.2.2))), (31, (bp b57)), (46, (.bool ((coding_1 == 2) && (decide ((runeI s_0 s66.2.2.2) ≥ 65536)))))] a.tmps) ?_ ?_
          ·skip
           refine gv_pureN 3 [47, 48, 49] [(49, (.bool (coding_1 == 2)))] (by kernel_rfl) ?_
           refine gv_split (s := 49) (g := (coding_1 == 2)) (by kernel_rfl) (fun hc116 => ?_) (fun hc116 => ?_)
           ·skip
            refine gv_pureN 4 [46, 50, 51, 52] [(46, (.bool (decide ((runeI s_0 s66.2.2.2) ≥ 65536))))] (by kernel_rfl) ?_
            refine gv_nil <| gv_sub [1, 5, 6, 7, 9, 31, 46] (σ' := [(1, (.int .i64 coding_1)), (5, (bp b1)), (6, (.slice a72 (List.length s66.1) c73)), (7, (.int .i64 s66.2.1)), (9, (.int .i32 (runeI s_0 s66.2.2.2))), (31, (bp b57)), (46, (.bool (decide ((runeI s_0 s66.2.2.2) ≥ 65536))))]) (by kernel_rfl) ?_
            refine gv_goal fun a hd hs hok => ⟨rfl, hd, hs, ?_⟩
            obtain ⟨q1, q5, q6, q7, q9, q31, q46, _⟩ := hok
            exact ⟨q1, q5, q6, q7, q9, q31, (by rw [hc116]; exact q46), trivial⟩
           ·skip
            refine gv_pureN 4 [46, 50, 51, 52] [(46, (.bool false))] (by kernel_rfl) ?_
            refine gv_nil <| gv_sub [1, 5, 6, 7, 9, 31, 46] (σ' := [(1, (.int .i64 coding_1)), (5, (bp b1)), (6, (.slice a72 (List.length s66.1) c73)), (7, (.int .i64 s66.2.1)), (9, (.int .i32 (runeI s_0 s66.2.2.2))), (31, (bp b57)), (46, (.bool false))]) (by kernel_rfl) ?_
            refine gv_goal fun a hd hs hok => ⟨rfl, hd, hs, ?_⟩
            obtain ⟨q1, q5, q6, q7, q9, q31, q46, _⟩ := hok
            exact ⟨q1, q5, q6, q7, q9, q31, (by rw [hc116]; exact q46), trivial⟩
          ·rintro a w115 ⟨e, hd, hs, hok⟩; subst e
           refine gv_in ?_ hd hs hok
           clear hd hs hok
           refine gv_cond (b := ((coding_1 == 2) && (decide ((runeI s_0 s66.2.2.2) ≥ 65536)))) (by kernel_rfl) (fun hc117 => ?_) (fun hc117 => ?_)
           ·replace h3 := ite_t hc117 h3
            refine gv_seq <| gv_region <| gv_pureN 10 [10, 11, 53, 54, 55, 56, 57, 58, 59, 60] [(10, (.int .i32 (IntKind.i32.wrap (55296 + (((IntKind.i32.wrap ((runeI s_0 s66.2.2.2) - 65536))).fdiv (2 ^ 10)))))), (11, (.int .i32 (IntKind.i32.wrap (56320 + (bwAnd .i32 (IntKind.i32.wrap ((runeI s_0 s66.2.2.2) - 65536)) 1023)))))] (by kernel_rfl) ?_
            refine bindE h3 ?_; clear h3; intro n118 hn119 h3
            refine gv_name (s := 10) (v := (.int .i32 (IntKind.i32.wrap (55296 + (((IntKind.i32.wrap ((runeI s_0 s66.2.2.2) - 65536))).fdiv (2 ^ 10)))))) (v' := (.int .i32 n118)) (by kernel_rfl) (congrArg (Value.int .i32) (sj hn119)) ?_
            refine bindE h3 ?_; clear h3; intro n120 hn121 h3
            refine gv_name (s := 11) (v := (.int .i32 (IntKind.i32.wrap (56320 + (bwAnd .i32 (IntKind.i32.wrap ((runeI s_0 s66.2.2.2) - 65536)) 1023))))) (v' := (.int .i32 n120)) (by kernel_rfl) (congrArg (Value.int .i32) (sj hn121)) ?_
            refine gv_nil <| gv_region <| gv_pureN 11 [61, 62, 63, 64, 65, 66, 67, 68, 69, 70, 71] [(61, (.slice a72 (List.length s66.1) c73)), (64, (.int .u8 (IntKind.u8.wrap (((n118).fdiv (2 ^ 8)))))), (66, (.int .u8 (IntKind.u8.wrap (n118)))), (69, (.int .u8 (IntKind.u8.wrap (((n120).fdiv (2 ^ 8)))))), (71, (.int .u8 (IntKind.u8.wrap (n120))))] (by kernel_rfl) ?_
            refine bindE h3 ?_; clear h3; intro b122 hb123 h3
            have hu124 := u8_spec hb123
            refine bindE h3 ?_; clear h3; intro b125 hb126 h3
            have hu127 := u8_spec hb126
            refine bindE h3 ?_; clear h3; intro b128 hb129 h3
            have hu130 := u8_spec hb129
            refine bindE h3 ?_; clear h3; intro b131 hb132 h3
            have hu133 := u8_spec hb132
            refine gv_new0 (fun b => .slice (some ⟨b, 0, none⟩) 4 4) #[(.int .u8 (IntKind.u8.wrap (((n118).fdiv (2 ^ 8))))), (.int .u8 (IntKind.u8.wrap (n118))), (.int .u8 (IntKind.u8.wrap (((n120).fdiv (2 ^ 8))))), (.int .u8 (IntKind.u8.wrap (n120)))] 5 (by kernel_rfl) (by kernel_rfl) ?_
            intro b134 w135 hg136 hb137 hbe138 hz139
            have ho140 : Gv.Own bE 5 w135 (fun _ => False) (some ⟨b134, 0, none⟩) 4 ([b122, b125, b128, b131] : List UInt8) := Box.ownE hb137 ⟨[(.int .u8 (IntKind.u8.wrap (((n118).fdiv (2 ^ 8)))))], [(.int .u8 (IntKind.u8.wrap (n118))), (.int .u8 (IntKind.u8.wrap (((n120).fdiv (2 ^ 8))))), (.int .u8 (IntKind.u8.wrap (n120)))], rfl, (by simp only [bE, flat, hu124]), ⟨[(.int .u8 (IntKind.u8.wrap (n118)))], [(.int .u8 (IntKind.u8.wrap (((n120).fdiv (2 ^ 8))))), (.int .u8 (IntKind.u8.wrap (n120)))], rfl, (by simp only [bE, flat, hu127]), ⟨[(.int .u8 (IntKind.u8.wrap (((n120).fdiv (2 ^ 8)))))], [(.int .u8 (IntKind.u8.wrap (n120)))], rfl, (by simp only [bE, flat, hu130]), ⟨[(.int .u8 (IntKind.u8.wrap (n120)))], [], rfl, (by simp only [bE, flat, hu133]), rfl⟩⟩⟩⟩ (show 4 ≤ maxLen by decide) (fun h => h)
            have hlo145 : w0.heap.size ≤ b57 := lob hbe61 hB24.size
            have hB146 := bg hB70 hg84 (rowlo hlo145)
            have hl141 : ∀ g, blk (some ⟨b134, 0, none⟩) = some g → w0.heap.size ≤ g := loo hbe138 hB146.size
            refine bindE h3 ?_; clear h3; intro l147 hx148 h3
            have hk155 := (ho74.grown hg84 (fun _ h => h.elim) (rdnn (rowne ap79))).grown hg136 (fun _ h => h.elim) nb
            refine gv_append bE (t := 22) (ty := 22) (e := 5) (a := a72) (ax := (some ⟨b134, 0, none⟩)) (cap := c73) (cx := 4) (xs := s66.1) (ys := ([b122, b125, b128, b131] : List UInt8)) l147 (X := (fun _ => False)) (Y := (fun k => blk (some ⟨b134, 0, none⟩) = some k)) (by decide) rfl rfl (by kernel_rfl) (by kernel_rfl) Tryd.underlying22 info5 hk155 (ho140.rd (Y := fun k => blk (some ⟨b134, 0, none⟩) = some k) (fun _ h => h.elim) (fun g e => e)) hx148 (.inr fun _ _ _ _ _ h => h) (fun _ h => h.elim) ?_
            intro a149 c150 w151 hg152 ho153 hk154
            refine ⟨(fun e => by cases e), ?_⟩
            have hB157 := bg hB146 hg136 nb
            have hl156 : ∀ g, blk a149 = some g → w0.heap.size ≤ g := blk_step hk154 hl75 hB157.size
            have lt159 := ltl ((ltb hb26) _ rfl) ((lowb hbe61) _ rfl)
            have hk160 := (hb80.grown hg84 (rowne (ng lt159))).grown hg136 nb
            have ap158 : ∀ g, blk a149 = some g → ¬ (· = b1) g := blk_neX hk154 ap76 (ltb hk160)
            have ap161 : ¬ (fun k => blk a149 = some k) b1 := fun h => blk_rev hk154 (fun h => (ap78) h) (hk160.lt) h
            have hk163 := hb85.grown hg136 nb
            have ap162 : ∀ g, blk a149 = some g → ¬ (· = b57) g := blk_neX hk154 ap77 (ltA hk163)
            have ap164 : ¬ (fun k => blk a149 = some k) b57 := fun h => blk_rev hk154 (fun h => (ap79) h) (hk163.lt) h
            have hk166 := ho74.grown hg84 (fun _ h => h.elim) (rdnn (rowne ap79))
            have ap167 : ∀ g, blk a72 = some g → ¬ (fun k => blk (some ⟨b134, 0, none⟩) = some k) g := fun g e hx => nl ((lowo hbe138) _ hx) ((fun k (hk : blk a72 = some k) => hk166.lt k hk) g e)
            have ap165 : ∀ g, blk a149 = some g → ¬ (fun k => blk (some ⟨b134, 0, none⟩) = some k) g := blk_neX hk154 ap167 (fun k (hk : blk (some ⟨b134, 0, none⟩) = some k) => ho140.lt k hk)
            have ap169 : ∀ g, blk (some ⟨b134, 0, none⟩) = some g → ¬ (fun k => blk a72 = some k) g := fun g e hx => nl ((lowo hbe138) g e) ((fun k (hk : blk a72 = some k) => hk166.lt k hk) _ hx)
            have ap168 : ∀ g, blk (some ⟨b134, 0, none⟩) = some g → ¬ (fun k => blk a149 = some k) g := fun g e h => blk_rev hk154 (fun h => ((ap169) g e) h) (ho140.lt g e) h
            refine gv_pureN 1 [6] [(6, (.slice a149 (List.length l147) c150))] (by kernel_rfl) ?_
            refine gv_nil ?_
            have e := sj h3; subst e
            refine gv_goal fun a hd hs hok => ?_
            have hB170 := bg hB157 hg152 hl75
            have hz171 := (nt hg136.size hg152.size)
            have hk172 := hk160.grown hg152 ap76
            have hk173 := hk163.grown hg152 ap77
            exact ⟨(l147, (s66.2.2.1.1, s66.2.2.1.2)), rfl, a149, c150, hB170, hz171, ho153, hl156, ap158, ap162, ap161, ap164, hk172, hk173, hd, hs, ok_pick [1, 5, 6, 7, 31] hok (by kernel_rfl)⟩
           ·replace h3 := ite_f hc117 h3
            refine gv_seq <| gv_region <| gv_pureN 3 [74, 75, 76] [(74, (.bool (coding_1 == 2)))] (by kernel_rfl) ?_
            refine gv_nil <| gv_cond (b := (coding_1 == 2)) (by kernel_rfl) (fun hc174 => ?_) (fun hc174 => ?_)
            ·replace h3 := ite_t hc174 h3
             refine gv_region <| gv_pureN 6 [77, 78, 79, 80, 81, 82] [(77, (.slice a72 (List.length s66.1) c73)), (80, (.int .u8 (IntKind.u8.wrap ((((runeI s_0 s66.2.2.2)).fdiv (2 ^ 8)))))), (82, (.int .u8 (IntKind.u8.wrap ((runeI s_0 s66.2.2.2)))))] (by kernel_rfl) ?_
             refine bindE h3 ?_; clear h3; intro b175 hb176 h3
             have hu177 := u8_spec hb176
             refine bindE h3 ?_; clear h3; intro b178 hb179 h3
             have hu180 := u8_spec hb179
             refine gv_new0 (fun b => .slice (some ⟨b, 0, none⟩) 2 2) #[(.int .u8 (IntKind.u8.wrap ((((runeI s_0 s66.2.2.2)).fdiv (2 ^ 8))))), (.int .u8 (IntKind.u8.wrap ((runeI s_0 s66.2.2.2))))] 5 (by kernel_rfl) (by kernel_rfl) ?_
             intro b181 w182 hg183 hb184 hbe185 hz186
             have ho187 : Gv.Own bE 5 w182 (fun _ => False) (some ⟨b181, 0, none⟩) 2 ([b175, b178] : List UInt8) := Box.ownE hb184 ⟨[(.int .u8 (IntKind.u8.wrap ((((runeI s_0 s66.2.2.2)).fdiv (2 ^ 8)))))], [(.int .u8 (IntKind.u8.wrap ((runeI s_0 s66.2.2.2))))], rfl, (by simp only [bE, flat, hu177]), ⟨[(.int .u8 (IntKind.u8.wrap ((runeI s_0 s66.2.2.2))))], [], rfl, (by simp only [bE, flat, hu180]), rfl⟩⟩ (show 2 ≤ maxLen by decide) (fun h => h)
             have hlo192 : w0.heap.size ≤ b57 := lob hbe61 hB24.size
             have hB193 := bg hB70 hg84 (rowlo hlo192)
             have hl188 : ∀ g, blk (some ⟨b181, 0, none⟩) = some g → w0.heap.size ≤ g := loo hbe185 hB193.size
             refine bindE h3 ?_; clear h3; intro l194 hx195 h3
             have hk202 := (ho74.grown hg84 (fun _ h => h.elim) (rdnn (rowne ap79))).grown hg183 (fun _ h => h.elim) nb
             refine gv_append bE (t := 22) (ty := 22) (e := 5) (a := a72) (ax := (some ⟨b181, 0, none⟩)) (cap := c73) (cx := 2) (xs := s66.1) (ys := ([b175, b178] : List UInt8)) l194 (X := (fun _ => False)) (Y := (fun k => blk (some ⟨b181, 0, none⟩) = some k)) (by decide) rfl rfl (by kernel_rfl) (by kernel_rfl) Tryd.underlying22 info5 hk202 (ho187.rd (Y := fun k => blk (some ⟨b181, 0, none⟩) = some k) (fun _ h => h.elim) (fun g e => e)) hx195 (.inr fun _ _ _ _ _ h => h) (fun _ h => h.elim) ?_
             intro a196 c197 w198 hg199 ho200 hk201
             refine ⟨(fun e => by cases e), ?_⟩
             have hB204 := bg hB193 hg183 nb
             have hl203 : ∀ g, blk a196 = some g → w0.heap.size ≤ g := blk_step hk201 hl75 hB204.size
             have lt206 := ltl ((ltb hb26) _ rfl) ((lowb hbe61) _ rfl)
             have hk207 := (hb80.grown hg84 (rowne (ng lt206))).grown hg183 nb
             have ap205 : ∀ g, blk a196 = some g → ¬ (· = b1) g := blk_neX hk201 ap76 (ltb hk207)
             have ap208 : ¬ (fun k => blk a196 = some k) b1 := fun h => blk_rev hk201 (fun h => (ap78) h) (hk207.lt) h
             have hk210 := hb85.grown hg183 nb
             have ap209 : ∀ g, blk a196 = some g → ¬ (· = b57) g := blk_neX hk201 ap77 (ltA hk210)
             have ap211 : ¬ (fun k => blk a196 = some k) b57 := fun h => blk_rev hk201 (fun h => (ap79) h) (hk210.lt) h
             have hk213 := ho74.grown hg84 (fun _ h => h.elim) (rdnn (rowne ap79))
             have ap214 : ∀ g, blk a72 = some g → ¬ (fun k => blk (some ⟨b181, 0, none⟩) = some k) g := fun g e hx => nl ((lowo hbe185) _ hx) ((fun k (hk : blk a72 = some k) => hk213.lt k hk) g e)
             have ap212 : ∀ g, blk a196 = some g → ¬ (fun k => blk (some ⟨b181, 0, none⟩) = some k) g := blk_neX hk201 ap214 (fun k (hk : blk (some ⟨b181, 0, none⟩) = some k) => ho187.lt k hk)
             have ap216 : ∀ g, blk (some ⟨b181, 0, none⟩) = some g → ¬ (fun k => blk a72 = some k) g := fun g e hx => nl ((lowo hbe185) g e) ((fun k (hk : blk a72 = some k) => hk213.lt k hk) _ hx)
             have ap215 : ∀ g, blk (some ⟨b181, 0, none⟩) = some g → ¬ (fun k => blk a196 = some k) g := fun g e h => blk_rev hk201 (fun h => ((ap216) g e) h) (ho187.lt g e) h
             refine gv_pureN 1 [6] [(6, (.slice a196 (List.length l194) c197))] (by kernel_rfl) ?_
             refine gv_nil ?_
             have e := sj h3; subst e
             refine gv_goal fun a hd hs hok => ?_
             have hB217 := bg hB204 hg199 hl75
             have hz218 := (nt hg183.size hg199.size)
             have hk219 := hk207.grown hg199 ap76
             have hk220 := hk210.grown hg199 ap77
             exact ⟨(l194, (s66.2.2.1.1, s66.2.2.1.2)), rfl, a196, c197, hB217, hz218, ho200, hl203, ap205, ap209, ap208, ap211, hk219, hk220, hd, hs, ok_pick [1, 5, 6, 7, 31] hok (by kernel_rfl)⟩
            ·replace h3 := ite_f hc174 h3
             refine gv_seq <| gv_region <| gv_pureN 3 [85, 86, 87] [(85, (.bool (decide ((runeI s_0 s66.2.2.2) > 255))))] (by kernel_rfl) ?_
             refine gv_nil <| gv_cond (b := (decide ((runeI s_0 s66.2.2.2) > 255))) (by kernel_rfl) (fun hc221 => ?_) (fun hc221 => ?_)
             ·replace h3 := ite_t hc221 h3
              refine gv_seq <| gv_region <| gv_pureN 1 [88] [(88, (.int .i64 s66.2.1))] (by kernel_rfl) ?_
              refine bindE h3 ?_; clear h3; intro r222 hr223 h3
              refine gv_call0 (by kernel_rfl) rfl (by kernel_rfl) enters38 (bytestr_at_ok fuel 4 s66.2.1 w83  r222 hr223) ?_
              rintro v226 w224 ⟨hg225, rfl⟩
              refine gv_pureN 1 [4] [(4, (.slice none (List.length ([] : List UInt8)) 0))] (by kernel_rfl) ?_
              have lt231 := ltl ((ltb hb26) _ rfl) ((lowb hbe61) _ rfl)
              have hk232 := (hb80.grown hg84 (rowne (ng lt231))).grown hg225 nb
              refine gv_store0 25 0 (.agg #[(.int .i64 r222.1), (.int .i64 r222.2)]) #[(.int .i64 r222.1), (.int .i64 r222.2)] hk232 (by kernel_rfl) (by kernel_rfl) (by kernel_rfl) ?_
              intro w227 hg228 hb229 hz230
              refine gv_nil <| gv_cret ?_
              have e := sj h3; subst e
              replace h2 := cont_inr h2
              have e := sj h2; subst e
              replace h1 := congrArg some (hR2 _ rfl)
              have e := sj h1; subst e
              replace h0 := cont_inr h0
              have e := sj h0; subst e
              refine gv_ret (gv_done [(.slice none (List.length ([] : List UInt8)) 0), (.agg #[(.int .i64 r222.1), (.int .i64 r222.2)])] rfl ⟨(by kernel_rfl), ⟨⟨b1, 0, none⟩, (by kernel_rfl), run_loadVar_row w227 b1 _ 25 _ _ _ hb229 Tryd.underlying25 rfl (by kernel_rfl)⟩, trivial⟩ ?_)
              have hlo233 : w0.heap.size ≤ b57 := lob hbe61 hB24.size
              have hB234 := bg hB70 hg84 (rowlo hlo233)
              have hB235 := bg hB234 hg225 nb
              have hlo236 : w0.heap.size ≤ b1 := lob hbe5 hB0.size
              have hB237 := bg hB235 hg228 (rowlo hlo236)
              exact ⟨grown_of_below hB237, none, 0, (fun _ => False), rfl, (Rd.nil bE w227 (fun _ => False) none 0), (fun k hk => ⟨(fun _ h => h.elim) k hk, (fun _ h => h.elim) k hk⟩)⟩
             ·replace h3 := ite_f hc221 h3
              refine gv_region <| gv_pureN 3 [35, 36, 37] [(35, (.slice a72 (List.length s66.1) c73)), (37, (.int .u8 (IntKind.u8.wrap ((runeI s_0 s66.2.2.2)))))] (by kernel_rfl) ?_
              refine bindE h3 ?_; clear h3; intro b238 hb239 h3
              have hu240 := u8_spec hb239
              refine gv_new0 (fun b => .slice (some ⟨b, 0, none⟩) 1 1) #[(.int .u8 (IntKind.u8.wrap ((runeI s_0 s66.2.2.2))))] 5 (by kernel_rfl) (by kernel_rfl) ?_
              intro b241 w242 hg243 hb244 hbe245 hz246
              have ho247 : Gv.Own bE 5 w242 (fun _ => False) (some ⟨b241, 0, none⟩) 1 ([b238] : List UInt8) := Box.ownE hb244 ⟨[(.int .u8 (IntKind.u8.wrap ((runeI s_0 s66.2.2.2))))], [], rfl, (by simp only [bE, flat, hu240]), rfl⟩ (show 1 ≤ maxLen by decide) (fun h => h)
              have hlo252 : w0.heap.size ≤ b57 := lob hbe61 hB24.size
              have hB253 := bg hB70 hg84 (rowlo hlo252)
              have hl248 : ∀ g, blk (some ⟨b241, 0, none⟩) = some g → w0.heap.size ≤ g := loo hbe245 hB253.size
              clear hz246 hb244 hu240 hb239 hc221 hc174 hc117 hc91 hB70 hB24
              refine bindE h3 ?_; clear h3; intro l254 hx255 h3
              have hk262 := (ho74.grown hg84 (fun _ h => h.elim) (rdnn (rowne ap79))).grown hg243 (fun _ h => h.elim) nb
              refine gv_append bE (t := 22) (ty := 22) (e := 5) (a := a72) (ax := (some ⟨b241, 0, none⟩)) (cap := c73) (cx := 1) (xs := s66.1) (ys := ([b238] : List UInt8)) l254 (X := (fun _ => False)) (Y := (fun k => blk (some ⟨b241, 0, none⟩) = some k)) (by decide) rfl rfl (by kernel_rfl) (by kernel_rfl) Tryd.underlying22 info5 hk262 (ho247.rd (Y := fun k => blk (some ⟨b241, 0, none⟩) = some k) (fun _ h => h.elim) (fun g e => e)) hx255 (.inr fun _ _ _ _ _ h => h) (fun _ h => h.elim) ?_
              intro a256 c257 w258 hg259 ho260 hk261
              refine ⟨(fun e => by cases e), ?_⟩
              have hB264 := bg hB253 hg243 nb
              have hl263 : ∀ g, blk a256 = some g → w0.heap.size ≤ g := blk_step hk261 hl75 hB264.size
              have lt266 := ltl ((ltb hb26) _ rfl) ((lowb hbe61) _ rfl)
              have hk267 := (hb80.grown hg84 (rowne (ng lt266))).grown hg243 nb
              have ap265 : ∀ g, blk a256 = some g → ¬ (· = b1) g := blk_neX hk261 ap76 (ltb hk267)
              have ap268 : ¬ (fun k => blk a256 = some k) b1 := fun h => blk_rev hk261 (fun h => (ap78) h) (hk267.lt) h
              have hk270 := hb85.grown hg243 nb
              have ap269 : ∀ g, blk a256 = some g → ¬ (· = b57) g := blk_neX hk261 ap77 (ltA hk270)
              have ap271 : ¬ (fun k => blk a256 = some k) b57 := fun h => blk_rev hk261 (fun h => (ap79) h) (hk270.lt) h
              have hk273 := ho74.grown hg84 (fun _ h => h.elim) (rdnn (rowne ap79))
              have ap274 : ∀ g, blk a72 = some g → ¬ (fun k => blk (some ⟨b241, 0, none⟩) = some k) g := fun g e hx => nl ((lowo hbe245) _ hx) ((fun k (hk : blk a72 = some k) => hk273.lt k hk) g e)
              have ap272 : ∀ g, blk a256 = some g → ¬ (fun k => blk (some ⟨b241, 0, none⟩) = some k) g := blk_neX hk261 ap274 (fun k (hk : blk (some ⟨b241, 0, none⟩) = some k) => ho247.lt k hk)
              have ap276 : ∀ g, blk (some ⟨b241, 0, none⟩) = some g → ¬ (fun k => blk a72 = some k) g := fun g e hx => nl ((lowo hbe245) g e) ((fun k (hk : blk a72 = some k) => hk273.lt k hk) _ hx)
              have ap275 : ∀ g, blk (some ⟨b241, 0, none⟩) = some g → ¬ (fun k => blk a256 = some k) g := fun g e h => blk_rev hk261 (fun h => ((ap276) g e) h) (ho247.lt g e) h
              refine gv_pureN 1 [6] [(6, (.slice a256 (List.length l254) c257))] (by kernel_rfl) ?_
              refine gv_nil ?_
              have e := sj h3; subst e
              refine gv_goal fun a hd hs hok => ?_
              have hB277 := bg hB264 hg259 hl75
              have hz278 := (nt hg243.size hg259.size)
              have hk279 := hk267.grown hg259 ap76
              have hk280 := hk270.grown hg259 ap77
              exact ⟨(l254, (s66.2.2.1.1, s66.2.2.1.2)), rfl, a256, c257, hB277, hz278, ho260, hl263, ap265, ap269, ap268, ap271, hk279, hk280, hd, hs, ok_pick [1, 5, 6, 7, 31] hok (by kernel_rfl)⟩
        ·rintro a w90 ⟨s89, e, a283, c284, hB281, hz282, ho285, hl286, ap287, ap288, ap289, ap290, hb291, hb292, hd, hs, hok⟩
         subst e
         refine gv_in ?_ hd hs hok
         clear hd hs hok
         replace h2 := cont_inl h2
         have hz293 := (nt hz87 hz282)
         clear hz282 hz87 hb85 hg84 hb80 ap79 ap78 ap77 ap76 hl75 ho74 hB70
         refine gv_blk <| gv_region <| gv_pureN 3 [7, 90, 91] [(7, (.int .i64 (IntKind.i64.wrap (s66.2.1 + 1))))] (by kernel_rfl) ?_
         refine gv_nil <| gv_blk ?_
         have e := sj h2; subst e
         refine gv_goal fun a hd hs hok => ?_
         have hz294 := hz293
         exact ⟨(s89.1, (IntKind.i64.wrap (s66.2.1 + 1)), (s89.2.1, s89.2.2), (s66.2.2.2 + runeN s_0 s66.2.2.2)), rfl, a283, c284, hB281, hz294, ho285, hl286, ap287, ap288, ap289, ap290, hb291, hb292, hd, hs, ok_pick [1, 5, 6, 7, 31] hok (by kernel_rfl)⟩
       ·skip
        replace h2 := ite_f hc82 h2
        refine gv_pureN 1 [33] [(33, (.bool false))] (by kernel_rfl) ?_
        refine gv_nil <| gv_seq <| gv_cond (b := false) (by kernel_rfl) (fun hc => ?_) (fun hc => ?_)
        ·cases hc
        clear hc
        refine gv_cexit <| gv_exit rfl ?_
        have e := sj h2; subst e
        replace h1 := congrArg some (hR2 _ rfl)
        have e := sj h1; subst e
        refine gv_goal fun a hd hs hok => ?_
        have hz295 := hz71
        exact ⟨(s66.1, (s66.2.2.1.1, s66.2.2.1.2)), rfl, a72, c73, hB70, hz295, ho74, hl75, ap76, ap78, hb80, hd, hs, ok_pick [5, 6] hok (by kernel_rfl)⟩
     ·rintro a w65 ⟨s64, e, a298, c299, hB296, hz297, ho300, hl301, ap302, ap303, hb304, hd, hs, hok⟩
      subst e
      refine gv_in ?_ hd hs hok
      clear hd hs hok
      replace h0 := cont_inl h0
      clear hz297 hz62 hbe61 hb60 hg59 hc43 hc27 hb26 hB24
      refine gv_seq <| gv_region <| gv_pureN 1 [92] [(92, (.slice a298 (List.length s64.1) c299))] (by kernel_rfl) ?_
      refine bindE h0 ?_; clear h0; intro r305 hr306 h0
      refine gv_call0 (by kernel_rfl) rfl (by kernel_rfl) enters44 (bytestr_result_ok fuel a298 c299 s64.1 w65 (fun k => (fun k => blk a298 = some k) k) (fun k hk => (fun k (hk : blk a298 = some k) => ho300.lt k hk) k hk) ((ho300.rd (Y := fun k => blk a298 = some k) (fun _ h => h.elim) (fun g e => e)).wide (fun k hk => hk)) r305 hr306) ?_
      rintro v309 w307 ⟨hg308, a310, c311, X313, rfl, ho312, hx314⟩
      have hx315 : ∀ k, X313 k → k < w307.heap.size := fun k hk => (hx314 k hk).1
      have hx316 : ∀ k, X313 k → X0 k ∨ w0.heap.size ≤ k := fun k hk => (hx314 k hk).2.elim (fun h => (fun k (hk : blk a298 = some k) => Or.inr (hl301 k hk)) k h) (fun h => .inr (Nat.le_trans hB296.size h))
      refine gv_pureN 3 [4, 94, 95] [(4, (.slice a310 (List.length r305.1) c311)), (95, (.agg #[(.int .i64 r305.2.1), (.int .i64 r305.2.2)]))] (by kernel_rfl) ?_
      have hk321 := hb304.grown hg308 nb
      refine gv_store0 25 0 (.agg #[(.int .i64 r305.2.1), (.int .i64 r305.2.2)]) #[(.int .i64 r305.2.1), (.int .i64 r305.2.2)] hk321 (by kernel_rfl) (by kernel_rfl) (by kernel_rfl) ?_
      intro w317 hg318 hb319 hz320
      refine gv_nil <| gv_cret ?_
      have e := sj h0; subst e
      refine gv_ret (gv_done [(.slice a310 (List.length r305.1) c311), (.agg #[(.int .i64 r305.2.1), (.int .i64 r305.2.2)])] rfl ⟨(by kernel_rfl), ⟨⟨b1, 0, none⟩, (by kernel_rfl), run_loadVar_row w317 b1 _ 25 _ _ _ hb319 Tryd.underlying25 rfl (by kernel_rfl)⟩, trivial⟩ ?_)
      have hB322 := bg hB296 hg308 nb
      have hlo323 : w0.heap.size ≤ b1 := lob hbe5 hB0.size
      have hB324 := bg hB322 hg318 (rowlo hlo323)
      have ap325 : ¬ X313 b1 := fun h => ((hx314 _ h).2.elim (fun h => (ap303)  h) (fun h => nl h (hb304.lt)))
      have hk326 := ho312.grown hg318 hx315 (rowne ap325)
      have hx327 := ltx hx315 hg318.size
      exact ⟨grown_of_below hB324, a310, c311, X313, rfl, hk326, (fun k hk => ⟨hx327 k hk, hx316 k hk⟩)⟩

theorem textstr_Valid_ok (fuel : Nat) (s_0 : ByteArray) (w0 : World) (X0 : Nat → Prop) (hX0 : ∀ k, X0 k → k < w0.heap.size) (hG0 : Rd bE w0 X0 (some ⟨0, 0, none⟩) 256 utf8First) (hG1 : Rd (prE (iE .u8) (iE .u8)) w0 X0 (some ⟨1, 0, none⟩) 16 utf8Acc) (r0 : Bool) (h0 : textstr_Valid fuel s_0 = some r0) :
    Calls Tryd.prog 65 ([(.string s_0)] : List Value).toArray w0 (Ret fun v w' => w0.grownBy w' none ∧ v = tup [(.bool r0)]) := by
 have hB0 : Below w0.heap.size w0 w0 := Below.refl _ _
 unfold textstr_Valid at h0
 refine calls_run Tryd.func65 rfl Tryd.ntmps65 (by kernel_rfl) ?_
 refine gv_sub [0] (σ' := [(0, (.string s_0))]) (by kernel_rfl) ?_
 refine gv_seq <| gv_region <| gv_pureN 1 [2] [] (by kernel_rfl) ?_
 refine gv_nil <| gv_seq <| gv_region <| bindE h0 ?_; clear h0; intro j1 h1 h0
 refine gv_cut_ops (J := fun a w2 => Below w0.heap.size w0 w2 ∧ w0.heap.size ≤ w2.heap.size ∧ a.defers = [] ∧ a.tmps.size = 10 ∧ Ok [(2, (.bool j1))] a.tmps) ?_ ?_
 ·skip
  refine gv_pureN 1 [3] [(3, (.string s_0))] (by kernel_rfl) ?_
  refine bindE h1 ?_; clear h1; intro r3 hr4 h1
  refine gv_call0 (by kernel_rfl) rfl (by kernel_rfl) enters42 (utf8_ValidString_ok fuel s_0 w0 (fun k => X0 k ∨ X0 k) (fun k hk => (hk).elim (fun h => (fun k (hk : X0 k) => ltl (hX0 k hk) hB0.size) k h) (fun h => (fun k (hk : X0 k) => ltl (hX0 k hk) hB0.size) k h)) ((hG0.below hB0 hX0).wide (fun k hk => (.inl hk))) ((hG1.below hB0 hX0).wide (fun k hk => (.inr hk))) r3 hr4) ?_
  rintro v7 w5 ⟨hg6, rfl⟩
  refine gv_pureN 1 [5] [(5, (.bool r3))] (by kernel_rfl) ?_
  refine gv_split (s := 5) (g := r3) (by kernel_rfl) (fun hc8 => ?_) (fun hc8 => ?_)
  ·skip
   replace h1 := ite_t hc8 h1
   refine gv_pureN 5 [2, 6, 7, 8, 9] [(2, (.bool (decide (((ByteArray.size s_0 : Nat) : Int) ≤ 4000))))] (by kernel_rfl) ?_
   refine bindE h1 ?_; clear h1; intro n9 hn10 h1
   refine gv_name (s := 2) (v := (.bool (decide (((ByteArray.size s_0 : Nat) : Int) ≤ 4000)))) (v' := (.bool n9)) (by kernel_rfl) (congrArg (Value.bool) (sj hn10)) ?_
   refine gv_nil ?_
   have e := sj h1; subst e
   refine gv_goal fun a hd hs hok => ?_
   have hB11 := bg hB0 hg6 nb
   have hz12 := hg6.size
   exact ⟨hB11, hz12, hd, hs, ok_pick [2] hok (by kernel_rfl)⟩
  ·skip
   replace h1 := ite_f hc8 h1
   refine gv_pureN 5 [2, 6, 7, 8, 9] [(2, (.bool false))] (by kernel_rfl) ?_
   refine gv_nil ?_
   have e := sj h1; subst e
   refine gv_goal fun a hd hs hok => ?_
   have hB13 := bg hB0 hg6 nb
   have hz14 := hg6.size
   exact ⟨hB13, hz14, hd, hs, ok_pick [2] hok (by kernel_rfl)⟩
 ·rintro a w2 ⟨hB15, hz16, hd, hs, hok⟩
  refine gv_in ?_ hd hs hok
  clear hd hs hok
  refine gv_cret ?_
  have e := sj h0; subst e
  refine gv_ret (gv_done [(.bool j1)] rfl ⟨(by kernel_rfl), trivial⟩ ?_)
  exact ⟨grown_of_below hB15, rfl⟩

theorem textstr_at_ok (fuel : Nat) (code_0 : Int) (index_1 : Int) (w0 : World)  (r0 : (Int × Int)) (h0 : textstr_at fuel code_0 index_1 = some r0) :
    Calls Tryd.prog 50 ([(.int .i64 code_0), (.int .i64 index_1)] : List Value).toArray w0 (Ret fun v w' => w0.grownBy w' none ∧ v = tup [(.agg #[(.int .i64 r0.1), (.int .i64 r0.2)])]) := by
 have hB0 : Below w0.heap.size w0 w0 := Below.refl _ _
 unfold textstr_at at h0
 refine calls_run Tryd.func50 rfl Tryd.ntmps50 (by kernel_rfl) ?_
 refine gv_sub [0, 1] (σ' := [(0, (.int .i64 code_0)), (1, (.int .i64 index_1))]) (by kernel_rfl) ?_
 refine gv_seq <| gv_region <| gv_new0 (fun b => .pointer (some ⟨b, 0, none⟩)) #[(.int .i64 0), (.int .i64 0)] 25 (by kernel_rfl) (by kernel_rfl) ?_
 intro b1 w2 hg3 hb4 hbe5 hz6
 refine gv_nil <| gv_seq <| gv_region <| gv_pureN 3 [5, 6, 7] [(7, (.agg #[(.int .i64 code_0), (.int .i64 index_1)]))] (by kernel_rfl) ?_
 refine gv_store0 25 0 (.agg #[(.int .i64 code_0), (.int .i64 index_1)]) #[(.int .i64 code_0), (.int .i64 index_1)] hb4 (by kernel_rfl) (by kernel_rfl) (by kernel_rfl) ?_
 intro w7 hg8 hb9 hz10
 refine gv_nil <| gv_cret ?_
 have e := sj h0; subst e
 refine gv_ret (gv_done [(.agg #[(.int .i64 code_0), (.int .i64 index_1)])] rfl ⟨⟨⟨b1, 0, none⟩, (by kernel_rfl), run_loadVar_row w7 b1 _ 25 _ _ _ hb9 Tryd.underlying25 rfl (by kernel_rfl)⟩, trivial⟩ ?_)
 have hB11 := bg hB0 hg3 nb
 have hlo12 : w0.heap.size ≤ b1 := lob hbe5 hB0.size
 have hB13 := bg hB11 hg8 (rowlo hlo12)
 exact ⟨grown_of_below hB13, rfl⟩

theorem textstr_check_ok (fuel : Nat) (pa0_0 : Option Addr) (pc0_0 : Nat) (l_0 : (List ByteArray)) (w0 : World) (X0 : Nat → Prop) (hX0 : ∀ k, X0 k → k < w0.heap.size) (hpa0_0 : Rd sE w0 X0 pa0_0 pc0_0 l_0) (hG0 : Rd bE w0 X0 (some ⟨0, 0, none⟩) 256 utf8First) (hG1 : Rd (prE (iE .u8) (iE .u8)) w0 X0 (some ⟨1, 0, none⟩) 16 utf8Acc) (r0 : (Int × Int)) (h0 : textstr_check fuel l_0 = some r0) :
    Calls Tryd.prog 49 ([(.slice pa0_0 (List.length l_0) pc0_0)] : List Value).toArray w0 (Ret fun v w' => w0.grownBy w' none ∧ v = tup [(.agg #[(.int .i64 r0.1), (.int .i64 r0.2)])]) := by
 have hB0 : Below w0.heap.size w0 w0 := Below.refl _ _
 unfold textstr_check at h0
 refine calls_run Tryd.func49 rfl Tryd.ntmps49 (by kernel_rfl) ?_
 refine gv_sub [0] (σ' := [(0, (.slice pa0_0 (List.length l_0) pc0_0))]) (by kernel_rfl) ?_
 refine gv_seq <| gv_region <| gv_new0 (fun b => .pointer (some ⟨b, 0, none⟩)) #[(.int .i64 0), (.int .i64 0)] 25 (by kernel_rfl) (by kernel_rfl) ?_
 intro b1 w2 hg3 hb4 hbe5 hz6
 refine gv_nil <| gv_seq <| gv_seq <| gv_region <| gv_pureN 3 [5, 6, 7] [(5, (.slice pa0_0 (List.length l_0) pc0_0)), (6, (.int .i64 ((List.length l_0 : Nat) : Int))), (7, (.int .i64 0))] (by kernel_rfl) ?_
 refine gv_nil <| bindE h0 ?_; clear h0; intro j7 h1 h0
 refine gv_cut_code (J := fun a w9 => ∃ s8 : (Int × Int), j7 = .inl s8 ∧ Below w0.heap.size w0 w9 ∧ w2.heap.size ≤ w9.heap.size ∧ Box w9 b1 25 #[(.int .i64 s8.1), (.int .i64 s8.2)] ∧ a.defers = [] ∧ a.tmps.size = 20 ∧ Ok [(2, (bp b1))] a.tmps) ?_ ?_
 ·skip
  refine gv_block <| gv_loop (A := fun (s10 : (Int × (Int × Int))) a w11 => Below w0.heap.size w0 w11 ∧ w2.heap.size ≤ w11.heap.size ∧ Box w11 b1 25 #[(.int .i64 s10.2.1), (.int .i64 s10.2.2)] ∧ a.defers = [] ∧ a.tmps.size = 20 ∧ Ok [(2, (bp b1)), (5, (.slice pa0_0 (List.length l_0) pc0_0)), (6, (.int .i64 ((List.length l_0 : Nat) : Int))), (7, (.int .i64 s10.1))] a.tmps) h1 ?_ ?_
  ·intro a hd hs hok
   have hB12 := bg hB0 hg3 nb
   exact ⟨hB12, (Nat.le_refl _), hb4, hd, hs, ok_pick [2, 5, 6, 7] hok (by kernel_rfl)⟩
  ·rintro s10 r2 h2 hR2 a w11 ⟨hB13, hz14, hb15, hd, hs, hok⟩
   refine gv_in ?_ hd hs hok
   clear hd hs hok
   refine gv_seq <| gv_region <| gv_pureN 1 [8] [(8, (.bool (decide (s10.1 < ((List.length l_0 : Nat) : Int)))))] (by kernel_rfl) ?_
   refine gv_nil <| gv_seq <| gv_cond (b := (decide (s10.1 < ((List.length l_0 : Nat) : Int)))) (by kernel_rfl) (fun hc16 => ?_) (fun hc16 => ?_)
   ·replace h2 := ite_t hc16 h2
    refine gv_skip <| gv_seq <| gv_block <| gv_seq <| gv_region <| gv_pureN 1 [9] [(9, (.int .i64 s10.1))] (by kernel_rfl) ?_
    refine bindE h2 ?_; clear h2; intro x17 hx18 h2
    refine gv_idxaddr (t := 80) (e := 9) (a := pa0_0) (len := List.length l_0) (cap := pc0_0) (kk := .i64) (i := s10.1) (sz := 1) [] (fun e => by cases e) rfl rfl rfl (by kernel_rfl) (by kernel_rfl) Tryd.underlying80 (by kernel_rfl) ((hpa0_0.below hB13 hX0).has hx18) (idx_spec hx18).1 (idx_spec hx18).2.1 rfl ?_
    refine gv_load (t := 9) (A := (elemAddr pa0_0 ((s10.1 : Int).toNat * 1))) (.string x17) [] (fun e => by cases e) rfl rfl rfl (by kernel_rfl) (by kernel_rfl) (by kernel_rfl) (inw0 ((hpa0_0.below hB13 hX0).cell hx18)) rfl ?_
    refine gv_pureN 2 [3, 4] [(3, (.int .i64 s10.1)), (4, (.string x17))] (by kernel_rfl) ?_
    refine gv_nil <| gv_seq <| gv_region <| gv_pureN 1 [12] [(12, (.string x17))] (by kernel_rfl) ?_
    refine bindE h2 ?_; clear h2; intro r19 hr20 h2
    refine gv_call0 (by kernel_rfl) rfl (by kernel_rfl) enters65 (textstr_Valid_ok fuel x17 w11 (fun k => X0 k ∨ X0 k) (fun k hk => (hk).elim (fun h => (fun k (hk : X0 k) => ltl (hX0 k hk) hB13.size) k h) (fun h => (fun k (hk : X0 k) => ltl (hX0 k hk) hB13.size) k h)) ((hG0.below hB13 hX0).wide (fun k hk => (.inl hk))) ((hG1.below hB13 hX0).wide (fun k hk => (.inr hk))) r19 hr20) ?_
    rintro v23 w21 ⟨hg22, rfl⟩
    refine gv_pureN 1 [14] [(14, (.bool (!r19)))] (by kernel_rfl) ?_
    refine gv_nil <| gv_cond (b := (!r19)) (by kernel_rfl) (fun hc24 => ?_) (fun hc24 => ?_)
    ·replace h2 := ite_t hc24 h2
     refine gv_seq <| gv_region <| gv_pureN 2 [15, 16] [(16, (.int .i64 (IntKind.i64.wrap ((-1) - s10.1))))] (by kernel_rfl) ?_
     refine bindE h2 ?_; clear h2; intro r25 hr26 h2
     refine gv_call0 (by kernel_rfl) rfl (by kernel_rfl) enters50 (textstr_at_ok fuel 6 (IntKind.i64.wrap ((-1) - s10.1)) w21  r25 hr26) ?_
     rintro v29 w27 ⟨hg28, rfl⟩
     have hg34 := (grown_trans hg22 hg28)
     have hk35 := hb15.grown hg34 nb
     refine gv_store0 25 0 (.agg #[(.int .i64 r25.1), (.int .i64 r25.2)]) #[(.int .i64 r25.1), (.int .i64 r25.2)] hk35 (by kernel_rfl) (by kernel_rfl) (by kernel_rfl) ?_
     intro w30 hg31 hb32 hz33
     refine gv_nil <| gv_cret ?_
     have e := sj h2; subst e
     replace h1 := congrArg some (hR2 _ rfl)
     have e := sj h1; subst e
     replace h0 := cont_inr h0
     have e := sj h0; subst e
     refine gv_ret (gv_done [(.agg #[(.int .i64 r25.1), (.int .i64 r25.2)])] rfl ⟨⟨⟨b1, 0, none⟩, (by kernel_rfl), run_loadVar_row w30 b1 _ 25 _ _ _ hb32 Tryd.underlying25 rfl (by kernel_rfl)⟩, trivial⟩ ?_)
     have hB36 := bg hB13 hg34 nb
     have hlo37 : w0.heap.size ≤ b1 := lob hbe5 hB0.size
     have hB38 := bg hB36 hg31 (rowlo hlo37)
     exact ⟨grown_of_below hB38, rfl⟩
    ·replace h2 := ite_f hc24 h2
     refine gv_skip <| gv_blk <| gv_region <| gv_pureN 2 [7, 18] [(7, (.int .i64 (IntKind.i64.wrap (s10.1 + 1))))] (by kernel_rfl) ?_
     refine gv_nil ?_
     have e := sj h2; subst e
     refine gv_goal fun a hd hs hok => ?_
     have hB39 := bg hB13 hg22 nb
     have hz40 := (nt hz14 hg22.size)
     have hk41 := hb15.grown hg22 nb
     exact ⟨((IntKind.i64.wrap (s10.1 + 1)), (s10.2.1, s10.2.2)), rfl, hB39, hz40, hk41, hd, hs, ok_pick [2, 5, 6, 7] hok (by kernel_rfl)⟩
   ·replace h2 := ite_f hc16 h2
    refine gv_cexit <| gv_exit rfl ?_
    have e := sj h2; subst e
    replace h1 := congrArg some (hR2 _ rfl)
    have e := sj h1; subst e
    refine gv_goal fun a hd hs hok => ?_
    have hz42 := hz14
    exact ⟨(s10.2.1, s10.2.2), rfl, hB13, hz42, hb15, hd, hs, ok_pick [2] hok (by kernel_rfl)⟩
 ·rintro a w9 ⟨s8, e, hB43, hz44, hb45, hd, hs, hok⟩
  subst e
  refine gv_in ?_ hd hs hok
  clear hd hs hok
  replace h0 := cont_inl h0
  clear hz44 hz6 hb4 hg3
  refine gv_seq <| gv_region <| gv_pureN 1 [19] [(19, (.agg #[(.int .i64 0), (.int .i64 0)]))] (by kernel_rfl) ?_
  refine gv_store0 25 0 (.agg #[(.int .i64 0), (.int .i64 0)]) #[(.int .i64 0), (.int .i64 0)] hb45 (by kernel_rfl) (by kernel_rfl) (by kernel_rfl) ?_
  intro w46 hg47 hb48 hz49
  refine gv_nil <| gv_cret ?_
  have e := sj h0; subst e
  refine gv_ret (gv_done [(.agg #[(.int .i64 0), (.int .i64 0)])] rfl ⟨⟨⟨b1, 0, none⟩, (by kernel_rfl), run_loadVar_row w46 b1 _ 25 _ _ _ hb48 Tryd.underlying25 rfl (by kernel_rfl)⟩, trivial⟩ ?_)
  have hlo50 : w0.heap.size ≤ b1 := lob hbe5 hB0.size
  have hB51 := bg hB43 hg47 (rowlo hlo50)
  exact ⟨grown_of_below hB51, rfl⟩

theorem textstr_Replace_ok (fuel : Nat) (s_0 : ByteArray) (old_1 : ByteArray) (with_2 : ByteArray) (most_3 : Int) (w0 : World) (X0 : Nat → Prop) (hX0 : ∀ k, X0 k → k < w0.heap.size) (hG0 : Rd bE w0 X0 (some ⟨0, 0, none⟩) 256 utf8First) (hG1 : Rd (prE (iE .u8) (iE .u8)) w0 X0 (some ⟨1, 0, none⟩) 16 utf8Acc) {gmx : Int} (hG2 : Rd (iE .i64) w0 X0 (some ⟨2, 0, none⟩) 1 [gmx]) (r0 : (ByteArray × (Int × Int))) (h0 : textstr_Replace fuel s_0 old_1 with_2 most_3 = some r0) :
    Calls Tryd.prog 30 ([(.string s_0), (.string old_1), (.string with_2), (.int .i64 most_3)] : List Value).toArray w0 (Ret fun v w' => w0.grownBy w' none ∧ v = tup [(.string r0.1), (.agg #[(.int .i64 r0.2.1), (.int .i64 r0.2.2)])]) := by
 have hB0 : Below w0.heap.size w0 w0 := Below.refl _ _
 unfold textstr_Replace at h0
 refine calls_run Tryd.func30 rfl Tryd.ntmps30 (by kernel_rfl) ?_
 refine gv_sub [0, 1, 2, 3] (σ' := [(0, (.string s_0)), (1, (.string old_1)), (2, (.string with_2)), (3, (.int .i64 most_3))]) (by kernel_rfl) ?_
 refine gv_seq <| gv_region <| gv_pureN 1 [8] [] (by kernel_rfl) ?_
 refine gv_new0 (fun b => .pointer (some ⟨b, 0, none⟩)) #[(.int .i64 0), (.int .i64 0)] 25 (by kernel_rfl) (by kernel_rfl) ?_
 intro b1 w2 hg3 hb4 hbe5 hz6
 refine gv_nil <| gv_seq <| gv_seq <| gv_region <| gv_pureN 3 [12, 13, 14] [(12, (.string s_0)), (13, (.string old_1)), (14, (.string with_2))] (by kernel_rfl) ?_
 refine gv_new0 (fun b => .slice (some ⟨b, 0, none⟩) 3 3) #[(.string s_0), (.string old_1), (.string with_2)] 9 (by kernel_rfl) (by kernel_rfl) ?_
 intro b7 w8 hg9 hb10 hbe11 hz12
 have ho13 : Gv.Own sE 9 w8 (fun _ => False) (some ⟨b7, 0, none⟩) 3 ([s_0, old_1, with_2] : List ByteArray) := Box.ownE hb10 ⟨[(.string s_0)], [(.string old_1), (.string with_2)], rfl, rfl, ⟨[(.string old_1)], [(.string with_2)], rfl, rfl, ⟨[(.string with_2)], [], rfl, rfl, rfl⟩⟩⟩ (show 3 ≤ maxLen by decide) (fun h => h)
 have hB18 := bg hB0 hg3 nb
 have hl14 : ∀ g, blk (some ⟨b7, 0, none⟩) = some g → w0.heap.size ≤ g := loo hbe11 hB18.size
 refine bindE h0 ?_; clear h0; intro r19 hr20 h0
 have hB21 := bg hB18 hg9 nb
 refine gv_call0 (by kernel_rfl) rfl (by kernel_rfl) enters49 (textstr_check_ok fuel (some ⟨b7, 0, none⟩) 3 ([s_0, old_1, with_2] : List ByteArray) w8 (fun k => (fun k => blk (some ⟨b7, 0, none⟩) = some k) k ∨ X0 k ∨ X0 k) (fun k hk => (hk).elim (fun h => (fun k (hk : blk (some ⟨b7, 0, none⟩) = some k) => ho13.lt k hk) k h) (fun h => (h).elim (fun h => (fun k (hk : X0 k) => ltl (hX0 k hk) hB21.size) k h) (fun h => (fun k (hk : X0 k) => ltl (hX0 k hk) hB21.size) k h))) ((ho13.rd (Y := fun k => blk (some ⟨b7, 0, none⟩) = some k) (fun _ h => h.elim) (fun g e => e)).wide (fun k hk => (.inl hk))) ((hG0.below hB21 hX0).wide (fun k hk => (.inr (.inl hk)))) ((hG1.below hB21 hX0).wide (fun k hk => (.inr (.inr hk)))) r19 hr20) ?_
 rintro v24 w22 ⟨hg23, rfl⟩
 refine gv_new0 (fun b => .pointer (some ⟨b, 0, none⟩)) #[(.int .i64 0), (.int .i64 0)] 25 (by kernel_rfl) (by kernel_rfl) ?_
 intro b25 w26 hg27 hb28 hbe29 hz30
 refine gv_store0 25 0 (.agg #[(.int .i64 r19.1), (.int .i64 r19.2)]) #[(.int .i64 r19.1), (.int .i64 r19.2)] hb28 (by kernel_rfl) (by kernel_rfl) (by kernel_rfl) ?_
 intro w31 hg32 hb33 hz34
 refine gv_nil <| gv_seq <| gv_region <| gv_pureN 1 [17] [(17, (bp b25))] (by kernel_rfl) ?_
 refine gv_load (t := 3) (A := ⟨b25, 0, none⟩) (.int .i64 r19.1) [] (fun e => by cases e) rfl rfl rfl (by kernel_rfl) (by kernel_rfl) (by kernel_rfl) (inw0 (hb33.cell 0 rfl)) rfl ?_
 refine gv_pureN 1 [19] [(19, (.bool (r19.1 != 0)))] (by kernel_rfl) ?_
 refine gv_nil <| gv_cond (b := (r19.1 != 0)) (by kernel_rfl) (fun hc35 => ?_) (fun hc35 => ?_)
 ·replace h0 := ite_t hc35 h0
  refine gv_seq <| gv_drawA (by kernel_rfl) ?_
  intro w36 hg37
  refine gv_pre [1] (bA 3 [1]) 2 (by kernel_rfl) (by kernel_rfl) ?_
  refine gv_pureN 1 [8] [(8, (.string (strOf [])))] (by kernel_rfl) ?_
  refine gv_nil <| gv_goA ?_
  refine gv_stage (Cls w36 []) [0, 1] [(0, some true)] (bA 3 [0, 1]) 1 (by kernel_rfl) (by kernel_rfl) (Cls.refl _ _) ?_
  have hC38 := Cls.refl w36 []
  have hk39 := hb33.grown hg37 nb
  refine gv_loadBox (t := 25) (b := b25) (t' := 25) (fr := (0, 0)) #[(.int .i64 r19.1), (.int .i64 r19.2)] [] (fun e => by cases e) rfl rfl rfl (by kernel_rfl) (by kernel_rfl) (by kernel_rfl) (by kernel_rfl) (inw1 fun w' hC' => (hC'.box hk39 nm_nil)) rfl ?_
  refine gv_nil <| gv_goA ?_
  refine gv_stage (fun _ => True) [0, 1, 2] [(2, some false)] (bA 3 [0, 1, 2]) 0 (by kernel_rfl) (by kernel_rfl) trivial ?_
  have hg44 := (grown_trans (grown_trans hg9 hg23) hg27)
  have hg45 := (grown_trans hg9 hg23)
  have hk46 := hb4.grown hg45 nb
  have lt47 := ltl ((ltb hk46) _ rfl) ((lowb hbe29) _ rfl)
  have hk48 := ((hb4.grown hg44 nb).grown hg32 (rowne (ng lt47))).grown hg37 nb
  refine gv_store (t := 25) (b := b1) (off := 0) (v := (.agg #[(.int .i64 r19.1), (.int .i64 r19.2)])) (t' := 25) (cs := #[(.int .i64 0), (.int .i64 0)]) #[(.int .i64 r19.1), (.int .i64 r19.2)] (by decide) rfl rfl (by kernel_rfl) (by kernel_rfl) (by kernel_rfl) (by intro u hu; simp [Value.cells] at hu; rcases hu with rfl | rfl <;> rfl) (show 0 + 2 ≤ 2 by decide) (by rfl) hk48 ?_
  intro w40 hg41 hb42 hz43
  refine ⟨(fun _ => trivial), ?_⟩
  refine gv_nil <| gv_goA ?_
  refine gv_stageE (by kernel_rfl) ?_
  refine gv_cret ?_
  have e := sj h0; subst e
  refine gv_ret (gv_done [(.string (strOf [])), (.agg #[(.int .i64 r19.1), (.int .i64 r19.2)])] rfl ⟨(by kernel_rfl), ⟨⟨b1, 0, none⟩, (by kernel_rfl), run_loadVar_row w40 b1 _ 25 _ _ _ hb42 Tryd.underlying25 rfl (by kernel_rfl)⟩, trivial⟩ ?_)
  have hg49 := (grown_trans hg23 hg27)
  have hB50 := bg hB21 hg49 nb
  have hB51 := bg hB21 hg23 nb
  have hlo52 : w0.heap.size ≤ b25 := lob hbe29 hB51.size
  have hB53 := bg hB50 hg32 (rowlo hlo52)
  have hB54 := bg hB53 hg37 nb
  have hlo55 : w0.heap.size ≤ b1 := lob hbe5 hB0.size
  have hB56 := bg hB54 hg41 (rowlo hlo55)
  exact ⟨grown_of_below hB56, rfl⟩
 ·replace h0 := ite_f hc35 h0
  refine gv_skip <| gv_seq <| gv_seq <| gv_region <| gv_pureN 2 [21, 22] [(22, (.bool (old_1.toList == (strOf []).toList)))] (by kernel_rfl) ?_
  refine gv_nil <| gv_cond (b := (old_1.toList == (strOf []).toList)) (by kernel_rfl) (fun hc57 => ?_) (fun hc57 => ?_)
  ·replace h0 := ite_t hc57 h0
   refine gv_seq <| gv_region <| bindE h0 ?_; clear h0; intro r58 hr59 h0
   refine gv_call0 (by kernel_rfl) rfl (by kernel_rfl) enters50 (textstr_at_ok fuel 10 (-2) w31  r58 hr59) ?_
   rintro v62 w60 ⟨hg61, rfl⟩
   clear hr59 hc57 hc35 hz34 hb33 hz30 hb28 hr20 hl14 hB18 ho13 hz12 hbe11 hb10 hz6 hg3
   refine gv_pureN 1 [8] [(8, (.string (strOf [])))] (by kernel_rfl) ?_
   have hg67 := (grown_trans (grown_trans hg9 hg23) hg27)
   have hg68 := (grown_trans hg9 hg23)
   have hk69 := hb4.grown hg68 nb
   have lt70 := ltl ((ltb hk69) _ rfl) ((lowb hbe29) _ rfl)
   have hk71 := ((hb4.grown hg67 nb).grown hg32 (rowne (ng lt70))).grown hg61 nb
   refine gv_store0 25 0 (.agg #[(.int .i64 r58.1), (.int .i64 r58.2)]) #[(.int .i64 r58.1), (.int .i64 r58.2)] hk71 (by kernel_rfl) (by kernel_rfl) (by kernel_rfl) ?_
   intro w63 hg64 hb65 hz66
   refine gv_nil <| gv_cret ?_
   have e := sj h0; subst e
   refine gv_ret (gv_done [(.string (strOf [])), (.agg #[(.int .i64 r58.1), (.int .i64 r58.2)])] rfl ⟨(by kernel_rfl), ⟨⟨b1, 0, none⟩, (by kernel_rfl), run_loadVar_row w63 b1 _ 25 _ _ _ hb65 Tryd.underlying25 rfl (by kernel_rfl)⟩, trivial⟩ ?_)
   have hg72 := (grown_trans hg23 hg27)
   have hB73 := bg hB21 hg72 nb
   have hB74 := bg hB21 hg23 nb
   have hlo75 : w0.heap.size ≤ b25 := lob hbe29 hB74.size
   have hB76 := bg hB73 hg32 (rowlo hlo75)
   have hB77 := bg hB76 hg61 nb
   have hlo78 : w0.heap.size ≤ b1 := lob hbe5 hB0.size
   have hB79 := bg hB77 hg64 (rowlo hlo78)
   exact ⟨grown_of_below hB79, rfl⟩
  ·replace h0 := ite_f hc57 h0
   refine gv_skip <| gv_seq <| gv_region <| gv_pureN 2 [24, 25] [(24, (.string s_0)), (25, (.string old_1))] (by kernel_rfl) ?_
   refine bindE h0 ?_; clear h0; intro r80 hr81 h0
   have hg82 := (grown_trans hg23 hg27)
   have hB83 := bg hB21 hg82 nb
   have hB84 := bg hB21 hg23 nb
   have hlo85 : w0.heap.size ≤ b25 := lob hbe29 hB84.size
   have hB86 := bg hB83 hg32 (rowlo hlo85)
   refine gv_call0 (by kernel_rfl) rfl (by kernel_rfl) enters51 (strings_Count_ok fuel s_0 old_1 w31 (fun k => X0 k) (fun k hk => (fun k (hk : X0 k) => ltl (hX0 k hk) hB86.size) k hk) ((hG2.below hB86 hX0).wide (fun k hk => hk)) r80 hr81) ?_
   rintro v89 w87 ⟨hg88, rfl⟩
   refine gv_pureN 1 [11] [(11, (.int .i64 r80))] (by kernel_rfl) ?_
   refine gv_sub [0, 1, 2, 3, 9, 11] (σ' := [(0, (.string s_0)), (1, (.string old_1)), (2, (.string with_2)), (3, (.int .i64 most_3)), (9, (bp b1)), (11, (.int .i64 r80))]) (by kernel_rfl) ?_
   refine gv_nil <| gv_seq <| gv_seq <| gv_region <| gv_pureN 2 [27, 28] [(28, (.bool (decide (most_3 ≥ 0))))] (by kernel_rfl) ?_
   refine gv_nil <| bindE h0 ?_; clear h0; intro j90 h1 h0
   refine gv_cut_code (J := fun a w91 => Below w0.heap.size w0 w91 ∧ w87.heap.size ≤ w91.heap.size ∧ Box w91 b1 25 #[(.int .i64 0), (.int .i64 0)] ∧ a.defers = [] ∧ a.tmps.size = 50 ∧ Ok [(0, (.string s_0)), (1, (.string old_1)), (2, (.string with_2)), (9, (bp b1)), (11, (.int .i64 j90))] a.tmps) ?_ ?_
   ·skip
    refine gv_cond (b := (decide (most_3 ≥ 0))) (by kernel_rfl) (fun hc92 => ?_) (fun hc92 => ?_)
    ·replace h1 := ite_t hc92 h1
     refine gv_region <| gv_pureN 4 [11, 29, 30, 31] [(11, (.int .i64 (if most_3 < r80 then most_3 else r80)))] (by kernel_rfl) ?_
     refine gv_nil ?_
     have e := sj h1; subst e
     refine gv_goal fun a hd hs hok => ?_
     have hB93 := bg hB86 hg88 nb
     have hg94 := (grown_trans hg9 hg82)
     have hg95 := (grown_trans hg9 hg23)
     have hk96 := hb4.grown hg95 nb
     have lt97 := ltl ((ltb hk96) _ rfl) ((lowb hbe29) _ rfl)
     have hk98 := ((hb4.grown hg94 nb).grown hg32 (rowne (ng lt97))).grown hg88 nb
     exact ⟨hB93, (Nat.le_refl _), hk98, hd, hs, ok_pick [0, 1, 2, 9, 11] hok (by kernel_rfl)⟩
    ·replace h1 := ite_f hc92 h1
     refine gv_skip ?_
     have e := sj h1; subst e
     refine gv_goal fun a hd hs hok => ?_
     have hB99 := bg hB86 hg88 nb
     have hg100 := (grown_trans hg9 hg82)
     have hg101 := (grown_trans hg9 hg23)
     have hk102 := hb4.grown hg101 nb
     have lt103 := ltl ((ltb hk102) _ rfl) ((lowb hbe29) _ rfl)
     have hk104 := ((hb4.grown hg100 nb).grown hg32 (rowne (ng lt103))).grown hg88 nb
     exact ⟨hB99, (Nat.le_refl _), hk104, hd, hs, ok_pick [0, 1, 2, 9, 11] hok (by kernel_rfl)⟩
   ·rintro a w91 ⟨hB105, hz106, hb107, hd, hs, hok⟩
    refine gv_in ?_ hd hs hok
    clear hd hs hok
    clear hz106 hg88 hB86 hlo85 hB84 hB83 hg82 hr81 hc57 hc35 hz34 hb33 hg32 hz30 hbe29 hb28 hg27 hg23 hB21 hr20 hl14 hB18 ho13 hz12 hbe11 hb10 hg9 hz6 hb4 hg3
    refine gv_seq <| gv_seq <| gv_region <| gv_pureN 11 [32, 33, 34, 35, 36, 37, 38, 39, 40, 41, 42] [(42, (.bool (decide ((IntKind.i64.wrap (((ByteArray.size s_0 : Nat) : Int) + (IntKind.i64.wrap (j90 * (IntKind.i64.wrap (((ByteArray.size with_2 : Nat) : Int) - ((ByteArray.size old_1 : Nat) : Int))))))) > 4000))))] (by kernel_rfl) ?_
    refine gv_nil <| gv_cond (b := (decide ((IntKind.i64.wrap (((ByteArray.size s_0 : Nat) : Int) + (IntKind.i64.wrap (j90 * (IntKind.i64.wrap (((ByteArray.size with_2 : Nat) : Int) - ((ByteArray.size old_1 : Nat) : Int))))))) > 4000))) (by kernel_rfl) (fun hc108 => ?_) (fun hc108 => ?_)
    ·replace h0 := ite_t hc108 h0
     refine gv_seq <| gv_region <| bindE h0 ?_; clear h0; intro r109 hr110 h0
     refine gv_call0 (by kernel_rfl) rfl (by kernel_rfl) enters50 (textstr_at_ok fuel 3 (-1) w91  r109 hr110) ?_
     rintro v113 w111 ⟨hg112, rfl⟩
     refine gv_pureN 1 [8] [(8, (.string (strOf [])))] (by kernel_rfl) ?_
     have hk118 := hb107.grown hg112 nb
     refine gv_store0 25 0 (.agg #[(.int .i64 r109.1), (.int .i64 r109.2)]) #[(.int .i64 r109.1), (.int .i64 r109.2)] hk118 (by kernel_rfl) (by kernel_rfl) (by kernel_rfl) ?_
     intro w114 hg115 hb116 hz117
     refine gv_nil <| gv_cret ?_
     have e := sj h0; subst e
     refine gv_ret (gv_done [(.string (strOf [])), (.agg #[(.int .i64 r109.1), (.int .i64 r109.2)])] rfl ⟨(by kernel_rfl), ⟨⟨b1, 0, none⟩, (by kernel_rfl), run_loadVar_row w114 b1 _ 25 _ _ _ hb116 Tryd.underlying25 rfl (by kernel_rfl)⟩, trivial⟩ ?_)
     have hB119 := bg hB105 hg112 nb
     have hlo120 : w0.heap.size ≤ b1 := lob hbe5 hB0.size
     have hB121 := bg hB119 hg115 (rowlo hlo120)
     exact ⟨grown_of_below hB121, rfl⟩
    ·replace h0 := ite_f hc108 h0
     refine gv_skip <| gv_seq <| gv_region <| gv_pureN 4 [44, 45, 46, 47] [(44, (.string s_0)), (45, (.string old_1)), (46, (.string with_2)), (47, (.int .i64 j90))] (by kernel_rfl) ?_
     refine bindE h0 ?_; clear h0; intro r122 hr123 h0
     refine gv_call0 (by kernel_rfl) rfl (by kernel_rfl) enters52 (strings_Replace_ok fuel s_0 old_1 with_2 j90 w91 (fun k => X0 k ∨ X0 k ∨ X0 k) (fun k hk => (hk).elim (fun h => (fun k (hk : X0 k) => ltl (hX0 k hk) hB105.size) k h) (fun h => (h).elim (fun h => (fun k (hk : X0 k) => ltl (hX0 k hk) hB105.size) k h) (fun h => (fun k (hk : X0 k) => ltl (hX0 k hk) hB105.size) k h))) ((hG0.below hB105 hX0).wide (fun k hk => (.inl hk))) ((hG1.below hB105 hX0).wide (fun k hk => (.inr (.inl hk)))) ((hG2.below hB105 hX0).wide (fun k hk => (.inr (.inr hk)))) r122 hr123) ?_
     rintro v126 w124 ⟨hg125, rfl⟩
     refine gv_pureN 2 [8, 49] [(8, (.string r122)), (49, (.agg #[(.int .i64 0), (.int .i64 0)]))] (by kernel_rfl) ?_
     have hk131 := hb107.grown hg125 nb
     refine gv_store0 25 0 (.agg #[(.int .i64 0), (.int .i64 0)]) #[(.int .i64 0), (.int .i64 0)] hk131 (by kernel_rfl) (by kernel_rfl) (by kernel_rfl) ?_
     intro w127 hg128 hb129 hz130
     refine gv_nil <| gv_cret ?_
     have e := sj h0; subst e
     refine gv_ret (gv_done [(.string r122), (.agg #[(.int .i64 0), (.int .i64 0)])] rfl ⟨(by kernel_rfl), ⟨⟨b1, 0, none⟩, (by kernel_rfl), run_loadVar_row w127 b1 _ 25 _ _ _ hb129 Tryd.underlying25 rfl (by kernel_rfl)⟩, trivial⟩ ?_)
     have hB132 := bg hB105 hg125 nb
     have hlo133 : w0.heap.size ≤ b1 := lob hbe5 hB0.size
     have hB134 := bg hB132 hg128 (rowlo hlo133)
     exact ⟨grown_of_below hB134, rfl⟩

theorem law4_BytestrRepaired_ok (fuel : Nat) (pa0_0 : Option Addr) (pc0_0 : Nat) (b_0 : (List UInt8)) (coding_1 : Int) (w0 : World) (X0 : Nat → Prop) (hX0 : ∀ k, X0 k → k < w0.heap.size) (hpa0_0 : Rd bE w0 X0 pa0_0 pc0_0 b_0) (hG0 : Rd bE w0 X0 (some ⟨0, 0, none⟩) 256 utf8First) (hG1 : Rd (prE (iE .u8) (iE .u8)) w0 X0 (some ⟨1, 0, none⟩) 16 utf8Acc) {gmx : Int} (hG2 : Rd (iE .i64) w0 X0 (some ⟨2, 0, none⟩) 1 [gmx]) (r0 : Bool) (h0 : law4_BytestrRepaired fuel b_0 coding_1 = some r0) :
    Calls Tryd.prog 7 ([(.slice pa0_0 (List.length b_0) pc0_0), (.int .i64 coding_1)] : List Value).toArray w0 (Ret fun v w' => w0.grownBy w' none ∧ v = tup [(.bool r0)]) := by
 have hB0 : Below w0.heap.size w0 w0 := Below.refl _ _
 unfold law4_BytestrRepaired at h0
 refine calls_run Tryd.func7 rfl Tryd.ntmps7 (by kernel_rfl) ?_
 refine gv_sub [0, 1] (σ' := [(0, (.slice pa0_0 (List.length b_0) pc0_0)), (1, (.int .i64 coding_1))]) (by kernel_rfl) ?_
 refine gv_seq <| gv_region <| gv_pureN 1 [4] [] (by kernel_rfl) ?_
 refine gv_nil <| gv_seq <| gv_seq <| gv_region <| bindE h0 ?_; clear h0; intro j1 h1 h0
 refine gv_cut_ops (J := fun a w2 => Below w0.heap.size w0 w2 ∧ w0.heap.size ≤ w2.heap.size ∧ a.defers = [] ∧ a.tmps.size = 136 ∧ Ok [(0, (.slice pa0_0 (List.length b_0) pc0_0)), (1, (.int .i64 coding_1)), (33, (.bool j1))] a.tmps) ?_ ?_
 ·skip
  refine bindE h1 ?_; clear h1; intro r3 hr4 h1
  refine gv_call0 (by kernel_rfl) rfl (by kernel_rfl) enters11 (law4_bytesOf_ok fuel  w0 (fun k => X0 k ∨ X0 k) (fun k hk => (hk).elim (fun h => (fun k (hk : X0 k) => ltl (hX0 k hk) hB0.size) k h) (fun h => (fun k (hk : X0 k) => ltl (hX0 k hk) hB0.size) k h)) ((hG0.below hB0 hX0).wide (fun k hk => (.inl hk))) ((hG1.below hB0 hX0).wide (fun k hk => (.inr hk))) r3 hr4) ?_
  rintro v7 w5 ⟨hg6, rfl⟩
  refine gv_pureN 2 [20, 21] [(21, (.bool (!r3)))] (by kernel_rfl) ?_
  refine gv_split (s := 21) (g := (!r3)) (by kernel_rfl) (fun hc8 => ?_) (fun hc8 => ?_)
  ·skip
   replace h1 := ite_t hc8 h1
   refine gv_pureN 12 [22, 23, 24, 25, 26, 27, 28, 29, 30, 31, 32, 33] [(33, (.bool true))] (by kernel_rfl) ?_
   refine gv_nil ?_
   have e := sj h1; subst e
   refine gv_goal fun a hd hs hok => ?_
   have hB9 := bg hB0 hg6 nb
   have hz10 := hg6.size
   exact ⟨hB9, hz10, hd, hs, ok_pick [0, 1, 33] hok (by kernel_rfl)⟩
  ·skip
   replace h1 := ite_f hc8 h1
   refine gv_pureN 4 [22, 23, 24, 25] [(25, (.bool (decide (coding_1 < 0))))] (by kernel_rfl) ?_
   refine gv_split (s := 25) (g := (decide (coding_1 < 0))) (by kernel_rfl) (fun hc11 => ?_) (fun hc11 => ?_)
   ·skip
    replace h1 := ite_t hc11 h1
    refine gv_pureN 8 [26, 27, 28, 29, 30, 31, 32, 33] [(33, (.bool true))] (by kernel_rfl) ?_
    refine gv_nil ?_
    have e := sj h1; subst e
    refine gv_goal fun a hd hs hok => ?_
    have hB12 := bg hB0 hg6 nb
    have hz13 := hg6.size
    exact ⟨hB12, hz13, hd, hs, ok_pick [0, 1, 33] hok (by kernel_rfl)⟩
   ·skip
    replace h1 := ite_f hc11 h1
    refine gv_pureN 4 [26, 27, 28, 29] [(29, (.bool (decide (coding_1 > 2))))] (by kernel_rfl) ?_
    refine gv_split (s := 29) (g := (decide (coding_1 > 2))) (by kernel_rfl) (fun hc14 => ?_) (fun hc14 => ?_)
    ·skip
     replace h1 := ite_t hc14 h1
     refine gv_pureN 4 [30, 31, 32, 33] [(33, (.bool true))] (by kernel_rfl) ?_
     refine gv_nil ?_
     have e := sj h1; subst e
     refine gv_goal fun a hd hs hok => ?_
     have hB15 := bg hB0 hg6 nb
     have hz16 := hg6.size
     exact ⟨hB15, hz16, hd, hs, ok_pick [0, 1, 33] hok (by kernel_rfl)⟩
    ·skip
     replace h1 := ite_f hc14 h1
     refine gv_pureN 4 [30, 31, 32, 33] [(33, (.bool (decide (((List.length b_0 : Nat) : Int) > 1000))))] (by kernel_rfl) ?_
     refine gv_nil ?_
     have e := sj h1; subst e
     refine gv_goal fun a hd hs hok => ?_
     have hB17 := bg hB0 hg6 nb
     have hz18 := hg6.size
     exact ⟨hB17, hz18, hd, hs, ok_pick [0, 1, 33] hok (by kernel_rfl)⟩
 ·rintro a w2 ⟨hB19, hz20, hd, hs, hok⟩
  refine gv_in ?_ hd hs hok
  clear hd hs hok
  refine gv_cond (b := j1) (by kernel_rfl) (fun hc21 => ?_) (fun hc21 => ?_)
  ·replace h0 := ite_t hc21 h0
   refine gv_seq <| gv_region <| bindE h0 ?_; clear h0; intro r22 hr23 h0
   refine gv_call0 (by kernel_rfl) rfl (by kernel_rfl) enters11 (law4_bytesOf_ok fuel  w2 (fun k => X0 k ∨ X0 k) (fun k hk => (hk).elim (fun h => (fun k (hk : X0 k) => ltl (hX0 k hk) hB19.size) k h) (fun h => (fun k (hk : X0 k) => ltl (hX0 k hk) hB19.size) k h)) ((hG0.below hB19 hX0).wide (fun k hk => (.inl hk))) ((hG1.below hB19 hX0).wide (fun k hk => (.inr hk))) r22 hr23) ?_
   rintro v26 w24 ⟨hg25, rfl⟩
   refine gv_pureN 1 [4] [(4, (.bool r22))] (by kernel_rfl) ?_
   refine gv_nil <| gv_cret ?_
   have e := sj h0; subst e
   refine gv_ret (gv_done [(.bool r22)] rfl ⟨(by kernel_rfl), trivial⟩ ?_)
   have hB27 := bg hB19 hg25 nb
   exact ⟨grown_of_below hB27, rfl⟩
  ·replace h0 := ite_f hc21 h0
   refine gv_skip <| gv_seq <| gv_region <| gv_pureN 2 [36, 37] [(36, (.slice pa0_0 (List.length b_0) pc0_0)), (37, (.int .i64 coding_1))] (by kernel_rfl) ?_
   refine bindE h0 ?_; clear h0; intro r28 hr29 h0
   refine gv_call0 (by kernel_rfl) rfl (by kernel_rfl) enters23 (bytestr_Decode_ok fuel pa0_0 pc0_0 b_0 coding_1 1 w2 (fun k => X0 k ∨ X0 k ∨ X0 k) (fun k hk => (hk).elim (fun h => (fun k (hk : X0 k) => ltl (hX0 k hk) hB19.size) k h) (fun h => (h).elim (fun h => (fun k (hk : X0 k) => ltl (hX0 k hk) hB19.size) k h) (fun h => (fun k (hk : X0 k) => ltl (hX0 k hk) hB19.size) k h))) ((hpa0_0.below hB19 hX0).wide (fun k hk => (.inl hk))) ((hG0.below hB19 hX0).wide (fun k hk => (.inr (.inl hk)))) ((hG1.below hB19 hX0).wide (fun k hk => (.inr (.inr hk)))) r28 hr29) ?_
   rintro v32 w30 ⟨hg31, rfl⟩
   refine gv_pureN 3 [35, 39, 40] [(39, (.string r28.1)), (40, (.agg #[(.int .i64 r28.2.1), (.int .i64 r28.2.2)]))] (by kernel_rfl) ?_
   refine gv_new0 (fun b => .pointer (some ⟨b, 0, none⟩)) #[(.int .i64 0), (.int .i64 0)] 25 (by kernel_rfl) (by kernel_rfl) ?_
   intro b33 w34 hg35 hb36 hbe37 hz38
   refine gv_pureN 1 [5] [(5, (.string r28.1))] (by kernel_rfl) ?_
   refine gv_store0 25 0 (.agg #[(.int .i64 r28.2.1), (.int .i64 r28.2.2)]) #[(.int .i64 r28.2.1), (.int .i64 r28.2.2)] hb36 (by kernel_rfl) (by kernel_rfl) (by kernel_rfl) ?_
   intro w39 hg40 hb41 hz42
   refine gv_nil <| gv_seq <| gv_region <| gv_pureN 2 [42, 43] [(42, (.slice pa0_0 (List.length b_0) pc0_0)), (43, (.int .i64 coding_1))] (by kernel_rfl) ?_
   refine bindE h0 ?_; clear h0; intro r43 hr44 h0
   have hg45 := (grown_trans hg31 hg35)
   have hB46 := bg hB19 hg45 nb
   have hB47 := bg hB19 hg31 nb
   have hlo48 : w0.heap.size ≤ b33 := lob hbe37 hB47.size
   have hB49 := bg hB46 hg40 (rowlo hlo48)
   refine gv_call0 (by kernel_rfl) rfl (by kernel_rfl) enters23 (bytestr_Decode_ok fuel pa0_0 pc0_0 b_0 coding_1 2 w39 (fun k => X0 k ∨ X0 k ∨ X0 k) (fun k hk => (hk).elim (fun h => (fun k (hk : X0 k) => ltl (hX0 k hk) hB49.size) k h) (fun h => (h).elim (fun h => (fun k (hk : X0 k) => ltl (hX0 k hk) hB49.size) k h) (fun h => (fun k (hk : X0 k) => ltl (hX0 k hk) hB49.size) k h))) ((hpa0_0.below hB49 hX0).wide (fun k hk => (.inl hk))) ((hG0.below hB49 hX0).wide (fun k hk => (.inr (.inl hk)))) ((hG1.below hB49 hX0).wide (fun k hk => (.inr (.inr hk)))) r43 hr44) ?_
   rintro v52 w50 ⟨hg51, rfl⟩
   refine gv_pureN 3 [41, 45, 46] [(45, (.string r43.1)), (46, (.agg #[(.int .i64 r43.2.1), (.int .i64 r43.2.2)]))] (by kernel_rfl) ?_
   refine gv_new0 (fun b => .pointer (some ⟨b, 0, none⟩)) #[(.int .i64 0), (.int .i64 0)] 25 (by kernel_rfl) (by kernel_rfl) ?_
   intro b53 w54 hg55 hb56 hbe57 hz58
   refine gv_pureN 1 [7] [(7, (.string r43.1))] (by kernel_rfl) ?_
   refine gv_store0 25 0 (.agg #[(.int .i64 r43.2.1), (.int .i64 r43.2.2)]) #[(.int .i64 r43.2.1), (.int .i64 r43.2.2)] hb56 (by kernel_rfl) (by kernel_rfl) (by kernel_rfl) ?_
   intro w59 hg60 hb61 hz62
   clear hz62 hz58 hb56 hB47 hB46 hg45 hr44 hz42 hg40 hz38 hbe37 hb36 hg35 hg31 hr29 hc21 hz20 hB19
   refine gv_nil <| gv_seq <| gv_region <| gv_pureN 2 [48, 49] [(48, (.slice pa0_0 (List.length b_0) pc0_0)), (49, (.int .i64 coding_1))] (by kernel_rfl) ?_
   refine bindE h0 ?_; clear h0; intro r63 hr64 h0
   have hg65 := (grown_trans hg51 hg55)
   have hB66 := bg hB49 hg65 nb
   have hB67 := bg hB49 hg51 nb
   have hlo68 : w0.heap.size ≤ b53 := lob hbe57 hB67.size
   have hB69 := bg hB66 hg60 (rowlo hlo68)
   refine gv_call0 (by kernel_rfl) rfl (by kernel_rfl) enters23 (bytestr_Decode_ok fuel pa0_0 pc0_0 b_0 coding_1 0 w59 (fun k => X0 k ∨ X0 k ∨ X0 k) (fun k hk => (hk).elim (fun h => (fun k (hk : X0 k) => ltl (hX0 k hk) hB69.size) k h) (fun h => (h).elim (fun h => (fun k (hk : X0 k) => ltl (hX0 k hk) hB69.size) k h) (fun h => (fun k (hk : X0 k) => ltl (hX0 k hk) hB69.size) k h))) ((hpa0_0.below hB69 hX0).wide (fun k hk => (.inl hk))) ((hG0.below hB69 hX0).wide (fun k hk => (.inr (.inl hk)))) ((hG1.below hB69 hX0).wide (fun k hk => (.inr (.inr hk)))) r63 hr64) ?_
   rintro v72 w70 ⟨hg71, rfl⟩
   refine gv_pureN 3 [47, 51, 52] [(51, (.string r63.1)), (52, (.agg #[(.int .i64 r63.2.1), (.int .i64 r63.2.2)]))] (by kernel_rfl) ?_
   refine gv_sub [5, 6, 7, 8, 51, 52] (σ' := [(5, (.string r28.1)), (6, (bp b33)), (7, (.string r43.1)), (8, (bp b53)), (51, (.string r63.1)), (52, (.agg #[(.int .i64 r63.2.1), (.int .i64 r63.2.2)]))]) (by kernel_rfl) ?_
   refine gv_new0 (fun b => .pointer (some ⟨b, 0, none⟩)) #[(.int .i64 0), (.int .i64 0)] 25 (by kernel_rfl) (by kernel_rfl) ?_
   intro b73 w74 hg75 hb76 hbe77 hz78
   refine gv_pureN 1 [9] [(9, (.string r63.1))] (by kernel_rfl) ?_
   refine gv_store0 25 0 (.agg #[(.int .i64 r63.2.1), (.int .i64 r63.2.2)]) #[(.int .i64 r63.2.1), (.int .i64 r63.2.2)] hb76 (by kernel_rfl) (by kernel_rfl) (by kernel_rfl) ?_
   intro w79 hg80 hb81 hz82
   refine gv_nil <| gv_seq <| gv_seq <| gv_region <| bindE h0 ?_; clear h0; intro j83 h1 h0
   refine gv_cut_ops (J := fun a w84 => Below w0.heap.size w0 w84 ∧ w79.heap.size ≤ w84.heap.size ∧ Box w84 b73 25 #[(.int .i64 r63.2.1), (.int .i64 r63.2.2)] ∧ a.defers = [] ∧ a.tmps.size = 136 ∧ Ok [(5, (.string r28.1)), (7, (.string r43.1)), (9, (.string r63.1)), (10, (bp b73)), (60, (.bool j83))] a.tmps) ?_ ?_
   ·skip
    refine gv_pureN 1 [53] [(53, (bp b33))] (by kernel_rfl) ?_
    have hk85 := hb41.grown hg51 nb
    have lt86 := ltl ((ltb hk85) _ rfl) ((lowb hbe57) _ rfl)
    have hg87 := (grown_trans hg71 hg75)
    have hk88 := hb61.grown hg71 nb
    have lt89 := ltl ((ltb hk88) _ rfl) ((lowb hbe77) _ rfl)
    have lt90 := ltt lt86 lt89
    have hk91 := (((hb41.grown hg65 nb).grown hg60 (rowne (ng lt86))).grown hg87 nb).grown hg80 (rowne (ng lt90))
    refine gv_load (t := 3) (A := ⟨b33, 0, none⟩) (.int .i64 r28.2.1) [] (fun e => by cases e) rfl rfl rfl (by kernel_rfl) (by kernel_rfl) (by kernel_rfl) (inw0 (hk91.cell 0 rfl)) rfl ?_
    refine gv_pureN 2 [55, 56] [(56, (.bool (r28.2.1 != 0)))] (by kernel_rfl) ?_
    refine gv_split (s := 56) (g := (r28.2.1 != 0)) (by kernel_rfl) (fun hc92 => ?_) (fun hc92 => ?_)
    ·skip
     replace h1 := ite_t hc92 h1
     refine gv_pureN 4 [57, 58, 59, 60] [(60, (.bool true))] (by kernel_rfl) ?_
     refine gv_nil ?_
     have e := sj h1; subst e
     refine gv_goal fun a hd hs hok => ?_
     have hB93 := bg hB69 hg87 nb
     have hB94 := bg hB69 hg71 nb
     have hlo95 : w0.heap.size ≤ b73 := lob hbe77 hB94.size
     have hB96 := bg hB93 hg80 (rowlo hlo95)
     exact ⟨hB96, (Nat.le_refl _), hb81, hd, hs, ok_pick [5, 7, 9, 10, 60] hok (by kernel_rfl)⟩
    ·skip
     replace h1 := ite_f hc92 h1
     refine gv_pureN 1 [57] [(57, (bp b53))] (by kernel_rfl) ?_
     have hk97 := (hk88.grown hg75 nb).grown hg80 (rowne (ng lt89))
     refine gv_load (t := 3) (A := ⟨b53, 0, none⟩) (.int .i64 r43.2.1) [] (fun e => by cases e) rfl rfl rfl (by kernel_rfl) (by kernel_rfl) (by kernel_rfl) (inw0 (hk97.cell 0 rfl)) rfl ?_
     refine gv_pureN 2 [59, 60] [(60, (.bool (r43.2.1 != 0)))] (by kernel_rfl) ?_
     refine gv_nil ?_
     have e := sj h1; subst e
     refine gv_goal fun a hd hs hok => ?_
     have hB98 := bg hB69 hg87 nb
     have hB99 := bg hB69 hg71 nb
     have hlo100 : w0.heap.size ≤ b73 := lob hbe77 hB99.size
     have hB101 := bg hB98 hg80 (rowlo hlo100)
     exact ⟨hB101, (Nat.le_refl _), hb81, hd, hs, ok_pick [5, 7, 9, 10, 60] hok (by kernel_rfl)⟩
   ·rintro a w84 ⟨hB102, hz103, hb104, hd, hs, hok⟩
    refine gv_in ?_ hd hs hok
    clear hd hs hok
    clear hz103 hz82 hb81 hg80 hz78 hb76 hg75 hlo68 hB67 hB66 hg65 hr64 hb61 hg60 hbe57 hg55 hg51 hB49 hlo48 hb41
    refine gv_cond (b := j83) (by kernel_rfl) (fun hc105 => ?_) (fun hc105 => ?_)
    ·replace h0 := ite_t hc105 h0
     refine gv_seq <| gv_region <| gv_pureN 1 [4] [(4, (.bool false))] (by kernel_rfl) ?_
     refine gv_nil <| gv_cret ?_
     have e := sj h0; subst e
     refine gv_ret (gv_done [(.bool false)] rfl ⟨(by kernel_rfl), trivial⟩ ?_)
     exact ⟨grown_of_below hB102, rfl⟩
    ·replace h0 := ite_f hc105 h0
     refine gv_skip <| gv_seq <| gv_seq <| gv_region <| gv_pureN 1 [61] [(61, (bp b73))] (by kernel_rfl) ?_
     refine gv_load (t := 3) (A := ⟨b73, 0, none⟩) (.int .i64 r63.2.1) [] (fun e => by cases e) rfl rfl rfl (by kernel_rfl) (by kernel_rfl) (by kernel_rfl) (inw0 (hb104.cell 0 rfl)) rfl ?_
     refine gv_pureN 1 [63] [(63, (.bool (r63.2.1 == 0)))] (by kernel_rfl) ?_
     refine gv_nil <| gv_cond (b := (r63.2.1 == 0)) (by kernel_rfl) (fun hc106 => ?_) (fun hc106 => ?_)
     ·replace h0 := ite_t hc106 h0
      refine gv_seq <| gv_region <| gv_cut_ops (J := fun a w107 => w84 = w107 ∧ a.defers = [] ∧ a.tmps.size = 136 ∧ Ok [(4, (.bool ((r28.1.toList == r63.1.toList) && (r43.1.toList == r63.1.toList))))] a.tmps) ?_ ?_
      ·skip
       refine gv_pureN 4 [64, 65, 66, 67] [(67, (.bool (r28.1.toList == r63.1.toList)))] (by kernel_rfl) ?_
       refine gv_split (s := 67) (g := (r28.1.toList == r63.1.toList)) (by kernel_rfl) (fun hc108 => ?_) (fun hc108 => ?_)
       ·skip
        refine gv_pureN 5 [4, 68, 69, 70, 71] [(4, (.bool (r43.1.toList == r63.1.toList)))] (by kernel_rfl) ?_
        refine gv_nil <| gv_sub [4] (σ' := [(4, (.bool (r43.1.toList == r63.1.toList)))]) (by kernel_rfl) ?_
        refine gv_goal fun a hd hs hok => ⟨rfl, hd, hs, ?_⟩
        obtain ⟨q4, _⟩ := hok
        exact ⟨(by rw [hc108]; exact q4), trivial⟩
       ·skip
        refine gv_pureN 5 [4, 68, 69, 70, 71] [(4, (.bool false))] (by kernel_rfl) ?_
        refine gv_nil <| gv_sub [4] (σ' := [(4, (.bool false))]) (by kernel_rfl) ?_
        refine gv_goal fun a hd hs hok => ⟨rfl, hd, hs, ?_⟩
        obtain ⟨q4, _⟩ := hok
        exact ⟨(by rw [hc108]; exact q4), trivial⟩
      ·rintro a w107 ⟨e, hd, hs, hok⟩; subst e
       refine gv_in ?_ hd hs hok
       clear hd hs hok
       refine gv_cret ?_
       have e := sj h0; subst e
       refine gv_ret (gv_done [(.bool ((r28.1.toList == r63.1.toList) && (r43.1.toList == r63.1.toList)))] rfl ⟨(by kernel_rfl), trivial⟩ ?_)
       exact ⟨grown_of_below hB102, rfl⟩
     ·replace h0 := ite_f hc106 h0
      refine gv_skip <| gv_seq <| gv_region <| gv_pureN 1 [73] [(73, (.string r28.1))] (by kernel_rfl) ?_
      refine bindE h0 ?_; clear h0; intro r109 hr110 h0
      refine gv_call0 (by kernel_rfl) rfl (by kernel_rfl) enters30 (textstr_Replace_ok fuel r28.1 (strOf [239, 191, 189]) (strOf []) (-1) w84 (fun k => X0 k ∨ X0 k ∨ X0 k) (fun k hk => (hk).elim (fun h => (fun k (hk : X0 k) => ltl (hX0 k hk) hB102.size) k h) (fun h => (h).elim (fun h => (fun k (hk : X0 k) => ltl (hX0 k hk) hB102.size) k h) (fun h => (fun k (hk : X0 k) => ltl (hX0 k hk) hB102.size) k h))) ((hG0.below hB102 hX0).wide (fun k hk => (.inl hk))) ((hG1.below hB102 hX0).wide (fun k hk => (.inr (.inl hk)))) ((hG2.below hB102 hX0).wide (fun k hk => (.inr (.inr hk)))) r109 hr110) ?_
      rintro v113 w111 ⟨hg112, rfl⟩
      refine gv_pureN 3 [72, 75, 76] [(75, (.string r109.1)), (76, (.agg #[(.int .i64 r109.2.1), (.int .i64 r109.2.2)]))] (by kernel_rfl) ?_
      refine gv_new0 (fun b => .pointer (some ⟨b, 0, none⟩)) #[(.int .i64 0), (.int .i64 0)] 25 (by kernel_rfl) (by kernel_rfl) ?_
      intro b114 w115 hg116 hb117 hbe118 hz119
      refine gv_pureN 1 [11] [(11, (.string r109.1))] (by kernel_rfl) ?_
      refine gv_store0 25 0 (.agg #[(.int .i64 r109.2.1), (.int .i64 r109.2.2)]) #[(.int .i64 r109.2.1), (.int .i64 r109.2.2)] hb117 (by kernel_rfl) (by kernel_rfl) (by kernel_rfl) ?_
      intro w120 hg121 hb122 hz123
      refine gv_nil <| gv_seq <| gv_region <| gv_pureN 1 [78] [(78, (.string r43.1))] (by kernel_rfl) ?_
      refine bindE h0 ?_; clear h0; intro r124 hr125 h0
      have hg126 := (grown_trans hg112 hg116)
      have hB127 := bg hB102 hg126 nb
      have hB128 := bg hB102 hg112 nb
      have hlo129 : w0.heap.size ≤ b114 := lob hbe118 hB128.size
      have hB130 := bg hB127 hg121 (rowlo hlo129)
      refine gv_call0 (by kernel_rfl) rfl (by kernel_rfl) enters30 (textstr_Replace_ok fuel r43.1 (strOf [239, 191, 189]) (strOf []) (-1) w120 (fun k => X0 k ∨ X0 k ∨ X0 k) (fun k hk => (hk).elim (fun h => (fun k (hk : X0 k) => ltl (hX0 k hk) hB130.size) k h) (fun h => (h).elim (fun h => (fun k (hk : X0 k) => ltl (hX0 k hk) hB130.size) k h) (fun h => (fun k (hk : X0 k) => ltl (hX0 k hk) hB130.size) k h))) ((hG0.below hB130 hX0).wide (fun k hk => (.inl hk))) ((hG1.below hB130 hX0).wide (fun k hk => (.inr (.inl hk)))) ((hG2.below hB130 hX0).wide (fun k hk => (.inr (.inr hk)))) r124 hr125) ?_
      rintro v133 w131 ⟨hg132, rfl⟩
      refine gv_pureN 3 [77, 80, 81] [(80, (.string r124.1)), (81, (.agg #[(.int .i64 r124.2.1), (.int .i64 r124.2.2)]))] (by kernel_rfl) ?_
      refine gv_new0 (fun b => .pointer (some ⟨b, 0, none⟩)) #[(.int .i64 0), (.int .i64 0)] 25 (by kernel_rfl) (by kernel_rfl) ?_
      intro b134 w135 hg136 hb137 hbe138 hz139
      clear hz139 hB128 hB127 hg126 hr125 hz123 hz119 hb117 hr110 hc106 hc105 hB102
      refine gv_pureN 1 [13] [(13, (.string r124.1))] (by kernel_rfl) ?_
      refine gv_sub [5, 7, 9, 10, 11, 12, 13, 14, 81] (σ' := [(5, (.string r28.1)), (7, (.string r43.1)), (9, (.string r63.1)), (10, (bp b73)), (11, (.string r109.1)), (12, (bp b114)), (13, (.string r124.1)), (14, (bp b134)), (81, (.agg #[(.int .i64 r124.2.1), (.int .i64 r124.2.2)]))]) (by kernel_rfl) ?_
      refine gv_store0 25 0 (.agg #[(.int .i64 r124.2.1), (.int .i64 r124.2.2)]) #[(.int .i64 r124.2.1), (.int .i64 r124.2.2)] hb137 (by kernel_rfl) (by kernel_rfl) (by kernel_rfl) ?_
      intro w140 hg141 hb142 hz143
      refine gv_nil <| gv_seq <| gv_region <| gv_pureN 1 [83] [(83, (.string r28.1))] (by kernel_rfl) ?_
      refine bindE h0 ?_; clear h0; intro r144 hr145 h0
      have hg146 := (grown_trans hg132 hg136)
      have hB147 := bg hB130 hg146 nb
      have hB148 := bg hB130 hg132 nb
      have hlo149 : w0.heap.size ≤ b134 := lob hbe138 hB148.size
      have hB150 := bg hB147 hg141 (rowlo hlo149)
      refine gv_call0 (by kernel_rfl) rfl (by kernel_rfl) enters22 (bytestr_Encode_ok fuel r28.1 0 w140 (fun k => X0 k ∨ X0 k) (fun k hk => (hk).elim (fun h => (fun k (hk : X0 k) => ltl (hX0 k hk) hB150.size) k h) (fun h => (fun k (hk : X0 k) => ltl (hX0 k hk) hB150.size) k h)) ((hG0.below hB150 hX0).wide (fun k hk => (.inl hk))) ((hG1.below hB150 hX0).wide (fun k hk => (.inr hk))) r144 hr145) ?_
      rintro v153 w151 ⟨hg152, a154, c155, X157, rfl, ho156, hx158⟩
      have hx159 : ∀ k, X157 k → k < w151.heap.size := fun k hk => (hx158 k hk).1
      have hx160 : ∀ k, X157 k → X0 k ∨ w0.heap.size ≤ k := fun k hk => (hx158 k hk).2.elim (fun h => (h).elim (fun h => (fun k (hk : X0 k) => Or.inl hk) k h) (fun h => (fun k (hk : X0 k) => Or.inl hk) k h)) (fun h => .inr (Nat.le_trans hB150.size h))
      refine gv_pureN 3 [82, 85, 86] [(85, (.slice a154 (List.length r144.1) c155)), (86, (.agg #[(.int .i64 r144.2.1), (.int .i64 r144.2.2)]))] (by kernel_rfl) ?_
      refine gv_new0 (fun b => .pointer (some ⟨b, 0, none⟩)) #[(.int .i64 0), (.int .i64 0)] 25 (by kernel_rfl) (by kernel_rfl) ?_
      intro b161 w162 hg163 hb164 hbe165 hz166
      refine gv_pureN 1 [15] [(15, (.slice a154 (List.length r144.1) c155))] (by kernel_rfl) ?_
      refine gv_store0 25 0 (.agg #[(.int .i64 r144.2.1), (.int .i64 r144.2.2)]) #[(.int .i64 r144.2.1), (.int .i64 r144.2.2)] hb164 (by kernel_rfl) (by kernel_rfl) (by kernel_rfl) ?_
      intro w167 hg168 hb169 hz170
      refine gv_nil <| gv_seq <| gv_region <| gv_pureN 1 [88] [(88, (.slice a154 (List.length r144.1) c155))] (by kernel_rfl) ?_
      refine bindE h0 ?_; clear h0; intro r171 hr172 h0
      have hx173 := ltx (ltx hx159 hg163.size) hg168.size
      have hg174 := (grown_trans hg152 hg163)
      have hB175 := bg hB150 hg174 nb
      have hB176 := bg hB150 hg152 nb
      have hlo177 : w0.heap.size ≤ b161 := lob hbe165 hB176.size
      have hB178 := bg hB175 hg168 (rowlo hlo177)
      have ap179 : ¬ X157 b161 := fun hx => nl ((lowb hbe165) _ rfl) (hx159 _ hx)
      have hx180 := ltx hx159 hg163.size
      have hk181 := (ho156.grown hg163 hx159 nb).grown hg168 hx180 (rowne ap179)
      refine gv_call0 (by kernel_rfl) rfl (by kernel_rfl) enters23 (bytestr_Decode_ok fuel a154 c155 r144.1 0 0 w167 (fun k => X157 k ∨ X0 k ∨ X0 k) (fun k hk => (hk).elim (fun h => hx173 k h) (fun h => (h).elim (fun h => (fun k (hk : X0 k) => ltl (hX0 k hk) hB178.size) k h) (fun h => (fun k (hk : X0 k) => ltl (hX0 k hk) hB178.size) k h))) (hk181.wide (fun k hk => (.inl hk))) ((hG0.below hB178 hX0).wide (fun k hk => (.inr (.inl hk)))) ((hG1.below hB178 hX0).wide (fun k hk => (.inr (.inr hk)))) r171 hr172) ?_
      rintro v184 w182 ⟨hg183, rfl⟩
      refine gv_pureN 3 [87, 90, 91] [(90, (.string r171.1)), (91, (.agg #[(.int .i64 r171.2.1), (.int .i64 r171.2.2)]))] (by kernel_rfl) ?_
      refine gv_new0 (fun b => .pointer (some ⟨b, 0, none⟩)) #[(.int .i64 0), (.int .i64 0)] 25 (by kernel_rfl) (by kernel_rfl) ?_
      intro b185 w186 hg187 hb188 hbe189 hz190
      refine gv_pureN 1 [17] [(17, (.string r171.1))] (by kernel_rfl) ?_
      refine gv_store0 25 0 (.agg #[(.int .i64 r171.2.1), (.int .i64 r171.2.2)]) #[(.int .i64 r171.2.1), (.int .i64 r171.2.2)] hb188 (by kernel_rfl) (by kernel_rfl) (by kernel_rfl) ?_
      intro w191 hg192 hb193 hz194
      refine gv_nil <| gv_seq <| gv_region <| bindE h0 ?_; clear h0; intro j195 h1 h0
      refine gv_cut_ops (J := fun a w196 => Below w0.heap.size w0 w196 ∧ w191.heap.size ≤ w196.heap.size ∧ a.defers = [] ∧ a.tmps.size = 136 ∧ Ok [(4, (.bool j195))] a.tmps) ?_ ?_
      ·skip
       refine gv_pureN 3 [92, 93, 94] [(94, (.bool (r63.1.toList == (strOf []).toList)))] (by kernel_rfl) ?_
       refine gv_sub [5, 7, 10, 11, 12, 13, 14, 16, 17, 18, 94] (σ' := [(5, (.string r28.1)), (7, (.string r43.1)), (10, (bp b73)), (11, (.string r109.1)), (12, (bp b114)), (13, (.string r124.1)), (14, (bp b134)), (16, (bp b161)), (17, (.string r171.1)), (18, (bp b185)), (94, (.bool (r63.1.toList == (strOf []).toList)))]) (by kernel_rfl) ?_
       refine gv_split (s := 94) (g := (r63.1.toList == (strOf []).toList)) (by kernel_rfl) (fun hc197 => ?_) (fun hc197 => ?_)
       ·skip
        replace h1 := ite_t hc197 h1
        refine gv_pureN 1 [95] [(95, (bp b73))] (by kernel_rfl) ?_
        have hg198 := (grown_trans hg112 hg116)
        have hk199 := hb104.grown hg112 nb
        have lt200 := ltl ((ltb hk199) _ rfl) ((lowb hbe118) _ rfl)
        have hk201 := hb122.grown hg132 nb
        have lt202 := ltl ((ltb hk201) _ rfl) ((lowb hbe138) _ rfl)
        have lt203 := ltt lt200 lt202
        have hk204 := hb142.grown hg152 nb
        have lt205 := ltl ((ltb hk204) _ rfl) ((lowb hbe165) _ rfl)
        have lt206 := ltt lt203 lt205
        have hg207 := (grown_trans hg183 hg187)
        have hk208 := hb169.grown hg183 nb
        have lt209 := ltl ((ltb hk208) _ rfl) ((lowb hbe189) _ rfl)
        have lt210 := ltt lt206 lt209
        have hk211 := (((((((hb104.grown hg198 nb).grown hg121 (rowne (ng lt200))).grown hg146 nb).grown hg141 (rowne (ng lt203))).grown hg174 nb).grown hg168 (rowne (ng lt206))).grown hg207 nb).grown hg192 (rowne (ng lt210))
        refine gv_load (t := 3) (A := ⟨b73, 0, none⟩) (.int .i64 r63.2.1) [] (fun e => by cases e) rfl rfl rfl (by kernel_rfl) (by kernel_rfl) (by kernel_rfl) (inw0 (hk211.cell 0 rfl)) rfl ?_
        refine gv_pureN 3 [97, 98, 99] [(99, (.bool (r63.2.1 == 16)))] (by kernel_rfl) ?_
        refine gv_split (s := 99) (g := (r63.2.1 == 16)) (by kernel_rfl) (fun hc212 => ?_) (fun hc212 => ?_)
        ·skip
         replace h1 := ite_t hc212 h1
         refine gv_pureN 1 [100] [(100, (bp b114))] (by kernel_rfl) ?_
         have lt213 := ltt lt202 lt205
         have lt214 := ltt lt213 lt209
         have hk215 := (((((hk201.grown hg136 nb).grown hg141 (rowne (ng lt202))).grown hg174 nb).grown hg168 (rowne (ng lt213))).grown hg207 nb).grown hg192 (rowne (ng lt214))
         refine gv_load (t := 3) (A := ⟨b114, 0, none⟩) (.int .i64 r109.2.1) [] (fun e => by cases e) rfl rfl rfl (by kernel_rfl) (by kernel_rfl) (by kernel_rfl) (inw0 (hk215.cell 0 rfl)) rfl ?_
         refine gv_pureN 3 [102, 103, 104] [(104, (.bool (r109.2.1 == 0)))] (by kernel_rfl) ?_
         refine gv_split (s := 104) (g := (r109.2.1 == 0)) (by kernel_rfl) (fun hc216 => ?_) (fun hc216 => ?_)
         ·skip
          replace h1 := ite_t hc216 h1
          refine gv_pureN 1 [105] [(105, (bp b134))] (by kernel_rfl) ?_
          have lt217 := ltt lt205 lt209
          have hk218 := (((hk204.grown hg163 nb).grown hg168 (rowne (ng lt205))).grown hg207 nb).grown hg192 (rowne (ng lt217))
          refine gv_load (t := 3) (A := ⟨b134, 0, none⟩) (.int .i64 r124.2.1) [] (fun e => by cases e) rfl rfl rfl (by kernel_rfl) (by kernel_rfl) (by kernel_rfl) (inw0 (hk218.cell 0 rfl)) rfl ?_
          refine gv_pureN 3 [107, 108, 109] [(109, (.bool (r124.2.1 == 0)))] (by kernel_rfl) ?_
          refine gv_split (s := 109) (g := (r124.2.1 == 0)) (by kernel_rfl) (fun hc219 => ?_) (fun hc219 => ?_)
          ·skip
           replace h1 := ite_t hc219 h1
           refine gv_pureN 1 [110] [(110, (bp b161))] (by kernel_rfl) ?_
           have hk220 := (hk208.grown hg187 nb).grown hg192 (rowne (ng lt209))
           refine gv_load (t := 3) (A := ⟨b161, 0, none⟩) (.int .i64 r144.2.1) [] (fun e => by cases e) rfl rfl rfl (by kernel_rfl) (by kernel_rfl) (by kernel_rfl) (inw0 (hk220.cell 0 rfl)) rfl ?_
           refine gv_pureN 3 [112, 113, 114] [(114, (.bool (r144.2.1 == 0)))] (by kernel_rfl) ?_
           refine gv_split (s := 114) (g := (r144.2.1 == 0)) (by kernel_rfl) (fun hc221 => ?_) (fun hc221 => ?_)
           ·skip
            replace h1 := ite_t hc221 h1
            refine gv_pureN 1 [115] [(115, (bp b185))] (by kernel_rfl) ?_
            refine gv_load (t := 3) (A := ⟨b185, 0, none⟩) (.int .i64 r171.2.1) [] (fun e => by cases e) rfl rfl rfl (by kernel_rfl) (by kernel_rfl) (by kernel_rfl) (inw0 (hb193.cell 0 rfl)) rfl ?_
            refine gv_pureN 3 [117, 118, 119] [(119, (.bool (r171.2.1 == 0)))] (by kernel_rfl) ?_
            refine gv_sub [5, 7, 11, 13, 17, 119] (σ' := [(5, (.string r28.1)), (7, (.string r43.1)), (11, (.string r109.1)), (13, (.string r124.1)), (17, (.string r171.1)), (119, (.bool (r171.2.1 == 0)))]) (by kernel_rfl) ?_
            refine gv_split (s := 119) (g := (r171.2.1 == 0)) (by kernel_rfl) (fun hc222 => ?_) (fun hc222 => ?_)
            ·skip
             replace h1 := ite_t hc222 h1
             refine gv_pureN 5 [120, 121, 122, 123, 124] [(124, (.bool (r109.1.toList == r124.1.toList)))] (by kernel_rfl) ?_
             refine gv_split (s := 124) (g := (r109.1.toList == r124.1.toList)) (by kernel_rfl) (fun hc223 => ?_) (fun hc223 => ?_)
             ·skip
              replace h1 := ite_t hc223 h1
              refine gv_pureN 5 [125, 126, 127, 128, 129] [(129, (.bool (r171.1.toList == r28.1.toList)))] (by kernel_rfl) ?_
              refine gv_split (s := 129) (g := (r171.1.toList == r28.1.toList)) (by kernel_rfl) (fun hc224 => ?_) (fun hc224 => ?_)
              ·skip
               replace h1 := ite_t hc224 h1
               refine gv_pureN 7 [4, 130, 131, 132, 133, 134, 135] [(4, (.bool (decide (((ByteArray.size r28.1 : Nat) : Int) > ((ByteArray.size r43.1 : Nat) : Int)))))] (by kernel_rfl) ?_
               refine bindE h1 ?_; clear h1; intro n225 hn226 h1
               refine gv_name (s := 4) (v := (.bool (decide (((ByteArray.size r28.1 : Nat) : Int) > ((ByteArray.size r43.1 : Nat) : Int))))) (v' := (.bool n225)) (by kernel_rfl) (congrArg (Value.bool) (sj hn226)) ?_
               refine gv_nil ?_
               have e := sj h1; subst e
               refine gv_goal fun a hd hs hok => ?_
               have hB227 := bg hB178 hg207 nb
               have hB228 := bg hB178 hg183 nb
               have hlo229 : w0.heap.size ≤ b185 := lob hbe189 hB228.size
               have hB230 := bg hB227 hg192 (rowlo hlo229)
               exact ⟨hB230, (Nat.le_refl _), hd, hs, ok_pick [4] hok (by kernel_rfl)⟩
              ·skip
               replace h1 := ite_f hc224 h1
               refine gv_pureN 7 [4, 130, 131, 132, 133, 134, 135] [(4, (.bool false))] (by kernel_rfl) ?_
               refine gv_nil ?_
               have e := sj h1; subst e
               refine gv_goal fun a hd hs hok => ?_
               have hB231 := bg hB178 hg207 nb
               have hB232 := bg hB178 hg183 nb
               have hlo233 : w0.heap.size ≤ b185 := lob hbe189 hB232.size
               have hB234 := bg hB231 hg192 (rowlo hlo233)
               exact ⟨hB234, (Nat.le_refl _), hd, hs, ok_pick [4] hok (by kernel_rfl)⟩
             ·skip
              replace h1 := ite_f hc223 h1
              refine gv_pureN 12 [4, 125, 126, 127, 128, 129, 130, 131, 132, 133, 134, 135] [(4, (.bool false))] (by kernel_rfl) ?_
              refine gv_nil ?_
              have e := sj h1; subst e
              refine gv_goal fun a hd hs hok => ?_
              have hB235 := bg hB178 hg207 nb
              have hB236 := bg hB178 hg183 nb
              have hlo237 : w0.heap.size ≤ b185 := lob hbe189 hB236.size
              have hB238 := bg hB235 hg192 (rowlo hlo237)
              exact ⟨hB238, (Nat.le_refl _), hd, hs, ok_pick [4] hok (by kernel_rfl)⟩
            ·skip
             replace h1 := ite_f hc222 h1
             refine gv_pureN 17 [4, 120, 121, 122, 123, 124, 125, 126, 127, 128, 129, 130, 131, 132, 133, 134, 135] [(4, (.bool false))] (by kernel_rfl) ?_
             refine gv_nil ?_
             have e := sj h1; subst e
             refine gv_goal fun a hd hs hok => ?_
             have hB239 := bg hB178 hg207 nb
             have hB240 := bg hB178 hg183 nb
             have hlo241 : w0.heap.size ≤ b185 := lob hbe189 hB240.size
             have hB242 := bg hB239 hg192 (rowlo hlo241)
             exact ⟨hB242, (Nat.le_refl _), hd, hs, ok_pick [4] hok (by kernel_rfl)⟩
           ·skip
            replace h1 := ite_f hc221 h1
            refine gv_pureN 22 [4, 115, 116, 117, 118, 119, 120, 121, 122, 123, 124, 125, 126, 127, 128, 129, 130, 131, 132, 133, 134, 135] [(4, (.bool false))] (by kernel_rfl) ?_
            refine gv_nil ?_
            have e := sj h1; subst e
            refine gv_goal fun a hd hs hok => ?_
            have hB243 := bg hB178 hg207 nb
            have hB244 := bg hB178 hg183 nb
            have hlo245 : w0.heap.size ≤ b185 := lob hbe189 hB244.size
            have hB246 := bg hB243 hg192 (rowlo hlo245)
            exact ⟨hB246, (Nat.le_refl _), hd, hs, ok_pick [4] hok (by kernel_rfl)⟩
          ·skip
           replace h1 := ite_f hc219 h1
           refine gv_pureN 27 [4, 110, 111, 112, 113, 114, 115, 116, 117, 118, 119, 120, 121, 122, 123, 124, 125, 126, 127, 128, 129, 130, 131, 132, 133, 134, 135] [(4, (.bool false))] (by kernel_rfl) ?_
           refine gv_nil ?_
           have e := sj h1; subst e
           refine gv_goal fun a hd hs hok => ?_
           have hB247 := bg hB178 hg207 nb
           have hB248 := bg hB178 hg183 nb
           have hlo249 : w0.heap.size ≤ b185 := lob hbe189 hB248.size
           have hB250 := bg hB247 hg192 (rowlo hlo249)
           exact ⟨hB250, (Nat.le_refl _), hd, hs, ok_pick [4] hok (by kernel_rfl)⟩
         ·skip
          replace h1 := ite_f hc216 h1
          refine gv_pureN 32 [4, 105, 106, 107, 108, 109, 110, 111, 112, 113, 114, 115, 116, 117, 118, 119, 120, 121, 122, 123, 124, 125, 126, 127, 128, 129, 130, 131, 132, 133, 134, 135] [(4, (.bool false))] (by kernel_rfl) ?_
          refine gv_nil ?_
          have e := sj h1; subst e
          refine gv_goal fun a hd hs hok => ?_
          have hB251 := bg hB178 hg207 nb
          have hB252 := bg hB178 hg183 nb
          have hlo253 : w0.heap.size ≤ b185 := lob hbe189 hB252.size
          have hB254 := bg hB251 hg192 (rowlo hlo253)
          exact ⟨hB254, (Nat.le_refl _), hd, hs, ok_pick [4] hok (by kernel_rfl)⟩
        ·skip
         replace h1 := ite_f hc212 h1
         refine gv_pureN 37 [4, 100, 101, 102, 103, 104, 105, 106, 107, 108, 109, 110, 111, 112, 113, 114, 115, 116, 117, 118, 119, 120, 121, 122, 123, 124, 125, 126, 127, 128, 129, 130, 131, 132, 133, 134, 135] [(4, (.bool false))] (by kernel_rfl) ?_
         refine gv_nil ?_
         have e := sj h1; subst e
         refine gv_goal fun a hd hs hok => ?_
         have hB255 := bg hB178 hg207 nb
         have hB256 := bg hB178 hg183 nb
         have hlo257 : w0.heap.size ≤ b185 := lob hbe189 hB256.size
         have hB258 := bg hB255 hg192 (rowlo hlo257)
         exact ⟨hB258, (Nat.le_refl _), hd, hs, ok_pick [4] hok (by kernel_rfl)⟩
       ·skip
        replace h1 := ite_f hc197 h1
        refine gv_pureN 42 [4, 95, 96, 97, 98, 99, 100, 101, 102, 103, 104, 105, 106, 107, 108, 109, 110, 111, 112, 113, 114, 115, 116, 117, 118, 119, 120, 121, 122, 123, 124, 125, 126, 127, 128, 129, 130, 131, 132, 133, 134, 135] [(4, (.bool false))] (by kernel_rfl) ?_
        refine gv_nil ?_
        have e := sj h1; subst e
        refine gv_goal fun a hd hs hok => ?_
        have hg259 := (grown_trans hg183 hg187)
        have hB260 := bg hB178 hg259 nb
        have hB261 := bg hB178 hg183 nb
        have hlo262 : w0.heap.size ≤ b185 := lob hbe189 hB261.size
        have hB263 := bg hB260 hg192 (rowlo hlo262)
        exact ⟨hB263, (Nat.le_refl _), hd, hs, ok_pick [4] hok (by kernel_rfl)⟩
      ·rintro a w196 ⟨hB264, hz265, hd, hs, hok⟩
       refine gv_in ?_ hd hs hok
       clear hd hs hok
       clear hz265 hz194 hb193 hg192 hz190 hbe189 hb188 hg187 hg183 hk181 hx180 ap179 hB178 hlo177 hB176 hB175 hg174 hx173 hr172 hz170 hb169 hg168 hz166 hbe165 hb164 hg163 hx160 hx159 hx158 ho156 hg152 hB150 hlo149 hB148 hB147 hg146 hr145 hz143 hb142 hg141 hbe138 hb137 hg136 hg132 hB130 hlo129 hb122 hg121 hbe118 hg116 hg112 hb104 hbe77 hg71 hB69
       refine gv_cret ?_
       have e := sj h0; subst e
       refine gv_ret (gv_done [(.bool j195)] rfl ⟨(by kernel_rfl), trivial⟩ ?_)
       exact ⟨grown_of_below hB264, rfl⟩

end Go.Proofs.YtlclmpegnkomcaaDoor
