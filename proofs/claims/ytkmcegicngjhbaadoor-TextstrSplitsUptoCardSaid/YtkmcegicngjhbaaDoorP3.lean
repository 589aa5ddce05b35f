import Derived.Test.YtkmcegicngjhbaaDoorP2
set_option linter.all false
set_option maxHeartbeats 4000000
set_option maxRecDepth 100000
/- Own work, printed by a program of mine: the walk of each function: a call returns what the plain function says. -/
namespace Go.Proofs.YtkmcegicngjhbaaDoor
open Go.Gv Go.Gv.D Go.RowKit
theorem law4_TextstrSplits_ok (fuel : Nat) (s_0 : ByteArray) (sep_1 : ByteArray) (most_2 : Int) (w0 : World) (X0 : Nat → Prop) (hX0 : ∀ k, X0 k → k < w0.heap.size) {gmx : Int} (hG0 : Rd (iE .i64) w0 X0 (some ⟨0, 0, none⟩) 1 [gmx]) (hG1 : Rd bE w0 X0 (some ⟨1, 0, none⟩) 256 utf8First) (hG2 : Rd (prE (iE .u8) (iE .u8)) w0 X0 (some ⟨2, 0, none⟩) 16 utf8Acc) (r0 : Bool) (h0 : law4_TextstrSplits fuel s_0 sep_1 most_2 = some r0) :
    Calls Tryd.prog 11 ([(.string s_0), (.string sep_1), (.int .i64 most_2)] : List Value).toArray w0 (Ret fun v w' => w0.grownBy w' none ∧ v = tup [(.bool r0)]) := by
 have hB0 : Below w0.heap.size w0 w0 := Below.refl _ _
 unfold law4_TextstrSplits at h0
 refine calls_run Tryd.func11 rfl Tryd.ntmps11 (by kernel_rfl) ?_
 refine gv_sub [0, 1, 2] (σ' := [(0, (.string s_0)), (1, (.string sep_1)), (2, (.int .i64 most_2))]) (by kernel_rfl) ?_
 refine gv_seq <| gv_region <| gv_pureN 1 [6] [] (by kernel_rfl) ?_
 refine gv_nil <| gv_seq <| gv_region <| gv_pureN 3 [22, 23, 24] [(22, (.string s_0)), (23, (.string sep_1)), (24, (.int .i64 most_2))] (by kernel_rfl) ?_
 refine bindE h0 ?_; clear h0; intro r1 hr2 h0
 refine gv_call0 (by kernel_rfl) rfl (by kernel_rfl) enters46 (textstr_Split_ok fuel s_0 sep_1 most_2 w0 (fun k => X0 k ∨ X0 k ∨ X0 k) (fun k hk => (hk).elim (fun h => (fun k (hk : X0 k) => ltl (hX0 k hk) hB0.size) k h) (fun h => (h).elim (fun h => (fun k (hk : X0 k) => ltl (hX0 k hk) hB0.size) k h) (fun h => (fun k (hk : X0 k) => ltl (hX0 k hk) hB0.size) k h))) ((hG0.below hB0 hX0).wide (fun k hk => (.inl hk))) ((hG1.below hB0 hX0).wide (fun k hk => (.inr (.inl hk)))) ((hG2.below hB0 hX0).wide (fun k hk => (.inr (.inr hk)))) r1 hr2) ?_
 rintro v5 w3 ⟨hg4, a6, c7, X9, rfl, ho8, hx10⟩
 have hx11 : ∀ k, X9 k → k < w3.heap.size := fun k hk => (hx10 k hk).1
 have hx12 : ∀ k, X9 k → X0 k ∨ w0.heap.size ≤ k := fun k hk => (hx10 k hk).2.elim (fun h => (h).elim (fun h => (fun k (hk : X0 k) => Or.inl hk) k h) (fun h => (h).elim (fun h => (fun k (hk : X0 k) => Or.inl hk) k h) (fun h => (fun k (hk : X0 k) => Or.inl hk) k h))) (fun h => .inr (Nat.le_trans hB0.size h))
 refine gv_pureN 3 [21, 26, 27] [(26, (.slice a6 (List.length r1.1) c7)), (27, (.agg #[(.int .i64 r1.2.1), (.int .i64 r1.2.2)]))] (by kernel_rfl) ?_
 refine gv_new0 (fun b => .pointer (some ⟨b, 0, none⟩)) #[(.int .i64 0), (.int .i64 0)] 24 (by kernel_rfl) (by kernel_rfl) ?_
 intro b13 w14 hg15 hb16 hbe17 hz18
 refine gv_pureN 1 [7] [(7, (.slice a6 (List.length r1.1) c7))] (by kernel_rfl) ?_
 refine gv_store0 24 0 (.agg #[(.int .i64 r1.2.1), (.int .i64 r1.2.2)]) #[(.int .i64 r1.2.1), (.int .i64 r1.2.2)] hb16 (by kernel_rfl) (by kernel_rfl) (by kernel_rfl) ?_
 intro w19 hg20 hb21 hz22
 refine gv_nil <| gv_seq <| gv_region <| gv_pureN 3 [29, 30, 31] [(29, (.string s_0)), (30, (.string sep_1)), (31, (.int .i64 most_2))] (by kernel_rfl) ?_
 refine bindE h0 ?_; clear h0; intro r23 hr24 h0
 have hg25 := (grown_trans hg4 hg15)
 have hB26 := bg hB0 hg25 nb
 have hB27 := bg hB0 hg4 nb
 have hlo28 : w0.heap.size ≤ b13 := lob hbe17 hB27.size
 have hB29 := bg hB26 hg20 (rowlo hlo28)
 refine gv_call0 (by kernel_rfl) rfl (by kernel_rfl) enters47 (textstr_SplitLast_ok fuel s_0 sep_1 most_2 w19 (fun k => X0 k ∨ X0 k) (fun k hk => (hk).elim (fun h => (fun k (hk : X0 k) => ltl (hX0 k hk) hB29.size) k h) (fun h => (fun k (hk : X0 k) => ltl (hX0 k hk) hB29.size) k h)) ((hG1.below hB29 hX0).wide (fun k hk => (.inl hk))) ((hG2.below hB29 hX0).wide (fun k hk => (.inr hk))) r23 hr24) ?_
 rintro v32 w30 ⟨hg31, a33, c34, X36, rfl, ho35, hx37⟩
 have hx38 : ∀ k, X36 k → k < w30.heap.size := fun k hk => (hx37 k hk).1
 have hx39 : ∀ k, X36 k → X0 k ∨ w0.heap.size ≤ k := fun k hk => (hx37 k hk).2.elim (fun h => (h).elim (fun h => (fun k (hk : X0 k) => Or.inl hk) k h) (fun h => (fun k (hk : X0 k) => Or.inl hk) k h)) (fun h => .inr (Nat.le_trans hB29.size h))
 refine gv_pureN 3 [28, 33, 34] [(33, (.slice a33 (List.length r23.1) c34)), (34, (.agg #[(.int .i64 r23.2.1), (.int .i64 r23.2.2)]))] (by kernel_rfl) ?_
 refine gv_new0 (fun b => .pointer (some ⟨b, 0, none⟩)) #[(.int .i64 0), (.int .i64 0)] 24 (by kernel_rfl) (by kernel_rfl) ?_
 intro b40 w41 hg42 hb43 hbe44 hz45
 refine gv_pureN 1 [9] [(9, (.slice a33 (List.length r23.1) c34))] (by kernel_rfl) ?_
 refine gv_store0 24 0 (.agg #[(.int .i64 r23.2.1), (.int .i64 r23.2.2)]) #[(.int .i64 r23.2.1), (.int .i64 r23.2.2)] hb43 (by kernel_rfl) (by kernel_rfl) (by kernel_rfl) ?_
 intro w46 hg47 hb48 hz49
 refine gv_nil <| gv_seq <| gv_region <| gv_pureN 1 [36] [(36, (.string s_0))] (by kernel_rfl) ?_
 refine gv_sub [0, 1, 2, 7, 8, 9, 10, 36] (σ' := [(0, (.string s_0)), (1, (.string sep_1)), (2, (.int .i64 most_2)), (7, (.slice a6 (List.length r1.1) c7)), (8, (bp b13)), (9, (.slice a33 (List.length r23.1) c34)), (10, (bp b40)), (36, (.string s_0))]) (by kernel_rfl) ?_
 refine bindE h0 ?_; clear h0; intro r50 hr51 h0
 have hg52 := (grown_trans hg31 hg42)
 have hB53 := bg hB29 hg52 nb
 have hB54 := bg hB29 hg31 nb
 have hlo55 : w0.heap.size ≤ b40 := lob hbe44 hB54.size
 have hB56 := bg hB53 hg47 (rowlo hlo55)
 refine gv_call0 (by kernel_rfl) rfl (by kernel_rfl) enters16 (textstr_Words_ok fuel s_0 w46 (fun k => X0 k ∨ X0 k) (fun k hk => (hk).elim (fun h => (fun k (hk : X0 k) => ltl (hX0 k hk) hB56.size) k h) (fun h => (fun k (hk : X0 k) => ltl (hX0 k hk) hB56.size) k h)) ((hG1.below hB56 hX0).wide (fun k hk => (.inl hk))) ((hG2.below hB56 hX0).wide (fun k hk => (.inr hk))) r50 hr51) ?_
 rintro v59 w57 ⟨hg58, a60, c61, X63, rfl, ho62, hx64⟩
 have hx65 : ∀ k, X63 k → k < w57.heap.size := fun k hk => (hx64 k hk).1
 have hx66 : ∀ k, X63 k → X0 k ∨ w0.heap.size ≤ k := fun k hk => (hx64 k hk).2.elim (fun h => (h).elim (fun h => (fun k (hk : X0 k) => Or.inl hk) k h) (fun h => (fun k (hk : X0 k) => Or.inl hk) k h)) (fun h => .inr (Nat.le_trans hB56.size h))
 refine gv_pureN 3 [35, 38, 39] [(38, (.slice a60 (List.length r50.1) c61)), (39, (.agg #[(.int .i64 r50.2.1), (.int .i64 r50.2.2)]))] (by kernel_rfl) ?_
 refine gv_new0 (fun b => .pointer (some ⟨b, 0, none⟩)) #[(.int .i64 0), (.int .i64 0)] 24 (by kernel_rfl) (by kernel_rfl) ?_
 intro b67 w68 hg69 hb70 hbe71 hz72
 clear hz72 hB54 hB53 hg52 hr51 hz49 hz45 hb43 hB29 hB27 hB26 hg25 hr24 hz22 hz18 hb16 hx10 hg4 hr2
 refine gv_pureN 1 [11] [(11, (.slice a60 (List.length r50.1) c61))] (by kernel_rfl) ?_
 refine gv_store0 24 0 (.agg #[(.int .i64 r50.2.1), (.int .i64 r50.2.2)]) #[(.int .i64 r50.2.1), (.int .i64 r50.2.2)] hb70 (by kernel_rfl) (by kernel_rfl) (by kernel_rfl) ?_
 intro w73 hg74 hb75 hz76
 refine gv_nil <| gv_seq <| gv_region <| gv_pureN 1 [41] [(41, (.string s_0))] (by kernel_rfl) ?_
 refine bindE h0 ?_; clear h0; intro r77 hr78 h0
 have hg79 := (grown_trans hg58 hg69)
 have hB80 := bg hB56 hg79 nb
 have hB81 := bg hB56 hg58 nb
 have hlo82 : w0.heap.size ≤ b67 := lob hbe71 hB81.size
 have hB83 := bg hB80 hg74 (rowlo hlo82)
 refine gv_call0 (by kernel_rfl) rfl (by kernel_rfl) enters48 (textstr_Lines_ok fuel s_0 w73 (fun k => X0 k ∨ X0 k) (fun k hk => (hk).elim (fun h => (fun k (hk : X0 k) => ltl (hX0 k hk) hB83.size) k h) (fun h => (fun k (hk : X0 k) => ltl (hX0 k hk) hB83.size) k h)) ((hG1.below hB83 hX0).wide (fun k hk => (.inl hk))) ((hG2.below hB83 hX0).wide (fun k hk => (.inr hk))) r77 hr78) ?_
 rintro v86 w84 ⟨hg85, a87, c88, X90, rfl, ho89, hx91⟩
 have hx92 : ∀ k, X90 k → k < w84.heap.size := fun k hk => (hx91 k hk).1
 have hx93 : ∀ k, X90 k → X0 k ∨ w0.heap.size ≤ k := fun k hk => (hx91 k hk).2.elim (fun h => (h).elim (fun h => (fun k (hk : X0 k) => Or.inl hk) k h) (fun h => (fun k (hk : X0 k) => Or.inl hk) k h)) (fun h => .inr (Nat.le_trans hB83.size h))
 refine gv_pureN 3 [40, 43, 44] [(43, (.slice a87 (List.length r77.1) c88)), (44, (.agg #[(.int .i64 r77.2.1), (.int .i64 r77.2.2)]))] (by kernel_rfl) ?_
 refine gv_new0 (fun b => .pointer (some ⟨b, 0, none⟩)) #[(.int .i64 0), (.int .i64 0)] 24 (by kernel_rfl) (by kernel_rfl) ?_
 intro b94 w95 hg96 hb97 hbe98 hz99
 refine gv_pureN 1 [13] [(13, (.slice a87 (List.length r77.1) c88))] (by kernel_rfl) ?_
 refine gv_store0 24 0 (.agg #[(.int .i64 r77.2.1), (.int .i64 r77.2.2)]) #[(.int .i64 r77.2.1), (.int .i64 r77.2.2)] hb97 (by kernel_rfl) (by kernel_rfl) (by kernel_rfl) ?_
 intro w100 hg101 hb102 hz103
 refine gv_nil <| gv_seq <| gv_seq <| gv_region <| bindE h0 ?_; clear h0; intro r104 hr105 h0
 have hg106 := (grown_trans hg85 hg96)
 have hB107 := bg hB83 hg106 nb
 have hB108 := bg hB83 hg85 nb
 have hlo109 : w0.heap.size ≤ b94 := lob hbe98 hB108.size
 have hB110 := bg hB107 hg101 (rowlo hlo109)
 refine gv_call0 (by kernel_rfl) rfl (by kernel_rfl) enters15 (law4_letters_ok fuel  w100 (fun k => X0 k ∨ X0 k ∨ X0 k) (fun k hk => (hk).elim (fun h => (fun k (hk : X0 k) => ltl (hX0 k hk) hB110.size) k h) (fun h => (h).elim (fun h => (fun k (hk : X0 k) => ltl (hX0 k hk) hB110.size) k h) (fun h => (fun k (hk : X0 k) => ltl (hX0 k hk) hB110.size) k h))) ((hG0.below hB110 hX0).wide (fun k hk => (.inl hk))) ((hG1.below hB110 hX0).wide (fun k hk => (.inr (.inl hk)))) ((hG2.below hB110 hX0).wide (fun k hk => (.inr (.inr hk)))) r104 hr105) ?_
 rintro v113 w111 ⟨hg112, rfl⟩
 refine gv_pureN 1 [46] [(46, (.bool (!r104)))] (by kernel_rfl) ?_
 refine gv_nil <| gv_cond (b := (!r104)) (by kernel_rfl) (fun hc114 => ?_) (fun hc114 => ?_)
 ·replace h0 := ite_t hc114 h0
  refine gv_seq <| gv_region <| gv_pureN 1 [6] [(6, (.bool false))] (by kernel_rfl) ?_
  refine gv_sub [6] (σ' := [(6, (.bool false))]) (by kernel_rfl) ?_
  refine gv_nil <| gv_cret ?_
  have e := sj h0; subst e
  refine gv_ret (gv_done [(.bool false)] rfl ⟨(by kernel_rfl), trivial⟩ ?_)
  have hB115 := bg hB110 hg112 nb
  exact ⟨grown_of_below hB115, rfl⟩
 ·replace h0 := ite_f hc114 h0
  refine gv_skip <| gv_seq <| gv_region <| gv_pureN 2 [47, 48] [(47, (.string s_0)), (48, (.string sep_1))] (by kernel_rfl) ?_
  refine gv_sub [0, 1, 2, 7, 8, 9, 10, 11, 12, 13, 14, 47, 48] (σ' := [(0, (.string s_0)), (1, (.string sep_1)), (2, (.int .i64 most_2)), (7, (.slice a6 (List.length r1.1) c7)), (8, (bp b13)), (9, (.slice a33 (List.length r23.1) c34)), (10, (bp b40)), (11, (.slice a60 (List.length r50.1) c61)), (12, (bp b67)), (13, (.slice a87 (List.length r77.1) c88)), (14, (bp b94)), (47, (.string s_0)), (48, (.string sep_1))]) (by kernel_rfl) ?_
  refine gv_new0 (fun b => .slice (some ⟨b, 0, none⟩) 2 2) #[(.string s_0), (.string sep_1)] 9 (by kernel_rfl) (by kernel_rfl) ?_
  intro b116 w117 hg118 hb119 hbe120 hz121
  have ho122 : Gv.Own sE 9 w117 (fun _ => False) (some ⟨b116, 0, none⟩) 2 ([s_0, sep_1] : List ByteArray) := Box.ownE hb119 ⟨[(.string s_0)], [(.string sep_1)], rfl, rfl, ⟨[(.string sep_1)], [], rfl, rfl, rfl⟩⟩ (show 2 ≤ maxLen by decide) (fun h => h)
  have hB127 := bg hB110 hg112 nb
  have hl123 : ∀ g, blk (some ⟨b116, 0, none⟩) = some g → w0.heap.size ≤ g := loo hbe120 hB127.size
  refine bindE h0 ?_; clear h0; intro r128 hr129 h0
  refine gv_call0 (by kernel_rfl) rfl (by kernel_rfl) enters23 (ref4_TextFaults_ok fuel (some ⟨b116, 0, none⟩) 2 ([s_0, sep_1] : List ByteArray) w117 (fun k => (fun k => blk (some ⟨b116, 0, none⟩) = some k) k) (fun k hk => (fun k (hk : blk (some ⟨b116, 0, none⟩) = some k) => ho122.lt k hk) k hk) ((ho122.rd (Y := fun k => blk (some ⟨b116, 0, none⟩) = some k) (fun _ h => h.elim) (fun g e => e)).wide (fun k hk => hk)) r128 hr129) ?_
  rintro v132 w130 ⟨hg131, rfl⟩
  refine gv_new0 (fun b => .pointer (some ⟨b, 0, none⟩)) #[(.int .i64 0), (.int .i64 0)] 24 (by kernel_rfl) (by kernel_rfl) ?_
  intro b133 w134 hg135 hb136 hbe137 hz138
  clear hz138 hr129 hl123 ho122 hz121 hbe120 hb119 hc114 hB110 hB108 hB107 hg106 hr105 hz103 hz99 hb97 hB83 hB81 hB80 hg79 hr78 hz76 hb70 hB56
  refine gv_store0 24 0 (.agg #[(.int .i64 r128.1), (.int .i64 r128.2)]) #[(.int .i64 r128.1), (.int .i64 r128.2)] hb136 (by kernel_rfl) (by kernel_rfl) (by kernel_rfl) ?_
  intro w139 hg140 hb141 hz142
  refine gv_nil <| gv_seq <| gv_seq <| gv_region <| bindE h0 ?_; clear h0; intro j143 h1 h0
  refine gv_cut_ops (J := fun a w144 => Below w0.heap.size w0 w144 ∧ w139.heap.size ≤ w144.heap.size ∧ Box w144 b13 24 #[(.int .i64 r1.2.1), (.int .i64 r1.2.2)] ∧ Box w144 b40 24 #[(.int .i64 r23.2.1), (.int .i64 r23.2.2)] ∧ Box w144 b67 24 #[(.int .i64 r50.2.1), (.int .i64 r50.2.2)] ∧ Box w144 b94 24 #[(.int .i64 r77.2.1), (.int .i64 r77.2.2)] ∧ Box w144 b133 24 #[(.int .i64 r128.1), (.int .i64 r128.2)] ∧ Rd sE w144 X9 a6 c7 r1.1 ∧ Rd sE w144 X36 a33 c34 r23.1 ∧ Rd sE w144 X63 a60 c61 r50.1 ∧ Rd sE w144 X90 a87 c88 r77.1 ∧ a.defers = [] ∧ a.tmps.size = 128 ∧ Ok [(0, (.string s_0)), (1, (.string sep_1)), (2, (.int .i64 most_2)), (7, (.slice a6 (List.length r1.1) c7)), (8, (bp b13)), (9, (.slice a33 (List.length r23.1) c34)), (10, (bp b40)), (11, (.slice a60 (List.length r50.1) c61)), (12, (bp b67)), (13, (.slice a87 (List.length r77.1) c88)), (14, (bp b94)), (15, (bp b133)), (57, (.bool j143))] a.tmps) ?_ ?_
  ·skip
   refine gv_pureN 1 [51] [(51, (bp b133))] (by kernel_rfl) ?_
   refine gv_load (t := 3) (A := ⟨b133, 0, none⟩) (.int .i64 r128.1) [] (fun e => by cases e) rfl rfl rfl (by kernel_rfl) (by kernel_rfl) (by kernel_rfl) (inw0 (hb141.cell 0 rfl)) rfl ?_
   refine gv_pureN 2 [53, 54] [(54, (.bool (r128.1 == 0)))] (by kernel_rfl) ?_
   refine gv_split (s := 54) (g := (r128.1 == 0)) (by kernel_rfl) (fun hc145 => ?_) (fun hc145 => ?_)
   ·skip
    replace h1 := ite_t hc145 h1
    refine gv_pureN 3 [55, 56, 57] [(57, (.bool (sep_1.toList == (strOf []).toList)))] (by kernel_rfl) ?_
    refine gv_nil ?_
    have e := sj h1; subst e
    refine gv_goal fun a hd hs hok => ?_
    have hg146 := (grown_trans (grown_trans hg118 hg131) hg135)
    have hB147 := bg hB127 hg146 nb
    have hg148 := (grown_trans hg118 hg131)
    have hB149 := bg hB127 hg148 nb
    have hlo150 : w0.heap.size ≤ b133 := lob hbe137 hB149.size
    have hB151 := bg hB147 hg140 (rowlo hlo150)
    have hg152 := (grown_trans hg31 hg42)
    have hk153 := hb21.grown hg31 nb
    have lt154 := ltl ((ltb hk153) _ rfl) ((lowb hbe44) _ rfl)
    have hg155 := (grown_trans hg58 hg69)
    have hk156 := hb48.grown hg58 nb
    have lt157 := ltl ((ltb hk156) _ rfl) ((lowb hbe71) _ rfl)
    have lt158 := ltt lt154 lt157
    have hg159 := (grown_trans hg85 hg96)
    have hk160 := hb75.grown hg85 nb
    have lt161 := ltl ((ltb hk160) _ rfl) ((lowb hbe98) _ rfl)
    have lt162 := ltt lt158 lt161
    have hg163 := (grown_trans hg112 hg146)
    have hg164 := (grown_trans hg112 hg148)
    have hk165 := hb102.grown hg164 nb
    have lt166 := ltl ((ltb hk165) _ rfl) ((lowb hbe137) _ rfl)
    have lt167 := ltt lt162 lt166
    have hk168 := (((((((hb21.grown hg152 nb).grown hg47 (rowne (ng lt154))).grown hg155 nb).grown hg74 (rowne (ng lt158))).grown hg159 nb).grown hg101 (rowne (ng lt162))).grown hg163 nb).grown hg140 (rowne (ng lt167))
    have lt169 := ltt lt157 lt161
    have lt170 := ltt lt169 lt166
    have hk171 := (((((hk156.grown hg69 nb).grown hg74 (rowne (ng lt157))).grown hg159 nb).grown hg101 (rowne (ng lt169))).grown hg163 nb).grown hg140 (rowne (ng lt170))
    have lt172 := ltt lt161 lt166
    have hk173 := (((hk160.grown hg96 nb).grown hg101 (rowne (ng lt161))).grown hg163 nb).grown hg140 (rowne (ng lt172))
    have hk174 := (hk165.grown hg135 nb).grown hg140 (rowne (ng lt166))
    have ap175 : ¬ X9 b13 := fun hx => nl ((lowb hbe17) _ rfl) (hx11 _ hx)
    have hx176 := ltx hx11 hg15.size
    have hx177 := ltx hx176 hg20.size
    have hx178 := ltx hx177 hg31.size
    have ap179 : ¬ X9 b40 := fun hx => nl ((lowb hbe44) _ rfl) (hx178 _ hx)
    have hx180 := ltx hx178 hg42.size
    have hx181 := ltx hx180 hg47.size
    have hx182 := ltx hx181 hg58.size
    have ap183 : ¬ X9 b67 := fun hx => nl ((lowb hbe71) _ rfl) (hx182 _ hx)
    have hx184 := ltx hx182 hg69.size
    have hx185 := ltx hx184 hg74.size
    have hx186 := ltx hx185 hg85.size
    have ap187 : ¬ X9 b94 := fun hx => nl ((lowb hbe98) _ rfl) (hx186 _ hx)
    have hx188 := ltx hx186 hg96.size
    have hx189 := ltx hx188 hg101.size
    have hx190 := ltx hx189 hg164.size
    have ap191 : ¬ X9 b133 := fun hx => nl ((lowb hbe137) _ rfl) (hx190 _ hx)
    have hx192 := ltx hx190 hg135.size
    have hk193 := (((((((((ho8.grown hg15 hx11 nb).grown hg20 hx176 (rowne ap175)).grown hg152 hx177 nb).grown hg47 hx180 (rowne ap179)).grown hg155 hx181 nb).grown hg74 hx184 (rowne ap183)).grown hg159 hx185 nb).grown hg101 hx188 (rowne ap187)).grown hg163 hx189 nb).grown hg140 hx192 (rowne ap191)
    have ap194 : ¬ X36 b40 := fun hx => nl ((lowb hbe44) _ rfl) (hx38 _ hx)
    have hx195 := ltx hx38 hg42.size
    have hx196 := ltx hx195 hg47.size
    have hx197 := ltx hx196 hg58.size
    have ap198 : ¬ X36 b67 := fun hx => nl ((lowb hbe71) _ rfl) (hx197 _ hx)
    have hx199 := ltx hx197 hg69.size
    have hx200 := ltx hx199 hg74.size
    have hx201 := ltx hx200 hg85.size
    have ap202 : ¬ X36 b94 := fun hx => nl ((lowb hbe98) _ rfl) (hx201 _ hx)
    have hx203 := ltx hx201 hg96.size
    have hx204 := ltx hx203 hg101.size
    have hx205 := ltx hx204 hg164.size
    have ap206 : ¬ X36 b133 := fun hx => nl ((lowb hbe137) _ rfl) (hx205 _ hx)
    have hx207 := ltx hx205 hg135.size
    have hk208 := (((((((ho35.grown hg42 hx38 nb).grown hg47 hx195 (rowne ap194)).grown hg155 hx196 nb).grown hg74 hx199 (rowne ap198)).grown hg159 hx200 nb).grown hg101 hx203 (rowne ap202)).grown hg163 hx204 nb).grown hg140 hx207 (rowne ap206)
    have ap209 : ¬ X63 b67 := fun hx => nl ((lowb hbe71) _ rfl) (hx65 _ hx)
    have hx210 := ltx hx65 hg69.size
    have hx211 := ltx hx210 hg74.size
    have hx212 := ltx hx211 hg85.size
    have ap213 : ¬ X63 b94 := fun hx => nl ((lowb hbe98) _ rfl) (hx212 _ hx)
    have hx214 := ltx hx212 hg96.size
    have hx215 := ltx hx214 hg101.size
    have hx216 := ltx hx215 hg164.size
    have ap217 : ¬ X63 b133 := fun hx => nl ((lowb hbe137) _ rfl) (hx216 _ hx)
    have hx218 := ltx hx216 hg135.size
    have hk219 := (((((ho62.grown hg69 hx65 nb).grown hg74 hx210 (rowne ap209)).grown hg159 hx211 nb).grown hg101 hx214 (rowne ap213)).grown hg163 hx215 nb).grown hg140 hx218 (rowne ap217)
    have ap220 : ¬ X90 b94 := fun hx => nl ((lowb hbe98) _ rfl) (hx92 _ hx)
    have hx221 := ltx hx92 hg96.size
    have hx222 := ltx hx221 hg101.size
    have hx223 := ltx hx222 hg164.size
    have ap224 : ¬ X90 b133 := fun hx => nl ((lowb hbe137) _ rfl) (hx223 _ hx)
    have hx225 := ltx hx223 hg135.size
    have hk226 := (((ho89.grown hg96 hx92 nb).grown hg101 hx221 (rowne ap220)).grown hg163 hx222 nb).grown hg140 hx225 (rowne ap224)
    exact ⟨hB151, (Nat.le_refl _), hk168, hk171, hk173, hk174, hb141, hk193, hk208, hk219, hk226, hd, hs, ok_pick [0, 1, 2, 7, 8, 9, 10, 11, 12, 13, 14, 15, 57] hok (by kernel_rfl)⟩
   ·skip
    replace h1 := ite_f hc145 h1
    refine gv_pureN 3 [55, 56, 57] [(57, (.bool false))] (by kernel_rfl) ?_
    refine gv_nil ?_
    have e := sj h1; subst e
    refine gv_goal fun a hd hs hok => ?_
    have hg227 := (grown_trans (grown_trans hg118 hg131) hg135)
    have hB228 := bg hB127 hg227 nb
    have hg229 := (grown_trans hg118 hg131)
    have hB230 := bg hB127 hg229 nb
    have hlo231 : w0.heap.size ≤ b133 := lob hbe137 hB230.size
    have hB232 := bg hB228 hg140 (rowlo hlo231)
    have hg233 := (grown_trans hg31 hg42)
    have hk234 := hb21.grown hg31 nb
    have lt235 := ltl ((ltb hk234) _ rfl) ((lowb hbe44) _ rfl)
    have hg236 := (grown_trans hg58 hg69)
    have hk237 := hb48.grown hg58 nb
    have lt238 := ltl ((ltb hk237) _ rfl) ((lowb hbe71) _ rfl)
    have lt239 := ltt lt235 lt238
    have hg240 := (grown_trans hg85 hg96)
    have hk241 := hb75.grown hg85 nb
    have lt242 := ltl ((ltb hk241) _ rfl) ((lowb hbe98) _ rfl)
    have lt243 := ltt lt239 lt242
    have hg244 := (grown_trans hg112 hg227)
    have hg245 := (grown_trans hg112 hg229)
    have hk246 := hb102.grown hg245 nb
    have lt247 := ltl ((ltb hk246) _ rfl) ((lowb hbe137) _ rfl)
    have lt248 := ltt lt243 lt247
    have hk249 := (((((((hb21.grown hg233 nb).grown hg47 (rowne (ng lt235))).grown hg236 nb).grown hg74 (rowne (ng lt239))).grown hg240 nb).grown hg101 (rowne (ng lt243))).grown hg244 nb).grown hg140 (rowne (ng lt248))
    have lt250 := ltt lt238 lt242
    have lt251 := ltt lt250 lt247
    have hk252 := (((((hk237.grown hg69 nb).grown hg74 (rowne (ng lt238))).grown hg240 nb).grown hg101 (rowne (ng lt250))).grown hg244 nb).grown hg140 (rowne (ng lt251))
    have lt253 := ltt lt242 lt247
    have hk254 := (((hk241.grown hg96 nb).grown hg101 (rowne (ng lt242))).grown hg244 nb).grown hg140 (rowne (ng lt253))
    have hk255 := (hk246.grown hg135 nb).grown hg140 (rowne (ng lt247))
    have ap256 : ¬ X9 b13 := fun hx => nl ((lowb hbe17) _ rfl) (hx11 _ hx)
    have hx257 := ltx hx11 hg15.size
    have hx258 := ltx hx257 hg20.size
    have hx259 := ltx hx258 hg31.size
    have ap260 : ¬ X9 b40 := fun hx => nl ((lowb hbe44) _ rfl) (hx259 _ hx)
    have hx261 := ltx hx259 hg42.size
    have hx262 := ltx hx261 hg47.size
    have hx263 := ltx hx262 hg58.size
    have ap264 : ¬ X9 b67 := fun hx => nl ((lowb hbe71) _ rfl) (hx263 _ hx)
    have hx265 := ltx hx263 hg69.size
    have hx266 := ltx hx265 hg74.size
    have hx267 := ltx hx266 hg85.size
    have ap268 : ¬ X9 b94 := fun hx => nl ((lowb hbe98) _ rfl) (hx267 _ hx)
    have hx269 := ltx hx267 hg96.size
    have hx270 := ltx hx269 hg101.size
    have hx271 := ltx hx270 hg245.size
    have ap272 : ¬ X9 b133 := fun hx => nl ((lowb hbe137) _ rfl) (hx271 _ hx)
    have hx273 := ltx hx271 hg135.size
    have hk274 := (((((((((ho8.grown hg15 hx11 nb).grown hg20 hx257 (rowne ap256)).grown hg233 hx258 nb).grown hg47 hx261 (rowne ap260)).grown hg236 hx262 nb).grown hg74 hx265 (rowne ap264)).grown hg240 hx266 nb).grown hg101 hx269 (rowne ap268)).grown hg244 hx270 nb).grown hg140 hx273 (rowne ap272)
    have ap275 : ¬ X36 b40 := fun hx => nl ((lowb hbe44) _ rfl) (hx38 _ hx)
    have hx276 := ltx hx38 hg42.size
    have hx277 := ltx hx276 hg47.size
    have hx278 := ltx hx277 hg58.size
    have ap279 : ¬ X36 b67 := fun hx => nl ((lowb hbe71) _ rfl) (hx278 _ hx)
    have hx280 := ltx hx278 hg69.size
    have hx281 := ltx hx280 hg74.size
    have hx282 := ltx hx281 hg85.size
    have ap283 : ¬ X36 b94 := fun hx => nl ((lowb hbe98) _ rfl) (hx282 _ hx)
    have hx284 := ltx hx282 hg96.size
    have hx285 := ltx hx284 hg101.size
    have hx286 := ltx hx285 hg245.size
    have ap287 : ¬ X36 b133 := fun hx => nl ((lowb hbe137) _ rfl) (hx286 _ hx)
    have hx288 := ltx hx286 hg135.size
    have hk289 := (((((((ho35.grown hg42 hx38 nb).grown hg47 hx276 (rowne ap275)).grown hg236 hx277 nb).grown hg74 hx280 (rowne ap279)).grown hg240 hx281 nb).grown hg101 hx284 (rowne ap283)).grown hg244 hx285 nb).grown hg140 hx288 (rowne ap287)
    have ap290 : ¬ X63 b67 := fun hx => nl ((lowb hbe71) _ rfl) (hx65 _ hx)
    have hx291 := ltx hx65 hg69.size
    have hx292 := ltx hx291 hg74.size
    have hx293 := ltx hx292 hg85.size
    have ap294 : ¬ X63 b94 := fun hx => nl ((lowb hbe98) _ rfl) (hx293 _ hx)
    have hx295 := ltx hx293 hg96.size
    have hx296 := ltx hx295 hg101.size
    have hx297 := ltx hx296 hg245.size
    have ap298 : ¬ X63 b133 := fun hx => nl ((lowb hbe137) _ rfl) (hx297 _ hx)
    have hx299 := ltx hx297 hg135.size
    have hk300 := (((((ho62.grown hg69 hx65 nb).grown hg74 hx291 (rowne ap290)).grown hg240 hx292 nb).grown hg101 hx295 (rowne ap294)).grown hg244 hx296 nb).grown hg140 hx299 (rowne ap298)
    have ap301 : ¬ X90 b94 := fun hx => nl ((lowb hbe98) _ rfl) (hx92 _ hx)
    have hx302 := ltx hx92 hg96.size
    have hx303 := ltx hx302 hg101.size
    have hx304 := ltx hx303 hg245.size
    have ap305 : ¬ X90 b133 := fun hx => nl ((lowb hbe137) _ rfl) (hx304 _ hx)
    have hx306 := ltx hx304 hg135.size
    have hk307 := (((ho89.grown hg96 hx92 nb).grown hg101 hx302 (rowne ap301)).grown hg244 hx303 nb).grown hg140 hx306 (rowne ap305)
    exact ⟨hB232, (Nat.le_refl _), hk249, hk252, hk254, hk255, hb141, hk274, hk289, hk300, hk307, hd, hs, ok_pick [0, 1, 2, 7, 8, 9, 10, 11, 12, 13, 14, 15, 57] hok (by kernel_rfl)⟩
  ·rintro a w144 ⟨hB308, hz309, hb310, hb311, hb312, hb313, hb314, hk315, hk316, hk317, hk318, hd, hs, hok⟩
   refine gv_in ?_ hd hs hok
   clear hd hs hok
   clear hz142 hb141 hb136 ho89 ho62 ho35 ho8
   refine bindE h0 ?_; clear h0; intro j319 h1 h0
   refine gv_cut_code (J := fun a w320 => Below w0.heap.size w0 w320 ∧ w144.heap.size ≤ w320.heap.size ∧ Box w320 b13 24 #[(.int .i64 r1.2.1), (.int .i64 r1.2.2)] ∧ Box w320 b40 24 #[(.int .i64 r23.2.1), (.int .i64 r23.2.2)] ∧ Box w320 b67 24 #[(.int .i64 r50.2.1), (.int .i64 r50.2.2)] ∧ Box w320 b94 24 #[(.int .i64 r77.2.1), (.int .i64 r77.2.2)] ∧ Box w320 b133 24 #[(.int .i64 j319.1), (.int .i64 j319.2)] ∧ Rd sE w320 X9 a6 c7 r1.1 ∧ Rd sE w320 X36 a33 c34 r23.1 ∧ Rd sE w320 X63 a60 c61 r50.1 ∧ Rd sE w320 X90 a87 c88 r77.1 ∧ a.defers = [] ∧ a.tmps.size = 128 ∧ Ok [(0, (.string s_0)), (1, (.string sep_1)), (2, (.int .i64 most_2)), (7, (.slice a6 (List.length r1.1) c7)), (8, (bp b13)), (9, (.slice a33 (List.length r23.1) c34)), (10, (bp b40)), (11, (.slice a60 (List.length r50.1) c61)), (12, (bp b67)), (13, (.slice a87 (List.length r77.1) c88)), (14, (bp b94)), (15, (bp b133))] a.tmps) ?_ ?_
   ·skip
    refine gv_cond (b := j143) (by kernel_rfl) (fun hc321 => ?_) (fun hc321 => ?_)
    ·replace h1 := ite_t hc321 h1
     refine gv_region <| bindE h1 ?_; clear h1; intro r322 hr323 h1
     refine gv_call0 (by kernel_rfl) rfl (by kernel_rfl) enters29 (ref4_At_ok fuel 10 (-2) w144  r322 hr323) ?_
     rintro v326 w324 ⟨hg325, rfl⟩
     have hk331 := hb314.grown hg325 nb
     refine gv_store0 24 0 (.agg #[(.int .i64 r322.1), (.int .i64 r322.2)]) #[(.int .i64 r322.1), (.int .i64 r322.2)] hk331 (by kernel_rfl) (by kernel_rfl) (by kernel_rfl) ?_
     intro w327 hg328 hb329 hz330
     refine gv_nil ?_
     have e := sj h1; subst e
     refine gv_goal fun a hd hs hok => ?_
     have hB332 := bg hB308 hg325 nb
     have hg333 := (grown_trans hg118 hg131)
     have hB334 := bg hB127 hg333 nb
     have hlo335 : w0.heap.size ≤ b133 := lob hbe137 hB334.size
     have hB336 := bg hB332 hg328 (rowlo hlo335)
     have hz337 := (nt hg325.size hg328.size)
     have hk338 := hb21.grown hg31 nb
     have lt339 := ltl ((ltb hk338) _ rfl) ((lowb hbe44) _ rfl)
     have hk340 := hb48.grown hg58 nb
     have lt341 := ltl ((ltb hk340) _ rfl) ((lowb hbe71) _ rfl)
     have lt342 := ltt lt339 lt341
     have hk343 := hb75.grown hg85 nb
     have lt344 := ltl ((ltb hk343) _ rfl) ((lowb hbe98) _ rfl)
     have lt345 := ltt lt342 lt344
     have hg346 := (grown_trans hg112 hg333)
     have hk347 := hb102.grown hg346 nb
     have lt348 := ltl ((ltb hk347) _ rfl) ((lowb hbe137) _ rfl)
     have lt349 := ltt lt345 lt348
     have hk350 := (hb310.grown hg325 nb).grown hg328 (rowne (ng lt349))
     have lt351 := ltt lt341 lt344
     have lt352 := ltt lt351 lt348
     have hk353 := (hb311.grown hg325 nb).grown hg328 (rowne (ng lt352))
     have lt354 := ltt lt344 lt348
     have hk355 := (hb312.grown hg325 nb).grown hg328 (rowne (ng lt354))
     have hk356 := (hb313.grown hg325 nb).grown hg328 (rowne (ng lt348))
     have hg357 := (grown_trans hg31 hg42)
     have hg358 := (grown_trans hg58 hg69)
     have hg359 := (grown_trans hg85 hg96)
     have hg360 := (grown_trans hg346 hg135)
     have hx361 := ltx (ltx (ltx (ltx (ltx (ltx (ltx (ltx (ltx (ltx hx11 hg15.size) hg20.size) hg357.size) hg47.size) hg358.size) hg74.size) hg359.size) hg101.size) hg360.size) hg140.size
     have hx362 := ltx (ltx (ltx (ltx (ltx (ltx (ltx (ltx (ltx hx11 hg15.size) hg20.size) hg357.size) hg47.size) hg358.size) hg74.size) hg359.size) hg101.size) hg346.size
     have ap363 : ¬ X9 b133 := fun hx => nl ((lowb hbe137) _ rfl) (hx362 _ hx)
     have hx364 := ltx (fun k hk => ltl (hx361 k hk) hz309) hg325.size
     have hk365 := (hk315.grown hg325 (fun k hk => ltl (hx361 k hk) hz309) nb).grown hg328 hx364 (rowne ap363)
     have hx366 := ltx (ltx (ltx (ltx (ltx (ltx (ltx (ltx hx38 hg42.size) hg47.size) hg358.size) hg74.size) hg359.size) hg101.size) hg360.size) hg140.size
     have hx367 := ltx (ltx (ltx (ltx (ltx (ltx (ltx hx38 hg42.size) hg47.size) hg358.size) hg74.size) hg359.size) hg101.size) hg346.size
     have ap368 : ¬ X36 b133 := fun hx => nl ((lowb hbe137) _ rfl) (hx367 _ hx)
     have hx369 := ltx (fun k hk => ltl (hx366 k hk) hz309) hg325.size
     have hk370 := (hk316.grown hg325 (fun k hk => ltl (hx366 k hk) hz309) nb).grown hg328 hx369 (rowne ap368)
     have hx371 := ltx (ltx (ltx (ltx (ltx (ltx hx65 hg69.size) hg74.size) hg359.size) hg101.size) hg360.size) hg140.size
     have hx372 := ltx (ltx (ltx (ltx (ltx hx65 hg69.size) hg74.size) hg359.size) hg101.size) hg346.size
     have ap373 : ¬ X63 b133 := fun hx => nl ((lowb hbe137) _ rfl) (hx372 _ hx)
     have hx374 := ltx (fun k hk => ltl (hx371 k hk) hz309) hg325.size
     have hk375 := (hk317.grown hg325 (fun k hk => ltl (hx371 k hk) hz309) nb).grown hg328 hx374 (rowne ap373)
     have hx376 := ltx (ltx (ltx (ltx hx92 hg96.size) hg101.size) hg360.size) hg140.size
     have hx377 := ltx (ltx (ltx hx92 hg96.size) hg101.size) hg346.size
     have ap378 : ¬ X90 b133 := fun hx => nl ((lowb hbe137) _ rfl) (hx377 _ hx)
     have hx379 := ltx (fun k hk => ltl (hx376 k hk) hz309) hg325.size
     have hk380 := (hk318.grown hg325 (fun k hk => ltl (hx376 k hk) hz309) nb).grown hg328 hx379 (rowne ap378)
     exact ⟨hB336, hz337, hk350, hk353, hk355, hk356, hb329, hk365, hk370, hk375, hk380, hd, hs, ok_pick [0, 1, 2, 7, 8, 9, 10, 11, 12, 13, 14, 15] hok (by kernel_rfl)⟩
    ·replace h1 := ite_f hc321 h1
     refine gv_skip ?_
     have e := sj h1; subst e
     refine gv_goal fun a hd hs hok => ?_
     exact ⟨hB308, (Nat.le_refl _), hb310, hb311, hb312, hb313, hb314, hk315, hk316, hk317, hk318, hd, hs, ok_pick [0, 1, 2, 7, 8, 9, 10, 11, 12, 13, 14, 15] hok (by kernel_rfl)⟩
   ·rintro a w320 ⟨hB381, hz382, hb383, hb384, hb385, hb386, hb387, hk388, hk389, hk390, hk391, hd, hs, hok⟩
    refine gv_in ?_ hd hs hok
    clear hd hs hok
    clear hk318 hk317 hk316 hk315 hb314 hb313 hb312 hb311 hb310 hB308
    refine gv_seq <| gv_region <| gv_pureN 1 [59] [(59, (.string s_0))] (by kernel_rfl) ?_
    refine gv_new0 (fun b => .slice (some ⟨b, 0, none⟩) 1 1) #[(.string s_0)] 9 (by kernel_rfl) (by kernel_rfl) ?_
    intro b392 w393 hg394 hb395 hbe396 hz397
    have ho398 : Gv.Own sE 9 w393 (fun _ => False) (some ⟨b392, 0, none⟩) 1 ([s_0] : List ByteArray) := Box.ownE hb395 ⟨[(.string s_0)], [], rfl, rfl, rfl⟩ (show 1 ≤ maxLen by decide) (fun h => h)
    have hl399 : ∀ g, blk (some ⟨b392, 0, none⟩) = some g → w0.heap.size ≤ g := loo hbe396 hB381.size
    refine bindE h0 ?_; clear h0; intro r403 hr404 h0
    refine gv_call0 (by kernel_rfl) rfl (by kernel_rfl) enters23 (ref4_TextFaults_ok fuel (some ⟨b392, 0, none⟩) 1 ([s_0] : List ByteArray) w393 (fun k => (fun k => blk (some ⟨b392, 0, none⟩) = some k) k) (fun k hk => (fun k (hk : blk (some ⟨b392, 0, none⟩) = some k) => ho398.lt k hk) k hk) ((ho398.rd (Y := fun k => blk (some ⟨b392, 0, none⟩) = some k) (fun _ h => h.elim) (fun g e => e)).wide (fun k hk => hk)) r403 hr404) ?_
    rintro v407 w405 ⟨hg406, rfl⟩
    refine gv_new0 (fun b => .pointer (some ⟨b, 0, none⟩)) #[(.int .i64 0), (.int .i64 0)] 24 (by kernel_rfl) (by kernel_rfl) ?_
    intro b408 w409 hg410 hb411 hbe412 hz413
    refine gv_store0 24 0 (.agg #[(.int .i64 r403.1), (.int .i64 r403.2)]) #[(.int .i64 r403.1), (.int .i64 r403.2)] hb411 (by kernel_rfl) (by kernel_rfl) (by kernel_rfl) ?_
    intro w414 hg415 hb416 hz417
    refine gv_nil <| gv_seq <| gv_region <| gv_pureN 1 [63] [(63, (.string s_0))] (by kernel_rfl) ?_
    refine bindE h0 ?_; clear h0; intro r418 hr419 h0
    refine gv_call0 (by kernel_rfl) rfl (by kernel_rfl) enters24 (ref4_Points_ok fuel s_0 w414  r418 hr419) ?_
    rintro v422 w420 ⟨hg421, a423, c424, rfl, ho425, hl426⟩
    have hg428 := (grown_trans (grown_trans hg394 hg406) hg410)
    have hB429 := bg hB381 hg428 nb
    have hg430 := (grown_trans hg394 hg406)
    have hB431 := bg hB381 hg430 nb
    have hlo432 : w0.heap.size ≤ b408 := lob hbe412 hB431.size
    have hB433 := bg hB429 hg415 (rowlo hlo432)
    have hl427 : ∀ g, blk a423 = some g → w0.heap.size ≤ g := fun g e => Nat.le_trans hB433.size (hl426 g e)
    clear hB431 hg430 hB429 hg428 hr419 hz417 hz413 hb411 hr404 hl399 ho398 hz397 hbe396 hb395 hB381
    refine gv_pureN 5 [17, 18, 62, 65, 66] [(17, (.slice a423 (List.length r418.1) c424))] (by kernel_rfl) ?_
    refine gv_nil <| gv_seq <| gv_seq <| bindE h0 ?_; clear h0; intro j434 h1 h0
    refine gv_cut_code (J := fun a w435 => Below w0.heap.size w0 w435 ∧ w420.heap.size ≤ w435.heap.size ∧ Box w435 b13 24 #[(.int .i64 r1.2.1), (.int .i64 r1.2.2)] ∧ Box w435 b40 24 #[(.int .i64 r23.2.1), (.int .i64 r23.2.2)] ∧ Box w435 b133 24 #[(.int .i64 j319.1), (.int .i64 j319.2)] ∧ Rd sE w435 X9 a6 c7 r1.1 ∧ Rd sE w435 X36 a33 c34 r23.1 ∧ Gv.Own (iE .i64) 3 w435 (fun _ => False) a423 c424 r418.1 ∧ a.defers = [] ∧ a.tmps.size = 128 ∧ Ok [(1, (.string sep_1)), (2, (.int .i64 most_2)), (7, (.slice a6 (List.length r1.1) c7)), (8, (bp b13)), (9, (.slice a33 (List.length r23.1) c34)), (10, (bp b40)), (15, (bp b133)), (17, (.slice a423 (List.length r418.1) c424)), (82, (.bool j434))] a.tmps) ?_ ?_
    ·skip
     refine gv_drawA (by kernel_rfl) ?_
     intro w436 hg437
     refine gv_pre [0, 2] (bA 16 [0, 2]) 14 (by kernel_rfl) (by kernel_rfl) ?_
     refine gv_pureN 2 [67, 69] [(67, (.slice a60 (List.length r50.1) c61)), (69, (.slice a423 (List.length r418.1) c424))] (by kernel_rfl) ?_
     refine gv_nil <| gv_goA ?_
     refine gv_stage (Cls w436 []) [0, 1, 2, 3, 4] [(1, some true), (4, some true), (3, some false)] (bA 16 [0, 1, 2, 3, 4]) 11 (by kernel_rfl) (by kernel_rfl) (Cls.refl _ _) ?_
     have hC438 := Cls.refl w436 []
     have hg439 := (grown_trans (grown_trans hg394 hg406) hg410)
     have hk440 := hb75.grown hg85 nb
     have lt441 := ltl ((ltb hk440) _ rfl) ((lowb hbe98) _ rfl)
     have hg442 := (grown_trans (grown_trans hg112 hg118) hg131)
     have hk443 := hb102.grown hg442 nb
     have lt444 := ltl ((ltb hk443) _ rfl) ((lowb hbe137) _ rfl)
     have lt445 := ltt lt441 lt444
     have hg446 := (grown_trans hg394 hg406)
     have hk447 := hb387.grown hg446 nb
     have lt448 := ltl ((ltb hk447) _ rfl) ((lowb hbe412) _ rfl)
     have lt449 := ltt lt445 lt448
     have hg450 := (grown_trans hg421 hg437)
     have hk451 := ((hb385.grown hg439 nb).grown hg415 (rowne (ng lt449))).grown hg450 nb
     refine gv_loadBox (t := 24) (b := b67) (t' := 24) (fr := (0, 0)) #[(.int .i64 r50.2.1), (.int .i64 r50.2.2)] [] (fun e => by cases e) rfl rfl rfl (by kernel_rfl) (by kernel_rfl) (by kernel_rfl) (by kernel_rfl) (inw1 fun w' hC' => (hC'.box hk451 nm_nil)) rfl ?_
     have hk452 := hb416.grown hg450 nb
     refine gv_loadBox (t := 24) (b := b408) (t' := 24) (fr := (0, 0)) #[(.int .i64 r403.1), (.int .i64 r403.2)] [] (fun e => by cases e) rfl rfl rfl (by kernel_rfl) (by kernel_rfl) (by kernel_rfl) (by kernel_rfl) (inw1 fun w' hC' => (hC'.box hk452 nm_nil)) rfl ?_
     refine bindE h1 ?_; clear h1; intro r453 hr454 h1
     have hk455 := ho425.grown hg437 (fun _ h => h.elim) nb
     refine gv_call (f := 32) (vs := [(.slice a423 (List.length r418.1) c424)]) (cap := []) _ (by decide) rfl rfl rfl (by kernel_rfl) (by kernel_rfl) enters32 (ref4_WordsOf_ok fuel a423 c424 r418.1 w436 (fun k => (fun k => blk a423 = some k) k) (fun k hk => (fun k (hk : blk a423 = some k) => hk455.lt k hk) k hk) ((hk455.rd (Y := fun k => blk a423 = some k) (fun _ h => h.elim) (fun g e => e)).wide (fun k hk => hk)) r453 hr454) ?_
     rintro v458 w456 ⟨hg457, a459, c460, rfl, ho461, hl462⟩
     refine ⟨(fun _ => hC438.grown hg457 nb), ?_⟩
     have hB464 := bg hB433 hg450 nb
     have hl463 : ∀ g, blk a459 = some g → w0.heap.size ≤ g := fun g e => Nat.le_trans hB464.size (hl462 g e)
     refine gv_nil <| gv_goA ?_
     refine gv_stage (fun _ => True) [0, 1, 2, 3, 4, 5] [(5, some false)] (bA 16 [0, 1, 2, 3, 4, 5]) 10 (by kernel_rfl) (by kernel_rfl) trivial ?_
     refine bindE h1 ?_; clear h1; intro r465 hr466 h1
     have hg467 := (grown_trans hg85 hg96)
     have hg468 := (grown_trans hg442 hg135)
     have hx469 := ltx (ltx (ltx (ltx (ltx (ltx hx65 hg69.size) hg74.size) hg467.size) hg101.size) hg468.size) hg140.size
     have hg470 := (grown_trans hg450 hg457)
     have hx471 := ltx (ltx (ltx (fun k hk => ltl ((fun k hk => ltl (hx469 k hk) hz309) k hk) hz382) hg439.size) hg415.size) hg470.size
     have hx472 := ltx (fun k hk => ltl ((fun k hk => ltl (hx469 k hk) hz309) k hk) hz382) hg446.size
     have ap473 : ¬ X63 b408 := fun hx => nl ((lowb hbe412) _ rfl) (hx472 _ hx)
     have hx474 := ltx hx472 hg410.size
     have hx475 := ltx hx474 hg415.size
     have hk476 := ((hk390.grown hg439 (fun k hk => ltl ((fun k hk => ltl (hx469 k hk) hz309) k hk) hz382) nb).grown hg415 hx474 (rowne ap473)).grown hg470 hx475 nb
     refine gv_call (f := 33) (vs := [(.slice a60 (List.length r50.1) c61), (.agg #[(.int .i64 r50.2.1), (.int .i64 r50.2.2)]), (.slice a459 (List.length r453) c460), (.agg #[(.int .i64 r403.1), (.int .i64 r403.2)])]) (cap := []) _ (by decide) rfl rfl rfl (by kernel_rfl) (by kernel_rfl) enters33 (law4_list_ok fuel a60 c61 r50.1 (r50.2.1, r50.2.2) a459 c460 r453 (r403.1, r403.2) w456 (fun k => X63 k ∨ (fun k => blk a459 = some k) k) (fun k hk => (hk).elim (fun h => hx471 k h) (fun h => (fun k (hk : blk a459 = some k) => ho461.lt k hk) k h)) (hk476.wide (fun k hk => (.inl hk))) ((ho461.rd (Y := fun k => blk a459 = some k) (fun _ h => h.elim) (fun g e => e)).wide (fun k hk => (.inr hk))) r465 hr466) ?_
     rintro v479 w477 ⟨hg478, rfl⟩
     refine ⟨(fun _ => trivial), ?_⟩
     refine gv_nil <| gv_goA ?_
     refine gv_pre [6, 7, 8, 10] (bA 16 [0, 1, 2, 3, 4, 5, 6, 7, 8, 10]) 6 (by kernel_rfl) (by kernel_rfl) ?_
     refine gv_pureN 2 [73, 74] [(74, (.bool (!r465)))] (by kernel_rfl) ?_
     refine gv_sub [1, 2, 7, 8, 9, 10, 13, 14, 15, 16, 17, 74] (σ' := [(1, (.string sep_1)), (2, (.int .i64 most_2)), (7, (.slice a6 (List.length r1.1) c7)), (8, (bp b13)), (9, (.slice a33 (List.length r23.1) c34)), (10, (bp b40)), (13, (.slice a87 (List.length r77.1) c88)), (14, (bp b94)), (15, (bp b133)), (16, (bp b408)), (17, (.slice a423 (List.length r418.1) c424)), (74, (.bool (!r465)))]) (by kernel_rfl) ?_
     refine gv_split (s := 74) (g := (!r465)) (by kernel_rfl) (fun hc480 => ?_) (fun hc480 => ?_)
     ·skip
      replace h1 := ite_t hc480 h1
      refine gv_pureN 2 [75, 77] [(75, undef), (77, undef)] (by kernel_rfl) ?_
      refine gv_nil <| gv_goA ?_
      refine gv_stage (Cls w477 []) [0, 1, 2, 3, 4, 5, 6, 7, 8, 9, 10, 11, 12] [(9, some true), (12, some true), (11, some false)] (bA 16 [0, 1, 2, 3, 4, 5, 6, 7, 8, 9, 10, 11, 12]) 3 (by kernel_rfl) (by kernel_rfl) (Cls.refl _ _) ?_
      have hC481 := Cls.refl w477 []
      refine gv_pureNC hC481 3 [76, 78, 79] [(76, undef), (78, undef), (79, undef)] (by kernel_rfl) ?_
      refine gv_nil <| gv_goA ?_
      refine gv_stage (fun _ => True) [0, 1, 2, 3, 4, 5, 6, 7, 8, 9, 10, 11, 12, 13] [(13, some false)] (bA 16 [0, 1, 2, 3, 4, 5, 6, 7, 8, 9, 10, 11, 12, 13]) 2 (by kernel_rfl) (by kernel_rfl) trivial ?_
      refine gv_pureNC trivial 1 [80] [(80, undef)] (by kernel_rfl) ?_
      refine gv_nil <| gv_goA ?_
      refine gv_pre [14, 15] (bA 16 [0, 1, 2, 3, 4, 5, 6, 7, 8, 9, 10, 11, 12, 13, 14, 15]) 0 (by kernel_rfl) (by kernel_rfl) ?_
      refine gv_pureN 2 [81, 82] [(82, (.bool true))] (by kernel_rfl) ?_
      refine gv_nil <| gv_goA ?_
      refine gv_stageE (by kernel_rfl) ?_
      have e := sj h1; subst e
      refine gv_goal fun a hd hs hok => ?_
      have hg482 := (grown_trans hg457 hg478)
      have hB483 := bg hB464 hg482 nb
      have hz484 := (nt (nt hg437.size hg457.size) hg478.size)
      have hk485 := hb21.grown hg31 nb
      have lt486 := ltl ((ltb hk485) _ rfl) ((lowb hbe44) _ rfl)
      have hk487 := hb48.grown hg58 nb
      have lt488 := ltl ((ltb hk487) _ rfl) ((lowb hbe71) _ rfl)
      have lt489 := ltt lt486 lt488
      have lt490 := ltt lt489 lt441
      have lt491 := ltt lt490 lt444
      have lt492 := ltt lt491 lt448
      have hg493 := (grown_trans hg470 hg478)
      have hk494 := ((hb383.grown hg439 nb).grown hg415 (rowne (ng lt492))).grown hg493 nb
      have lt495 := ltt lt488 lt441
      have lt496 := ltt lt495 lt444
      have lt497 := ltt lt496 lt448
      have hk498 := ((hb384.grown hg439 nb).grown hg415 (rowne (ng lt497))).grown hg493 nb
      have hk499 := ((hk447.grown hg410 nb).grown hg415 (rowne (ng lt448))).grown hg493 nb
      have hg500 := (grown_trans hg31 hg42)
      have hg501 := (grown_trans hg58 hg69)
      have hx502 := ltx (ltx (ltx (ltx (ltx (ltx (ltx (ltx (ltx (ltx hx11 hg15.size) hg20.size) hg500.size) hg47.size) hg501.size) hg74.size) hg467.size) hg101.size) hg468.size) hg140.size
      have hx503 := ltx (fun k hk => ltl ((fun k hk => ltl (hx502 k hk) hz309) k hk) hz382) hg446.size
      have ap504 : ¬ X9 b408 := fun hx => nl ((lowb hbe412) _ rfl) (hx503 _ hx)
      have hx505 := ltx hx503 hg410.size
      have hx506 := ltx hx505 hg415.size
      have hk507 := ((hk388.grown hg439 (fun k hk => ltl ((fun k hk => ltl (hx502 k hk) hz309) k hk) hz382) nb).grown hg415 hx505 (rowne ap504)).grown hg493 hx506 nb
      have hx508 := ltx (ltx (ltx (ltx (ltx (ltx (ltx (ltx hx38 hg42.size) hg47.size) hg501.size) hg74.size) hg467.size) hg101.size) hg468.size) hg140.size
      have hx509 := ltx (fun k hk => ltl ((fun k hk => ltl (hx508 k hk) hz309) k hk) hz382) hg446.size
      have ap510 : ¬ X36 b408 := fun hx => nl ((lowb hbe412) _ rfl) (hx509 _ hx)
      have hx511 := ltx hx509 hg410.size
      have hx512 := ltx hx511 hg415.size
      have hk513 := ((hk389.grown hg439 (fun k hk => ltl ((fun k hk => ltl (hx508 k hk) hz309) k hk) hz382) nb).grown hg415 hx511 (rowne ap510)).grown hg493 hx512 nb
      have hk514 := hk455.grown hg482 (fun _ h => h.elim) nb
      exact ⟨hB483, hz484, hk494, hk498, hk499, hk507, hk513, hk514, hd, hs, ok_pick [1, 2, 7, 8, 9, 10, 15, 17, 82] hok (by kernel_rfl)⟩
     ·skip
      replace h1 := ite_f hc480 h1
      refine gv_pureN 2 [75, 77] [(75, (.slice a87 (List.length r77.1) c88)), (77, (.slice a423 (List.length r418.1) c424))] (by kernel_rfl) ?_
      refine gv_nil <| gv_goA ?_
      refine gv_stage (Cls w477 []) [0, 1, 2, 3, 4, 5, 6, 7, 8, 9, 10, 11, 12] [(9, some true), (12, some true), (11, some false)] (bA 16 [0, 1, 2, 3, 4, 5, 6, 7, 8, 9, 10, 11, 12]) 3 (by kernel_rfl) (by kernel_rfl) (Cls.refl _ _) ?_
      have hC515 := Cls.refl w477 []
      have lt516 := ltt lt444 lt448
      have hg517 := (grown_trans hg470 hg478)
      have hk518 := ((hb386.grown hg439 nb).grown hg415 (rowne (ng lt516))).grown hg517 nb
      refine gv_loadBox (t := 24) (b := b94) (t' := 24) (fr := (0, 0)) #[(.int .i64 r77.2.1), (.int .i64 r77.2.2)] [] (fun e => by cases e) rfl rfl rfl (by kernel_rfl) (by kernel_rfl) (by kernel_rfl) (by kernel_rfl) (inw1 fun w' hC' => (hC'.box hk518 nm_nil)) rfl ?_
      have hg519 := (grown_trans hg457 hg478)
      have hk520 := hk452.grown hg519 nb
      refine gv_loadBox (t := 24) (b := b408) (t' := 24) (fr := (0, 0)) #[(.int .i64 r403.1), (.int .i64 r403.2)] [] (fun e => by cases e) rfl rfl rfl (by kernel_rfl) (by kernel_rfl) (by kernel_rfl) (by kernel_rfl) (inw1 fun w' hC' => (hC'.box hk520 nm_nil)) rfl ?_
      refine bindE h1 ?_; clear h1; intro r521 hr522 h1
      have hk523 := hk455.grown hg519 (fun _ h => h.elim) nb
      refine gv_call (f := 49) (vs := [(.slice a423 (List.length r418.1) c424)]) (cap := []) _ (by decide) rfl rfl rfl (by kernel_rfl) (by kernel_rfl) enters49 (ref4_LinesOf_ok fuel a423 c424 r418.1 w477 (fun k => (fun k => blk a423 = some k) k) (fun k hk => (fun k (hk : blk a423 = some k) => hk523.lt k hk) k hk) ((hk523.rd (Y := fun k => blk a423 = some k) (fun _ h => h.elim) (fun g e => e)).wide (fun k hk => hk)) r521 hr522) ?_
      rintro v526 w524 ⟨hg525, a527, c528, rfl, ho529, hl530⟩
      refine ⟨(fun _ => hC515.grown hg525 nb), ?_⟩
      have hB532 := bg hB464 hg519 nb
      have hl531 : ∀ g, blk a527 = some g → w0.heap.size ≤ g := fun g e => Nat.le_trans hB532.size (hl530 g e)
      refine gv_nil <| gv_goA ?_
      refine gv_stage (fun _ => True) [0, 1, 2, 3, 4, 5, 6, 7, 8, 9, 10, 11, 12, 13] [(13, some false)] (bA 16 [0, 1, 2, 3, 4, 5, 6, 7, 8, 9, 10, 11, 12, 13]) 2 (by kernel_rfl) (by kernel_rfl) trivial ?_
      refine bindE h1 ?_; clear h1; intro r533 hr534 h1
      have hx535 := ltx (ltx (ltx (ltx hx92 hg96.size) hg101.size) hg468.size) hg140.size
      have hg536 := (grown_trans hg517 hg525)
      have hx537 := ltx (ltx (ltx (fun k hk => ltl ((fun k hk => ltl (hx535 k hk) hz309) k hk) hz382) hg439.size) hg415.size) hg536.size
      have hx538 := ltx (fun k hk => ltl ((fun k hk => ltl (hx535 k hk) hz309) k hk) hz382) hg446.size
      have ap539 : ¬ X90 b408 := fun hx => nl ((lowb hbe412) _ rfl) (hx538 _ hx)
      have hx540 := ltx hx538 hg410.size
      have hx541 := ltx hx540 hg415.size
      have hk542 := ((hk391.grown hg439 (fun k hk => ltl ((fun k hk => ltl (hx535 k hk) hz309) k hk) hz382) nb).grown hg415 hx540 (rowne ap539)).grown hg536 hx541 nb
      refine gv_call (f := 33) (vs := [(.slice a87 (List.length r77.1) c88), (.agg #[(.int .i64 r77.2.1), (.int .i64 r77.2.2)]), (.slice a527 (List.length r521) c528), (.agg #[(.int .i64 r403.1), (.int .i64 r403.2)])]) (cap := []) _ (by decide) rfl rfl rfl (by kernel_rfl) (by kernel_rfl) enters33 (law4_list_ok fuel a87 c88 r77.1 (r77.2.1, r77.2.2) a527 c528 r521 (r403.1, r403.2) w524 (fun k => X90 k ∨ (fun k => blk a527 = some k) k) (fun k hk => (hk).elim (fun h => hx537 k h) (fun h => (fun k (hk : blk a527 = some k) => ho529.lt k hk) k h)) (hk542.wide (fun k hk => (.inl hk))) ((ho529.rd (Y := fun k => blk a527 = some k) (fun _ h => h.elim) (fun g e => e)).wide (fun k hk => (.inr hk))) r533 hr534) ?_
      rintro v545 w543 ⟨hg544, rfl⟩
      refine ⟨(fun _ => trivial), ?_⟩
      refine gv_nil <| gv_goA ?_
      refine gv_pre [14, 15] (bA 16 [0, 1, 2, 3, 4, 5, 6, 7, 8, 9, 10, 11, 12, 13, 14, 15]) 0 (by kernel_rfl) (by kernel_rfl) ?_
      refine gv_pureN 2 [81, 82] [(82, (.bool (!r533)))] (by kernel_rfl) ?_
      refine gv_nil <| gv_goA ?_
      refine gv_stageE (by kernel_rfl) ?_
      have e := sj h1; subst e
      refine gv_goal fun a hd hs hok => ?_
      have hg546 := (grown_trans hg525 hg544)
      have hB547 := bg hB532 hg546 nb
      have hz548 := (nt (nt (nt (nt hg437.size hg457.size) hg478.size) hg525.size) hg544.size)
      have hk549 := hb21.grown hg31 nb
      have lt550 := ltl ((ltb hk549) _ rfl) ((lowb hbe44) _ rfl)
      have hk551 := hb48.grown hg58 nb
      have lt552 := ltl ((ltb hk551) _ rfl) ((lowb hbe71) _ rfl)
      have lt553 := ltt lt550 lt552
      have lt554 := ltt lt553 lt441
      have lt555 := ltt lt554 lt444
      have lt556 := ltt lt555 lt448
      have hg557 := (grown_trans hg536 hg544)
      have hk558 := ((hb383.grown hg439 nb).grown hg415 (rowne (ng lt556))).grown hg557 nb
      have lt559 := ltt lt552 lt441
      have lt560 := ltt lt559 lt444
      have lt561 := ltt lt560 lt448
      have hk562 := ((hb384.grown hg439 nb).grown hg415 (rowne (ng lt561))).grown hg557 nb
      have hk563 := ((hk447.grown hg410 nb).grown hg415 (rowne (ng lt448))).grown hg557 nb
      have hg564 := (grown_trans hg31 hg42)
      have hg565 := (grown_trans hg58 hg69)
      have hx566 := ltx (ltx (ltx (ltx (ltx (ltx (ltx (ltx (ltx (ltx hx11 hg15.size) hg20.size) hg564.size) hg47.size) hg565.size) hg74.size) hg467.size) hg101.size) hg468.size) hg140.size
      have hx567 := ltx (fun k hk => ltl ((fun k hk => ltl (hx566 k hk) hz309) k hk) hz382) hg446.size
      have ap568 : ¬ X9 b408 := fun hx => nl ((lowb hbe412) _ rfl) (hx567 _ hx)
      have hx569 := ltx hx567 hg410.size
      have hx570 := ltx hx569 hg415.size
      have hk571 := ((hk388.grown hg439 (fun k hk => ltl ((fun k hk => ltl (hx566 k hk) hz309) k hk) hz382) nb).grown hg415 hx569 (rowne ap568)).grown hg557 hx570 nb
      have hx572 := ltx (ltx (ltx (ltx (ltx (ltx (ltx (ltx hx38 hg42.size) hg47.size) hg565.size) hg74.size) hg467.size) hg101.size) hg468.size) hg140.size
      have hx573 := ltx (fun k hk => ltl ((fun k hk => ltl (hx572 k hk) hz309) k hk) hz382) hg446.size
      have ap574 : ¬ X36 b408 := fun hx => nl ((lowb hbe412) _ rfl) (hx573 _ hx)
      have hx575 := ltx hx573 hg410.size
      have hx576 := ltx hx575 hg415.size
      have hk577 := ((hk389.grown hg439 (fun k hk => ltl ((fun k hk => ltl (hx572 k hk) hz309) k hk) hz382) nb).grown hg415 hx575 (rowne ap574)).grown hg557 hx576 nb
      have hk578 := hk523.grown hg546 (fun _ h => h.elim) nb
      exact ⟨hB547, hz548, hk558, hk562, hk563, hk571, hk577, hk578, hd, hs, ok_pick [1, 2, 7, 8, 9, 10, 15, 17, 82] hok (by kernel_rfl)⟩
    ·rintro a w435 ⟨hB579, hz580, hb581, hb582, hb583, hk584, hk585, hk586, hd, hs, hok⟩
     refine gv_in ?_ hd hs hok
     clear hd hs hok
     clear hB433 hlo432 ho425 hb416 hk391 hk390 hk389 hk388 hb386 hb385 hlo109 hx93 hx92 hx91 hlo82 hx66 hx65 hx64
     refine gv_cond (b := j434) (by kernel_rfl) (fun hc587 => ?_) (fun hc587 => ?_)
     ·replace h0 := ite_t hc587 h0
      refine gv_seq <| gv_region <| gv_pureN 1 [6] [(6, (.bool false))] (by kernel_rfl) ?_
      refine gv_nil <| gv_cret ?_
      have e := sj h0; subst e
      refine gv_ret (gv_done [(.bool false)] rfl ⟨(by kernel_rfl), trivial⟩ ?_)
      exact ⟨grown_of_below hB579, rfl⟩
     ·replace h0 := ite_f hc587 h0
      refine gv_skip <| gv_seq <| gv_seq <| gv_region <| gv_pureN 1 [83] [(83, (bp b133))] (by kernel_rfl) ?_
      refine gv_load (t := 3) (A := ⟨b133, 0, none⟩) (.int .i64 j319.1) [] (fun e => by cases e) rfl rfl rfl (by kernel_rfl) (by kernel_rfl) (by kernel_rfl) (inw0 (hb583.cell 0 rfl)) rfl ?_
      refine gv_pureN 1 [85] [(85, (.bool (j319.1 != 0)))] (by kernel_rfl) ?_
      refine gv_nil <| gv_cond (b := (j319.1 != 0)) (by kernel_rfl) (fun hc588 => ?_) (fun hc588 => ?_)
      ·replace h0 := ite_t hc588 h0
       refine gv_seq <| gv_region <| bindE h0 ?_; clear h0; intro j589 h1 h0
       refine gv_cut_ops (J := fun a w590 => Below w0.heap.size w0 w590 ∧ w435.heap.size ≤ w590.heap.size ∧ a.defers = [] ∧ a.tmps.size = 128 ∧ Ok [(6, (.bool j589))] a.tmps) ?_ ?_
       ·skip
        refine gv_pureN 1 [86] [(86, (.slice a6 (List.length r1.1) c7))] (by kernel_rfl) ?_
        refine gv_loadBox (t := 24) (b := b13) (t' := 24) (fr := (0, 0)) #[(.int .i64 r1.2.1), (.int .i64 r1.2.2)] [] (fun e => by cases e) rfl rfl rfl (by kernel_rfl) (by kernel_rfl) (by kernel_rfl) (by kernel_rfl) (inw0 hb581) rfl ?_
        refine gv_loadBox (t := 24) (b := b133) (t' := 24) (fr := (0, 0)) #[(.int .i64 j319.1), (.int .i64 j319.2)] [] (fun e => by cases e) rfl rfl rfl (by kernel_rfl) (by kernel_rfl) (by kernel_rfl) (by kernel_rfl) (inw0 hb583) rfl ?_
        refine bindE h1 ?_; clear h1; intro r591 hr592 h1
        have hg593 := (grown_trans hg31 hg42)
        have hg594 := (grown_trans hg58 hg69)
        have hg595 := (grown_trans hg85 hg96)
        have hg596 := (grown_trans (grown_trans (grown_trans hg112 hg118) hg131) hg135)
        have hx597 := ltx (ltx (ltx (ltx (ltx (ltx (ltx (ltx (ltx (ltx hx11 hg15.size) hg20.size) hg593.size) hg47.size) hg594.size) hg74.size) hg595.size) hg101.size) hg596.size) hg140.size
        have hg598 := (grown_trans (grown_trans hg394 hg406) hg410)
        have hx599 := ltx (ltx (ltx (fun k hk => ltl ((fun k hk => ltl (hx597 k hk) hz309) k hk) hz382) hg598.size) hg415.size) hg421.size
        refine gv_call0 (by kernel_rfl) rfl (by kernel_rfl) enters33 (law4_list_ok fuel a6 c7 r1.1 (r1.2.1, r1.2.2) none 0 ([] : List ByteArray) (j319.1, j319.2) w435 (fun k => X9 k ∨ (fun _ => False) k) (fun k hk => (hk).elim (fun h => (fun k hk => ltl (hx599 k hk) hz580) k h) (fun h => (fun _ h => h.elim) k h)) (hk584.wide (fun k hk => (.inl hk))) ((Rd.nil sE w435 (fun _ => False) none 0).wide (fun k hk => (.inr hk))) r591 hr592) ?_
        rintro v602 w600 ⟨hg601, rfl⟩
        refine gv_pureN 1 [90] [(90, (.bool r591))] (by kernel_rfl) ?_
        refine gv_split (s := 90) (g := r591) (by kernel_rfl) (fun hc603 => ?_) (fun hc603 => ?_)
        ·skip
         replace h1 := ite_t hc603 h1
         refine gv_pureN 1 [91] [(91, (.slice a33 (List.length r23.1) c34))] (by kernel_rfl) ?_
         have hk604 := hb582.grown hg601 nb
         refine gv_loadBox (t := 24) (b := b40) (t' := 24) (fr := (0, 0)) #[(.int .i64 r23.2.1), (.int .i64 r23.2.2)] [] (fun e => by cases e) rfl rfl rfl (by kernel_rfl) (by kernel_rfl) (by kernel_rfl) (by kernel_rfl) (inw0 hk604) rfl ?_
         have hk605 := hb583.grown hg601 nb
         refine gv_loadBox (t := 24) (b := b133) (t' := 24) (fr := (0, 0)) #[(.int .i64 j319.1), (.int .i64 j319.2)] [] (fun e => by cases e) rfl rfl rfl (by kernel_rfl) (by kernel_rfl) (by kernel_rfl) (by kernel_rfl) (inw0 hk605) rfl ?_
         refine bindE h1 ?_; clear h1; intro r606 hr607 h1
         have hx608 := ltx (ltx (ltx (ltx (ltx (ltx (ltx (ltx hx38 hg42.size) hg47.size) hg594.size) hg74.size) hg595.size) hg101.size) hg596.size) hg140.size
         have hx609 := ltx (ltx (ltx (fun k hk => ltl ((fun k hk => ltl (hx608 k hk) hz309) k hk) hz382) hg598.size) hg415.size) hg421.size
         have hx610 := ltx (fun k hk => ltl (hx609 k hk) hz580) hg601.size
         have hk611 := hk585.grown hg601 (fun k hk => ltl (hx609 k hk) hz580) nb
         refine gv_call0 (by kernel_rfl) rfl (by kernel_rfl) enters33 (law4_list_ok fuel a33 c34 r23.1 (r23.2.1, r23.2.2) none 0 ([] : List ByteArray) (j319.1, j319.2) w600 (fun k => X36 k ∨ (fun _ => False) k) (fun k hk => (hk).elim (fun h => hx610 k h) (fun h => (fun _ h => h.elim) k h)) (hk611.wide (fun k hk => (.inl hk))) ((Rd.nil sE w600 (fun _ => False) none 0).wide (fun k hk => (.inr hk))) r606 hr607) ?_
         rintro v614 w612 ⟨hg613, rfl⟩
         refine gv_pureN 2 [6, 95] [(6, (.bool r606))] (by kernel_rfl) ?_
         refine gv_nil ?_
         have e := sj h1; subst e
         refine gv_goal fun a hd hs hok => ?_
         have hg615 := (grown_trans hg601 hg613)
         have hB616 := bg hB579 hg615 nb
         have hz617 := (nt hg601.size hg613.size)
         exact ⟨hB616, hz617, hd, hs, ok_pick [6] hok (by kernel_rfl)⟩
        ·skip
         replace h1 := ite_f hc603 h1
         refine gv_pureN 6 [6, 91, 92, 93, 94, 95] [(6, (.bool false))] (by kernel_rfl) ?_
         refine gv_nil ?_
         have e := sj h1; subst e
         refine gv_goal fun a hd hs hok => ?_
         have hB618 := bg hB579 hg601 nb
         have hz619 := hg601.size
         exact ⟨hB618, hz619, hd, hs, ok_pick [6] hok (by kernel_rfl)⟩
       ·rintro a w590 ⟨hB620, hz621, hd, hs, hok⟩
        refine gv_in ?_ hd hs hok
        clear hd hs hok
        clear hz621 hc588 hc587 hk586 hk585 hk584 hb583 hb582 hb581 hz580 hB579 hl427 hl426 hg421 hg415 hbe412 hg410 hg406 hg394 hb387 hb384 hb383 hz382 hz309 hg140 hbe137 hg135 hg131 hB127 hg118 hg112 hb102 hg101 hbe98 hg96 hg85 hb75 hg74 hbe71 hg69 hg58 hlo55 hb48 hg47 hbe44 hg42 hx39 hx38 hx37 hg31 hlo28 hb21 hg20 hbe17 hg15 hx12 hx11
        refine gv_cret ?_
        have e := sj h0; subst e
        refine gv_ret (gv_done [(.bool j589)] rfl ⟨(by kernel_rfl), trivial⟩ ?_)
        exact ⟨grown_of_below hB620, rfl⟩
      ·replace h0 := ite_f hc588 h0
       refine gv_skip <| gv_seq <| gv_region <| gv_pureN 1 [97] [(97, (.string sep_1))] (by kernel_rfl) ?_
       refine bindE h0 ?_; clear h0; intro r622 hr623 h0
       refine gv_call0 (by kernel_rfl) rfl (by kernel_rfl) enters24 (ref4_Points_ok fuel sep_1 w435  r622 hr623) ?_
       rintro v626 w624 ⟨hg625, a627, c628, rfl, ho629, hl630⟩
       have hl631 : ∀ g, blk a627 = some g → w0.heap.size ≤ g := fun g e => Nat.le_trans hB579.size (hl630 g e)
       refine gv_pureN 5 [19, 20, 96, 99, 100] [(19, (.slice a627 (List.length r622.1) c628))] (by kernel_rfl) ?_
       refine gv_nil <| gv_seq <| bindE h0 ?_; clear h0; intro j632 h1 h0
       refine gv_cut_code (J := fun a w633 => Below w0.heap.size w0 w633 ∧ w624.heap.size ≤ w633.heap.size ∧ a.defers = [] ∧ a.tmps.size = 128 ∧ Ok [(6, (.bool j632))] a.tmps) ?_ ?_
       ·skip
        refine gv_drawA (by kernel_rfl) ?_
        intro w634 hg635
        refine gv_pre [0, 2, 3, 4, 6, 8, 9] (bA 28 [0, 2, 3, 4, 6, 8, 9]) 21 (by kernel_rfl) (by kernel_rfl) ?_
        refine gv_pureN 7 [101, 103, 104, 105, 107, 109, 110] [(101, (.slice a6 (List.length r1.1) c7)), (103, (.slice a423 (List.length r418.1) c424)), (104, (.slice a423 (List.length r418.1) c424)), (105, (.slice a627 (List.length r622.1) c628)), (107, (.int .i64 most_2)), (110, (.int .i64 ((List.length r622.1 : Nat) : Int)))] (by kernel_rfl) ?_
        refine gv_nil <| gv_goA ?_
        refine gv_stage (Cls w634 []) [0, 1, 2, 3, 4, 5, 6, 7, 8, 9, 10, 11] [(1, some true), (11, some true), (5, some false), (7, some false), (10, some false)] (bA 28 [0, 1, 2, 3, 4, 5, 6, 7, 8, 9, 10, 11]) 16 (by kernel_rfl) (by kernel_rfl) (Cls.refl _ _) ?_
        have hC636 := Cls.refl w634 []
        have hg637 := (grown_trans hg625 hg635)
        have hk638 := hb581.grown hg637 nb
        refine gv_loadBox (t := 24) (b := b13) (t' := 24) (fr := (0, 0)) #[(.int .i64 r1.2.1), (.int .i64 r1.2.2)] [] (fun e => by cases e) rfl rfl rfl (by kernel_rfl) (by kernel_rfl) (by kernel_rfl) (by kernel_rfl) (inw1 fun w' hC' => (hC'.box hk638 nm_nil)) rfl ?_
        have hk639 := hb583.grown hg637 nb
        refine gv_loadBox (t := 24) (b := b133) (t' := 24) (fr := (0, 0)) #[(.int .i64 j319.1), (.int .i64 j319.2)] [] (fun e => by cases e) rfl rfl rfl (by kernel_rfl) (by kernel_rfl) (by kernel_rfl) (by kernel_rfl) (inw1 fun w' hC' => (hC'.box hk639 nm_nil)) rfl ?_
        refine bindE h1 ?_; clear h1; intro r640 hr641 h1
        have hk642 := hk586.grown hg637 (fun _ h => h.elim) nb
        have hk643 := ho629.grown hg635 (fun _ h => h.elim) nb
        refine gv_call (f := 39) (vs := [(.slice a423 (List.length r418.1) c424), (.slice a627 (List.length r622.1) c628)]) (cap := []) _ (by decide) rfl rfl rfl (by kernel_rfl) (by kernel_rfl) enters39 (ref4_Places_ok fuel a423 c424 r418.1 a627 c628 r622.1 w634 (fun k => (fun k => blk a423 = some k) k ∨ (fun k => blk a627 = some k) k) (fun k hk => (hk).elim (fun h => (fun k (hk : blk a423 = some k) => hk642.lt k hk) k h) (fun h => (fun k (hk : blk a627 = some k) => hk643.lt k hk) k h)) ((hk642.rd (Y := fun k => blk a423 = some k) (fun _ h => h.elim) (fun g e => e)).wide (fun k hk => (.inl hk))) ((hk643.rd (Y := fun k => blk a627 = some k) (fun _ h => h.elim) (fun g e => e)).wide (fun k hk => (.inr hk))) r640 hr641) ?_
        rintro v646 w644 ⟨hg645, a647, c648, rfl, ho649, hl650⟩
        refine ⟨(fun _ => hC636.grown hg645 nb), ?_⟩
        have hB652 := bg hB579 hg637 nb
        have hl651 : ∀ g, blk a647 = some g → w0.heap.size ≤ g := fun g e => Nat.le_trans hB652.size (hl650 g e)
        refine bindE h1 ?_; clear h1; intro r653 hr654 h1
        refine gv_call (f := 44) (vs := [(.slice a647 (List.length r640) c648), (.int .i64 most_2)]) (cap := []) _ (by decide) rfl rfl rfl (by kernel_rfl) (by kernel_rfl) enters44 (ref4_FirstOf_ok fuel a647 c648 r640 most_2 w644 (fun k => (fun k => blk a647 = some k) k) (fun k hk => (fun k (hk : blk a647 = some k) => ho649.lt k hk) k hk) ((ho649.rd (Y := fun k => blk a647 = some k) (fun _ h => h.elim) (fun g e => e)).wide (fun k hk => hk)) r653 hr654) ?_
        rintro v657 w655 ⟨hg656, a658, c659, X661, rfl, ho660, hx662⟩
        have hC663 := hC636.grown hg645 nb
        refine ⟨(fun _ => hC663.grown hg656 nb), ?_⟩
        have hx664 : ∀ k, X661 k → k < w655.heap.size := fun k hk => (hx662 k hk).1
        have hB666 := bg hB652 hg645 nb
        have hx665 : ∀ k, X661 k → X0 k ∨ w0.heap.size ≤ k := fun k hk => (hx662 k hk).2.elim (fun h => (fun k (hk : blk a647 = some k) => Or.inr (hl651 k hk)) k h) (fun h => .inr (Nat.le_trans hB666.size h))
        refine bindE h1 ?_; clear h1; intro r667 hr668 h1
        have hg669 := (grown_trans hg645 hg656)
        have hk670 := hk642.grown hg669 (fun _ h => h.elim) nb
        refine gv_call (f := 45) (vs := [(.slice a423 (List.length r418.1) c424), (.slice a658 (List.length r653) c659), (.int .i64 ((List.length r622.1 : Nat) : Int))]) (cap := []) _ (by decide) rfl rfl rfl (by kernel_rfl) (by kernel_rfl) enters45 (ref4_Divide_ok fuel a423 c424 r418.1 a658 c659 r653 ((List.length r622.1 : Nat) : Int) w655 (fun k => (fun k => blk a423 = some k) k ∨ X661 k) (fun k hk => (hk).elim (fun h => (fun k (hk : blk a423 = some k) => hk670.lt k hk) k h) (fun h => hx664 k h)) ((hk670.rd (Y := fun k => blk a423 = some k) (fun _ h => h.elim) (fun g e => e)).wide (fun k hk => (.inl hk))) (ho660.wide (fun k hk => (.inr hk))) r667 hr668) ?_
        rintro v673 w671 ⟨hg672, a674, c675, rfl, ho676, hl677⟩
        have hC678 := hC663.grown hg656 nb
        refine ⟨(fun _ => hC678.grown hg672 nb), ?_⟩
        have hB680 := bg hB666 hg656 nb
        have hl679 : ∀ g, blk a674 = some g → w0.heap.size ≤ g := fun g e => Nat.le_trans hB680.size (hl677 g e)
        refine gv_nil <| gv_goA ?_
        refine gv_stage (fun _ => True) [0, 1, 2, 3, 4, 5, 6, 7, 8, 9, 10, 11, 12] [(12, some false)] (bA 28 [0, 1, 2, 3, 4, 5, 6, 7, 8, 9, 10, 11, 12]) 15 (by kernel_rfl) (by kernel_rfl) trivial ?_
        refine bindE h1 ?_; clear h1; intro r681 hr682 h1
        have hg683 := (grown_trans hg31 hg42)
        have hg684 := (grown_trans hg58 hg69)
        have hg685 := (grown_trans hg85 hg96)
        have hg686 := (grown_trans (grown_trans (grown_trans hg112 hg118) hg131) hg135)
        have hx687 := ltx (ltx (ltx (ltx (ltx (ltx (ltx (ltx (ltx (ltx hx11 hg15.size) hg20.size) hg683.size) hg47.size) hg684.size) hg74.size) hg685.size) hg101.size) hg686.size) hg140.size
        have hg688 := (grown_trans (grown_trans hg394 hg406) hg410)
        have hx689 := ltx (ltx (ltx (fun k hk => ltl ((fun k hk => ltl (hx687 k hk) hz309) k hk) hz382) hg688.size) hg415.size) hg421.size
        have hg690 := (grown_trans (grown_trans hg637 hg669) hg672)
        have hx691 := ltx (fun k hk => ltl (hx689 k hk) hz580) hg690.size
        have hk692 := hk584.grown hg690 (fun k hk => ltl (hx689 k hk) hz580) nb
        refine gv_call (f := 33) (vs := [(.slice a6 (List.length r1.1) c7), (.agg #[(.int .i64 r1.2.1), (.int .i64 r1.2.2)]), (.slice a674 (List.length r667) c675), (.agg #[(.int .i64 j319.1), (.int .i64 j319.2)])]) (cap := []) _ (by decide) rfl rfl rfl (by kernel_rfl) (by kernel_rfl) enters33 (law4_list_ok fuel a6 c7 r1.1 (r1.2.1, r1.2.2) a674 c675 r667 (j319.1, j319.2) w671 (fun k => X9 k ∨ (fun k => blk a674 = some k) k) (fun k hk => (hk).elim (fun h => hx691 k h) (fun h => (fun k (hk : blk a674 = some k) => ho676.lt k hk) k h)) (hk692.wide (fun k hk => (.inl hk))) ((ho676.rd (Y := fun k => blk a674 = some k) (fun _ h => h.elim) (fun g e => e)).wide (fun k hk => (.inr hk))) r681 hr682) ?_
        rintro v695 w693 ⟨hg694, rfl⟩
        refine ⟨(fun _ => trivial), ?_⟩
        refine gv_nil <| gv_goA ?_
        refine gv_pre [13, 14, 16, 17, 18, 19, 21, 22] (bA 28 [0, 1, 2, 3, 4, 5, 6, 7, 8, 9, 10, 11, 12, 13, 14, 16, 17, 18, 19, 21, 22]) 7 (by kernel_rfl) (by kernel_rfl) ?_
        refine gv_pureN 1 [114] [(114, (.bool r681))] (by kernel_rfl) ?_
        refine gv_sub [2, 9, 10, 15, 17, 19, 114] (σ' := [(2, (.int .i64 most_2)), (9, (.slice a33 (List.length r23.1) c34)), (10, (bp b40)), (15, (bp b133)), (17, (.slice a423 (List.length r418.1) c424)), (19, (.slice a627 (List.length r622.1) c628)), (114, (.bool r681))]) (by kernel_rfl) ?_
        refine gv_split (s := 114) (g := r681) (by kernel_rfl) (fun hc696 => ?_) (fun hc696 => ?_)
        ·skip
         replace h1 := ite_t hc696 h1
         refine gv_pureN 7 [115, 117, 118, 119, 120, 122, 123] [(115, (.slice a33 (List.length r23.1) c34)), (117, (.slice a423 (List.length r418.1) c424)), (118, (.slice a423 (List.length r418.1) c424)), (119, (.slice a627 (List.length r622.1) c628)), (120, (.int .i64 most_2)), (123, (.int .i64 ((List.length r622.1 : Nat) : Int)))] (by kernel_rfl) ?_
         refine gv_nil <| gv_goA ?_
         refine gv_stage (Cls w693 []) [0, 1, 2, 3, 4, 5, 6, 7, 8, 9, 10, 11, 12, 13, 14, 15, 16, 17, 18, 19, 20, 21, 22, 23, 24] [(15, some true), (24, some true), (20, some false), (23, some false)] (bA 28 [0, 1, 2, 3, 4, 5, 6, 7, 8, 9, 10, 11, 12, 13, 14, 15, 16, 17, 18, 19, 20, 21, 22, 23, 24]) 3 (by kernel_rfl) (by kernel_rfl) (Cls.refl _ _) ?_
         have hC697 := Cls.refl w693 []
         have hg698 := (grown_trans hg690 hg694)
         have hk699 := hb582.grown hg698 nb
         refine gv_loadBox (t := 24) (b := b40) (t' := 24) (fr := (0, 0)) #[(.int .i64 r23.2.1), (.int .i64 r23.2.2)] [] (fun e => by cases e) rfl rfl rfl (by kernel_rfl) (by kernel_rfl) (by kernel_rfl) (by kernel_rfl) (inw1 fun w' hC' => (hC'.box hk699 nm_nil)) rfl ?_
         have hg700 := (grown_trans (grown_trans hg669 hg672) hg694)
         have hk701 := hk639.grown hg700 nb
         refine gv_loadBox (t := 24) (b := b133) (t' := 24) (fr := (0, 0)) #[(.int .i64 j319.1), (.int .i64 j319.2)] [] (fun e => by cases e) rfl rfl rfl (by kernel_rfl) (by kernel_rfl) (by kernel_rfl) (by kernel_rfl) (inw1 fun w' hC' => (hC'.box hk701 nm_nil)) rfl ?_
         refine bindE h1 ?_; clear h1; intro r702 hr703 h1
         have hg704 := (grown_trans hg672 hg694)
         have hk705 := hk670.grown hg704 (fun _ h => h.elim) nb
         have hk706 := hk643.grown hg700 (fun _ h => h.elim) nb
         refine gv_call (f := 50) (vs := [(.slice a423 (List.length r418.1) c424), (.slice a627 (List.length r622.1) c628), (.int .i64 most_2)]) (cap := []) _ (by decide) rfl rfl rfl (by kernel_rfl) (by kernel_rfl) enters50 (ref4_PlacesLast_ok fuel a423 c424 r418.1 a627 c628 r622.1 most_2 w693 (fun k => (fun k => blk a423 = some k) k ∨ (fun k => blk a627 = some k) k) (fun k hk => (hk).elim (fun h => (fun k (hk : blk a423 = some k) => hk705.lt k hk) k h) (fun h => (fun k (hk : blk a627 = some k) => hk706.lt k hk) k h)) ((hk705.rd (Y := fun k => blk a423 = some k) (fun _ h => h.elim) (fun g e => e)).wide (fun k hk => (.inl hk))) ((hk706.rd (Y := fun k => blk a627 = some k) (fun _ h => h.elim) (fun g e => e)).wide (fun k hk => (.inr hk))) r702 hr703) ?_
         rintro v709 w707 ⟨hg708, a710, c711, rfl, ho712, hl713⟩
         refine ⟨(fun _ => hC697.grown hg708 nb), ?_⟩
         have hB715 := bg hB680 hg704 nb
         have hl714 : ∀ g, blk a710 = some g → w0.heap.size ≤ g := fun g e => Nat.le_trans hB715.size (hl713 g e)
         refine bindE h1 ?_; clear h1; intro r716 hr717 h1
         have hk718 := hk705.grown hg708 (fun _ h => h.elim) nb
         refine gv_call (f := 45) (vs := [(.slice a423 (List.length r418.1) c424), (.slice a710 (List.length r702) c711), (.int .i64 ((List.length r622.1 : Nat) : Int))]) (cap := []) _ (by decide) rfl rfl rfl (by kernel_rfl) (by kernel_rfl) enters45 (ref4_Divide_ok fuel a423 c424 r418.1 a710 c711 r702 ((List.length r622.1 : Nat) : Int) w707 (fun k => (fun k => blk a423 = some k) k ∨ (fun k => blk a710 = some k) k) (fun k hk => (hk).elim (fun h => (fun k (hk : blk a423 = some k) => hk718.lt k hk) k h) (fun h => (fun k (hk : blk a710 = some k) => ho712.lt k hk) k h)) ((hk718.rd (Y := fun k => blk a423 = some k) (fun _ h => h.elim) (fun g e => e)).wide (fun k hk => (.inl hk))) ((ho712.rd (Y := fun k => blk a710 = some k) (fun _ h => h.elim) (fun g e => e)).wide (fun k hk => (.inr hk))) r716 hr717) ?_
         rintro v721 w719 ⟨hg720, a722, c723, rfl, ho724, hl725⟩
         have hC726 := hC697.grown hg708 nb
         refine ⟨(fun _ => hC726.grown hg720 nb), ?_⟩
         have hB728 := bg hB715 hg708 nb
         have hl727 : ∀ g, blk a722 = some g → w0.heap.size ≤ g := fun g e => Nat.le_trans hB728.size (hl725 g e)
         refine gv_nil <| gv_goA ?_
         refine gv_stage (fun _ => True) [0, 1, 2, 3, 4, 5, 6, 7, 8, 9, 10, 11, 12, 13, 14, 15, 16, 17, 18, 19, 20, 21, 22, 23, 24, 25] [(25, some false)] (bA 28 [0, 1, 2, 3, 4, 5, 6, 7, 8, 9, 10, 11, 12, 13, 14, 15, 16, 17, 18, 19, 20, 21, 22, 23, 24, 25]) 2 (by kernel_rfl) (by kernel_rfl) trivial ?_
         refine bindE h1 ?_; clear h1; intro r729 hr730 h1
         have hx731 := ltx (ltx (ltx (ltx (ltx (ltx (ltx (ltx hx38 hg42.size) hg47.size) hg684.size) hg74.size) hg685.size) hg101.size) hg686.size) hg140.size
         have hx732 := ltx (ltx (ltx (fun k hk => ltl ((fun k hk => ltl (hx731 k hk) hz309) k hk) hz382) hg688.size) hg415.size) hg421.size
         have hg733 := (grown_trans (grown_trans hg698 hg708) hg720)
         have hx734 := ltx (fun k hk => ltl (hx732 k hk) hz580) hg733.size
         have hk735 := hk585.grown hg733 (fun k hk => ltl (hx732 k hk) hz580) nb
         refine gv_call (f := 33) (vs := [(.slice a33 (List.length r23.1) c34), (.agg #[(.int .i64 r23.2.1), (.int .i64 r23.2.2)]), (.slice a722 (List.length r716) c723), (.agg #[(.int .i64 j319.1), (.int .i64 j319.2)])]) (cap := []) _ (by decide) rfl rfl rfl (by kernel_rfl) (by kernel_rfl) enters33 (law4_list_ok fuel a33 c34 r23.1 (r23.2.1, r23.2.2) a722 c723 r716 (j319.1, j319.2) w719 (fun k => X36 k ∨ (fun k => blk a722 = some k) k) (fun k hk => (hk).elim (fun h => hx734 k h) (fun h => (fun k (hk : blk a722 = some k) => ho724.lt k hk) k h)) (hk735.wide (fun k hk => (.inl hk))) ((ho724.rd (Y := fun k => blk a722 = some k) (fun _ h => h.elim) (fun g e => e)).wide (fun k hk => (.inr hk))) r729 hr730) ?_
         rintro v738 w736 ⟨hg737, rfl⟩
         refine ⟨(fun _ => trivial), ?_⟩
         have hz739 := (nt (nt (nt (nt (nt (nt hg635.size hg645.size) hg656.size) hg672.size) hg694.size) hg708.size) hg720.size)
         clear hg733 hx732 hx731 hr730 hC726 hl725 hr717 hB715 hl713 hk705 hg704 hr703 hg700 hg698 hC697 hc696 hg690 hx689 hg688 hx687 hg686 hg685 hg684 hg683 hr682 hB680 hC678 hl677 hk670 hg669 hr668 hB666 hC663 hx662 hr654 hB652 hl650 hk643 hk642 hr641 hk639 hg637 hC636 hg635 hl630 ho629 hg625 hr623 hc588 hc587 hk586 hk585 hk584 hb583 hb582 hb581 hz580 hB579 hl426 hg421 hg415 hbe412 hg410 hg406 hg394 hb387 hb384 hb383 hz382 hz309 hg140 hg135 hg112 hb102 hg101 hbe98 hg96 hg85 hb75 hg74 hbe71 hg69 hg58 hb48 hg47 hbe44 hg42 hx38 hx37 hg31 hb21 hg20 hbe17 hg15 hx11
         refine gv_nil <| gv_goA ?_
         refine gv_pre [26, 27] (bA 28 [0, 1, 2, 3, 4, 5, 6, 7, 8, 9, 10, 11, 12, 13, 14, 15, 16, 17, 18, 19, 20, 21, 22, 23, 24, 25, 26, 27]) 0 (by kernel_rfl) (by kernel_rfl) ?_
         refine gv_pureN 2 [6, 127] [(6, (.bool r729))] (by kernel_rfl) ?_
         refine gv_nil <| gv_goA ?_
         refine gv_stageE (by kernel_rfl) ?_
         have e := sj h1; subst e
         refine gv_goal fun a hd hs hok => ?_
         have hg740 := (grown_trans hg720 hg737)
         have hB741 := bg hB728 hg740 nb
         have hz742 := (nt hz739 hg737.size)
         exact ⟨hB741, hz742, hd, hs, ok_pick [6] hok (by kernel_rfl)⟩
        ·skip
         replace h1 := ite_f hc696 h1
         refine gv_pureN 7 [115, 117, 118, 119, 120, 122, 123] [(115, undef), (117, undef), (118, undef), (119, undef), (120, undef), (123, undef)] (by kernel_rfl) ?_
         refine gv_nil <| gv_goA ?_
         refine gv_stage (Cls w693 []) [0, 1, 2, 3, 4, 5, 6, 7, 8, 9, 10, 11, 12, 13, 14, 15, 16, 17, 18, 19, 20, 21, 22, 23, 24] [(15, some true), (24, some true), (20, some false), (23, some false)] (bA 28 [0, 1, 2, 3, 4, 5, 6, 7, 8, 9, 10, 11, 12, 13, 14, 15, 16, 17, 18, 19, 20, 21, 22, 23, 24]) 3 (by kernel_rfl) (by kernel_rfl) (Cls.refl _ _) ?_
         have hC743 := Cls.refl w693 []
         refine gv_pureNC hC743 4 [116, 121, 124, 125] [(116, undef), (124, undef), (125, undef)] (by kernel_rfl) ?_
         refine gv_nil <| gv_goA ?_
         refine gv_stage (fun _ => True) [0, 1, 2, 3, 4, 5, 6, 7, 8, 9, 10, 11, 12, 13, 14, 15, 16, 17, 18, 19, 20, 21, 22, 23, 24, 25] [(25, some false)] (bA 28 [0, 1, 2, 3, 4, 5, 6, 7, 8, 9, 10, 11, 12, 13, 14, 15, 16, 17, 18, 19, 20, 21, 22, 23, 24, 25]) 2 (by kernel_rfl) (by kernel_rfl) trivial ?_
         refine gv_pureNC trivial 1 [126] [(126, undef)] (by kernel_rfl) ?_
         refine gv_nil <| gv_goA ?_
         refine gv_pre [26, 27] (bA 28 [0, 1, 2, 3, 4, 5, 6, 7, 8, 9, 10, 11, 12, 13, 14, 15, 16, 17, 18, 19, 20, 21, 22, 23, 24, 25, 26, 27]) 0 (by kernel_rfl) (by kernel_rfl) ?_
         refine gv_pureN 2 [6, 127] [(6, (.bool false))] (by kernel_rfl) ?_
         refine gv_nil <| gv_goA ?_
         refine gv_stageE (by kernel_rfl) ?_
         have e := sj h1; subst e
         refine gv_goal fun a hd hs hok => ?_
         have hg744 := (grown_trans hg672 hg694)
         have hB745 := bg hB680 hg744 nb
         have hz746 := (nt (nt (nt (nt hg635.size hg645.size) hg656.size) hg672.size) hg694.size)
         exact ⟨hB745, hz746, hd, hs, ok_pick [6] hok (by kernel_rfl)⟩
       ·rintro a w633 ⟨hB747, hz748, hd, hs, hok⟩
        refine gv_in ?_ hd hs hok
        clear hd hs hok
        clear hz748 hl631 hl630 ho629 hg625 hr623 hc588 hc587 hk586 hk585 hk584 hb583 hb582 hb581 hz580 hB579 hl427 hl426 hg421 hg415 hbe412 hg410 hg406 hg394 hb387 hb384 hb383 hz382 hz309 hg140 hbe137 hg135 hg131 hB127 hg118 hg112 hb102 hg101 hbe98 hg96 hg85 hb75 hg74 hbe71 hg69 hg58 hlo55 hb48 hg47 hbe44 hg42 hx39 hx38 hx37 hg31 hlo28 hb21 hg20 hbe17 hg15 hx12 hx11
        refine gv_cret ?_
        have e := sj h0; subst e
        refine gv_ret (gv_done [(.bool j632)] rfl ⟨(by kernel_rfl), trivial⟩ ?_)
        exact ⟨grown_of_below hB747, rfl⟩

end Go.Proofs.YtkmcegicngjhbaaDoor
