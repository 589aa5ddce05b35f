import Derived.Test.YtkmcegicngjhbaaDoorM1
set_option linter.all false
namespace Go.Gv.R
open Go Go.Gv Go.Gv.D Go.Lib

/-! strings.Map over a valid text -/
noncomputable def mapG {σ : Type} (U : Nat → Int → σ → Option (Int × σ)) (fuel : Nat) (mapping_0c0 : σ) (s_1 : ByteArray) : Option (ByteArray × σ) :=
  (Option.bind (loopN (fun (s15 : (ByteArray × σ × (Option (List UInt8)) × Nat)) => (if (decide (s15.2.2.2 < ByteArray.size s_1)) then (Option.bind (U fuel (runeI s_1 s15.2.2.2) s15.2.1) fun r31 => (if ((r31.1 == (runeI s_1 s15.2.2.2)) && ((runeI s_1 s15.2.2.2) != 65533)) then (some (.inl (s15.1, r31.2, s15.2.2.1, (s15.2.2.2 + runeN s_1 s15.2.2.2)))) else (Option.bind (if ((runeI s_1 s15.2.2.2) == 65533) then (Option.bind (ssub s15.1 ((s15.2.2.2 : Nat) : Int) ((ByteArray.size s15.1 : Nat) : Int)) fun x57 => (Option.bind (utf8_DecodeRuneInString fuel x57) fun r59 => (if ((r59.2 != 1) && (r31.1 == r59.1)) then (some (.inr (.inl (s15.1, r31.2, s15.2.2.1, (s15.2.2.2 + runeN s_1 s15.2.2.2))))) else (some (.inl r59.2))))) else (Option.bind (utf8_RuneLen fuel (runeI s_1 s15.2.2.2)) fun r85 => (some (.inl r85)))) (cont fun (s54 : Int) => (Option.bind (growB s15.2.2.1 (IntKind.i64.wrap (((ByteArray.size s15.1 : Nat) : Int) + 4))) fun y105 => (Option.bind (ssub s15.1 0 ((s15.2.2.2 : Nat) : Int)) fun x115 => (Option.bind (wstrB y105 x115) fun y117 => (Option.bind (if (decide (r31.1 ≥ 0)) then (Option.bind (wruneB y117 r31.1) fun y130 => (some (y130))) else (some (y117))) fun (j127 : (Option (List UInt8))) => (Option.bind (ssub s15.1 (IntKind.i64.wrap (((s15.2.2.2 : Nat) : Int) + s54)) ((ByteArray.size s15.1 : Nat) : Int)) fun x145 => (some (.inr ((x145, r31.2, j127))))))))))))) else (some (.inr ((s15.1, s15.2.1, s15.2.2.1)))))) fuel (s_1, mapping_0c0, none, 0)) fun (j13 : (ByteArray × σ × (Option (List UInt8)))) => (if (Option.isNone j13.2.2) then (some ((j13.1, j13.2.1))) else (Option.bind (loopN (fun (s171 : (σ × (Option (List UInt8)) × Nat)) => (if (decide (s171.2.2 < ByteArray.size j13.1)) then (Option.bind (U fuel (runeI j13.1 s171.2.2) s171.1) fun r186 => (Option.bind (if (decide (r186.1 ≥ 0)) then (if (decide (r186.1 < 128)) then (Option.bind (wbyteB s171.2.1 (IntKind.u8.wrap (r186.1))) fun y198 => (some (y198))) else (Option.bind (wruneB s171.2.1 r186.1) fun y217 => (some (y217)))) else (some (s171.2.1))) fun (j194 : (Option (List UInt8))) => (some (.inl (r186.2, j194, (s171.2.2 + runeN j13.1 s171.2.2)))))) else (some (.inr ((s171.1, s171.2.1)))))) fuel (j13.2.1, j13.2.2, 0)) fun (j169 : (σ × (Option (List UInt8)))) => (Option.bind (strB j169.2) fun y256 => (some ((y256, j169.1)))))))
noncomputable def mapG0 (U : Nat → Int → Option Int) (fuel : Nat) (s_1 : ByteArray) : Option ByteArray :=
  (Option.bind (loopN (fun (s15 : (ByteArray × (Option (List UInt8)) × Nat)) => (if (decide (s15.2.2 < ByteArray.size s_1)) then (Option.bind (U fuel (runeI s_1 s15.2.2)) fun r29 => (if ((r29 == (runeI s_1 s15.2.2)) && ((runeI s_1 s15.2.2) != 65533)) then (some (.inl (s15.1, s15.2.1, (s15.2.2 + runeN s_1 s15.2.2)))) else (Option.bind (if ((runeI s_1 s15.2.2) == 65533) then (Option.bind (ssub s15.1 ((s15.2.2 : Nat) : Int) ((ByteArray.size s15.1 : Nat) : Int)) fun x49 => (Option.bind (utf8_DecodeRuneInString fuel x49) fun r51 => (if ((r51.2 != 1) && (r29 == r51.1)) then (some (.inr (.inl (s15.1, s15.2.1, (s15.2.2 + runeN s_1 s15.2.2))))) else (some (.inl r51.2))))) else (Option.bind (utf8_RuneLen fuel (runeI s_1 s15.2.2)) fun r74 => (some (.inl r74)))) (cont fun (s46 : Int) => (Option.bind (growB s15.2.1 (IntKind.i64.wrap (((ByteArray.size s15.1 : Nat) : Int) + 4))) fun y91 => (Option.bind (ssub s15.1 0 ((s15.2.2 : Nat) : Int)) fun x100 => (Option.bind (wstrB y91 x100) fun y102 => (Option.bind (if (decide (r29 ≥ 0)) then (Option.bind (wruneB y102 r29) fun y114 => (some (y114))) else (some (y102))) fun (j111 : (Option (List UInt8))) => (Option.bind (ssub s15.1 (IntKind.i64.wrap (((s15.2.2 : Nat) : Int) + s46)) ((ByteArray.size s15.1 : Nat) : Int)) fun x127 => (some (.inr ((x127, j111))))))))))))) else (some (.inr ((s15.1, s15.2.1)))))) fuel (s_1, none, 0)) fun (j13 : (ByteArray × (Option (List UInt8)))) => (if (Option.isNone j13.2) then (some (j13.1)) else (Option.bind (loopN (fun (s152 : ((Option (List UInt8)) × Nat)) => (if (decide (s152.2 < ByteArray.size j13.1)) then (Option.bind (U fuel (runeI j13.1 s152.2)) fun r165 => (Option.bind (if (decide (r165 ≥ 0)) then (if (decide (r165 < 128)) then (Option.bind (wbyteB s152.1 (IntKind.u8.wrap (r165))) fun y174 => (some (y174))) else (Option.bind (wruneB s152.1 r165) fun y191 => (some (y191)))) else (some (s152.1))) fun (j170 : (Option (List UInt8))) => (some (.inl (j170, (s152.2 + runeN j13.1 s152.2)))))) else (some (.inr (s152.1))))) fuel (j13.2, 0)) fun (j150 : (Option (List UInt8))) => (Option.bind (strB j150) fun y224 => (some (y224))))))
theorem map_title_eq : strings_Map_ToTitle_1 = mapG textstr_ToTitle_1 := rfl
theorem map_upper_eq : strings_Map_upper = mapG0 textstr_upper := rfl
theorem map_lower_eq : strings_Map_lower = mapG0 textstr_lower := rfl

theorem RuneLen_tot {r : Nat} (h : Scal r) : Tot (fun fuel => utf8_RuneLen fuel (r : Int)) (fun x => x = ((encR r).length : Int)) := by
  unfold utf8_RuneLen
  refine Tot.if_ (decide_eq_false (by omega)) ?_
  refine Tot.ite (fun h1 => Tot.ret ?_) fun h1 => Tot.ite (fun h2 => Tot.ret ?_) fun h2 => Tot.if_ ?_ (Tot.ite (fun h3 => Tot.ret ?_) fun h3 => Tot.it ?_ (Tot.ret ?_))
  · have h1 := of_decide_eq_true h1; rw [encR1 (by omega)]; rfl
  · have h1 := of_decide_eq_false h1; have h2 := of_decide_eq_true h2; rw [encR2 (by omega) (by omega)]; rfl
  · rcases h with h | h
    · rw [decide_eq_false (show ¬ (55296 : Int) ≤ (r : Int) by omega)]; rfl
    · rw [decide_eq_false (show ¬ (r : Int) ≤ 57343 by omega), Bool.and_false]
  · have h2 := of_decide_eq_false h2; have h3 := of_decide_eq_true h3; rw [encR3 (by omega) (by omega) h]; rfl
  · have h3 := of_decide_eq_false h3; exact decide_eq_true (by rcases h with h | h <;> omega)
  · have h3 := of_decide_eq_false h3; rw [encR4 (by omega) (by rcases h with h | h <;> omega)]; rfl

theorem enc_fffd : encR 65533 = [239, 191, 189] := by rw [encR3 (by omega) (by omega) (.inr ⟨by omega, by omega⟩)]; rfl

theorem Decode_fffd {s : ByteArray} {l : List UInt8} (h : bytesOf s = encR 65533 ++ l) : Tot (fun fuel => utf8_DecodeRuneInString fuel s) (fun r => r = (65533, 3)) := by
  rw [enc_fffd] at h
  have hsz : s.size = l.length + 3 := by rw [size_bytes, h]; simp
  have s0 : sidx s 0 = some 239 := by have := sidx_nat (s := s) (i := 0) (by rw [h]; simp); rw [show ((0 : Nat) : Int) = 0 from rfl] at this; rw [this]; simp [h]
  have s1 : sidx s 1 = some 191 := by have := sidx_nat (s := s) (i := 1) (by rw [h]; simp); rw [show ((1 : Nat) : Int) = 1 from rfl] at this; rw [this]; simp [h]
  have s2 : sidx s 2 = some 189 := by have := sidx_nat (s := s) (i := 2) (by rw [h]; simp); rw [show ((2 : Nat) : Int) = 2 from rfl] at this; rw [this]; simp [h]
  unfold utf8_DecodeRuneInString
  have hne : (!(s.toList == (strOf []).toList)) = true := by
    rw [toList_bytes, toList_bytes, h, bytes_str]; rfl
  refine Tot.bindq (P := fun j => j = false) ?_ fun j hj => ?_
  · exact Tot.it hne (Tot.bind0 s0 (Tot.ret (by decide)))
  subst hj
  refine Tot.if_ rfl (Tot.bindq (P := fun r => r = (65533, 3)) ?_ fun r hr => Tot.ret (by subst hr; rfl))
  unfold utf8_decodeRuneInStringSlow
  refine Tot.if_ (decide_eq_false (by omega)) (Tot.bind0 s0 (Tot.bind0 (a := (3 : UInt8)) (by decide) ?_))
  refine Tot.if_ (by decide) (Tot.bind0 (a := (3 : Int)) (by decide) (Tot.bind0 (a := ((128, 191) : Int × Int)) (by decide) ?_))
  refine Tot.if_ (decide_eq_false (by omega)) (Tot.bind0 s1 (Tot.bindq (P := fun j => j = false) (Tot.if_ (by decide) (Tot.ret (by decide))) fun j hj => ?_))
  subst hj
  refine Tot.if_ rfl (Tot.if_ (by decide) (Tot.bind0 s2 (Tot.if_ (by decide) (Tot.it (by decide) (Tot.bind0 (a := (65533 : Int)) (by decide) (Tot.ret rfl))))))

def mapS {σ : Type} (f : σ → Nat → Nat × σ) : σ → List Nat → List Nat
  | _, [] => []
  | st, c :: p => (f st c).1 :: mapS f (f st c).2 p
def endS {σ : Type} (f : σ → Nat → Nat × σ) : σ → List Nat → σ
  | st, [] => st
  | st, c :: p => endS f (f st c).2 p
theorem mapS_app {σ : Type} (f : σ → Nat → Nat × σ) : ∀ (st : σ) (a b : List Nat), mapS f st (a ++ b) = mapS f st a ++ mapS f (endS f st a) b
  | _, [], _ => rfl
  | st, c :: a, b => by simp only [List.cons_append, mapS, endS, mapS_app f _ a b]
theorem endS_app {σ : Type} (f : σ → Nat → Nat × σ) : ∀ (st : σ) (a b : List Nat), endS f st (a ++ b) = endS f (endS f st a) b
  | _, [], _ => rfl
  | st, c :: a, b => by simp only [List.cons_append, endS, endS_app f _ a b]
theorem mapS_len {σ : Type} (f : σ → Nat → Nat × σ) : ∀ (st : σ) (a : List Nat), (mapS f st a).length = a.length
  | _, [] => rfl
  | st, c :: a => by simp only [mapS, List.length_cons, mapS_len f _ a]
theorem mapS_scal {σ : Type} {f : σ → Nat → Nat × σ} (hf : ∀ c st, Scal c → Scal (f st c).1) : ∀ (st : σ) (a : List Nat), (∀ r ∈ a, Scal r) → ∀ r ∈ mapS f st a, Scal r
  | _, [], _ => fun r h => by cases h
  | st, c :: a, h => fun r hr => by
    simp only [mapS, List.mem_cons] at hr
    rcases hr with e | e
    · subst e; exact hf c st (h c (List.mem_cons_self ..))
    · exact mapS_scal hf _ a (fun x hx => h x (List.mem_cons_of_mem _ hx)) r e

theorem enc_take (a b : List Nat) : (enc (a ++ b)).take (enc a).length = enc a := by rw [enc_app, List.take_left]
theorem enc_drop (a b : List Nat) : (enc (a ++ b)).drop (enc a).length = enc b := by rw [enc_app, List.drop_left]
theorem scal_i32 {r : Nat} (h : Scal r) : r ≤ 1114111 := by rcases h with h | h <;> omega

section
variable {σ : Type} {U : Nat → Int → σ → Option (Int × σ)} {f : σ → Nat → Nat × σ}
theorem mapG_tot (hU : ∀ c st, Scal c → Tot (fun n => U n (c : Int) st) (fun r => r = (((f st c).1 : Int), (f st c).2))) (hf : ∀ c st, Scal c → Scal (f st c).1) (h0 : ∀ st, (f st 65533).1 = 65533)
    {p : List Nat} (hp : ∀ r ∈ p, Scal r) (hl : (enc p).length ≤ 1048576) (st0 : σ) : Tot (fun n => mapG U n st0 (strOf (enc p))) (fun r => r = (strOf (enc (mapS f st0 p)), endS f st0 p)) := by
  unfold mapG
  simp only [size_str]
  refine Tot.bindq (P := fun j => (j = (strOf (enc p), endS f st0 p, none) ∧ mapS f st0 p = p) ∨ ∃ a c b, p = a ++ c :: b ∧ mapS f st0 a = a ∧ j = (strOf (enc b), (f (endS f st0 a) c).2, some (enc a ++ encR (f (endS f st0 a) c).1))) ?_ fun j hj => ?_
  · refine Tot.loop (fun st => ∃ a b, p = a ++ b ∧ mapS f st0 a = a ∧ st = (strOf (enc p), endS f st0 a, none, (enc a).length)) (fun st => (enc p).length + 1 - st.2.2.2) ⟨[], p, rfl, rfl, rfl⟩ fun st ⟨a, b, e, hm, hst⟩ => ?_
    subst hst
    dsimp only
    simp only [size_str]
    cases b with
    | nil =>
      rw [List.append_nil] at e; subst e
      exact Tot.if_ (decide_eq_false (by omega)) (Tot.ret (.inl ⟨rfl, hm⟩))
    | cons c b =>
      have hc : Scal c := hp c (by rw [e]; simp)
      have hlen : (enc p).length = (enc a).length + (encR c).length + (enc b).length := by rw [e, enc_app, enc_cons, List.length_append, List.length_append]; omega
      have hcp := encR_pos c
      refine Tot.it (decide_eq_true (by omega)) ?_
      obtain ⟨hr1, hr2⟩ := rune_at (s := strOf (enc p)) (p := a) (t := b) hc (by rw [bytes_str, e])
      rw [hr1, hr2]
      refine Tot.bindq (hU c (endS f st0 a) hc) fun r hr => ?_
      subst hr
      dsimp only
      have hnx : mapS f st0 (a ++ [c]) = a ++ [(f (endS f st0 a) c).1] := by rw [mapS_app, hm]; rfl
      have hen : endS f st0 (a ++ [c]) = (f (endS f st0 a) c).2 := by rw [endS_app]; rfl
      have hse : (enc (a ++ [c])).length = (enc a).length + (encR c).length := by rw [enc_snoc, List.length_append]
      have again : ((f (endS f st0 a) c).1 = c) → ∃ a' b', p = a' ++ b' ∧ mapS f st0 a' = a' ∧ (strOf (enc p), (f (endS f st0 a) c).2, (none : Option (List UInt8)), (enc a).length + (encR c).length) = (strOf (enc p), endS f st0 a', none, (enc a').length) := fun h =>
        ⟨a ++ [c], b, by rw [e]; simp, by rw [hnx, h], by rw [hen, hse]⟩
      refine Tot.ite (fun h => Tot.ret ?_) fun h => ?_
      · rw [Bool.and_eq_true] at h
        have h1 : (f (endS f st0 a) c).1 = c := by have := beq_iff_eq.1 h.1; omega
        exact ⟨again h1, by dsimp only; omega⟩
      · by_cases h33 : c = 65533
        · subst h33
          have h1 := h0 (endS f st0 a)
          refine Tot.bindq (P := fun x => x = .inr (.inl (strOf (enc p), (f (endS f st0 a) 65533).2, none, (enc a).length + (encR 65533).length))) ?_ fun x hx => ?_
          · refine Tot.it rfl (Tot.bind0 (ssub_str (by omega) (Nat.le_refl _)) (Tot.bindq (Decode_fffd (l := enc b) ?_) fun r hr => ?_))
            · rw [bytes_str, List.take_of_length_le (Nat.le_refl _), e, enc_drop, enc_cons]
            · subst hr
              rw [h1]
              exact Tot.it rfl (Tot.ret rfl)
          · subst hx
            exact Tot.contr ⟨again h1, by dsimp only; omega⟩
        · have hne : (f (endS f st0 a) c).1 ≠ c := fun e1 => by
            rw [e1] at h
            have h2 : ((c : Int) != 65533) = true := bne_iff_ne.2 (by omega)
            rw [h2, beq_self_eq_true] at h; cases h
          refine Tot.bindq (P := fun x => x = .inl ((encR c).length : Int)) (Tot.if_ (beq_eq_false_iff_ne.2 (by omega)) (Tot.bindq (RuneLen_tot hc) fun r hr => Tot.ret (by subst hr; rfl))) fun x hx => ?_
          subst hx
          refine Tot.contl ?_
          have hw : IntKind.i64.wrap (((enc p).length : Nat) + 4) = (((enc p).length + 4 : Nat) : Int) := iw (by omega) (by omega)
          refine Tot.bind0 (a := some []) (by unfold growB; simp only; rw [hw, if_pos ⟨by omega, by omega⟩]) ?_
          have hsub : ssub (strOf (enc p)) 0 ((enc a).length : Int) = some (strOf (enc a)) := by
            have := ssub_str (l := enc p) (i := 0) (j := (enc a).length) (by omega) (by omega)
            rw [show ((0 : Nat) : Int) = 0 from rfl] at this
            rw [this, List.drop_zero, e, enc_take]
          refine Tot.bind0 hsub (Tot.bind0 (a := some (enc a)) ?_ ?_)
          · unfold wstrB
            simp only [List.length_nil, size_str, Nat.zero_add, List.nil_append]
            rw [if_pos (by omega)]; rfl
          have hsc := hf c (endS f st0 a) hc
          have hsm := scal_i32 hsc
          refine Tot.bindq (P := fun x => x = some (enc a ++ encR (f (endS f st0 a) c).1)) (Tot.it (decide_eq_true (by omega)) (Tot.bind0 (a := some (enc a ++ encR (f (endS f st0 a) c).1)) ?_ (Tot.ret rfl))) fun x hx => ?_
          · unfold wruneB
            simp only
            rw [if_pos ⟨by omega, by omega, by omega⟩]; rfl
          subst hx
          have hw2 : IntKind.i64.wrap (((enc a).length : Int) + ((encR c).length : Int)) = (((enc a).length + (encR c).length : Nat) : Int) := iw (by omega) (by omega)
          rw [hw2]
          refine Tot.bind0 (ssub_str (by omega) (Nat.le_refl _)) (Tot.ret (.inr ⟨a, c, b, e, hm, ?_⟩))
          rw [List.take_of_length_le (Nat.le_refl _), ← hse]
          have : p = (a ++ [c]) ++ b := by rw [e]; simp
          rw [this, enc_drop]
  · rcases hj with ⟨hj, hm⟩ | ⟨a, c, b, e, hm, hj⟩
    · subst hj
      exact Tot.it rfl (Tot.ret (by rw [hm]))
    · subst hj
      dsimp only
      refine Tot.if_ rfl ?_
      have hc : Scal c := hp c (by rw [e]; simp)
      have hb : ∀ r ∈ b, Scal r := fun r hr => hp r (by rw [e]; simp [hr])
      have hlen : (enc p).length = (enc a).length + (encR c).length + (enc b).length := by rw [e, enc_app, enc_cons, List.length_append, List.length_append]; omega
      have hap := enc_len_ge p
      have hal := enc_len_le a
      have hpl : p.length = a.length + 1 + b.length := by rw [e, List.length_append, List.length_cons]; omega
      refine Tot.bindq (P := fun j => j = (endS f st0 p, some (enc (mapS f st0 p)))) ?_ fun j hj => by subst hj; exact Tot.bind0 (a := strOf (enc (mapS f st0 p))) rfl (Tot.ret rfl)
      have hwhole : mapS f st0 p = a ++ (f (endS f st0 a) c).1 :: mapS f (f (endS f st0 a) c).2 b := by rw [e, mapS_app, hm]; rfl
      have hend : endS f st0 p = endS f (f (endS f st0 a) c).2 b := by rw [e, endS_app]; rfl
      simp only [size_str]
      refine Tot.loop (fun st => ∃ x y, b = x ++ y ∧ st = (endS f (f (endS f st0 a) c).2 x, some (enc a ++ encR (f (endS f st0 a) c).1 ++ enc (mapS f (f (endS f st0 a) c).2 x)), (enc x).length)) (fun st => (enc b).length + 1 - st.2.2) ⟨[], b, rfl, by simp [endS, mapS, enc]⟩ fun st ⟨x, y, e2, hst⟩ => ?_
      subst hst
      dsimp only
      cases y with
      | nil =>
        rw [List.append_nil] at e2; subst e2
        refine Tot.if_ (decide_eq_false (by omega)) (Tot.ret ?_)
        show (_, _) = (_, _)
        rw [hend, hwhole, enc_app, enc_cons, List.append_assoc]
      | cons d y =>
        have hd : Scal d := hb d (by rw [e2]; simp)
        have hlen2 : (enc b).length = (enc x).length + (encR d).length + (enc y).length := by rw [e2, enc_app, enc_cons, List.length_append, List.length_append]; omega
        have hdp := encR_pos d
        refine Tot.it (decide_eq_true (by omega)) ?_
        obtain ⟨hr1, hr2⟩ := rune_at (s := strOf (enc b)) (p := x) (t := y) hd (by rw [bytes_str, e2])
        rw [hr1, hr2]
        refine Tot.bindq (hU d (endS f (f (endS f st0 a) c).2 x) hd) fun r hr => ?_
        subst hr
        dsimp only
        have hsc := hf d (endS f (f (endS f st0 a) c).2 x) hd
        have hsm := scal_i32 hsc
        have hxl : (enc (mapS f (f (endS f st0 a) c).2 x)).length ≤ 4 * b.length := Nat.le_trans (enc_len_le _) (by rw [mapS_len, e2, List.length_append]; omega)
        have hep := encR_pos (f (endS f st0 a) c).1
        have hbl := enc_len_ge b
        generalize hg : (f (endS f (f (endS f st0 a) c).2 x) d) = g at hsc hsm ⊢
        refine Tot.bindq (P := fun j => j = some (enc a ++ encR (f (endS f st0 a) c).1 ++ enc (mapS f (f (endS f st0 a) c).2 x) ++ encR g.1)) ?_ fun j hj => Tot.ret ⟨⟨x ++ [d], y, by rw [e2]; simp, ?_⟩, by dsimp only; omega⟩
        · have hL : (enc a ++ encR (f (endS f st0 a) c).1 ++ enc (mapS f (f (endS f st0 a) c).2 x)).length ≤ 100000000 := by rw [List.length_append, List.length_append]; omega
          generalize enc a ++ encR (f (endS f st0 a) c).1 ++ enc (mapS f (f (endS f st0 a) c).2 x) = L at hL ⊢
          refine Tot.it (decide_eq_true (by omega)) (Tot.ite (fun h => ?_) fun h => ?_)
          · have h := of_decide_eq_true h
            refine Tot.bind0 (a := some (L ++ encR g.1)) ?_ (Tot.ret rfl)
            unfold wbyteB
            simp only
            rw [if_pos (by omega), u8_small (by omega) (by omega), u8_int (by omega) (by omega), toU8, encR1 (by omega)]; rfl
          · refine Tot.bind0 (a := some (L ++ encR g.1)) ?_ (Tot.ret rfl)
            unfold wruneB
            simp only
            rw [if_pos ⟨by omega, by omega, by omega⟩]; rfl
        · subst hj
          rw [endS_app, mapS_app, enc_snoc, List.length_append]
          simp only [endS, mapS]
          rw [hg, enc_app, ← List.append_assoc]
          simp [enc]
end
section
variable {U : Nat → Int → Option Int} {f : Nat → Nat}
theorem mapG0_tot (hU : ∀ c, Scal c → Tot (fun n => U n (c : Int)) (fun r => r = ((f c) : Int))) (hf : ∀ c, Scal c → Scal (f c)) (h0 : f 65533 = 65533)
    {p : List Nat} (hp : ∀ r ∈ p, Scal r) (hl : (enc p).length ≤ 1048576) : Tot (fun n => mapG0 U n (strOf (enc p))) (fun r => r = strOf (enc (p.map f))) := by
  unfold mapG0
  simp only [size_str]
  refine Tot.bindq (P := fun j => (j = (strOf (enc p), none) ∧ p.map f = p) ∨ ∃ a c b, p = a ++ c :: b ∧ a.map f = a ∧ j = (strOf (enc b), some (enc a ++ encR (f c)))) ?_ fun j hj => ?_
  · refine Tot.loop (fun st => ∃ a b, p = a ++ b ∧ a.map f = a ∧ st = (strOf (enc p), none, (enc a).length)) (fun st => (enc p).length + 1 - st.2.2) ⟨[], p, rfl, rfl, rfl⟩ fun st ⟨a, b, e, hm, hst⟩ => ?_
    subst hst
    dsimp only
    simp only [size_str]
    cases b with
    | nil =>
      rw [List.append_nil] at e; subst e
      exact Tot.if_ (decide_eq_false (by omega)) (Tot.ret (.inl ⟨rfl, hm⟩))
    | cons c b =>
      have hc : Scal c := hp c (by rw [e]; simp)
      have hlen : (enc p).length = (enc a).length + (encR c).length + (enc b).length := by rw [e, enc_app, enc_cons, List.length_append, List.length_append]; omega
      have hcp := encR_pos c
      refine Tot.it (decide_eq_true (by omega)) ?_
      obtain ⟨hr1, hr2⟩ := rune_at (s := strOf (enc p)) (p := a) (t := b) hc (by rw [bytes_str, e])
      rw [hr1, hr2]
      refine Tot.bindq (hU c hc) fun r hr => ?_
      subst hr
      have hnx : (a ++ [c]).map f = a ++ [(f c)] := by rw [List.map_append, hm]; rfl
      have hse : (enc (a ++ [c])).length = (enc a).length + (encR c).length := by rw [enc_snoc, List.length_append]
      have again : ((f c) = c) → ∃ a' b', p = a' ++ b' ∧ a'.map f = a' ∧ (strOf (enc p), (none : Option (List UInt8)), (enc a).length + (encR c).length) = (strOf (enc p), none, (enc a').length) := fun h =>
        ⟨a ++ [c], b, by rw [e]; simp, by rw [hnx, h], by rw [hse]⟩
      refine Tot.ite (fun h => Tot.ret ?_) fun h => ?_
      · rw [Bool.and_eq_true] at h
        have h1 : (f c) = c := by have := beq_iff_eq.1 h.1; omega
        exact ⟨again h1, by dsimp only; omega⟩
      · by_cases h33 : c = 65533
        · subst h33
          have h1 := h0
          refine Tot.bindq (P := fun x => x = .inr (.inl (strOf (enc p), none, (enc a).length + (encR 65533).length))) ?_ fun x hx => ?_
          · refine Tot.it rfl (Tot.bind0 (ssub_str (by omega) (Nat.le_refl _)) (Tot.bindq (Decode_fffd (l := enc b) ?_) fun r hr => ?_))
            · rw [bytes_str, List.take_of_length_le (Nat.le_refl _), e, enc_drop, enc_cons]
            · subst hr
              rw [h1]
              exact Tot.it rfl (Tot.ret rfl)
          · subst hx
            exact Tot.contr ⟨again h1, by dsimp only; omega⟩
        · have hne : (f c) ≠ c := fun e1 => by
            rw [e1] at h
            have h2 : ((c : Int) != 65533) = true := bne_iff_ne.2 (by omega)
            rw [h2, beq_self_eq_true] at h; cases h
          refine Tot.bindq (P := fun x => x = .inl ((encR c).length : Int)) (Tot.if_ (beq_eq_false_iff_ne.2 (by omega)) (Tot.bindq (RuneLen_tot hc) fun r hr => Tot.ret (by subst hr; rfl))) fun x hx => ?_
          subst hx
          refine Tot.contl ?_
          have hw : IntKind.i64.wrap (((enc p).length : Nat) + 4) = (((enc p).length + 4 : Nat) : Int) := iw (by omega) (by omega)
          refine Tot.bind0 (a := some []) (by unfold growB; simp only; rw [hw, if_pos ⟨by omega, by omega⟩]) ?_
          have hsub : ssub (strOf (enc p)) 0 ((enc a).length : Int) = some (strOf (enc a)) := by
            have := ssub_str (l := enc p) (i := 0) (j := (enc a).length) (by omega) (by omega)
            rw [show ((0 : Nat) : Int) = 0 from rfl] at this
            rw [this, List.drop_zero, e, enc_take]
          refine Tot.bind0 hsub (Tot.bind0 (a := some (enc a)) ?_ ?_)
          · unfold wstrB
            simp only [List.length_nil, size_str, Nat.zero_add, List.nil_append]
            rw [if_pos (by omega)]; rfl
          have hsc := hf c hc
          have hsm := scal_i32 hsc
          refine Tot.bindq (P := fun x => x = some (enc a ++ encR (f c))) (Tot.it (decide_eq_true (by omega)) (Tot.bind0 (a := some (enc a ++ encR (f c))) ?_ (Tot.ret rfl))) fun x hx => ?_
          · unfold wruneB
            simp only
            rw [if_pos ⟨by omega, by omega, by omega⟩]; rfl
          subst hx
          have hw2 : IntKind.i64.wrap (((enc a).length : Int) + ((encR c).length : Int)) = (((enc a).length + (encR c).length : Nat) : Int) := iw (by omega) (by omega)
          rw [hw2]
          refine Tot.bind0 (ssub_str (by omega) (Nat.le_refl _)) (Tot.ret (.inr ⟨a, c, b, e, hm, ?_⟩))
          rw [List.take_of_length_le (Nat.le_refl _), ← hse]
          have : p = (a ++ [c]) ++ b := by rw [e]; simp
          rw [this, enc_drop]
  · rcases hj with ⟨hj, hm⟩ | ⟨a, c, b, e, hm, hj⟩
    · subst hj
      exact Tot.it rfl (Tot.ret (by rw [hm]))
    · subst hj
      dsimp only
      refine Tot.if_ rfl ?_
      have hc : Scal c := hp c (by rw [e]; simp)
      have hb : ∀ r ∈ b, Scal r := fun r hr => hp r (by rw [e]; simp [hr])
      have hlen : (enc p).length = (enc a).length + (encR c).length + (enc b).length := by rw [e, enc_app, enc_cons, List.length_append, List.length_append]; omega
      have hap := enc_len_ge p
      have hal := enc_len_le a
      have hpl : p.length = a.length + 1 + b.length := by rw [e, List.length_append, List.length_cons]; omega
      refine Tot.bindq (P := fun j => j = some (enc (p.map f))) ?_ fun j hj => by subst hj; exact Tot.bind0 (a := strOf (enc (p.map f))) rfl (Tot.ret rfl)
      have hwhole : p.map f = a ++ (f c) :: b.map f := by rw [e, List.map_append, hm]; rfl
      simp only [size_str]
      refine Tot.loop (fun st => ∃ x y, b = x ++ y ∧ st = (some (enc a ++ encR (f c) ++ enc (x.map f)), (enc x).length)) (fun st => (enc b).length + 1 - st.2) ⟨[], b, rfl, by simp [enc]⟩ fun st ⟨x, y, e2, hst⟩ => ?_
      subst hst
      dsimp only
      cases y with
      | nil =>
        rw [List.append_nil] at e2; subst e2
        refine Tot.if_ (decide_eq_false (by omega)) (Tot.ret ?_)
        rw [hwhole, enc_app, enc_cons, List.append_assoc]
      | cons d y =>
        have hd : Scal d := hb d (by rw [e2]; simp)
        have hlen2 : (enc b).length = (enc x).length + (encR d).length + (enc y).length := by rw [e2, enc_app, enc_cons, List.length_append, List.length_append]; omega
        have hdp := encR_pos d
        refine Tot.it (decide_eq_true (by omega)) ?_
        obtain ⟨hr1, hr2⟩ := rune_at (s := strOf (enc b)) (p := x) (t := y) hd (by rw [bytes_str, e2])
        rw [hr1, hr2]
        refine Tot.bindq (hU d hd) fun r hr => ?_
        subst hr
        have hsc := hf d hd
        have hsm := scal_i32 hsc
        have hxl : (enc (x.map f)).length ≤ 4 * b.length := Nat.le_trans (enc_len_le _) (by rw [List.length_map, e2, List.length_append]; omega)
        have hep := encR_pos (f c)
        have hbl := enc_len_ge b
        generalize hg : f d = g at hsc hsm ⊢
        refine Tot.bindq (P := fun j => j = some (enc a ++ encR (f c) ++ enc (x.map f) ++ encR g)) ?_ fun j hj => Tot.ret ⟨⟨x ++ [d], y, by rw [e2]; simp, ?_⟩, by dsimp only; omega⟩
        · have hL : (enc a ++ encR (f c) ++ enc (x.map f)).length ≤ 100000000 := by rw [List.length_append, List.length_append]; omega
          generalize enc a ++ encR (f c) ++ enc (x.map f) = L at hL ⊢
          refine Tot.it (decide_eq_true (by omega)) (Tot.ite (fun h => ?_) fun h => ?_)
          · have h := of_decide_eq_true h
            refine Tot.bind0 (a := some (L ++ encR g)) ?_ (Tot.ret rfl)
            unfold wbyteB
            simp only
            rw [if_pos (by omega), u8_small (by omega) (by omega), u8_int (by omega) (by omega), toU8, encR1 (by omega)]; rfl
          · refine Tot.bind0 (a := some (L ++ encR g)) ?_ (Tot.ret rfl)
            unfold wruneB
            simp only
            rw [if_pos ⟨by omega, by omega, by omega⟩]; rfl
        · subst hj
          rw [List.map_append, enc_snoc, List.length_append]
          simp only [List.map_cons, List.map_nil]
          rw [hg, enc_app, ← List.append_assoc]
          simp [enc]
end
end Go.Gv.R
namespace Go.Gv.R
open Go Go.Gv Go.Gv.D Go.Lib

/-! letters: small and capital -/
def S32 (c : Nat) : Prop := (97 ≤ c ∧ c ≤ 122) ∨ (224 ≤ c ∧ c ≤ 246) ∨ (248 ≤ c ∧ c ≤ 254) ∨ (945 ≤ c ∧ c ≤ 961) ∨ (963 ≤ c ∧ c ≤ 969) ∨ (1072 ≤ c ∧ c ≤ 1103)
def C32 (c : Nat) : Prop := (65 ≤ c ∧ c ≤ 90) ∨ (192 ≤ c ∧ c ≤ 214) ∨ (216 ≤ c ∧ c ≤ 222) ∨ (913 ≤ c ∧ c ≤ 929) ∨ (931 ≤ c ∧ c ≤ 937) ∨ (1040 ≤ c ∧ c ≤ 1071)
instance (c : Nat) : Decidable (S32 c) := by unfold S32; exact inferInstance
instance (c : Nat) : Decidable (C32 c) := by unfold C32; exact inferInstance
def upN (c : Nat) : Nat := if S32 c then 32 else if 1104 ≤ c ∧ c ≤ 1119 then 80 else 0
def dnN (c : Nat) : Nat := if C32 c then 32 else if 1024 ≤ c ∧ c ≤ 1039 then 80 else 0
def clsN (c : Nat) : Nat := if 0 < upN c then 2 else if 0 < dnN c then 1 else if 48 ≤ c ∧ c ≤ 57 then 4 else if blankN c = true then 8 else 16
def othN (c : Nat) : Nat := c - upN c + dnN c

/-- a letter is small, capital, or none -/
theorem kinds (c : Nat) : (∃ d, (d = 32 ∨ d = 80) ∧ upN c = d ∧ dnN c = 0 ∧ dnN (c - d) = d ∧ upN (c - d) = 0 ∧ 97 ≤ c ∧ c ≤ 1119 ∧ (c ≤ 122 ∨ 224 ≤ c) ∧ d ≤ c) ∨
    (∃ d, (d = 32 ∨ d = 80) ∧ dnN c = d ∧ upN c = 0 ∧ upN (c + d) = d ∧ dnN (c + d) = 0 ∧ 65 ≤ c ∧ c ≤ 1071 ∧ ((c ≤ 90 ∧ d = 32) ∨ 192 ≤ c)) ∨ (upN c = 0 ∧ dnN c = 0) := by
  by_cases h1 : S32 c
  · refine .inl ⟨32, .inl rfl, ?_, ?_, ?_, ?_, ?_⟩
    · unfold upN; rw [if_pos h1]
    · unfold dnN; rw [if_neg (by unfold C32; unfold S32 at h1; omega), if_neg (by unfold S32 at h1; omega)]
    · unfold dnN; rw [if_pos (by unfold C32; unfold S32 at h1; omega)]
    · unfold upN; rw [if_neg (by unfold S32; unfold S32 at h1; omega), if_neg (by unfold S32 at h1; omega)]
    · unfold S32 at h1; omega
  · by_cases h2 : 1104 ≤ c ∧ c ≤ 1119
    · refine .inl ⟨80, .inr rfl, ?_, ?_, ?_, ?_, ?_⟩
      · unfold upN; rw [if_neg h1, if_pos h2]
      · unfold dnN; rw [if_neg (by unfold C32; omega), if_neg (by omega)]
      · unfold dnN; rw [if_neg (by unfold C32; omega), if_pos (by omega)]
      · unfold upN; rw [if_neg (by unfold S32; omega), if_neg (by omega)]
      · omega
    · by_cases h3 : C32 c
      · refine .inr (.inl ⟨32, .inl rfl, ?_, ?_, ?_, ?_, ?_⟩)
        · unfold dnN; rw [if_pos h3]
        · unfold upN; rw [if_neg h1, if_neg h2]
        · unfold upN; rw [if_pos (by unfold S32; unfold C32 at h3; omega)]
        · unfold dnN; rw [if_neg (by unfold C32; unfold C32 at h3; omega), if_neg (by unfold C32 at h3; omega)]
        · unfold C32 at h3; omega
      · by_cases h4 : 1024 ≤ c ∧ c ≤ 1039
        · refine .inr (.inl ⟨80, .inr rfl, ?_, ?_, ?_, ?_, ?_⟩)
          · unfold dnN; rw [if_neg h3, if_pos h4]
          · unfold upN; rw [if_neg h1, if_neg h2]
          · unfold upN; rw [if_neg (by unfold S32; omega), if_pos (by omega)]
          · unfold dnN; rw [if_neg (by unfold C32; omega), if_neg (by omega)]
          · omega
        · refine .inr (.inr ⟨?_, ?_⟩)
          · unfold upN; rw [if_neg h1, if_neg h2]
          · unfold dnN; rw [if_neg h3, if_neg h4]

def pairsL : List (Int × Int × Int) := [(97, 122, 32), (224, 246, 32), (248, 254, 32), (945, 961, 32), (963, 969, 32), (1072, 1103, 32), (1104, 1119, 80)]
/-- none of the first i pairs has c -/
def noPair (c : Nat) (i : Nat) : Prop := (1 ≤ i → ¬ (97 ≤ c ∧ c ≤ 122) ∧ ¬ (65 ≤ c ∧ c ≤ 90)) ∧ (2 ≤ i → ¬ (224 ≤ c ∧ c ≤ 246) ∧ ¬ (192 ≤ c ∧ c ≤ 214)) ∧ (3 ≤ i → ¬ (248 ≤ c ∧ c ≤ 254) ∧ ¬ (216 ≤ c ∧ c ≤ 222)) ∧
  (4 ≤ i → ¬ (945 ≤ c ∧ c ≤ 961) ∧ ¬ (913 ≤ c ∧ c ≤ 929)) ∧ (5 ≤ i → ¬ (963 ≤ c ∧ c ≤ 969) ∧ ¬ (931 ≤ c ∧ c ≤ 937)) ∧ (6 ≤ i → ¬ (1072 ≤ c ∧ c ≤ 1103) ∧ ¬ (1040 ≤ c ∧ c ≤ 1071)) ∧ (7 ≤ i → ¬ (1104 ≤ c ∧ c ≤ 1119) ∧ ¬ (1024 ≤ c ∧ c ≤ 1039))
/-- the pair at place i: bounds and distance -/
theorem pair_at {c i : Nat} (hi : i < 7) (hn : noPair c i) : ∃ a b d : Nat, pairsL[i]? = some ((a : Int), (b : Int), (d : Int)) ∧ d ≤ a ∧ a ≤ 1200 ∧ b ≤ 1200 ∧ d ≤ b ∧
    ((a ≤ c ∧ c ≤ b) → upN c = d ∧ dnN c = 0 ∧ 0 < d) ∧ ((a ≤ c + d ∧ c + d ≤ b) → dnN c = d ∧ upN c = 0 ∧ 0 < d) ∧ (¬ (a ≤ c ∧ c ≤ b) → ¬ (a ≤ c + d ∧ c + d ≤ b) → noPair c (i + 1)) := by
  unfold noPair at hn ⊢
  rcases (show i = 0 ∨ i = 1 ∨ i = 2 ∨ i = 3 ∨ i = 4 ∨ i = 5 ∨ i = 6 by omega) with e | e | e | e | e | e | e <;> subst e
  · refine ⟨97, 122, 32, rfl, by omega, by omega, by omega, by omega, fun h => ⟨?_, ?_, by omega⟩, fun h => ⟨?_, ?_, by omega⟩, fun h1 h2 => by omega⟩
    · unfold upN; rw [if_pos (by unfold S32; omega)]
    · unfold dnN; rw [if_neg (by unfold C32; omega), if_neg (by omega)]
    · unfold dnN; rw [if_pos (by unfold C32; omega)]
    · unfold upN; rw [if_neg (by unfold S32; omega), if_neg (by omega)]
  · refine ⟨224, 246, 32, rfl, by omega, by omega, by omega, by omega, fun h => ⟨?_, ?_, by omega⟩, fun h => ⟨?_, ?_, by omega⟩, fun h1 h2 => by omega⟩
    · unfold upN; rw [if_pos (by unfold S32; omega)]
    · unfold dnN; rw [if_neg (by unfold C32; omega), if_neg (by omega)]
    · unfold dnN; rw [if_pos (by unfold C32; omega)]
    · unfold upN; rw [if_neg (by unfold S32; omega), if_neg (by omega)]
  · refine ⟨248, 254, 32, rfl, by omega, by omega, by omega, by omega, fun h => ⟨?_, ?_, by omega⟩, fun h => ⟨?_, ?_, by omega⟩, fun h1 h2 => by omega⟩
    · unfold upN; rw [if_pos (by unfold S32; omega)]
    · unfold dnN; rw [if_neg (by unfold C32; omega), if_neg (by omega)]
    · unfold dnN; rw [if_pos (by unfold C32; omega)]
    · unfold upN; rw [if_neg (by unfold S32; omega), if_neg (by omega)]
  · refine ⟨945, 961, 32, rfl, by omega, by omega, by omega, by omega, fun h => ⟨?_, ?_, by omega⟩, fun h => ⟨?_, ?_, by omega⟩, fun h1 h2 => by omega⟩
    · unfold upN; rw [if_pos (by unfold S32; omega)]
    · unfold dnN; rw [if_neg (by unfold C32; omega), if_neg (by omega)]
    · unfold dnN; rw [if_pos (by unfold C32; omega)]
    · unfold upN; rw [if_neg (by unfold S32; omega), if_neg (by omega)]
  · refine ⟨963, 969, 32, rfl, by omega, by omega, by omega, by omega, fun h => ⟨?_, ?_, by omega⟩, fun h => ⟨?_, ?_, by omega⟩, fun h1 h2 => by omega⟩
    · unfold upN; rw [if_pos (by unfold S32; omega)]
    · unfold dnN; rw [if_neg (by unfold C32; omega), if_neg (by omega)]
    · unfold dnN; rw [if_pos (by unfold C32; omega)]
    · unfold upN; rw [if_neg (by unfold S32; omega), if_neg (by omega)]
  · refine ⟨1072, 1103, 32, rfl, by omega, by omega, by omega, by omega, fun h => ⟨?_, ?_, by omega⟩, fun h => ⟨?_, ?_, by omega⟩, fun h1 h2 => by omega⟩
    · unfold upN; rw [if_pos (by unfold S32; omega)]
    · unfold dnN; rw [if_neg (by unfold C32; omega), if_neg (by omega)]
    · unfold dnN; rw [if_pos (by unfold C32; omega)]
    · unfold upN; rw [if_neg (by unfold S32; omega), if_neg (by omega)]
  · refine ⟨1104, 1119, 80, rfl, by omega, by omega, by omega, by omega, fun h => ⟨?_, ?_, by omega⟩, fun h => ⟨?_, ?_, by omega⟩, fun h1 h2 => by omega⟩
    · unfold upN; rw [if_neg (by unfold S32; omega), if_pos (by omega)]
    · unfold dnN; rw [if_neg (by unfold C32; omega), if_neg (by omega)]
    · unfold dnN; rw [if_neg (by unfold C32; omega), if_pos (by omega)]
    · unfold upN; rw [if_neg (by unfold S32; omega), if_neg (by omega)]
theorem noPair_end {c : Nat} (h : noPair c 7) : upN c = 0 ∧ dnN c = 0 := by
  unfold noPair at h
  refine ⟨?_, ?_⟩
  · unfold upN; rw [if_neg (by unfold S32; omega), if_neg (by omega)]
  · unfold dnN; rw [if_neg (by unfold C32; omega), if_neg (by omega)]

theorem shift_tot {c : Nat} (hc : c ≤ 1114111) : Tot (fun n => textstr_shift n (c : Int)) (fun r => r = ((upN c : Int), (dnN c : Int))) := by
  unfold textstr_shift textstr_pairs
  refine Tot.bind0 (a := pairsL) rfl ?_
  refine Tot.bindq (P := fun r => r = .inr ((upN c : Int), (dnN c : Int)) ∨ (r = .inl () ∧ upN c = 0 ∧ dnN c = 0)) ?_ fun r hr => ?_
  · refine Tot.loop (fun (st : Int) => ∃ i : Nat, st = (i : Int) ∧ i ≤ 7 ∧ noPair c i) (fun (st : Int) => 7 - st.toNat) ⟨0, rfl, by omega, by unfold noPair; omega⟩ fun st ⟨i, e, hi, hn⟩ => ?_
    subst e
    refine Tot.ite (fun h => ?_) fun h => ?_
    · have h : i < 7 := by have := of_decide_eq_true h; simp [pairsL] at this; omega
      obtain ⟨a, b, d, hp, h1, h2, h3, h4, hs, hk, hnx⟩ := pair_at h hn
      have hidx : idx pairsL (i : Int) = some ((a : Int), (b : Int), (d : Int)) := by unfold idx; rw [if_pos (by omega), Int.toNat_natCast]; exact hp
      refine Tot.bind0 hidx (Tot.bindq (P := fun j => j = decide (a ≤ c ∧ c ≤ b)) ?_ fun j hj => ?_)
      · dsimp only
        refine Tot.ite (fun q => ?_) fun q => ?_
        · have q := of_decide_eq_true q
          exact Tot.ret (decide_eq_decide.2 ⟨fun _ => by omega, fun _ => by omega⟩)
        · have q := of_decide_eq_false q
          exact Tot.ret (decide_eq_false (by omega)).symm
      subst hj
      dsimp only
      have hw : IntKind.i32.wrap ((c : Int) + (d : Int)) = ((c + d : Nat) : Int) := by rw [i32_small (by omega) (by omega)]; omega
      rw [hw]
      refine Tot.ite (fun q => Tot.ret (.inl ?_)) fun q => ?_
      · obtain ⟨q1, q2, _⟩ := hs (of_decide_eq_true q)
        rw [q1, q2]; rfl
      · refine Tot.bindq (P := fun j => j = decide (a ≤ c + d ∧ c + d ≤ b)) ?_ fun j hj => ?_
        · refine Tot.ite (fun q => ?_) fun q => ?_
          · have q := of_decide_eq_true q
            exact Tot.ret (decide_eq_decide.2 ⟨fun _ => by omega, fun _ => by omega⟩)
          · have q := of_decide_eq_false q
            exact Tot.ret (decide_eq_false (by omega)).symm
        subst hj
        refine Tot.ite (fun q2 => Tot.ret (.inl ?_)) fun q2 => Tot.ret ⟨⟨i + 1, ?_, h, hnx (of_decide_eq_false q) (of_decide_eq_false q2)⟩, ?_⟩
        · obtain ⟨q1, q3, _⟩ := hk (of_decide_eq_true q2)
          rw [q1, q3]; rfl
        · exact iw (n := i + 1) (by omega) (by omega)
        · rw [iw (n := i + 1) (by omega) (by omega)]; omega
    · have h : i = 7 := by have := of_decide_eq_false h; simp [pairsL] at this; omega
      subst h
      exact Tot.ret (.inr ⟨rfl, noPair_end hn⟩)
  · rcases hr with e | ⟨e, h1, h2⟩
    · subst e; exact Tot.contr rfl
    · subst e; rw [h1, h2]; exact Tot.contl (Tot.ret rfl)

theorem upN_le (c : Nat) : upN c ≤ c ∧ upN c ≤ 80 ∧ dnN c ≤ 80 := by
  rcases kinds c with ⟨d, h⟩ | ⟨d, h⟩ | h <;> omega
theorem upper_tot {c : Nat} (hc : c ≤ 1114111) : Tot (fun n => textstr_upper n (c : Int)) (fun r => r = ((c - upN c : Nat) : Int)) := by
  unfold textstr_upper
  have := upN_le c
  refine Tot.bindq (shift_tot hc) fun r hr => Tot.ret ?_
  subst hr
  dsimp only
  rw [i32_small (by omega) (by omega)]; omega
theorem lower_tot {c : Nat} (hc : c ≤ 1114111) : Tot (fun n => textstr_lower n (c : Int)) (fun r => r = ((c + dnN c : Nat) : Int)) := by
  unfold textstr_lower
  have := upN_le c
  refine Tot.bindq (shift_tot hc) fun r hr => Tot.ret ?_
  subst hr
  dsimp only
  rw [i32_small (by omega) (by omega)]; omega
theorem blank_eq (c : Nat) : (((c : Int) == 32) || (((c : Int) == 9) || ((c : Int) == 10))) = blankN c := by
  unfold blankN
  have f : ∀ k : Nat, ((c : Int) == (k : Int)) = (c == k) := fun k => by
    by_cases h : c = k
    · subst h; rw [beq_self_eq_true, beq_self_eq_true]
    · rw [beq_eq_false_iff_ne.2 h, beq_eq_false_iff_ne.2 (by omega)]
  have f1 := f 32; have f2 := f 9; have f3 := f 10
  simp only [Int.cast_ofNat_Int] at f1 f2 f3
  rw [f1, f2, f3]
theorem class_tot {c : Nat} (hc : c ≤ 1114111) : Tot (fun n => textstr_class n (c : Int)) (fun r => r = (clsN c : Int)) := by
  unfold textstr_class clsN
  refine Tot.bindq (shift_tot hc) fun r hr => ?_
  subst hr
  dsimp only
  refine Tot.ite (fun h => ?_) fun h => ?_
  · have h := of_decide_eq_true h
    rw [if_pos (by omega)]; exact Tot.ret rfl
  have h := of_decide_eq_false h
  rw [if_neg (by omega)]
  refine Tot.ite (fun h => ?_) fun h => ?_
  · have h := of_decide_eq_true h
    rw [if_pos (by omega)]; exact Tot.ret rfl
  have h := of_decide_eq_false h
  rw [if_neg (by omega)]
  refine Tot.ite (fun h => ?_) fun h => ?_
  · rw [Bool.and_eq_true] at h
    have h1 := of_decide_eq_true h.1; have h2 := of_decide_eq_true h.2
    rw [if_pos (by omega)]; exact Tot.ret rfl
  have h9 : ¬ (48 ≤ c ∧ c ≤ 57) := fun ⟨a, b⟩ => by
    rw [decide_eq_true (show (c : Int) ≥ 48 by omega), decide_eq_true (show (c : Int) ≤ 57 by omega)] at h; cases h
  rw [if_neg h9]
  unfold textstr_blank
  rw [blank_eq]
  refine Tot.some_bind (Tot.ite (fun h => ?_) fun h => ?_)
  · rw [if_pos h]; exact Tot.ret rfl
  · rw [if_neg (by rw [h]; simp)]; exact Tot.ret rfl
theorem Class_tot {c : Nat} (hc : c ≤ 1114111) : Tot (fun n => ref4_Class n (c : Int)) (fun r => r = ((clsN c : Int), (othN c : Int))) := by
  unfold ref4_Class ref4_letters
  refine Tot.bind0 (a := pairsL) rfl ?_
  refine Tot.bindq (P := fun r => r = .inr ((clsN c : Int), (othN c : Int)) ∨ (r = .inl () ∧ upN c = 0 ∧ dnN c = 0)) ?_ fun r hr => ?_
  · refine Tot.loop (fun (st : Int) => ∃ i : Nat, st = (i : Int) ∧ i ≤ 7 ∧ noPair c i) (fun (st : Int) => 7 - st.toNat) ⟨0, rfl, by omega, by unfold noPair; omega⟩ fun st ⟨i, e, hi, hn⟩ => ?_
    subst e
    refine Tot.ite (fun h => ?_) fun h => ?_
    · have h : i < 7 := by have := of_decide_eq_true h; simp [pairsL] at this; omega
      obtain ⟨a, b, d, hp, h1, h2, h3, h4, hs, hk, hnx⟩ := pair_at h hn
      have hidx : idx pairsL (i : Int) = some ((a : Int), (b : Int), (d : Int)) := by unfold idx; rw [if_pos (by omega), Int.toNat_natCast]; exact hp
      refine Tot.bindq (P := fun j => j = decide (a ≤ c ∧ c ≤ b)) ?_ fun j hj => ?_
      · refine Tot.bind0 hidx ?_
        dsimp only
        refine Tot.ite (fun q => ?_) fun q => ?_
        · have q := of_decide_eq_true q
          refine Tot.bind0 hidx (Tot.ret ?_)
          dsimp only
          exact decide_eq_decide.2 ⟨fun _ => by omega, fun _ => by omega⟩
        · have q := of_decide_eq_false q
          exact Tot.ret (decide_eq_false (by omega)).symm
      subst hj
      refine Tot.ite (fun q => Tot.bind0 hidx (Tot.ret (.inl ?_))) fun q => ?_
      · obtain ⟨q1, q2, q3⟩ := hs (of_decide_eq_true q)
        have q := of_decide_eq_true q
        dsimp only
        rw [i64_small (by omega) (by omega)]
        unfold clsN othN
        rw [q1, q2, if_pos q3, show ((c - d + 0 : Nat) : Int) = (c : Int) - d by omega]; rfl
      · have hw1 : IntKind.i64.wrap ((a : Int) - (d : Int)) = ((a - d : Nat) : Int) := by rw [i64_small (by omega) (by omega)]; omega
        have hw2 : IntKind.i64.wrap ((b : Int) - (d : Int)) = ((b - d : Nat) : Int) := by rw [i64_small (by omega) (by omega)]; omega
        refine Tot.bindq (P := fun j => j = decide (a ≤ c + d ∧ c + d ≤ b)) ?_ fun j hj => ?_
        · refine Tot.bind0 hidx (Tot.bind0 hidx ?_)
          dsimp only
          rw [hw1]
          refine Tot.ite (fun q => ?_) fun q => ?_
          · have q := of_decide_eq_true q
            refine Tot.bind0 hidx (Tot.bind0 hidx (Tot.ret ?_))
            dsimp only
            rw [hw2]
            exact decide_eq_decide.2 ⟨fun _ => by omega, fun _ => by omega⟩
          · have q := of_decide_eq_false q
            exact Tot.ret (decide_eq_false (by omega)).symm
        subst hj
        refine Tot.ite (fun q2 => Tot.bind0 hidx (Tot.ret (.inl ?_))) fun q2 => Tot.ret ⟨⟨i + 1, ?_, h, hnx (of_decide_eq_false q) (of_decide_eq_false q2)⟩, ?_⟩
        · obtain ⟨q1, q3, q4⟩ := hk (of_decide_eq_true q2)
          dsimp only
          rw [i64_small (by omega) (by omega)]
          unfold clsN othN
          rw [q1, q3, if_neg (by omega), if_pos q4, show ((c - 0 + d : Nat) : Int) = (c : Int) + d by omega]; rfl
        · exact iw (n := i + 1) (by omega) (by omega)
        · rw [iw (n := i + 1) (by omega) (by omega)]; omega
    · have h : i = 7 := by have := of_decide_eq_false h; simp [pairsL] at this; omega
      subst h
      exact Tot.ret (.inr ⟨rfl, noPair_end hn⟩)
  · rcases hr with e | ⟨e, h1, h2⟩
    · subst e; exact Tot.contr rfl
    · subst e
      refine Tot.contl ?_
      unfold clsN othN
      rw [h1, h2, if_neg (by omega), if_neg (by omega)]
      refine Tot.ite (fun h => ?_) fun h => ?_
      · rw [Bool.and_eq_true] at h
        have h1 := of_decide_eq_true h.1; have h2 := of_decide_eq_true h.2
        rw [if_pos (by omega)]; exact Tot.ret rfl
      have h9 : ¬ (48 ≤ c ∧ c ≤ 57) := fun ⟨a, b⟩ => by
        rw [decide_eq_true (show (c : Int) ≥ 48 by omega), decide_eq_true (show (c : Int) ≤ 57 by omega)] at h; cases h
      rw [if_neg h9]
      unfold ref4_Blank
      rw [blank_eq]
      refine Tot.some_bind (Tot.ite (fun h => ?_) fun h => ?_)
      · rw [if_pos h]; exact Tot.ret rfl
      · rw [if_neg (by rw [h]; simp)]; exact Tot.ret rfl
end Go.Gv.R
namespace Go.Gv.R
open Go Go.Gv Go.Gv.D Go.Lib

/-! texts and their faults -/
def okS (s : ByteArray) : Bool := validD (bytesOf s) && decide (s.size ≤ 4000)
def faultL : List ByteArray → Nat → Int × Int
  | [], _ => (0, 0)
  | s :: l, i => if okS s = true then faultL l (i + 1) else (6, -1 - (i : Int))
theorem okS_text {s : ByteArray} (h : okS s = true) : ∃ p, (∀ r ∈ p, Scal r) ∧ s = strOf (enc p) ∧ (enc p).length ≤ 4000 := by
  unfold okS at h
  rw [Bool.and_eq_true] at h
  obtain ⟨p, hp, e⟩ := valid_iff h.1
  have h2 := of_decide_eq_true h.2
  refine ⟨p, hp, ?_, ?_⟩
  · rw [← e, str_bytes]
  · rw [← e, ← size_bytes]; exact h2
theorem okS_enc {p : List Nat} (hp : ∀ r ∈ p, Scal r) (hl : (enc p).length ≤ 4000) : okS (strOf (enc p)) = true := by
  unfold okS
  rw [bytes_str, valid_enc p hp, size_str, decide_eq_true hl]; rfl
theorem tValid_tot {s : ByteArray} (hs : s.size ≤ 1048576) : Tot (fun fuel => textstr_Valid fuel s) (fun r => r = okS s) := by
  unfold textstr_Valid okS
  refine Tot.bindq (P := fun r => r = (validD (bytesOf s) && decide (s.size ≤ 4000))) (Tot.bindq (ValidString_tot (by omega)) fun r hr => ?_) fun r hr => Tot.ret hr
  subst hr
  refine Tot.ite (fun h => ?_) (fun h => ?_)
  · rw [h, Bool.true_and]
    exact Tot.some_bind (Tot.ret (decide_eq_decide.2 ⟨fun h => by omega, fun h => by omega⟩))
  · rw [h]; exact Tot.ret rfl
theorem tat_tot (a b : Int) : Tot (fun fuel => textstr_at fuel a b) (fun r => r = (a, b)) := by unfold textstr_at; exact Tot.ret rfl
theorem rat_tot (a b : Int) : Tot (fun fuel => ref4_At fuel a b) (fun r => r = (a, b)) := by unfold ref4_At; exact Tot.ret rfl
theorem faultL_drop : ∀ (l : List ByteArray) (k i : Nat), (∀ j (h : j < l.length), j < i → okS l[j] = true) → i ≤ l.length → faultL l k = faultL (l.drop i) (k + i)
  | _, k, 0, _, _ => rfl
  | [], k, i + 1, _, h => absurd h (by simp)
  | s :: l, k, i + 1, h, hi => by
    have h0 := h 0 (by simp) (by omega)
    simp only [List.getElem_cons_zero] at h0
    unfold faultL
    rw [if_pos h0, List.drop_succ_cons, faultL_drop l (k + 1) i (fun j hj hji => by have := h (j + 1) (by simpa using hj) (by omega); simpa using this) (by simpa using hi)]
    rw [show k + 1 + i = k + (i + 1) by omega]
    cases hd : List.drop i l <;> simp [faultL]
theorem tcheck_tot {l : List ByteArray} (hl : l.length ≤ 1000) (hs : ∀ s ∈ l, s.size ≤ 1048576) : Tot (fun fuel => textstr_check fuel l) (fun r => r = faultL l 0) := by
  unfold textstr_check
  refine Tot.bindq (P := fun r => (r = .inl (0, 0) ∧ faultL l 0 = (0, 0)) ∨ r = .inr (faultL l 0)) ?_ fun r hr => ?_
  · refine Tot.loop (fun st => ∃ i : Nat, st = ((i : Int), (0, 0)) ∧ i ≤ l.length ∧ ∀ j (h : j < l.length), j < i → okS l[j] = true) (fun st => l.length - st.1.toNat) ⟨0, rfl, by omega, fun j _ h => absurd h (Nat.not_lt_zero _)⟩ fun st ⟨i, e, hi, hall⟩ => ?_
    subst e
    have hd := faultL_drop l 0 i hall hi
    refine Tot.ite (fun q => ?_) (fun q => ?_)
    · have q : i < l.length := by have : ((i : Nat) : Int) < (l.length : Int) := of_decide_eq_true q; omega
      refine Tot.bind0 (idx_nat q) (Tot.bindq (tValid_tot (hs _ (List.getElem_mem q))) fun r hr => ?_)
      subst hr
      rw [List.drop_eq_getElem_cons q, show faultL (l[i] :: l.drop (i + 1)) (0 + i) = (if okS l[i] = true then faultL (l.drop (i + 1)) (0 + i + 1) else (6, -1 - ((0 + i : Nat) : Int))) from rfl] at hd
      refine Tot.ite (fun h => ?_) fun h => ?_
      · have h : okS l[i] = false := by cases hh : okS l[i] <;> rw [hh] at h <;> first | rfl | cases h
        refine Tot.bindq (tat_tot _ _) fun r hr => Tot.ret (.inr ?_)
        subst hr
        rw [show faultL l 0 = _ from hd, h, i64_small (by omega) (by omega)]
        simp
      · have h : okS l[i] = true := by cases hh : okS l[i] <;> rw [hh] at h <;> first | rfl | cases h
        refine Tot.ret ⟨⟨i + 1, ?_, q, fun j hj hji => ?_⟩, ?_⟩
        · show (IntKind.i64.wrap ((i : Int) + 1), ((0 : Int), (0 : Int))) = _
          rw [iw (n := i + 1) (by omega) (by omega)]
        · rcases Nat.lt_or_ge j i with h' | h'
          · exact hall j hj h'
          · have : j = i := by omega
            subst this; exact h
        · show l.length - (IntKind.i64.wrap ((i : Int) + 1)).toNat < l.length - ((i : Nat) : Int).toNat
          rw [iw (n := i + 1) (by omega) (by omega)]; omega
    · have q : i = l.length := by have := of_decide_eq_false q; dsimp only at this; omega
      subst q
      rw [List.drop_length] at hd
      exact Tot.ret (.inl ⟨rfl, hd⟩)
  · rcases hr with ⟨e, h⟩ | e
    · subst e; rw [h]; exact Tot.contl (Tot.ret rfl)
    · subst e; exact Tot.contr rfl
theorem faults_tot {l : List ByteArray} (hl : l.length ≤ 1000) (hs : ∀ s ∈ l, s.size ≤ 1048576) : Tot (fun fuel => ref4_TextFaults fuel l) (fun r => r = faultL l 0) := by
  unfold ref4_TextFaults
  refine Tot.bindq (P := fun r => (r = .inl (0, 0) ∧ faultL l 0 = (0, 0)) ∨ r = .inr (faultL l 0)) ?_ fun r hr => ?_
  · refine Tot.loop (fun st => ∃ i : Nat, st = ((i : Int), (0, 0)) ∧ i ≤ l.length ∧ ∀ j (h : j < l.length), j < i → okS l[j] = true) (fun st => l.length - st.1.toNat) ⟨0, rfl, by omega, fun j _ h => absurd h (Nat.not_lt_zero _)⟩ fun st ⟨i, e, hi, hall⟩ => ?_
    subst e
    have hd := faultL_drop l 0 i hall hi
    refine Tot.ite (fun q => ?_) (fun q => ?_)
    · have q : i < l.length := by have : ((i : Nat) : Int) < (l.length : Int) := of_decide_eq_true q; omega
      refine Tot.bind0 (idx_nat q) (Tot.bindq (P := fun r => r = okS l[i]) (TextOk_tot (hs _ (List.getElem_mem q))) fun r hr => ?_)
      subst hr
      rw [List.drop_eq_getElem_cons q, show faultL (l[i] :: l.drop (i + 1)) (0 + i) = (if okS l[i] = true then faultL (l.drop (i + 1)) (0 + i + 1) else (6, -1 - ((0 + i : Nat) : Int))) from rfl] at hd
      refine Tot.ite (fun h => ?_) fun h => ?_
      · have h : okS l[i] = false := by cases hh : okS l[i] <;> rw [hh] at h <;> first | rfl | cases h
        refine Tot.bindq (rat_tot _ _) fun r hr => Tot.ret (.inr ?_)
        subst hr
        rw [show faultL l 0 = _ from hd, h, i64_small (by omega) (by omega)]
        simp
      · have h : okS l[i] = true := by cases hh : okS l[i] <;> rw [hh] at h <;> first | rfl | cases h
        refine Tot.ret ⟨⟨i + 1, ?_, q, fun j hj hji => ?_⟩, ?_⟩
        · show (IntKind.i64.wrap ((i : Int) + 1), ((0 : Int), (0 : Int))) = _
          rw [iw (n := i + 1) (by omega) (by omega)]
        · rcases Nat.lt_or_ge j i with h' | h'
          · exact hall j hj h'
          · have : j = i := by omega
            subst this; exact h
        · show l.length - (IntKind.i64.wrap ((i : Int) + 1)).toNat < l.length - ((i : Nat) : Int).toNat
          rw [iw (n := i + 1) (by omega) (by omega)]; omega
    · have q : i = l.length := by have := of_decide_eq_false q; dsimp only at this; omega
      subst q
      rw [List.drop_length] at hd
      exact Tot.ret (.inl ⟨rfl, hd⟩)
  · rcases hr with ⟨e, h⟩ | e
    · subst e; rw [h]; exact Tot.contl (Tot.ret rfl)
    · subst e; exact Tot.contr rfl
/-- the points of any string: none, or those of which it is made -/
def ptsOf (s : ByteArray) (r : List Int × Bool) : Prop := (validD (bytesOf s) = false ∧ r = ([], false)) ∨ ∃ p, (∀ r ∈ p, Scal r) ∧ s = strOf (enc p) ∧ r = (ints p, true)
theorem points_any {s : ByteArray} (hs : s.size ≤ 1048576) : Tot (fun fuel => ref4_Points fuel s) (ptsOf s) :=
  (Points_tot hs).mono fun r hr => hr.imp (fun h => h) fun ⟨p, h1, h2, h3⟩ => ⟨p, h1, by rw [← h2, str_bytes], h3⟩
theorem str_enc_inj {p q : List Nat} (hp : ∀ r ∈ p, Scal r) (hq : ∀ r ∈ q, Scal r) (h : strOf (enc p) = strOf (enc q)) : p = q := by
  have := congrArg bytesOf h
  rw [bytes_str, bytes_str] at this
  exact enc_inj hp hq this
theorem points_enc {p : List Nat} (hp : ∀ r ∈ p, Scal r) (hl : (enc p).length ≤ 1048576) : Tot (fun fuel => ref4_Points fuel (strOf (enc p))) (· = (ints p, true)) := by
  refine (points_any (by rw [size_str]; exact hl)).mono fun r hr => ?_
  rcases hr with ⟨h, _⟩ | ⟨q, hq, e, h⟩
  · rw [bytes_str, valid_enc p hp] at h; cases h
  · rw [h, str_enc_inj hp hq e]
theorem ptsOf_len {s : ByteArray} {r : List Int × Bool} (h : ptsOf s r) : ∃ p, (∀ x ∈ p, Scal x) ∧ r.1 = ints p ∧ p.length ≤ s.size ∧ (okS s = true → s = strOf (enc p)) := by
  rcases h with ⟨hv, e⟩ | ⟨p, hp, e, h⟩
  · exact ⟨[], by simp, by rw [e]; rfl, by simp, fun h => by unfold okS at h; rw [hv] at h; cases h⟩
  · exact ⟨p, hp, by rw [h], by rw [e, size_str]; exact enc_len_ge p, fun _ => e⟩
theorem fault_bad {s : ByteArray} (h : okS s = false) : faultL [s] 0 = (6, -1) := by unfold faultL; rw [h]; rfl
theorem fault_ok {s : ByteArray} (h : okS s = true) : faultL [s] 0 = (0, 0) := by unfold faultL; rw [h]; rfl

/-! letters of texts -/
theorem up_len {c : Nat} : (encR (c - upN c)).length = (encR c).length := by
  rcases kinds c with ⟨d, h0, h1, h2, h3, h4, h5, h6, h7, h8⟩ | ⟨d, h0, h1, h2, _⟩ | ⟨h1, _⟩
  · rw [h1]
    rcases h7 with h | h
    · rw [encR1 (by omega), encR1 (by omega)]; rfl
    · rw [encR2 (by omega) (by omega), encR2 (by omega) (by omega)]; rfl
  · rw [h2]; rfl
  · rw [h1]; rfl
theorem dn_len {c : Nat} : (encR (c + dnN c)).length = (encR c).length := by
  rcases kinds c with ⟨d, h0, h1, h2, _⟩ | ⟨d, h0, h1, h2, h3, h4, h5, h6, h7⟩ | ⟨_, h1⟩
  · rw [h2]; rfl
  · rw [h1]
    rcases h7 with h | h
    · rw [encR1 (by omega), encR1 (by omega)]; rfl
    · rw [encR2 (by omega) (by omega), encR2 (by omega) (by omega)]; rfl
  · rw [h1]; rfl
theorem up_scal {c : Nat} (h : Scal c) : Scal (c - upN c) := by
  rcases kinds c with ⟨d, h0, h1, h2, h3, h4, h5, h6, h7, h8⟩ | ⟨d, h0, h1, h2, _⟩ | ⟨h1, _⟩
  · left; omega
  · rw [h2]; exact h
  · rw [h1]; exact h
theorem dn_scal {c : Nat} (h : Scal c) : Scal (c + dnN c) := by
  rcases kinds c with ⟨d, h0, h1, h2, _⟩ | ⟨d, h0, h1, h2, h3, h4, h5, h6, h7⟩ | ⟨_, h1⟩
  · rw [h2]; exact h
  · left; omega
  · rw [h1]; exact h
def titleF (st : Bool) (c : Nat) : Nat × Bool := (if st = true then c + dnN c else c - upN c, decide (clsN c ≤ 2))
theorem title_scal (c : Nat) (st : Bool) (h : Scal c) : Scal (titleF st c).1 := by
  unfold titleF
  dsimp only
  split
  · exact dn_scal h
  · exact up_scal h
theorem title_len (c : Nat) (st : Bool) : (encR (titleF st c).1).length = (encR c).length := by
  unfold titleF
  dsimp only
  split
  · exact dn_len
  · exact up_len
theorem enc_len_map {f : Nat → Nat} (h : ∀ c, (encR (f c)).length = (encR c).length) : ∀ p : List Nat, (enc (p.map f)).length = (enc p).length
  | [] => rfl
  | c :: p => by rw [List.map_cons, enc_cons, enc_cons, List.length_append, List.length_append, h, enc_len_map h p]
theorem enc_len_mapS {σ : Type} {f : σ → Nat → Nat × σ} (h : ∀ c st, (encR (f st c).1).length = (encR c).length) : ∀ (st : σ) (p : List Nat), (enc (mapS f st p)).length = (enc p).length
  | _, [] => rfl
  | st, c :: p => by simp only [mapS]; rw [enc_cons, enc_cons, List.length_append, List.length_append, h, enc_len_mapS h _ p]
theorem clsN_cases (c : Nat) : clsN c = 1 ∨ clsN c = 2 ∨ clsN c = 4 ∨ clsN c = 8 ∨ clsN c = 16 := by
  unfold clsN
  repeat' split
  all_goals omega
theorem cls_and (c : Nat) : ((bwAnd .i64 (clsN c : Int) 3) != 0) = decide (clsN c ≤ 2) := by
  rcases clsN_cases c with e | e | e | e | e <;> rw [e] <;> decide
theorem Title1_tot {c : Nat} {st : Bool} (hc : Scal c) : Tot (fun n => textstr_ToTitle_1 n (c : Int) st) (fun r => r = (((titleF st c).1 : Int), (titleF st c).2)) := by
  unfold textstr_ToTitle_1 titleF
  have hc := scal_i32 hc
  refine Tot.bindq (lower_tot hc) fun r hr => ?_
  subst hr
  refine Tot.bindq (P := fun j => j = ((if st = true then c + dnN c else c - upN c : Nat) : Int)) ?_ fun j hj => Tot.bindq (class_tot hc) fun r hr => Tot.ret ?_
  · cases st with
    | true => exact Tot.if_ rfl (Tot.ret rfl)
    | false => exact Tot.it rfl (Tot.bindq (upper_tot hc) fun r hr => Tot.ret (by subst hr; rfl))
  · subst hj hr
    rw [cls_and]
theorem up_fffd : 65533 - upN 65533 = 65533 := by decide
theorem dn_fffd : 65533 + dnN 65533 = 65533 := by decide

/-- the three changes of a text -/
theorem ToUpper_tot {s : ByteArray} (hs : s.size ≤ 1048576) : Tot (fun n => textstr_ToUpper n s) (fun r => if okS s = true then ∀ p, (∀ x ∈ p, Scal x) → s = strOf (enc p) → r = (strOf (enc (p.map fun c => c - upN c)), (0, 0)) else r = (strOf [], (6, -1))) := by
  unfold textstr_ToUpper textstr_change_upper
  refine Tot.bindq (P := fun r => if okS s = true then ∀ p, (∀ x ∈ p, Scal x) → s = strOf (enc p) → r = (strOf (enc (p.map fun c => c - upN c)), (0, 0)) else r = (strOf [], (6, -1))) ?_ fun r hr => Tot.ret ?_
  · refine Tot.bindq (tcheck_tot (by simp) (by simpa using hs)) fun r hr => ?_
    subst hr
    by_cases h : okS s = true
    · rw [fault_ok h]
      refine Tot.if_ rfl ?_
      obtain ⟨p, hp, e, hl⟩ := okS_text h
      have hm := mapG0_tot (U := textstr_upper) (f := fun c => c - upN c) (fun c hc => upper_tot (scal_i32 hc)) (fun c hc => up_scal hc) up_fffd hp (by omega)
      rw [map_upper_eq]
      rw [← e] at hm
      refine Tot.bindq hm fun r hr => Tot.ret ?_
      rw [if_pos h]
      intro q hq e2
      rw [e] at e2
      rw [← str_enc_inj hp hq e2, hr]
    · have h : okS s = false := by cases hh : okS s <;> simp_all
      rw [fault_bad h]
      refine Tot.it rfl (Tot.ret ?_)
      rw [if_neg (by rw [h]; simp)]
  · exact hr
theorem ToLower_tot {s : ByteArray} (hs : s.size ≤ 1048576) : Tot (fun n => textstr_ToLower n s) (fun r => if okS s = true then ∀ p, (∀ x ∈ p, Scal x) → s = strOf (enc p) → r = (strOf (enc (p.map fun c => c + dnN c)), (0, 0)) else r = (strOf [], (6, -1))) := by
  unfold textstr_ToLower textstr_change_lower
  refine Tot.bindq (P := fun r => if okS s = true then ∀ p, (∀ x ∈ p, Scal x) → s = strOf (enc p) → r = (strOf (enc (p.map fun c => c + dnN c)), (0, 0)) else r = (strOf [], (6, -1))) ?_ fun r hr => Tot.ret ?_
  · refine Tot.bindq (tcheck_tot (by simp) (by simpa using hs)) fun r hr => ?_
    subst hr
    by_cases h : okS s = true
    · rw [fault_ok h]
      refine Tot.if_ rfl ?_
      obtain ⟨p, hp, e, hl⟩ := okS_text h
      have hm := mapG0_tot (U := textstr_lower) (f := fun c => c + dnN c) (fun c hc => lower_tot (scal_i32 hc)) (fun c hc => dn_scal hc) dn_fffd hp (by omega)
      rw [map_lower_eq]
      rw [← e] at hm
      refine Tot.bindq hm fun r hr => Tot.ret ?_
      rw [if_pos h]
      intro q hq e2
      rw [e] at e2
      rw [← str_enc_inj hp hq e2, hr]
    · have h : okS s = false := by cases hh : okS s <;> simp_all
      rw [fault_bad h]
      refine Tot.it rfl (Tot.ret ?_)
      rw [if_neg (by rw [h]; simp)]
  · exact hr
theorem title_fffd (st : Bool) : (titleF st 65533).1 = 65533 := by cases st <;> decide
theorem ToTitle_tot {s : ByteArray} (hs : s.size ≤ 1048576) : Tot (fun n => textstr_ToTitle n s) (fun r => if okS s = true then ∀ p, (∀ x ∈ p, Scal x) → s = strOf (enc p) → r = (strOf (enc (mapS titleF false p)), (0, 0)) else r = (strOf [], (6, -1))) := by
  unfold textstr_ToTitle textstr_change_ToTitle_1
  refine Tot.bindq (P := fun r => if okS s = true then ∀ p, (∀ x ∈ p, Scal x) → s = strOf (enc p) → (r.1, r.2.1) = (strOf (enc (mapS titleF false p)), (0, 0)) else (r.1, r.2.1) = (strOf [], (6, -1))) ?_ fun r hr => Tot.ret ?_
  · refine Tot.bindq (tcheck_tot (by simp) (by simpa using hs)) fun r hr => ?_
    subst hr
    by_cases h : okS s = true
    · rw [fault_ok h]
      refine Tot.if_ rfl ?_
      obtain ⟨p, hp, e, hl⟩ := okS_text h
      have hm := mapG_tot (U := textstr_ToTitle_1) (f := titleF) (fun c st hc => Title1_tot hc) title_scal title_fffd hp (by omega) false
      rw [map_title_eq]
      rw [← e] at hm
      refine Tot.bindq hm fun r hr => Tot.ret ?_
      rw [if_pos h]
      intro q hq e2
      rw [e] at e2
      rw [← str_enc_inj hp hq e2, hr]
    · have h : okS s = false := by cases hh : okS s <;> simp_all
      rw [fault_bad h]
      refine Tot.it rfl (Tot.ret ?_)
      rw [if_neg (by rw [h]; simp)]
  · exact hr
end Go.Gv.R
