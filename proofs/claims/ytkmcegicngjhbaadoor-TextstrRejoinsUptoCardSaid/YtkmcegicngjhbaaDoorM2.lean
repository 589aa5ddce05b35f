import Derived.Test.YtkmcegicngjhbaaDoorM1
set_option linter.all false
namespace Go.Gv.R
open Go Go.Gv Go.Gv.D Go.Lib

/-! strings.Map over a valid text -/
noncomputable def mapG {σ : Type} (U : Nat → Int → σ → Option (Int × σ)) (fuel : Nat) (mapping_0c0 : σ) (s_1 : ByteArray) : Option (ByteArray × σ) :=
  (Option.bind (loopN (fun (s15 : (ByteArray × σ × (Option (List UInt8)) × Nat)) => (if (decide (s15.2.2.2 < ByteArray.size s_1)) then (Option.bind (U fuel (runeI s_1 s15.2.2.2) s15.2.1) fun r31 => (if ((r31.1 == (runeI s_1 s15.2.2.2)) && ((runeI s_1 s15.2.2.2) != 65533)) then (some (.inl (s15.1, r31.2, s15.2.2.1, (s15.2.2.2 + runeN s_1 s15.2.2.2)))) else (Option.bind (if ((runeI s_1 s15.2.2.2) == 65533) then (Option.bind (ssub s15.1 ((s15.2.2.2 : Nat) : Int) ((ByteArray.size s15.1 : Nat) : Int)) fun x57 => (Option.bind (utf8_DecodeRuneInString fuel x57) fun r59 => (if ((r59.2 != 1) && (r31.1 == r59.1)) then (some (.inr (.inl (s15.1, r31.2, s15.2.2.1, (s15.2.2.2 + runeN s_1 s15.2.2.2))))) else (some (.inl r59.2))))) else (Option.bind (utf8_RuneLen fuel (runeI s_1 s15.2.2.2)) fun r85 => (some (.inl r85)))) (cont fun (s54 : Int) => (Option.bind (growB s15.2.2.1 (IntKind.i64.wrap (((ByteArray.size s15.1 : Nat) : Int) + 4))) fun y105 => (Option.bind (ssub s15.1 0 ((s15.2.2.2 : Nat) : Int)) fun x115 => (Option.bind (wstrB y105 x115) fun y117 => (Option.bind (if (decide (r31.1 ≥ 0)) then (Option.bind (wruneB y117 r31.1) fun y130 => (some (y130))) else (some (y117))) fun (j127 : (Option (List UInt8))) => (Option.bind (ssub s15.1 (IntKind.i64.wrap (((s15.2.2.2 : Nat) : Int) + s54)) ((ByteArray.size s15.1 : Nat) : Int)) fun x145 => (some (.inr ((x145, r31.2, j127))))))))))))) else (some (.inr ((s15.1, s15.2.1, s15.2.2.1)))))) fuel (s_1, mapping_0c0, none, 0)) fun (j13 : (ByteArray × σ × (Option (List UInt8)))) => (if (Option.isNone j13.2.2) then (some ((j13.1, j13.2.1))) else (Option.bind (loopN (fun (s171 : (σ × (Option (List UInt8)) × Nat)) => (if (decide (s171.2.2 < ByteArray.size j13.1)) then (Option.bind (U fuel (runeI j13.1 s171.2.2) s171.1) fun r186 => (Option.bind (if (decide (r186.1 ≥ 0)) then (if (decide (r186.1 < 128)) then (Option.bind (wbyteB s171.2.1 (IntKind.u8.wrap (r186.1))) fun y198 => (some (y198))) else (Option.bind (wruneB s171.2.1 r186.1) fun y217 => (some (y217)))) else (some (s171.2.1))) fun (j194 : (Option (List UInt8))) => (some (.inl (r186.2, j194, (s171.2.2 + runeN j13.1 s171.2.2)))))) else (some (.inr ((s171.1, s171.2.1)))))) fuel (j13.2.1, j13.2.2, 0)) fun (j169 : (σ × (Option (List UInt8)))) => (Option.bind (strB j169.2) fun y256 => (some ((y256, j169.1)))))))
noncomputable def mapG0 (U : Nat → Int → Option Int) (fuel : Nat) (s_1 : ByteArray) : Option ByteArray :=
  (Option.bind (loopN (fun (s15 : (ByteArray × (Option (List UInt8)) × Nat)) => (if (decide (s15.2.2 < ByteArray.size s_1)) then (Option.bind (U fuel (runeI s_1 s15.2.2)) fun r29 => (if ((r29 == (runeI s_1 s15.2.2)) && ((runeI s_1 s15.2.2) != 65533)) then (some (.inl (s15.1, s15.2.1, (s15.2.2 + runeN s_1 s15.2.2)))) else (Option.bind (if ((runeI s_1 s15.2.2) == 65533) then (Option.bind (ssub s15.1 ((s15.2.2 : Nat) : Int) ((ByteArray.size s15.1 : Nat) : Int)) fun x49 => (Option.bind (utf8_DecodeRuneInString fuel x49) fun r51 => (if ((r51.2 != 1) && (r29 == r51.1)) then (some (.inr (.inl (s15.1, s15.2.1, (s15.2.2 + runeN s_1 s15.2.2))))) else (some (.inl r51.2))))) else (Option.bind (utf8_RuneLen fuel (runeI s_1 s15.2.2)) fun r74 => (some (.inl r74)))) (cont fun (s46 : Int) => (Option.bind (growB s15.2.1 (IntKind.i64.wrap (((ByteArray.size s15.1 : Nat) : Int) + 4))) fun y91 => (Option.bind (ssub s15.1 0 ((s15.2.2 : Nat) : Int)) fun x100 => (Option.bind (wstrB y91 x100) fun y102 => (Option.bind (if (decide (r29 ≥ 0)) then (Option.bind (wruneB y102 r29) fun y114 => (some (y114))) else (some (y102))) fun (j111 : (Option (List UInt8))) => (Option.bind (ssub s15.1 (IntKind.i64.wrap (((s15.2.2 : Nat) : Int) + s46)) ((ByteArray.size s15.1 : Nat) : Int)) fun x127 => (some (.inr ((x127, j111))))))))))))) else (some (.inr ((s15.1, s15.2.1)))))) fuel (s_1, none, 0)) fun (j13 : (ByteArray × (Option (List UInt8)))) => (if (Option.isNone j13.2) then (some (j13.1)) else (Option.bind (loopN (fun (s152 : ((Option (List UInt8)) × Nat)) => (if (decide (s152.2 < ByteArray.size j13.1)) then (Option.bind (U fuel (runeI j13.1 s152.2)) fun r165 => (Option.bind (if (decide (r165 ≥ 0)) then (if (decide (r165 < 128)) then (Option.bind (wbyteB s152.1 (IntKind.u8.wrap (r165))) fun y174 => (some (y174))) else (Option.bind (wruneB s152.1 r165) fun y191 => (some (y191)))) else (some (s152.1))) fun (j170 : (Option (List UInt8))) => (some (.inl (j170, (s152.2 + runeN j13.1 s152.2)))))) else (some (.inr (s152.1))))) fuel (j13.2, 0)) fun (j150 : (Option (List UInt8))) => (Option.bind (strB j150) fun y224 => (some (y224))))))
theorem map_title_eq : strings_Map_ToTitle_1 = mapG textstr_ToTitle_1 := rfl
theorem map_upper_eq : strings_Map_upper = mapG0 textstr_upper := rfl
theorem map_lower_eq : strings_Map_lower = mapG0 textstr_lower := rfl

theorem RuneLen_tot {r : Nat} (h : Scal r) : Tot (fun fuel => utf8_RuneLen fuel (r : Int)) (fun x => x = ((encR r).length : Int)) := by
  unfold utf8_RuneLen
  refine Tot.if_ (decide_eq_false (by omega)) ?_
  refine Tot.ite (fun h1 => Tot.ret ?_) fun h1 => Tot.ite (fun h2 => Tot.ret ?_) fun h2 => Tot.if_ ?_ (Tot.ite (fun h3 => Tot.ret ?_) fun h3 => Tot.it ?_ (Tot.ret ?_))
  · have h1 := of_decide_eq_true h1; rw [encR1 (by omega)]; rfl
  · have h1 := of_decide_eq_false h1; have h2 := of_decide_eq_true h2; rw [encR2 (by omega) (by omega)]; rfl
  · rcases h with h | h
    · rw [decide_eq_false (show ¬ (55296 : Int) ≤ (r : Int) by omega)]; rfl
    · rw [decide_eq_false (show ¬ (r : Int) ≤ 57343 by omega), Bool.and_false]
  · have h2 := of_decide_eq_false h2; have h3 := of_decide_eq_true h3; rw [encR3 (by omega) (by omega) h]; rfl
  · have h3 := of_decide_eq_false h3; exact decide_eq_true (by rcases h with h | h <;> omega)
  · have h3 := of_decide_eq_false h3; rw [encR4 (by omega) (by rcases h with h | h <;> omega)]; rfl

theorem enc_fffd : encR 65533 = [239, 191, 189] := by rw [encR3 (by omega) (by omega) (.inr ⟨by omega, by omega⟩)]; rfl

theorem Decode_fffd {s : ByteArray} {l : List UInt8} (h : bytesOf s = encR 65533 ++ l) : Tot (fun fuel => utf8_DecodeRuneInString fuel s) (fun r => r = (65533, 3)) := by
  rw [enc_fffd] at h
  have hsz : s.size = l.length + 3 := by rw [size_bytes, h]; simp
  have s0 : sidx s 0 = some 239 := by have := sidx_nat (s := s) (i := 0) (by rw [h]; simp); rw [show ((0 : Nat) : Int) = 0 from rfl] at this; rw [this]; simp [h]
  have s1 : sidx s 1 = some 191 := by have := sidx_nat (s := s) (i := 1) (by rw [h]; simp); rw [show ((1 : Nat) : Int) = 1 from rfl] at this; rw [this]; simp [h]
  have s2 : sidx s 2 = some 189 := by have := sidx_nat (s := s) (i := 2) (by rw [h]; simp); rw [show ((2 : Nat) : Int) = 2 from rfl] at this; rw [this]; simp [h]
  unfold utf8_DecodeRuneInString
  have hne : (!(s.toList == (strOf []).toList)) = true := by
    rw [toList_bytes, toList_bytes, h, bytes_str]; rfl
  refine Tot.bindq (P := fun j => j = false) ?_ fun j hj => ?_
  · exact Tot.it hne (Tot.bind0 s0 (Tot.ret (by decide)))
  subst hj
  refine Tot.if_ rfl (Tot.bindq (P := fun r => r = (65533, 3)) ?_ fun r hr => Tot.ret (by subst hr; rfl))
  unfold utf8_decodeRuneInStringSlow
  refine Tot.if_ (decide_eq_false (by omega)) (Tot.bind0 s0 (Tot.bind0 (a := (3 : UInt8)) (by decide) ?_))
  refine Tot.if_ (by decide) (Tot.bind0 (a := (3 : Int)) (by decide) (Tot.bind0 (a := ((128, 191) : Int × Int)) (by decide) ?_))
  refine Tot.if_ (decide_eq_false (by omega)) (Tot.bind0 s1 (Tot.bindq (P := fun j => j = false) (Tot.if_ (by decide) (Tot.ret (by decide))) fun j hj => ?_))
  subst hj
  refine Tot.if_ rfl (Tot.if_ (by decide) (Tot.bind0 s2 (Tot.if_ (by decide) (Tot.it (by decide) (Tot.bind0 (a := (65533 : Int)) (by decide) (Tot.ret rfl))))))

def mapS {σ : Type} (f : σ → Nat → Nat × σ) : σ → List Nat → List Nat
  | _, [] => []
  | st, c :: p => (f st c).1 :: mapS f (f st c).2 p
def endS {σ : Type} (f : σ → Nat → Nat × σ) : σ → List Nat → σ
  | st, [] => st
  | st, c :: p => endS f (f st c).2 p
theorem mapS_app {σ : Type} (f : σ → Nat → Nat × σ) : ∀ (st : σ) (a b : List Nat), mapS f st (a ++ b) = mapS f st a ++ mapS f (endS f st a) b
  | _, [], _ => rfl
  | st, c :: a, b => by simp only [List.cons_append, mapS, endS, mapS_app f _ a b]
theorem endS_app {σ : Type} (f : σ → Nat → Nat × σ) : ∀ (st : σ) (a b : List Nat), endS f st (a ++ b) = endS f (endS f st a) b
  | _, [], _ => rfl
  | st, c :: a, b => by simp only [List.cons_append, endS, endS_app f _ a b]
theorem mapS_len {σ : Type} (f : σ → Nat → Nat × σ) : ∀ (st : σ) (a : List Nat), (mapS f st a).length = a.length
  | _, [] => rfl
  | st, c :: a => by simp only [mapS, List.length_cons, mapS_len f _ a]
theorem mapS_scal {σ : Type} {f : σ → Nat → Nat × σ} (hf : ∀ c st, Scal c → Scal (f st c).1) : ∀ (st : σ) (a : List Nat), (∀ r ∈ a, Scal r) → ∀ r ∈ mapS f st a, Scal r
  | _, [], _ => fun r h => by cases h
  | st, c :: a, h => fun r hr => by
    simp only [mapS, List.mem_cons] at hr
    rcases hr with e | e
    · subst e; exact hf c st (h c (List.mem_cons_self ..))
    · exact mapS_scal hf _ a (fun x hx => h x (List.mem_cons_of_mem _ hx)) r e

theorem enc_take (a b : List Nat) : (enc (a ++ b)).take (enc a).length = enc a := by rw [enc_app, List.take_left]
theorem enc_drop (a b : List Nat) : (enc (a ++ b)).drop (enc a).length = enc b := by rw [enc_app, List.drop_left]
theorem scal_i32 {r : Nat} (h : Scal r) : r ≤ 1114111 := by rcases h with h | h <;> omega

section
variable {σ : Type} {U : Nat → Int → σ → Option (Int × σ)} {f : σ → Nat → Nat × σ}
theorem mapG_tot (hU : ∀ c st, Scal c → Tot (fun n => U n (c : Int) st) (fun r => r = (((f st c).1 : Int), (f st c).2))) (hf : ∀ c st, Scal c → Scal (f st c).1) (h0 : ∀ st, (f st 65533).1 = 65533)
    {p : List Nat} (hp : ∀ r ∈ p, Scal r) (hl : (enc p).length ≤ 1048576) (st0 : σ) : Tot (fun n => mapG U n st0 (strOf (enc p))) (fun r => r = (strOf (enc (mapS f st0 p)), endS f st0 p)) := by
  unfold mapG
  simp only [size_str]
  refine Tot.bindq (P := fun j => (j = (strOf (enc p), endS f st0 p, none) ∧ mapS f st0 p = p) ∨ ∃ a c b, p = a ++ c :: b ∧ mapS f st0 a = a ∧ j = (strOf (enc b), (f (endS f st0 a) c).2, some (enc a ++ encR (f (endS f st0 a) c).1))) ?_ fun j hj => ?_
  · refine Tot.loop (fun st => ∃ a b, p = a ++ b ∧ mapS f st0 a = a ∧ st = (strOf (enc p), endS f st0 a, none, (enc a).length)) (fun st => (enc p).length + 1 - st.2.2.2) ⟨[], p, rfl, rfl, rfl⟩ fun st ⟨a, b, e, hm, hst⟩ => ?_
    subst hst
    dsimp only
    simp only [size_str]
    cases b with
    | nil =>
      rw [List.append_nil] at e; subst e
      exact Tot.if_ (decide_eq_false (by omega)) (Tot.ret (.inl ⟨rfl, hm⟩))
    | cons c b =>
      have hc : Scal c := hp c (by rw [e]; simp)
      have hlen : (enc p).length = (enc a).length + (encR c).length + (enc b).length := by rw [e, enc_app, enc_cons, List.length_append, List.length_append]; omega
      have hcp := encR_pos c
      refine Tot.it (decide_eq_true (by omega)) ?_
      obtain ⟨hr1, hr2⟩ := rune_at (s := strOf (enc p)) (p := a) (t := b) hc (by rw [bytes_str, e])
      rw [hr1, hr2]
      refine Tot.bindq (hU c (endS f st0 a) hc) fun r hr => ?_
      subst hr
      dsimp only
      have hnx : mapS f st0 (a ++ [c]) = a ++ [(f (endS f st0 a) c).1] := by rw [mapS_app, hm]; rfl
      have hen : endS f st0 (a ++ [c]) = (f (endS f st0 a) c).2 := by rw [endS_app]; rfl
      have hse : (enc (a ++ [c])).length = (enc a).length + (encR c).length := by rw [enc_snoc, List.length_append]
      have again : ((f (endS f st0 a) c).1 = c) → ∃ a' b', p = a' ++ b' ∧ mapS f st0 a' = a' ∧ (strOf (enc p), (f (endS f st0 a) c).2, (none : Option (List UInt8)), (enc a).length + (encR c).length) = (strOf (enc p), endS f st0 a', none, (enc a').length) := fun h =>
        ⟨a ++ [c], b, by rw [e]; simp, by rw [hnx, h], by rw [hen, hse]⟩
      refine Tot.ite (fun h => Tot.ret ?_) fun h => ?_
      · rw [Bool.and_eq_true] at h
        have h1 : (f (endS f st0 a) c).1 = c := by have := beq_iff_eq.1 h.1; omega
        exact ⟨again h1, by dsimp only; omega⟩
      · by_cases h33 : c = 65533
        · subst h33
          have h1 := h0 (endS f st0 a)
          refine Tot.bindq (P := fun x => x = .inr (.inl (strOf (enc p), (f (endS f st0 a) 65533).2, none, (enc a).length + (encR 65533).length))) ?_ fun x hx => ?_
          · refine Tot.it rfl (Tot.bind0 (ssub_str (by omega) (Nat.le_refl _)) (Tot.bindq (Decode_fffd (l := enc b) ?_) fun r hr => ?_))
            · rw [bytes_str, List.take_of_length_le (Nat.le_refl _), e, enc_drop, enc_cons]
            · subst hr
              rw [h1]
              exact Tot.it rfl (Tot.ret rfl)
          · subst hx
            exact Tot.contr ⟨again h1, by dsimp only; omega⟩
        · have hne : (f (endS f st0 a) c).1 ≠ c := fun e1 => by
            rw [e1] at h
            have h2 : ((c : Int) != 65533) = true := bne_iff_ne.2 (by omega)
            rw [h2, beq_self_eq_true] at h; cases h
          refine Tot.bindq (P := fun x => x = .inl ((encR c).length : Int)) (Tot.if_ (beq_eq_false_iff_ne.2 (by omega)) (Tot.bindq (RuneLen_tot hc) fun r hr => Tot.ret (by subst hr; rfl))) fun x hx => ?_
          subst hx
          refine Tot.contl ?_
          have hw : IntKind.i64.wrap (((enc p).length : Nat) + 4) = (((enc p).length + 4 : Nat) : Int) := iw (by omega) (by omega)
          refine Tot.bind0 (a := some []) (by unfold growB; simp only; rw [hw, if_pos ⟨by omega, by omega⟩]) ?_
          have hsub : ssub (strOf (enc p)) 0 ((enc a).length : Int) = some (strOf (enc a)) := by
            have := ssub_str (l := enc p) (i := 0) (j := (enc a).length) (by omega) (by omega)
            rw [show ((0 : Nat) : Int) = 0 from rfl] at this
            rw [this, List.drop_zero, e, enc_take]
          refine Tot.bind0 hsub (Tot.bind0 (a := some (enc a)) ?_ ?_)
          · unfold wstrB
            simp only [List.length_nil, size_str, Nat.zero_add, List.nil_append]
            rw [if_pos (by omega)]; rfl
          have hsc := hf c (endS f st0 a) hc
          have hsm := scal_i32 hsc
          refine Tot.bindq (P := fun x => x = some (enc a ++ encR (f (endS f st0 a) c).1)) (Tot.it (decide_eq_true (by omega)) (Tot.bind0 (a := some (enc a ++ encR (f (endS f st0 a) c).1)) ?_ (Tot.ret rfl))) fun x hx => ?_
          · unfold wruneB
            simp only
            rw [if_pos ⟨by omega, by omega, by omega⟩]; rfl
          subst hx
          have hw2 : IntKind.i64.wrap (((enc a).length : Int) + ((encR c).length : Int)) = (((enc a).length + (encR c).length : Nat) : Int) := iw (by omega) (by omega)
          rw [hw2]
          refine Tot.bind0 (ssub_str (by omega) (Nat.le_refl _)) (Tot.ret (.inr ⟨a, c, b, e, hm, ?_⟩))
          rw [List.take_of_length_le (Nat.le_refl _), ← hse]
          have : p = (a ++ [c]) ++ b := by rw [e]; simp
          rw [this, enc_drop]
  · rcases hj with ⟨hj, hm⟩ | ⟨a, c, b, e, hm, hj⟩
    · subst hj
      exact Tot.it rfl (Tot.ret (by rw [hm]))
    · subst hj
      dsimp only
      refine Tot.if_ rfl ?_
      have hc : Scal c := hp c (by rw [e]; simp)
      have hb : ∀ r ∈ b, Scal r := fun r hr => hp r (by rw [e]; simp [hr])
      have hlen : (enc p).length = (enc a).length + (encR c).length + (enc b).length := by rw [e, enc_app, enc_cons, List.length_append, List.length_append]; omega
      have hap := enc_len_ge p
      have hal := enc_len_le a
      have hpl : p.length = a.length + 1 + b.length := by rw [e, List.length_append, List.length_cons]; omega
      refine Tot.bindq (P := fun j => j = (endS f st0 p, some (enc (mapS f st0 p)))) ?_ fun j hj => by subst hj; exact Tot.bind0 (a := strOf (enc (mapS f st0 p))) rfl (Tot.ret rfl)
      have hwhole : mapS f st0 p = a ++ (f (endS f st0 a) c).1 :: mapS f (f (endS f st0 a) c).2 b := by rw [e, mapS_app, hm]; rfl
      have hend : endS f st0 p = endS f (f (endS f st0 a) c).2 b := by rw [e, endS_app]; rfl
      simp only [size_str]
      refine Tot.loop (fun st => ∃ x y, b = x ++ y ∧ st = (endS f (f (endS f st0 a) c).2 x, some (enc a ++ encR (f (endS f st0 a) c).1 ++ enc (mapS f (f (endS f st0 a) c).2 x)), (enc x).length)) (fun st => (enc b).length + 1 - st.2.2) ⟨[], b, rfl, by simp [endS, mapS, enc]⟩ fun st ⟨x, y, e2, hst⟩ => ?_
      subst hst
      dsimp only
      cases y with
      | nil =>
        rw [List.append_nil] at e2; subst e2
        refine Tot.if_ (decide_eq_false (by omega)) (Tot.ret ?_)
        show (_, _) = (_, _)
        rw [hend, hwhole, enc_app, enc_cons, List.append_assoc]
      | cons d y =>
        have hd : Scal d := hb d (by rw [e2]; simp)
        have hlen2 : (enc b).length = (enc x).length + (encR d).length + (enc y).length := by rw [e2, enc_app, enc_cons, List.length_append, List.length_append]; omega
        have hdp := encR_pos d
        refine Tot.it (decide_eq_true (by omega)) ?_
        obtain ⟨hr1, hr2⟩ := rune_at (s := strOf (enc b)) (p := x) (t := y) hd (by rw [bytes_str, e2])
        rw [hr1, hr2]
        refine Tot.bindq (hU d (endS f (f (endS f st0 a) c).2 x) hd) fun r hr => ?_
        subst hr
        dsimp only
        have hsc := hf d (endS f (f (endS f st0 a) c).2 x) hd
        have hsm := scal_i32 hsc
        have hxl : (enc (mapS f (f (endS f st0 a) c).2 x)).length ≤ 4 * b.length := Nat.le_trans (enc_len_le _) (by rw [mapS_len, e2, List.length_append]; omega)
        have hep := encR_pos (f (endS f st0 a) c).1
        have hbl := enc_len_ge b
        generalize hg : (f (endS f (f (endS f st0 a) c).2 x) d) = g at hsc hsm ⊢
        refine Tot.bindq (P := fun j => j = some (enc a ++ encR (f (endS f st0 a) c).1 ++ enc (mapS f (f (endS f st0 a) c).2 x) ++ encR g.1)) ?_ fun j hj => Tot.ret ⟨⟨x ++ [d], y, by rw [e2]; simp, ?_⟩, by dsimp only; omega⟩
        · have hL : (enc a ++ encR (f (endS f st0 a) c).1 ++ enc (mapS f (f (endS f st0 a) c).2 x)).length ≤ 100000000 := by rw [List.length_append, List.length_append]; omega
          generalize enc a ++ encR (f (endS f st0 a) c).1 ++ enc (mapS f (f (endS f st0 a) c).2 x) = L at hL ⊢
          refine Tot.it (decide_eq_true (by omega)) (Tot.ite (fun h => ?_) fun h => ?_)
          · have h := of_decide_eq_true h
            refine Tot.bind0 (a := some (L ++ encR g.1)) ?_ (Tot.ret rfl)
            unfold wbyteB
            simp only
            rw [if_pos (by omega), u8_small (by omega) (by omega), u8_int (by omega) (by omega), toU8, encR1 (by omega)]; rfl
          · refine Tot.bind0 (a := some (L ++ encR g.1)) ?_ (Tot.ret rfl)
            unfold wruneB
            simp only
            rw [if_pos ⟨by omega, by omega, by omega⟩]; rfl
        · subst hj
          rw [endS_app, mapS_app, enc_snoc, List.length_append]
          simp only [endS, mapS]
          rw [hg, enc_app, ← List.append_assoc]
          simp [enc]
end
section
variable {U : Nat → Int → Option Int} {f : Nat → Nat}
theorem mapG0_tot (hU : ∀ c, Scal c → Tot (fun n => U n (c : Int)) (fun r => r = ((f c) : Int))) (hf : ∀ c, Scal c → Scal (f c)) (h0 : f 65533 = 65533)
    {p : List Nat} (hp : ∀ r ∈ p, Scal r) (hl : (enc p).length ≤ 1048576) : Tot (fun n => mapG0 U n (strOf (enc p))) (fun r => r = strOf (enc (p.map f))) := by
  unfold mapG0
  simp only [size_str]
  refine Tot.bindq (P := fun j => (j = (strOf (enc p), none) ∧ p.map f = p) ∨ ∃ a c b, p = a ++ c :: b ∧ a.map f = a ∧ j = (strOf (enc b), some (enc a ++ encR (f c)))) ?_ fun j hj => ?_
  · refine Tot.loop (fun st => ∃ a b, p = a ++ b ∧ a.map f = a ∧ st = (strOf (enc p), none, (enc a).length)) (fun st => (enc p).length + 1 - st.2.2) ⟨[], p, rfl, rfl, rfl⟩ fun st ⟨a, b, e, hm, hst⟩ => ?_
    subst hst
    dsimp only
    simp only [size_str]
    cases b with
    | nil =>
      rw [List.append_nil] at e; subst e
      exact Tot.if_ (decide_eq_false (by omega)) (Tot.ret (.inl ⟨rfl, hm⟩))
    | cons c b =>
      have hc : Scal c := hp c (by rw [e]; simp)
      have hlen : (enc p).length = (enc a).length + (encR c).length + (enc b).length := by rw [e, enc_app, enc_cons, List.length_append, List.length_append]; omega
      have hcp := encR_pos c
      refine Tot.it (decide_eq_true (by omega)) ?_
      obtain ⟨hr1, hr2⟩ := rune_at (s := strOf (enc p)) (p := a) (t := b) hc (by rw [bytes_str, e])
      rw [hr1, hr2]
      refine Tot.bindq (hU c hc) fun r hr => ?_
      subst hr
      have hnx : (a ++ [c]).map f = a ++ [(f c)] := by rw [List.map_append, hm]; rfl
      have hse : (enc (a ++ [c])).length = (enc a).length + (encR c).length := by rw [enc_snoc, List.length_append]
      have again : ((f c) = c) → ∃ a' b', p = a' ++ b' ∧ a'.map f = a' ∧ (strOf (enc p), (none : Option (List UInt8)), (enc a).length + (encR c).length) = (strOf (enc p), none, (enc a').length) := fun h =>
        ⟨a ++ [c], b, by rw [e]; simp, by rw [hnx, h], by rw [hse]⟩
      refine Tot.ite (fun h => Tot.ret ?_) fun h => ?_
      · rw [Bool.and_eq_true] at h
        have h1 : (f c) = c := by have := beq_iff_eq.1 h.1; omega
        exact ⟨again h1, by dsimp only; omega⟩
      · by_cases h33 : c = 65533
        · subst h33
          have h1 := h0
          refine Tot.bindq (P := fun x => x = .inr (.inl (strOf (enc p), none, (enc a).length + (encR 65533).length))) ?_ fun x hx => ?_
          · refine Tot.it rfl (Tot.bind0 (ssub_str (by omega) (Nat.le_refl _)) (Tot.bindq (Decode_fffd (l := enc b) ?_) fun r hr => ?_))
            · rw [bytes_str, List.take_of_length_le (Nat.le_refl _), e, enc_drop, enc_cons]
            · subst hr
              rw [h1]
              exact Tot.it rfl (Tot.ret rfl)
          · subst hx
            exact Tot.contr ⟨again h1, by dsimp only; omega⟩
        · have hne : (f c) ≠ c := fun e1 => by
            rw [e1] at h
            have h2 : ((c : Int) != 65533) = true := bne_iff_ne.2 (by omega)
            rw [h2, beq_self_eq_true] at h; cases h
          refine Tot.bindq (P := fun x => x = .inl ((encR c).length : Int)) (Tot.if_ (beq_eq_false_iff_ne.2 (by omega)) (Tot.bindq (RuneLen_tot hc) fun r hr => Tot.ret (by subst hr; rfl))) fun x hx => ?_
          subst hx
          refine Tot.contl ?_
          have hw : IntKind.i64.wrap (((enc p).length : Nat) + 4) = (((enc p).length + 4 : Nat) : Int) := iw (by omega) (by omega)
          refine Tot.bind0 (a := some []) (by unfold growB; simp only; rw [hw, if_pos ⟨by omega, by omega⟩]) ?_
          have hsub : ssub (strOf (enc p)) 0 ((enc a).length : Int) = some (strOf (enc a)) := by
            have := ssub_str (l := enc p) (i := 0) (j := (enc a).length) (by omega) (by omega)
            rw [show ((0 : Nat) : Int) = 0 from rfl] at this
            rw [this, List.drop_zero, e, enc_take]
          refine Tot.bind0 hsub (Tot.bind0 (a := some (enc a)) ?_ ?_)
          · unfold wstrB
            simp only [List.length_nil, size_str, Nat.zero_add, List.nil_append]
            rw [if_pos (by omega)]; rfl
          have hsc := hf c hc
          have hsm := scal_i32 hsc
          refine Tot.bindq (P := fun x => x = some (enc a ++ encR (f c))) (Tot.it (decide_eq_true (by omega)) (Tot.bind0 (a := some (enc a ++ encR (f c))) ?_ (Tot.ret rfl))) fun x hx => ?_
          · unfold wruneB
            simp only
            rw [if_pos ⟨by omega, by omega, by omega⟩]; rfl
          subst hx
          have hw2 : IntKind.i64.wrap (((enc a).length : Int) + ((encR c).length : Int)) = (((enc a).length + (encR c).length : Nat) : Int) := iw (by omega) (by omega)
          rw [hw2]
          refine Tot.bind0 (ssub_str (by omega) (Nat.le_refl _)) (Tot.ret (.inr ⟨a, c, b, e, hm, ?_⟩))
          rw [List.take_of_length_le (Nat.le_refl _), ← hse]
          have : p = (a ++ [c]) ++ b := by rw [e]; simp
          rw [this, enc_drop]
  · rcases hj with ⟨hj, hm⟩ | ⟨a, c, b, e, hm, hj⟩
    · subst hj
      exact Tot.it rfl (Tot.ret (by rw [hm]))
    · subst hj
      dsimp only
      refine Tot.if_ rfl ?_
      have hc : Scal c := hp c (by rw [e]; simp)
      have hb : ∀ r ∈ b, Scal r := fun r hr => hp r (by rw [e]; simp [hr])
      have hlen : (enc p).length = (enc a).length + (encR c).length + (enc b).length := by rw [e, enc_app, enc_cons, List.length_append, List.length_append]; omega
      have hap := enc_len_ge p
      have hal := enc_len_le a
      have hpl : p.length = a.length + 1 + b.length := by rw [e, List.length_append, List.length_cons]; omega
      refine Tot.bindq (P := fun j => j = some (enc (p.map f))) ?_ fun j hj => by subst hj; exact Tot.bind0 (a := strOf (enc (p.map f))) rfl (Tot.ret rfl)
      have hwhole : p.map f = a ++ (f c) :: b.map f := by rw [e, List.map_append, hm]; rfl
      simp only [size_str]
      refine Tot.loop (fun st => ∃ x y, b = x ++ y ∧ st = (some (enc a ++ encR (f c) ++ enc (x.map f)), (enc x).length)) (fun st => (enc b).length + 1 - st.2) ⟨[], b, rfl, by simp [enc]⟩ fun st ⟨x, y, e2, hst⟩ => ?_
      subst hst
      dsimp only
      cases y with
      | nil =>
        rw [List.append_nil] at e2; subst e2
        refine Tot.if_ (decide_eq_false (by omega)) (Tot.ret ?_)
        rw [hwhole, enc_app, enc_cons, List.append_assoc]
      | cons d y =>
        have hd : Scal d := hb d (by rw [e2]; simp)
        have hlen2 : (enc b).length = (enc x).length + (encR d).length + (enc y).length := by rw [e2, enc_app, enc_cons, List.length_append, List.length_append]; omega
        have hdp := encR_pos d
        refine Tot.it (decide_eq_true (by omega)) ?_
        obtain ⟨hr1, hr2⟩ := rune_at (s := strOf (enc b)) (p := x) (t := y) hd (by rw [bytes_str, e2])
        rw [hr1, hr2]
        refine Tot.bindq (hU d hd) fun r hr => ?_
        subst hr
        have hsc := hf d hd
        have hsm := scal_i32 hsc
        have hxl : (enc (x.map f)).length ≤ 4 * b.length := Nat.le_trans (enc_len_le _) (by rw [List.length_map, e2, List.length_append]; omega)
        have hep := encR_pos (f c)
        have hbl := enc_len_ge b
        generalize hg : f d = g at hsc hsm ⊢
        refine Tot.bindq (P := fun j => j = some (enc a ++ encR (f c) ++ enc (x.map f) ++ encR g)) ?_ fun j hj => Tot.ret ⟨⟨x ++ [d], y, by rw [e2]; simp, ?_⟩, by dsimp only; omega⟩
        · have hL : (enc a ++ encR (f c) ++ enc (x.map f)).length ≤ 100000000 := by rw [List.length_append, List.length_append]; omega
          generalize enc a ++ encR (f c) ++ enc (x.map f) = L at hL ⊢
          refine Tot.it (decide_eq_true (by omega)) (Tot.ite (fun h => ?_) fun h => ?_)
          · have h := of_decide_eq_true h
            refine Tot.bind0 (a := some (L ++ encR g)) ?_ (Tot.ret rfl)
            unfold wbyteB
            simp only
            rw [if_pos (by omega), u8_small (by omega) (by omega), u8_int (by omega) (by omega), toU8, encR1 (by omega)]; rfl
          · refine Tot.bind0 (a := some (L ++ encR g)) ?_ (Tot.ret rfl)
            unfold wruneB
            simp only
            rw [if_pos ⟨by omega, by omega, by omega⟩]; rfl
        · subst hj
          rw [List.map_append, enc_snoc, List.length_append]
          simp only [List.map_cons, List.map_nil]
          rw [hg, enc_app, ← List.append_assoc]
          simp [enc]
end
end Go.Gv.R
