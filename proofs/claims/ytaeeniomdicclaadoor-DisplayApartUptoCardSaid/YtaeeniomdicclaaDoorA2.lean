import Derived.Test.YtaeeniomdicclaaDoorA1
set_option linter.all false
namespace Go.Gv.P
open Go Go.Gv Go.Gv.D Go.Gv.R Go.Lib
set_option maxRecDepth 100000

/-! Own work: a tuple of two texts is written. -/
theorem Tot.succ {α : Type} {f g : Nat → Option α} {Q : α → Prop} (h : ∀ n, f (n + 1) = g n) (hg : Tot g Q) : Tot f Q := by
  obtain ⟨a, ha, N, hN⟩ := hg
  refine ⟨a, ha, N + 1, fun n hn => ?_⟩
  obtain ⟨m, rfl⟩ : ∃ m, n = m + 1 := ⟨n - 1, by omega⟩
  rw [h]
  exact hN m (by omega)
abbrev Vl := Int × (Bool × List Int) × (Bool × List Int) × ByteArray × Int
abbrev Ob := Int × ByteArray × Int × List Int × List Int × List ByteArray × List Vl × List Vl × Int × Int
def tx (l : List UInt8) : Vl := (4, (false, []), (false, []), strOf l, 0)
def tup2 (l l' : List UInt8) : Ob := (1, strOf [], 0, [], [], [], [tx l, tx l'], [], 0, 0)
variable {h : List Ob} {out : List UInt8} {path : List Int}
theorem put_tot {t : List UInt8} (hl : out.length + t.length ≤ 4000) : Tot (fun n => display_writer_put n (h, out, path) (strOf t)) (· = (h, out ++ t, path)) := by
  unfold display_writer_put
  dsimp only
  rw [bytes_str]
  exact Tot.bind0 (app_ok (by omega)) (Tot.if_ (decide_eq_false (by rw [List.length_append]; omega)) (Tot.ret rfl))
theorem text_tot {l : List UInt8} (hl : out.length + (lit [] l true).length ≤ 4000) : Tot (fun n => display_writer_value n (h, out, path) (tx l)) (· = (h, out ++ lit [] l true, path)) := by
  refine Tot.succ (fun n => display_writer_value.eq_2 _ _ _) ?_
  have hs := (lit_size (pre := []) (l := l) (wide := true)).1
  refine Tot.it rfl (Tot.bindq (P := (· = strOf (lit [] l true))) ?_ fun r hr => ?_)
  · unfold display_atom
    refine Tot.if_ rfl (Tot.if_ rfl (Tot.if_ rfl (Tot.if_ rfl (Tot.it rfl ?_))))
    exact Tot.bindq (literal_tot (pre := []) true (by omega) (by simp)) fun r hr => by subst hr; exact Tot.ret rfl
  · subst hr
    exact Tot.bindq (put_tot (h := h) (path := path) hl) fun r hr => by subst hr; exact Tot.ret rfl
theorem list_tot {l l' : List UInt8} (hl : out.length + (lit [] l true).length + 2 + (lit [] l' true).length ≤ 4000) :
    Tot (fun n => display_writer_list n (h, out, path) [tx l, tx l']) (· = (h, out ++ lit [] l true ++ [44, 32] ++ lit [] l' true, path)) := by
  refine Tot.succ (fun n => display_writer_list.eq_2 _ _ _) ?_
  refine Tot.bindq (P := (· = (h, out ++ lit [] l true ++ [44, 32] ++ lit [] l' true, path))) ?_ fun j hj => by subst hj; exact Tot.ret rfl
  refine Tot.loop (fun st => st = (0, (h, out, path)) ∨ st = (1, (h, out ++ lit [] l true, path)) ∨ st = (2, (h, out ++ lit [] l true ++ [44, 32] ++ lit [] l' true, path))) (fun st => 2 - st.1.toNat) (.inl rfl) fun st hst => ?_
  rcases hst with hst | hst | hst <;> subst hst
  · refine Tot.it rfl (Tot.bind0 (a := tx l) rfl (Tot.bindq (P := (· = (h, out, path))) (Tot.if_ rfl (Tot.ret rfl)) fun j hj => ?_))
    subst hj
    refine Tot.bindq (text_tot (h := h) (out := out) (path := path) (l := l) (by omega)) fun r hr => ?_
    subst hr
    exact Tot.ret ⟨.inr (.inl rfl), show 2 - (IntKind.i64.wrap (0 + 1)).toNat < 2 - (0 : Int).toNat by decide⟩
  · refine Tot.it rfl (Tot.bind0 (a := tx l') rfl (Tot.bindq (P := (· = (h, out ++ lit [] l true ++ [44, 32], path))) (Tot.it rfl (Tot.bindq (put_tot (h := h) (path := path) (t := [44, 32]) (by simp only [List.length_append, List.length_cons, List.length_nil]; omega)) fun r hr => by subst hr; exact Tot.ret rfl)) fun j hj => ?_))
    subst hj
    refine Tot.bindq (text_tot (h := h) (path := path) (l := l') (by simp only [List.length_append, List.length_cons, List.length_nil]; omega)) fun r hr => ?_
    subst hr
    exact Tot.ret ⟨.inr (.inr rfl), show 2 - (IntKind.i64.wrap (1 + 1)).toNat < 2 - (1 : Int).toNat by decide⟩
  · exact Tot.if_ rfl (Tot.ret rfl)
theorem tuple_tot {l l' : List UInt8} (hl : out.length + (lit [] l true).length + 4 + (lit [] l' true).length ≤ 4000) :
    Tot (fun n => display_writer_container n (h, out, path) (tup2 l l')) (· = (h, out ++ [40] ++ lit [] l true ++ [44, 32] ++ lit [] l' true ++ [41], path)) := by
  refine Tot.succ (fun n => display_writer_container.eq_2 _ _ _) ?_
  refine Tot.it rfl (Tot.bindq (put_tot (h := h) (path := path) (t := [40]) (by simp only [List.length_cons, List.length_nil]; omega)) fun r hr => ?_)
  subst hr
  refine Tot.bindq (list_tot (h := h) (path := path) (l := l) (l' := l') (by simp only [List.length_append, List.length_cons, List.length_nil]; omega)) fun r hr => ?_
  subst hr
  refine Tot.if_ rfl (Tot.bindq (put_tot (h := h) (path := path) (t := [41]) (by simp only [List.length_append, List.length_cons, List.length_nil]; omega)) fun r hr => ?_)
  subst hr
  exact Tot.ret rfl
theorem Literal_tot {l l' : List UInt8} (hl : (lit [] l true).length + 4 + (lit [] l' true).length ≤ 4000) :
    Tot (fun n => display_Literal n (h ++ [tup2 l l']) (6, (false, []), (false, []), strOf [], (h.length : Int))) (· = (strOf ([40] ++ lit [] l true ++ [44, 32] ++ lit [] l' true ++ [41]), (0, 0))) := by
  unfold display_Literal
  refine Tot.bindq (P := (· = (h ++ [tup2 l l'], [40] ++ lit [] l true ++ [44, 32] ++ lit [] l' true ++ [41], ([] : List Int)))) ?_ fun r hr => by subst hr; exact Tot.ret rfl
  refine Tot.succ (fun n => display_writer_value.eq_2 _ _ _) ?_
  refine Tot.if_ rfl (Tot.bind0 (a := tup2 l l') (by rw [idx_nat (by simp)]; simp) (Tot.it rfl (Tot.it rfl ?_)))
  refine Tot.bindq (P := (· = false)) ?_ fun r hr => ?_
  · exact Tot.of_all 10 (fun k => by rfl) rfl
  subst hr
  refine Tot.if_ rfl (Tot.bind0 (app_ok (by simp)) ?_)
  refine Tot.bindq (tuple_tot (h := h ++ [tup2 l l']) (out := []) (path := [(h.length : Int)]) (l := l) (l' := l') (by simp only [List.length_nil]; omega)) fun r hr => ?_
  subst hr
  exact Tot.bind0 (a := ([] : List Int)) (by rfl) (Tot.ret (by simp))
end Go.Gv.P

