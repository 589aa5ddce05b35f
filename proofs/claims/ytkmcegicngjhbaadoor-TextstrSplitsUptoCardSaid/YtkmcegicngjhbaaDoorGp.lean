import Derived.Test.YtkmcegicngjhbaaDoorGm
import Derived.TacticsInMore
import Derived.OwnWalkIn
import Derived.WalkKit
set_option linter.all false
namespace Go.Gv
open Go.RowKit

theorem in_quiet {r : Option Nat} {m : Nat} {P : Program} {ops : Array Oper} {Q : Exit → Act → World → Prop} {o : Oper} {rest : List Oper} {a : Act} {w : World} {v : Value} (hg : o.guard = none) (hd : ∀ c, o.op ≠ .defer c)
    (he : (execOp a.eval o).run P w = .ok (.value v) w) (h : wpListIn (FR r) m P ops Q rest (a.put o.dst v) w) : wpListIn (FR r) m P ops Q (o :: rest) a w := by
  unfold wpListIn
  have hw : Region.wanted o (yielded ops a.tmps) = true := by unfold Region.wanted; rw [hg]
  rw [if_pos hw]
  refine ⟨fun _ _ => trivial, ?_⟩
  rw [Oper.semAt_eq _ _ _ hd]
  show o.uponIn _ _ P _ _ _ ((execOp a.eval o).run P w)
  rw [he, Oper.uponIn_value]
  exact h
theorem in_yield {r : Option Nat} {P : Program} {ops : Array Oper} {Q : Exit → Act → World → Prop} {o : Oper} {rest : List Oper} {a : Act} {w : World} {l : Nat} {x : Value} {S : World → Prop} (hg : o.guard = none) (hd : ∀ c, o.op ≠ .defer c)
    (he : (execOp a.eval o).run P w = (Instr.yield l #[x]).run P w) (hY : YieldAt (FR r) 0 P l #[x] w fun e W' => e = .returned (.bool true) ∧ S W')
    (h : ∀ W', S W' → wpListIn (FR r) 0 P ops Q rest (a.put o.dst (.bool true)) W') : wpListIn (FR r) 0 P ops Q (o :: rest) a w := by
  unfold wpListIn
  have hw : Region.wanted o (yielded ops a.tmps) = true := by unfold Region.wanted; rw [hg]
  rw [if_pos hw]
  refine ⟨fun _ _ => trivial, ?_⟩
  rw [Oper.semAt_eq _ _ _ hd]
  show o.uponIn _ _ P _ _ _ ((execOp a.eval o).run P w)
  obtain ⟨fn, tmps, assign, body, hy, hR⟩ := hY
  rw [he, hy, Oper.uponIn_round]
  refine ⟨fun h => by simp [FR, Fence.wide] at h, hR.mono ?_⟩
  rintro e W' ⟨rfl, hs⟩
  exact h W' hs

theorem blt_lt {a b : Nat} (h : Nat.blt a b = true) : a < b := Nat.lt_of_succ_le (by simpa [Nat.blt] using h)
theorem gv_yieldOnce {P : Program} {R : RR} {n : Nat} {k : List It} {σ : List (Nat × Value)} {w : World} {id l : Nat} {o1 o2 o3 o4 : Oper} {tf tx d1 d2 d3 d4 ty : Nat} {tys : Array TypeId} {x : Value} {S : World → Prop}
    (h1 : (o1.op, o1.dst, o1.guard) = (.move (.tmp tf), some d1, none)) (h2 : (o2.op, o2.dst, o2.guard) = (.move (.tmp tx), some d2, none))
    (h3 : (o3.op, o3.dst, o3.guard) = (.call { callee := .value (.tmp d1), args := #[.tmp d2], argTypes := tys }, some d3, none)) (h4 : (o4.op, o4.dst, o4.guard) = (.unOp .not ty (.tmp d3), some d4, none))
    (b1 : Nat.blt d1 n = true) (b2 : Nat.blt d2 n = true) (b3 : Nat.blt d3 n = true) (b4 : Nat.blt d4 n = true)
    (e1 : ev σ (.tmp tf) = some (.func (.yield l) #[] #[])) (e2 : ev (put σ d1 (.func (.yield l) #[] #[])) (.tmp tx) = some x)
    (e3 : (ev (put (put σ d1 (.func (.yield l) #[] #[])) d2 x) (.tmp d1), ev (put (put σ d1 (.func (.yield l) #[] #[])) d2 x) (.tmp d2)) = (some (.func (.yield l) #[] #[]), some x))
    (e4 : ev (put (put (put σ d1 (.func (.yield l) #[] #[])) d2 x) d3 (.bool true)) (.tmp d3) = some (.bool true))
    (hY : YieldAt (FR R.r) 0 P l #[x] w fun e W' => e = .returned (.bool true) ∧ S W')
    (h : ∀ W', S W' → Run P R n k .normal (put (put (put (put σ d1 (.func (.yield l) #[] #[])) d2 x) d3 (.bool true)) d4 (.bool false)) W') :
    Run P R n (.code (.region id #[o1, o2, o3, o4] false) :: k) .normal σ w := fun a hd hs hok => by
  have b1 := blt_lt b1; have b2 := blt_lt b2; have b3 := blt_lt b3; have b4 := blt_lt b4
  obtain ⟨g1, h1⟩ := Prod.mk.inj h1; obtain ⟨p1, q1⟩ := Prod.mk.inj h1
  obtain ⟨g2, h2⟩ := Prod.mk.inj h2; obtain ⟨p2, q2⟩ := Prod.mk.inj h2
  obtain ⟨g3, h3⟩ := Prod.mk.inj h3; obtain ⟨p3, q3⟩ := Prod.mk.inj h3
  obtain ⟨g4, h4⟩ := Prod.mk.inj h4; obtain ⟨p4, q4⟩ := Prod.mk.inj h4
  obtain ⟨e3a, e3b⟩ := Prod.mk.inj e3
  show (Code.region id #[o1, o2, o3, o4] false).wpIn (FR R.r) 0 P (K P R k) a w
  refine wpIn_region_lit (l := [o1, o2, o3, o4]) ?_
  have hE1 : a.eval (.tmp tf) = .func (.yield l) #[] #[] := ev_ok hok e1
  refine in_quiet (v := .func (.yield l) #[] #[]) q1 (fun c => by rw [g1]; simp) (by unfold execOp; rw [g1]; simp [hE1]) ?_
  rw [p1]
  have hok1 : Ok _ (a.put (some d1) (.func (.yield l) #[] #[])).tmps := hok.put (d := d1) (by omega) (.func (.yield l) #[] #[])
  have hs1 : (a.put (some d1) (.func (.yield l) #[] #[])).tmps.size = n := by simp [Act.put, hs]
  have hd1 : (a.put (some d1) (.func (.yield l) #[] #[])).defers = R.ds := hd
  generalize a.put (some d1) (.func (.yield l) #[] #[]) = a1 at hok1 hs1 hd1
  have hE2 : a1.eval (.tmp tx) = x := ev_ok hok1 e2
  refine in_quiet (v := x) q2 (fun c => by rw [g2]; simp) (by unfold execOp; rw [g2]; simp [hE2]) ?_
  rw [p2]
  have hok2 : Ok _ (a1.put (some d2) x).tmps := hok1.put (d := d2) (by omega) x
  have hs2 : (a1.put (some d2) x).tmps.size = n := by simp [Act.put, hs1]
  have hd2 : (a1.put (some d2) x).defers = R.ds := hd1
  generalize a1.put (some d2) x = a2 at hok2 hs2 hd2
  have hE3 : a2.eval (.tmp d1) = .func (.yield l) #[] #[] := ev_ok hok2 e3a
  have hE4 : a2.eval (.tmp d2) = x := ev_ok hok2 e3b
  have hF3 := hE3; have hF4 := hE4
  simp only [Act.eval, Array.getD_eq_getD_getElem?] at hF3 hF4
  refine in_yield q3 (fun c => by rw [g3]; simp) (by unfold execOp; rw [g3]; simp [go_sem, resolve, hF3, hF4]) hY fun W' hS => ?_
  rw [p3]
  have hok3 : Ok _ (a2.put (some d3) (.bool true)).tmps := hok2.put (d := d3) (by omega) (.bool true)
  have hs3 : (a2.put (some d3) (.bool true)).tmps.size = n := by simp [Act.put, hs2]
  have hd3 : (a2.put (some d3) (.bool true)).defers = R.ds := hd2
  generalize a2.put (some d3) (.bool true) = a3 at hok3 hs3 hd3
  have hE5 : a3.eval (.tmp d3) = .bool true := ev_ok hok3 e4
  have hF5 := hE5
  simp only [Act.eval, Array.getD_eq_getD_getElem?] at hF5
  refine in_quiet (v := .bool false) q4 (fun c => by rw [g4]; simp) (by unfold execOp; rw [g4]; simp [go_sem, hF5, Op.unary]) ?_
  rw [p4]
  refine wpListIn_nil ?_
  exact h W' hS (a3.put (some d4) (.bool false)) hd3 (by simp [Act.put, hs3]) (hok3.put (d := d4) (by omega) (.bool false))
end Go.Gv
