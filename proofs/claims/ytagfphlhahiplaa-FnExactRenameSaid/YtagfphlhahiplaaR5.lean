/- Part of the proof that FnExactFormatCore answers true at every term. -/
import Derived.Maps.Views
import Derived.StillTailTactics
import Derived.Test.YtagfphlhahiplaaR4
namespace Go.Proofs.Ytagfphlhahiplaa.C13
open Go.RowKit Go.Proofs.YtagfphlhahiplaaW.PrintWords Go.Proofs.Ytagfphlhahiplaa.PFnExactFormatCore
set_option linter.unusedVariables false
set_option linter.unusedSimpArgs false
/-- a call that answers a truth and keeps what was there -/
def AnswersB (f : Nat) (args : Array Value) (w : World) (b : Bool) : Prop := Calls Try.prog f args w fun e w' => e = .returned (.bool b) ∧ Below w.heap.size w w'
section
variable (x : CoreT) (A3 : Option Addr) (c3 : Nat) (A4 : Option Addr) (c4 : Nat) (A5 : Option Addr) (c5 : Nat) (A6 : Option Addr) (c6 : Nat) (w : World)
set_option maxRecDepth 100000 in
set_option maxHeartbeats 1000000 in
theorem shape_p1a (hk2 : (x.kind != 2) = true) (he2 : (x.kind == 2) = false) (hl : 0 < x.limbs.length) : AnswersB 71 #[.agg (cellsC x A3 c3 A4 c4 A5 c5 A6 c6).toArray] w false := by
  unfold AnswersB
  simp only [cellsC]
  go_enter Try.func71, Try.ntmps71
  go_wp2
  all_goals go_ret
  all_goals exact ⟨rfl, (Below.refl _ _).alloc (Nat.le_refl _) _⟩
set_option maxRecDepth 100000 in
set_option maxHeartbeats 1000000 in
theorem shape_p1b (hk2 : (x.kind != 2) = true) (he2 : (x.kind == 2) = false) (hl : x.limbs.length = 0) (hm : x.minus = true) : AnswersB 71 #[.agg (cellsC x A3 c3 A4 c4 A5 c5 A6 c6).toArray] w false := by
  unfold AnswersB
  simp only [cellsC]
  go_enter Try.func71, Try.ntmps71
  go_wp2
  all_goals go_ret
  all_goals exact ⟨rfl, (Below.refl _ _).alloc (Nat.le_refl _) _⟩
set_option maxRecDepth 100000 in
set_option maxHeartbeats 1000000 in
theorem shape_p2a (hk : x.kind = 2) (ha : 0 < x.alts.length) : AnswersB 71 #[.agg (cellsC x A3 c3 A4 c4 A5 c5 A6 c6).toArray] w false := by
  unfold AnswersB
  simp only [cellsC]
  go_enter Try.func71, Try.ntmps71
  go_wp2
  all_goals go_ret
  all_goals exact ⟨rfl, (Below.refl _ _).alloc (Nat.le_refl _) _⟩
set_option maxRecDepth 100000 in
set_option maxHeartbeats 1000000 in
theorem shape_p2b (hk2 : (x.kind != 2) = true) (hk8 : (x.kind != 8) = true) (he2 : (x.kind == 2) = false) (he8 : (x.kind == 8) = false) (hm : x.minus = false) (hl : x.limbs.length = 0) (ha : 0 < x.alts.length) : AnswersB 71 #[.agg (cellsC x A3 c3 A4 c4 A5 c5 A6 c6).toArray] w false := by
  unfold AnswersB
  simp only [cellsC]
  go_enter Try.func71, Try.ntmps71
  go_wp2
  all_goals go_ret
  all_goals exact ⟨rfl, (Below.refl _ _).alloc (Nat.le_refl _) _⟩
set_option maxRecDepth 100000 in
set_option maxHeartbeats 1000000 in
theorem shape_p3a (hk : x.kind = 2) (ha : x.alts.length = 0) (hn : 0 < x.names.length) : AnswersB 71 #[.agg (cellsC x A3 c3 A4 c4 A5 c5 A6 c6).toArray] w false := by
  unfold AnswersB
  simp only [cellsC]
  go_enter Try.func71, Try.ntmps71
  go_wp2
  all_goals go_ret
  all_goals exact ⟨rfl, (Below.refl _ _).alloc (Nat.le_refl _) _⟩
set_option maxRecDepth 100000 in
set_option maxHeartbeats 1000000 in
theorem shape_p3b (hk : x.kind = 8) (hm : x.minus = false) (hl : x.limbs.length = 0) (hn : 0 < x.names.length) : AnswersB 71 #[.agg (cellsC x A3 c3 A4 c4 A5 c5 A6 c6).toArray] w false := by
  unfold AnswersB
  simp only [cellsC]
  go_enter Try.func71, Try.ntmps71
  go_wp2
  all_goals go_ret
  all_goals exact ⟨rfl, (Below.refl _ _).alloc (Nat.le_refl _) _⟩
set_option maxRecDepth 100000 in
set_option maxHeartbeats 1000000 in
theorem shape_p3c (hk2 : (x.kind != 2) = true) (hk8 : (x.kind != 8) = true) (hk6 : (x.kind != 6) = true) (hk7 : (x.kind != 7) = true) (he2 : (x.kind == 2) = false) (he8 : (x.kind == 8) = false) (he6 : (x.kind == 6) = false) (he7 : (x.kind == 7) = false) (hm : x.minus = false) (hl : x.limbs.length = 0) (ha : x.alts.length = 0) (hn : 0 < x.names.length) : AnswersB 71 #[.agg (cellsC x A3 c3 A4 c4 A5 c5 A6 c6).toArray] w false := by
  unfold AnswersB
  simp only [cellsC]
  go_enter Try.func71, Try.ntmps71
  go_wp2
  all_goals go_ret
  all_goals exact ⟨rfl, (Below.refl _ _).alloc (Nat.le_refl _) _⟩
set_option maxRecDepth 100000 in
set_option maxHeartbeats 1000000 in
theorem shape_v1 (hk : x.kind = 1) (hm : x.minus = false) (hl : x.limbs.length = 0) (ha : x.alts.length = 0) (hn : x.names.length = 0) (hs : x.name = ⟨#[]⟩) : AnswersB 71 #[.agg (cellsC x A3 c3 A4 c4 A5 c5 A6 c6).toArray] w false := by
  unfold AnswersB
  simp only [cellsC]
  go_enter Try.func71, Try.ntmps71
  go_wp2
  all_goals go_ret
  all_goals exact ⟨rfl, (Below.refl _ _).alloc (Nat.le_refl _) _⟩
set_option maxRecDepth 100000 in
set_option maxHeartbeats 1000000 in
theorem shape_i1 (hk : x.kind = 2) (ha : x.alts.length = 0) (hn : x.names.length = 0) (hs : x.name.toList.isEmpty = false) (hs2 : x.name.toList = [] ↔ False) : AnswersB 71 #[.agg (cellsC x A3 c3 A4 c4 A5 c5 A6 c6).toArray] w false := by
  unfold AnswersB
  simp only [cellsC]
  go_enter Try.func71, Try.ntmps71
  go_wp2
  all_goals go_ret
  all_goals exact ⟨rfl, (Below.refl _ _).alloc (Nat.le_refl _) _⟩
set_option maxRecDepth 100000 in
set_option maxHeartbeats 1000000 in
theorem shape_c1 (hk : x.kind = 3) (hm : x.minus = false) (hl : x.limbs.length = 0) (ha : x.alts.length = 0) (hn : x.names.length = 0) (hz : ((x.name.size : Int) == 1) = false) : AnswersB 71 #[.agg (cellsC x A3 c3 A4 c4 A5 c5 A6 c6).toArray] w false := by
  unfold AnswersB
  simp only [cellsC]
  go_enter Try.func71, Try.ntmps71
  go_wp2
  all_goals go_ret
  all_goals exact ⟨rfl, (Below.refl _ _).alloc (Nat.le_refl _) _⟩
set_option maxRecDepth 100000 in
set_option maxHeartbeats 1000000 in
theorem shape_v23 (hk : x.kind = 1) (hm : x.minus = false) (hl : x.limbs.length = 0) (ha : x.alts.length = 0) (hn : x.names.length = 0) (hs : x.name.toList.isEmpty = false) (hs2 : x.name.toList = [] ↔ False) : AnswersB 71 #[.agg (cellsC x A3 c3 A4 c4 A5 c5 A6 c6).toArray] w ((x.kids.length : Int) == 0) := by
  unfold AnswersB
  simp only [cellsC]
  go_enter Try.func71, Try.ntmps71
  go_wp2
  all_goals go_ret
  all_goals exact ⟨rfl, (Below.refl _ _).alloc (Nat.le_refl _) _⟩
set_option maxRecDepth 100000 in
set_option maxHeartbeats 1000000 in
theorem shape_i2 (hk : x.kind = 2) (ha : x.alts.length = 0) (hn : x.names.length = 0) (hs : x.name = ⟨#[]⟩) (hq : ((x.kids.length : Int) == 0) = false) : AnswersB 71 #[.agg (cellsC x A3 c3 A4 c4 A5 c5 A6 c6).toArray] w false := by
  unfold AnswersB
  simp only [cellsC]
  go_enter Try.func71, Try.ntmps71
  go_wp2
  all_goals go_ret
  all_goals exact ⟨rfl, (Below.refl _ _).alloc (Nat.le_refl _) _⟩
set_option maxRecDepth 100000 in
set_option maxHeartbeats 1000000 in
theorem shape_c23 (hk : x.kind = 3) (hm : x.minus = false) (hl : x.limbs.length = 0) (ha : x.alts.length = 0) (hn : x.names.length = 0) (hz : x.name.size = 1) : AnswersB 71 #[.agg (cellsC x A3 c3 A4 c4 A5 c5 A6 c6).toArray] w ((x.kids.length : Int) == 0) := by
  unfold AnswersB
  simp only [cellsC]
  go_enter Try.func71, Try.ntmps71
  go_wp2
  all_goals go_ret
  all_goals exact ⟨rfl, (Below.refl _ _).alloc (Nat.le_refl _) _⟩
set_option maxRecDepth 100000 in
set_option maxHeartbeats 1000000 in
theorem shape_t34 (hk : x.kind = 10) (hm : x.minus = false) (hl : x.limbs.length = 0) (ha : x.alts.length = 0) (hn : x.names.length = 0) (hs : x.name.toList.isEmpty = false) (hs2 : x.name.toList = [] ↔ False) (hz : x.name.size ≤ 60000) : AnswersB 71 #[.agg (cellsC x A3 c3 A4 c4 A5 c5 A6 c6).toArray] w ((x.kids.length : Int) == 0) := by
  unfold AnswersB
  simp only [cellsC]
  go_enter Try.func71, Try.ntmps71
  go_wp2
  all_goals go_ret
  all_goals exact ⟨rfl, (Below.refl _ _).alloc (Nat.le_refl _) _⟩
set_option maxRecDepth 100000 in
set_option maxHeartbeats 1000000 in
theorem shape_a23 (hk : x.kind = 5) (hm : x.minus = false) (hl : x.limbs.length = 0) (ha : x.alts.length = 0) (hn : x.names.length = 0) (hs : x.name = ⟨#[]⟩) : AnswersB 71 #[.agg (cellsC x A3 c3 A4 c4 A5 c5 A6 c6).toArray] w (decide (2 ≤ (x.kids.length : Int))) := by
  unfold AnswersB
  simp only [cellsC]
  go_enter Try.func71, Try.ntmps71
  go_wp2
  all_goals go_ret
  all_goals exact ⟨rfl, (Below.refl _ _).alloc (Nat.le_refl _) _⟩
set_option maxRecDepth 100000 in
set_option maxHeartbeats 1000000 in
theorem shape_o1 (hk : x.kind = 4) (hm : x.minus = false) (hl : x.limbs.length = 0) (ha : x.alts.length = 0) (hn : x.names.length = 0) (hs : x.name = ⟨#[]⟩) : AnswersB 71 #[.agg (cellsC x A3 c3 A4 c4 A5 c5 A6 c6).toArray] w false := by
  unfold AnswersB
  simp only [cellsC]
  go_enter Try.func71, Try.ntmps71
  go_wp2
  all_goals go_ret
  all_goals exact ⟨rfl, (Below.refl _ _).alloc (Nat.le_refl _) _⟩
set_option maxRecDepth 100000 in
set_option maxHeartbeats 1000000 in
theorem shape_o2 (hk : x.kind = 4) (hm : x.minus = false) (hl : x.limbs.length = 0) (ha : x.alts.length = 0) (hn : x.names.length = 0) (hs : x.name.toList.isEmpty = false) (hs2 : x.name.toList = [] ↔ False) : AnswersB 71 #[.agg (cellsC x A3 c3 A4 c4 A5 c5 A6 c6).toArray] w true := by
  unfold AnswersB
  simp only [cellsC]
  go_enter Try.func71, Try.ntmps71
  go_wp2
  all_goals go_ret
  all_goals exact ⟨rfl, (Below.refl _ _).alloc (Nat.le_refl _) _⟩
set_option maxRecDepth 100000 in
set_option maxHeartbeats 1000000 in
theorem shape_t1 (hk : x.kind = 10) (hm : x.minus = false) (hl : x.limbs.length = 0) (ha : x.alts.length = 0) (hn : x.names.length = 0) (hs : x.name = ⟨#[]⟩) : AnswersB 71 #[.agg (cellsC x A3 c3 A4 c4 A5 c5 A6 c6).toArray] w false := by
  unfold AnswersB
  simp only [cellsC]
  go_enter Try.func71, Try.ntmps71
  go_wp2
  all_goals go_ret
  all_goals exact ⟨rfl, (Below.refl _ _).alloc (Nat.le_refl _) _⟩
set_option maxRecDepth 100000 in
set_option maxHeartbeats 1000000 in
theorem shape_t2 (hk : x.kind = 10) (hm : x.minus = false) (hl : x.limbs.length = 0) (ha : x.alts.length = 0) (hn : x.names.length = 0) (hs : x.name.toList.isEmpty = false) (hs2 : x.name.toList = [] ↔ False) (hz : 60000 < x.name.size) : AnswersB 71 #[.agg (cellsC x A3 c3 A4 c4 A5 c5 A6 c6).toArray] w false := by
  unfold AnswersB
  simp only [cellsC]
  go_enter Try.func71, Try.ntmps71
  go_wp2
  all_goals go_ret
  all_goals exact ⟨rfl, (Below.refl _ _).alloc (Nat.le_refl _) _⟩
set_option maxRecDepth 100000 in
set_option maxHeartbeats 1000000 in
theorem shape_a1 (hk : x.kind = 5) (hm : x.minus = false) (hl : x.limbs.length = 0) (ha : x.alts.length = 0) (hn : x.names.length = 0) (hs : x.name.toList.isEmpty = false) (hs2 : x.name.toList = [] ↔ False) : AnswersB 71 #[.agg (cellsC x A3 c3 A4 c4 A5 c5 A6 c6).toArray] w false := by
  unfold AnswersB
  simp only [cellsC]
  go_enter Try.func71, Try.ntmps71
  go_wp2
  all_goals go_ret
  all_goals exact ⟨rfl, (Below.refl _ _).alloc (Nat.le_refl _) _⟩
set_option maxRecDepth 100000 in
set_option maxHeartbeats 1000000 in
theorem shape_l1 (hk : x.kind = 6) (hm : x.minus = false) (hl : x.limbs.length = 0) (ha : x.alts.length = 0) (hs : x.name.toList.isEmpty = false) (hs2 : x.name.toList = [] ↔ False) : AnswersB 71 #[.agg (cellsC x A3 c3 A4 c4 A5 c5 A6 c6).toArray] w false := by
  unfold AnswersB
  simp only [cellsC]
  go_enter Try.func71, Try.ntmps71
  go_wp2
  all_goals go_ret
  all_goals exact ⟨rfl, (Below.refl _ _).alloc (Nat.le_refl _) _⟩
set_option maxRecDepth 100000 in
set_option maxHeartbeats 1000000 in
theorem shape_l2 (hk : x.kind = 6) (hm : x.minus = false) (hl : x.limbs.length = 0) (ha : x.alts.length = 0) (hs : x.name = ⟨#[]⟩) (hq : ((x.kids.length : Int) == 1) = false) : AnswersB 71 #[.agg (cellsC x A3 c3 A4 c4 A5 c5 A6 c6).toArray] w false := by
  unfold AnswersB
  simp only [cellsC]
  go_enter Try.func71, Try.ntmps71
  go_wp2
  all_goals go_ret
  all_goals exact ⟨rfl, (Below.refl _ _).alloc (Nat.le_refl _) _⟩
set_option maxRecDepth 100000 in
set_option maxHeartbeats 1000000 in
theorem shape_l3 (hk : x.kind = 6) (hm : x.minus = false) (hl : x.limbs.length = 0) (ha : x.alts.length = 0) (hs : x.name = ⟨#[]⟩) (hq : x.kids.length = 1) (hn : x.names.length = 0) : AnswersB 71 #[.agg (cellsC x A3 c3 A4 c4 A5 c5 A6 c6).toArray] w false := by
  unfold AnswersB
  simp only [cellsC]
  go_enter Try.func71, Try.ntmps71
  go_wp2
  all_goals go_ret
  all_goals exact ⟨rfl, (Below.refl _ _).alloc (Nat.le_refl _) _⟩
set_option maxRecDepth 100000 in
set_option maxHeartbeats 1000000 in
theorem shape_e1 (hk : x.kind = 7) (hm : x.minus = false) (hl : x.limbs.length = 0) (ha : x.alts.length = 0) (hs : x.name.toList.isEmpty = false) (hs2 : x.name.toList = [] ↔ False) : AnswersB 71 #[.agg (cellsC x A3 c3 A4 c4 A5 c5 A6 c6).toArray] w false := by
  unfold AnswersB
  simp only [cellsC]
  go_enter Try.func71, Try.ntmps71
  go_wp2
  all_goals go_ret
  all_goals exact ⟨rfl, (Below.refl _ _).alloc (Nat.le_refl _) _⟩
set_option maxRecDepth 100000 in
set_option maxHeartbeats 1000000 in
theorem shape_e2 (hk : x.kind = 7) (hm : x.minus = false) (hl : x.limbs.length = 0) (ha : x.alts.length = 0) (hs : x.name = ⟨#[]⟩) (hn : x.names.length = 0) : AnswersB 71 #[.agg (cellsC x A3 c3 A4 c4 A5 c5 A6 c6).toArray] w false := by
  unfold AnswersB
  simp only [cellsC]
  go_enter Try.func71, Try.ntmps71
  go_wp2
  all_goals go_ret
  all_goals exact ⟨rfl, (Below.refl _ _).alloc (Nat.le_refl _) _⟩
set_option maxRecDepth 100000 in
set_option maxHeartbeats 1000000 in
theorem shape_e3 (hk : x.kind = 7) (hm : x.minus = false) (hl : x.limbs.length = 0) (ha : x.alts.length = 0) (hs : x.name = ⟨#[]⟩) (hn : 0 < x.names.length) (hnl : x.names.length ≤ 1048576) (hq : ((x.kids.length : Int) == (x.names.length : Int) + 1) = false) : AnswersB 71 #[.agg (cellsC x A3 c3 A4 c4 A5 c5 A6 c6).toArray] w false := by
  unfold AnswersB
  simp only [cellsC]
  go_enter Try.func71, Try.ntmps71
  go_wp2
  all_goals go_ret
  all_goals exact ⟨rfl, (Below.refl _ _).alloc (Nat.le_refl _) _⟩
set_option maxRecDepth 100000 in
set_option maxHeartbeats 1000000 in
theorem shape_k1 (hk : x.kind = 8) (hm : x.minus = false) (hl : x.limbs.length = 0) (hn : x.names.length = 0) (hq : x.kids.length = 0) : AnswersB 71 #[.agg (cellsC x A3 c3 A4 c4 A5 c5 A6 c6).toArray] w false := by
  unfold AnswersB
  simp only [cellsC]
  go_enter Try.func71, Try.ntmps71
  go_wp2
  all_goals go_ret
  all_goals exact ⟨rfl, (Below.refl _ _).alloc (Nat.le_refl _) _⟩
set_option maxRecDepth 100000 in
set_option maxHeartbeats 1000000 in
theorem shape_k2 (hk : x.kind = 8) (hm : x.minus = false) (hl : x.limbs.length = 0) (hn : x.names.length = 0) (hq : 2 < x.kids.length) : AnswersB 71 #[.agg (cellsC x A3 c3 A4 c4 A5 c5 A6 c6).toArray] w false := by
  unfold AnswersB
  simp only [cellsC]
  go_enter Try.func71, Try.ntmps71
  go_wp2
  all_goals go_ret
  all_goals exact ⟨rfl, (Below.refl _ _).alloc (Nat.le_refl _) _⟩
set_option maxRecDepth 100000 in
set_option maxHeartbeats 1000000 in
theorem shape_k3 (hk : x.kind = 8) (hm : x.minus = false) (hl : x.limbs.length = 0) (hn : x.names.length = 0) (hq : x.kids.length = 1) (ha : x.alts.length = 0) : AnswersB 71 #[.agg (cellsC x A3 c3 A4 c4 A5 c5 A6 c6).toArray] w false := by
  unfold AnswersB
  simp only [cellsC]
  go_enter Try.func71, Try.ntmps71
  go_wp2
  all_goals go_ret
  all_goals exact ⟨rfl, (Below.refl _ _).alloc (Nat.le_refl _) _⟩
set_option maxRecDepth 100000 in
set_option maxHeartbeats 1000000 in
theorem shape_z1 (hk1 : (x.kind != 1) = true) (hk2 : (x.kind != 2) = true) (hk3 : (x.kind != 3) = true) (hk4 : (x.kind != 4) = true) (hk5 : (x.kind != 5) = true) (hk6 : (x.kind != 6) = true) (hk7 : (x.kind != 7) = true) (hk8 : (x.kind != 8) = true) (hk9 : (x.kind != 9) = true) (hk10 : (x.kind != 10) = true) (he1 : (x.kind == 1) = false) (he2 : (x.kind == 2) = false) (he3 : (x.kind == 3) = false) (he4 : (x.kind == 4) = false) (he5 : (x.kind == 5) = false) (he6 : (x.kind == 6) = false) (he7 : (x.kind == 7) = false) (he8 : (x.kind == 8) = false) (he9 : (x.kind == 9) = false) (he10 : (x.kind == 10) = false) (hm : x.minus = false) (hl : x.limbs.length = 0) (ha : x.alts.length = 0) (hn : x.names.length = 0) : AnswersB 71 #[.agg (cellsC x A3 c3 A4 c4 A5 c5 A6 c6).toArray] w false := by
  unfold AnswersB
  simp only [cellsC]
  go_enter Try.func71, Try.ntmps71
  go_wp2
  all_goals go_ret
  all_goals exact ⟨rfl, (Below.refl _ _).alloc (Nat.le_refl _) _⟩
end
end Go.Proofs.Ytagfphlhahiplaa.C13
namespace Go.Proofs.Ytagfphlhahiplaa.C13
open Go.RowKit Go.Proofs.YtagfphlhahiplaaW.PrintWords Go.Proofs.Ytagfphlhahiplaa.PFnExactFormatCore
set_option linter.unusedVariables false
set_option linter.unusedSimpArgs false
section
variable (x : CoreT) (A3 : Option Addr) (c3 : Nat) (A4 : Option Addr) (c4 : Nat) (A5 : Option Addr) (c5 : Nat) (A6 : Option Addr) (c6 : Nat) (w : World)
set_option maxRecDepth 100000 in
set_option maxHeartbeats 1000000 in
theorem shape_i3 (g3 : (Kd.int .u32).C w A3 x.limbs.length x.limbs) (l3 : x.limbs.length ≤ c3) (hk : x.kind = 2) (ha : x.alts.length = 0) (hn : x.names.length = 0) (hs : x.name = ⟨#[]⟩) (hq : x.kids.length = 0) :
    AnswersB 71 #[.agg (cellsC x A3 c3 A4 c4 A5 c5 A6 c6).toArray] w (!bigFaultB x.minus x.limbs) := by
  unfold AnswersB
  have hl := g3.2.1
  by_cases hb : 0 < x.limbs.length
  · simp only [cellsC]
    have G3 := Lib.hid g3; clear g3
    go_enter Try.func71, Try.ntmps71
    go_wp2_with fail
    refine (spec_BigFault.calls _ _ _ _ _ _ (Kd.C_below G3.out ((Below.refl _ _).alloc (Nat.le_refl _) _)) l3 (spec_BigFault_eq _ _ hl)).mono ?_
    rintro e w2 ⟨rfl, hb2⟩
    have HB := Lib.hid hb2; clear hb2
    go_wp2
    go_ret
    exact ⟨rfl, below_box HB.out⟩
  · have h0 : x.limbs = [] := List.eq_nil_of_length_eq_zero (by omega)
    rw [h0] at g3 l3 ⊢
    simp only [cellsC, h0, List.length_nil] at g3 l3 ⊢
    have G3 := Lib.hid g3; have L3 := Lib.hid l3; clear g3 hb hl h0 l3
    go_enter Try.func71, Try.ntmps71
    go_wp2_with fail
    refine (spec_BigFault.calls _ _ _ [] _ _ (Kd.C_below G3.out ((Below.refl _ _).alloc (Nat.le_refl _) _)) L3.out (spec_BigFault_eq _ _ (by simp))).mono ?_
    rintro e w2 ⟨rfl, hb2⟩
    have HB := Lib.hid hb2; clear hb2
    go_wp2
    go_ret
    exact ⟨rfl, below_box HB.out⟩
set_option maxRecDepth 100000 in
set_option maxHeartbeats 1000000 in
theorem shape_l4 (g4 : Kd.string.C w A4 x.names.length x.names) (l4 : x.names.length ≤ c4) (hnl : x.names.length ≤ 1048576) (hk : x.kind = 6) (hm : x.minus = false) (hl : x.limbs.length = 0) (ha : x.alts.length = 0) (hs : x.name = ⟨#[]⟩) (hq : x.kids.length = 1) (hn : 0 < x.names.length) :
    AnswersB 71 #[.agg (cellsC x A3 c3 A4 c4 A5 c5 A6 c6).toArray] w (dec (namesOk x.names)) := by
  unfold AnswersB
  simp only [cellsC]
  have G4 := Lib.hid g4; clear g4
  have hn1 : decide (1 ≤ (x.names.length : Int)) = true := by simp; omega
  go_enter Try.func71, Try.ntmps71
  go_wp2_with fail
  obtain ⟨k, hk'⟩ := names_eq x.names (by omega)
  refine (spec_l13Names.calls k _ _ _ _ _ (Kd.C_below G4.out ((Below.refl _ _).alloc (Nat.le_refl _) _)) l4 hk').mono ?_
  rintro e w2 ⟨rfl, hb2⟩
  have HB := Lib.hid (Drawn0.below hb2); clear hb2 hk'
  go_wp2
  go_ret
  exact ⟨rfl, below_box HB.out⟩
set_option maxRecDepth 100000 in
set_option maxHeartbeats 1000000 in
theorem shape_e4 (g4 : Kd.string.C w A4 x.names.length x.names) (l4 : x.names.length ≤ c4) (hnl : x.names.length ≤ 1048576) (hk : x.kind = 7) (hm : x.minus = false) (hl : x.limbs.length = 0) (ha : x.alts.length = 0) (hs : x.name = ⟨#[]⟩) (hq : ((x.kids.length : Int) == (x.names.length : Int) + 1) = true) (hn : 0 < x.names.length) :
    AnswersB 71 #[.agg (cellsC x A3 c3 A4 c4 A5 c5 A6 c6).toArray] w (dec (namesOk x.names)) := by
  unfold AnswersB
  simp only [cellsC]
  have G4 := Lib.hid g4; clear g4
  have hn1 : decide (1 ≤ (x.names.length : Int)) = true := by simp; omega
  go_enter Try.func71, Try.ntmps71
  go_wp2_with fail
  obtain ⟨k, hk'⟩ := names_eq x.names (by omega)
  refine (spec_l13Names.calls k _ _ _ _ _ (Kd.C_below G4.out ((Below.refl _ _).alloc (Nat.le_refl _) _)) l4 hk').mono ?_
  rintro e w2 ⟨rfl, hb2⟩
  have HB := Lib.hid (Drawn0.below hb2); clear hb2 hk'
  go_wp2
  go_ret
  exact ⟨rfl, below_box HB.out⟩
set_option maxRecDepth 100000 in
set_option maxHeartbeats 1000000 in
theorem shape_r (hk : x.kind = 9) (hm : x.minus = false) (hl : x.limbs.length = 0) (ha : x.alts.length = 0) (hn : x.names.length = 0) :
    AnswersB 71 #[.agg (cellsC x A3 c3 A4 c4 A5 c5 A6 c6).toArray] w (decide (0 < primCount x.name) && ((x.kids.length : Int) == primCount x.name)) := by
  unfold AnswersB
  simp only [cellsC]
  have hpe := spec_PrimCount_eq x.name
  generalize primCount x.name = p at *
  have HPE := Lib.hid hpe; clear hpe
  go_enter Try.func71, Try.ntmps71
  go_wp2_with fail
  refine (spec_PrimCount.calls 1 _ _ _ HPE.out).mono ?_
  rintro e w2 ⟨rfl, hb2⟩
  have HB := Lib.hid (Drawn0.below hb2); clear hb2
  by_cases hp : 0 < p
  · have hp1 : decide (0 < p) = true := decide_eq_true hp
    have hc := bcell HB.out
    go_wp2_with fail
    clear hc
    refine (spec_PrimCount.calls 1 _ _ _ HPE.out).mono ?_
    rintro e w3 ⟨rfl, hb3⟩
    have HB3 := Lib.hid (Below.step HB.out (Drawn0.below hb3)); clear hb3
    go_wp2
    go_ret
    exact ⟨by simp [hp], below_box HB3.out⟩
  · have hp1 : decide (0 < p) = false := decide_eq_false hp
    go_wp2
    go_ret
    exact ⟨by rw [hp1]; rfl, below_box HB.out⟩
end
end Go.Proofs.Ytagfphlhahiplaa.C13
namespace Go.Proofs.Ytagfphlhahiplaa.C13
open Go.RowKit Go.Proofs.YtagfphlhahiplaaW.PrintWords Go.Proofs.Ytagfphlhahiplaa.PFnExactFormatCore
set_option linter.unusedVariables false
set_option linter.unusedSimpArgs false
theorem infoS : (Try.prog.info? 9).map (fun i => (i.zero, i.size, i.bytes)) = some (some (.string ⟨#[]⟩), 1, 16) := by kernel_rfl
theorem own_empty (w : World) (e : TypeId) (n : Nat) (hn : n = w.heap.size) : (w.alloc (.cells #[] e)).ownsRow n e 1 (.slice (some ⟨n, 0, none⟩) 0 0) 0 [] := by
  subst hn
  exact ⟨rfl, .inr ⟨_, 0, #[], rfl, Nat.le_refl _, blk_made w e #[], Nat.le_refl _, by simp [maxLen], rfl, rfl⟩⟩
theorem ownsRow_below {w w' : World} {base : Nat} {e : TypeId} {size : Nat} {v : Value} {n : Nat} {xs : List Value} (h : w.ownsRow base e size v n xs) (hb : Below w.heap.size w w') : w'.ownsRow base e size v n xs :=
  h.kept (grown_of_below hb none) (by cases hv : v.ownBlock <;> simp)
def altsNames (l : List AltT) : Prop := ∀ a ∈ l, a.con ≠ ⟨#[]⟩ ∧ namesOk a.names
def consOk (l : List AltT) : Prop := altsNames l ∧ (l.map (·.con)).Nodup
section
variable (x : CoreT) (A3 : Option Addr) (c3 : Nat) (A4 : Option Addr) (c4 : Nat) (A5 : Option Addr) (c5 : Nat) (A6 : Option Addr) (c6 : Nat) (w : World)
set_option maxRecDepth 100000 in
set_option maxHeartbeats 1000000 in
theorem shape_k4 (hbk : bulk x ≤ 1048576) (g6 : IA.C w A6 x.alts.length x.alts) (l6 : x.alts.length ≤ c6) (hk : x.kind = 8) (hm : x.minus = false) (hl : x.limbs.length = 0) (hn : x.names.length = 0) (hq : x.kids.length = 2) :
    AnswersB 71 #[.agg (cellsC x A3 c3 A4 c4 A5 c5 A6 c6).toArray] w (dec (consOk x.alts)) := by
  unfold AnswersB
  simp only [cellsC]
  rw [bulk_eq] at hbk
  have hla : x.alts.length ≤ 1048576 := by have := len_abulks x.alts; omega
  have HBK := Lib.hid hbk; clear hbk
  obtain ⟨r, hr⟩ : ∃ r, r = dec (consOk x.alts) := ⟨_, rfl⟩
  rw [← hr]
  have HR := Lib.hid hr; clear hr
  have G6 := Lib.hid g6; clear g6
  obtain ⟨i0, hi, hz0, hz1, hz2⟩ := info_parts infoS
  have HI := Lib.hid hi; have HZ0 := Lib.hid hz0; have HZ1 := Lib.hid hz1; have HZ2 := Lib.hid hz2; clear hi hz0 hz1 hz2
  simp only [hk, hm, hl, hn, hq]
  have HKe := Lib.hid hk; have HMe := Lib.hid hm; have HLe := Lib.hid hl; have HNe := Lib.hid hn; have HQe := Lib.hid hq
  clear hk hm hl hn hq
  go_enter Try.func71, Try.ntmps71
  go_wp2_with fail
  obtain ⟨W1, hW1, hp1, hB1, hs1⟩ := boxed w [.int .i64 x.kind, .string x.name, .bool x.minus, .slice A3 x.limbs.length c3, .slice A4 x.names.length c4, .slice A5 x.kids.length c5, .slice A6 x.alts.length c6] 36
  rw [HKe.out, HMe.out, HLe.out, HNe.out, HQe.out] at hW1 hp1
  rw [← hW1]
  have BP := Lib.hid hp1; have HB1 := Lib.hid hB1; have HS1 := Lib.hid hs1
  clear hp1 hB1 hs1 hW1
  go_loopw [6, 7] (fun v i wr => ∃ (k : Nat), k ≤ x.alts.length ∧ i = .int .i64 k ∧ Hid (altsNames (x.alts.take k)) ∧ Hid (wr.ownsRow (w.heap.size + 1) 9 1 v k (encS ((x.alts.map (·.con)).take k))) ∧ Hid (Below W1.heap.size W1 wr)) (fun _ i _ => x.alts.length - (intOf i).toNat)
  case atStart => exact ⟨0, Nat.zero_le _, rfl, Lib.hid (fun a ha => by simp at ha), Lib.hid (own_empty W1 _ _ HS1.out.symm), Lib.hid (Below.alloc (Below.refl _ _) (Nat.le_refl _) _)⟩
  case round =>
    obtain ⟨k, hk', rfl, HN, HOW, HB⟩ := hrel
    have HBw := Lib.hid (HB1.out.trans (HB.out.mono (by have := HS1.out; omega)))
    have HP := Lib.hid (BP.out.below HB.out)
    have p6 := HP.out.cell (j := 6) rfl
    by_cases hlt : k < x.alts.length
    · obtain ⟨ad, A1, c1, A3', c3', A4', c4', B5, d5, B6, d6, rfl, _, _, l1, hnm, g0, g1, g2, g3, g4, g5, g6, g7, g8⟩ := elem_alt_at G6.out HBw.out k hlt
      clear g2 g3 g4 g5 g6 g7 g8
      by_cases hce : x.alts[k].con = ⟨#[]⟩
      · rw [hce] at g0
        have HCE := Lib.hid hce; clear hce
        go_wp2
        go_ret
        exact ⟨by rw [HR.out, dec_false (fun h => (h.1 _ (List.getElem_mem hlt)).1 HCE.out)]; rfl, HBw.out⟩
      · have hne : x.alts[k].con.toList.isEmpty = false := by
          cases h : x.alts[k].con.toList with
          | nil => exact absurd (toList_inj (h.trans empty_toList.symm)) hce
          | cons a b => rfl
        have hne2 : x.alts[k].con.toList = [] ↔ False := ⟨(fun h => by rw [h] at hne; cases hne), False.elim⟩
        have HCE := Lib.hid hce; clear hce
        have hnb := mem_abulks (List.getElem_mem hlt)
        rw [abulk_eq] at hnb
        have hnl : x.alts[k].names.length ≤ 1048576 := by have := len_strsB x.alts[k].names; have := HBK.out; omega
        go_wp2_with fail
        obtain ⟨m, hm'⟩ := names_eq x.alts[k].names (by omega)
        refine (spec_l13Names.calls m _ _ _ _ _ (Kd.C_below hnm HBw.out) l1 hm').mono ?_
        rintro e w2 ⟨rfl, hb2⟩
        replace hb2 := Drawn0.below hb2
        have HB2 := Lib.hid hb2
        clear hb2 hm' hnm hnb hnl
        by_cases hno : namesOk x.alts[k].names
        · rw [dec_true hno]
          have g0' := cell_later' HB2.out g0
          have p6' := cell_later' HB2.out p6
          have HOW2 := Lib.hid (ownsRow_below HOW.out HB2.out)
          have HBB := Lib.hid (Below.step HB.out HB2.out)
          have HN2 := Lib.hid (show altsNames (x.alts.take (k + 1)) from by
            intro a ha
            rw [take_snoc' hlt] at ha
            rcases List.mem_append.1 ha with ha | ha
            · exact HN.out a ha
            · rw [List.mem_singleton.1 ha]; exact ⟨HCE.out, hno⟩)
          clear g0 p6 g1 HP
          have HLT := Lib.hid hlt
          go_wp2_with (at_builtin; refine print_append_cells (w0 := W1) (w.heap.size + 1) rfl _ _ 25 9 (.string ⟨#[]⟩) 1 16 rfl Try.underlying25 infoS rfl (by decide) (by decide) u6 k (encS ((x.alts.map (·.con)).take k)) [.string x.alts[k].con] rfl rfl rfl (by intro v hv; rw [List.mem_singleton.1 hv]; rfl) HOW2.out (by have := HBB.out; rw [HS1.out] at this; exact this) (by have := HBB.out.size; have := HS1.out; omega) (by omega) ?_)
          intro v1 w3 hown3 hb3 hg3 _
          have HOW3 := Lib.hid hown3; have HB3 := Lib.hid (show Below W1.heap.size W1 w3 from by rw [HS1.out]; exact hb3)
          clear hown3 hb3 hg3 g0' p6'
          go_wp2
          go_roundw
          case rel => exact ⟨k + 1, by omega, by go_num, HN2, Lib.hid (by have := HOW3.out; have e : (x.alts.map (·.con)).take (k + 1) = (x.alts.map (·.con)).take k ++ [x.alts[k].con] := by { rw [take_snoc' (l := x.alts.map (·.con)) (by rw [List.length_map]; exact hlt), List.getElem_map]; rfl }; rw [e]; unfold encS at this ⊢; rw [List.map_append]; exact this), HB3⟩
          case measure => simp [intOf]; omega
        · rw [dec_false hno]
          go_wp2
          go_ret
          exact ⟨by rw [HR.out, dec_false (fun h => hno (h.1 _ (List.getElem_mem hlt)).2)]; rfl, Below.step HBw.out HB2.out⟩
    · have hkk : k = x.alts.length := by omega
      have hnn := HN.out
      have how := HOW.out
      rw [hkk, List.take_length] at hnn
      rw [hkk, List.take_of_length_le (by rw [List.length_map]; exact Nat.le_refl _)] at how
      have HKK := Lib.hid hkk; clear hkk
      obtain ⟨F, hrow, _, _⟩ := row_of_own how
      obtain ⟨A, c, rfl, hlc, hC⟩ := Row.readsS (l := x.alts.map (·.con)) (by rw [List.length_map]; exact hrow)
      have HNN := Lib.hid hnn; have HC := Lib.hid hC
      clear hnn how hrow hC
      rw [List.length_map]
      go_wp2_with fail
      obtain ⟨K, hK⟩ := twice_eq (x.alts.map (·.con)) (by rw [List.length_map]; omega)
      refine (Calls.mono (by have := spec_l9Twice.calls K _ c _ _ wr HC.out hlc (hK K (Nat.le_refl _)); rw [List.length_map] at this; exact this) ?_)
      rintro e w2 ⟨rfl, hb2⟩
      have HB2 := Lib.hid (Below.step HBw.out (Drawn0.below hb2)); clear hb2 hK
      go_wp2
      go_ret
      exact ⟨by rw [HR.out]; show Ending.returned (Value.bool (!dec _)) = _; rw [dec_not]; congr 2; exact dec_congr ⟨fun h => ⟨HNN.out, Classical.not_not.1 h⟩, fun h h' => h' h.2⟩, HB2.out⟩
set_option maxRecDepth 100000 in
set_option maxHeartbeats 1000000 in
theorem shape_k5 (hbk : bulk x ≤ 1048576) (g6 : IA.C w A6 x.alts.length x.alts) (l6 : x.alts.length ≤ c6) (hk : x.kind = 8) (hm : x.minus = false) (hl : x.limbs.length = 0) (hn : x.names.length = 0) (hq : x.kids.length = 1) (hq2 : 0 < x.alts.length) :
    AnswersB 71 #[.agg (cellsC x A3 c3 A4 c4 A5 c5 A6 c6).toArray] w (dec (consOk x.alts)) := by
  unfold AnswersB
  simp only [cellsC]
  rw [bulk_eq] at hbk
  have hla : x.alts.length ≤ 1048576 := by have := len_abulks x.alts; omega
  have HBK := Lib.hid hbk; clear hbk
  obtain ⟨r, hr⟩ : ∃ r, r = dec (consOk x.alts) := ⟨_, rfl⟩
  rw [← hr]
  have HR := Lib.hid hr; clear hr
  have G6 := Lib.hid g6; clear g6
  obtain ⟨i0, hi, hz0, hz1, hz2⟩ := info_parts infoS
  have HI := Lib.hid hi; have HZ0 := Lib.hid hz0; have HZ1 := Lib.hid hz1; have HZ2 := Lib.hid hz2; clear hi hz0 hz1 hz2
  have hq3 : ((x.alts.length : Int) == 0) = false := beq_eq_false_iff_ne.2 (by omega)
  simp only [hk, hm, hl, hn, hq]
  have HKe := Lib.hid hk; have HMe := Lib.hid hm; have HLe := Lib.hid hl; have HNe := Lib.hid hn; have HQe := Lib.hid hq
  clear hk hm hl hn hq
  go_enter Try.func71, Try.ntmps71
  go_wp2_with fail
  obtain ⟨W1, hW1, hp1, hB1, hs1⟩ := boxed w [.int .i64 x.kind, .string x.name, .bool x.minus, .slice A3 x.limbs.length c3, .slice A4 x.names.length c4, .slice A5 x.kids.length c5, .slice A6 x.alts.length c6] 36
  rw [HKe.out, HMe.out, HLe.out, HNe.out, HQe.out] at hW1 hp1
  rw [← hW1]
  have BP := Lib.hid hp1; have HB1 := Lib.hid hB1; have HS1 := Lib.hid hs1
  clear hp1 hB1 hs1 hW1
  go_loopw [6, 7] (fun v i wr => ∃ (k : Nat), k ≤ x.alts.length ∧ i = .int .i64 k ∧ Hid (altsNames (x.alts.take k)) ∧ Hid (wr.ownsRow (w.heap.size + 1) 9 1 v k (encS ((x.alts.map (·.con)).take k))) ∧ Hid (Below W1.heap.size W1 wr)) (fun _ i _ => x.alts.length - (intOf i).toNat)
  case atStart => exact ⟨0, Nat.zero_le _, rfl, Lib.hid (fun a ha => by simp at ha), Lib.hid (own_empty W1 _ _ HS1.out.symm), Lib.hid (Below.alloc (Below.refl _ _) (Nat.le_refl _) _)⟩
  case round =>
    obtain ⟨k, hk', rfl, HN, HOW, HB⟩ := hrel
    have HBw := Lib.hid (HB1.out.trans (HB.out.mono (by have := HS1.out; omega)))
    have HP := Lib.hid (BP.out.below HB.out)
    have p6 := HP.out.cell (j := 6) rfl
    by_cases hlt : k < x.alts.length
    · obtain ⟨ad, A1, c1, A3', c3', A4', c4', B5, d5, B6, d6, rfl, _, _, l1, hnm, g0, g1, g2, g3, g4, g5, g6, g7, g8⟩ := elem_alt_at G6.out HBw.out k hlt
      clear g2 g3 g4 g5 g6 g7 g8
      by_cases hce : x.alts[k].con = ⟨#[]⟩
      · rw [hce] at g0
        have HCE := Lib.hid hce; clear hce
        go_wp2
        go_ret
        exact ⟨by rw [HR.out, dec_false (fun h => (h.1 _ (List.getElem_mem hlt)).1 HCE.out)]; rfl, HBw.out⟩
      · have hne : x.alts[k].con.toList.isEmpty = false := by
          cases h : x.alts[k].con.toList with
          | nil => exact absurd (toList_inj (h.trans empty_toList.symm)) hce
          | cons a b => rfl
        have hne2 : x.alts[k].con.toList = [] ↔ False := ⟨(fun h => by rw [h] at hne; cases hne), False.elim⟩
        have HCE := Lib.hid hce; clear hce
        have hnb := mem_abulks (List.getElem_mem hlt)
        rw [abulk_eq] at hnb
        have hnl : x.alts[k].names.length ≤ 1048576 := by have := len_strsB x.alts[k].names; have := HBK.out; omega
        go_wp2_with fail
        obtain ⟨m, hm'⟩ := names_eq x.alts[k].names (by omega)
        refine (spec_l13Names.calls m _ _ _ _ _ (Kd.C_below hnm HBw.out) l1 hm').mono ?_
        rintro e w2 ⟨rfl, hb2⟩
        replace hb2 := Drawn0.below hb2
        have HB2 := Lib.hid hb2
        clear hb2 hm' hnm hnb hnl
        by_cases hno : namesOk x.alts[k].names
        · rw [dec_true hno]
          have g0' := cell_later' HB2.out g0
          have p6' := cell_later' HB2.out p6
          have HOW2 := Lib.hid (ownsRow_below HOW.out HB2.out)
          have HBB := Lib.hid (Below.step HB.out HB2.out)
          have HN2 := Lib.hid (show altsNames (x.alts.take (k + 1)) from by
            intro a ha
            rw [take_snoc' hlt] at ha
            rcases List.mem_append.1 ha with ha | ha
            · exact HN.out a ha
            · rw [List.mem_singleton.1 ha]; exact ⟨HCE.out, hno⟩)
          clear g0 p6 g1 HP
          have HLT := Lib.hid hlt
          go_wp2_with (at_builtin; refine print_append_cells (w0 := W1) (w.heap.size + 1) rfl _ _ 25 9 (.string ⟨#[]⟩) 1 16 rfl Try.underlying25 infoS rfl (by decide) (by decide) u6 k (encS ((x.alts.map (·.con)).take k)) [.string x.alts[k].con] rfl rfl rfl (by intro v hv; rw [List.mem_singleton.1 hv]; rfl) HOW2.out (by have := HBB.out; rw [HS1.out] at this; exact this) (by have := HBB.out.size; have := HS1.out; omega) (by omega) ?_)
          intro v1 w3 hown3 hb3 hg3 _
          have HOW3 := Lib.hid hown3; have HB3 := Lib.hid (show Below W1.heap.size W1 w3 from by rw [HS1.out]; exact hb3)
          clear hown3 hb3 hg3 g0' p6'
          go_wp2
          go_roundw
          case rel => exact ⟨k + 1, by omega, by go_num, HN2, Lib.hid (by have := HOW3.out; have e : (x.alts.map (·.con)).take (k + 1) = (x.alts.map (·.con)).take k ++ [x.alts[k].con] := by { rw [take_snoc' (l := x.alts.map (·.con)) (by rw [List.length_map]; exact hlt), List.getElem_map]; rfl }; rw [e]; unfold encS at this ⊢; rw [List.map_append]; exact this), HB3⟩
          case measure => simp [intOf]; omega
        · rw [dec_false hno]
          go_wp2
          go_ret
          exact ⟨by rw [HR.out, dec_false (fun h => hno (h.1 _ (List.getElem_mem hlt)).2)]; rfl, Below.step HBw.out HB2.out⟩
    · have hkk : k = x.alts.length := by omega
      have hnn := HN.out
      have how := HOW.out
      rw [hkk, List.take_length] at hnn
      rw [hkk, List.take_of_length_le (by rw [List.length_map]; exact Nat.le_refl _)] at how
      have HKK := Lib.hid hkk; clear hkk
      obtain ⟨F, hrow, _, _⟩ := row_of_own how
      obtain ⟨A, c, rfl, hlc, hC⟩ := Row.readsS (l := x.alts.map (·.con)) (by rw [List.length_map]; exact hrow)
      have HNN := Lib.hid hnn; have HC := Lib.hid hC
      clear hnn how hrow hC
      rw [List.length_map]
      go_wp2_with fail
      obtain ⟨K, hK⟩ := twice_eq (x.alts.map (·.con)) (by rw [List.length_map]; omega)
      refine (Calls.mono (by have := spec_l9Twice.calls K _ c _ _ wr HC.out hlc (hK K (Nat.le_refl _)); rw [List.length_map] at this; exact this) ?_)
      rintro e w2 ⟨rfl, hb2⟩
      have HB2 := Lib.hid (Below.step HBw.out (Drawn0.below hb2)); clear hb2 hK
      go_wp2
      go_ret
      exact ⟨by rw [HR.out]; show Ending.returned (Value.bool (!dec _)) = _; rw [dec_not]; congr 2; exact dec_congr ⟨fun h => ⟨HNN.out, Classical.not_not.1 h⟩, fun h h' => h' h.2⟩, HB2.out⟩
end
end Go.Proofs.Ytagfphlhahiplaa.C13
namespace Go.Proofs.Ytagfphlhahiplaa.C13
open Go.RowKit Go.Proofs.YtagfphlhahiplaaW.PrintWords Go.Proofs.Ytagfphlhahiplaa.PFnExactFormatCore
set_option linter.unusedVariables false
set_option linter.unusedSimpArgs false
def Shape (x : CoreT) : Prop :=
  (x.kind = 2 ∨ x.limbs.length = 0) ∧ (x.kind = 2 ∨ x.minus = false) ∧ (x.kind = 8 ∨ x.alts.length = 0) ∧ (x.kind = 6 ∨ x.kind = 7 ∨ x.names.length = 0) ∧
  ((x.kind = 1 ∧ 0 < x.name.size ∧ x.kids.length = 0) ∨ (x.kind = 2 ∧ x.name.size = 0 ∧ x.kids.length = 0 ∧ bigFaultB x.minus x.limbs = false) ∨ (x.kind = 3 ∧ x.name.size = 1 ∧ x.kids.length = 0) ∨
   (x.kind = 4 ∧ 0 < x.name.size) ∨ (x.kind = 10 ∧ 0 < x.name.size ∧ x.name.size ≤ 60000 ∧ x.kids.length = 0) ∨ (x.kind = 5 ∧ x.name.size = 0 ∧ 2 ≤ x.kids.length) ∨
   (x.kind = 6 ∧ x.name.size = 0 ∧ x.kids.length = 1 ∧ 0 < x.names.length ∧ namesOk x.names) ∨ (x.kind = 7 ∧ x.name.size = 0 ∧ x.kids.length = x.names.length + 1 ∧ 0 < x.names.length ∧ namesOk x.names) ∨
   (x.kind = 8 ∧ (x.kids.length = 2 ∨ x.kids.length = 1 ∧ 0 < x.alts.length) ∧ consOk x.alts) ∨ (x.kind = 9 ∧ 0 < primCount x.name ∧ (x.kids.length : Int) = primCount x.name))
theorem size_zero {s : ByteArray} : s.size = 0 ↔ s = ⟨#[]⟩ := by
  constructor
  · intro h
    cases s with
    | mk d => simp only [ByteArray.size, Array.size_eq_zero_iff] at h; rw [h]
  · rintro rfl; rfl
theorem isEmpty_of {s : ByteArray} (h : 0 < s.size) : s.toList.isEmpty = false := by
  cases hl : s.toList with
  | nil => have := size_zero.2 (toList_inj (hl.trans empty_toList.symm)); omega
  | cons a b => rfl
theorem toList_ne {s : ByteArray} (h : 0 < s.size) : s.toList = [] ↔ False := by
  have := isEmpty_of h
  exact ⟨(fun hl => by rw [hl] at this; cases this), False.elim⟩
theorem ans_of {f args w b c} (h : AnswersB f args w b) (e : b = c) : AnswersB f args w c := e ▸ h
section
variable {x : CoreT}
theorem l13Shape_any (hbk : bulk x ≤ 1048576) (w : World) (cs : List Value) (hK : IC.K w x cs) : AnswersB 71 #[.agg cs.toArray] w (dec (Shape x)) := by
  obtain ⟨A3, c3, A4, c4, A5, c5, A6, c6, rfl, l3, g3, l4, g4, l5, g5, l6, g6⟩ := core_open hK
  have hbk' := hbk
  rw [bulk_eq] at hbk'
  have hnl : x.names.length ≤ 1048576 := by have := len_strsB x.names; omega
  have ne : ∀ {n : Int}, x.kind ≠ n → (x.kind != n) = true := fun h => bne_iff_ne.2 h
  have ee : ∀ {n : Int}, x.kind ≠ n → (x.kind == n) = false := fun h => beq_eq_false_iff_ne.2 h
  -- the three guards ahead
  by_cases p1 : x.kind = 2 ∨ x.limbs.length = 0
  case neg =>
    exact ans_of (shape_p1a x A3 c3 A4 c4 A5 c5 A6 c6 w (ne (by omega)) (ee (by omega)) (by omega)) (dec_false (fun h => p1 h.1)).symm
  by_cases p1b : x.kind = 2 ∨ x.minus = false
  case neg =>
    have hk : x.kind ≠ 2 := fun h => p1b (.inl h)
    have hm : x.minus = true := by cases h : x.minus with | true => rfl | false => exact absurd (.inr h) p1b
    exact ans_of (shape_p1b x A3 c3 A4 c4 A5 c5 A6 c6 w (ne hk) (ee hk) (by omega) hm) (dec_false (fun h => p1b h.2.1)).symm
  by_cases p2 : x.kind = 8 ∨ x.alts.length = 0
  case neg =>
    by_cases hk : x.kind = 2
    · exact ans_of (shape_p2a x A3 c3 A4 c4 A5 c5 A6 c6 w hk (by omega)) (dec_false (fun h => p2 h.2.2.1)).symm
    · exact ans_of (shape_p2b x A3 c3 A4 c4 A5 c5 A6 c6 w (ne hk) (ne (by omega)) (ee hk) (ee (by omega)) (p1b.resolve_left hk) (by omega) (by omega)) (dec_false (fun h => p2 h.2.2.1)).symm
  by_cases p3 : x.kind = 6 ∨ x.kind = 7 ∨ x.names.length = 0
  case neg =>
    have hr := (dec_false (p := Shape x) (fun h => p3 h.2.2.2.1)).symm
    by_cases hk : x.kind = 2
    · exact ans_of (shape_p3a x A3 c3 A4 c4 A5 c5 A6 c6 w hk (by omega) (by omega)) hr
    by_cases hk8 : x.kind = 8
    · exact ans_of (shape_p3b x A3 c3 A4 c4 A5 c5 A6 c6 w hk8 (p1b.resolve_left hk) (by omega) (by omega)) hr
    · exact ans_of (shape_p3c x A3 c3 A4 c4 A5 c5 A6 c6 w (ne hk) (ne hk8) (ne (by omega)) (ne (by omega)) (ee hk) (ee hk8) (ee (by omega)) (ee (by omega)) (p1b.resolve_left hk) (by omega) (by omega) (by omega)) hr
  have hle : ∀ {b : Bool}, (b = true ↔ Shape x) → b = dec (Shape x) := fun h => by
    rename_i b
    cases b with
    | true => exact (dec_true (h.1 rfl)).symm
    | false => exact (dec_false (fun s => by have := h.2 s; cases this)).symm
  have hz : 0 < x.name.size ∨ x.name = ⟨#[]⟩ := by
    rcases Nat.eq_zero_or_pos x.name.size with h | h
    · exact .inr (size_zero.1 h)
    · exact .inl h
  have hE : x.name = ⟨#[]⟩ → x.name.size = 0 := fun h => size_zero.2 h
  have notk : ∀ {n m : Int}, x.kind = n → n ≠ m → (x.kind = m) = False := fun h hne => by simp [h, hne]
  have E0 : (⟨#[]⟩ : ByteArray).size = 0 := rfl
  by_cases k1 : x.kind = 1
  · have hm := p1b.resolve_left (by omega); have hl : x.limbs.length = 0 := by omega
    have ha : x.alts.length = 0 := by omega
    have hn : x.names.length = 0 := by omega
    rcases hz with hz | hz
    · exact ans_of (shape_v23 x A3 c3 A4 c4 A5 c5 A6 c6 w k1 hm hl ha hn (isEmpty_of hz) (toList_ne hz)) (hle (by simp [Shape, k1, hm, hl, ha, hn]; omega))
    · exact ans_of (shape_v1 x A3 c3 A4 c4 A5 c5 A6 c6 w k1 hm hl ha hn hz) (hle (by simp [Shape, k1, hm, hl, ha, hn, hE hz]))
  by_cases k2 : x.kind = 2
  · have ha : x.alts.length = 0 := by omega
    have hn : x.names.length = 0 := by omega
    rcases hz with hz | hz
    · exact ans_of (shape_i1 x A3 c3 A4 c4 A5 c5 A6 c6 w k2 ha hn (isEmpty_of hz) (toList_ne hz)) (hle (by have hz' : ¬ x.name.size = 0 := Nat.ne_of_gt hz; simp [Shape, k2, ha, hn, hz']))
    · by_cases hq : x.kids.length = 0
      · exact ans_of (shape_i3 x A3 c3 A4 c4 A5 c5 A6 c6 w g3 l3 k2 ha hn hz hq) (hle (by simp [Shape, k2, ha, hn, hE hz, hq]))
      · exact ans_of (shape_i2 x A3 c3 A4 c4 A5 c5 A6 c6 w k2 ha hn hz (beq_eq_false_iff_ne.2 (by omega))) (hle (by simp [Shape, k2, ha, hn, hE hz, hq]))
  have hm := p1b.resolve_left k2
  have hl : x.limbs.length = 0 := p1.resolve_left k2
  by_cases k8 : x.kind = 8
  · have hn : x.names.length = 0 := by omega
    by_cases hq2 : x.kids.length = 2
    · exact ans_of (shape_k4 x A3 c3 A4 c4 A5 c5 A6 c6 w hbk g6 l6 k8 hm hl hn hq2) (hle (by rw [dec_iff]; simp [Shape, k8, hm, hl, hn, hq2]))
    · by_cases hq1 : x.kids.length = 1
      · by_cases ha : x.alts.length = 0
        · exact ans_of (shape_k3 x A3 c3 A4 c4 A5 c5 A6 c6 w k8 hm hl hn hq1 ha) (hle (by simp [Shape, k8, hm, hl, hn, hq1, ha]))
        · exact ans_of (shape_k5 x A3 c3 A4 c4 A5 c5 A6 c6 w hbk g6 l6 k8 hm hl hn hq1 (by omega)) (hle (by rw [dec_iff]; simp [Shape, k8, hm, hl, hn, hq1]; intro _; omega))
      · by_cases hq0 : x.kids.length = 0
        · exact ans_of (shape_k1 x A3 c3 A4 c4 A5 c5 A6 c6 w k8 hm hl hn hq0) (hle (by simp [Shape, k8, hm, hl, hn, hq0]))
        · exact ans_of (shape_k2 x A3 c3 A4 c4 A5 c5 A6 c6 w k8 hm hl hn (by omega)) (hle (by simp [Shape, k8, hm, hl, hn, hq1, hq2]))
  have ha : x.alts.length = 0 := p2.resolve_left k8
  by_cases k6 : x.kind = 6
  · rcases hz with hz | hz
    · exact ans_of (shape_l1 x A3 c3 A4 c4 A5 c5 A6 c6 w k6 hm hl ha (isEmpty_of hz) (toList_ne hz)) (hle (by have hz' : ¬ x.name.size = 0 := Nat.ne_of_gt hz; simp [Shape, k6, hm, hl, ha, hz']))
    · by_cases hq : x.kids.length = 1
      · by_cases hn : x.names.length = 0
        · exact ans_of (shape_l3 x A3 c3 A4 c4 A5 c5 A6 c6 w k6 hm hl ha hz hq hn) (hle (by simp [Shape, k6, hm, hl, ha, hE hz, hq, hn]))
        · exact ans_of (shape_l4 x A3 c3 A4 c4 A5 c5 A6 c6 w g4 l4 hnl k6 hm hl ha hz hq (by omega)) (hle (by rw [dec_iff]; simp [Shape, k6, hm, hl, ha, hE hz, hq]; intro _; omega))
      · exact ans_of (shape_l2 x A3 c3 A4 c4 A5 c5 A6 c6 w k6 hm hl ha hz (beq_eq_false_iff_ne.2 (by omega))) (hle (by simp [Shape, k6, hm, hl, ha, hE hz, hq]))
  by_cases k7 : x.kind = 7
  · rcases hz with hz | hz
    · exact ans_of (shape_e1 x A3 c3 A4 c4 A5 c5 A6 c6 w k7 hm hl ha (isEmpty_of hz) (toList_ne hz)) (hle (by have hz' : ¬ x.name.size = 0 := Nat.ne_of_gt hz; simp [Shape, k7, hm, hl, ha, hz']))
    · by_cases hn : x.names.length = 0
      · exact ans_of (shape_e2 x A3 c3 A4 c4 A5 c5 A6 c6 w k7 hm hl ha hz hn) (hle (by simp [Shape, k7, hm, hl, ha, hE hz, hn]))
      · by_cases hq : x.kids.length = x.names.length + 1
        · exact ans_of (shape_e4 x A3 c3 A4 c4 A5 c5 A6 c6 w g4 l4 hnl k7 hm hl ha hz (beq_iff_eq.2 (by omega)) (by omega)) (hle (by rw [dec_iff]; simp [Shape, k7, hm, hl, ha, hE hz, hq]; intro _; omega))
        · exact ans_of (shape_e3 x A3 c3 A4 c4 A5 c5 A6 c6 w k7 hm hl ha hz (by omega) hnl (beq_eq_false_iff_ne.2 (by omega))) (hle (by simp [Shape, k7, hm, hl, ha, hE hz, hq]))
  have hn : x.names.length = 0 := (p3.resolve_left k6).resolve_left k7
  by_cases k3 : x.kind = 3
  · by_cases hs : x.name.size = 1
    · exact ans_of (shape_c23 x A3 c3 A4 c4 A5 c5 A6 c6 w k3 hm hl ha hn hs) (hle (by simp [Shape, k3, hm, hl, ha, hn, hs]))
    · exact ans_of (shape_c1 x A3 c3 A4 c4 A5 c5 A6 c6 w k3 hm hl ha hn (beq_eq_false_iff_ne.2 (by omega))) (hle (by simp [Shape, k3, hm, hl, ha, hn, hs]))
  by_cases k4 : x.kind = 4
  · rcases hz with hz | hz
    · exact ans_of (shape_o2 x A3 c3 A4 c4 A5 c5 A6 c6 w k4 hm hl ha hn (isEmpty_of hz) (toList_ne hz)) (hle (by simp [Shape, k4, hm, hl, ha, hn, hz]))
    · exact ans_of (shape_o1 x A3 c3 A4 c4 A5 c5 A6 c6 w k4 hm hl ha hn hz) (hle (by simp [Shape, k4, hm, hl, ha, hn, hE hz]))
  by_cases k10 : x.kind = 10
  · rcases hz with hz | hz
    · by_cases hs : x.name.size ≤ 60000
      · exact ans_of (shape_t34 x A3 c3 A4 c4 A5 c5 A6 c6 w k10 hm hl ha hn (isEmpty_of hz) (toList_ne hz) hs) (hle (by simp [Shape, k10, hm, hl, ha, hn, hz, hs]))
      · exact ans_of (shape_t2 x A3 c3 A4 c4 A5 c5 A6 c6 w k10 hm hl ha hn (isEmpty_of hz) (toList_ne hz) (by omega)) (hle (by simp [Shape, k10, hm, hl, ha, hn, hz, hs]))
    · exact ans_of (shape_t1 x A3 c3 A4 c4 A5 c5 A6 c6 w k10 hm hl ha hn hz) (hle (by simp [Shape, k10, hm, hl, ha, hn, hE hz]))
  by_cases k5 : x.kind = 5
  · rcases hz with hz | hz
    · exact ans_of (shape_a1 x A3 c3 A4 c4 A5 c5 A6 c6 w k5 hm hl ha hn (isEmpty_of hz) (toList_ne hz)) (hle (by have hz' : ¬ x.name.size = 0 := Nat.ne_of_gt hz; simp [Shape, k5, hm, hl, ha, hn, hz']))
    · exact ans_of (shape_a23 x A3 c3 A4 c4 A5 c5 A6 c6 w k5 hm hl ha hn hz) (hle (by simp [Shape, k5, hm, hl, ha, hn, hE hz]; omega))
  by_cases k9 : x.kind = 9
  · exact ans_of (shape_r x A3 c3 A4 c4 A5 c5 A6 c6 w k9 hm hl ha hn) (hle (by simp [Shape, k9, hm, hl, ha, hn]))
  · exact ans_of (shape_z1 x A3 c3 A4 c4 A5 c5 A6 c6 w (ne k1) (ne k2) (ne k3) (ne k4) (ne k5) (ne k6) (ne k7) (ne k8) (ne k9) (ne k10) (ee k1) (ee k2) (ee k3) (ee k4) (ee k5) (ee k6) (ee k7) (ee k8) (ee k9) (ee k10) hm hl ha hn) (hle (by simp [Shape, k1, k2, k3, k4, k5, k6, k7, k8, k9, k10]))
end
end Go.Proofs.Ytagfphlhahiplaa.C13
namespace Go.Proofs.Ytagfphlhahiplaa.C13
open Go.RowKit Go.Proofs.YtagfphlhahiplaaW.PrintWords Go.Proofs.Ytagfphlhahiplaa.PFnExactFormatCore
set_option linter.unusedVariables false
set_option linter.unusedSimpArgs false
mutual
def Shapes : CoreT → Prop
  | ⟨kind, name, minus, limbs, names, kids, alts⟩ => Shape ⟨kind, name, minus, limbs, names, kids, alts⟩ ∧ KShapes kids ∧ AShapes alts
def KShapes : List CoreT → Prop
  | [] => True
  | c :: r => Shapes c ∧ KShapes r
def AShapes : List AltT → Prop
  | [] => True
  | a :: r => AShape a ∧ AShapes r
def AShape : AltT → Prop
  | ⟨_, _, b⟩ => Shapes b
end
theorem Shapes_eq (x : CoreT) : Shapes x = (Shape x ∧ KShapes x.kids ∧ AShapes x.alts) := by cases x; rw [Shapes]
theorem AShape_eq (a : AltT) : AShape a = Shapes a.body := by cases a; rw [AShape]
theorem KShapes_iff {l : List CoreT} : KShapes l ↔ ∀ x ∈ l, Shapes x := by
  induction l with
  | nil => simp [KShapes]
  | cons c r ih => simp [KShapes, ih]
theorem AShapes_iff {l : List AltT} : AShapes l ↔ ∀ x ∈ l, Shapes x.body := by
  induction l with
  | nil => simp [AShapes]
  | cons c r ih => simp [AShapes, ih, AShape_eq]
def ShapesSaid (x : CoreT) : Prop := bulk x ≤ 1048576 → ∀ (w : World) (cs : List Value), IC.K w x cs → AnswersB 46 #[.agg cs.toArray] w (dec (Shapes x))
set_option maxRecDepth 100000 in
set_option maxHeartbeats 1000000 in
theorem l13Shapes_any (x : CoreT) (ihk : ∀ y ∈ x.kids, ShapesSaid y) (iha : ∀ a ∈ x.alts, ShapesSaid a.body) : ShapesSaid x := by
  intro hbk w cs hK
  have hS := l13Shape_any hbk
  obtain ⟨r, hr⟩ : ∃ r, r = dec (Shapes x) := ⟨_, rfl⟩
  rw [← hr]
  have HR := Lib.hid hr; clear hr
  unfold AnswersB at hS ⊢
  have HSH := Lib.hid hS; clear hS
  obtain ⟨A3, c3, A4, c4, A5, c5, A6, c6, rfl, l3, g3, l4, g4, l5, g5, l6, g6⟩ := core_open hK
  rw [bulk_eq] at hbk
  have hla : x.alts.length ≤ 1048576 := by have := len_abulks x.alts; omega
  have hlk : x.kids.length ≤ 1048576 := by have := len_bulks x.kids; omega
  have HBK := Lib.hid hbk
  have IHK := Lib.hid ihk; have IHA := Lib.hid iha; clear ihk iha
  have HKK := Lib.hid hK
  have G5 := Lib.hid g5; have G6 := Lib.hid g6; clear g3 g4 g5 g6 hK hbk
  simp only [cellsC]
  go_enter Try.func46, Try.ntmps46
  go_wp2_with fail
  obtain ⟨W1, hW1, hp1, hB1, hs1⟩ := boxed w [.int .i64 x.kind, .string x.name, .bool x.minus, .slice A3 x.limbs.length c3, .slice A4 x.names.length c4, .slice A5 x.kids.length c5, .slice A6 x.alts.length c6] 36
  rw [← hW1]
  have HB1 := Lib.hid hB1; have BP1 := Lib.hid hp1
  clear hW1 hB1 hs1 hp1
  refine (HSH.out _ _ ((kCore _ _).K_below HB1.out HKK.out)).mono ?_
  rintro e w2 ⟨rfl, hb2⟩
  have HB2 := Lib.hid (HB1.out.trans (hb2.mono HB1.out.size)); have BP2 := Lib.hid (BP1.out.below hb2); clear hb2 BP1 HB1
  by_cases hsh : Shape x
  case neg =>
    rw [dec_false hsh]
    go_wp2
    go_ret
    exact ⟨by rw [HR.out, dec_false (fun h => hsh (by rw [Shapes_eq] at h; exact h.1))]; rfl, HB2.out⟩
  rw [dec_true hsh]
  have HSX := Lib.hid hsh; clear hsh
  have p5 := BP2.out.cell (j := 5) rfl
  go_wp2_with fail
  clear p5
  go_loopw [3] (fun i wr => ∃ (k : Nat), k ≤ x.kids.length ∧ i = .int .i64 k ∧ Hid (∀ y ∈ x.kids.take k, Shapes y) ∧ Hid (Below w2.heap.size w2 wr)) (fun i _ => x.kids.length - (intOf i).toNat)
  case atStart => exact ⟨0, Nat.zero_le _, rfl, Lib.hid (by simp), Lib.hid (Below.refl _ _)⟩
  case round =>
    obtain ⟨k, hk, rfl, HN, HB⟩ := hrel
    have HBw := Lib.hid (Below.step HB2.out HB.out)
    have HP := Lib.hid (BP2.out.below HB.out)
    have p5 := HP.out.cell (j := 5) rfl
    by_cases hlt : k < x.kids.length
    · obtain ⟨ad, A3', c3', A4', c4', B5, d5, B6, d6, rfl, hK, g0, g1, g2, g3, g4, g5, g6⟩ := elem_core (Kd.C_below G5.out HBw.out) k hlt
      go_wp2_with fail
      have hmb := mem_bulks (List.getElem_mem hlt)
      refine (IHK.out _ (List.getElem_mem hlt) (by have := HBK.out; omega) _ _ hK).mono ?_
      rintro e w3 ⟨rfl, hb3⟩
      have HB3 := Lib.hid (Below.step HB.out hb3)
      have HBw3 := Lib.hid (Below.step HBw.out hb3)
      clear g0 g1 g2 g3 g4 g5 g6 hK p5 hmb hb3
      by_cases hsy : Shapes x.kids[k]
      · rw [dec_true hsy]
        have HN3 := Lib.hid (show ∀ y ∈ x.kids.take (k + 1), Shapes y from by
          intro y hy
          rw [take_snoc' hlt] at hy
          rcases List.mem_append.1 hy with hy | hy
          · exact HN.out y hy
          · rw [List.mem_singleton.1 hy]; exact hsy)
        clear hsy
        go_wp2
        go_roundw
        case rel => exact ⟨k + 1, by omega, by go_num, HN3, HB3⟩
        case measure => simp [intOf]; omega
      · rw [dec_false hsy]
        have HNS := Lib.hid hsy; clear hsy
        go_wp2
        go_ret
        exact ⟨by rw [HR.out, dec_false (fun h => HNS.out (by rw [Shapes_eq] at h; exact KShapes_iff.1 h.2.1 _ (List.getElem_mem hlt)))]; rfl, HBw3.out⟩
    · have hkk : k = x.kids.length := by omega
      have hnn := HN.out
      rw [hkk, List.take_length] at hnn
      have HNK := Lib.hid hnn; have HKK2 := Lib.hid hkk; clear hnn hkk
      go_wp2_with fail
      clear p5
      obtain ⟨wo, rfl⟩ : ∃ wo : World, wo = wr := ⟨_, rfl⟩
      go_loopw [4] (fun i wr => ∃ (m : Nat), m ≤ x.alts.length ∧ i = .int .i64 m ∧ Hid (∀ y ∈ x.alts.take m, Shapes y.body) ∧ Hid (Below w2.heap.size w2 wr)) (fun i _ => x.alts.length - (intOf i).toNat)
      case atStart => exact ⟨0, Nat.zero_le _, rfl, Lib.hid (by simp), HB⟩
      case round =>
        obtain ⟨m, hm, rfl, HN, HB⟩ := hrel
        have HBw := Lib.hid (Below.step HB2.out HB.out)
        have HP := Lib.hid (BP2.out.below HB.out)
        have p6 := HP.out.cell (j := 6) rfl
        by_cases hlt2 : m < x.alts.length
        · obtain ⟨ad, A1, c1, A3', c3', A4', c4', B5, d5, B6, d6, rfl, _, hK, _, _, g0, g1, g2, g3, g4, g5, g6, g7, g8⟩ := elem_alt (Kd.C_below G6.out HBw.out) m hlt2
          go_wp2_with fail
          have hmb := mem_abulks (List.getElem_mem hlt2)
          rw [abulk_eq] at hmb
          refine (IHA.out _ (List.getElem_mem hlt2) (by have := HBK.out; omega) _ _ hK).mono ?_
          rintro e w3 ⟨rfl, hb3⟩
          have HB3 := Lib.hid (Below.step HB.out hb3)
          have HBw3 := Lib.hid (Below.step HBw.out hb3)
          clear g0 g1 g2 g3 g4 g5 g6 g7 g8 hK p6 hmb hb3
          by_cases hsy : Shapes x.alts[m].body
          · rw [dec_true hsy]
            have HN3 := Lib.hid (show ∀ y ∈ x.alts.take (m + 1), Shapes y.body from by
              intro y hy
              rw [take_snoc' hlt2] at hy
              rcases List.mem_append.1 hy with hy | hy
              · exact HN.out y hy
              · rw [List.mem_singleton.1 hy]; exact hsy)
            clear hsy
            go_wp2
            go_roundw
            case rel => exact ⟨m + 1, by omega, by go_num, HN3, HB3⟩
            case measure => simp [intOf]; omega
          · rw [dec_false hsy]
            have HNS := Lib.hid hsy; clear hsy
            go_wp2
            go_ret
            exact ⟨by rw [HR.out, dec_false (fun h => HNS.out (by rw [Shapes_eq] at h; exact AShapes_iff.1 h.2.2 _ (List.getElem_mem hlt2)))]; rfl, HBw3.out⟩
        · have hkk : m = x.alts.length := by omega
          have hnn := HN.out
          rw [hkk, List.take_length] at hnn
          have HNA := Lib.hid hnn; have HKK3 := Lib.hid hkk; clear hnn hkk
          go_wp2
          go_ret
          exact ⟨by rw [HR.out, dec_true (by rw [Shapes_eq]; exact ⟨HSX.out, KShapes_iff.2 HNK.out, AShapes_iff.2 HNA.out⟩)]; rfl, HBw.out⟩
theorem shapes_all (x : CoreT) : ShapesSaid x := coreInd ShapesSaid (fun c hk ha => l13Shapes_any c hk ha) x
/-- a term that is neither too large nor of a wrong shape -/
def Good (x : CoreT) : Prop := total x ≤ 20000 ∧ dep x ≤ 1000 ∧ Shapes x
def FaultPost (x : CoreT) (w : World) (e : Ending) (w' : World) : Prop := ∃ f : Int, e = .returned (.int .i64 f) ∧ (f = 0 ↔ Good x) ∧ Below w.heap.size w w'
end Go.Proofs.Ytagfphlhahiplaa.C13
namespace Go.Proofs.Ytagfphlhahiplaa.C13
open Go.RowKit Go.Proofs.YtagfphlhahiplaaW.PrintWords Go.Proofs.Ytagfphlhahiplaa.PFnExactFormatCore
set_option linter.unusedVariables false
set_option linter.unusedSimpArgs false
set_option maxRecDepth 100000 in
set_option maxHeartbeats 1000000 in
theorem specFault (x : CoreT) (hbk : bulk x ≤ 1048576) (w : World) (cs : List Value) (hK : IC.K w x cs) :
    Calls Try.prog 18 #[.agg cs.toArray] w (FaultPost x w) := by
  obtain ⟨A3, c3, A4, c4, A5, c5, A6, c6, rfl, -⟩ := core_open hK
  have HKK := Lib.hid hK
  have HBK := Lib.hid hbk
  clear hK hbk
  simp only [cellsC]
  go_enter Try.func18, Try.ntmps18
  go_wp2_with fail
  obtain ⟨W1, hW1, hp1, hB1, hs1⟩ := boxed w [.int .i64 x.kind, .string x.name, .bool x.minus, .slice A3 x.limbs.length c3, .slice A4 x.names.length c4, .slice A5 x.kids.length c5, .slice A6 x.alts.length c6] 36
  obtain ⟨W2, hW2, hp2, hB2, hs2⟩ := boxed W1 [.int .i64 20000] 2
  rw [← hW1, ← hW2]
  rw [hs1] at hp2
  have HB2 := Lib.hid (Below.step hB1 hB2)
  have BP2 := Lib.hid (hp1.below hB2)
  refine (size_all x HBK.out W1 W2 _ (w.heap.size + 1) 1 20000 (by omega) (by omega) (by omega) (by omega) ((kCore _ _).K_below hB1 HKK.out) hB2 (by omega) hp2).mono ?_
  clear hW1 hW2 hp1 hB1 hp2 hB2 hs2 hs1
  rintro e w3 ⟨hg, h3⟩
  have HB3 := Lib.hid (below_grown' HB2.out hg (by omega))
  have BP3 := Lib.hid (BP2.out.grown hg (by omega))
  clear hg HB2 BP2
  rcases h3 with ⟨rfl, h4, h5, -⟩ | ⟨rfl, h4⟩
  · have H4 := Lib.hid h4; have H5 := Lib.hid h5; clear h4 h5
    have p0 := BP3.out.cell (j := 0) rfl; have p1 := BP3.out.cell (j := 1) rfl; have p2 := BP3.out.cell (j := 2) rfl; have p3 := BP3.out.cell (j := 3) rfl
    have p4 := BP3.out.cell (j := 4) rfl; have p5 := BP3.out.cell (j := 5) rfl; have p6 := BP3.out.cell (j := 6) rfl
    go_wp2_with fail
    clear p0 p1 p2 p3 p4 p5 p6
    refine (shapes_all x HBK.out _ _ ((kCore _ _).K_below HB3.out HKK.out)).mono ?_
    rintro e w4 ⟨rfl, hb4⟩
    have HB4 := Lib.hid (Below.step HB3.out hb4)
    clear hb4 HB3 BP3
    by_cases hs : Shapes x
    · rw [dec_true hs]
      have HS := Lib.hid hs; clear hs
      go_wp2
      go_ret
      exact ⟨0, rfl, ⟨fun _ => ⟨by have := H4.out; omega, by have := H5.out; omega, HS.out⟩, fun _ => rfl⟩, HB4.out⟩
    · rw [dec_false hs]
      have HS := Lib.hid hs; clear hs
      go_wp2
      go_ret
      exact ⟨2, rfl, ⟨fun h => absurd h (by omega), fun h => absurd h.2.2 HS.out⟩, HB4.out⟩
  · have H4 := Lib.hid h4; clear h4
    go_wp2
    go_ret
    exact ⟨1, rfl, ⟨fun h => absurd h (by omega), fun h => absurd ⟨by have := h.1; omega, by have := h.2.1; omega⟩ H4.out⟩, HB3.out⟩
end Go.Proofs.Ytagfphlhahiplaa.C13
namespace Go.Proofs.Ytagfphlhahiplaa.C13
open Go.RowKit Go.Proofs.YtagfphlhahiplaaW.PrintWords Go.Proofs.Ytagfphlhahiplaa.PFnExactFormatCore
set_option linter.unusedVariables false
set_option linter.unusedSimpArgs false
/-- the parts of a term in the order in which they are looked at, each with its depth -/
def parts : CoreT → Int → List (CoreT × Int)
  | ⟨k, n, m, l, ns, kids, alts⟩, d => (⟨k, n, m, l, ns, kids, alts⟩, d) :: (kparts kids (d + 1) ++ aparts alts (d + 1))
where
  kparts : List CoreT → Int → List (CoreT × Int)
  | [], _ => []
  | c :: r, d => parts c d ++ kparts r d
  aparts : List AltT → Int → List (CoreT × Int)
  | [], _ => []
  | a :: r, d => apart a d ++ aparts r d
  apart : AltT → Int → List (CoreT × Int)
  | ⟨_, _, b⟩, d => parts b d
/-- a place where a term's cells stand -/
def At (S : World) (x : CoreT) (p : Addr) : Prop := ∃ A3 c3 A4 c4 A5 c5 A6 c6, IC.K S x (cellsC x A3 c3 A4 c4 A5 c5 A6 c6) ∧
  S.cell? p = some (.int .i64 x.kind) ∧ S.cell? ⟨p.block, p.off + 1, none⟩ = some (.string x.name) ∧ S.cell? ⟨p.block, p.off + 2, none⟩ = some (.bool x.minus) ∧
  S.cell? ⟨p.block, p.off + 3, none⟩ = some (.slice A3 x.limbs.length c3) ∧ S.cell? ⟨p.block, p.off + 4, none⟩ = some (.slice A4 x.names.length c4) ∧
  S.cell? ⟨p.block, p.off + 5, none⟩ = some (.slice A5 x.kids.length c5) ∧ S.cell? ⟨p.block, p.off + 6, none⟩ = some (.slice A6 x.alts.length c6)
theorem at_elem {S : World} {A : Option Addr} {n : Nat} {xs : List CoreT} (h : IC.C S A n xs) (i : Nat) (hi : i < xs.length) :
    ∃ ad, A = some ad ∧ At S xs[i] (ad.add (i * 7)) := by
  obtain ⟨ad, A3, c3, A4, c4, A5, c5, A6, c6, rfl, hK, g0, g1, g2, g3, g4, g5, g6⟩ := elem_core h i hi
  exact ⟨ad, rfl, A3, c3, A4, c4, A5, c5, A6, c6, hK, g0, g1, g2, g3, g4, g5, g6⟩
theorem at_elemA {S : World} {A : Option Addr} {n : Nat} {xs : List AltT} (h : IA.C S A n xs) (i : Nat) (hi : i < xs.length) :
    ∃ ad, A = some ad ∧ At S xs[i].body ⟨(ad.add (i * 9)).block, (ad.add (i * 9)).off + 2, none⟩ := by
  obtain ⟨ad, A1, c1, A3, c3, A4, c4, A5, c5, A6, c6, rfl, _, hK, _, _, _, _, g0, g1, g2, g3, g4, g5, g6⟩ := elem_alt h i hi
  exact ⟨ad, rfl, A3, c3, A4, c4, A5, c5, A6, c6, hK, g0, g1, g2, g3, g4, g5, g6⟩
theorem parts_eq (x : CoreT) (d : Int) : parts x d = (x, d) :: (parts.kparts x.kids (d + 1) ++ parts.aparts x.alts (d + 1)) := by cases x; rw [parts]
theorem kparts_snoc (l : List CoreT) (x : CoreT) (d : Int) : parts.kparts (l ++ [x]) d = parts.kparts l d ++ parts x d := by
  induction l with
  | nil => simp [parts.kparts]
  | cons c r ih => simp only [List.cons_append, parts.kparts, ih, List.append_assoc]
theorem apart_eq (a : AltT) (d : Int) : parts.apart a d = parts a.body d := by cases a; rw [parts.apart]
theorem aparts_snoc (l : List AltT) (x : AltT) (d : Int) : parts.aparts (l ++ [x]) d = parts.aparts l d ++ parts x.body d := by
  induction l with
  | nil => simp [parts.aparts, apart_eq]
  | cons c r ih => simp only [List.cons_append, parts.aparts, ih, List.append_assoc]
theorem kparts_take (l : List CoreT) (k : Nat) (d : Int) : parts.kparts (l.take k) d <+: parts.kparts l d := by
  induction l generalizing k with
  | nil => simp
  | cons c r ih => cases k with
    | zero => exact List.nil_prefix
    | succ k => rw [List.take_succ_cons, parts.kparts, parts.kparts]; exact (List.prefix_append_right_inj _).2 (ih k)
theorem aparts_take (l : List AltT) (k : Nat) (d : Int) : parts.aparts (l.take k) d <+: parts.aparts l d := by
  induction l generalizing k with
  | nil => simp
  | cons c r ih => cases k with
    | zero => exact List.nil_prefix
    | succ k => rw [List.take_succ_cons, parts.aparts, parts.aparts]; exact (List.prefix_append_right_inj _).2 (ih k)
/-- what a function value that looks at a part keeps to -/
def Sees (S : World) (fn : Nat) (caps : Array Value) (I Q : List (CoreT × Int) → World → Prop) : Prop :=
  ∀ (l : List (CoreT × Int)) (y : CoreT) (d : Int) (p : Addr) (w : World), I l w → At S y p → bulk y ≤ 1048576 → 1 ≤ d → d ≤ 4000000 →
    Calls Try.prog fn (#[.pointer (some p), .int .i64 d] ++ caps) w fun e w' => (e = .returned (.bool true) ∧ I (l ++ [(y, d)]) w') ∨ (e = .returned (.bool false) ∧ Q (l ++ [(y, d)]) w')
def EachSaid (x : CoreT) : Prop := bulk x ≤ 1048576 → ∀ (S w : World) (p : Addr) (d : Int) (fn : Nat) (caps : Array Value) (I Q : List (CoreT × Int) → World → Prop) (done : List (CoreT × Int)),
  (∀ args w, (callFunc fn args).run Try.prog w = .ok (.enter fn args) w) → 1 ≤ d → d + dep x ≤ 4000000 → At S x p → (∀ l w, I l w → Below S.heap.size S w) → Sees S fn caps I Q → I done w →
  Calls Try.prog 51 #[.pointer (some p), .int .i64 d, .func (.func fn) #[] caps] w fun e w' =>
    (e = .returned (.bool true) ∧ I (done ++ parts x d) w') ∨ (e = .returned (.bool false) ∧ ∃ l, l <+: parts x d ∧ Q (done ++ l) w')
set_option maxRecDepth 100000 in
set_option maxHeartbeats 1000000 in
theorem each_any (x : CoreT) (ihk : ∀ y ∈ x.kids, EachSaid y) (iha : ∀ a ∈ x.alts, EachSaid a.body) : EachSaid x := by
  intro hbk S w p d fn caps I Q done hen hd1 hd2 hat hI hsee hI0
  have AT := Lib.hid hat
  obtain ⟨A3, c3, A4, c4, A5, c5, A6, c6, hK, -, -, -, -, -, q5, q6⟩ := hat
  obtain ⟨_, _, _, _, _, _, _, _, he, l3, g3, l4, g4, l5, g5, l6, g6⟩ := core_open hK
  simp only [cellsC, List.cons.injEq, Value.slice.injEq, true_and, and_true] at he
  obtain ⟨⟨rfl, rfl⟩, ⟨rfl, rfl⟩, ⟨rfl, rfl⟩, ⟨rfl, rfl⟩⟩ := he
  clear hK
  rw [bulk_eq] at hbk
  have hla : x.alts.length ≤ 1048576 := by have := len_abulks x.alts; omega
  have hlk : x.kids.length ≤ 1048576 := by have := len_bulks x.kids; omega
  have hdd : d ≤ 4000000 := by have := dep_eq x; omega
  have HD := Lib.hid hd2; have HDE := Lib.hid (dep_eq x); clear hd2
  have HBK := Lib.hid (show bulk x ≤ 1048576 by rw [bulk_eq]; exact hbk)
  have HBK' := Lib.hid hbk; clear hbk
  have IHK := Lib.hid ihk; have IHA := Lib.hid iha; clear ihk iha
  have G5 := Lib.hid g5; have G6 := Lib.hid g6; clear g3 g4 g5 g6
  have Q5 := Lib.hid q5; have Q6 := Lib.hid q6; clear q5 q6
  have HEN := Lib.hid hen; clear hen
  have HI := Lib.hid hI; have HSEE := Lib.hid hsee; have HI0 := Lib.hid hI0; clear hI hsee hI0
  go_enter Try.func51, Try.ntmps51
  go_wp2_with fail
  rw [HEN.out]
  go_wp2_with fail
  refine (HSEE.out done x d p w HI0.out AT.out HBK.out hd1 hdd).mono ?_
  rintro e w2 (⟨rfl, h2⟩ | ⟨rfl, h2⟩)
  case inr =>
    have H2 := Lib.hid h2; clear h2
    go_wp2
    go_ret
    exact .inr ⟨rfl, [(x, d)], by rw [parts_eq]; simp, H2.out⟩
  have H2 := Lib.hid h2; clear h2
  have HB2 := Lib.hid (HI.out _ _ H2.out)
  have q5 := cell_later' HB2.out Q5.out
  go_wp2_with fail
  clear q5
  go_loopw [7, 19] (fun v7 i wr => ∃ (k : Nat), k ≤ x.kids.length ∧ i = .int .i64 k ∧ Hid (I (done ++ ((x, d) :: parts.kparts (x.kids.take k) (d + 1))) wr)) (fun _ i _ => x.kids.length - (intOf i).toNat)
  case atStart => exact ⟨0, Nat.zero_le _, rfl, Lib.hid (by simpa [parts.kparts] using H2.out)⟩
  case round =>
    obtain ⟨k, hk, rfl, HN⟩ := hrel
    have HBr := Lib.hid (HI.out _ _ HN.out)
    have q5 := cell_later' HBr.out Q5.out
    by_cases hlt : k < x.kids.length
    · obtain ⟨ad, rfl, hA⟩ := at_elem G5.out k hlt
      have HA := Lib.hid hA; clear hA
      go_wp2_with fail
      refine (IHK.out _ (List.getElem_mem hlt) (by have := mem_bulks (List.getElem_mem hlt); have := HBK'.out; omega) S wr _ (d + 1) fn caps I Q _ HEN.out (by omega)
        (by have := deps_mem (List.getElem_mem hlt); have := HD.out; have := HDE.out; omega) HA.out HI.out HSEE.out HN.out).mono ?_
      clear q5
      rintro e w3 (⟨rfl, h3⟩ | ⟨rfl, h3⟩)
      · have HN3 := Lib.hid (show I (done ++ ((x, d) :: parts.kparts (x.kids.take (k + 1)) (d + 1))) w3 by
          rw [take_snoc' hlt, kparts_snoc]; simpa using h3)
        clear h3
        go_wp2
        go_roundw
        case rel => exact ⟨k + 1, by omega, by go_num, HN3⟩
        case measure => simp [intOf]; omega
      · have H3 := Lib.hid h3; clear h3
        go_wp2
        go_ret
        obtain ⟨l, hl, hq⟩ := H3.out
        refine .inr ⟨rfl, (x, d) :: (parts.kparts (x.kids.take k) (d + 1) ++ l), ?_, by simpa using hq⟩
        rw [parts_eq]
        refine List.cons_prefix_cons.2 ⟨rfl, ?_⟩
        refine List.IsPrefix.trans ?_ (List.prefix_append _ _)
        refine List.IsPrefix.trans ?_ (kparts_take x.kids (k + 1) (d + 1))
        rw [take_snoc' hlt, kparts_snoc]
        exact (List.prefix_append_right_inj _).2 hl
    · have hkk : k = x.kids.length := by omega
      have hnn := HN.out
      rw [hkk, List.take_length] at hnn
      have HNK := Lib.hid hnn; have HKK2 := Lib.hid hkk; clear hnn hkk
      have q6 := cell_later' HBr.out Q6.out
      go_wp2_with fail
      clear q5 q6
      obtain ⟨wo, rfl⟩ : ∃ wo : World, wo = wr := ⟨_, rfl⟩
      go_loopw [8, 39] (fun v8 i wr => ∃ (m : Nat), m ≤ x.alts.length ∧ i = .int .i64 m ∧ Hid (I (done ++ ((x, d) :: (parts.kparts x.kids (d + 1) ++ parts.aparts (x.alts.take m) (d + 1)))) wr)) (fun _ i _ => x.alts.length - (intOf i).toNat)
      case atStart => exact ⟨0, Nat.zero_le _, rfl, Lib.hid (by simpa [parts.aparts] using HNK.out)⟩
      case round =>
        obtain ⟨m, hm, rfl, HN⟩ := hrel
        have HBr := Lib.hid (HI.out _ _ HN.out)
        have q6 := cell_later' HBr.out Q6.out
        by_cases hlt2 : m < x.alts.length
        · obtain ⟨ad, rfl, hA⟩ := at_elemA G6.out m hlt2
          have HA := Lib.hid hA; clear hA
          go_wp2_with fail
          refine (IHA.out _ (List.getElem_mem hlt2) (by have := mem_abulks (List.getElem_mem hlt2); rw [abulk_eq] at this; have := HBK'.out; omega) S wr _ (d + 1) fn caps I Q _ HEN.out (by omega)
            (by have := adeps_mem (List.getElem_mem hlt2); have := HD.out; have := HDE.out; omega) HA.out HI.out HSEE.out HN.out).mono ?_
          clear q6
          rintro e w3 (⟨rfl, h3⟩ | ⟨rfl, h3⟩)
          · have HN3 := Lib.hid (show I (done ++ ((x, d) :: (parts.kparts x.kids (d + 1) ++ parts.aparts (x.alts.take (m + 1)) (d + 1)))) w3 by
              rw [take_snoc' hlt2, aparts_snoc]; simpa using h3)
            clear h3
            go_wp2
            go_roundw
            case rel => exact ⟨m + 1, by omega, by go_num, HN3⟩
            case measure => simp [intOf]; omega
          · have H3 := Lib.hid h3; clear h3
            go_wp2
            go_ret
            obtain ⟨l, hl, hq⟩ := H3.out
            refine .inr ⟨rfl, (x, d) :: (parts.kparts x.kids (d + 1) ++ (parts.aparts (x.alts.take m) (d + 1) ++ l)), ?_, by simpa using hq⟩
            rw [parts_eq]
            refine List.cons_prefix_cons.2 ⟨rfl, ?_⟩
            refine (List.prefix_append_right_inj _).2 ?_
            refine List.IsPrefix.trans ?_ (aparts_take x.alts (m + 1) (d + 1))
            rw [take_snoc' hlt2, aparts_snoc]
            exact (List.prefix_append_right_inj _).2 hl
        · have hkk : m = x.alts.length := by omega
          have hnn := HN.out
          rw [hkk, List.take_length] at hnn
          have HNA := Lib.hid hnn; have HKK3 := Lib.hid hkk; clear hnn hkk
          go_wp2
          go_ret
          exact .inl ⟨rfl, by rw [parts_eq]; exact HNA.out⟩
theorem each_all (x : CoreT) : EachSaid x := coreInd EachSaid (fun c hk ha => each_any c hk ha) x
end Go.Proofs.Ytagfphlhahiplaa.C13
namespace Go.Proofs.Ytagfphlhahiplaa.C13
open Go.RowKit Go.Proofs.YtagfphlhahiplaaW.PrintWords Go.Proofs.Ytagfphlhahiplaa.PFnExactFormatCore
set_option linter.unusedVariables false
set_option linter.unusedSimpArgs false
/-- what one part adds -/
def adds (x : CoreT) : Nat := 1 + (if x.kind = 6 ∨ x.kind = 7 then x.names.length else 0) + anames x.alts
def cnt : List (CoreT × Int) → Nat
  | [] => 0
  | p :: r => adds p.1 + cnt r
def dpt : List (CoreT × Int) → Int
  | [] => 0
  | p :: r => max p.2 (dpt r)
theorem cnt_app (l m : List (CoreT × Int)) : cnt (l ++ m) = cnt l + cnt m := by
  induction l with
  | nil => simp [cnt]
  | cons c r ih => simp only [List.cons_append, cnt, ih]; omega
theorem dpt_nonneg (l : List (CoreT × Int)) : 0 ≤ dpt l := by
  induction l with
  | nil => simp [dpt]
  | cons c r ih => simp only [dpt]; omega
theorem dpt_app (l m : List (CoreT × Int)) : dpt (l ++ m) = max (dpt l) (dpt m) := by
  induction l with
  | nil => have := dpt_nonneg m; simp only [List.nil_append, dpt]; omega
  | cons c r ih => simp only [List.cons_append, dpt, ih]; omega
/-- the counter holds c and the depth dd -/
def CountI (S : World) (bc bd : Nat) (l : List (CoreT × Int)) (w : World) : Prop :=
  Below S.heap.size S w ∧ Blk w bc 3 [.int .i64 (cnt l)] ∧ Blk w bd 3 [.int .i64 (dpt l)] ∧ cnt l ≤ 20000 ∧ dpt l ≤ 1000
def CountQ (S : World) (bc bd : Nat) (l : List (CoreT × Int)) (w : World) : Prop :=
  Below S.heap.size S w ∧ Blk w bc 3 [.int .i64 (cnt l)] ∧ Blk w bd 3 [.int .i64 (dpt l)] ∧ ¬ (cnt l ≤ 20000 ∧ dpt l ≤ 1000)
set_option maxRecDepth 100000 in
set_option maxHeartbeats 1000000 in
theorem count_sees (S : World) (bc bd : Nat) (h1 : S.heap.size ≤ bc) (h2 : S.heap.size ≤ bd) (hne : bc ≠ bd) :
    Sees S 52 #[.pointer (some ⟨bc, 0, none⟩), .pointer (some ⟨bd, 0, none⟩)] (CountI S bc bd) (CountQ S bc bd) := by
  intro l y d p w ⟨hB, hc, hd, hcl, hdl⟩ hat hbk hd1 hd2
  obtain ⟨A3, c3, A4, c4, A5, c5, A6, c6, hK, g0, -, -, -, g4, -, g6⟩ := hat
  obtain ⟨_, _, _, _, _, _, _, _, he, -, -, -, -, -, -, l6, a6⟩ := core_open hK
  simp only [cellsC, List.cons.injEq, Value.slice.injEq, true_and, and_true] at he
  obtain ⟨⟨rfl, rfl⟩, ⟨rfl, rfl⟩, ⟨rfl, rfl⟩, ⟨rfl, rfl⟩⟩ := he
  clear hK
  have hn1 : y.names.length ≤ 1048576 := by rw [bulk_eq] at hbk; have := len_strsB y.names; omega
  have hla : y.alts.length ≤ 1048576 := by rw [bulk_eq] at hbk; have := len_abulks y.alts; omega
  have hna : anames y.alts ≤ 1048576 := by rw [bulk_eq] at hbk; have := anames_abulks y.alts; omega
  have HNA := Lib.hid hna; clear hna
  have G0 := Lib.hid g0; have G4 := Lib.hid g4; have G6 := Lib.hid g6; have A6' := Lib.hid a6; clear g0 g4 g6 a6 hbk
  have HB := Lib.hid hB; have HC := Lib.hid hc; have HD := Lib.hid hd; clear hB
  obtain ⟨c, hcc⟩ : ∃ c : Nat, c = cnt l := ⟨_, rfl⟩
  obtain ⟨dd, hdd⟩ : ∃ c : Int, c = dpt l := ⟨_, rfl⟩
  have hdd0 : 0 ≤ dd := by rw [hdd]; exact dpt_nonneg l
  rw [← hcc] at hcl hc HC
  rw [← hdd] at hdl hd HD
  have HCC := Lib.hid hcc; have HDD := Lib.hid hdd; clear hcc hdd
  have b0 := hc.cell (j := 0) rfl
  clear hc hd
  go_enter Try.func52, Try.ntmps52
  go_wp2_with (refine wpList_store_blk bc 0 [] [_] [] [.int .i64 (c + 1)] 3 rfl 3 (.tmp 2) _ rfl rfl rfl rfl HC.out rfl (by kernel_rfl) (by intro v hv; rw [List.mem_singleton.1 hv]; rfl) ?_)
  intro W1 hb1 hg1 hs1
  have HB1 := Lib.hid (below_grown' HB.out hg1 h1); have HC1 := Lib.hid hb1; have HD1 := Lib.hid (HD.out.grown hg1 (by omega))
  clear hb1 hg1 hs1 HB HC HD b0
  have g0 := cell_later' HB1.out G0.out
  -- the names of a function or a let
  rcases (by omega : y.kind = 6 ∨ y.kind = 7 ∨ (y.kind ≠ 6 ∧ y.kind ≠ 7)) with hk | hk | ⟨hk, hk'⟩
  case' inl =>
    rw [hk] at g0
    go_wp2_with fail
    have b0 := HC1.out.cell (j := 0) rfl
    have f0 := HC1.out.frozen 0
    have g4 := cell_later' HB1.out G4.out
    have w1 : IntKind.i64.wrap ((c : Int) + 1 + y.names.length) = (c : Int) + 1 + y.names.length := IntWalk.i64_in _ (by omega)
    go_still_tail 7, (by kernel_rfl)
    change wpList _ _ _ _ _ W1.drew
    clear b0 f0 g4 w1
    go_wp2_with (refine wpList_store_blk bc 0 [] [_] [] [.int .i64 ((c : Int) + 1 + y.names.length)] 3 rfl 3 (.tmp 2) _ rfl rfl rfl rfl HC1.out rfl (by kernel_rfl) (by intro v hv; rw [List.mem_singleton.1 hv]; rfl) ?_)
    intro W2 hb2 hg2 hs2
    obtain ⟨v, hv⟩ : ∃ v : Nat, v = c + 1 + y.names.length := ⟨_, rfl⟩
    have HV := Lib.hid (show v = c + 1 + (if y.kind = 6 ∨ y.kind = 7 then y.names.length else 0) by rw [if_pos (by omega)]; exact hv)
    have hb2' : Blk W2 bc 3 [.int .i64 v] := by rw [hv]; push_cast; exact hb2
    have hvb : v ≤ 1100000 := by omega
    have HB2 := Lib.hid (below_grown' HB1.out (undrew hg2) h1); have HC2 := Lib.hid hb2'; have HD2 := Lib.hid (HD1.out.grown (undrew hg2) (by omega))
    have q6 := cell_later' HB2.out G6.out
    clear hb2 hb2' hv hg2 hs2 HB1 HC1 HD1 g0
    go_wp2_with fail
    clear q6
  case' inr.inl =>
    rw [hk] at g0
    go_wp2_with fail
    have b0 := HC1.out.cell (j := 0) rfl
    have f0 := HC1.out.frozen 0
    have g4 := cell_later' HB1.out G4.out
    have w1 : IntKind.i64.wrap ((c : Int) + 1 + y.names.length) = (c : Int) + 1 + y.names.length := IntWalk.i64_in _ (by omega)
    go_still_tail 7, (by kernel_rfl)
    change wpList _ _ _ _ _ W1.drew
    clear b0 f0 g4 w1
    go_wp2_with (refine wpList_store_blk bc 0 [] [_] [] [.int .i64 ((c : Int) + 1 + y.names.length)] 3 rfl 3 (.tmp 2) _ rfl rfl rfl rfl HC1.out rfl (by kernel_rfl) (by intro v hv; rw [List.mem_singleton.1 hv]; rfl) ?_)
    intro W2 hb2 hg2 hs2
    obtain ⟨v, hv⟩ : ∃ v : Nat, v = c + 1 + y.names.length := ⟨_, rfl⟩
    have HV := Lib.hid (show v = c + 1 + (if y.kind = 6 ∨ y.kind = 7 then y.names.length else 0) by rw [if_pos (by omega)]; exact hv)
    have hb2' : Blk W2 bc 3 [.int .i64 v] := by rw [hv]; push_cast; exact hb2
    have hvb : v ≤ 1100000 := by omega
    have HB2 := Lib.hid (below_grown' HB1.out (undrew hg2) h1); have HC2 := Lib.hid hb2'; have HD2 := Lib.hid (HD1.out.grown (undrew hg2) (by omega))
    have q6 := cell_later' HB2.out G6.out
    clear hb2 hb2' hv hg2 hs2 HB1 HC1 HD1 g0
    go_wp2_with fail
    clear q6
  case' inr.inr =>
    have q1 : (y.kind == 6) = false := by simpa using hk
    have q2 : (y.kind == 7) = false := by simpa using hk'
    have q6 := cell_later' HB1.out G6.out
    go_wp2_with fail
    clear q6 g0 q1 q2
    obtain ⟨W2, rfl⟩ : ∃ W2 : World, W2 = W1 := ⟨_, rfl⟩
    obtain ⟨v, hv⟩ : ∃ v : Nat, v = c + 1 := ⟨_, rfl⟩
    have HV := Lib.hid (show v = c + 1 + (if y.kind = 6 ∨ y.kind = 7 then y.names.length else 0) by rw [if_neg (by omega)]; exact hv)
    have hc2' : Blk W2 bc 3 [.int .i64 v] := by rw [hv]; push_cast; exact HC1.out
    have hvb : v ≤ 1100000 := by omega
    have HB2 := HB1; have HC2 := Lib.hid hc2'; have HD2 := HD1
    clear hc2' hv HB1 HC1 HD1
  all_goals
    go_loopw [7, 34] (fun v7 i wr => ∃ (k v2 : Nat), k ≤ y.alts.length ∧ i = .int .i64 k ∧ v2 ≤ 2200000 ∧ Hid (v2 = v + anames (y.alts.take k)) ∧ Hid (Below S.heap.size S wr) ∧ Hid (Blk wr bc 3 [.int .i64 v2]) ∧ Hid (Blk wr bd 3 [.int .i64 dd])) (fun _ i _ => y.alts.length - (intOf i).toNat)
    case atStart => exact ⟨0, v, Nat.zero_le _, rfl, by omega, Lib.hid (by simp [anames]), HB2, HC2, HD2⟩
    case round =>
      obtain ⟨k, v2, hk, rfl, hv2, HVK, HBr, HCr, HDr⟩ := hrel
      by_cases hlt : k < y.alts.length
      · obtain ⟨ad, A1, c1, A3, c3, A4, c4, A5', c5', A6', c6', rfl, _, _, _, _, g0, g1, g2, g3, g4, g5, g6, g7, g8⟩ := elem_alt_at A6'.out HBr.out k hlt
        clear g0 g2 g3 g4 g5 g6 g7 g8
        have hnl : v2 + y.alts[k].names.length ≤ 2200000 := by
          have := HVK.out; have := anames_le y.alts (k + 1); rw [take_snoc' hlt, anames_snoc] at this; have := HNA.out; omega
        have q6 := cell_later' HBr.out G6.out
        have b0 := HCr.out.cell (j := 0) rfl
        have f0 := HCr.out.frozen 0
        have w1 : IntKind.i64.wrap ((v2 : Int) + y.alts[k].names.length) = (v2 : Int) + y.alts[k].names.length := IntWalk.i64_in _ (by omega)
        go_wp2_with fail
        go_still_tail 11, (by kernel_rfl)
        change wpList _ _ _ _ _ wr.drew
        clear b0 f0 g1 w1 q6
        go_wp2_with (refine wpList_store_blk bc 0 [] [_] [] [.int .i64 ((v2 : Int) + y.alts[k].names.length)] 3 rfl 3 (.tmp 2) _ rfl rfl rfl rfl HCr.out rfl (by kernel_rfl) (by intro v hv; rw [List.mem_singleton.1 hv]; rfl) ?_)
        intro W3 hb3 hg3 hs3
        have HB3 := Lib.hid (below_grown' HBr.out (undrew hg3) h1); have HC3 := Lib.hid hb3; have HD3 := Lib.hid (HDr.out.grown (undrew hg3) (by omega))
        clear hb3 hg3 hs3
        go_wp2
        go_roundw
        case rel => exact ⟨k + 1, v2 + y.alts[k].names.length, by omega, by go_num, hnl, Lib.hid (by have := HVK.out; rw [take_snoc' hlt, anames_snoc]; omega), HB3, by push_cast; exact HC3, HD3⟩
        case measure => simp [intOf]; omega
      · have hkk : k = y.alts.length := by omega
        have hnn := HVK.out
        rw [hkk, List.take_length] at hnn
        have HNN := Lib.hid (show v2 = cnt (l ++ [(y, d)]) by rw [cnt_app, hnn, HV.out, HCC.out]; simp only [cnt, adds]; omega)
        have HDN := Lib.hid (show max dd d = dpt (l ++ [(y, d)]) by rw [dpt_app, HDD.out]; simp only [dpt]; omega)
        clear hnn hkk
        have b0 := HDr.out.cell (j := 0) rfl
        by_cases hmx : dd < d
        · have HDM := Lib.hid (show d = dpt (l ++ [(y, d)]) by rw [← HDN.out]; omega)
          clear HDN; have HDN := HDM; clear HDM
          go_wp2_with (refine wpList_store_blk bd 0 [] [_] [] [.int .i64 d] 3 rfl 3 (.tmp 3) _ rfl rfl rfl rfl HDr.out rfl (by kernel_rfl) (by intro v hv; rw [List.mem_singleton.1 hv]; rfl) ?_)
          intro W3 hb3 hg3 hs3
          have HB3 := Lib.hid (below_grown' HBr.out hg3 h2); have HD3 := Lib.hid hb3; have HC3 := Lib.hid (HCr.out.grown hg3 (by omega))
          clear hb3 hg3 hs3 b0
          have c0 := HC3.out.cell (j := 0) rfl
          have d0 := HD3.out.cell (j := 0) rfl
          by_cases hc1 : v2 ≤ 20000
          · by_cases hd3 : d ≤ 1000
            · go_wp2
              go_ret
              exact .inl ⟨rfl, HB3.out, by rw [← HNN.out]; exact HC3.out, by rw [← HDN.out]; exact HD3.out, by rw [← HNN.out]; exact hc1, by rw [← HDN.out]; exact hd3⟩
            · go_wp2
              go_ret
              exact .inr ⟨rfl, HB3.out, by rw [← HNN.out]; exact HC3.out, by rw [← HDN.out]; exact HD3.out, by rw [← HNN.out, ← HDN.out]; exact fun h => absurd h.2 (by omega)⟩
          · go_wp2
            go_ret
            exact .inr ⟨rfl, HB3.out, by rw [← HNN.out]; exact HC3.out, by rw [← HDN.out]; exact HD3.out, by rw [← HNN.out, ← HDN.out]; exact fun h => absurd h.1 (by omega)⟩
        · have HDM := Lib.hid (show dd = dpt (l ++ [(y, d)]) by rw [← HDN.out]; omega)
          clear HDN; have HDN := HDM; clear HDM
          go_wp2_with (refine wpList_store_blk bd 0 [] [_] [] [.int .i64 dd] 3 rfl 3 (.tmp 3) _ rfl rfl rfl rfl HDr.out rfl (by kernel_rfl) (by intro v hv; rw [List.mem_singleton.1 hv]; rfl) ?_)
          intro W3 hb3 hg3 hs3
          have HB3 := Lib.hid (below_grown' HBr.out hg3 h2); have HD3 := Lib.hid hb3; have HC3 := Lib.hid (HCr.out.grown hg3 (by omega))
          clear hb3 hg3 hs3 b0
          have c0 := HC3.out.cell (j := 0) rfl
          have d0 := HD3.out.cell (j := 0) rfl
          by_cases hc1 : v2 ≤ 20000
          · have hd3 := hdl
            go_wp2
            go_ret
            exact .inl ⟨rfl, HB3.out, by rw [← HNN.out]; exact HC3.out, by rw [← HDN.out]; exact HD3.out, by rw [← HNN.out]; exact hc1, by rw [← HDN.out]; exact hd3⟩
          · go_wp2
            go_ret
            exact .inr ⟨rfl, HB3.out, by rw [← HNN.out]; exact HC3.out, by rw [← HDN.out]; exact HD3.out, by rw [← HNN.out, ← HDN.out]; exact fun h => absurd h.1 (by omega)⟩
end Go.Proofs.Ytagfphlhahiplaa.C13
namespace Go.Proofs.Ytagfphlhahiplaa.C13
open Go.RowKit Go.Proofs.YtagfphlhahiplaaW.PrintWords Go.Proofs.Ytagfphlhahiplaa.PFnExactFormatCore Go.WideMaps Go.Maps
set_option linter.unusedVariables false
set_option linter.unusedSimpArgs false
theorem keyS : Keyed Try.prog 9 := string_keyed Try.underlying9
theorem zeroB (w : World) : (zeroValue 4).run Try.prog w = .ok (.bool false) w := by kernel_rfl
def litS (s : ByteArray) : Lit := .string s.data.toList
theorem litS_inj {s t : ByteArray} (h : litS s = litS t) : s = t := by
  unfold litS at h
  injection h with h
  cases s; cases t
  simp only [ByteArray.mk.injEq]
  exact Array.ext' h
theorem key_ok {s : ByteArray} (h : s.size ≤ maxLen) : keyOf Try.prog 9 (.string s) = some (litS s) := keyOf_string_mk Try.underlying9 h
def setB (l : List ByteArray) : DataW Unit := setOf (.lit (.bool true)) (l.map litS)
theorem setB_snoc (l : List ByteArray) (s : ByteArray) : setB (l ++ [s]) = (setB l).put (litS s) (.lit (.bool true)) := by
  unfold setB; rw [List.map_append, List.map_cons, List.map_nil, setOf_snoc]
theorem setB_isMap (l : List ByteArray) (hl : ∀ s ∈ l, s.size ≤ maxLen) : IsMap (setB l) :=
  (tidy_setOf _ _ (by
    intro x hx
    obtain ⟨s, hs, rfl⟩ := List.mem_map.1 hx
    exact keyS.key (key_ok (hl s hs)))).isMap
theorem setB_at (s : ByteArray) (hs : s.size ≤ maxLen) : ∀ (l : List ByteArray), (∀ s ∈ l, s.size ≤ maxLen) → (setB l).atKey (litS s) (.lit (.bool false)) = .lit (.bool (dec (s ∈ l))) := by
  intro l
  induction hn : l.length generalizing l with
  | zero =>
    intro _
    obtain rfl := List.length_eq_zero_iff.1 hn
    rw [dec_false (by simp)]; rfl
  | succ n ih =>
    intro hl
    obtain ⟨l', t, rfl⟩ : ∃ l' t, l = l' ++ [t] := ⟨l.dropLast, l.getLast (by intro h; subst h; simp at hn), (List.dropLast_concat_getLast _).symm⟩
    rw [setB_snoc]
    by_cases he : s = t
    · subst he
      rw [atKey_put_same (setB_isMap l' (fun x hx => hl x (by simp [hx]))) (keyS.key (key_ok hs)), dec_true (by simp)]
    · rw [atKey_put_other (fun h => he (litS_inj h)), ih l' (by simpa using hn) (fun x hx => hl x (by simp [hx]))]
      rw [dec_congr (show (s ∈ l') ↔ (s ∈ l' ++ [t]) from by simp [he])]
theorem plainElem_bool_inv {v : Value} {d : DataW Unit} {ps : List MemPlace} {x : Bool} (h : plainElem Try.prog 4 v = some (d, ps)) (hd : d = .lit (.bool x)) : v = .bool x := by
  subst hd
  cases v <;> simp [plainElem, Try.underlying4] at h
  rw [h.1]
def SetM (w : World) (b : Nat) (l : List ByteArray) : Prop := w.ownsMap Try.prog 9 (plainElem (H := Unit) Try.prog 4) b l.length (setB l)
theorem SetM.look {w : World} {b : Nat} {l : List ByteArray} (h : SetM w b l) (hl : ∀ s ∈ l, s.size ≤ maxLen) {s : ByteArray} (hs : s.size ≤ maxLen) :
    (Instr.lookup 148 (.map (some b)) (.string s) false).run Try.prog w = .ok (.bool (dec (s ∈ l))) w := by
  obtain ⟨v, ps, hrun, hv⟩ := h.lookup keyS Try.underlying148 (zeroB w) (plainElem_bool Try.underlying4 false) (key_ok hs)
  rw [setB_at s hs l hl] at hv
  rw [hrun, plainElem_bool_inv hv rfl]
theorem str_some {s : ByteArray} (he : s ≠ ⟨#[]⟩) : s.toList.isEmpty = false ∧ (s.toList = [] ↔ False) := by
  have h : s.toList ≠ [] := fun h => he (toList_inj (h.trans empty_toList.symm))
  exact ⟨by cases h2 : s.toList with | nil => exact absurd h2 h | cons a r => rfl, ⟨h, False.elim⟩⟩
theorem elem_str {w : World} {A : Option Addr} {n : Nat} {xs : List ByteArray} (h : Kd.string.C w A n xs) (i : Nat) (hi : i < xs.length) : ∃ ad, A = some ad ∧ w.cell? (ad.add i) = some (.string xs[i]) := by
  obtain ⟨ad, e', hc⟩ := h.2.2 (by have := h.1; omega)
  obtain ⟨c, hcl, hK, hcell⟩ := hc i xs[i] (List.getElem?_eq_getElem hi)
  obtain rfl := hK
  refine ⟨ad, e', ?_⟩
  have := hcell 0 _ rfl
  have e : i * Kd.string.sz + 0 = i := by show i * 1 + 0 = i; omega
  rwa [e] at this
set_option maxRecDepth 100000 in
set_option maxHeartbeats 1000000 in
theorem unlike_any (l : List ByteArray) (hl : ∀ s ∈ l, s.size ≤ 1048576) (hn : l.length ≤ 1048576) (A : Option Addr) (c : Nat) (w : World) (hr : Kd.string.C w A l.length l) (hc : l.length ≤ c) :
    AnswersB 116 #[.slice A l.length c] w (dec (namesOk l)) := by
  have hmm := @run_makeMap Try.prog
  have HR := Lib.hid hr; have HL := Lib.hid hl; clear hr hl
  unfold AnswersB
  obtain ⟨r, hrr⟩ : ∃ r, r = dec (namesOk l) := ⟨_, rfl⟩
  rw [← hrr]
  have HRR := Lib.hid hrr; clear hrr
  go_enter Try.func116, Try.ntmps116
  go_wp2_with fail
  go_loopw [5, 9] (fun v5 i wr => ∃ (k : Nat), k ≤ l.length ∧ i = .int .i64 k ∧ Hid (namesOk (l.take k)) ∧ Hid (SetM wr w.heap.size (l.take k)) ∧ Hid (Below w.heap.size w wr)) (fun _ i _ => l.length - (intOf i).toNat)
  case atStart => exact ⟨0, Nat.zero_le _, rfl, Lib.hid ⟨by simp, by simp⟩, Lib.hid (World.ownsMap_made _ _ _ _), Lib.hid ((Below.refl _ _).alloc (Nat.le_refl _) _)⟩
  case round =>
    obtain ⟨k, hk, rfl, HN, HM, HB⟩ := hrel
    by_cases hlt : k < l.length
    · obtain ⟨ad, rfl, g0⟩ := elem_str (Kd.C_below HR.out HB.out) k hlt
      have hsz : l[k].size ≤ 1048576 := HL.out _ (List.getElem_mem hlt)
      have HT := Lib.hid (show ∀ s ∈ l.take k, s.size ≤ maxLen from fun s hs => Nat.le_trans (HL.out s (List.mem_of_mem_take hs)) (by unfold maxLen; omega))
      have hrun := HM.out.look HT.out (s := l[k]) (by unfold maxLen; omega)
      have HSN := Lib.hid (take_snoc' hlt)
      have HMEM := Lib.hid (List.getElem_mem hlt)
      generalize l[k] = s at *
      by_cases he : s = ⟨#[]⟩
      · subst he
        clear hrun
        go_wp2
        go_ret
        exact ⟨by rw [HRR.out, dec_false (fun h => h.1 _ HMEM.out rfl)]; rfl, HB.out⟩
      · obtain ⟨q1, q2⟩ := str_some he
        have HE := Lib.hid he; clear he
        by_cases hm : s ∈ l.take k
        · rw [dec_true hm] at hrun
          have HMM := Lib.hid hm; clear hm
          go_wp2
          go_ret
          refine ⟨?_, HB.out⟩
          rw [HRR.out, dec_false]
          · rfl
          · intro h
            have h2 := nodup_take h.2 (k + 1)
            rw [HSN.out, List.nodup_append] at h2
            exact h2.2.2 s HMM.out s (by simp) rfl
        · rw [dec_false hm] at hrun
          have HMM := Lib.hid hm; clear hm
          have hkey := key_ok (s := s) (by unfold maxLen; omega)
          go_wp2_with (at_mapUpdate; refine wpList_mapUpdate_own _ rfl _ _ _ 148 rfl 9 4 keyS Try.underlying148 _ w.heap.size (l.take k).length _ rfl HM.out (by rw [List.length_take]; unfold maxLen; omega) _ _ _ rfl rfl hkey _ [] (plainElem_bool Try.underlying4 true) ?_)
          intro w1 hown1 hg1
          have HB1 := Lib.hid (HB.out.grown hg1 HB.out.size (fun j hj => by cases hj; exact Nat.le_refl _))
          have HM1 := Lib.hid (show SetM w1 w.heap.size (l.take (k + 1)) by
            unfold SetM; rw [HSN.out, setB_snoc]
            have e : (l.take k ++ [s]).length = k + 1 := by simp; omega
            rw [e]; exact hown1)
          have HN1 := Lib.hid (show namesOk (l.take (k + 1)) by
            rw [HSN.out]
            refine ⟨fun x hx => ?_, List.nodup_append.2 ⟨HN.out.2, by simp, fun a ha b hb he => ?_⟩⟩
            · rcases List.mem_append.1 hx with hx | hx
              · exact HN.out.1 x hx
              · rw [List.mem_singleton.1 hx]; exact HE.out
            · rw [List.mem_singleton.1 hb] at he; rw [he] at ha; exact HMM.out ha)
          clear hrun hkey hown1 hg1 g0
          go_wp2
          go_roundw
          case rel => exact ⟨k + 1, by omega, by go_num, HN1, HM1, HB1⟩
          case measure => simp [intOf]; omega
    · have hkk : k = l.length := by omega
      have hnn := HN.out
      rw [hkk, List.take_length] at hnn
      have HNK := Lib.hid hnn; clear hnn hkk
      go_wp2
      go_ret
      exact ⟨by rw [HRR.out, dec_true HNK.out]; rfl, HB.out⟩
end Go.Proofs.Ytagfphlhahiplaa.C13
namespace Go.Proofs.Ytagfphlhahiplaa.C13
open Go
section
variable {P : Program} {ops : Array Oper} {md : Region.Mode}
def midQ (M : Act → World → Prop) (Q : Exit → Act → World → Prop) : Exit → Act → World → Prop
  | .normal, a, w => M a w
  | e, a, w => Q e a w
theorem midQ_intro {M : Act → World → Prop} {Q : Exit → Act → World → Prop} {a : Act} {w : World} (h : M a w) : midQ M Q .normal a w := h
theorem letsOut_mid {M : Act → World → Prop} {Q : Exit → Act → World → Prop} (h : LetsOut (midQ M Q)) : LetsOut Q := h
theorem wp_of_mid {o : Oper} {a : Act} {w : World} {K : Act → World → Prop} {M : Act → World → Prop} {Q : Exit → Act → World → Prop} (hh : o.wp P a w K (midQ M Q)) : o.wp P a w K Q := by
  unfold Oper.wp at *
  generalize (execOp a.eval o).run P w = r at *
  cases r with
  | ok n w' =>
    cases n <;> simp only [Oper.upon] at hh ⊢ <;>
      first
        | exact hh
        | exact Calls.mono hh (fun e w'' he => by cases e <;> exact he)
  | halt x w' => cases x <;> simp only [Oper.upon] at hh ⊢ <;> exact hh
def setAll (listed : Array Bool) (k : Nat) : Nat → Array Bool
  | 0 => listed
  | n + 1 => setAll (listed.setIfInBounds k true) (k + 1) n
def preB (md : Region.Mode) (ops : Array Oper) : Nat → Nat → Array Bool → Bool
  | 0, _, _ => true
  | g + 1, k, listed => decide (Region.ready md ops listed = [k]) && preB md ops g (k + 1) (listed.setIfInBounds k true)
theorem wpAny_of_pre {n g : Nat} {M : Act → World → Prop} {Q : Exit → Act → World → Prop} : ∀ (l : List Oper) (k : Nat) (listed : Array Bool) (a : Act) (w : World), (∀ j, j < l.length → l[j]? = ops[k + j]?) →
    k + l.length ≤ n → HeadInv md ops n listed → preB md ops l.length k listed = true →
    (∀ a' w', HeadInv md ops n (setAll listed k l.length) → M a' w' → wpAny P md ops Q g (setAll listed k l.length) a' w') →
    wpList P ops (midQ M Q) l a w → wpAny P md ops Q (l.length + g) listed a w
  | [], k, listed, a, w, _, _, inv, _, hM, h => by
    simp only [List.length_nil, Nat.zero_add]
    exact hM a w inv h
  | o :: l, k, listed, a, w, hl, hkn, inv, hB, hM, h => by
    have h0 : ops[k]? = some o := by simpa using (hl 0 (by simp)).symm
    simp only [List.length_cons, preB, Bool.and_eq_true, decide_eq_true_eq] at hB
    have hkr : k ∈ Region.ready md ops listed := by rw [hB.1]; simp
    have inv' := inv.set hkr (by simp only [List.length_cons] at hkn; omega)
    rw [show (o :: l).length + g = (l.length + g) + 1 by simp only [List.length_cons]; omega]
    refine ⟨fun h1 => (by rw [hB.1] at h1; cases h1), fun i hi => ?_⟩
    rw [hB.1] at hi
    have hik : i = k := by simpa using hi
    subst hik
    have hw : wpOp P ops Q i (wpList P ops (midQ M Q) l) a w := by
      unfold wpOp; simp only [h0]
      unfold wpList at h
      split
      · rename_i hw
        rw [if_pos hw] at h
        rcases h with h | h
        · exact .inl (wp_of_mid h)
        · exact .inr ⟨h.1, letsOut_mid h.2⟩
      · rename_i hw
        rw [if_neg hw] at h
        exact h
    exact wpOp_mono (fun a' w' h' => wpAny_of_pre l (i + 1) _ a' w' (fun j hj => by have := hl (j + 1) (by simp; omega); simpa [Nat.add_assoc, Nat.add_comm 1 j] using this)
      (by simp only [List.length_cons] at hkn; omega) inv' hB.2 hM h') hw
/-- the same in a box, so that nothing looks into it -/
structure StillW (P : Program) (ops : Array Oper) (w : World) (Q : Act → Prop) (l : List Oper) (a : Act) : Prop where
  out : wpStill P ops w Q l a
theorem StillW.pass {w : World} {Q : Act → Prop} {a : Act} {o : Oper} {rest : List Oper} (hw : Region.wanted o (yielded ops a.tmps) = false) (hp : a.put o.dst undef = a) (h : StillW P ops w Q rest a) : StillW P ops w Q (o :: rest) a := by
  refine ⟨?_⟩
  unfold wpStill; rw [if_neg (by rw [hw]; decide), hp]; exact h.out
theorem StillW.step {w : World} {Q : Act → Prop} {a : Act} {o : Oper} {rest : List Oper} (hw : Region.wanted o (yielded ops a.tmps) = true) (h : ∀ K : Act → Prop, (∀ a, StillW P ops w Q rest a → K a) → o.still P a w K) : StillW P ops w Q (o :: rest) a := by
  refine ⟨?_⟩
  unfold wpStill; rw [if_pos hw]; exact h _ (fun _ h => h.out)
theorem StillW.done {w : World} {Q : Act → Prop} {a : Act} (h : Q a) : StillW P ops w Q [] a := ⟨h⟩
def midB (md : Region.Mode) (ops : Array Oper) (m n : Nat) : Bool :=
  Region.noSelect ops && decide (n < ops.size) && decide (m ≤ n) && Region.sinkB md ops n && Region.chainB md ops n && preB md ops m 0 (Array.replicate ops.size false) &&
    Region.lexHead md ops (ops.size - n) (n - m) m (setAll (Array.replicate ops.size false) 0 m)
theorem wp_region_mid {id : Nat} {Q : Exit → Act → World → Prop} {a : Act} {w : World} {l : List Oper} (m n : Nat) (hm : P.follows .mixedOrders = true) (hB : midB .any l.toArray m n = true)
    (h : wpList P l.toArray (midQ (fun a' w' => StillW P l.toArray w' (fun a'' => wpList P l.toArray Q (l.drop n) a'' w') ((l.take n).drop m) a') Q) (l.take m) a w.drew) : (Code.region id l.toArray true).wp P Q a w := by
  simp only [midB, Bool.and_eq_true, decide_eq_true_eq] at hB
  obtain ⟨⟨⟨⟨⟨⟨hsel, hn⟩, hmn⟩, hs⟩, hc⟩, hpre⟩, hlex⟩ := hB
  have hn' : n < l.length := by simpa using hn
  have htl : (l.take m).length = m := by simp; omega
  have hml : ((l.take n).drop m).length = n - m := by simp; omega
  have hdl : (l.drop n).length = l.toArray.size - n := by simp
  have inv0 : HeadInv .any l.toArray n (Array.replicate l.toArray.size false) :=
    ⟨by simp, fun j oj _ hl => (by rw [getD_replicate_false] at hl; cases hl), fun t _ ht => getD_in (by simpa using ht) (getD_replicate_false _ _)⟩
  refine wp_region_any hm ?_
  have := wpAny_of_pre (md := .any) (n := n) (g := l.toArray.size - m) (Q := Q) (l.take m) 0 (Array.replicate l.toArray.size false) a { w with drawn := w.drawn + 1 }
    (fun j hj => by have hj' : j < m := by rw [htl] at hj; exact hj
                    simp [hj']) (by rw [htl]; omega) inv0 (by rw [htl]; exact hpre) (fun a' w' inv hM => by
      rw [htl] at inv ⊢
      have H := wpAnyL_lex (md := .any) (g := l.toArray.size - n) hsel hs hc hn ((l.take n).drop m) m (setAll (Array.replicate l.toArray.size false) 0 m) a' (fun j hj => by
        rw [hml] at hj
        simp [List.getElem?_drop, List.getElem?_take, show m + j < n by omega]) (by rw [hml]; omega) inv (by rw [hml]; exact hlex) hM.out
      have H2 := wpAny_of_head (Q' := Q) (g := l.toArray.size - n) (fun listed a' hL => by
        have := wpAny_of_seq (md := .any) (Q' := Q) (l.drop n) n listed a' w' (fun j => by simp [List.getElem?_drop]) (by rw [hdl]; exact hL.1) hL.2
        rwa [hdl] at this) _ _ _ H
      rw [hml, show n - m + (l.toArray.size - n) = l.toArray.size - m by omega] at H2
      exact H2) h
  rw [htl, show m + (l.toArray.size - m) = l.toArray.size by omega] at this
  exact this
theorem wp_region_tailW {id : Nat} {Q : Exit → Act → World → Prop} {a : Act} {w : World} {l : List Oper} (n : Nat) (hm : P.follows .mixedOrders = true) (hB : Region.lexTailB .any l.toArray n = true)
    (h : StillW P l.toArray w.drew (fun a' => wpList P l.toArray Q (l.drop n) a' w.drew) (l.take n) a) : (Code.region id l.toArray true).wp P Q a w :=
  wp_region_still_tail n hm hB h.out
end
end Go.Proofs.Ytagfphlhahiplaa.C13
