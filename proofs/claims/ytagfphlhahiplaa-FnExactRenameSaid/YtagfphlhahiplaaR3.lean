/- Part of the proof that FnExactFormatCore answers true at every term. -/
import Derived.Lib.Hide
import Derived.StillTailTactics
import Derived.WalkKit
import Derived.WalkLawsBesides
import Derived.WalkSpells
import Derived.Test.YtagfphlhahiplaaR2
namespace Go.Proofs.Ytagfphlhahiplaa.PFnExactFormatCore
open Go.RowKit Go.Proofs.YtagfphlhahiplaaW.PrintWords Go.Proofs.YtagfphlhahiplaaW.PrintLast Go.Proofs.YtagfphlhahiplaaW.PrintMore
set_option linter.unusedVariables false
set_option linter.unusedSimpArgs false
def laws_toBig.f (k : Nat) (a0_0 : Bool) (l0_1 : List Int) : Option (Bool × List Int) := (laws_toUint32S.f k l0_1).bind fun t222 => (some (a0_0, t222))
theorem laws_toBig.mono : ∀ a0 a1 k, LeO (laws_toBig.f k a0 a1) (laws_toBig.f (k + 1) a0 a1) := by
  intro a0 a1 k
  unfold laws_toBig.f
  repeat' first
      | (with_reducible exact laws_toUint32S.mono _ _)
      | (with_reducible exact LeO.refl _)
      | (with_reducible exact LeO.none _)
      | (with_reducible refine LeO.ite ?_ ?_)
      | (with_reducible refine LeO.bind ?_ (fun _ => ?_))
      | exact laws_toUint32S.mono _ _
      | exact LeO.none _
      | refine LeO.ite ?_ ?_
      | refine LeO.bind ?_ (fun _ => ?_)
set_option maxHeartbeats 8000000 in
set_option maxRecDepth 100000 in
theorem laws_toBig.calls (k : Nat) (a0_0 : Bool) (A0_1 : Option Addr) (c0_1 : Nat) (l0_1 : List Int) (r1 : Bool) (r2 : List Int) (w : World) (hr0_1 : Kd.C (Kd.int .u32) w A0_1 l0_1.length l0_1) (hc0_1 : l0_1.length ≤ c0_1) (h : laws_toBig.f k a0_0 l0_1 = some (r1, r2)) :
    Calls Try.prog 20 #[.agg #[.bool a0_0, .slice A0_1 l0_1.length c0_1]] w fun e w' => ∃ v1_ : Value, e = .returned (.agg #[.bool r1, v1_]) ∧ Kd.R (Kd.int .u32) 108 w' w.heap.size (fun _ => True) v1_ r2 ∧ Below w.heap.size w w' := by
  have hu24 := Try.underlying24
  have hu32 := Try.underlying32
  have HR0_1 := Aside0.mk hr0_1
  have HC0_1 := Aside0.mk hc0_1
  clear hr0_1 hc0_1
  have HB := Aside0.mk (Below.refl w.heap.size w)
  have H : ((laws_toUint32S.f k l0_1).bind fun t222 => (some (a0_0, t222))) = some (r1, r2) := h
  clear h
  replace H := Option.bind_eq_some_iff.mp H
  obtain ⟨t222, A20, H⟩ := H
  replace H : (some (a0_0, t222)) = some (r1, r2) := H
  have A2 := Aside0.mk A20
  clear A20
  simp only [Option.some.injEq, Prod.mk.injEq] at H
  obtain ⟨rfl, rfl⟩ := H
  go_enter Try.func20, Try.ntmps20
  go_wp2_with (first | ((with_reducible refine gate_dst (N := 1) rfl ?_); refine box_event ?hg (N := 1) ?hd (cs := #[.bool a0_0, .slice A0_1 l0_1.length c0_1]) (t := 24) ?hr ?_; (case hd => rfl); (case hg => rfl); (case hr => first | (go_simp; done) | (go_simp; rfl)); intro gb219 hg w3 hbox hb; have n0_ := Aside0.mk (below_step (by repeat (first | (with_reducible first | exact HB.out | apply below_alloc | apply pw_below_drewN | apply below_drew1) | exact HB.out)) hb); have n1_ := Aside0.mk (hbox); have n2_ := Aside0.mk ((by rw [hg]; exact (below_size (by repeat (first | (with_reducible first | exact HB.out | apply below_alloc | apply pw_below_drewN | apply below_drew1) | exact HB.out))) : w.heap.size ≤ gb219)); have n3_ := Aside0.mk ((by rw [hg]; exact (below_size (by repeat (first | (with_reducible first | exact HB.out | apply below_alloc | apply pw_below_drewN | apply below_drew1) | exact HB.out))) : w.heap.size ≤ gb219)); clear HB; have HB := n0_; have BK219 := n1_; have GW219 := n2_; have GE219 := n3_; clear n0_ n1_ n2_ n3_; clear hb hbox hg) | ((with_reducible refine gate_dst (N := 2) rfl ?_); refine box_event ?hg (N := 2) ?hd (cs := #[.bool false, .slice none 0 0]) (t := 32) ?hr ?_; (case hd => rfl); (case hg => rfl); (case hr => first | (go_simp; done) | (go_simp; rfl)); intro gb220 hg w4 hbox hb; have n0_ := Aside0.mk (blk_below (g := gb219) (o := .cells #[.bool a0_0, .slice A0_1 l0_1.length c0_1] 24 (0, 0)) (by (with_reducible repeat (first | refine blk_drewN ?_ _ | refine blk_drew ?_ | refine blk_alloc ?_ _)); exact BK219.out) hb); have n1_ := Aside0.mk (below_step (by repeat (first | (with_reducible first | exact HB.out | apply below_alloc | apply pw_below_drewN | apply below_drew1 | refine below_set ?_ GE219.out) | exact HB.out)) hb); have n2_ := Aside0.mk (hbox); have n3_ := Aside0.mk ((by rw [hg]; exact (below_size (by repeat (first | (with_reducible first | exact HB.out | apply below_alloc | apply pw_below_drewN | apply below_drew1 | refine below_set ?_ GE219.out) | exact HB.out))) : w.heap.size ≤ gb220)); have n4_ := Aside0.mk ((by rw [hg]; exact (below_size (by repeat (first | (with_reducible first | exact HB.out | apply below_alloc | apply pw_below_drewN | apply below_drew1 | refine below_set ?_ GE219.out) | exact HB.out))) : w.heap.size ≤ gb220)); have n5_ := Aside0.mk ((by rw [hg]; exact Nat.ne_of_lt (blk_lt (g := gb219) (o := .cells #[.bool a0_0, .slice A0_1 l0_1.length c0_1] 24 (0, 0)) (by (with_reducible repeat (first | refine blk_drewN ?_ _ | refine blk_drew ?_ | refine blk_alloc ?_ _)); exact BK219.out)) : gb219 ≠ gb220)); have n6_ := Aside0.mk ((by rw [hg]; exact Nat.ne_of_gt (blk_lt (g := gb219) (o := .cells #[.bool a0_0, .slice A0_1 l0_1.length c0_1] 24 (0, 0)) (by (with_reducible repeat (first | refine blk_drewN ?_ _ | refine blk_drew ?_ | refine blk_alloc ?_ _)); exact BK219.out)) : gb220 ≠ gb219)); clear BK219; clear HB; have BK219 := n0_; have HB := n1_; have BK220 := n2_; have GW220 := n3_; have GE220 := n4_; have NB219_220 := n5_; have NB220_219 := n6_; clear n0_ n1_ n2_ n3_ n4_ n5_ n6_; clear hb hbox hg) | ((with_reducible refine gate_dst (N := 3) rfl ?_); refine box_event ?hg (N := 3) ?hd (cs := #[.bool false, .slice none 0 0]) (t := 32) ?hr ?_; (case hd => rfl); (case hg => rfl); (case hr => first | (go_simp; done) | (go_simp; rfl)); intro gb221 hg w5 hbox hb; have n0_ := Aside0.mk (blk_below (g := gb219) (o := .cells #[.bool a0_0, .slice A0_1 l0_1.length c0_1] 24 (0, 0)) (by (with_reducible repeat (first | refine blk_drewN ?_ _ | refine blk_drew ?_ | refine blk_alloc ?_ _)); exact BK219.out) hb); have n1_ := Aside0.mk (blk_below (g := gb220) (o := .cells #[.bool false, .slice none 0 0] 32 (0, 0)) (by (with_reducible repeat (first | refine blk_drewN ?_ _ | refine blk_drew ?_ | refine blk_alloc ?_ _)); exact BK220.out) hb); have n2_ := Aside0.mk (below_step (by repeat (first | (with_reducible first | exact HB.out | apply below_alloc | apply pw_below_drewN | apply below_drew1 | refine below_set ?_ GE219.out | refine below_set ?_ GE220.out) | exact HB.out)) hb); have n3_ := Aside0.mk (hbox); have n4_ := Aside0.mk ((by rw [hg]; exact (below_size (by repeat (first | (with_reducible first | exact HB.out | apply below_alloc | apply pw_below_drewN | apply below_drew1 | refine below_set ?_ GE219.out | refine below_set ?_ GE220.out) | exact HB.out))) : w.heap.size ≤ gb221)); have n5_ := Aside0.mk ((by rw [hg]; exact (below_size (by repeat (first | (with_reducible first | exact HB.out | apply below_alloc | apply pw_below_drewN | apply below_drew1 | refine below_set ?_ GE219.out | refine below_set ?_ GE220.out) | exact HB.out))) : w.heap.size ≤ gb221)); have n6_ := Aside0.mk ((by rw [hg]; exact Nat.ne_of_lt (blk_lt (g := gb219) (o := .cells #[.bool a0_0, .slice A0_1 l0_1.length c0_1] 24 (0, 0)) (by (with_reducible repeat (first | refine blk_drewN ?_ _ | refine blk_drew ?_ | refine blk_alloc ?_ _)); exact BK219.out)) : gb219 ≠ gb221)); have n7_ := Aside0.mk ((by rw [hg]; exact Nat.ne_of_gt (blk_lt (g := gb219) (o := .cells #[.bool a0_0, .slice A0_1 l0_1.length c0_1] 24 (0, 0)) (by (with_reducible repeat (first | refine blk_drewN ?_ _ | refine blk_drew ?_ | refine blk_alloc ?_ _)); exact BK219.out)) : gb221 ≠ gb219)); have n8_ := Aside0.mk ((by rw [hg]; exact Nat.ne_of_lt (blk_lt (g := gb220) (o := .cells #[.bool false, .slice none 0 0] 32 (0, 0)) (by (with_reducible repeat (first | refine blk_drewN ?_ _ | refine blk_drew ?_ | refine blk_alloc ?_ _)); exact BK220.out)) : gb220 ≠ gb221)); have n9_ := Aside0.mk ((by rw [hg]; exact Nat.ne_of_gt (blk_lt (g := gb220) (o := .cells #[.bool false, .slice none 0 0] 32 (0, 0)) (by (with_reducible repeat (first | refine blk_drewN ?_ _ | refine blk_drew ?_ | refine blk_alloc ?_ _)); exact BK220.out)) : gb221 ≠ gb220)); clear BK219; clear BK220; clear HB; have BK219 := n0_; have BK220 := n1_; have HB := n2_; have BK221 := n3_; have GW221 := n4_; have GE221 := n5_; have NB219_221 := n6_; have NB221_219 := n7_; have NB220_221 := n8_; have NB221_220 := n9_; clear n0_ n1_ n2_ n3_ n4_ n5_ n6_ n7_ n8_ n9_; clear hb hbox hg; have hnb6 := NB219_220.out; have hnc6 := NB220_219.out; have hnb7 := NB219_221.out; have hnc7 := NB221_219.out; have hcz8_0 : w5.cell? ⟨gb219, 0, none⟩ = some (.bool a0_0) := (blk_cell BK219.out 0).trans rfl; have hcz8_1 : w5.cell? ⟨gb219, 1, none⟩ = some (.slice A0_1 l0_1.length c0_1) := (blk_cell BK219.out 1).trans rfl; have hfz8_0 := blk_frozen BK219.out 0; have hfz8_1 := blk_frozen BK219.out 1; have hnb9 := NB221_220.out; have hnc9 := NB220_221.out; have hcz10_0 : w5.cell? ⟨gb221, 0, none⟩ = some (.bool false) := (blk_cell BK221.out 0).trans rfl; have hcz10_1 : w5.cell? ⟨gb221, 1, none⟩ = some (.slice none 0 0) := (blk_cell BK221.out 1).trans rfl; have hfz10_0 := blk_frozen BK221.out 0; have hfz10_1 := blk_frozen BK221.out 1) | ((with_reducible refine gate_callee (f := 49) rfl ?_); refine goesL_ (some 9) rfl rfl Try.func49 (by kernel_rfl) rfl #[.slice A0_1 l0_1.length c0_1] rfl (by (try simp only [List.map_toArray, List.map_cons, List.map_nil]); first | done | rfl | (simp only [List.length_drop, List.length_take]; rfl)) ?_; (with_reducible refine (laws_toUint32S.calls k _ _ l0_1 t222 _ ?side1 ?side2 A2.out).mono ?_); (case side1 => exact Kd.C_below HR0_1.out (by repeat (first | (with_reducible first | exact HB.out | apply below_alloc | apply pw_below_drewN | apply below_drew1 | refine below_set ?_ GE219.out | refine below_set ?_ GE220.out | refine below_set ?_ GE221.out) | exact HB.out))); (case side2 => exact HC0_1.out); rintro e w11 ⟨v223, rfl, ho0, hb⟩; refine ⟨_, rfl, ?_⟩; have n0_ := Aside0.mk (Kd.R_lower ho0 (below_size (by repeat (first | (with_reducible first | exact HB.out | apply below_alloc | apply pw_below_drewN | apply below_drew1 | refine below_set ?_ GE219.out | refine below_set ?_ GE220.out | refine below_set ?_ GE221.out) | exact HB.out)))); have n1_ := Aside0.mk (blk_below (g := gb219) (o := .cells #[.bool a0_0, .slice A0_1 l0_1.length c0_1] 24 (0, 0)) (by (with_reducible repeat (first | refine blk_drewN ?_ _ | refine blk_drew ?_ | refine blk_alloc ?_ _)); refine blk_far ?_ NB219_221.out _; (with_reducible repeat (first | refine blk_drewN ?_ _ | refine blk_drew ?_ | refine blk_alloc ?_ _)); exact BK219.out) hb); have n2_ := Aside0.mk (blk_below (g := gb220) (o := .cells #[.bool false, .slice none 0 0] 32 (0, 0)) (by (with_reducible repeat (first | refine blk_drewN ?_ _ | refine blk_drew ?_ | refine blk_alloc ?_ _)); refine blk_far ?_ NB220_221.out _; (with_reducible repeat (first | refine blk_drewN ?_ _ | refine blk_drew ?_ | refine blk_alloc ?_ _)); exact BK220.out) hb); have n3_ := Aside0.mk (blk_below (g := gb221) (o := .cells #[.bool a0_0, .slice none 0 0] 32 (0, 0)) (by (with_reducible repeat (first | refine blk_drewN ?_ _ | refine blk_drew ?_ | refine blk_alloc ?_ _)); refine blk_put (cs := #[.bool false, .slice none 0 0]) ?_ 0 _ rfl; (with_reducible repeat (first | refine blk_drewN ?_ _ | refine blk_drew ?_ | refine blk_alloc ?_ _)); exact BK221.out) hb); have n4_ := Aside0.mk (below_step (by repeat (first | (with_reducible first | exact HB.out | apply below_alloc | apply pw_below_drewN | apply below_drew1 | refine below_set ?_ GE219.out | refine below_set ?_ GE220.out | refine below_set ?_ GE221.out) | exact HB.out)) hb); clear BK219; clear BK220; clear BK221; clear HB; have HO224 := n0_; have BK219 := n1_; have BK220 := n2_; have BK221 := n3_; have HB := n4_; clear n0_ n1_ n2_ n3_ n4_; (try clear hb); (try clear hb2); (try clear hk); (try clear hi); (try clear ho0); obtain ⟨Ao12, co12, eo12⟩ := Kd.R_slice HO224.out; subst eo12; have hcz13_0 : w11.cell? ⟨gb221, 0, none⟩ = some (.bool a0_0) := (blk_cell BK221.out 0).trans rfl; have hcz13_1 : w11.cell? ⟨gb221, 1, none⟩ = some (.slice none 0 0) := (blk_cell BK221.out 1).trans rfl; have hfz13_0 := blk_frozen BK221.out 0; have hfz13_1 := blk_frozen BK221.out 1; have hcz14_0 : w11.cell? ⟨gb220, 0, none⟩ = some (.bool false) := (blk_cell BK220.out 0).trans rfl; have hcz14_1 : w11.cell? ⟨gb220, 1, none⟩ = some (.slice none 0 0) := (blk_cell BK220.out 1).trans rfl; have hfz14_0 := blk_frozen BK220.out 0; have hfz14_1 := blk_frozen BK220.out 1))
  refine bodyPost_ret (results_cell_row rfl _ _ gb220 32 #[.bool a0_0, .slice Ao12 t222.length co12] (0, 0) _ rfl (by (with_reducible repeat (first | refine blk_drewN ?_ _ | refine blk_drew ?_ | refine blk_alloc ?_ _)); refine blk_put (cs := #[.bool a0_0, .slice none 0 0]) ?_ 1 _ rfl; (with_reducible repeat (first | refine blk_drewN ?_ _ | refine blk_drew ?_ | refine blk_alloc ?_ _)); refine blk_put (cs := #[.bool false, .slice none 0 0]) ?_ 0 _ rfl; (with_reducible repeat (first | refine blk_drewN ?_ _ | refine blk_drew ?_ | refine blk_alloc ?_ _)); refine blk_far ?_ NB220_221.out _; (with_reducible repeat (first | refine blk_drewN ?_ _ | refine blk_drew ?_ | refine blk_alloc ?_ _)); exact BK220.out) Try.underlying32 rfl (by kernel_rfl)) rfl ?_
  exact ⟨_, by first | rfl | (simp [errW_none, errW_some] <;> rfl) | (simp [*, errW_none, errW_some] <;> rfl), by (with_reducible repeat (first | apply Kd.R_alloc | apply Kd.R_drewN | apply Kd.R_drew)); exact Kd.R_mono (Kd.R_far (p := ⟨gb220, 1, none⟩) (Kd.R_far (p := ⟨gb220, 0, none⟩) (Kd.R_far (p := ⟨gb221, 1, none⟩) (Kd.R_types (Kd.R_types HO224.out BK221.out (by decide)) BK220.out (by decide)) (fun _ hk => hk.1.2) (.slice Ao12 t222.length co12)) (fun _ hk => hk.2) (.bool a0_0)) (fun _ hk => hk.2) (.slice Ao12 t222.length co12)) (fun _ hk => trivial), by repeat (first | (with_reducible first | exact HB.out | apply below_alloc | apply pw_below_drewN | apply below_drew1 | refine below_set ?_ GE219.out | refine below_set ?_ GE220.out | refine below_set ?_ GE221.out) | exact HB.out)⟩
def laws_toStringS.l0 : Nat → List ByteArray → List ByteArray → Int → Option (List ByteArray)
  | 0, _, _, _ => none
  | k + 1, x0, x3, x4 => if x4 < (x0.length : Int) then (if 0 ≤ x4 then (if x4 < (x3.length : Int) then (laws_toStringS.l0 k x0 (x3.set (x4 : Int).toNat (rdOf ByteArray.empty x0 x4)) (wrap64 (x4 + 1))) else (none)) else (none)) else (some x3)
def laws_toStringS.f (k : Nat) (l0 : List ByteArray) : Option (List ByteArray) := if 0 ≤ (l0.length : Int) then (if ((l0.length : Int) : Int).toNat ≤ 17592186044416 then (laws_toStringS.l0 k l0 (List.replicate ((l0.length : Int) : Int).toNat (⟨#[]⟩ : ByteArray)) 0) else (none)) else (none)
theorem laws_toStringS.mono_l : ∀ k, (∀ y0 y1 y2, LeO (laws_toStringS.l0 k y0 y1 y2) (laws_toStringS.l0 (k + 1) y0 y1 y2))
  | 0 => fun _ _ _ r h => by simp [laws_toStringS.l0] at h
  | k + 1 => by
    have ih0 := laws_toStringS.mono_l k
    · intro y0 y1 y2
      unfold laws_toStringS.l0
      repeat' first
      | (with_reducible exact ih0 _ _ _)
      | (with_reducible exact LeO.refl _)
      | (with_reducible exact LeO.none _)
      | (with_reducible refine LeO.ite ?_ ?_)
      | (with_reducible refine LeO.bind ?_ (fun _ => ?_))
      | exact ih0 _ _ _
      | exact LeO.none _
      | refine LeO.ite ?_ ?_
      | refine LeO.bind ?_ (fun _ => ?_)
theorem laws_toStringS.mono : ∀ a0 k, LeO (laws_toStringS.f k a0) (laws_toStringS.f (k + 1) a0) := by
  intro a0 k
  have ih0 := laws_toStringS.mono_l k
  unfold laws_toStringS.f
  repeat' first
      | (with_reducible exact ih0 _ _ _)
      | (with_reducible exact LeO.refl _)
      | (with_reducible exact LeO.none _)
      | (with_reducible refine LeO.ite ?_ ?_)
      | (with_reducible refine LeO.bind ?_ (fun _ => ?_))
      | exact ih0 _ _ _
      | exact LeO.none _
      | refine LeO.ite ?_ ?_
      | refine LeO.bind ?_ (fun _ => ?_)
set_option maxHeartbeats 8000000 in
set_option maxRecDepth 100000 in
theorem laws_toStringS.calls (k : Nat) (A0 : Option Addr) (c0 : Nat) (l0 : List ByteArray) (r : List ByteArray) (w : World) (hr0 : Kd.C Kd.string w A0 l0.length l0) (hc0 : l0.length ≤ c0) (h : laws_toStringS.f k l0 = some r) :
    Calls Try.prog 21 #[.slice A0 l0.length c0] w fun e w' => ∃ v0_ : Value, e = .returned (v0_) ∧ Kd.R Kd.string 9 w' w.heap.size (fun _ => True) v0_ r ∧ Below w.heap.size w w' := by
  have HR0 := Aside0.mk hr0
  have HC0 := Aside0.mk hc0
  clear hr0 hc0
  have HB := Aside0.mk (Below.refl w.heap.size w)
  have H : (if 0 ≤ (l0.length : Int) then (if ((l0.length : Int) : Int).toNat ≤ 17592186044416 then (laws_toStringS.l0 k l0 (List.replicate ((l0.length : Int) : Int).toNat (⟨#[]⟩ : ByteArray)) 0) else (none)) else (none)) = some r := h
  clear h
  by_cases c2 : 0 ≤ (l0.length : Int)
  · rw [if_pos c2] at H
    have c2b0 := eq_true c2
    have c2b1 : decide (0 ≤ (l0.length : Int)) = true := decide_eq_true c2
    clear c2
    by_cases c3 : ((l0.length : Int) : Int).toNat ≤ 17592186044416
    · rw [if_pos c3] at H
      have c3b0 := eq_true c3
      have c3b1 : decide (((l0.length : Int) : Int).toNat ≤ 17592186044416) = true := decide_eq_true c3
      clear c3
      obtain ⟨y225, hy225⟩ : ∃ y_ : List ByteArray, y_ = (List.replicate ((l0.length : Int) : Int).toNat (⟨#[]⟩ : ByteArray)) := ⟨_, rfl⟩
      replace H : (laws_toStringS.l0 k l0 y225 0) = some r := by first | (rw [hy225]; with_reducible exact H) | (have H2_ := (Option.bind_some _ _).symm.trans H; rw [hy225]; with_reducible exact H2_) | (have H2_ := (Option.bind_some _ _).symm.trans H; with_reducible exact H2_) | with_reducible exact H | (rw [hy225]; exact H) | exact H
      have Ny225 := Aside0.mk hy225
      clear hy225
      have H' := Aside0.mk H
      clear H
      go_enter Try.func21, Try.ntmps21
      go_wp2_with (first | ((with_reducible refine gate_dst (N := 7) rfl ?_); refine Kd.R_make Kd.string _ 9 rfl (N := 7) rfl 25 _ _ rfl (l0.length : Int) rfl rfl Try.underlying25 (.string ⟨#[]⟩) 16 info9 rfl (by decide) (by omega) (⟨#[]⟩ : ByteArray) (ok := fun _ => True) (okp := fun _ => True) rfl (fun _ hk => hk) trivial (of_decide_eq_true (by first | (with_reducible assumption) | assumption)) (Nat.le_trans (Nat.mul_le_mul_right _ (of_decide_eq_true (by first | (with_reducible assumption) | assumption) : (l0.length : Int).toNat ≤ 17592186044416)) (by omega)) (Below.refl _ _) (Nat.le_refl _) ?_; intro v226 w4 ho5 hb hg_ hnew_; clear hg_ hnew_; (first | rw [← Ny225.out] at ho5 | (simp only [Int.reduceToNat] at ho5; rw [← Ny225.out] at ho5)); have n0_ := Aside0.mk (Kd.R_lower ho5 (below_size (by repeat (first | (with_reducible first | exact HB.out | apply below_alloc | apply pw_below_drewN | apply below_drew1) | exact HB.out)))); have n1_ := Aside0.mk (below_step (by repeat (first | (with_reducible first | exact HB.out | apply below_alloc | apply pw_below_drewN | apply below_drew1) | exact HB.out)) hb); clear HB; have HO227 := n0_; have HB := n1_; clear n0_ n1_; clear hb ho5))
      go_loopg [4] k (fun kq v4 w' => ∃ (x3_1 : List ByteArray) (x4_1 : Int), v4 = .int .i64 x4_1 ∧ Aside0 (laws_toStringS.l0 kq l0 x3_1 x4_1 = some r) ∧ Aside0 (kq ≤ k) ∧ Aside0 (Kd.R Kd.string 9 w' w.heap.size (fun _ => True) v226 x3_1) ∧ Aside0 (Below w.heap.size w w'))
      case atStart => exact ⟨(y225), (0), (by first | rfl | (simp; done) | (simp [*]; done)), H', ⟨Nat.le_refl _⟩, ⟨by (with_reducible repeat (first | apply Kd.R_alloc | apply Kd.R_drewN | apply Kd.R_drew)); exact HO227.out⟩, ⟨by repeat (first | (with_reducible first | exact HB.out | apply below_alloc | apply pw_below_drewN | apply below_drew1) | exact HB.out)⟩⟩
      case round =>
        clear H'
        try clear c2
        try clear c2b0
        try clear c2b1
        try clear p2
        try clear c3
        try clear c3b0
        try clear c3b1
        obtain ⟨x3_1, x4_1, rfl, HA, HK1, HO_3, HB⟩ := hrel
        cases gk with
        | zero => exact absurd HA.out (by simp [laws_toStringS.l0])
        | succ k1 =>
          have H := HA.out
          clear HA
          simp only [laws_toStringS.l0] at H
          by_cases c6 : x4_1 < (l0.length : Int)
          · rw [if_pos c6] at H
            have c6b0 : decide (x4_1 < (l0.length : Int)) = true := decide_eq_true c6
            clear c6
            by_cases c7 : 0 ≤ x4_1
            · rw [if_pos c7] at H
              have c7b0 : decide (0 ≤ x4_1) = true := decide_eq_true c7
              clear c7
              by_cases c8 : x4_1 < (x3_1.length : Int)
              · rw [if_pos c8] at H
                have c8b0 : decide (x4_1 < (x3_1.length : Int)) = true := decide_eq_true c8
                clear c8
                obtain ⟨y229, hy229⟩ : ∃ y_ : List ByteArray, y_ = (x3_1.set (x4_1 : Int).toNat (rdOf ByteArray.empty l0 x4_1)) := ⟨_, rfl⟩
                replace H : (laws_toStringS.l0 k1 l0 y229 (wrap64 (x4_1 + 1))) = some r := by first | (rw [hy229]; with_reducible exact H) | (have H2_ := (Option.bind_some _ _).symm.trans H; rw [hy229]; with_reducible exact H2_) | (have H2_ := (Option.bind_some _ _).symm.trans H; with_reducible exact H2_) | with_reducible exact H | (rw [hy229]; exact H) | exact H
                have Ny229 := Aside0.mk hy229
                clear hy229
                have H' := Aside0.mk H
                clear H
                have p228 : 0 ≤ (x4_1 : Int) := of_decide_eq_true (by first | (with_reducible assumption) | assumption)
                have q228 : x4_1 < (l0.length : Int) := of_decide_eq_true (by first | (with_reducible assumption) | assumption)
                obtain ⟨ad228, e228, hx228_0⟩ := Kd.at_string HR0.out x4_1 p228 q228
                cases e228
                replace hx228_0 := (HB.out.cell (World.block_lt_of_cell? w _ hx228_0)).trans hx228_0
                replace p228 := eq_true p228
                replace q228 := eq_true q228
                have p9 : 0 ≤ (x4_1 : Int) := of_decide_eq_true (by first | (with_reducible assumption) | assumption)
                have q9 : (x4_1 : Int) < ((x3_1.length : Int) : Int) := of_decide_eq_true (by first | (with_reducible assumption) | assumption)
                obtain ⟨go9, co9, eo9, gb9, gl9, cl9, HG9⟩ := Kd.R_form HO_3.out (by omega)
                (first | cases eo9 | (injection eo9 with ea_ en_ ec_; (first | subst ea_ | (injection ea_ with ea_; subst ea_)); subst ec_; clear en_))
                have GB9 := Aside0.mk gb9
                have GG9 := Aside0.mk HG9
                clear gb9 gl9 HG9
                obtain ⟨hx9_0, hf9_0⟩ := Kd.R_celln (⟨#[]⟩ : ByteArray) HO_3.out (x4_1 : Int) p9 q9
                replace p9 := eq_true p9
                replace q9 := eq_true q9
                have HP10 := Kd.R_putg HO_3.out (x4_1 : Int) (rdOf ByteArray.empty l0 x4_1)
                go_wp2_with (first | ((with_reducible refine gate_store (t := 9) (p := 20) rfl ?_); refine store_event (t := 9) (p := 20) (v := ?vo_w11) (w1 := (wr.setCell ⟨go9, (x4_1 : Int).toNat, none⟩ (.string (rdOf ByteArray.empty l0 x4_1)))) ?hg ?ho ?hn ?hr ?_; (case ho => rfl); (case hg => rfl); (case hn => rfl); (case hr => first | (go_simp; done) | (go_simp; rfl)); intro w11 hw; have hg : wr.grownBy w11 (some go9) := (by rw [hw]; exact HP10.2); have hp_ : Kd.R Kd.string 9 w11 w.heap.size (fun _ => True) (.slice (some ⟨go9, 0, none⟩) x3_1.length co9) y229 := (by rw [hw, Ny229.out]; exact HP10.1); clear HP10; have n0_ := Aside0.mk (hp_); have n1_ := Aside0.mk ((by rw [hw]; exact below_set (HB.out) GB9.out : Below w.heap.size w w11)); clear HO_3; clear HB; have HO_3 := n0_; have HB := n1_; clear n0_ n1_; clear hg hw hp_))
                go_roundg k1
                case measure => have := HK1.out; omega
                case rel => exact ⟨(y229), (wrap64 (x4_1 + 1)), (by first | rfl | (simp; done) | (simp [*]; done)), H', ⟨by have := HK1.out; omega⟩, ⟨by (with_reducible repeat (first | apply Kd.R_alloc | apply Kd.R_drewN | apply Kd.R_drew)); exact HO_3.out⟩, ⟨by repeat (first | (with_reducible first | exact HB.out | apply below_alloc | apply pw_below_drewN | apply below_drew1) | exact HB.out)⟩⟩
              · rw [if_neg c8] at H
                exact absurd H (by simp)
            · rw [if_neg c7] at H
              exact absurd H (by simp)
          · rw [if_neg c6] at H
            have c6b0 : decide (x4_1 < (l0.length : Int)) = false := decide_eq_false c6
            clear c6
            obtain rfl := Option.some.inj H
            go_wp2
            go_ret
            exact ⟨_, by first | rfl | (simp [errW_none, errW_some] <;> rfl) | (simp [*, errW_none, errW_some] <;> rfl), by (with_reducible repeat (first | apply Kd.R_alloc | apply Kd.R_drewN | apply Kd.R_drew)); exact HO_3.out, by repeat (first | (with_reducible first | exact HB.out | apply below_alloc | apply pw_below_drewN | apply below_drew1) | exact HB.out)⟩
    · rw [if_neg c3] at H
      exact absurd H (by simp)
  · rw [if_neg c2] at H
    exact absurd H (by simp)
def laws_eqUint32S.l0 : Nat → List Int → List Int → Int → Option (Bool)
  | 0, _, _, _ => none
  | k + 1, x0, x1, x5 => if x5 < (x0.length : Int) then (if 0 ≤ x5 then (if x5 < (x1.length : Int) then (if (rd x0 x5) = (rd x1 x5) then (laws_eqUint32S.l0 k x0 x1 (wrap64 (x5 + 1))) else (some false)) else (none)) else (none)) else (some true)
def laws_eqUint32S.f (k : Nat) (l0 : List Int) (l1 : List Int) : Option (Bool) := if (l0.length : Int) = (l1.length : Int) then (laws_eqUint32S.l0 k l0 l1 0) else (some false)
theorem laws_eqUint32S.mono_l : ∀ k, (∀ y0 y1 y2, LeO (laws_eqUint32S.l0 k y0 y1 y2) (laws_eqUint32S.l0 (k + 1) y0 y1 y2))
  | 0 => fun _ _ _ r h => by simp [laws_eqUint32S.l0] at h
  | k + 1 => by
    have ih0 := laws_eqUint32S.mono_l k
    · intro y0 y1 y2
      unfold laws_eqUint32S.l0
      repeat' first
      | (with_reducible exact ih0 _ _ _)
      | (with_reducible exact LeO.refl _)
      | (with_reducible exact LeO.none _)
      | (with_reducible refine LeO.ite ?_ ?_)
      | (with_reducible refine LeO.bind ?_ (fun _ => ?_))
      | exact ih0 _ _ _
      | exact LeO.none _
      | refine LeO.ite ?_ ?_
      | refine LeO.bind ?_ (fun _ => ?_)
theorem laws_eqUint32S.mono : ∀ a0 a1 k, LeO (laws_eqUint32S.f k a0 a1) (laws_eqUint32S.f (k + 1) a0 a1) := by
  intro a0 a1 k
  have ih0 := laws_eqUint32S.mono_l k
  unfold laws_eqUint32S.f
  repeat' first
      | (with_reducible exact ih0 _ _ _)
      | (with_reducible exact LeO.refl _)
      | (with_reducible exact LeO.none _)
      | (with_reducible refine LeO.ite ?_ ?_)
      | (with_reducible refine LeO.bind ?_ (fun _ => ?_))
      | exact ih0 _ _ _
      | exact LeO.none _
      | refine LeO.ite ?_ ?_
      | refine LeO.bind ?_ (fun _ => ?_)
set_option maxHeartbeats 8000000 in
set_option maxRecDepth 100000 in
theorem laws_eqUint32S.calls (k : Nat) (A0 : Option Addr) (c0 : Nat) (l0 : List Int) (A1 : Option Addr) (c1 : Nat) (l1 : List Int) (r : Bool) (w : World) (hr0 : Kd.C (Kd.int .u32) w A0 l0.length l0) (hc0 : l0.length ≤ c0) (hr1 : Kd.C (Kd.int .u32) w A1 l1.length l1) (hc1 : l1.length ≤ c1) (h : laws_eqUint32S.f k l0 l1 = some r) :
    Calls Try.prog 62 #[.slice A0 l0.length c0, .slice A1 l1.length c1] w fun e w' => e = .returned (.bool r) ∧ Drawn0 w w' := by
  have HR0 := Aside0.mk hr0
  have HC0 := Aside0.mk hc0
  clear hr0 hc0
  have HR1 := Aside0.mk hr1
  have HC1 := Aside0.mk hc1
  clear hr1 hc1
  have H : (if (l0.length : Int) = (l1.length : Int) then (laws_eqUint32S.l0 k l0 l1 0) else (some false)) = some r := h
  clear h
  by_cases c3 : (l0.length : Int) = (l1.length : Int)
  · rw [if_pos c3] at H
    have c3b0 : ((l0.length : Int) == (l1.length : Int)) = true := beq_iff_eq.mpr c3
    have c3b1 : ((l0.length : Int) != (l1.length : Int)) = false := bne_eq_false_iff_eq.mpr c3
    have c3b2 : (l0.length == l1.length) = true := by first | simpa using c3 | (simp at c3 ⊢; omega)
    clear c3
    have H' := Aside0.mk H
    clear H
    go_enter Try.func62, Try.ntmps62
    go_wp2
    repeat (go_quiet (fail); try go_wp2)
    go_loopg [5] k (fun kq v5 w' => ∃ (x5_1 : Int), v5 = .int .i64 x5_1 ∧ Aside0 (laws_eqUint32S.l0 kq l0 l1 x5_1 = some r) ∧ Aside0 (kq ≤ k) ∧ Drawn0 w w')
    case atStart => exact ⟨(0), (by first | rfl | (simp; done) | (simp [*]; done)), H', ⟨Nat.le_refl _⟩, by repeat (first | exact Drawn0.refl _ | apply Drawn0.step)⟩
    case round =>
      clear H'
      try clear c1
      try clear p2
      try clear c3
      try clear c3b0
      try clear c3b1
      try clear c3b2
      obtain ⟨x5_1, rfl, HA, HK1, ⟨m1, rfl⟩⟩ := hrel
      cases gk with
      | zero => exact absurd HA.out (by simp [laws_eqUint32S.l0])
      | succ k1 =>
        have H := HA.out
        clear HA
        simp only [laws_eqUint32S.l0] at H
        by_cases c4 : x5_1 < (l0.length : Int)
        · rw [if_pos c4] at H
          have c4b0 : decide (x5_1 < (l0.length : Int)) = true := decide_eq_true c4
          clear c4
          by_cases c5 : 0 ≤ x5_1
          · rw [if_pos c5] at H
            have c5b0 : decide (0 ≤ x5_1) = true := decide_eq_true c5
            clear c5
            by_cases c6 : x5_1 < (l1.length : Int)
            · rw [if_pos c6] at H
              have c6b0 : decide (x5_1 < (l1.length : Int)) = true := decide_eq_true c6
              clear c6
              by_cases c7 : (rd l0 x5_1) = (rd l1 x5_1)
              · rw [if_pos c7] at H
                have c7b0 : ((rd l0 x5_1) == (rd l1 x5_1)) = true := beq_iff_eq.mpr c7
                have c7b1 : ((rd l0 x5_1) != (rd l1 x5_1)) = false := bne_eq_false_iff_eq.mpr c7
                clear c7
                have H' := Aside0.mk H
                clear H
                have p299 : 0 ≤ (x5_1 : Int) := of_decide_eq_true (by first | (with_reducible assumption) | assumption)
                have q299 : x5_1 < (l0.length : Int) := of_decide_eq_true (by first | (with_reducible assumption) | assumption)
                obtain ⟨ad299, e299, hx299_0⟩ := Kd.at_int HR0.out x5_1 p299 q299
                cases e299
                replace p299 := eq_true p299
                replace q299 := eq_true q299
                have p300 : 0 ≤ (x5_1 : Int) := of_decide_eq_true (by first | (with_reducible assumption) | assumption)
                have q300 : x5_1 < (l1.length : Int) := of_decide_eq_true (by first | (with_reducible assumption) | assumption)
                obtain ⟨ad300, e300, hx300_0⟩ := Kd.at_int HR1.out x5_1 p300 q300
                cases e300
                replace p300 := eq_true p300
                replace q300 := eq_true q300
                go_wp2
                repeat (go_quiet (fail); try go_wp2)
                go_roundg k1
                case measure => have := HK1.out; omega
                case rel => exact ⟨(wrap64 (x5_1 + 1)), (by first | rfl | (simp; done) | (simp [*]; done)), H', ⟨by have := HK1.out; omega⟩, by repeat (first | exact Drawn0.refl _ | apply Drawn0.step)⟩
              · rw [if_neg c7] at H
                have c7b0 : ((rd l0 x5_1) == (rd l1 x5_1)) = false := beq_eq_false_iff_ne.mpr c7
                have c7b1 : ((rd l0 x5_1) != (rd l1 x5_1)) = true := bne_iff_ne.mpr c7
                obtain rfl := Option.some.inj H
                have p299 : 0 ≤ (x5_1 : Int) := of_decide_eq_true (by first | (with_reducible assumption) | assumption)
                have q299 : x5_1 < (l0.length : Int) := of_decide_eq_true (by first | (with_reducible assumption) | assumption)
                obtain ⟨ad299, e299, hx299_0⟩ := Kd.at_int HR0.out x5_1 p299 q299
                cases e299
                replace p299 := eq_true p299
                replace q299 := eq_true q299
                have p300 : 0 ≤ (x5_1 : Int) := of_decide_eq_true (by first | (with_reducible assumption) | assumption)
                have q300 : x5_1 < (l1.length : Int) := of_decide_eq_true (by first | (with_reducible assumption) | assumption)
                obtain ⟨ad300, e300, hx300_0⟩ := Kd.at_int HR1.out x5_1 p300 q300
                cases e300
                replace p300 := eq_true p300
                replace q300 := eq_true q300
                go_wp2
                repeat (go_quiet (fail); try go_wp2)
                go_ret
                exact ⟨by first | rfl | (simp; done) | (simp [*]; done), by repeat (first | exact Drawn0.refl _ | apply Drawn0.step)⟩
            · rw [if_neg c6] at H
              exact absurd H (by simp)
          · rw [if_neg c5] at H
            exact absurd H (by simp)
        · rw [if_neg c4] at H
          have c4b0 : decide (x5_1 < (l0.length : Int)) = false := decide_eq_false c4
          clear c4
          obtain rfl := Option.some.inj H
          go_wp2
          repeat (go_quiet (fail); try go_wp2)
          go_ret
          exact ⟨by first | rfl | (simp; done) | (simp [*]; done), by repeat (first | exact Drawn0.refl _ | apply Drawn0.step)⟩
  · rw [if_neg c3] at H
    have c3b0 : ((l0.length : Int) == (l1.length : Int)) = false := beq_eq_false_iff_ne.mpr c3
    have c3b1 : ((l0.length : Int) != (l1.length : Int)) = true := bne_iff_ne.mpr c3
    have c3b2 : (l0.length == l1.length) = false := by first | simpa using c3 | (simp at c3 ⊢; omega)
    obtain rfl := Option.some.inj H
    go_enter Try.func62, Try.ntmps62
    go_wp2
    repeat (go_quiet (fail); try go_wp2)
    go_ret
    exact ⟨by first | rfl | (simp; done) | (simp [*]; done), by repeat (first | exact Drawn0.refl _ | apply Drawn0.step)⟩
def laws_eqBig.f (k : Nat) (a0_0 : Bool) (l0_1 : List Int) (a1_0 : Bool) (l1_1 : List Int) : Option (Bool) := if (a0_0 != a1_0) = true then (some false) else ((laws_eqUint32S.f k l0_1 l1_1).bind fun t303 => (if t303 = true then (some true) else (some false)))
theorem laws_eqBig.mono : ∀ a0 a1 a2 a3 k, LeO (laws_eqBig.f k a0 a1 a2 a3) (laws_eqBig.f (k + 1) a0 a1 a2 a3) := by
  intro a0 a1 a2 a3 k
  unfold laws_eqBig.f
  repeat' first
      | (with_reducible exact laws_eqUint32S.mono _ _ _)
      | (with_reducible exact LeO.refl _)
      | (with_reducible exact LeO.none _)
      | (with_reducible refine LeO.ite ?_ ?_)
      | (with_reducible refine LeO.bind ?_ (fun _ => ?_))
      | exact laws_eqUint32S.mono _ _ _
      | exact LeO.none _
      | refine LeO.ite ?_ ?_
      | refine LeO.bind ?_ (fun _ => ?_)
set_option maxHeartbeats 8000000 in
set_option maxRecDepth 100000 in
theorem laws_eqBig.calls (k : Nat) (a0_0 : Bool) (A0_1 : Option Addr) (c0_1 : Nat) (l0_1 : List Int) (a1_0 : Bool) (A1_1 : Option Addr) (c1_1 : Nat) (l1_1 : List Int) (r : Bool) (w : World) (hr0_1 : Kd.C (Kd.int .u32) w A0_1 l0_1.length l0_1) (hc0_1 : l0_1.length ≤ c0_1) (hr1_1 : Kd.C (Kd.int .u32) w A1_1 l1_1.length l1_1) (hc1_1 : l1_1.length ≤ c1_1) (h : laws_eqBig.f k a0_0 l0_1 a1_0 l1_1 = some r) :
    Calls Try.prog 27 #[.agg #[.bool a0_0, .slice A0_1 l0_1.length c0_1], .agg #[.bool a1_0, .slice A1_1 l1_1.length c1_1]] w fun e w' => e = .returned (.bool r) ∧ Below w.heap.size w w' := by
  have hu32 := Try.underlying32
  have HR0_1 := Aside0.mk hr0_1
  have HC0_1 := Aside0.mk hc0_1
  clear hr0_1 hc0_1
  have HR1_1 := Aside0.mk hr1_1
  have HC1_1 := Aside0.mk hc1_1
  clear hr1_1 hc1_1
  have HB := Aside0.mk (Below.refl w.heap.size w)
  have H : (if (a0_0 != a1_0) = true then (some false) else ((laws_eqUint32S.f k l0_1 l1_1).bind fun t303 => (if t303 = true then (some true) else (some false)))) = some r := h
  clear h
  by_cases c3 : (a0_0 != a1_0) = true
  · rw [if_pos c3] at H
    have c3b0 : (a0_0 != a1_0) = true := c3
    (try (have c3b1 : decide (a0_0 = a1_0) = false := by simpa using c3))
    (try (have c3b2 : (a0_0 == a1_0) = false := by simpa using c3))
    (try (have c3b3 : ¬ (a0_0 = a1_0) := by simpa using c3))
    clear c3
    obtain rfl := Option.some.inj H
    go_enter Try.func27, Try.ntmps27
    go_wp2_with (first | ((with_reducible refine gate_dst (N := 2) rfl ?_); refine box_event ?hg (N := 2) ?hd (cs := #[.bool a0_0, .slice A0_1 l0_1.length c0_1]) (t := 32) ?hr ?_; (case hd => rfl); (case hg => rfl); (case hr => first | (go_simp; done) | (go_simp; rfl)); intro gb301 hg w4 hbox hb; have n0_ := Aside0.mk (below_step (by repeat (first | (with_reducible first | exact HB.out | apply below_alloc | apply pw_below_drewN | apply below_drew1) | exact HB.out)) hb); have n1_ := Aside0.mk (hbox); have n2_ := Aside0.mk ((by rw [hg]; exact (below_size (by repeat (first | (with_reducible first | exact HB.out | apply below_alloc | apply pw_below_drewN | apply below_drew1) | exact HB.out))) : w.heap.size ≤ gb301)); have n3_ := Aside0.mk ((by rw [hg]; exact (below_size (by repeat (first | (with_reducible first | exact HB.out | apply below_alloc | apply pw_below_drewN | apply below_drew1) | exact HB.out))) : w.heap.size ≤ gb301)); clear HB; have HB := n0_; have BK301 := n1_; have GW301 := n2_; have GE301 := n3_; clear n0_ n1_ n2_ n3_; clear hb hbox hg) | ((with_reducible refine gate_dst (N := 3) rfl ?_); refine box_event ?hg (N := 3) ?hd (cs := #[.bool a1_0, .slice A1_1 l1_1.length c1_1]) (t := 32) ?hr ?_; (case hd => rfl); (case hg => rfl); (case hr => first | (go_simp; done) | (go_simp; rfl)); intro gb302 hg w5 hbox hb; have n0_ := Aside0.mk (blk_below (g := gb301) (o := .cells #[.bool a0_0, .slice A0_1 l0_1.length c0_1] 32 (0, 0)) (by (with_reducible repeat (first | refine blk_drewN ?_ _ | refine blk_drew ?_ | refine blk_alloc ?_ _)); exact BK301.out) hb); have n1_ := Aside0.mk (below_step (by repeat (first | (with_reducible first | exact HB.out | apply below_alloc | apply pw_below_drewN | apply below_drew1 | refine below_set ?_ GE301.out) | exact HB.out)) hb); have n2_ := Aside0.mk (hbox); have n3_ := Aside0.mk ((by rw [hg]; exact (below_size (by repeat (first | (with_reducible first | exact HB.out | apply below_alloc | apply pw_below_drewN | apply below_drew1 | refine below_set ?_ GE301.out) | exact HB.out))) : w.heap.size ≤ gb302)); have n4_ := Aside0.mk ((by rw [hg]; exact (below_size (by repeat (first | (with_reducible first | exact HB.out | apply below_alloc | apply pw_below_drewN | apply below_drew1 | refine below_set ?_ GE301.out) | exact HB.out))) : w.heap.size ≤ gb302)); have n5_ := Aside0.mk ((by rw [hg]; exact Nat.ne_of_lt (blk_lt (g := gb301) (o := .cells #[.bool a0_0, .slice A0_1 l0_1.length c0_1] 32 (0, 0)) (by (with_reducible repeat (first | refine blk_drewN ?_ _ | refine blk_drew ?_ | refine blk_alloc ?_ _)); exact BK301.out)) : gb301 ≠ gb302)); have n6_ := Aside0.mk ((by rw [hg]; exact Nat.ne_of_gt (blk_lt (g := gb301) (o := .cells #[.bool a0_0, .slice A0_1 l0_1.length c0_1] 32 (0, 0)) (by (with_reducible repeat (first | refine blk_drewN ?_ _ | refine blk_drew ?_ | refine blk_alloc ?_ _)); exact BK301.out)) : gb302 ≠ gb301)); clear BK301; clear HB; have BK301 := n0_; have HB := n1_; have BK302 := n2_; have GW302 := n3_; have GE302 := n4_; have NB301_302 := n5_; have NB302_301 := n6_; clear n0_ n1_ n2_ n3_ n4_ n5_ n6_; clear hb hbox hg; have hnb6 := NB301_302.out; have hnc6 := NB302_301.out; have hcz7_0 : w5.cell? ⟨gb301, 0, none⟩ = some (.bool a0_0) := (blk_cell BK301.out 0).trans rfl; have hcz7_1 : w5.cell? ⟨gb301, 1, none⟩ = some (.slice A0_1 l0_1.length c0_1) := (blk_cell BK301.out 1).trans rfl; have hfz7_0 := blk_frozen BK301.out 0; have hfz7_1 := blk_frozen BK301.out 1; have hcz8_0 : w5.cell? ⟨gb302, 0, none⟩ = some (.bool a1_0) := (blk_cell BK302.out 0).trans rfl; have hcz8_1 : w5.cell? ⟨gb302, 1, none⟩ = some (.slice A1_1 l1_1.length c1_1) := (blk_cell BK302.out 1).trans rfl; have hfz8_0 := blk_frozen BK302.out 0; have hfz8_1 := blk_frozen BK302.out 1))
    go_ret
    exact ⟨by first | rfl | (simp [errW_none, errW_some] <;> rfl) | (simp [*, errW_none, errW_some] <;> rfl), by repeat (first | (with_reducible first | exact HB.out | apply below_alloc | apply pw_below_drewN | apply below_drew1 | refine below_set ?_ GE301.out | refine below_set ?_ GE302.out) | exact HB.out)⟩
  · rw [if_neg c3] at H
    have c3b0 : (a0_0 != a1_0) = false := by simpa using c3
    (try (have c3b1 : decide (a0_0 = a1_0) = true := by simpa using c3))
    (try (have c3b2 : (a0_0 == a1_0) = true := by simpa using c3))
    clear c3
    replace H := Option.bind_eq_some_iff.mp H
    obtain ⟨t303, A90, H⟩ := H
    replace H : (if t303 = true then (some true) else (some false)) = some r := H
    have A9 := Aside0.mk A90
    clear A90
    by_cases c10 : t303 = true
    · subst c10
      have H1 : (some true) = some r := by rw [if_pos rfl] at H; exact H
      clear H
      have H := H1
      clear H1
      obtain rfl := Option.some.inj H
      go_enter Try.func27, Try.ntmps27
      go_wp2_with (first | ((with_reducible refine gate_dst (N := 2) rfl ?_); refine box_event ?hg (N := 2) ?hd (cs := #[.bool a0_0, .slice A0_1 l0_1.length c0_1]) (t := 32) ?hr ?_; (case hd => rfl); (case hg => rfl); (case hr => first | (go_simp; done) | (go_simp; rfl)); intro gb301 hg w11 hbox hb; have n0_ := Aside0.mk (below_step (by repeat (first | (with_reducible first | exact HB.out | apply below_alloc | apply pw_below_drewN | apply below_drew1) | exact HB.out)) hb); have n1_ := Aside0.mk (hbox); have n2_ := Aside0.mk ((by rw [hg]; exact (below_size (by repeat (first | (with_reducible first | exact HB.out | apply below_alloc | apply pw_below_drewN | apply below_drew1) | exact HB.out))) : w.heap.size ≤ gb301)); have n3_ := Aside0.mk ((by rw [hg]; exact (below_size (by repeat (first | (with_reducible first | exact HB.out | apply below_alloc | apply pw_below_drewN | apply below_drew1) | exact HB.out))) : w.heap.size ≤ gb301)); clear HB; have HB := n0_; have BK301 := n1_; have GW301 := n2_; have GE301 := n3_; clear n0_ n1_ n2_ n3_; clear hb hbox hg) | ((with_reducible refine gate_dst (N := 3) rfl ?_); refine box_event ?hg (N := 3) ?hd (cs := #[.bool a1_0, .slice A1_1 l1_1.length c1_1]) (t := 32) ?hr ?_; (case hd => rfl); (case hg => rfl); (case hr => first | (go_simp; done) | (go_simp; rfl)); intro gb302 hg w12 hbox hb; have n0_ := Aside0.mk (blk_below (g := gb301) (o := .cells #[.bool a0_0, .slice A0_1 l0_1.length c0_1] 32 (0, 0)) (by (with_reducible repeat (first | refine blk_drewN ?_ _ | refine blk_drew ?_ | refine blk_alloc ?_ _)); exact BK301.out) hb); have n1_ := Aside0.mk (below_step (by repeat (first | (with_reducible first | exact HB.out | apply below_alloc | apply pw_below_drewN | apply below_drew1 | refine below_set ?_ GE301.out) | exact HB.out)) hb); have n2_ := Aside0.mk (hbox); have n3_ := Aside0.mk ((by rw [hg]; exact (below_size (by repeat (first | (with_reducible first | exact HB.out | apply below_alloc | apply pw_below_drewN | apply below_drew1 | refine below_set ?_ GE301.out) | exact HB.out))) : w.heap.size ≤ gb302)); have n4_ := Aside0.mk ((by rw [hg]; exact (below_size (by repeat (first | (with_reducible first | exact HB.out | apply below_alloc | apply pw_below_drewN | apply below_drew1 | refine below_set ?_ GE301.out) | exact HB.out))) : w.heap.size ≤ gb302)); have n5_ := Aside0.mk ((by rw [hg]; exact Nat.ne_of_lt (blk_lt (g := gb301) (o := .cells #[.bool a0_0, .slice A0_1 l0_1.length c0_1] 32 (0, 0)) (by (with_reducible repeat (first | refine blk_drewN ?_ _ | refine blk_drew ?_ | refine blk_alloc ?_ _)); exact BK301.out)) : gb301 ≠ gb302)); have n6_ := Aside0.mk ((by rw [hg]; exact Nat.ne_of_gt (blk_lt (g := gb301) (o := .cells #[.bool a0_0, .slice A0_1 l0_1.length c0_1] 32 (0, 0)) (by (with_reducible repeat (first | refine blk_drewN ?_ _ | refine blk_drew ?_ | refine blk_alloc ?_ _)); exact BK301.out)) : gb302 ≠ gb301)); clear BK301; clear HB; have BK301 := n0_; have HB := n1_; have BK302 := n2_; have GW302 := n3_; have GE302 := n4_; have NB301_302 := n5_; have NB302_301 := n6_; clear n0_ n1_ n2_ n3_ n4_ n5_ n6_; clear hb hbox hg; have hnb13 := NB301_302.out; have hnc13 := NB302_301.out; have hcz14_0 : w12.cell? ⟨gb301, 0, none⟩ = some (.bool a0_0) := (blk_cell BK301.out 0).trans rfl; have hcz14_1 : w12.cell? ⟨gb301, 1, none⟩ = some (.slice A0_1 l0_1.length c0_1) := (blk_cell BK301.out 1).trans rfl; have hfz14_0 := blk_frozen BK301.out 0; have hfz14_1 := blk_frozen BK301.out 1; have hcz15_0 : w12.cell? ⟨gb302, 0, none⟩ = some (.bool a1_0) := (blk_cell BK302.out 0).trans rfl; have hcz15_1 : w12.cell? ⟨gb302, 1, none⟩ = some (.slice A1_1 l1_1.length c1_1) := (blk_cell BK302.out 1).trans rfl; have hfz15_0 := blk_frozen BK302.out 0; have hfz15_1 := blk_frozen BK302.out 1) | ((with_reducible refine gate_callee (f := 62) rfl ?_); refine goesL_ (some 14) rfl rfl Try.func62 (by kernel_rfl) rfl #[.slice A0_1 l0_1.length c0_1, .slice A1_1 l1_1.length c1_1] rfl (by (try simp only [List.map_toArray, List.map_cons, List.map_nil]); first | done | rfl | (simp only [List.length_drop, List.length_take]; rfl)) ?_; (with_reducible refine (laws_eqUint32S.calls k _ _ l0_1 _ _ l1_1 true _ ?side1 ?side2 ?side3 ?side4 A9.out).mono ?_); (case side1 => repeat (first | exact (Kd.C_below HR0_1.out HB.out) | (with_reducible refine Kd.C_alloc ?_ _) | (with_reducible refine Kd.C_drewN ?_ _) | (with_reducible refine Kd.C_drew ?_))); (case side2 => exact HC0_1.out); (case side3 => repeat (first | exact (Kd.C_below HR1_1.out HB.out) | (with_reducible refine Kd.C_alloc ?_ _) | (with_reducible refine Kd.C_drewN ?_ _) | (with_reducible refine Kd.C_drew ?_))); (case side4 => exact HC1_1.out); rintro e w' ⟨rfl, ⟨nd, rfl⟩⟩; refine ⟨_, rfl, ?_⟩))
      go_ret
      exact ⟨by first | rfl | (simp [errW_none, errW_some] <;> rfl) | (simp [*, errW_none, errW_some] <;> rfl), by repeat (first | (with_reducible first | exact HB.out | apply below_alloc | apply pw_below_drewN | apply below_drew1 | refine below_set ?_ GE301.out | refine below_set ?_ GE302.out) | exact HB.out)⟩
    · replace c10 := Bool.eq_false_iff.mpr c10
      subst c10
      have H1 : (some false) = some r := by rw [if_neg (show ¬ (false = true) by decide)] at H; exact H
      clear H
      have H := H1
      clear H1
      obtain rfl := Option.some.inj H
      go_enter Try.func27, Try.ntmps27
      go_wp2_with (first | ((with_reducible refine gate_dst (N := 2) rfl ?_); refine box_event ?hg (N := 2) ?hd (cs := #[.bool a0_0, .slice A0_1 l0_1.length c0_1]) (t := 32) ?hr ?_; (case hd => rfl); (case hg => rfl); (case hr => first | (go_simp; done) | (go_simp; rfl)); intro gb301 hg w16 hbox hb; have n0_ := Aside0.mk (below_step (by repeat (first | (with_reducible first | exact HB.out | apply below_alloc | apply pw_below_drewN | apply below_drew1) | exact HB.out)) hb); have n1_ := Aside0.mk (hbox); have n2_ := Aside0.mk ((by rw [hg]; exact (below_size (by repeat (first | (with_reducible first | exact HB.out | apply below_alloc | apply pw_below_drewN | apply below_drew1) | exact HB.out))) : w.heap.size ≤ gb301)); have n3_ := Aside0.mk ((by rw [hg]; exact (below_size (by repeat (first | (with_reducible first | exact HB.out | apply below_alloc | apply pw_below_drewN | apply below_drew1) | exact HB.out))) : w.heap.size ≤ gb301)); clear HB; have HB := n0_; have BK301 := n1_; have GW301 := n2_; have GE301 := n3_; clear n0_ n1_ n2_ n3_; clear hb hbox hg) | ((with_reducible refine gate_dst (N := 3) rfl ?_); refine box_event ?hg (N := 3) ?hd (cs := #[.bool a1_0, .slice A1_1 l1_1.length c1_1]) (t := 32) ?hr ?_; (case hd => rfl); (case hg => rfl); (case hr => first | (go_simp; done) | (go_simp; rfl)); intro gb302 hg w17 hbox hb; have n0_ := Aside0.mk (blk_below (g := gb301) (o := .cells #[.bool a0_0, .slice A0_1 l0_1.length c0_1] 32 (0, 0)) (by (with_reducible repeat (first | refine blk_drewN ?_ _ | refine blk_drew ?_ | refine blk_alloc ?_ _)); exact BK301.out) hb); have n1_ := Aside0.mk (below_step (by repeat (first | (with_reducible first | exact HB.out | apply below_alloc | apply pw_below_drewN | apply below_drew1 | refine below_set ?_ GE301.out) | exact HB.out)) hb); have n2_ := Aside0.mk (hbox); have n3_ := Aside0.mk ((by rw [hg]; exact (below_size (by repeat (first | (with_reducible first | exact HB.out | apply below_alloc | apply pw_below_drewN | apply below_drew1 | refine below_set ?_ GE301.out) | exact HB.out))) : w.heap.size ≤ gb302)); have n4_ := Aside0.mk ((by rw [hg]; exact (below_size (by repeat (first | (with_reducible first | exact HB.out | apply below_alloc | apply pw_below_drewN | apply below_drew1 | refine below_set ?_ GE301.out) | exact HB.out))) : w.heap.size ≤ gb302)); have n5_ := Aside0.mk ((by rw [hg]; exact Nat.ne_of_lt (blk_lt (g := gb301) (o := .cells #[.bool a0_0, .slice A0_1 l0_1.length c0_1] 32 (0, 0)) (by (with_reducible repeat (first | refine blk_drewN ?_ _ | refine blk_drew ?_ | refine blk_alloc ?_ _)); exact BK301.out)) : gb301 ≠ gb302)); have n6_ := Aside0.mk ((by rw [hg]; exact Nat.ne_of_gt (blk_lt (g := gb301) (o := .cells #[.bool a0_0, .slice A0_1 l0_1.length c0_1] 32 (0, 0)) (by (with_reducible repeat (first | refine blk_drewN ?_ _ | refine blk_drew ?_ | refine blk_alloc ?_ _)); exact BK301.out)) : gb302 ≠ gb301)); clear BK301; clear HB; have BK301 := n0_; have HB := n1_; have BK302 := n2_; have GW302 := n3_; have GE302 := n4_; have NB301_302 := n5_; have NB302_301 := n6_; clear n0_ n1_ n2_ n3_ n4_ n5_ n6_; clear hb hbox hg; have hnb18 := NB301_302.out; have hnc18 := NB302_301.out; have hcz19_0 : w17.cell? ⟨gb301, 0, none⟩ = some (.bool a0_0) := (blk_cell BK301.out 0).trans rfl; have hcz19_1 : w17.cell? ⟨gb301, 1, none⟩ = some (.slice A0_1 l0_1.length c0_1) := (blk_cell BK301.out 1).trans rfl; have hfz19_0 := blk_frozen BK301.out 0; have hfz19_1 := blk_frozen BK301.out 1; have hcz20_0 : w17.cell? ⟨gb302, 0, none⟩ = some (.bool a1_0) := (blk_cell BK302.out 0).trans rfl; have hcz20_1 : w17.cell? ⟨gb302, 1, none⟩ = some (.slice A1_1 l1_1.length c1_1) := (blk_cell BK302.out 1).trans rfl; have hfz20_0 := blk_frozen BK302.out 0; have hfz20_1 := blk_frozen BK302.out 1) | ((with_reducible refine gate_callee (f := 62) rfl ?_); refine goesL_ (some 14) rfl rfl Try.func62 (by kernel_rfl) rfl #[.slice A0_1 l0_1.length c0_1, .slice A1_1 l1_1.length c1_1] rfl (by (try simp only [List.map_toArray, List.map_cons, List.map_nil]); first | done | rfl | (simp only [List.length_drop, List.length_take]; rfl)) ?_; (with_reducible refine (laws_eqUint32S.calls k _ _ l0_1 _ _ l1_1 false _ ?side1 ?side2 ?side3 ?side4 A9.out).mono ?_); (case side1 => repeat (first | exact (Kd.C_below HR0_1.out HB.out) | (with_reducible refine Kd.C_alloc ?_ _) | (with_reducible refine Kd.C_drewN ?_ _) | (with_reducible refine Kd.C_drew ?_))); (case side2 => exact HC0_1.out); (case side3 => repeat (first | exact (Kd.C_below HR1_1.out HB.out) | (with_reducible refine Kd.C_alloc ?_ _) | (with_reducible refine Kd.C_drewN ?_ _) | (with_reducible refine Kd.C_drew ?_))); (case side4 => exact HC1_1.out); rintro e w' ⟨rfl, ⟨nd, rfl⟩⟩; refine ⟨_, rfl, ?_⟩))
      go_ret
      exact ⟨by first | rfl | (simp [errW_none, errW_some] <;> rfl) | (simp [*, errW_none, errW_some] <;> rfl), by repeat (first | (with_reducible first | exact HB.out | apply below_alloc | apply pw_below_drewN | apply below_drew1 | refine below_set ?_ GE301.out | refine below_set ?_ GE302.out) | exact HB.out)⟩
end Go.Proofs.Ytagfphlhahiplaa.PFnExactFormatCore
namespace Go.Proofs.Ytagfphlhahiplaa.PFnExactFormatCore
open Go.RowKit Go.Proofs.YtagfphlhahiplaaW.PrintWords Go.Proofs.YtagfphlhahiplaaW.PrintLast Go.Proofs.YtagfphlhahiplaaW.PrintMore
set_option linter.unusedVariables false
set_option linter.unusedSimpArgs false
def laws_eqStringS.l0 : Nat → List ByteArray → List ByteArray → Int → Option (Bool)
  | 0, _, _, _ => none
  | k + 1, x0, x1, x5 => if x5 < (x0.length : Int) then (if 0 ≤ x5 then (if x5 < (x1.length : Int) then (if (rdOf ByteArray.empty x0 x5).toList = (rdOf ByteArray.empty x1 x5).toList then (laws_eqStringS.l0 k x0 x1 (wrap64 (x5 + 1))) else (some false)) else (none)) else (none)) else (some true)
def laws_eqStringS.f (k : Nat) (l0 : List ByteArray) (l1 : List ByteArray) : Option (Bool) := if (l0.length : Int) = (l1.length : Int) then (laws_eqStringS.l0 k l0 l1 0) else (some false)
theorem laws_eqStringS.mono_l : ∀ k, (∀ y0 y1 y2, LeO (laws_eqStringS.l0 k y0 y1 y2) (laws_eqStringS.l0 (k + 1) y0 y1 y2))
  | 0 => fun _ _ _ r h => by simp [laws_eqStringS.l0] at h
  | k + 1 => by
    have ih0 := laws_eqStringS.mono_l k
    · intro y0 y1 y2
      unfold laws_eqStringS.l0
      repeat' first
      | (with_reducible exact ih0 _ _ _)
      | (with_reducible exact LeO.refl _)
      | (with_reducible exact LeO.none _)
      | (with_reducible refine LeO.ite ?_ ?_)
      | (with_reducible refine LeO.bind ?_ (fun _ => ?_))
      | exact ih0 _ _ _
      | exact LeO.none _
      | refine LeO.ite ?_ ?_
      | refine LeO.bind ?_ (fun _ => ?_)
theorem laws_eqStringS.mono : ∀ a0 a1 k, LeO (laws_eqStringS.f k a0 a1) (laws_eqStringS.f (k + 1) a0 a1) := by
  intro a0 a1 k
  have ih0 := laws_eqStringS.mono_l k
  unfold laws_eqStringS.f
  repeat' first
      | (with_reducible exact ih0 _ _ _)
      | (with_reducible exact LeO.refl _)
      | (with_reducible exact LeO.none _)
      | (with_reducible refine LeO.ite ?_ ?_)
      | (with_reducible refine LeO.bind ?_ (fun _ => ?_))
      | exact ih0 _ _ _
      | exact LeO.none _
      | refine LeO.ite ?_ ?_
      | refine LeO.bind ?_ (fun _ => ?_)
set_option maxHeartbeats 8000000 in
set_option maxRecDepth 100000 in
theorem laws_eqStringS.calls (k : Nat) (A0 : Option Addr) (c0 : Nat) (l0 : List ByteArray) (A1 : Option Addr) (c1 : Nat) (l1 : List ByteArray) (r : Bool) (w : World) (hr0 : Kd.C Kd.string w A0 l0.length l0) (hc0 : l0.length ≤ c0) (hr1 : Kd.C Kd.string w A1 l1.length l1) (hc1 : l1.length ≤ c1) (h : laws_eqStringS.f k l0 l1 = some r) :
    Calls Try.prog 28 #[.slice A0 l0.length c0, .slice A1 l1.length c1] w fun e w' => e = .returned (.bool r) ∧ Drawn0 w w' := by
  have HR0 := Aside0.mk hr0
  have HC0 := Aside0.mk hc0
  clear hr0 hc0
  have HR1 := Aside0.mk hr1
  have HC1 := Aside0.mk hc1
  clear hr1 hc1
  have H : (if (l0.length : Int) = (l1.length : Int) then (laws_eqStringS.l0 k l0 l1 0) else (some false)) = some r := h
  clear h
  by_cases c3 : (l0.length : Int) = (l1.length : Int)
  · rw [if_pos c3] at H
    have c3b0 : ((l0.length : Int) == (l1.length : Int)) = true := beq_iff_eq.mpr c3
    have c3b1 : ((l0.length : Int) != (l1.length : Int)) = false := bne_eq_false_iff_eq.mpr c3
    have c3b2 : (l0.length == l1.length) = true := by first | simpa using c3 | (simp at c3 ⊢; omega)
    clear c3
    have H' := Aside0.mk H
    clear H
    go_enter Try.func28, Try.ntmps28
    go_wp2
    repeat (go_quiet (fail); try go_wp2)
    go_loopg [5] k (fun kq v5 w' => ∃ (x5_1 : Int), v5 = .int .i64 x5_1 ∧ Aside0 (laws_eqStringS.l0 kq l0 l1 x5_1 = some r) ∧ Aside0 (kq ≤ k) ∧ Drawn0 w w')
    case atStart => exact ⟨(0), (by first | rfl | (simp; done) | (simp [*]; done)), H', ⟨Nat.le_refl _⟩, by repeat (first | exact Drawn0.refl _ | apply Drawn0.step)⟩
    case round =>
      clear H'
      try clear c1
      try clear c2
      try clear p2
      try clear c3
      try clear c3b0
      try clear c3b1
      try clear c3b2
      obtain ⟨x5_1, rfl, HA, HK1, ⟨m1, rfl⟩⟩ := hrel
      cases gk with
      | zero => exact absurd HA.out (by simp [laws_eqStringS.l0])
      | succ k1 =>
        have H := HA.out
        clear HA
        simp only [laws_eqStringS.l0] at H
        by_cases c4 : x5_1 < (l0.length : Int)
        · rw [if_pos c4] at H
          have c4b0 : decide (x5_1 < (l0.length : Int)) = true := decide_eq_true c4
          clear c4
          by_cases c5 : 0 ≤ x5_1
          · rw [if_pos c5] at H
            have c5b0 : decide (0 ≤ x5_1) = true := decide_eq_true c5
            clear c5
            by_cases c6 : x5_1 < (l1.length : Int)
            · rw [if_pos c6] at H
              have c6b0 : decide (x5_1 < (l1.length : Int)) = true := decide_eq_true c6
              clear c6
              by_cases c7 : (rdOf ByteArray.empty l0 x5_1).toList = (rdOf ByteArray.empty l1 x5_1).toList
              · rw [if_pos c7] at H
                have c7b0 : ((rdOf ByteArray.empty l0 x5_1).toList == (rdOf ByteArray.empty l1 x5_1).toList) = true := beq_iff_eq.mpr c7
                have c7b1 : ((rdOf ByteArray.empty l0 x5_1).toList != (rdOf ByteArray.empty l1 x5_1).toList) = false := bne_eq_false_iff_eq.mpr c7
                clear c7
                have H' := Aside0.mk H
                clear H
                have p304 : 0 ≤ (x5_1 : Int) := of_decide_eq_true (by first | (with_reducible assumption) | assumption)
                have q304 : x5_1 < (l0.length : Int) := of_decide_eq_true (by first | (with_reducible assumption) | assumption)
                obtain ⟨ad304, e304, hx304_0⟩ := Kd.at_string HR0.out x5_1 p304 q304
                cases e304
                replace p304 := eq_true p304
                replace q304 := eq_true q304
                have p305 : 0 ≤ (x5_1 : Int) := of_decide_eq_true (by first | (with_reducible assumption) | assumption)
                have q305 : x5_1 < (l1.length : Int) := of_decide_eq_true (by first | (with_reducible assumption) | assumption)
                obtain ⟨ad305, e305, hx305_0⟩ := Kd.at_string HR1.out x5_1 p305 q305
                cases e305
                replace p305 := eq_true p305
                replace q305 := eq_true q305
                go_wp2
                repeat (go_quiet (fail); try go_wp2)
                go_roundg k1
                case measure => have := HK1.out; omega
                case rel => exact ⟨(wrap64 (x5_1 + 1)), (by first | rfl | (simp; done) | (simp [*]; done)), H', ⟨by have := HK1.out; omega⟩, by repeat (first | exact Drawn0.refl _ | apply Drawn0.step)⟩
              · rw [if_neg c7] at H
                have c7b0 : ((rdOf ByteArray.empty l0 x5_1).toList == (rdOf ByteArray.empty l1 x5_1).toList) = false := beq_eq_false_iff_ne.mpr c7
                have c7b1 : ((rdOf ByteArray.empty l0 x5_1).toList != (rdOf ByteArray.empty l1 x5_1).toList) = true := bne_iff_ne.mpr c7
                obtain rfl := Option.some.inj H
                have p304 : 0 ≤ (x5_1 : Int) := of_decide_eq_true (by first | (with_reducible assumption) | assumption)
                have q304 : x5_1 < (l0.length : Int) := of_decide_eq_true (by first | (with_reducible assumption) | assumption)
                obtain ⟨ad304, e304, hx304_0⟩ := Kd.at_string HR0.out x5_1 p304 q304
                cases e304
                replace p304 := eq_true p304
                replace q304 := eq_true q304
                have p305 : 0 ≤ (x5_1 : Int) := of_decide_eq_true (by first | (with_reducible assumption) | assumption)
                have q305 : x5_1 < (l1.length : Int) := of_decide_eq_true (by first | (with_reducible assumption) | assumption)
                obtain ⟨ad305, e305, hx305_0⟩ := Kd.at_string HR1.out x5_1 p305 q305
                cases e305
                replace p305 := eq_true p305
                replace q305 := eq_true q305
                go_wp2
                repeat (go_quiet (fail); try go_wp2)
                go_ret
                exact ⟨by first | rfl | (simp; done) | (simp [*]; done), by repeat (first | exact Drawn0.refl _ | apply Drawn0.step)⟩
            · rw [if_neg c6] at H
              exact absurd H (by simp)
          · rw [if_neg c5] at H
            exact absurd H (by simp)
        · rw [if_neg c4] at H
          have c4b0 : decide (x5_1 < (l0.length : Int)) = false := decide_eq_false c4
          clear c4
          obtain rfl := Option.some.inj H
          go_wp2
          repeat (go_quiet (fail); try go_wp2)
          go_ret
          exact ⟨by first | rfl | (simp; done) | (simp [*]; done), by repeat (first | exact Drawn0.refl _ | apply Drawn0.step)⟩
  · rw [if_neg c3] at H
    have c3b0 : ((l0.length : Int) == (l1.length : Int)) = false := beq_eq_false_iff_ne.mpr c3
    have c3b1 : ((l0.length : Int) != (l1.length : Int)) = true := bne_iff_ne.mpr c3
    have c3b2 : (l0.length == l1.length) = false := by first | simpa using c3 | (simp at c3 ⊢; omega)
    obtain rfl := Option.some.inj H
    go_enter Try.func28, Try.ntmps28
    go_wp2
    repeat (go_quiet (fail); try go_wp2)
    go_ret
    exact ⟨by first | rfl | (simp; done) | (simp [*]; done), by repeat (first | exact Drawn0.refl _ | apply Drawn0.step)⟩
end Go.Proofs.Ytagfphlhahiplaa.PFnExactFormatCore
namespace Go.Proofs.Ytagfphlhahiplaa.PFnExactFormatCore
open Go.RowKit Go.Proofs.YtagfphlhahiplaaW.PrintWords Go.Proofs.YtagfphlhahiplaaW.PrintLast Go.Proofs.YtagfphlhahiplaaW.PrintMore
set_option linter.unusedVariables false
set_option linter.unusedSimpArgs false
end Go.Proofs.Ytagfphlhahiplaa.PFnExactFormatCore
namespace Go.Proofs.Ytagfphlhahiplaa.C13
open Go.RowKit Go.Proofs.YtagfphlhahiplaaW.PrintWords
set_option linter.unusedVariables false
structure AltD (α : Type) where
  con : ByteArray
  names : List ByteArray
  body : α
structure CoreT where
  kind : Int
  name : ByteArray
  minus : Bool
  limbs : List Int
  names : List ByteArray
  kids : List CoreT
  alts : List (AltD CoreT)
abbrev AltT := AltD CoreT
theorem kid_lt (c x : CoreT) (h : x ∈ c.kids) : SizeOf.sizeOf x < SizeOf.sizeOf c := by
  cases c; simp at *; have := List.sizeOf_lt_of_mem h; omega
theorem alt_lt (c : CoreT) (a : AltT) (h : a ∈ c.alts) : SizeOf.sizeOf a.body < SizeOf.sizeOf c := by
  cases c; cases a; simp at *; have := List.sizeOf_lt_of_mem h; simp at this; omega
theorem coreInd (P : CoreT → Prop) (h : ∀ c : CoreT, (∀ x ∈ c.kids, P x) → (∀ a ∈ c.alts, P a.body) → P c) : ∀ c, P c := by
  intro c
  generalize hn : SizeOf.sizeOf c = n
  induction n using Nat.strongRecOn generalizing c with
  | _ n ih =>
    subst hn
    exact h c (fun x hx => ih _ (kid_lt c x hx) x rfl) (fun a ha => ih _ (alt_lt c a ha) a.body rfl)
def kAlt (d : Kd CoreT) : Kd AltT := Kd.iso (Kd.pair Kd.string (Kd.pair (Kd.slice 9 Kd.string) d)) (fun a : AltT => (a.con, a.names, a.body))
def fCore (e ea : Nat) (d : Kd CoreT) : Kd CoreT :=
  Kd.iso (Kd.pair (Kd.int .i64) (Kd.pair Kd.string (Kd.pair Kd.bool (Kd.pair (Kd.slice 108 (Kd.int .u32)) (Kd.pair (Kd.slice 9 Kd.string) (Kd.pair (Kd.slice e d) (Kd.slice ea (kAlt d))))))))
    (fun x : CoreT => (x.kind, x.name, x.minus, x.limbs, x.names, x.kids, x.alts))
def eCore (e ea : Nat) : List Nat := [9, 108, e, ea]
theorem mono_kAlt : Kd.Mono kAlt := Kd.mono_iso _ (Kd.mono_pair (Kd.mono_const _) (Kd.mono_pair (Kd.mono_const _) Kd.mono_id))
theorem mono_core (e ea : Nat) : Kd.Mono (fCore e ea) :=
  Kd.mono_iso _ (Kd.mono_pair (Kd.mono_const _) (Kd.mono_pair (Kd.mono_const _) (Kd.mono_pair (Kd.mono_const _) (Kd.mono_pair (Kd.mono_const _) (Kd.mono_pair (Kd.mono_const _) (Kd.mono_pair (Kd.mono_slice e Kd.mono_id) (Kd.mono_slice ea mono_kAlt)))))))
theorem sub_kAlt {E : List Nat} (h : 9 ∈ E) : Kd.Sub kAlt E :=
  Kd.sub_iso _ (Kd.sub_pair (Kd.sub_const _ (by intro q hq; cases hq)) (Kd.sub_pair (Kd.sub_const _ (by intro q hq; simp [Kd.slice, Kd.string, Kd.scalar] at hq; subst hq; exact h)) Kd.sub_id))
theorem sub_core (e ea : Nat) : Kd.Sub (fCore e ea) (eCore e ea) := by
  refine Kd.sub_iso _ (Kd.sub_pair (Kd.sub_const _ ?_) (Kd.sub_pair (Kd.sub_const _ ?_) (Kd.sub_pair (Kd.sub_const _ ?_) (Kd.sub_pair (Kd.sub_const _ ?_) (Kd.sub_pair (Kd.sub_const _ ?_) (Kd.sub_pair (Kd.sub_slice e ?_ Kd.sub_id) (Kd.sub_slice ea ?_ (sub_kAlt ?_))))))))
  all_goals simp [eCore, Kd.slice, Kd.string, Kd.scalar, Kd.int, Kd.bool]
theorem sz_core (e ea : Nat) : ∀ n, (Kd.upto (fCore e ea) 7 (eCore e ea) n).sz = 7 := Kd.upto_sz (fun _ => rfl)
/-- A core term. -/
def kCore (e ea : Nat) : Kd CoreT := Kd.fix (fCore e ea) 7 (eCore e ea) (sz_core e ea) (Kd.upto_E (sub_core e ea))
/-- An alternative. -/
def kAltC (e ea : Nat) : Kd AltT := kAlt (kCore e ea)
/-- a core term's seven cells -/
def cellsC (x : CoreT) (A3 : Option Addr) (c3 : Nat) (A4 : Option Addr) (c4 : Nat) (A5 : Option Addr) (c5 : Nat) (A6 : Option Addr) (c6 : Nat) : List Value :=
  [.int .i64 x.kind, .string x.name, .bool x.minus, .slice A3 x.limbs.length c3, .slice A4 x.names.length c4, .slice A5 x.kids.length c5, .slice A6 x.alts.length c6]
section
variable {e ea : Nat} {w : World}
theorem altC_imp {n : Nat} {A : Option Addr} {m : Nat} {xs : List AltT} (h : (kAlt (Kd.upto (fCore e ea) 7 (eCore e ea) n)).C w A m xs) : (kAltC e ea).C w A m xs :=
  Kd.C_imp (d' := kAltC e ea) (mono_kAlt.sz _ _ (sz_core e ea n)) (mono_kAlt.K _ _ (sz_core e ea n) (fun w x cs hp => (⟨n, hp⟩ : ∃ n, (Kd.upto (fCore e ea) 7 (eCore e ea) n).K w x cs))) h
/-- what a core term's cells read as, opened -/
theorem core_open {x : CoreT} {cs : List Value} (h : (kCore e ea).K w x cs) : ∃ A3 c3 A4 c4 A5 c5 A6 c6, cs = cellsC x A3 c3 A4 c4 A5 c5 A6 c6 ∧
    x.limbs.length ≤ c3 ∧ (Kd.int .u32).C w A3 x.limbs.length x.limbs ∧ x.names.length ≤ c4 ∧ Kd.string.C w A4 x.names.length x.names ∧
    x.kids.length ≤ c5 ∧ (kCore e ea).C w A5 x.kids.length x.kids ∧ x.alts.length ≤ c6 ∧ (kAltC e ea).C w A6 x.alts.length x.alts := by
  obtain ⟨n, h⟩ := h
  cases n with
  | zero => exact h.elim
  | succ n =>
    obtain ⟨_, _, rfl, rfl, ⟨_, _, rfl, rfl, ⟨_, _, rfl, rfl, ⟨_, _, rfl, ⟨A3, c3, rfl, l3, g3⟩, ⟨_, _, rfl, ⟨A4, c4, rfl, l4, g4⟩, ⟨_, _, rfl, ⟨A5, c5, rfl, l5, g5⟩, ⟨A6, c6, rfl, l6, g6⟩⟩⟩⟩⟩⟩⟩ := h
    exact ⟨A3, c3, A4, c4, A5, c5, A6, c6, rfl, l3, g3, l4, g4, l5, Kd.fix_C g5, l6, altC_imp g6⟩
theorem alt_open {a : AltT} {cs : List Value} (h : (kAltC e ea).K w a cs) : ∃ A1 c1 cb, cs = .string a.con :: .slice A1 a.names.length c1 :: cb ∧ a.names.length ≤ c1 ∧ Kd.string.C w A1 a.names.length a.names ∧ (kCore e ea).K w a.body cb := by
  obtain ⟨_, _, rfl, rfl, ⟨_, _, rfl, ⟨A1, c1, rfl, l1, g1⟩, hb⟩⟩ := h
  exact ⟨A1, c1, _, rfl, l1, g1, hb⟩
end
end Go.Proofs.Ytagfphlhahiplaa.C13
namespace Go.Proofs.Ytagfphlhahiplaa.C13
open Go.RowKit Go.Proofs.YtagfphlhahiplaaW.PrintWords Go.Proofs.Ytagfphlhahiplaa.PFnExactFormatCore
set_option linter.unusedVariables false
/-- what is left of a number of places, -1 where there are too few -/
def cut (n : Nat) (left : Int) : Int := if left < n then -1 else left - n
theorem cut_range (n : Nat) {left : Int} (h : left ≤ 1048576) : -1 ≤ cut n left ∧ cut n left ≤ 1048576 := by
  unfold cut; split <;> omega
theorem cut_neg {n : Nat} {left : Int} (h : left < n) : cut n left = -1 := if_pos h
theorem cut_pos {n : Nat} {left : Int} (h : ¬ left < n) : cut n left = left - n := if_neg h
theorem cut_lt {n : Nat} {left : Int} (h0 : 0 ≤ left) : cut n left < 0 ↔ left < n := by
  unfold cut; split <;> omega
theorem cut_add (n m : Nat) {left : Int} (h0 : 0 ≤ left) : cut (n + m) left = if cut n left < 0 then -1 else cut m (cut n left) := by
  unfold cut
  split <;> split <;> (try split) <;> first | rfl | omega | (rename_i h; split at h <;> omega) | skip
  all_goals (repeat' split) <;> omega
def strsB : List ByteArray → Nat
  | [] => 0
  | s :: r => s.size + 1 + strsB r
def sizes : List ByteArray → Nat
  | [] => 0
  | s :: r => s.size + sizes r
theorem strsB_eq (l : List ByteArray) : strsB l = l.length + sizes l := by
  induction l with
  | nil => rfl
  | cons s r ih => simp [strsB, sizes, ih]; omega
theorem wrap64_of {x : Int} (h : -9223372036854775808 ≤ x) (h' : x ≤ 9223372036854775807) : wrap64 x = x := by
  unfold wrap64; omega
theorem szUint32S_eq (l : List Int) (left : Int) (h0 : 0 ≤ left) (h1 : left ≤ 1048576) (hl : l.length ≤ 9223372036854775807) : laws_szUint32S.f l left = some (cut l.length left) := by
  unfold laws_szUint32S.f cut
  rw [wrap64_of (by omega) (by omega)]
  by_cases h : left < (l.length : Int)
  · rw [if_pos (by omega), if_pos h]
  · rw [if_neg (by omega), if_neg h]
theorem szBig_eq (m : Bool) (l : List Int) (left : Int) (h0 : 0 ≤ left) (h1 : left ≤ 1048576) (hl : l.length ≤ 9223372036854775807) : laws_szBig.f m l left = some (cut l.length left) := by
  unfold laws_szBig.f
  rw [szUint32S_eq l left h0 h1 hl]
  simp only [Option.bind_some]
  split
  · rename_i h; rw [cut_lt h0] at h; rw [cut_neg h]
  · rfl
theorem szStringS_l0 (l : List ByteArray) (hs : ∀ s ∈ l, s.size ≤ 9223372036854775807) : ∀ (d k i : Nat) (left : Int), l.length - i = d → i ≤ l.length → d < k → 0 ≤ left → left ≤ 1048576 → l.length ≤ 9223372036854775807 →
    laws_szStringS.l0 k l left i = some (cut (sizes (l.drop i)) left) := by
  intro d
  induction d with
  | zero =>
    intro k i left hd hi hk h0 h1 hl
    obtain ⟨k, rfl⟩ : ∃ m, k = m + 1 := ⟨k - 1, by omega⟩
    simp only [laws_szStringS.l0]
    rw [if_neg (by omega), List.drop_eq_nil_of_le (by omega), sizes, cut_pos (by omega)]
    simp
  | succ d ih =>
    intro k i left hd hi hk h0 h1 hl
    obtain ⟨k, rfl⟩ : ∃ m, k = m + 1 := ⟨k - 1, by omega⟩
    have hlt : i < l.length := by omega
    simp only [laws_szStringS.l0]
    have he : rdOf ByteArray.empty l (i : Int) = l[i] := by simp [rdOf, List.getD_eq_getElem?_getD, hlt]
    have hsz := hs l[i] (List.getElem_mem hlt)
    rw [if_pos (by omega), if_pos (by omega), he, List.drop_eq_getElem_cons hlt, sizes, wrap64_of (by omega) (by omega), cut_add _ _ h0]
    by_cases hc : left < (l[i].size : Int)
    · rw [if_pos (by omega), if_pos (by rw [cut_lt h0]; exact hc)]
    · rw [if_neg (by omega), if_neg (by rw [cut_lt h0]; exact hc), cut_pos hc, wrap64_of (by omega) (by omega)]
      exact ih k (i + 1) _ (by omega) (by omega) (by omega) (by omega) (by omega) hl
theorem szStringS_eq (l : List ByteArray) (left : Int) (hs : ∀ s ∈ l, s.size ≤ 9223372036854775807) (h0 : 0 ≤ left) (h1 : left ≤ 1048576) (hl : l.length ≤ 9223372036854775807) : ∃ k, laws_szStringS.f k l left = some (cut (strsB l) left) := by
  refine ⟨l.length + 1, ?_⟩
  unfold laws_szStringS.f
  rw [wrap64_of (by omega) (by omega), strsB_eq, cut_add _ _ h0]
  by_cases hc : left < (l.length : Int)
  · rw [if_pos (by omega), if_pos (by rw [cut_lt h0]; exact hc)]
  · rw [if_neg (by omega), if_neg (by rw [cut_lt h0]; exact hc), cut_pos hc]
    exact szStringS_l0 l hs l.length (l.length + 1) 0 _ (by omega) (by omega) (by omega) (by omega) (by omega) hl
end Go.Proofs.Ytagfphlhahiplaa.C13
namespace Go.Proofs.Ytagfphlhahiplaa.C13
open Go.RowKit Go.Proofs.YtagfphlhahiplaaW.PrintWords Go.Proofs.Ytagfphlhahiplaa.PFnExactFormatCore
set_option linter.unusedVariables false
set_option linter.unusedSimpArgs false
mutual
def bulk : CoreT → Nat
  | ⟨_, name, _, limbs, names, kids, alts⟩ => name.size + (limbs.length + (strsB names + (bulks kids + abulks alts)))
def bulks : List CoreT → Nat
  | [] => 0
  | c :: r => 1 + bulk c + bulks r
def abulks : List AltT → Nat
  | [] => 0
  | a :: r => 1 + abulk a + abulks r
def abulk : AltT → Nat
  | ⟨con, ns, b⟩ => con.size + (strsB ns + bulk b)
end
theorem bulk_eq (c : CoreT) : bulk c = c.name.size + (c.limbs.length + (strsB c.names + (bulks c.kids + abulks c.alts))) := by cases c; rw [bulk]
theorem abulk_eq (a : AltT) : abulk a = a.con.size + (strsB a.names + bulk a.body) := by cases a; rw [abulk]
abbrev LC := kCore 29 73
abbrev LA := kAltC 29 73
def fineS (l : List ByteArray) : Prop := ∀ s ∈ l, s.size ≤ 9223372036854775807
mutual
def Fine : CoreT → Prop
  | ⟨_, name, _, _, names, kids, alts⟩ => name.size ≤ 9223372036854775807 ∧ fineS names ∧ Fines kids ∧ Afines alts
def Fines : List CoreT → Prop
  | [] => True
  | c :: r => Fine c ∧ Fines r
def Afines : List AltT → Prop
  | [] => True
  | a :: r => Afine a ∧ Afines r
def Afine : AltT → Prop
  | ⟨con, ns, b⟩ => con.size ≤ 9223372036854775807 ∧ fineS ns ∧ Fine b
end
theorem Fine_eq (c : CoreT) : Fine c = (c.name.size ≤ 9223372036854775807 ∧ fineS c.names ∧ Fines c.kids ∧ Afines c.alts) := by cases c; rw [Fine]
theorem Afine_eq (a : AltT) : Afine a = (a.con.size ≤ 9223372036854775807 ∧ fineS a.names ∧ Fine a.body) := by cases a; rw [Afine]
theorem Fines_mem {l : List CoreT} (h : Fines l) : ∀ x ∈ l, Fine x := by
  induction l with
  | nil => intro x hx; cases hx
  | cons c r ih =>
    rw [Fines] at h
    intro x hx
    rcases List.mem_cons.1 hx with rfl | hx
    · exact h.1
    · exact ih h.2 x hx
theorem Afines_mem {l : List AltT} (h : Afines l) : ∀ x ∈ l, Afine x := by
  induction l with
  | nil => intro x hx; cases hx
  | cons c r ih =>
    rw [Afines] at h
    intro x hx
    rcases List.mem_cons.1 hx with rfl | hx
    · exact h.1
    · exact ih h.2 x hx
/-- the contract of szCore at a term -/
def SzSaid (x : CoreT) : Prop := Fine x → ∀ (w : World) (cs : List Value) (left : Int), 0 ≤ left → left ≤ 1048576 → LC.K w x cs →
  Calls Try.prog 5 #[.agg cs.toArray, .int .i64 left] w fun e w' => e = .returned (.int .i64 (cut (bulk x) left)) ∧ Below w.heap.size w w'
def sumB : List CoreT → Nat
  | [] => 0
  | c :: r => bulk c + sumB r
theorem bulks_eq (l : List CoreT) : bulks l = l.length + sumB l := by
  induction l with
  | nil => rfl
  | cons c r ih => rw [bulks, sumB, ih, List.length_cons]; omega
/-- the cells of an element of a row of core terms -/
theorem elem_core {e ea : Nat} {w : World} {A : Option Addr} {n : Nat} {xs : List CoreT} (h : (kCore e ea).C w A n xs) (i : Nat) (hi : i < xs.length) :
    ∃ ad A3 c3 A4 c4 A5 c5 A6 c6, A = some ad ∧ (kCore e ea).K w xs[i] (cellsC xs[i] A3 c3 A4 c4 A5 c5 A6 c6) ∧
      w.cell? (ad.add (i * 7)) = some (.int .i64 xs[i].kind) ∧ w.cell? ⟨(ad.add (i * 7)).block, (ad.add (i * 7)).off + 1, none⟩ = some (.string xs[i].name) ∧
      w.cell? ⟨(ad.add (i * 7)).block, (ad.add (i * 7)).off + 2, none⟩ = some (.bool xs[i].minus) ∧ w.cell? ⟨(ad.add (i * 7)).block, (ad.add (i * 7)).off + 3, none⟩ = some (.slice A3 xs[i].limbs.length c3) ∧
      w.cell? ⟨(ad.add (i * 7)).block, (ad.add (i * 7)).off + 4, none⟩ = some (.slice A4 xs[i].names.length c4) ∧ w.cell? ⟨(ad.add (i * 7)).block, (ad.add (i * 7)).off + 5, none⟩ = some (.slice A5 xs[i].kids.length c5) ∧
      w.cell? ⟨(ad.add (i * 7)).block, (ad.add (i * 7)).off + 6, none⟩ = some (.slice A6 xs[i].alts.length c6) := by
  obtain ⟨ad, e', hc⟩ := h.2.2 (by have := h.1; omega)
  obtain ⟨c, hcl, hK, hcell⟩ := hc i xs[i] (List.getElem?_eq_getElem hi)
  obtain ⟨A3, c3, A4, c4, A5, c5, A6, c6, rfl, _⟩ := core_open hK
  exact ⟨ad, A3, c3, A4, c4, A5, c5, A6, c6, e', hK, hcell 0 _ rfl, by rw [← add_field _ _ 1 (by omega)]; exact hcell 1 _ rfl, by rw [← add_field _ _ 2 (by omega)]; exact hcell 2 _ rfl,
    by rw [← add_field _ _ 3 (by omega)]; exact hcell 3 _ rfl, by rw [← add_field _ _ 4 (by omega)]; exact hcell 4 _ rfl, by rw [← add_field _ _ 5 (by omega)]; exact hcell 5 _ rfl, by rw [← add_field _ _ 6 (by omega)]; exact hcell 6 _ rfl⟩
theorem cell_later' {S w : World} (hB : Below S.heap.size S w) {a : Addr} {v : Value} (h : S.cell? a = some v) : w.cell? a = some v :=
  (hB.cell (World.block_lt_of_cell? S a h)).trans h
/-- the same, read at a later world -/
theorem elem_core_at {e ea : Nat} {S w : World} {A : Option Addr} {n : Nat} {xs : List CoreT} (h : (kCore e ea).C S A n xs) (hB : Below S.heap.size S w) (i : Nat) (hi : i < xs.length) :
    ∃ ad A3 c3 A4 c4 A5 c5 A6 c6, A = some ad ∧ (kCore e ea).K S xs[i] (cellsC xs[i] A3 c3 A4 c4 A5 c5 A6 c6) ∧
      w.cell? (ad.add (i * 7)) = some (.int .i64 xs[i].kind) ∧ w.cell? ⟨(ad.add (i * 7)).block, (ad.add (i * 7)).off + 1, none⟩ = some (.string xs[i].name) ∧
      w.cell? ⟨(ad.add (i * 7)).block, (ad.add (i * 7)).off + 2, none⟩ = some (.bool xs[i].minus) ∧ w.cell? ⟨(ad.add (i * 7)).block, (ad.add (i * 7)).off + 3, none⟩ = some (.slice A3 xs[i].limbs.length c3) ∧
      w.cell? ⟨(ad.add (i * 7)).block, (ad.add (i * 7)).off + 4, none⟩ = some (.slice A4 xs[i].names.length c4) ∧ w.cell? ⟨(ad.add (i * 7)).block, (ad.add (i * 7)).off + 5, none⟩ = some (.slice A5 xs[i].kids.length c5) ∧
      w.cell? ⟨(ad.add (i * 7)).block, (ad.add (i * 7)).off + 6, none⟩ = some (.slice A6 xs[i].alts.length c6) := by
  obtain ⟨ad, A3, c3, A4, c4, A5, c5, A6, c6, hA, hK, g0, g1, g2, g3, g4, g5, g6⟩ := elem_core h i hi
  exact ⟨ad, A3, c3, A4, c4, A5, c5, A6, c6, hA, hK, cell_later' hB g0, cell_later' hB g1, cell_later' hB g2, cell_later' hB g3, cell_later' hB g4, cell_later' hB g5, cell_later' hB g6⟩
set_option maxHeartbeats 400000 in
theorem szCoreS_any (xs : List CoreT) (hfine : Fines xs) (ih : ∀ x ∈ xs, SzSaid x) (A : Option Addr) (c : Nat) (w : World) (left : Int) (h0 : 0 ≤ left) (h1 : left ≤ 1048576) (hr : LC.C w A xs.length xs) (hc : xs.length ≤ c) :
    Calls Try.prog 16 #[.slice A xs.length c, .int .i64 left] w fun e w' => e = .returned (.int .i64 (cut (bulks xs) left)) ∧ Below w.heap.size w w' := by
  have hl := hr.2.1
  obtain ⟨r, hrr⟩ : ∃ r, r = cut (bulks xs) left := ⟨_, rfl⟩
  rw [← hrr]
  rw [bulks_eq, cut_add _ _ h0] at hrr
  have HRR := Lib.hid hrr; clear hrr
  have FINE := Lib.hid hfine; clear hfine
  have IH := Lib.hid ih; clear ih
  have HR := Lib.hid hr; clear hr
  go_enter Try.func16, Try.ntmps16
  by_cases hn : left < xs.length
  · go_wp2
    go_ret
    exact ⟨by rw [HRR.out, cut_neg hn]; rfl, Below.refl _ _⟩
  · have E1 := Lib.hid (cut_pos hn)
    go_wp2
    go_loopw [1, 5] (fun v i wr => ∃ (k : Nat) (l : Int), k ≤ xs.length ∧ i = .int .i64 k ∧ v = .int .i64 l ∧ 0 ≤ l ∧ l ≤ 1048576 ∧ Hid (cut (sumB xs) (left - xs.length) = cut (sumB (xs.drop k)) l) ∧ Hid (Below w.heap.size w wr)) (fun _ i _ => xs.length - (intOf i).toNat)
    case atStart => exact ⟨0, _, Nat.zero_le _, rfl, rfl, by omega, by omega, Lib.hid rfl, Lib.hid (Below.refl _ _)⟩
    case round =>
      obtain ⟨k, l, hk, rfl, rfl, hl0, hl1, HC, HB⟩ := hrel
      by_cases hlt : k < xs.length
      · obtain ⟨ad, A3, c3, A4, c4, A5, c5, A6, c6, rfl, hK, g0, g1, g2, g3, g4, g5, g6⟩ := elem_core (Kd.C_below HR.out HB.out) k hlt
        go_wp2_with fail
        refine (IH.out _ (List.getElem_mem hlt) (Fines_mem FINE.out _ (List.getElem_mem hlt)) wr _ l hl0 hl1 hK).mono ?_
        rintro e w2 ⟨rfl, hb2⟩
        have HB2 := Lib.hid (HB.out.trans (hb2.mono HB.out.size)); clear hb2
        have HC2 := Lib.hid (HC.out.trans (by rw [List.drop_eq_getElem_cons hlt, sumB, cut_add _ _ hl0] : cut (sumB (xs.drop k)) l = if cut (bulk xs[k]) l < 0 then -1 else cut (sumB (xs.drop (k + 1))) (cut (bulk xs[k]) l)))
        have hq := cut_range (bulk xs[k]) hl1
        clear g0 g1 g2 g3 g4 g5 g6 hK HC HB
        generalize cut (bulk xs[k]) l = q at *
        obtain ⟨hq0, hq1⟩ := hq
        by_cases hneg : q < 0
        · go_wp2
          go_ret
          exact ⟨by rw [HRR.out, E1.out, if_neg (by omega), HC2.out, if_pos hneg]; rfl, HB2.out⟩
        · go_wp2
          go_roundw
          case rel => exact ⟨k + 1, q, by omega, by go_num, rfl, by omega, by omega, Lib.hid (by rw [HC2.out, if_neg (by omega)]), HB2⟩
          case measure => simp [intOf]; omega
      · go_wp2
        go_ret
        exact ⟨by rw [HRR.out, E1.out, if_neg (by omega), HC.out, List.drop_eq_nil_of_le (by omega), sumB, cut_pos (by omega)]; simp, HB.out⟩
/-- the contract of szCoreAlt at an alternative -/
def SzASaid (x : AltT) : Prop := Afine x → ∀ (w : World) (cs : List Value) (left : Int), 0 ≤ left → left ≤ 1048576 → LA.K w x cs →
  Calls Try.prog 44 #[.agg cs.toArray, .int .i64 left] w fun e w' => e = .returned (.int .i64 (cut (abulk x) left)) ∧ Below w.heap.size w w'
def sumA : List AltT → Nat
  | [] => 0
  | c :: r => abulk c + sumA r
theorem abulks_eq (l : List AltT) : abulks l = l.length + sumA l := by
  induction l with
  | nil => rfl
  | cons c r ih => rw [abulks, sumA, ih, List.length_cons]; omega
/-- an alternative's nine cells -/
def cellsA (x : AltT) (A1 : Option Addr) (c1 : Nat) (A3 : Option Addr) (c3 : Nat) (A4 : Option Addr) (c4 : Nat) (A5 : Option Addr) (c5 : Nat) (A6 : Option Addr) (c6 : Nat) : List Value :=
  [.string x.con, .slice A1 x.names.length c1, .int .i64 x.body.kind, .string x.body.name, .bool x.body.minus, .slice A3 x.body.limbs.length c3, .slice A4 x.body.names.length c4, .slice A5 x.body.kids.length c5, .slice A6 x.body.alts.length c6]
/-- the cells of an element of a row of alternatives -/
theorem elem_alt {e ea : Nat} {w : World} {A : Option Addr} {n : Nat} {xs : List AltT} (h : (kAltC e ea).C w A n xs) (i : Nat) (hi : i < xs.length) :
    ∃ ad A1 c1 A3 c3 A4 c4 A5 c5 A6 c6, A = some ad ∧ (kAltC e ea).K w xs[i] (cellsA xs[i] A1 c1 A3 c3 A4 c4 A5 c5 A6 c6) ∧
      (kCore e ea).K w xs[i].body (cellsC xs[i].body A3 c3 A4 c4 A5 c5 A6 c6) ∧ xs[i].names.length ≤ c1 ∧ Kd.string.C w A1 xs[i].names.length xs[i].names ∧
      w.cell? (ad.add (i * 9)) = some (.string xs[i].con) ∧ w.cell? ⟨(ad.add (i * 9)).block, (ad.add (i * 9)).off + 1, none⟩ = some (.slice A1 xs[i].names.length c1) ∧
      w.cell? ⟨(ad.add (i * 9)).block, (ad.add (i * 9)).off + 2, none⟩ = some (.int .i64 xs[i].body.kind) ∧ w.cell? ⟨(ad.add (i * 9)).block, (ad.add (i * 9)).off + 3, none⟩ = some (.string xs[i].body.name) ∧
      w.cell? ⟨(ad.add (i * 9)).block, (ad.add (i * 9)).off + 4, none⟩ = some (.bool xs[i].body.minus) ∧ w.cell? ⟨(ad.add (i * 9)).block, (ad.add (i * 9)).off + 5, none⟩ = some (.slice A3 xs[i].body.limbs.length c3) ∧
      w.cell? ⟨(ad.add (i * 9)).block, (ad.add (i * 9)).off + 6, none⟩ = some (.slice A4 xs[i].body.names.length c4) ∧ w.cell? ⟨(ad.add (i * 9)).block, (ad.add (i * 9)).off + 7, none⟩ = some (.slice A5 xs[i].body.kids.length c5) ∧
      w.cell? ⟨(ad.add (i * 9)).block, (ad.add (i * 9)).off + 8, none⟩ = some (.slice A6 xs[i].body.alts.length c6) := by
  obtain ⟨ad, e', hc⟩ := h.2.2 (by have := h.1; omega)
  obtain ⟨c, hcl, hK, hcell⟩ := hc i xs[i] (List.getElem?_eq_getElem hi)
  obtain ⟨A1, c1, cb, rfl, l1, g1, hb⟩ := alt_open hK
  obtain ⟨A3, c3, A4, c4, A5, c5, A6, c6, rfl, _⟩ := core_open hb
  exact ⟨ad, A1, c1, A3, c3, A4, c4, A5, c5, A6, c6, e', hK, hb, l1, g1, hcell 0 _ rfl, by rw [← add_field _ _ 1 (by omega)]; exact hcell 1 _ rfl, by rw [← add_field _ _ 2 (by omega)]; exact hcell 2 _ rfl,
    by rw [← add_field _ _ 3 (by omega)]; exact hcell 3 _ rfl, by rw [← add_field _ _ 4 (by omega)]; exact hcell 4 _ rfl, by rw [← add_field _ _ 5 (by omega)]; exact hcell 5 _ rfl, by rw [← add_field _ _ 6 (by omega)]; exact hcell 6 _ rfl,
    by rw [← add_field _ _ 7 (by omega)]; exact hcell 7 _ rfl, by rw [← add_field _ _ 8 (by omega)]; exact hcell 8 _ rfl⟩
theorem elem_alt_at {e ea : Nat} {S w : World} {A : Option Addr} {n : Nat} {xs : List AltT} (h : (kAltC e ea).C S A n xs) (hB : Below S.heap.size S w) (i : Nat) (hi : i < xs.length) :
    ∃ ad A1 c1 A3 c3 A4 c4 A5 c5 A6 c6, A = some ad ∧ (kAltC e ea).K S xs[i] (cellsA xs[i] A1 c1 A3 c3 A4 c4 A5 c5 A6 c6) ∧
      (kCore e ea).K S xs[i].body (cellsC xs[i].body A3 c3 A4 c4 A5 c5 A6 c6) ∧ xs[i].names.length ≤ c1 ∧ Kd.string.C S A1 xs[i].names.length xs[i].names ∧
      w.cell? (ad.add (i * 9)) = some (.string xs[i].con) ∧ w.cell? ⟨(ad.add (i * 9)).block, (ad.add (i * 9)).off + 1, none⟩ = some (.slice A1 xs[i].names.length c1) ∧
      w.cell? ⟨(ad.add (i * 9)).block, (ad.add (i * 9)).off + 2, none⟩ = some (.int .i64 xs[i].body.kind) ∧ w.cell? ⟨(ad.add (i * 9)).block, (ad.add (i * 9)).off + 3, none⟩ = some (.string xs[i].body.name) ∧
      w.cell? ⟨(ad.add (i * 9)).block, (ad.add (i * 9)).off + 4, none⟩ = some (.bool xs[i].body.minus) ∧ w.cell? ⟨(ad.add (i * 9)).block, (ad.add (i * 9)).off + 5, none⟩ = some (.slice A3 xs[i].body.limbs.length c3) ∧
      w.cell? ⟨(ad.add (i * 9)).block, (ad.add (i * 9)).off + 6, none⟩ = some (.slice A4 xs[i].body.names.length c4) ∧ w.cell? ⟨(ad.add (i * 9)).block, (ad.add (i * 9)).off + 7, none⟩ = some (.slice A5 xs[i].body.kids.length c5) ∧
      w.cell? ⟨(ad.add (i * 9)).block, (ad.add (i * 9)).off + 8, none⟩ = some (.slice A6 xs[i].body.alts.length c6) := by
  obtain ⟨ad, A1, c1, A3, c3, A4, c4, A5, c5, A6, c6, hA, hK, hb, l1, gs, g0, g1, g2, g3, g4, g5, g6, g7, g8⟩ := elem_alt h i hi
  exact ⟨ad, A1, c1, A3, c3, A4, c4, A5, c5, A6, c6, hA, hK, hb, l1, gs, cell_later' hB g0, cell_later' hB g1, cell_later' hB g2, cell_later' hB g3, cell_later' hB g4, cell_later' hB g5, cell_later' hB g6, cell_later' hB g7, cell_later' hB g8⟩
set_option maxHeartbeats 400000 in
theorem szCoreAltS_any (xs : List AltT) (hfine : Afines xs) (ih : ∀ x ∈ xs, SzASaid x) (A : Option Addr) (c : Nat) (w : World) (left : Int) (h0 : 0 ≤ left) (h1 : left ≤ 1048576) (hr : LA.C w A xs.length xs) (hc : xs.length ≤ c) :
    Calls Try.prog 17 #[.slice A xs.length c, .int .i64 left] w fun e w' => e = .returned (.int .i64 (cut (abulks xs) left)) ∧ Below w.heap.size w w' := by
  have hl := hr.2.1
  obtain ⟨r, hrr⟩ : ∃ r, r = cut (abulks xs) left := ⟨_, rfl⟩
  rw [← hrr]
  rw [abulks_eq, cut_add _ _ h0] at hrr
  have HRR := Lib.hid hrr; clear hrr
  have FINE := Lib.hid hfine; clear hfine
  have IH := Lib.hid ih; clear ih
  have HR := Lib.hid hr; clear hr
  go_enter Try.func17, Try.ntmps17
  by_cases hn : left < xs.length
  · go_wp2
    go_ret
    exact ⟨by rw [HRR.out, cut_neg hn]; rfl, Below.refl _ _⟩
  · have E1 := Lib.hid (cut_pos hn)
    go_wp2
    go_loopw [1, 5] (fun v i wr => ∃ (k : Nat) (l : Int), k ≤ xs.length ∧ i = .int .i64 k ∧ v = .int .i64 l ∧ 0 ≤ l ∧ l ≤ 1048576 ∧ Hid (cut (sumA xs) (left - xs.length) = cut (sumA (xs.drop k)) l) ∧ Hid (Below w.heap.size w wr)) (fun _ i _ => xs.length - (intOf i).toNat)
    case atStart => exact ⟨0, _, Nat.zero_le _, rfl, rfl, by omega, by omega, Lib.hid rfl, Lib.hid (Below.refl _ _)⟩
    case round =>
      obtain ⟨k, l, hk, rfl, rfl, hl0, hl1, HC, HB⟩ := hrel
      by_cases hlt : k < xs.length
      · obtain ⟨ad, A1, c1, A3, c3, A4, c4, A5, c5, A6, c6, rfl, hK, _, _, _, g0, g1, g2, g3, g4, g5, g6, g7, g8⟩ := elem_alt (Kd.C_below HR.out HB.out) k hlt
        go_wp2_with fail
        refine (IH.out _ (List.getElem_mem hlt) (Afines_mem FINE.out _ (List.getElem_mem hlt)) wr _ l hl0 hl1 hK).mono ?_
        rintro e w2 ⟨rfl, hb2⟩
        have HB2 := Lib.hid (HB.out.trans (hb2.mono HB.out.size)); clear hb2
        have HC2 := Lib.hid (HC.out.trans (by rw [List.drop_eq_getElem_cons hlt, sumA, cut_add _ _ hl0] : cut (sumA (xs.drop k)) l = if cut (abulk xs[k]) l < 0 then -1 else cut (sumA (xs.drop (k + 1))) (cut (abulk xs[k]) l)))
        have hq := cut_range (abulk xs[k]) hl1
        clear g0 g1 g2 g3 g4 g5 g6 g7 g8 hK HC HB
        generalize cut (abulk xs[k]) l = q at *
        obtain ⟨hq0, hq1⟩ := hq
        by_cases hneg : q < 0
        · go_wp2
          go_ret
          exact ⟨by rw [HRR.out, E1.out, if_neg (by omega), HC2.out, if_pos hneg]; rfl, HB2.out⟩
        · go_wp2
          go_roundw
          case rel => exact ⟨k + 1, q, by omega, by go_num, rfl, by omega, by omega, Lib.hid (by rw [HC2.out, if_neg (by omega)]), HB2⟩
          case measure => simp [intOf]; omega
      · go_wp2
        go_ret
        exact ⟨by rw [HRR.out, E1.out, if_neg (by omega), HC.out, List.drop_eq_nil_of_le (by omega), sumA, cut_pos (by omega)]; simp, HB.out⟩
theorem Below.step {W1 w w' : World} (h : Below W1.heap.size W1 w) (k : Below w.heap.size w w') : Below W1.heap.size W1 w' := h.trans (k.mono h.size)
theorem bcell {W w1 : World} (hb : Below W.heap.size W w1) : (∀ b o, b < W.heap.size → w1.cell? ⟨b, o, none⟩ = W.cell? ⟨b, o, none⟩) :=
  fun b o h => hb.cell (p := ⟨b, o, none⟩) h
theorem Drawn0.below {w w' : World} (h : Drawn0 w w') : Below w.heap.size w w' := by
  obtain ⟨n, rfl⟩ := h.out
  exact ⟨rfl, rfl, rfl, Nat.le_refl _, fun _ _ => rfl⟩
theorem below_box {w w2 : World} {o : Obj} (h : Below (w.alloc o).heap.size (w.alloc o) w2) : Below w.heap.size w w2 :=
  ((Below.refl _ _).alloc (Nat.le_refl _) o).trans (h.mono (by simp))
set_option maxHeartbeats 400000 in
theorem szCoreAlt_any (x : AltT) (ih : SzSaid x.body) : SzASaid x := by
  intro hfine w cs left h0 h1 hK
  rw [Afine_eq] at hfine
  obtain ⟨f1, f2, f3⟩ := hfine
  have F2 := Lib.hid f2; have F3 := Lib.hid f3; clear f2 f3
  obtain ⟨A1, c1, cb, rfl, l1, g1, hb⟩ := alt_open hK
  obtain ⟨A3, c3, A4, c4, A5, c5, A6, c6, rfl, _⟩ := core_open hb
  obtain ⟨r, hrr⟩ : ∃ r, r = cut (abulk x) left := ⟨_, rfl⟩
  rw [← hrr]
  rw [abulk_eq, cut_add _ _ h0] at hrr
  have HRR := Lib.hid hrr; clear hrr
  have IH := Lib.hid ih; clear ih
  have G1 := Lib.hid g1; clear g1
  have HBd := Lib.hid hb; clear hb hK
  simp only [cellsC]
  go_enter Try.func44, Try.ntmps44
  by_cases hn : left < x.con.size
  · go_wp2
    go_ret
    exact ⟨by rw [HRR.out, cut_neg hn]; rfl, (Below.refl _ _).alloc (Nat.le_refl _) _⟩
  · have E1 := Lib.hid (cut_pos hn)
    go_wp2_with fail
    obtain ⟨k, hk⟩ := szStringS_eq x.names (left - x.con.size) F2.out (by omega) (by omega) G1.out.2.1
    refine (laws_szStringS.calls k _ _ _ _ _ _ (Kd.C_below G1.out ((Below.refl _ _).alloc (Nat.le_refl _) _)) l1 hk).mono ?_
    rintro e w2 ⟨rfl, hb2⟩
    replace hb2 := Drawn0.below hb2
    have hc2 := bcell hb2
    have HB2 := Lib.hid hb2; clear hb2 hk
    rw [cut_add _ _ (by rw [E1.out]; omega), E1.out] at HRR
    have hq := cut_range (strsB x.names) (left := left - x.con.size) (by omega)
    generalize cut (strsB x.names) (left - x.con.size) = q at *
    obtain ⟨hq0, hq1⟩ := hq
    by_cases hneg : q < 0
    · go_wp2
      go_ret
      exact ⟨by rw [HRR.out, if_neg (by omega), if_pos hneg]; rfl, below_box HB2.out⟩
    · clear hc2
      have hc2 := bcell HB2.out
      go_wp2_with fail
      refine (IH.out F3.out _ _ q (by omega) hq1 ((kCore _ _).K_below (below_box HB2.out) HBd.out)).mono ?_
      rintro e w3 ⟨rfl, hb3⟩
      have HB3 := Lib.hid (Below.step HB2.out hb3); clear hb3
      have HRR2 := Lib.hid (HRR.out.trans (by rw [if_neg (by omega), if_neg (by omega)] : _ = cut (bulk x.body) q)); clear HRR
      have hq2 := cut_range (bulk x.body) hq1
      generalize cut (bulk x.body) q = q2 at *
      obtain ⟨hq20, hq21⟩ := hq2
      by_cases hneg2 : q2 < 0
      · go_wp2
        go_ret
        exact ⟨by rw [HRR2.out]; congr 1; first | rfl | (show Value.int _ _ = _; congr 1; omega), below_box HB3.out⟩
      · go_wp2
        go_ret
        exact ⟨by rw [HRR2.out]; rfl, below_box HB3.out⟩
set_option maxHeartbeats 1000000 in
theorem szCore_any (x : CoreT) (ihk : ∀ y ∈ x.kids, SzSaid y) (iha : ∀ a ∈ x.alts, SzASaid a) : SzSaid x := by
  intro hfine w cs left h0 h1 hK
  rw [Fine_eq] at hfine
  obtain ⟨f1, f2, f3, f4⟩ := hfine
  have F2 := Lib.hid f2; have F3 := Lib.hid f3; have F4 := Lib.hid f4; clear f2 f3 f4
  obtain ⟨A3, c3, A4, c4, A5, c5, A6, c6, rfl, l3, g3, l4, g4, l5, g5, l6, g6⟩ := core_open hK
  obtain ⟨r, hrr⟩ : ∃ r, r = cut (bulk x) left := ⟨_, rfl⟩
  rw [← hrr]
  rw [bulk_eq, cut_add _ _ h0] at hrr
  have HRR := Lib.hid hrr; clear hrr
  have IHK := Lib.hid ihk; have IHA := Lib.hid iha; clear ihk iha
  have G3 := Lib.hid g3; have G4 := Lib.hid g4; have G5 := Lib.hid g5; have G6 := Lib.hid g6; clear g3 g4 g5 g6 hK
  simp only [cellsC]
  go_enter Try.func5, Try.ntmps5
  by_cases hn : left < x.name.size
  · go_wp2
    go_ret
    exact ⟨by rw [HRR.out, cut_neg hn]; rfl, (Below.refl _ _).alloc (Nat.le_refl _) _⟩
  have E1 := Lib.hid (cut_pos hn)
  go_wp2_with fail
  refine (laws_szBig.calls _ _ _ _ _ _ _ (Kd.C_below G3.out ((Below.refl _ _).alloc (Nat.le_refl _) _)) l3 (szBig_eq x.minus x.limbs (left - x.name.size) (by omega) (by omega) G3.out.2.1)).mono ?_
  rintro e w2 ⟨rfl, hb2⟩
  have HB2 := Lib.hid hb2; clear hb2
  rw [cut_add _ _ (by rw [E1.out]; omega), E1.out, if_neg (by omega)] at HRR
  have hq := cut_range x.limbs.length (left := left - x.name.size) (by omega)
  generalize cut x.limbs.length (left - x.name.size) = q at *
  obtain ⟨hq0, hq1⟩ := hq
  clear E1
  by_cases hneg : q < 0
  · go_wp2
    go_ret
    exact ⟨by rw [HRR.out, if_pos hneg]; rfl, below_box HB2.out⟩
  have HRR2 := Lib.hid (HRR.out.trans (if_neg hneg)); clear HRR
  have hc2 := bcell HB2.out
  go_wp2_with fail
  clear hc2
  obtain ⟨k, hk⟩ := szStringS_eq x.names q F2.out (by omega) (by omega) G4.out.2.1
  refine (laws_szStringS.calls k _ _ _ _ _ _ (Kd.C_below G4.out (below_box HB2.out)) l4 hk).mono ?_
  rintro e w3 ⟨rfl, hb3⟩
  have HB3 := Lib.hid (Below.step HB2.out (Drawn0.below hb3)); clear hb3 hk HB2
  rw [cut_add _ _ (by omega)] at HRR2
  have hq := cut_range (strsB x.names) hq1
  generalize cut (strsB x.names) q = q2 at *
  obtain ⟨hq20, hq21⟩ := hq
  by_cases hneg2 : q2 < 0
  · go_wp2
    go_ret
    exact ⟨by rw [HRR2.out, if_pos hneg2]; rfl, below_box HB3.out⟩
  have HRR3 := Lib.hid (HRR2.out.trans (if_neg hneg2)); clear HRR2
  have hc3 := bcell HB3.out
  go_wp2_with fail
  clear hc3
  refine (szCoreS_any x.kids F3.out IHK.out _ _ _ q2 (by omega) hq21 (Kd.C_below G5.out (below_box HB3.out)) l5).mono ?_
  rintro e w4 ⟨rfl, hb4⟩
  have HB4 := Lib.hid (Below.step HB3.out hb4); clear hb4 HB3
  rw [cut_add _ _ (by omega)] at HRR3
  have hq := cut_range (bulks x.kids) hq21
  generalize cut (bulks x.kids) q2 = q3 at *
  obtain ⟨hq30, hq31⟩ := hq
  by_cases hneg3 : q3 < 0
  · go_wp2
    go_ret
    exact ⟨by rw [HRR3.out, if_pos hneg3]; rfl, below_box HB4.out⟩
  have HRR4 := Lib.hid (HRR3.out.trans (if_neg hneg3)); clear HRR3
  have hc4 := bcell HB4.out
  go_wp2_with fail
  clear hc4
  refine (szCoreAltS_any x.alts F4.out IHA.out _ _ _ q3 (by omega) hq31 (Kd.C_below G6.out (below_box HB4.out)) l6).mono ?_
  rintro e w5 ⟨rfl, hb5⟩
  have HB5 := Lib.hid (Below.step HB4.out hb5); clear hb5 HB4
  have hq := cut_range (abulks x.alts) hq31
  generalize cut (abulks x.alts) q3 = q4 at *
  obtain ⟨hq40, hq41⟩ := hq
  by_cases hneg4 : q4 < 0
  · go_wp2
    go_ret
    exact ⟨by rw [HRR4.out]; first | rfl | (show Ending.returned (Value.int _ _) = _; congr 2; omega), below_box HB5.out⟩
  · go_wp2
    go_ret
    exact ⟨by rw [HRR4.out]; rfl, below_box HB5.out⟩
theorem sz_all (x : CoreT) : SzSaid x :=
  coreInd SzSaid (fun c hk ha => szCore_any c hk (fun a h => szCoreAlt_any a (ha a h))) x
end Go.Proofs.Ytagfphlhahiplaa.C13
namespace Go.Proofs.Ytagfphlhahiplaa.C13
open Go.RowKit Go.Proofs.YtagfphlhahiplaaW.PrintWords Go.Proofs.Ytagfphlhahiplaa.PFnExactFormatCore
set_option linter.unusedVariables false
set_option linter.unusedSimpArgs false
theorem eqUint32S_l0 (l : List Int) (hl : l.length ≤ 9223372036854775807) : ∀ (d k i : Nat), l.length - i = d → i ≤ l.length → d < k → laws_eqUint32S.l0 k l l i = some true := by
  intro d
  induction d with
  | zero =>
    intro k i hd hi hk
    obtain ⟨k, rfl⟩ : ∃ m, k = m + 1 := ⟨k - 1, by omega⟩
    simp only [laws_eqUint32S.l0]
    rw [if_neg (by omega)]
  | succ d ih =>
    intro k i hd hi hk
    obtain ⟨k, rfl⟩ : ∃ m, k = m + 1 := ⟨k - 1, by omega⟩
    simp only [laws_eqUint32S.l0]
    rw [if_pos (by omega), if_pos (by omega), if_pos (by omega), if_pos trivial, wrap64_of (by omega) (by omega)]
    exact ih k (i + 1) (by omega) (by omega) (by omega)
theorem eqBig_eq (m : Bool) (l : List Int) (hl : l.length ≤ 9223372036854775807) : ∃ k, laws_eqBig.f k m l m l = some true := by
  refine ⟨l.length + 1, ?_⟩
  unfold laws_eqBig.f laws_eqUint32S.f
  rw [if_pos rfl]
  have := eqUint32S_l0 l hl l.length (l.length + 1) 0 (by omega) (by omega) (by omega)
  rw [show laws_eqUint32S.l0 (l.length + 1) l l 0 = some true from this]
  simp
theorem eqStringS_l0 (l : List ByteArray) (hl : l.length ≤ 9223372036854775807) : ∀ (d k i : Nat), l.length - i = d → i ≤ l.length → d < k → laws_eqStringS.l0 k l l i = some true := by
  intro d
  induction d with
  | zero =>
    intro k i hd hi hk
    obtain ⟨k, rfl⟩ : ∃ m, k = m + 1 := ⟨k - 1, by omega⟩
    simp only [laws_eqStringS.l0]
    rw [if_neg (by omega)]
  | succ d ih =>
    intro k i hd hi hk
    obtain ⟨k, rfl⟩ : ∃ m, k = m + 1 := ⟨k - 1, by omega⟩
    simp only [laws_eqStringS.l0]
    rw [if_pos (by omega), if_pos (by omega), if_pos (by omega), if_pos trivial, wrap64_of (by omega) (by omega)]
    exact ih k (i + 1) (by omega) (by omega) (by omega)
theorem eqStringS_eq (l : List ByteArray) (hl : l.length ≤ 9223372036854775807) : ∃ k, laws_eqStringS.f k l l = some true := by
  refine ⟨l.length + 1, ?_⟩
  unfold laws_eqStringS.f
  rw [if_pos rfl]
  exact eqStringS_l0 l hl l.length (l.length + 1) 0 (by omega) (by omega) (by omega)
abbrev IC := kCore 36 80
abbrev IA := kAltC 36 80
def EqSaid (x : CoreT) : Prop := ∀ (w : World) (cs cs' : List Value), IC.K w x cs → IC.K w x cs' →
  Calls Try.prog 9 #[.agg cs.toArray, .agg cs'.toArray] w fun e w' => e = .returned (.bool true) ∧ Below w.heap.size w w'
def EqASaid (x : AltT) : Prop := ∀ (w : World) (cs cs' : List Value), IA.K w x cs → IA.K w x cs' →
  Calls Try.prog 63 #[.agg cs.toArray, .agg cs'.toArray] w fun e w' => e = .returned (.bool true) ∧ Below w.heap.size w w'
set_option maxHeartbeats 400000 in
set_option maxRecDepth 100000 in
theorem eqCoreS_any (xs : List CoreT) (ih : ∀ x ∈ xs, EqSaid x) (A B : Option Addr) (c d : Nat) (w : World) (hr : IC.C w A xs.length xs) (hc : xs.length ≤ c) (hs : IC.C w B xs.length xs) (hd : xs.length ≤ d) :
    Calls Try.prog 29 #[.slice A xs.length c, .slice B xs.length d] w fun e w' => e = .returned (.bool true) ∧ Below w.heap.size w w' := by
  have hl := hr.2.1
  have IH := Lib.hid ih; clear ih
  have HR := Lib.hid hr; clear hr
  have HS := Lib.hid hs; clear hs
  go_enter Try.func29, Try.ntmps29
  go_wp2
  go_loopw [5] (fun i wr => ∃ (k : Nat), k ≤ xs.length ∧ i = .int .i64 k ∧ Hid (Below w.heap.size w wr)) (fun i _ => xs.length - (intOf i).toNat)
  case atStart => exact ⟨0, Nat.zero_le _, rfl, Lib.hid (Below.refl _ _)⟩
  case round =>
    obtain ⟨k, hk, rfl, HB⟩ := hrel
    by_cases hlt : k < xs.length
    · obtain ⟨ad, A3, c3, A4, c4, A5, c5, A6, c6, rfl, hK, g0, g1, g2, g3, g4, g5, g6⟩ := elem_core (Kd.C_below HR.out HB.out) k hlt
      obtain ⟨ad', A3', c3', A4', c4', A5', c5', A6', c6', rfl, hK', g0', g1', g2', g3', g4', g5', g6'⟩ := elem_core (Kd.C_below HS.out HB.out) k hlt
      go_wp2_with fail
      go_still_tail 8, (by kernel_rfl)
      change wpList _ _ _ _ _ wr.drew
      clear g0 g1 g2 g3 g4 g5 g6 g0' g1' g2' g3' g4' g5' g6'
      go_wp2_with fail
      refine (IH.out _ (List.getElem_mem hlt) _ _ _ ((kCore _ _).K_below (Below.refl _ wr).drew hK) ((kCore _ _).K_below (Below.refl _ wr).drew hK')).mono ?_
      rintro e w2 ⟨rfl, hb2⟩
      have HB2 := Lib.hid (Below.step HB.out.drew hb2); clear hb2 hK hK' HB
      go_wp2_with fail
      go_roundw
      case rel => exact ⟨k + 1, by omega, by go_num, HB2⟩
      case measure => simp [intOf]; omega
    · go_wp2
      go_ret
      exact ⟨rfl, HB.out⟩
set_option maxHeartbeats 400000 in
set_option maxRecDepth 100000 in
theorem eqCoreAltS_any (xs : List AltT) (ih : ∀ x ∈ xs, EqASaid x) (A B : Option Addr) (c d : Nat) (w : World) (hr : IA.C w A xs.length xs) (hc : xs.length ≤ c) (hs : IA.C w B xs.length xs) (hd : xs.length ≤ d) :
    Calls Try.prog 30 #[.slice A xs.length c, .slice B xs.length d] w fun e w' => e = .returned (.bool true) ∧ Below w.heap.size w w' := by
  have hl := hr.2.1
  have IH := Lib.hid ih; clear ih
  have HR := Lib.hid hr; clear hr
  have HS := Lib.hid hs; clear hs
  go_enter Try.func30, Try.ntmps30
  go_wp2
  go_loopw [5] (fun i wr => ∃ (k : Nat), k ≤ xs.length ∧ i = .int .i64 k ∧ Hid (Below w.heap.size w wr)) (fun i _ => xs.length - (intOf i).toNat)
  case atStart => exact ⟨0, Nat.zero_le _, rfl, Lib.hid (Below.refl _ _)⟩
  case round =>
    obtain ⟨k, hk, rfl, HB⟩ := hrel
    by_cases hlt : k < xs.length
    · obtain ⟨ad, A1, c1, A3, c3, A4, c4, A5, c5, A6, c6, rfl, hK, _, _, _, g0, g1, g2, g3, g4, g5, g6, g7, g8⟩ := elem_alt (Kd.C_below HR.out HB.out) k hlt
      obtain ⟨ad', A1', c1', A3', c3', A4', c4', A5', c5', A6', c6', rfl, hK', _, _, _, g0', g1', g2', g3', g4', g5', g6', g7', g8'⟩ := elem_alt (Kd.C_below HS.out HB.out) k hlt
      go_wp2_with fail
      go_still_tail 8, (by kernel_rfl)
      change wpList _ _ _ _ _ wr.drew
      clear g0 g1 g2 g3 g4 g5 g6 g7 g8 g0' g1' g2' g3' g4' g5' g6' g7' g8'
      go_wp2_with fail
      refine (IH.out _ (List.getElem_mem hlt) _ _ _ ((kAltC _ _).K_below (Below.refl _ wr).drew hK) ((kAltC _ _).K_below (Below.refl _ wr).drew hK')).mono ?_
      rintro e w2 ⟨rfl, hb2⟩
      have HB2 := Lib.hid (Below.step HB.out.drew hb2); clear hb2 hK hK' HB
      go_wp2_with fail
      go_roundw
      case rel => exact ⟨k + 1, by omega, by go_num, HB2⟩
      case measure => simp [intOf]; omega
    · go_wp2
      go_ret
      exact ⟨rfl, HB.out⟩
theorem below_box2 {w w2 : World} {o o' : Obj} (h : Below ((w.alloc o).alloc o').heap.size ((w.alloc o).alloc o') w2) : Below w.heap.size w w2 := below_box (below_box h)
set_option maxHeartbeats 1000000 in
theorem eqCoreAlt_any (x : AltT) (ih : EqSaid x.body) : EqASaid x := by
  intro w cs cs' hK hK'
  obtain ⟨A1, c1, cb, rfl, l1, g1, hb⟩ := alt_open hK
  obtain ⟨A3, c3, A4, c4, A5, c5, A6, c6, rfl, _⟩ := core_open hb
  obtain ⟨A1', c1', cb', rfl, l1', g1', hb'⟩ := alt_open hK'
  obtain ⟨A3', c3', A4', c4', A5', c5', A6', c6', rfl, _⟩ := core_open hb'
  have IH := Lib.hid ih; clear ih
  have G1 := Lib.hid g1; have G1' := Lib.hid g1'; clear g1 g1'
  have HBd := Lib.hid hb; have HBd' := Lib.hid hb'; clear hb hb' hK hK'
  simp only [cellsC]
  go_enter Try.func63, Try.ntmps63
  go_wp2_with fail
  obtain ⟨k, hk⟩ := eqStringS_eq x.names G1.out.2.1
  have HB0 := Lib.hid (((Below.refl w.heap.size w).alloc (Nat.le_refl _) (.cells #[Value.string x.con, Value.slice A1 x.names.length c1, Value.int IntKind.i64 x.body.kind, Value.string x.body.name, Value.bool x.body.minus, Value.slice A3 x.body.limbs.length c3, Value.slice A4 x.body.names.length c4, Value.slice A5 x.body.kids.length c5, Value.slice A6 x.body.alts.length c6] 80)).alloc (by simp) (.cells #[Value.string x.con, Value.slice A1' x.names.length c1', Value.int IntKind.i64 x.body.kind, Value.string x.body.name, Value.bool x.body.minus, Value.slice A3' x.body.limbs.length c3', Value.slice A4' x.body.names.length c4', Value.slice A5' x.body.kids.length c5', Value.slice A6' x.body.alts.length c6'] 80))
  refine (laws_eqStringS.calls k _ _ _ _ _ _ _ _ (Kd.C_below G1.out HB0.out) l1 (Kd.C_below G1'.out HB0.out) l1' hk).mono ?_
  rintro e w2 ⟨rfl, hb2⟩
  replace hb2 := Drawn0.below hb2
  have HB2 := Lib.hid hb2; clear hb2 hk HB0
  have hc2 := bcell HB2.out
  go_wp2_with fail
  clear hc2
  refine (IH.out _ _ _ ((kCore _ _).K_below (below_box2 HB2.out) HBd.out) ((kCore _ _).K_below (below_box2 HB2.out) HBd'.out)).mono ?_
  rintro e w3 ⟨rfl, hb3⟩
  have HB3 := Lib.hid (Below.step HB2.out hb3); clear hb3 HB2
  go_wp2
  go_ret
  exact ⟨rfl, below_box2 HB3.out⟩
set_option maxHeartbeats 1000000 in
theorem eqCore_any (x : CoreT) (ihk : ∀ y ∈ x.kids, EqSaid y) (iha : ∀ a ∈ x.alts, EqASaid a) : EqSaid x := by
  intro w cs cs' hK hK'
  obtain ⟨A3, c3, A4, c4, A5, c5, A6, c6, rfl, l3, g3, l4, g4, l5, g5, l6, g6⟩ := core_open hK
  obtain ⟨A3', c3', A4', c4', A5', c5', A6', c6', rfl, l3', g3', l4', g4', l5', g5', l6', g6'⟩ := core_open hK'
  have IHK := Lib.hid ihk; have IHA := Lib.hid iha; clear ihk iha
  have G3 := Lib.hid g3; have G4 := Lib.hid g4; have G5 := Lib.hid g5; have G6 := Lib.hid g6; clear g3 g4 g5 g6 hK
  have G3' := Lib.hid g3'; have G4' := Lib.hid g4'; have G5' := Lib.hid g5'; have G6' := Lib.hid g6'; clear g3' g4' g5' g6' hK'
  simp only [cellsC]
  go_enter Try.func9, Try.ntmps9
  go_wp2_with fail
  have HB0 := Lib.hid (((Below.refl w.heap.size w).alloc (Nat.le_refl _) (.cells #[Value.int IntKind.i64 x.kind, Value.string x.name, Value.bool x.minus, Value.slice A3 x.limbs.length c3, Value.slice A4 x.names.length c4, Value.slice A5 x.kids.length c5, Value.slice A6 x.alts.length c6] 36)).alloc (by simp) (.cells #[Value.int IntKind.i64 x.kind, Value.string x.name, Value.bool x.minus, Value.slice A3' x.limbs.length c3', Value.slice A4' x.names.length c4', Value.slice A5' x.kids.length c5', Value.slice A6' x.alts.length c6'] 36))
  obtain ⟨k, hk⟩ := eqBig_eq x.minus x.limbs G3.out.2.1
  refine (laws_eqBig.calls k _ _ _ _ _ _ _ _ _ _ (Kd.C_below G3.out HB0.out) l3 (Kd.C_below G3'.out HB0.out) l3' hk).mono ?_
  rintro e w2 ⟨rfl, hb2⟩
  have HB2 := Lib.hid hb2; clear hb2 hk HB0
  have hc2 := bcell HB2.out
  go_wp2_with fail
  clear hc2
  obtain ⟨k, hk⟩ := eqStringS_eq x.names G4.out.2.1
  refine (laws_eqStringS.calls k _ _ _ _ _ _ _ _ (Kd.C_below G4.out (below_box2 HB2.out)) l4 (Kd.C_below G4'.out (below_box2 HB2.out)) l4' hk).mono ?_
  rintro e w3 ⟨rfl, hb3⟩
  have HB3 := Lib.hid (Below.step HB2.out (Drawn0.below hb3)); clear hb3 HB2 hk
  have hc3 := bcell HB3.out
  go_wp2_with fail
  clear hc3
  refine (eqCoreS_any x.kids IHK.out _ _ _ _ _ (Kd.C_below G5.out (below_box2 HB3.out)) l5 (Kd.C_below G5'.out (below_box2 HB3.out)) l5').mono ?_
  rintro e w4 ⟨rfl, hb4⟩
  have HB4 := Lib.hid (Below.step HB3.out hb4); clear hb4 HB3
  have hc4 := bcell HB4.out
  go_wp2_with fail
  clear hc4
  refine (eqCoreAltS_any x.alts IHA.out _ _ _ _ _ (Kd.C_below G6.out (below_box2 HB4.out)) l6 (Kd.C_below G6'.out (below_box2 HB4.out)) l6').mono ?_
  rintro e w5 ⟨rfl, hb5⟩
  have HB5 := Lib.hid (Below.step HB4.out hb5); clear hb5 HB4
  go_wp2
  go_ret
  exact ⟨rfl, below_box2 HB5.out⟩
theorem eq_all (x : CoreT) : EqSaid x :=
  coreInd EqSaid (fun c hk ha => eqCore_any c hk (fun a h => eqCoreAlt_any a (ha a h))) x
end Go.Proofs.Ytagfphlhahiplaa.C13
namespace Go.Proofs.Ytagfphlhahiplaa.C13
open Go.RowKit Go.Proofs.YtagfphlhahiplaaW.PrintWords Go.Proofs.Ytagfphlhahiplaa.PFnExactFormatCore
set_option linter.unusedVariables false
set_option linter.unusedSimpArgs false
/-- block g is a row of cells, not frozen -/
def Blk (w : World) (g : Nat) (e : TypeId) (cs : List Value) : Prop := w.heap[g]? = some (.cells cs.toArray e (0, 0))
/-- a slice of n elements, whose cells are these: nil, or the head of a block -/
def Row (w : World) (e : TypeId) (v : Value) (n : Nat) (cells : List Value) (F : List Nat) : Prop :=
  (v = .slice none 0 0 ∧ n = 0 ∧ cells = [] ∧ F = []) ∨
    ∃ g cap spare, v = .slice (some ⟨g, 0, none⟩) n cap ∧ n ≤ cap ∧ cap ≤ 9223372036854775807 ∧ Blk w g e (cells ++ spare) ∧ F = [g]
def encI (k : IntKind) (l : List Int) : List Value := l.map (Value.int k)
def encS (l : List ByteArray) : List Value := l.map Value.string
mutual
/-- cs: a core term's cells -/
def OwnC (e ea : TypeId) (w : World) : CoreT → List Value → List Nat → Prop
  | ⟨kind, name, minus, limbs, names, kids, alts⟩, cs, F => ∃ v3 v4 v5 v6 F3 F4 F5 F6 G5 G6 c5 c6, cs = [.int .i64 kind, .string name, .bool minus, v3, v4, v5, v6] ∧ F = F3 ++ (F4 ++ ((F5 ++ G5) ++ (F6 ++ G6))) ∧
      Row w 108 v3 limbs.length (encI .u32 limbs) F3 ∧ Row w 9 v4 names.length (encS names) F4 ∧
      (Row w e v5 kids.length c5 F5 ∧ OwnCs e ea w kids c5 G5) ∧ (Row w ea v6 alts.length c6 F6 ∧ OwnAs e ea w alts c6 G6)
def OwnCs (e ea : TypeId) (w : World) : List CoreT → List Value → List Nat → Prop
  | [], cs, F => cs = [] ∧ F = []
  | c :: r, cs, F => ∃ c1 c2 F1 F2, cs = c1 ++ c2 ∧ F = F1 ++ F2 ∧ OwnC e ea w c c1 F1 ∧ OwnCs e ea w r c2 F2
def OwnAs (e ea : TypeId) (w : World) : List AltT → List Value → List Nat → Prop
  | [], cs, F => cs = [] ∧ F = []
  | a :: r, cs, F => ∃ c1 c2 F1 F2, cs = c1 ++ c2 ∧ F = F1 ++ F2 ∧ OwnA e ea w a c1 F1 ∧ OwnAs e ea w r c2 F2
def OwnA (e ea : TypeId) (w : World) : AltT → List Value → List Nat → Prop
  | ⟨con, names, body⟩, cs, F => ∃ v1 cb F1 F2, cs = .string con :: v1 :: cb ∧ F = F1 ++ F2 ∧ Row w 9 v1 names.length (encS names) F1 ∧ OwnC e ea w body cb F2
end
theorem OwnC_eq (e ea : TypeId) (w : World) (x : CoreT) (cs : List Value) (F : List Nat) : OwnC e ea w x cs F =
    ∃ v3 v4 v5 v6 F3 F4 F5 F6 G5 G6 c5 c6, cs = [.int .i64 x.kind, .string x.name, .bool x.minus, v3, v4, v5, v6] ∧ F = F3 ++ (F4 ++ ((F5 ++ G5) ++ (F6 ++ G6))) ∧
      Row w 108 v3 x.limbs.length (encI .u32 x.limbs) F3 ∧ Row w 9 v4 x.names.length (encS x.names) F4 ∧
      (Row w e v5 x.kids.length c5 F5 ∧ OwnCs e ea w x.kids c5 G5) ∧ (Row w ea v6 x.alts.length c6 F6 ∧ OwnAs e ea w x.alts c6 G6) := by cases x; rw [OwnC]
theorem OwnA_eq (e ea : TypeId) (w : World) (a : AltT) (cs : List Value) (F : List Nat) : OwnA e ea w a cs F =
    ∃ v1 cb F1 F2, cs = .string a.con :: v1 :: cb ∧ F = F1 ++ F2 ∧ Row w 9 v1 a.names.length (encS a.names) F1 ∧ OwnC e ea w a.body cb F2 := by cases a; rw [OwnA]
theorem Blk.lt {w : World} {g e cs} (h : Blk w g e cs) : g < w.heap.size := by
  unfold Blk at h
  rcases Nat.lt_or_ge g w.heap.size with h' | h'
  · exact h'
  · simp [Array.getElem?_eq_none h'] at h
theorem Blk.cell {w : World} {g e cs} (h : Blk w g e cs) {j : Nat} {u : Value} (hu : cs[j]? = some u) : w.cell? ⟨g, j, none⟩ = some u := by
  unfold Blk at h
  simp [World.cell?, h, hu]
theorem Blk.frozen {w : World} {g e cs} (h : Blk w g e cs) (j : Nat) : w.frozen? ⟨g, j, none⟩ = false := by
  unfold Blk at h
  simp [World.frozen?, h]
theorem Blk.move {w w' : World} {g e cs} (h : Blk w g e cs) (hm : w'.heap[g]? = w.heap[g]?) : Blk w' g e cs := hm.trans h
theorem Blk.below {w w' : World} {g e cs} (h : Blk w g e cs) (hb : Below w.heap.size w w') : Blk w' g e cs := h.move (hb.block g h.lt)
theorem Row.move {w w' : World} {e v n cells F} (h : Row w e v n cells F) (hm : ∀ k ∈ F, w'.heap[k]? = w.heap[k]?) : Row w' e v n cells F := by
  rcases h with h | ⟨g, cap, spare, h1, h2, h3, h4, rfl⟩
  · exact .inl h
  · exact .inr ⟨g, cap, spare, h1, h2, h3, h4.move (hm g (by simp)), rfl⟩
theorem Row.lt {w : World} {e v n cells F} (h : Row w e v n cells F) : ∀ k ∈ F, k < w.heap.size := by
  rcases h with ⟨_, _, _, rfl⟩ | ⟨g, cap, spare, h1, h2, h3, h4, rfl⟩
  · intro k hk; cases hk
  · intro k hk; rw [List.mem_singleton.1 hk]; exact h4.lt
theorem Row.slice {w : World} {e v n cells F} (h : Row w e v n cells F) : ∃ A c, v = .slice A n c ∧ n ≤ c := by
  rcases h with ⟨rfl, rfl, _, _⟩ | ⟨g, cap, spare, h1, h2, _⟩
  · exact ⟨none, 0, rfl, Nat.le_refl _⟩
  · exact ⟨_, _, h1, h2⟩
/-- a row whose cells are those of the elements, one behind the other, is read -/
theorem Row.reads {α : Type} {R : α → List Value → Prop} {size : Nat} {w : World} {e v cells F} {xs : List α} (h : Row w e v xs.length cells F) (hr : Reps R size xs cells) :
    ∃ A c, v = .slice A xs.length c ∧ xs.length ≤ c ∧ ReadsRow R size w A xs.length xs := by
  rcases h with ⟨rfl, hn, _, _⟩ | ⟨g, cap, spare, rfl, h2, h3, h4, rfl⟩
  · rw [hn]
    exact ⟨none, 0, rfl, Nat.le_refl _, hn, by omega, fun h => absurd h (by omega)⟩
  · refine ⟨_, _, rfl, h2, rfl, by omega, fun _ => ⟨_, rfl, fun j p hj => ?_⟩⟩
    have hlt : j < xs.length := (List.getElem?_eq_some_iff.1 hj).1
    have hjs : j * size + size ≤ cells.length := by rw [hr.1, ← Nat.succ_mul]; exact Nat.mul_le_mul_right _ hlt
    refine ⟨(cells.drop (j * size)).take size, by rw [List.length_take, List.length_drop]; omega, hr.2 j p hj, fun i u hu => ?_⟩
    have hi : i < size := by
      have := (List.getElem?_eq_some_iff.1 hu).1
      rw [List.length_take] at this
      omega
    rw [List.getElem?_take_of_lt hi, List.getElem?_drop] at hu
    have : (⟨g, 0, none⟩ : Addr).add (j * size + i) = ⟨g, j * size + i, none⟩ := by simp [Addr.add]; omega
    rw [this]
    exact h4.cell (by rw [List.getElem?_append_left (by omega)]; exact hu)
theorem reps_enc {α : Type} (enc : α → Value) (xs : List α) : Reps (fun (x : α) (cs : List Value) => cs = [enc x]) 1 xs (xs.map enc) := by
  refine ⟨by simp, fun j p hj => ?_⟩
  obtain ⟨hl, hp⟩ := List.getElem?_eq_some_iff.1 hj
  rw [Nat.mul_one, List.drop_eq_getElem_cons (by simpa using hl)]
  simp [hp]
theorem Row.readsI {w : World} {e v F} {l : List Int} (h : Row w e v l.length (encI .u32 l) F) : ∃ A c, v = .slice A l.length c ∧ l.length ≤ c ∧ (Kd.int .u32).C w A l.length l :=
  h.reads (R := (Kd.int .u32).K w) (size := 1) (reps_enc _ l)
theorem Row.readsS {w : World} {e v F} {l : List ByteArray} (h : Row w e v l.length (encS l) F) : ∃ A c, v = .slice A l.length c ∧ l.length ≤ c ∧ Kd.string.C w A l.length l :=
  h.reads (R := Kd.string.K w) (size := 1) (reps_enc _ l)
section
variable {P : Program} {ops : Array Oper} {rest : List Oper} {op : Oper} {a : Act} {w : World} {Q : Exit → Act → World → Prop}
theorem wpList_store_blk (g off : Nat) (pre old post new : List Value) (e : TypeId) (hgd : op.guard = none) (ty : TypeId) (x y : Operand) (ho : op.op = .store ty x y) 
    (hx : a.eval x = .pointer (some ⟨g, off, none⟩)) (hoff : off = pre.length) (hy : (a.eval y).cells.toList = new) (hb : Blk w g e (pre ++ (old ++ post))) (hlen : old.length = new.length)
    (hi : (P.info? ty).map (·.size) = some new.length) (h1 : ∀ v ∈ new, v.oneCell' = true)
    (h : ∀ w' : World, Blk w' g e (pre ++ (new ++ post)) → w.grownBy w' (some g) → w'.heap.size = w.heap.size → wpList P ops Q rest (a.put op.dst undef) w') : wpList P ops Q (op :: rest) a w := by
  subst hoff
  unfold Blk at hb
  have hfit : pre.length + new.length ≤ (pre ++ (old ++ post)).toArray.size := by simp; omega
  have hrun := run_store_run (P := P) ty (a.eval y) new hb hy hi hfit h1
  refine wpList_plain hgd fun K hK => ?_
  unfold Oper.wp execOp
  simp only [ho, hx, Sem.run_bind, Sem.run_pure, Result.andThen_ok, hrun]
  have hs := setCells_same g new pre.length w
  refine hK _ _ (h _ ?_ ⟨hs.1, hs.2.1, hs.2.2.1, by rw [hs.2.2.2]; exact Nat.le_refl _, fun k _ hk => setCells_far new pre.length k (fun e => hk (by rw [e]))⟩ hs.2.2.2)
  obtain ⟨cur', h1', h2', h3'⟩ := setCells_row new pre.length w _ hb hfit
  unfold Blk
  rw [h1']
  have : cur' = (pre ++ (new ++ post)).toArray := by
    apply Array.ext'
    rw [h3']
    simp [List.take_append, List.drop_append, ← hlen]
  rw [this]
end
mutual
def dep : CoreT → Nat
  | ⟨_, _, _, _, _, kids, alts⟩ => 1 + max (deps kids) (adeps alts)
def deps : List CoreT → Nat
  | [] => 0
  | c :: r => max (dep c) (deps r)
def adeps : List AltT → Nat
  | [] => 0
  | a :: r => max (adep a) (adeps r)
def adep : AltT → Nat
  | ⟨_, _, b⟩ => dep b
end
theorem dep_eq (c : CoreT) : dep c = 1 + max (deps c.kids) (adeps c.alts) := by cases c; rw [dep]
theorem adep_eq (a : AltT) : adep a = dep a.body := by cases a; rw [adep]
theorem deps_mem {l : List CoreT} {x : CoreT} (h : x ∈ l) : dep x ≤ deps l := by
  induction l with
  | nil => cases h
  | cons c r ih =>
    rw [deps]
    rcases List.mem_cons.1 h with rfl | h
    · exact Nat.le_max_left _ _
    · exact Nat.le_trans (ih h) (Nat.le_max_right _ _)
theorem adeps_mem {l : List AltT} {x : AltT} (h : x ∈ l) : dep x.body ≤ adeps l := by
  induction l with
  | nil => cases h
  | cons c r ih =>
    rw [adeps]
    rcases List.mem_cons.1 h with rfl | h
    · rw [adep_eq]; exact Nat.le_max_left _ _
    · exact Nat.le_trans (ih h) (Nat.le_max_right _ _)
section
variable {e ea : TypeId}
theorem ownCs_reps {w : World} {R : CoreT → List Value → Prop} : ∀ (l : List CoreT) (cs : List Value) (F : List Nat), (∀ x ∈ l, ∀ c F, OwnC e ea w x c F → R x c ∧ c.length = 7) → OwnCs e ea w l cs F → Reps R 7 l cs
  | [], cs, F, _, h => by rw [OwnCs] at h; rw [h.1]; exact Reps.none _ _
  | c :: r, cs, F, hx, h => by
    rw [OwnCs] at h
    obtain ⟨c1, c2, F1, F2, rfl, rfl, h1, h2⟩ := h
    have := hx c (by simp) c1 F1 h1
    have ih := ownCs_reps r c2 F2 (fun x hm => hx x (by simp [hm])) h2
    exact Kd.reps_append (Reps.snoc (Reps.none _ _) this.1 this.2) ih
theorem ownAs_reps {w : World} {R : AltT → List Value → Prop} : ∀ (l : List AltT) (cs : List Value) (F : List Nat), (∀ x ∈ l, ∀ c F, OwnA e ea w x c F → R x c ∧ c.length = 9) → OwnAs e ea w l cs F → Reps R 9 l cs
  | [], cs, F, _, h => by rw [OwnAs] at h; rw [h.1]; exact Reps.none _ _
  | c :: r, cs, F, hx, h => by
    rw [OwnAs] at h
    obtain ⟨c1, c2, F1, F2, rfl, rfl, h1, h2⟩ := h
    have := hx c (by simp) c1 F1 h1
    have ih := ownAs_reps r c2 F2 (fun x hm => hx x (by simp [hm])) h2
    exact Kd.reps_append (Reps.snoc (Reps.none _ _) this.1 this.2) ih
theorem own_len {w : World} {x : CoreT} {cs F} (h : OwnC e ea w x cs F) : cs.length = 7 := by
  rw [OwnC_eq] at h
  obtain ⟨v3, v4, v5, v6, F3, F4, F5, F6, G5, G6, c5, c6, rfl, _⟩ := h
  rfl
theorem ownA_len {w : World} {x : AltT} {cs F} (h : OwnA e ea w x cs F) : cs.length = 9 := by
  rw [OwnA_eq] at h
  obtain ⟨v1, cb, F1, F2, rfl, rfl, _, hb⟩ := h
  simp [own_len hb]
theorem own_upto (w : World) : ∀ (x : CoreT) (n : Nat), dep x ≤ n → ∀ cs F, OwnC e ea w x cs F → (Kd.upto (fCore e ea) 7 (eCore e ea) n).K w x cs := by
  refine coreInd _ (fun x hk ha => ?_)
  intro n hn cs F h
  rw [dep_eq] at hn
  obtain ⟨n, rfl⟩ : ∃ m, n = m + 1 := ⟨n - 1, by omega⟩
  rw [OwnC_eq] at h
  obtain ⟨v3, v4, v5, v6, F3, F4, F5, F6, G5, G6, c5, c6, rfl, rfl, h3, h4, ⟨h5, k5⟩, ⟨h6, k6⟩⟩ := h
  obtain ⟨A3, d3, rfl, l3, g3⟩ := h3.readsI
  obtain ⟨A4, d4, rfl, l4, g4⟩ := h4.readsS
  obtain ⟨A5, d5, rfl, l5, g5⟩ := h5.reads (ownCs_reps (R := (Kd.upto (fCore e ea) 7 (eCore e ea) n).K w) _ _ _ (fun y hy c F hc => ⟨hk y hy n (by have := deps_mem hy; omega) c F hc, own_len hc⟩) k5)
  have hA : ∀ a ∈ x.alts, ∀ c F, OwnA e ea w a c F → (kAlt (Kd.upto (fCore e ea) 7 (eCore e ea) n)).K w a c ∧ c.length = 9 := by
    intro a hm c F hc
    refine ⟨?_, ownA_len hc⟩
    rw [OwnA_eq] at hc
    obtain ⟨v1, cb, F1, F2, rfl, rfl, h1, hb⟩ := hc
    obtain ⟨A1, d1, rfl, l1, g1⟩ := h1.readsS
    exact ⟨[_], _, rfl, rfl, ⟨[_], _, rfl, ⟨A1, d1, rfl, l1, g1⟩, ha a hm n (by have := adeps_mem hm; omega) cb F2 hb⟩⟩
  obtain ⟨A6, d6, rfl, l6, g6⟩ := h6.reads (ownAs_reps (R := (kAlt (Kd.upto (fCore e ea) 7 (eCore e ea) n)).K w) _ _ _ hA k6)
  have g5' : (Kd.upto (fCore e ea) 7 (eCore e ea) n).C w A5 x.kids.length x.kids := by
    unfold Kd.C; rw [sz_core e ea n]; exact g5
  have g6' : (kAlt (Kd.upto (fCore e ea) 7 (eCore e ea) n)).C w A6 x.alts.length x.alts := by
    unfold Kd.C; rw [show (kAlt (Kd.upto (fCore e ea) 7 (eCore e ea) n)).sz = 9 from mono_kAlt.sz _ (kCore e ea) (sz_core e ea n)]; exact g6
  exact ⟨[_], _, rfl, rfl, ⟨[_], _, rfl, rfl, ⟨[_], _, rfl, rfl, ⟨[_], _, rfl, ⟨A3, d3, rfl, l3, g3⟩, ⟨[_], _, rfl, ⟨A4, d4, rfl, l4, g4⟩, ⟨[_], _, rfl, ⟨A5, d5, rfl, l5, g5'⟩, ⟨A6, d6, rfl, l6, g6'⟩⟩⟩⟩⟩⟩⟩
theorem own_K {w : World} {x : CoreT} {cs F} (h : OwnC e ea w x cs F) : (kCore e ea).K w x cs := ⟨dep x, own_upto w x _ (Nat.le_refl _) cs F h⟩
theorem ownCs_move {w w' : World} : ∀ (l : List CoreT) (cs : List Value) (F : List Nat), (∀ x ∈ l, ∀ c F, OwnC e ea w x c F → (∀ k ∈ F, w'.heap[k]? = w.heap[k]?) → OwnC e ea w' x c F) → OwnCs e ea w l cs F → (∀ k ∈ F, w'.heap[k]? = w.heap[k]?) → OwnCs e ea w' l cs F
  | [], cs, F, _, h, _ => by rw [OwnCs] at h ⊢; exact h
  | c :: r, cs, F, hx, h, hm => by
    rw [OwnCs] at h ⊢
    obtain ⟨c1, c2, F1, F2, rfl, rfl, h1, h2⟩ := h
    exact ⟨c1, c2, F1, F2, rfl, rfl, hx c (by simp) c1 F1 h1 (fun k hk => hm k (by simp [hk])), ownCs_move r c2 F2 (fun x hq => hx x (by simp [hq])) h2 (fun k hk => hm k (by simp [hk]))⟩
theorem ownAs_move {w w' : World} : ∀ (l : List AltT) (cs : List Value) (F : List Nat), (∀ x ∈ l, ∀ c F, OwnA e ea w x c F → (∀ k ∈ F, w'.heap[k]? = w.heap[k]?) → OwnA e ea w' x c F) → OwnAs e ea w l cs F → (∀ k ∈ F, w'.heap[k]? = w.heap[k]?) → OwnAs e ea w' l cs F
  | [], cs, F, _, h, _ => by rw [OwnAs] at h ⊢; exact h
  | c :: r, cs, F, hx, h, hm => by
    rw [OwnAs] at h ⊢
    obtain ⟨c1, c2, F1, F2, rfl, rfl, h1, h2⟩ := h
    exact ⟨c1, c2, F1, F2, rfl, rfl, hx c (by simp) c1 F1 h1 (fun k hk => hm k (by simp [hk])), ownAs_move r c2 F2 (fun x hq => hx x (by simp [hq])) h2 (fun k hk => hm k (by simp [hk]))⟩
theorem own_move {w w' : World} : ∀ (x : CoreT) cs F, OwnC e ea w x cs F → (∀ k ∈ F, w'.heap[k]? = w.heap[k]?) → OwnC e ea w' x cs F := by
  refine coreInd _ (fun x hk ha => ?_)
  intro cs F h hm
  rw [OwnC_eq] at h ⊢
  obtain ⟨v3, v4, v5, v6, F3, F4, F5, F6, G5, G6, c5, c6, rfl, rfl, h3, h4, ⟨h5, k5⟩, ⟨h6, k6⟩⟩ := h
  refine ⟨v3, v4, v5, v6, F3, F4, F5, F6, G5, G6, c5, c6, rfl, rfl, h3.move (fun k hk => hm k (by simp [hk])), h4.move (fun k hk => hm k (by simp [hk])), ⟨h5.move (fun k hk => hm k (by simp [hk])), ownCs_move _ _ _ hk k5 (fun k hk => hm k (by simp [hk]))⟩, ⟨h6.move (fun k hk => hm k (by simp [hk])), ownAs_move _ _ _ ?_ k6 (fun k hk => hm k (by simp [hk]))⟩⟩
  intro a hq c F hc hmm
  rw [OwnA_eq] at hc ⊢
  obtain ⟨v1, cb, F1, F2, rfl, rfl, h1, hb⟩ := hc
  exact ⟨v1, cb, F1, F2, rfl, rfl, h1.move (fun k hk => hmm k (by simp [hk])), ha a hq cb F2 hb (fun k hk => hmm k (by simp [hk]))⟩
theorem ownA_move {w w' : World} (x : AltT) (cs F) (h : OwnA e ea w x cs F) (hm : ∀ k ∈ F, w'.heap[k]? = w.heap[k]?) : OwnA e ea w' x cs F := by
  rw [OwnA_eq] at h ⊢
  obtain ⟨v1, cb, F1, F2, rfl, rfl, h1, hb⟩ := h
  exact ⟨v1, cb, F1, F2, rfl, rfl, h1.move (fun k hk => hm k (by simp [hk])), own_move _ _ _ hb (fun k hk => hm k (by simp [hk]))⟩
theorem ownCs_move' {w w' : World} {l cs F} (h : OwnCs e ea w l cs F) (hm : ∀ k ∈ F, w'.heap[k]? = w.heap[k]?) : OwnCs e ea w' l cs F := ownCs_move l cs F (fun x _ => own_move x) h hm
theorem ownAs_move' {w w' : World} {l cs F} (h : OwnAs e ea w l cs F) (hm : ∀ k ∈ F, w'.heap[k]? = w.heap[k]?) : OwnAs e ea w' l cs F := ownAs_move l cs F (fun x _ => ownA_move x) h hm
theorem ownCs_lt {w : World} : ∀ (l : List CoreT) (cs : List Value) (F : List Nat), (∀ x ∈ l, ∀ c F, OwnC e ea w x c F → ∀ k ∈ F, k < w.heap.size) → OwnCs e ea w l cs F → ∀ k ∈ F, k < w.heap.size
  | [], cs, F, _, h => by rw [OwnCs] at h; rw [h.2]; intro k hk; cases hk
  | c :: r, cs, F, hx, h => by
    rw [OwnCs] at h
    obtain ⟨c1, c2, F1, F2, rfl, rfl, h1, h2⟩ := h
    intro k hk
    rcases List.mem_append.1 hk with hk | hk
    · exact hx c (by simp) c1 F1 h1 k hk
    · exact ownCs_lt r c2 F2 (fun x hq => hx x (by simp [hq])) h2 k hk
theorem ownAs_lt {w : World} : ∀ (l : List AltT) (cs : List Value) (F : List Nat), (∀ x ∈ l, ∀ c F, OwnA e ea w x c F → ∀ k ∈ F, k < w.heap.size) → OwnAs e ea w l cs F → ∀ k ∈ F, k < w.heap.size
  | [], cs, F, _, h => by rw [OwnAs] at h; rw [h.2]; intro k hk; cases hk
  | c :: r, cs, F, hx, h => by
    rw [OwnAs] at h
    obtain ⟨c1, c2, F1, F2, rfl, rfl, h1, h2⟩ := h
    intro k hk
    rcases List.mem_append.1 hk with hk | hk
    · exact hx c (by simp) c1 F1 h1 k hk
    · exact ownAs_lt r c2 F2 (fun x hq => hx x (by simp [hq])) h2 k hk
theorem own_lt {w : World} : ∀ (x : CoreT) cs F, OwnC e ea w x cs F → ∀ k ∈ F, k < w.heap.size := by
  refine coreInd _ (fun x hk ha => ?_)
  intro cs F h k hm
  rw [OwnC_eq] at h
  obtain ⟨v3, v4, v5, v6, F3, F4, F5, F6, G5, G6, c5, c6, rfl, rfl, h3, h4, ⟨h5, k5⟩, ⟨h6, k6⟩⟩ := h
  simp only [List.mem_append] at hm
  rcases hm with hm | hm | (hm | hm) | (hm | hm)
  · exact h3.lt k hm
  · exact h4.lt k hm
  · exact h5.lt k hm
  · exact ownCs_lt _ _ _ hk k5 k hm
  · exact h6.lt k hm
  · refine ownAs_lt _ _ _ ?_ k6 k hm
    intro a hq c F hc k hm
    rw [OwnA_eq] at hc
    obtain ⟨v1, cb, F1, F2, rfl, rfl, h1, hb⟩ := hc
    rcases List.mem_append.1 hm with hm | hm
    · exact h1.lt k hm
    · exact ha a hq cb F2 hb k hm
theorem ownA_lt {w : World} (x : AltT) (cs F) (h : OwnA e ea w x cs F) : ∀ k ∈ F, k < w.heap.size := by
  rw [OwnA_eq] at h
  obtain ⟨v1, cb, F1, F2, rfl, rfl, h1, hb⟩ := h
  intro k hm
  rcases List.mem_append.1 hm with hm | hm
  · exact h1.lt k hm
  · exact own_lt _ _ _ hb k hm
theorem ownCs_lt' {w : World} {l cs F} (h : OwnCs e ea w l cs F) : ∀ k ∈ F, k < w.heap.size := ownCs_lt l cs F (fun x _ => own_lt x) h
theorem ownAs_lt' {w : World} {l cs F} (h : OwnAs e ea w l cs F) : ∀ k ∈ F, k < w.heap.size := ownAs_lt l cs F (fun x _ => ownA_lt x) h
theorem ownCs_snoc {w : World} : ∀ (l : List CoreT) (cs : List Value) (F : List Nat) (x : CoreT) c G, OwnCs e ea w l cs F → OwnC e ea w x c G → OwnCs e ea w (l ++ [x]) (cs ++ c) (F ++ G)
  | [], cs, F, x, c, G, h, hx => by
    rw [OwnCs] at h
    obtain ⟨rfl, rfl⟩ := h
    rw [List.nil_append, OwnCs]
    exact ⟨c, [], G, [], by simp, by simp, hx, by rw [OwnCs]; exact ⟨rfl, rfl⟩⟩
  | y :: r, cs, F, x, c, G, h, hx => by
    rw [OwnCs] at h
    obtain ⟨c1, c2, F1, F2, rfl, rfl, h1, h2⟩ := h
    rw [List.cons_append, OwnCs]
    exact ⟨c1, c2 ++ c, F1, F2 ++ G, by simp, by simp, h1, ownCs_snoc r c2 F2 x c G h2 hx⟩
theorem ownAs_snoc {w : World} : ∀ (l : List AltT) (cs : List Value) (F : List Nat) (x : AltT) c G, OwnAs e ea w l cs F → OwnA e ea w x c G → OwnAs e ea w (l ++ [x]) (cs ++ c) (F ++ G)
  | [], cs, F, x, c, G, h, hx => by
    rw [OwnAs] at h
    obtain ⟨rfl, rfl⟩ := h
    rw [List.nil_append, OwnAs]
    exact ⟨c, [], G, [], by simp, by simp, hx, by rw [OwnAs]; exact ⟨rfl, rfl⟩⟩
  | y :: r, cs, F, x, c, G, h, hx => by
    rw [OwnAs] at h
    obtain ⟨c1, c2, F1, F2, rfl, rfl, h1, h2⟩ := h
    rw [List.cons_append, OwnAs]
    exact ⟨c1, c2 ++ c, F1, F2 ++ G, by simp, by simp, h1, ownAs_snoc r c2 F2 x c G h2 hx⟩
end
end Go.Proofs.Ytagfphlhahiplaa.C13
