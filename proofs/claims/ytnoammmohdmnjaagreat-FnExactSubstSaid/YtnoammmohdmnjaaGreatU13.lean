import Derived.Test.YtnoammmohdmnjaaGreatU12
set_option maxRecDepth 100000
set_option maxHeartbeats 16000000
set_option linter.unusedVariables false
set_option linter.unusedSimpArgs false
namespace Go.Proofs.YtnoammmohdmnjaaGreat.C13
open Go.RowKit Go.Proofs.YtnoammmohdmnjaaGreatW.PrintWords
open List renaming setIfInBounds_toArray → Jla, set_cons_zero → Jlb, set_cons_succ → Jlc
theorem qkm (m : Bool) (l : List Int) (A : Option Addr) (c : Nat) (w : World) (hr : (Kd.int .u32).C w A l.length l) (hc : l.length ≤ c) (hn : l.length ≤ 274877906944) :
  Qh 123 #[.agg #[.bool m, .slice A l.length c]] w (Jl m l) := by
 unfold Qh
 have HR := Wd hr; clear hr
 have HB := Wd (Zv w (.cells #[.bool m, .slice A l.length c] 31))
 obtain ⟨r, hrr⟩ : ∃ r, r = Jl m l := ⟨_, rfl⟩
 rw [← hrr]
 unfold Jl at hrr
 by_cases h0 : l.length = 0
 ·rw [if_neg (by omega), if_neg (by omega)] at hrr
  subst hrr
  have q0 : ((l.length : Int) == 0) = true := beq_iff_eq.2 (by omega)
  go_enter Tryz.func123, Tryz.ntmps123
  go_wp2
  go_ret
  exact ⟨rfl, by have := HB.out; rw [h0] at this; exact this⟩
 ·have q0 : ((l.length : Int) == 0) = false := beq_eq_false_iff_ne.2 (by omega)
  by_cases h1 : l.length > 40
  ·rw [if_pos h1] at hrr
   subst hrr
   go_enter Tryz.func123, Tryz.ntmps123
   go_wp2
   go_ret
   exact ⟨rfl, HB.out⟩
  ·rw [if_neg h1, if_pos (by omega)] at hrr
   have q40 : decide (40 < (l.length : Int)) = false := decide_eq_false (by omega)
   obtain ⟨ad, rfl, g0⟩ := qbb HR.out (l.length - 1) (by omega)
   have hrd : rd l (l.length - 1 : Int) = l[l.length - 1]'(by omega) := by
    exact f102
   rw [hrd] at hrr
   have HRR := Wd hrr; clear hrr hrd
   have g1 := Cl HB.out g0
   clear g0
   generalize l[l.length - 1]'(by omega) = z at *
   by_cases hz : z = 0
   ·go_enter Tryz.func123, Tryz.ntmps123
    go_wp2
    go_ret
    exact ⟨by rw [HRR.out, hz]; rfl, HB.out⟩
   ·have q2 : (z == 0) = false := beq_eq_false_iff_ne.2 hz
    have HZ := Wd hz; clear hz
    go_enter Tryz.func123, Tryz.ntmps123
    go_wp2
    go_ret
    exact ⟨by rw [HRR.out, decide_eq_false HZ.out]; rfl, HB.out⟩
theorem qiw (s : ByteArray) (w : World) : Calls Tryz.prog 132 #[.string s] w fun e w' => e = .returned (.int .i64 (Qi s)) ∧ Below w.heap.size w w' := by
 by_cases h0 : s.toList = [112, 114, 105, 109, 65, 100, 100]
 case pos =>
  have q0 : (s.toList == [112, 114, 105, 109, 65, 100, 100]) = true := beq_iff_eq.2 h0
  have P := Wd (show Qi s = 2 by unfold Qi; rw [h0]; decide); clear h0
  go_enter Tryz.func132, Tryz.ntmps132
  exact f17
 have q0 : (s.toList == [112, 114, 105, 109, 65, 100, 100]) = false := beq_eq_false_iff_ne.2 h0
 by_cases h1 : s.toList = [112, 114, 105, 109, 83, 117, 98]
 case pos =>
  have q1 : (s.toList == [112, 114, 105, 109, 83, 117, 98]) = true := beq_iff_eq.2 h1
  have P := Wd (show Qi s = 2 by unfold Qi; rw [h1]; decide); clear h1
  go_enter Tryz.func132, Tryz.ntmps132
  exact f17
 have q1 : (s.toList == [112, 114, 105, 109, 83, 117, 98]) = false := beq_eq_false_iff_ne.2 h1
 by_cases h2 : s.toList = [112, 114, 105, 109, 77, 117, 108]
 case pos =>
  have q2 : (s.toList == [112, 114, 105, 109, 77, 117, 108]) = true := beq_iff_eq.2 h2
  have P := Wd (show Qi s = 2 by unfold Qi; rw [h2]; decide); clear h2
  go_enter Tryz.func132, Tryz.ntmps132
  exact f17
 have q2 : (s.toList == [112, 114, 105, 109, 77, 117, 108]) = false := beq_eq_false_iff_ne.2 h2
 by_cases h3 : s.toList = [112, 114, 105, 109, 68, 105, 118]
 case pos =>
  have q3 : (s.toList == [112, 114, 105, 109, 68, 105, 118]) = true := beq_iff_eq.2 h3
  have P := Wd (show Qi s = 2 by unfold Qi; rw [h3]; decide); clear h3
  go_enter Tryz.func132, Tryz.ntmps132
  exact f17
 have q3 : (s.toList == [112, 114, 105, 109, 68, 105, 118]) = false := beq_eq_false_iff_ne.2 h3
 by_cases h4 : s.toList = [112, 114, 105, 109, 77, 111, 100]
 case pos =>
  have q4 : (s.toList == [112, 114, 105, 109, 77, 111, 100]) = true := beq_iff_eq.2 h4
  have P := Wd (show Qi s = 2 by unfold Qi; rw [h4]; decide); clear h4
  go_enter Tryz.func132, Tryz.ntmps132
  exact f17
 have q4 : (s.toList == [112, 114, 105, 109, 77, 111, 100]) = false := beq_eq_false_iff_ne.2 h4
 by_cases h5 : s.toList = [112, 114, 105, 109, 69, 113]
 case pos =>
  have q5 : (s.toList == [112, 114, 105, 109, 69, 113]) = true := beq_iff_eq.2 h5
  have P := Wd (show Qi s = 2 by unfold Qi; rw [h5]; decide); clear h5
  go_enter Tryz.func132, Tryz.ntmps132
  exact f17
 have q5 : (s.toList == [112, 114, 105, 109, 69, 113]) = false := beq_eq_false_iff_ne.2 h5
 by_cases h6 : s.toList = [112, 114, 105, 109, 76, 101, 115, 115]
 case pos =>
  have q6 : (s.toList == [112, 114, 105, 109, 76, 101, 115, 115]) = true := beq_iff_eq.2 h6
  have P := Wd (show Qi s = 2 by unfold Qi; rw [h6]; decide); clear h6
  go_enter Tryz.func132, Tryz.ntmps132
  exact f17
 have q6 : (s.toList == [112, 114, 105, 109, 76, 101, 115, 115]) = false := beq_eq_false_iff_ne.2 h6
 by_cases h7 : s.toList = [112, 114, 105, 109, 83, 101, 113]
 case pos =>
  have q7 : (s.toList == [112, 114, 105, 109, 83, 101, 113]) = true := beq_iff_eq.2 h7
  have P := Wd (show Qi s = 2 by unfold Qi; rw [h7]; decide); clear h7
  go_enter Tryz.func132, Tryz.ntmps132
  exact f17
 have q7 : (s.toList == [112, 114, 105, 109, 83, 101, 113]) = false := beq_eq_false_iff_ne.2 h7
 by_cases h8 : s.toList = [112, 114, 105, 109, 79, 114, 100]
 case pos =>
  have q8 : (s.toList == [112, 114, 105, 109, 79, 114, 100]) = true := beq_iff_eq.2 h8
  have P := Wd (show Qi s = 1 by unfold Qi; rw [h8]; decide); clear h8
  go_enter Tryz.func132, Tryz.ntmps132
  exact f17
 have q8 : (s.toList == [112, 114, 105, 109, 79, 114, 100]) = false := beq_eq_false_iff_ne.2 h8
 by_cases h9 : s.toList = [112, 114, 105, 109, 67, 104, 114]
 case pos =>
  have q9 : (s.toList == [112, 114, 105, 109, 67, 104, 114]) = true := beq_iff_eq.2 h9
  have P := Wd (show Qi s = 1 by unfold Qi; rw [h9]; decide); clear h9
  go_enter Tryz.func132, Tryz.ntmps132
  exact f17
 have q9 : (s.toList == [112, 114, 105, 109, 67, 104, 114]) = false := beq_eq_false_iff_ne.2 h9
 by_cases h10 : s.toList = [112, 114, 105, 109, 83, 104, 111, 119]
 case pos =>
  have q10 : (s.toList == [112, 114, 105, 109, 83, 104, 111, 119]) = true := beq_iff_eq.2 h10
  have P := Wd (show Qi s = 1 by unfold Qi; rw [h10]; decide); clear h10
  go_enter Tryz.func132, Tryz.ntmps132
  exact f17
 have q10 : (s.toList == [112, 114, 105, 109, 83, 104, 111, 119]) = false := beq_eq_false_iff_ne.2 h10
 by_cases h11 : s.toList = [112, 114, 105, 109, 69, 114, 114, 111, 114]
 case pos =>
  have q11 : (s.toList == [112, 114, 105, 109, 69, 114, 114, 111, 114]) = true := beq_iff_eq.2 h11
  have P := Wd (show Qi s = 1 by unfold Qi; rw [h11]; decide); clear h11
  go_enter Tryz.func132, Tryz.ntmps132
  exact f17
 have q11 : (s.toList == [112, 114, 105, 109, 69, 114, 114, 111, 114]) = false := beq_eq_false_iff_ne.2 h11
 have P := Wd (show Qi s = 0 by unfold Qi; simp only [qtp, qto, List.mem_cons, List.not_mem_nil, or_false, h0, h1, h2, h3, h4, h5, h6, h7, h8, h9, h10, h11, or_self, if_false])
 clear h0 h1 h2 h3 h4 h5 h6 h7 h8 h9 h10 h11
 go_enter Tryz.func132, Tryz.ntmps132
 exact f17
section
variable {S w : World} {x : CoreT} {p : Addr}
theorem Zn {n : Nat} {w W : World} (h : Below n w W) : Below n w W.drew := ⟨h.os, h.tape, h.output, h.size, h.block⟩
theorem Blk.drew {w : World} {g e cs} (h : Blk w g e cs) : Blk w.drew g e cs := h.below (Zn (Below.refl _ _))
theorem f113 {p : Prop} (h : p := by
 go_wp2
 go_ret
 exact ⟨by rw [HRR.out, Qd (fun h => N4.out h.2.2.2.2.1)]; first | done | rfl, HB4.out⟩) : p := h
theorem f114 {p : Prop} (h : p := by
 go_wp2
 go_ret
 exact ⟨by rw [HRR.out, Qd (fun h => N3.out h.2.2.2.1)]; first | done | rfl, HB3.out⟩) : p := h
theorem qzt (hat : At w x p) (hbk : bulk x ≤ 274877906944) : Qh 129 #[.agg #[.pointer (some p)]] w (dec ((x.name.size = 0) ∧ (0 < x.names.length) ∧ (x.kids.length = x.names.length + 1) ∧ (Zh x.names) ∧ (x.alts.length = 0) ∧ (Ql x))) := by
 obtain ⟨b1, b2, b3, b4, b5⟩ := Qz hbk
 have HBK := Wd hbk; clear hbk
 have HAT := Wd hat
 obtain ⟨A3, c3, A4, c4, A5, c5, A6, c6, hK, g0, g1, g2, g3, g4, g5, g6⟩ := hat
 have NM := Wd (Kt hK)
 clear hK
 have HB := Wd (Zv w (.cells #[.pointer (some p)] 116))
 have ⟨G1, G4, G5⟩ := Wq g1 g4 g5
 clear g0 g1 g2 g3 g4 g5 g6
 unfold Qh
 obtain ⟨r, hrr⟩ : ∃ r, r = dec ((x.name.size = 0) ∧ (0 < x.names.length) ∧ (x.kids.length = x.names.length + 1) ∧ (Zh x.names) ∧ (x.alts.length = 0) ∧ (Ql x)) := ⟨_, rfl⟩
 rw [← hrr]
 have HRR := Wd hrr; clear hrr
 go_enter Tryz.func129, Tryz.ntmps129
 go_wp2_with fail
 obtain ⟨W1, hW1, hp1, hB1, hs1⟩ := boxed w [.pointer (some p)] 116
 rw [← hW1]
 have BP0 := Wd hp1; have HB0 := Wd hB1; clear hW1 hp1 hB1 hs1
 refine Uq 34 (by kernel_rfl) (by kernel_rfl) ?_
 simp only [List.take_succ_cons, List.take_zero, List.drop_succ_cons, List.drop_zero]
 have z0 := BP0.out.cell (j := 0) rfl
 have g1 := Cl HB0.out G1.out
 by_cases c0 : x.name.size = 0
 case neg =>
  have q1 := Jh (s := x.name) (by omega); have q2 := Xl (s := x.name) (by omega)
  have N0 := Wd c0; clear c0
  iterate 8 (refine StillW.step (by kernel_rfl) (fun K hK => ?_); go_simp; refine hK _ ?_; clear hK K)
  iterate 8 (refine StillW.pass (by kernel_rfl) (by kernel_rfl) ?_)
  iterate 2 (refine StillW.step (by kernel_rfl) (fun K hK => ?_); go_simp; refine hK _ ?_; clear hK K)
  iterate 16 (refine StillW.pass (by kernel_rfl) (by kernel_rfl) ?_)
  refine StillW.done ?_
  clear g1 z0
  go_wp2
  go_ret
  exact ⟨by rw [HRR.out, Qd (fun h => N0.out h.1)]; first | done | rfl, Zn HB0.out⟩
 have e1 : x.name = ⟨#[]⟩ := Kj.1 c0
 rw [e1] at g1
 have C0 := Wd c0; have E1 := Wd e1; clear c0 e1
 have g4 := Cl HB0.out G4.out
 by_cases c1 : 0 < x.names.length
 case neg =>
  have N1 := Wd c1
  iterate 18 (refine StillW.step (by kernel_rfl) (fun K hK => ?_); go_simp; refine hK _ ?_; clear hK K)
  iterate 16 (refine StillW.pass (by kernel_rfl) (by kernel_rfl) ?_)
  refine StillW.done ?_
  clear g1 z0 g4
  go_wp2
  go_ret
  exact ⟨by rw [HRR.out, Qd (fun h => N1.out h.2.1)]; first | done | rfl, Zn HB0.out⟩
 have C1 := Wd c1
 have g5 := Cl HB0.out G5.out
 have w1 : IntKind.i64.wrap ((x.names.length : Int) + 1) = (x.names.length : Int) + 1 := IntWalk.i64_in _ (by omega)
 by_cases c2 : x.kids.length = x.names.length + 1
 case neg =>
  have q2 : ((x.kids.length : Int) == (x.names.length : Int) + 1) = false := beq_eq_false_iff_ne.2 (by omega)
  have N2 := Wd c2; clear c2
  iterate 34 (refine StillW.step (by kernel_rfl) (fun K hK => ?_); go_simp; refine hK _ ?_; clear hK K)
  refine StillW.done ?_
  clear g1 z0 g4 g5
  go_wp2
  go_ret
  exact ⟨by rw [HRR.out, Qd (fun h => N2.out h.2.2.1)]; first | done | rfl, Zn HB0.out⟩
 have q2 : ((x.kids.length : Int) == (x.names.length : Int) + 1) = true := beq_iff_eq.2 (by omega)
 have C2 := Wd c2; clear c2
 iterate 34 (refine StillW.step (by kernel_rfl) (fun K hK => ?_); go_simp; refine hK _ ?_; clear hK K)
 refine StillW.done ?_
 clear g1 z0 g4 g5 w1 q2
 obtain ⟨W2, hW2⟩ : ∃ W2, W2 = W1.drew := ⟨_, rfl⟩
 rw [← hW2]
 have HB2 := Wd (show Below w.heap.size w W2 by rw [hW2]; exact Zn HB0.out)
 have BP2 := Wd (show Blk W2 w.heap.size 116 [.pointer (some p)] by rw [hW2]; exact BP0.out.drew)
 clear hW2 HB0 BP0
 have z0 := BP2.out.cell (j := 0) rfl
 have g4 := Cl HB2.out G4.out
 go_wp2_with fail
 clear z0 g4
 refine (qbj x.names (qil HBK.out) b4 _ _ _ (Kd.C_below NM.out.2 HB2.out) NM.out.1).mono ?_
 rintro e w3 ⟨rfl, hb⟩
 have HB3 := Wd (Below.step HB2.out hb); have BP3 := Wd (BP2.out.below hb); clear hb
 have z0 := BP3.out.cell (j := 0) rfl
 by_cases c3 : Zh x.names
 case neg =>
  rw [Qd c3]
  have N3 := Wd c3; clear c3
  exact f114
 rw [Qm c3]
 have C3 := Wd c3; clear c3
 go_wp2_with fail
 clear z0
 refine (Vv (HAT.out.later HB3.out) HBK.out).mono ?_
 rintro e w4 ⟨rfl, hb⟩
 have HB4 := Wd (Below.step HB3.out hb); have BP4 := Wd (BP3.out.below hb); clear hb
 have z0 := BP4.out.cell (j := 0) rfl
 by_cases c4 : x.alts.length = 0
 case neg =>
  rw [Qd c4]
  have N4 := Wd c4; clear c4
  exact f113
 rw [Qm c4]
 have C4 := Wd c4; clear c4
 go_wp2_with fail
 clear z0
 refine (Kf (HAT.out.later HB4.out) HBK.out).mono ?_
 rintro e w5 ⟨rfl, hb⟩
 have HB5 := Wd (Below.step HB4.out hb); clear hb
 by_cases c5 : Ql x
 case neg =>
  rw [show ((x.minus = false) ∧ (x.limbs.length = 0)) = Ql x from rfl, Qd c5]
  have N5 := Wd c5; clear c5
  go_wp2
  go_ret
  exact ⟨by rw [HRR.out, Qd (fun h => N5.out h.2.2.2.2.2)]; first | done | rfl, HB5.out⟩
 rw [show ((x.minus = false) ∧ (x.limbs.length = 0)) = Ql x from rfl, Qm c5]
 have C5 := Wd c5; clear c5
 go_wp2
 go_ret
 exact ⟨by rw [HRR.out, Qm ⟨C0.out, C1.out, C2.out, C3.out, C4.out, C5.out⟩]; first | done | rfl, HB5.out⟩
end
section
variable {S w : World} {x : CoreT} {p : Addr}
theorem qzp {A3 c3 A4 c4 A5 c5 A6 c6} (hK : IC.K w x (Qb x A3 c3 A4 c4 A5 c5 A6 c6)) : IA.C w A6 x.alts.length x.alts := by
 obtain ⟨_, _, _, _, _, _, _, _, he, -, -, -, -, -, -, -, g6⟩ := Qk hK
 simp only [Qb, List.cons.injEq, Value.slice.injEq, true_and, and_true] at he
 obtain ⟨⟨rfl, rfl⟩, ⟨rfl, rfl⟩, ⟨rfl, rfl⟩, ⟨rfl, rfl⟩⟩ := he
 exact g6
theorem zap {w : World} {base : Nat} {e : TypeId} {size : Nat} {v : Value} {n : Nat} {xs : List Value} (h : w.ownsRow base e size v n xs) : ∀ k, v.ownBlock = some k → k < w.heap.size := by
 intro k hk
 rcases h.2 with ⟨rfl, _⟩ | ⟨g, cap, cur, rfl, hg, hh, _⟩
 ·cases hk
 ·simp only [Value.ownBlock] at hk; injection hk with hk; subst hk
  exact (Array.getElem?_eq_some_iff.1 hh).1
theorem qvo (hat : At w x p) (hbk : bulk x ≤ 274877906944) : Qh 130 #[.agg #[.pointer (some p)]] w (dec ((x.names.length = 0) ∧ (Ql x) ∧ (1 ≤ x.kids.length) ∧ (x.kids.length ≤ 2) ∧ (2 ≤ x.kids.length + x.alts.length) ∧ (∀ a ∈ x.alts, Zh a.names) ∧ Zh (x.alts.map (·.con)))) := by
 obtain ⟨b1, b2, b3, b4, b5⟩ := Qz hbk
 have HBK := Wd hbk; clear hbk
 have HAT := Wd hat
 obtain ⟨A3, c3, A4, c4, A5, c5, A6, c6, hK, g0, g1, g2, g3, g4, g5, g6⟩ := hat
 have A6' := Wd (qzp hK)
 clear hK
 have G5 := Wd g5; have G6 := Wd g6
 clear g0 g1 g2 g3 g4 g5 g6
 unfold Qh
 obtain ⟨r, hrr⟩ : ∃ r, r = dec ((x.names.length = 0) ∧ (Ql x) ∧ (1 ≤ x.kids.length) ∧ (x.kids.length ≤ 2) ∧ (2 ≤ x.kids.length + x.alts.length) ∧ (∀ a ∈ x.alts, Zh a.names) ∧ Zh (x.alts.map (·.con))) := ⟨_, rfl⟩
 rw [← hrr]
 have HRR := Wd hrr; clear hrr
 go_enter Tryz.func130, Tryz.ntmps130
 go_wp2_with fail
 obtain ⟨W1, hW1, hp1, hB1, hs1⟩ := boxed w [.pointer (some p)] 117
 rw [← hW1]
 have BP0 := Wd hp1; have HB0 := Wd hB1; clear hW1 hp1 hB1 hs1
 refine qkb 31 45 (by kernel_rfl) (by kernel_rfl) ?_
 simp only [List.take_succ_cons, List.take_zero, List.drop_succ_cons, List.drop_zero]
 obtain ⟨W2, hW2⟩ : ∃ W2, W2 = W1.drew := ⟨_, rfl⟩
 rw [← hW2]
 have HB2 := Wd (show Below w.heap.size w W2 by rw [hW2]; exact Zn HB0.out)
 have BP2 := Wd (show Blk W2 w.heap.size 117 [.pointer (some p)] by rw [hW2]; exact BP0.out.drew)
 clear hW2 HB0 BP0
 have z0 := BP2.out.cell (j := 0) rfl
 go_wp2_with fail
 clear z0
 refine (Ua (HAT.out.later HB2.out) HBK.out).mono ?_
 rintro e w3 ⟨rfl, hb⟩
 have HB3 := Wd (Below.step HB2.out hb); have BP3 := Wd (BP2.out.below hb); clear hb
 have z0 := BP3.out.cell (j := 0) rfl
 by_cases c0 : x.names.length = 0
 case neg =>
  rw [Qd c0]
  have N0 := Wd c0; clear c0
  go_wp2_with fail
  refine Gp ?_
  iterate 14 (refine StillW.pass (by kernel_rfl) (by kernel_rfl) ?_)
  refine StillW.done ?_
  go_wp2
  go_ret
  exact ⟨by rw [HRR.out, Qd (fun h => N0.out h.1)]; first | done | rfl, HB3.out⟩
 rw [Qm c0]
 have C0 := Wd c0; clear c0
 go_wp2_with fail
 clear z0
 refine (Kf (HAT.out.later HB3.out) HBK.out).mono ?_
 rintro e w4 ⟨rfl, hb⟩
 have HB4 := Wd (Below.step HB3.out hb); have BP4 := Wd (BP3.out.below hb); clear hb
 have z0 := BP4.out.cell (j := 0) rfl
 have g5 := Cl HB4.out G5.out
 by_cases c1 : Ql x
 case neg =>
  rw [show ((x.minus = false) ∧ (x.limbs.length = 0)) = Ql x from rfl, Qd c1]
  have N1 := Wd c1; clear c1
  go_wp2_with fail
  refine Gp ?_
  iterate 14 (refine StillW.pass (by kernel_rfl) (by kernel_rfl) ?_)
  refine StillW.done ?_
  go_wp2
  go_ret
  exact ⟨by rw [HRR.out, Qd (fun h => N1.out h.2.1)]; first | done | rfl, HB4.out⟩
 rw [show ((x.minus = false) ∧ (x.limbs.length = 0)) = Ql x from rfl, Qm c1]
 have C1 := Wd c1; clear c1
 by_cases c2 : 1 ≤ x.kids.length
 case neg =>
  have N2 := Wd c2
  have q2 : decide ((x.kids.length : Int) < 1) = true := decide_eq_true (by omega)
  go_wp2_with fail
  refine Gp ?_
  iterate 14 (refine StillW.pass (by kernel_rfl) (by kernel_rfl) ?_)
  refine StillW.done ?_
  go_wp2
  go_ret
  exact ⟨by rw [HRR.out, Qd (fun h => N2.out h.2.2.1)]; first | done | rfl, HB4.out⟩
 have C2 := Wd c2
 have q2 : decide ((x.kids.length : Int) < 1) = false := decide_eq_false (by omega)
 by_cases c3 : x.kids.length ≤ 2
 case neg =>
  have N3 := Wd c3
  have q3 : decide (2 < (x.kids.length : Int)) = true := decide_eq_true (by omega)
  go_wp2_with fail
  refine Gp ?_
  iterate 14 (refine StillW.pass (by kernel_rfl) (by kernel_rfl) ?_)
  refine StillW.done ?_
  go_wp2
  go_ret
  exact ⟨by rw [HRR.out, Qd (fun h => N3.out h.2.2.2.1)]; first | done | rfl, HB4.out⟩
 have C3 := Wd c3
 have q3 : decide (2 < (x.kids.length : Int)) = false := decide_eq_false (by omega)
 have g6 := Cl HB4.out G6.out
 have w1 : IntKind.i64.wrap ((x.kids.length : Int) + x.alts.length) = (x.kids.length : Int) + x.alts.length := IntWalk.i64_in _ (by omega)
 go_wp2_with fail
 refine Gp ?_
 iterate 14 (refine StillW.step (by kernel_rfl) (fun K hK => ?_); go_simp; refine hK _ ?_; clear hK K)
 refine StillW.done ?_
 clear g5 g6 q2 q3 z0
 by_cases c4 : 2 ≤ x.kids.length + x.alts.length
 case neg =>
  have N4 := Wd c4
  have q4 : decide ((x.kids.length : Int) + x.alts.length < 2) = true := decide_eq_true (by omega)
  exact f113
 have C4 := Wd c4
 have q4 : decide ((x.kids.length : Int) + x.alts.length < 2) = false := decide_eq_false (by omega)
 have z0 := (BP4.out.alloc (.cells #[] 9)).cell (j := 0) rfl
 have g6 : (w4.alloc (Obj.cells #[] 9)).cell? ⟨p.block, p.off + 6, none⟩ = _ := Cl (Zv w4 _) (Cl HB4.out G6.out)
 go_wp2_with fail
 clear z0 g6 w1 q4
 go_loopw [3, 5, 62] (fun v v5 i wr => ∃ (k : Nat), k ≤ x.alts.length ∧ i = .int .i64 k ∧ Hid (∀ a ∈ x.alts.take k, Zh a.names) ∧ Hid (wr.ownsRow w4.heap.size 9 1 v k (Xa ((x.alts.map (·.con)).take k))) ∧ Hid (Below w4.heap.size w4 wr)) (fun _ _ i _ => x.alts.length - (intOf i).toNat)
 case atStart => exact ⟨0, Nat.zero_le _, rfl, Wd (fun a ha => by simp at ha), Wd (qgo w4 _ _ rfl), Wd (Below.alloc (Below.refl _ _) (Nat.le_refl _) _)⟩
 case round =>
  obtain ⟨k, hk, rfl, HN, HOW, HB⟩ := hrel
  have HBw := Wd (Below.step HB4.out HB.out)
  by_cases hlt : k < x.alts.length
  ·obtain ⟨ad, A1, c1, A3', c3', A4', c4', B5, d5, B6, d6, rfl, _, _, l1, hnm, g0, g1, g2, g3, g4, g5, g6, g7, g8⟩ := Yd A6'.out HBw.out k hlt
   have hnb := Zu (List.getElem_mem hlt)
   rw [Zo] at hnb
   have HLT := Wd hlt
   go_wp2_with (at_builtin; go_must (refine Ux (w0 := w4) (w4.heap.size) rfl _ _ 25 9 (.string ⟨#[]⟩) 1 16 rfl Tryz.underlying25 qwn rfl (by decide) (by decide) u3 k (Xa ((x.alts.map (·.con)).take k)) [.string x.alts[k].con] rfl (by show Value.slice (some ⟨wr.heap.size + 1, 0, none⟩) 1 1 = _; simp) rfl (by intro v hv; rw [List.mem_singleton.1 hv]; rfl) (Vs HOW.out (Zv wr _)) (Below.alloc HB.out HB.out.size _) (by have := HB.out.size; simp; omega) (by omega) ?_))
   intro v1 w5 hown5 hb5 hg5 _
   have HOW5 := Wd hown5; have HB5 := Wd hb5
   have p1 := ((Jm wr 76 (Yl x.alts[k] A1 c1 A3' c3' A4' c4' B5 d5 B6 d6)).grownO hg5 (fun h => by have := zap HOW.out _ h.symm; omega)).cell (j := 1) rfl
   clear hown5 hb5 hg5 g0 g1 g2 g3 g4 g5 g6 g7 g8
   have HBw5 := Wd (Below.step HB4.out HB5.out)
   have hnl : x.alts[k].names.length ≤ 274877906944 := by have := Qn x.alts[k].names; have := HBK.out; rw [Qg] at this; omega
   have hss : ∀ s ∈ x.alts[k].names, s.size ≤ 274877906944 := fun s hs => by have := Ka hs; have := HBK.out; rw [Qg] at this; omega
   have HSS := Wd hss; clear hss
   go_wp2_with fail
   clear p1
   refine (qbj x.alts[k].names HSS.out hnl _ _ _ (Kd.C_below hnm HBw5.out) l1).mono ?_
   rintro e w6 ⟨rfl, hb6⟩
   have HB6 := Wd (Below.step HB5.out hb6)
   have HOW6 := Wd (Vs HOW5.out hb6)
   have HBw6 := Wd (Below.step HBw5.out hb6)
   clear hb6 HSS hnb hnm
   by_cases hno : Zh x.alts[k].names
   ·rw [Qm hno]
    have HN6 := Wd (show ∀ a ∈ x.alts.take (k + 1), Zh a.names from by
     intro a ha
     rw [Qf hlt] at ha
     rcases List.mem_append.1 ha with ha | ha
     ·exact HN.out a ha
     ·rw [List.mem_singleton.1 ha]; exact hno)
    clear hno
    go_wp2
    go_roundw
    case rel => exact ⟨k + 1, by omega, by go_num, HN6, Wd (by have := HOW6.out; have e : (x.alts.map (·.con)).take (k + 1) = (x.alts.map (·.con)).take k ++ [x.alts[k].con] := by { rw [Qf (l := x.alts.map (·.con)) (by rw [List.length_map]; exact hlt), List.getElem_map]; rfl }; rw [e]; unfold Xa at this ⊢; rw [List.map_append]; exact this), HB6⟩
    case measure => simp [intOf]; omega
   ·rw [Qd hno]
    have HNO := Wd hno; clear hno
    go_wp2
    go_ret
    exact ⟨by rw [HRR.out, Qd (fun h => HNO.out (h.2.2.2.2.2.1 _ (List.getElem_mem hlt)))]; first | done | rfl, HBw6.out⟩
  ·have hkk : k = x.alts.length := by omega
   have hnn := HN.out
   have how := HOW.out
   rw [hkk, List.take_length] at hnn
   rw [hkk, List.take_of_length_le (by rw [List.length_map]; exact Nat.le_refl _)] at how
   have HKK := Wd hkk; clear hkk
   obtain ⟨F, hrow, _, _⟩ := qdw how
   obtain ⟨A, c, rfl, hlc, hC⟩ := Row.readsS (l := x.alts.map (·.con)) (by rw [List.length_map]; exact hrow)
   have HNN := Wd hnn; have HC := Wd hC
   have HSS := Wd (show ∀ s ∈ x.alts.map (·.con), s.size ≤ 274877906944 from fun s hs => by
    obtain ⟨a, ha, rfl⟩ := List.mem_map.1 hs
    have := Zu ha; rw [Zo] at this; have := HBK.out; rw [Qg] at this; omega)
   clear hnn how hrow hC
   rw [List.length_map]
   go_wp2_with fail
   refine (Calls.mono (by have := qbj (x.alts.map (·.con)) HSS.out (by rw [List.length_map]; omega) A c wr HC.out hlc; unfold Qh at this; rw [List.length_map] at this; exact this) ?_)
   rintro e w2 ⟨rfl, hb2⟩
   have HB2 := Wd (Below.step HBw.out hb2); clear hb2
   go_wp2
   go_ret
   refine ⟨?_, HB2.out⟩
   rw [HRR.out]
   show Ending.returned (Value.bool (dec _)) = _
   congr 2
   exact Xs ⟨fun h => ⟨C0.out, C1.out, C2.out, C3.out, C4.out, HNN.out, h⟩, fun h => h.2.2.2.2.2.2⟩
end
section
variable {S w : World} {x : CoreT} {p : Addr}
def Hb (x : CoreT) : Prop := 0 < Qi x.name
def Ha (x : CoreT) : Prop := (x.kids.length : Int) = Qi x.name
theorem ans_no : Qh 134 #[.agg #[.pointer (some p)]] w false := by
 unfold Qh
 go_enter Tryz.func134, Tryz.ntmps134
 go_wp2
 go_ret
 exact ⟨rfl, Zv w _⟩
theorem qzu (hat : At w x p) (hbk : bulk x ≤ 274877906944) : Qh 122 #[.agg #[.pointer (some p)]] w (dec ((x.name.size = 0) ∧ (qdh x) ∧ (Jl x.minus x.limbs = false))) := by
 obtain ⟨b1, b2, b3, b4, b5⟩ := Qz hbk
 have HBK := Wd hbk; clear hbk
 have HAT := Wd hat
 obtain ⟨A3, c3, A4, c4, A5, c5, A6, c6, hK, g0, g1, g2, g3, g4, g5, g6⟩ := hat
 have NM := Wd (Kt hK); have LM := Wd (Kz hK)
 clear hK
 have HB := Wd (Zv w (.cells #[.pointer (some p)] 111))
 have G0 := Wd g0
 have G1 := Wd g1
 have G2 := Wd g2
 have G3 := Wd g3
 have G4 := Wd g4
 have G5 := Wd g5
 have G6 := Wd g6
 clear g0 g1 g2 g3 g4 g5 g6
 unfold Qh
 obtain ⟨r, hrr⟩ : ∃ r, r = dec ((x.name.size = 0) ∧ (qdh x) ∧ (Jl x.minus x.limbs = false)) := ⟨_, rfl⟩
 rw [← hrr]
 have HRR := Wd hrr; clear hrr
 by_cases c0 : x.name.size = 0
 case pos =>
  have e1 : x.name = ⟨#[]⟩ := Kj.1 c0
  have g1 := Cl HB.out G1.out
  rw [e1] at g1
  go_enter Tryz.func122, Tryz.ntmps122
  go_wp2_with fail
  obtain ⟨W1, hW1, hp1, hB1, hs1⟩ := boxed w [.pointer (some p)] 111
  rw [← hW1]
  have BP0 := Wd hp1; have HB0 := Wd hB1; clear hW1 hp1 hB1 hs1
  clear g1
  refine (qiv (HAT.out.later HB0.out) HBK.out).mono ?_
  rintro e w2 ⟨rfl, hb⟩
  have HB1 := Wd (Below.step HB0.out hb); have BP1 := Wd (BP0.out.below hb); clear hb
  by_cases c1 : qdh x
  case pos =>
   rw [show ((x.names.length = 0) ∧ (x.alts.length = 0) ∧ (x.kids.length = 0)) = qdh x from rfl, Qm c1]
   have C1 := Wd c1; clear c1
   have g2 := Cl HB1.out G2.out
   have g3 := Cl HB1.out G3.out
   have z0 := BP1.out.cell (j := 0) rfl
   go_wp2_with fail
   clear g2 g3
   clear z0
   refine (qkm x.minus x.limbs _ _ _ (Kd.C_below LM.out.2 HB1.out) LM.out.1 b2).mono ?_
   rintro e w3 ⟨rfl, hb⟩
   have HB2 := Wd (Below.step HB1.out hb); have BP2 := Wd (BP1.out.below hb); clear hb
   by_cases c2 : Jl x.minus x.limbs = false
   case pos =>
    rw [c2]
    exact f123
   case neg =>
    rw [show Jl x.minus x.limbs = true from by simpa using c2]
    have N2 := Wd c2; clear c2
    exact f39
  case neg =>
   rw [show ((x.names.length = 0) ∧ (x.alts.length = 0) ∧ (x.kids.length = 0)) = qdh x from rfl, Qd c1]
   have N1 := Wd c1; clear c1
   exact f28
 case neg =>
  have N0 := Wd c0
  have q1 := Jh (s := x.name) (by omega); have q2 := Xl (s := x.name) (by omega)
  have g1 := Cl HB.out G1.out
  go_enter Tryz.func122, Tryz.ntmps122
  exact f25
theorem qvq (hat : At w x p) (hbk : bulk x ≤ 274877906944) : Qh 131 #[.agg #[.pointer (some p)]] w (dec ((Hb x) ∧ (Ha x) ∧ (x.names.length = 0) ∧ (x.alts.length = 0) ∧ (Ql x))) := by
 obtain ⟨b1, b2, b3, b4, b5⟩ := Qz hbk
 have HBK := Wd hbk; clear hbk
 have HAT := Wd hat
 obtain ⟨A3, c3, A4, c4, A5, c5, A6, c6, hK, g0, g1, g2, g3, g4, g5, g6⟩ := hat
 have NM := Wd (Kt hK); have LM := Wd (Kz hK)
 clear hK
 have HB := Wd (Zv w (.cells #[.pointer (some p)] 118))
 have G0 := Wd g0
 have G1 := Wd g1
 have G2 := Wd g2
 have G3 := Wd g3
 have G4 := Wd g4
 have G5 := Wd g5
 have G6 := Wd g6
 clear g0 g1 g2 g3 g4 g5 g6
 unfold Qh
 obtain ⟨r, hrr⟩ : ∃ r, r = dec ((Hb x) ∧ (Ha x) ∧ (x.names.length = 0) ∧ (x.alts.length = 0) ∧ (Ql x)) := ⟨_, rfl⟩
 rw [← hrr]
 have HRR := Wd hrr; clear hrr
 have g1 := Cl HB.out G1.out
 go_enter Tryz.func131, Tryz.ntmps131
 go_wp2_with fail
 obtain ⟨W1, hW1, hp1, hB1, hs1⟩ := boxed w [.pointer (some p)] 118
 rw [← hW1]
 have BP0 := Wd hp1; have HB0 := Wd hB1; clear hW1 hp1 hB1 hs1 g1
 refine (qiw x.name _).mono ?_
 rintro e w2 ⟨rfl, hb⟩
 have HB1 := Wd (Below.step HB0.out hb); have BP1 := Wd (BP0.out.below hb); clear hb
 obtain ⟨n, hn⟩ : ∃ n, n = Qi x.name := ⟨_, rfl⟩
 rw [← hn]
 have hnr := qgq x.name
 rw [← hn] at hnr
 have HN := Wd hn; clear hn
 obtain ⟨hn0, hn2⟩ := hnr
 by_cases c0 : Hb x
 case pos =>
  have d0 : 0 < n := by rw [HN.out]; exact c0
  by_cases c1 : Ha x
  case pos =>
   have d1 : ((x.kids.length : Int) == n) = true := beq_iff_eq.2 (by rw [HN.out]; exact c1)
   have g5 := Cl HB1.out G5.out
   have z0 := BP1.out.cell (j := 0) rfl
   go_wp2_with fail
   clear g5
   clear z0
   refine (Ua (HAT.out.later HB1.out) HBK.out).mono ?_
   rintro e w3 ⟨rfl, hb⟩
   have HB2 := Wd (Below.step HB1.out hb); have BP2 := Wd (BP1.out.below hb); clear hb
   by_cases c2 : x.names.length = 0
   case pos =>
    rw [Qm c2]
    have C2 := Wd c2; clear c2
    have z0 := BP2.out.cell (j := 0) rfl
    go_wp2_with fail
    clear z0
    refine (Vv (HAT.out.later HB2.out) HBK.out).mono ?_
    rintro e w4 ⟨rfl, hb⟩
    have HB3 := Wd (Below.step HB2.out hb); have BP3 := Wd (BP2.out.below hb); clear hb
    by_cases c3 : x.alts.length = 0
    case pos =>
     rw [Qm c3]
     have C3 := Wd c3; clear c3
     have z0 := BP3.out.cell (j := 0) rfl
     go_wp2_with fail
     clear z0
     refine (Kf (HAT.out.later HB3.out) HBK.out).mono ?_
     rintro e w5 ⟨rfl, hb⟩
     have HB4 := Wd (Below.step HB3.out hb); have BP4 := Wd (BP3.out.below hb); clear hb
     by_cases c4 : Ql x
     case pos =>
      rw [show ((x.minus = false) ∧ (x.limbs.length = 0)) = Ql x from rfl, Qm c4]
      have C4 := Wd c4; clear c4
      have z0 := BP4.out.cell (j := 0) rfl
      go_wp2
      go_ret
      exact ⟨by rw [HRR.out, Qm ⟨c0, c1, C2.out, C3.out, C4.out⟩]; first | done | rfl, HB4.out⟩
     case neg =>
      rw [show ((x.minus = false) ∧ (x.limbs.length = 0)) = Ql x from rfl, Qd c4]
      have N4 := Wd c4; clear c4
      have z0 := BP4.out.cell (j := 0) rfl
      go_wp2
      go_ret
      exact ⟨by rw [HRR.out, Qd (fun h => N4.out h.2.2.2.2)]; first | done | rfl, HB4.out⟩
    case neg =>
     rw [Qd c3]
     have N3 := Wd c3; clear c3
     have z0 := BP3.out.cell (j := 0) rfl
     exact f114
   case neg =>
    exact f81
  case neg =>
   have N1 := Wd c1
   have d1 : ((x.kids.length : Int) == n) = false := beq_eq_false_iff_ne.2 (by rw [HN.out]; exact c1)
   have g5 := Cl HB1.out G5.out
   exact f28
 case neg =>
  have N0 := Wd c0
  have d0 : ¬ 0 < n := by rw [HN.out]; exact c0
  exact f99
end
end Go.Proofs.YtnoammmohdmnjaaGreat.C13
