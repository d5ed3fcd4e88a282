/- Part of the proof that FnExactFormatCore answers true at every term. -/
import Derived.Deep.AppendLies
import Derived.Deep.DrawnRows
import Derived.Deep.RegionHeld3
import Derived.Shelf.Abstract
import Derived.Test.YtagfphlhahiplaaR5
namespace Go.Proofs.Ytagfphlhahiplaa.C13
open Go.RowKit Go.Proofs.YtagfphlhahiplaaW.PrintWords Go.Proofs.Ytagfphlhahiplaa.PFnExactFormatCore
set_option linter.unusedVariables false
set_option linter.unusedSimpArgs false
section
variable {S w : World} {x : CoreT} {p : Addr}
theorem grown_box (w : World) (o : Obj) : Below w.heap.size w (w.alloc o) := Below.alloc (Below.refl _ _) (Nat.le_refl _) o
theorem At.later {S w : World} {x : CoreT} {p : Addr} (h : At S x p) (hB : Below S.heap.size S w) : At w x p := by
  obtain ⟨A3, c3, A4, c4, A5, c5, A6, c6, hK, g0, g1, g2, g3, g4, g5, g6⟩ := h
  exact ⟨A3, c3, A4, c4, A5, c5, A6, c6, (kCore _ _).K_below hB hK, cell_later' hB g0, cell_later' hB g1, cell_later' hB g2, cell_later' hB g3, cell_later' hB g4, cell_later' hB g5, cell_later' hB g6⟩
theorem bounds (hbk : bulk x ≤ 1048576) : x.name.size ≤ 1048576 ∧ x.limbs.length ≤ 1048576 ∧ x.kids.length ≤ 1048576 ∧ x.names.length ≤ 1048576 ∧ x.alts.length ≤ 1048576 := by
  rw [bulk_eq] at hbk
  have := len_strsB x.names; have := len_bulks x.kids; have := len_abulks x.alts
  omega
theorem mem_strsB {l : List ByteArray} {s : ByteArray} (h : s ∈ l) : s.size ≤ strsB l := by
  induction l with
  | nil => cases h
  | cons c r ih =>
    rw [strsB]
    rcases List.mem_cons.1 h with rfl | h
    · omega
    · have := ih h; omega
theorem strs_small (hbk : bulk x ≤ 1048576) : ∀ s ∈ x.names, s.size ≤ 1048576 := by
  intro s hs
  rw [bulk_eq] at hbk
  have := mem_strsB hs
  omega
theorem names_of {A3 c3 A4 c4 A5 c5 A6 c6} (hK : IC.K w x (cellsC x A3 c3 A4 c4 A5 c5 A6 c6)) : x.names.length ≤ c4 ∧ Kd.string.C w A4 x.names.length x.names := by
  obtain ⟨_, _, _, _, _, _, _, _, he, -, -, l4, g4, -⟩ := core_open hK
  simp only [cellsC, List.cons.injEq, Value.slice.injEq, true_and, and_true] at he
  obtain ⟨⟨rfl, rfl⟩, ⟨rfl, rfl⟩, ⟨rfl, rfl⟩, ⟨rfl, rfl⟩⟩ := he
  exact ⟨l4, g4⟩
theorem limbs_of {A3 c3 A4 c4 A5 c5 A6 c6} (hK : IC.K w x (cellsC x A3 c3 A4 c4 A5 c5 A6 c6)) : x.limbs.length ≤ c3 ∧ (Kd.int .u32).C w A3 x.limbs.length x.limbs := by
  obtain ⟨_, _, _, _, _, _, _, _, he, l3, g3, -⟩ := core_open hK
  simp only [cellsC, List.cons.injEq, Value.slice.injEq, true_and, and_true] at he
  obtain ⟨⟨rfl, rfl⟩, ⟨rfl, rfl⟩, ⟨rfl, rfl⟩, ⟨rfl, rfl⟩⟩ := he
  exact ⟨l3, g3⟩
def NoNumber (x : CoreT) : Prop := x.minus = false ∧ x.limbs.length = 0
def Leaf (x : CoreT) : Prop := x.names.length = 0 ∧ x.alts.length = 0 ∧ x.kids.length = 0
set_option maxRecDepth 100000 in
set_option maxHeartbeats 1000000 in
theorem ans_noNumber (hat : At w x p) (hbk : bulk x ≤ 1048576) : AnswersB 108 #[.agg #[.pointer (some p)]] w (dec ((x.minus = false) ∧ (x.limbs.length = 0))) := by
  obtain ⟨b1, b2, b3, b4, b5⟩ := bounds hbk
  have HBK := Lib.hid hbk; clear hbk
  have HAT := Lib.hid hat
  obtain ⟨A3, c3, A4, c4, A5, c5, A6, c6, hK, g0, g1, g2, g3, g4, g5, g6⟩ := hat
  have NM := Lib.hid (names_of hK); have LM := Lib.hid (limbs_of hK)
  clear hK
  have HB := Lib.hid (grown_box w (.cells #[.pointer (some p)] 110))
  have G0 := Lib.hid g0
  have G1 := Lib.hid g1
  have G2 := Lib.hid g2
  have G3 := Lib.hid g3
  have G4 := Lib.hid g4
  have G5 := Lib.hid g5
  have G6 := Lib.hid g6
  clear g0 g1 g2 g3 g4 g5 g6
  unfold AnswersB
  obtain ⟨r, hrr⟩ : ∃ r, r = dec ((x.minus = false) ∧ (x.limbs.length = 0)) := ⟨_, rfl⟩
  rw [← hrr]
  have HRR := Lib.hid hrr; clear hrr
  by_cases c0 : x.minus = false
  case pos =>
    have e2 := c0
    by_cases c1 : x.limbs.length = 0
    case pos =>
      have qlimbs : ((x.limbs.length : Int) == 0) = true := beq_iff_eq.2 (by omega)
      have g2 := cell_later' HB.out G2.out
      have g3 := cell_later' HB.out G3.out
      rw [e2] at g2
      go_enter Try.func108, Try.ntmps108
      go_wp2
      go_ret
      exact ⟨by rw [HRR.out, dec_true ⟨c0, c1⟩]; first | done | rfl, HB.out⟩
    case neg =>
      have N1 := Lib.hid c1
      have qlimbs : ((x.limbs.length : Int) == 0) = false := beq_eq_false_iff_ne.2 (by omega)
      have g2 := cell_later' HB.out G2.out
      have g3 := cell_later' HB.out G3.out
      rw [e2] at g2
      go_enter Try.func108, Try.ntmps108
      go_wp2
      go_ret
      exact ⟨by rw [HRR.out, dec_false (fun h => N1.out h.2)]; first | done | rfl, HB.out⟩
  case neg =>
    have N0 := Lib.hid c0
    have e2 : x.minus = true := by simpa using c0
    have g2 := cell_later' HB.out G2.out
    rw [e2] at g2
    go_enter Try.func108, Try.ntmps108
    go_wp2
    go_ret
    exact ⟨by rw [HRR.out, dec_false (fun h => N0.out h.1)]; first | done | rfl, HB.out⟩
set_option maxRecDepth 100000 in
set_option maxHeartbeats 1000000 in
theorem ans_noNames (hat : At w x p) (hbk : bulk x ≤ 1048576) : AnswersB 109 #[.agg #[.pointer (some p)]] w (dec ((x.names.length = 0))) := by
  obtain ⟨b1, b2, b3, b4, b5⟩ := bounds hbk
  have HBK := Lib.hid hbk; clear hbk
  have HAT := Lib.hid hat
  obtain ⟨A3, c3, A4, c4, A5, c5, A6, c6, hK, g0, g1, g2, g3, g4, g5, g6⟩ := hat
  have NM := Lib.hid (names_of hK); have LM := Lib.hid (limbs_of hK)
  clear hK
  have HB := Lib.hid (grown_box w (.cells #[.pointer (some p)] 110))
  have G0 := Lib.hid g0
  have G1 := Lib.hid g1
  have G2 := Lib.hid g2
  have G3 := Lib.hid g3
  have G4 := Lib.hid g4
  have G5 := Lib.hid g5
  have G6 := Lib.hid g6
  clear g0 g1 g2 g3 g4 g5 g6
  unfold AnswersB
  obtain ⟨r, hrr⟩ : ∃ r, r = dec ((x.names.length = 0)) := ⟨_, rfl⟩
  rw [← hrr]
  have HRR := Lib.hid hrr; clear hrr
  by_cases c0 : x.names.length = 0
  case pos =>
    have qnames : ((x.names.length : Int) == 0) = true := beq_iff_eq.2 (by omega)
    have g4 := cell_later' HB.out G4.out
    go_enter Try.func109, Try.ntmps109
    go_wp2
    go_ret
    exact ⟨by rw [HRR.out, dec_true c0]; first | done | rfl, HB.out⟩
  case neg =>
    have N0 := Lib.hid c0
    have qnames : ((x.names.length : Int) == 0) = false := beq_eq_false_iff_ne.2 (by omega)
    have g4 := cell_later' HB.out G4.out
    go_enter Try.func109, Try.ntmps109
    go_wp2
    go_ret
    exact ⟨by rw [HRR.out, dec_false (fun h => N0.out h)]; first | done | rfl, HB.out⟩
set_option maxRecDepth 100000 in
set_option maxHeartbeats 1000000 in
theorem ans_noAlts (hat : At w x p) (hbk : bulk x ≤ 1048576) : AnswersB 110 #[.agg #[.pointer (some p)]] w (dec ((x.alts.length = 0))) := by
  obtain ⟨b1, b2, b3, b4, b5⟩ := bounds hbk
  have HBK := Lib.hid hbk; clear hbk
  have HAT := Lib.hid hat
  obtain ⟨A3, c3, A4, c4, A5, c5, A6, c6, hK, g0, g1, g2, g3, g4, g5, g6⟩ := hat
  have NM := Lib.hid (names_of hK); have LM := Lib.hid (limbs_of hK)
  clear hK
  have HB := Lib.hid (grown_box w (.cells #[.pointer (some p)] 110))
  have G0 := Lib.hid g0
  have G1 := Lib.hid g1
  have G2 := Lib.hid g2
  have G3 := Lib.hid g3
  have G4 := Lib.hid g4
  have G5 := Lib.hid g5
  have G6 := Lib.hid g6
  clear g0 g1 g2 g3 g4 g5 g6
  unfold AnswersB
  obtain ⟨r, hrr⟩ : ∃ r, r = dec ((x.alts.length = 0)) := ⟨_, rfl⟩
  rw [← hrr]
  have HRR := Lib.hid hrr; clear hrr
  by_cases c0 : x.alts.length = 0
  case pos =>
    have qalts : ((x.alts.length : Int) == 0) = true := beq_iff_eq.2 (by omega)
    have g6 := cell_later' HB.out G6.out
    go_enter Try.func110, Try.ntmps110
    go_wp2
    go_ret
    exact ⟨by rw [HRR.out, dec_true c0]; first | done | rfl, HB.out⟩
  case neg =>
    have N0 := Lib.hid c0
    have qalts : ((x.alts.length : Int) == 0) = false := beq_eq_false_iff_ne.2 (by omega)
    have g6 := cell_later' HB.out G6.out
    go_enter Try.func110, Try.ntmps110
    go_wp2
    go_ret
    exact ⟨by rw [HRR.out, dec_false (fun h => N0.out h)]; first | done | rfl, HB.out⟩
set_option maxRecDepth 100000 in
set_option maxHeartbeats 1000000 in
theorem ans_leaf (hat : At w x p) (hbk : bulk x ≤ 1048576) : AnswersB 106 #[.agg #[.pointer (some p)]] w (dec ((x.names.length = 0) ∧ (x.alts.length = 0) ∧ (x.kids.length = 0))) := by
  obtain ⟨b1, b2, b3, b4, b5⟩ := bounds hbk
  have HBK := Lib.hid hbk; clear hbk
  have HAT := Lib.hid hat
  obtain ⟨A3, c3, A4, c4, A5, c5, A6, c6, hK, g0, g1, g2, g3, g4, g5, g6⟩ := hat
  have NM := Lib.hid (names_of hK); have LM := Lib.hid (limbs_of hK)
  clear hK
  have HB := Lib.hid (grown_box w (.cells #[.pointer (some p)] 110))
  have G0 := Lib.hid g0
  have G1 := Lib.hid g1
  have G2 := Lib.hid g2
  have G3 := Lib.hid g3
  have G4 := Lib.hid g4
  have G5 := Lib.hid g5
  have G6 := Lib.hid g6
  clear g0 g1 g2 g3 g4 g5 g6
  unfold AnswersB
  obtain ⟨r, hrr⟩ : ∃ r, r = dec ((x.names.length = 0) ∧ (x.alts.length = 0) ∧ (x.kids.length = 0)) := ⟨_, rfl⟩
  rw [← hrr]
  have HRR := Lib.hid hrr; clear hrr
  go_enter Try.func106, Try.ntmps106
  go_wp2_with fail
  obtain ⟨W1, hW1, hp1, hB1, hs1⟩ := boxed w [.pointer (some p)] 110
  rw [← hW1]
  have BP0 := Lib.hid hp1; have HB0 := Lib.hid hB1; clear hW1 hp1 hB1 hs1
  refine (ans_noNames (HAT.out.later HB0.out) HBK.out).mono ?_
  rintro e w2 ⟨rfl, hb⟩
  have HB1 := Lib.hid (Below.step HB0.out hb); have BP1 := Lib.hid (BP0.out.below hb); clear hb
  by_cases c0 : x.names.length = 0
  case pos =>
    rw [dec_true c0]
    have C0 := Lib.hid c0; clear c0
    have z0 := BP1.out.cell (j := 0) rfl
    go_wp2_with fail
    clear z0
    refine (ans_noAlts (HAT.out.later HB1.out) HBK.out).mono ?_
    rintro e w3 ⟨rfl, hb⟩
    have HB2 := Lib.hid (Below.step HB1.out hb); have BP2 := Lib.hid (BP1.out.below hb); clear hb
    by_cases c1 : x.alts.length = 0
    case pos =>
      rw [dec_true c1]
      have C1 := Lib.hid c1; clear c1
      by_cases c2 : x.kids.length = 0
      case pos =>
        have qkids : ((x.kids.length : Int) == 0) = true := beq_iff_eq.2 (by omega)
        have g5 := cell_later' HB2.out G5.out
        have z0 := BP2.out.cell (j := 0) rfl
        go_wp2
        go_ret
        exact ⟨by rw [HRR.out, dec_true ⟨C0.out, C1.out, c2⟩]; first | done | rfl, HB2.out⟩
      case neg =>
        have N2 := Lib.hid c2
        have qkids : ((x.kids.length : Int) == 0) = false := beq_eq_false_iff_ne.2 (by omega)
        have g5 := cell_later' HB2.out G5.out
        have z0 := BP2.out.cell (j := 0) rfl
        go_wp2
        go_ret
        exact ⟨by rw [HRR.out, dec_false (fun h => N2.out h.2.2)]; first | done | rfl, HB2.out⟩
    case neg =>
      rw [dec_false c1]
      have N1 := Lib.hid c1; clear c1
      have z0 := BP2.out.cell (j := 0) rfl
      go_wp2
      go_ret
      exact ⟨by rw [HRR.out, dec_false (fun h => N1.out h.2.1)]; first | done | rfl, HB2.out⟩
  case neg =>
    rw [dec_false c0]
    have N0 := Lib.hid c0; clear c0
    have z0 := BP1.out.cell (j := 0) rfl
    go_wp2
    go_ret
    exact ⟨by rw [HRR.out, dec_false (fun h => N0.out h.1)]; first | done | rfl, HB1.out⟩
set_option maxRecDepth 100000 in
set_option maxHeartbeats 1000000 in
theorem ans_var (hat : At w x p) (hbk : bulk x ≤ 1048576) : AnswersB 107 #[.agg #[.pointer (some p)]] w (dec ((0 < x.name.size) ∧ (Leaf x) ∧ (NoNumber x))) := by
  obtain ⟨b1, b2, b3, b4, b5⟩ := bounds hbk
  have HBK := Lib.hid hbk; clear hbk
  have HAT := Lib.hid hat
  obtain ⟨A3, c3, A4, c4, A5, c5, A6, c6, hK, g0, g1, g2, g3, g4, g5, g6⟩ := hat
  have NM := Lib.hid (names_of hK); have LM := Lib.hid (limbs_of hK)
  clear hK
  have HB := Lib.hid (grown_box w (.cells #[.pointer (some p)] 112))
  have G0 := Lib.hid g0
  have G1 := Lib.hid g1
  have G2 := Lib.hid g2
  have G3 := Lib.hid g3
  have G4 := Lib.hid g4
  have G5 := Lib.hid g5
  have G6 := Lib.hid g6
  clear g0 g1 g2 g3 g4 g5 g6
  unfold AnswersB
  obtain ⟨r, hrr⟩ : ∃ r, r = dec ((0 < x.name.size) ∧ (Leaf x) ∧ (NoNumber x)) := ⟨_, rfl⟩
  rw [← hrr]
  have HRR := Lib.hid hrr; clear hrr
  by_cases c0 : 0 < x.name.size
  case pos =>
    have q1 := isEmpty_of c0; have q2 := toList_ne c0
    have g1 := cell_later' HB.out G1.out
    go_enter Try.func107, Try.ntmps107
    go_wp2_with fail
    obtain ⟨W1, hW1, hp1, hB1, hs1⟩ := boxed w [.pointer (some p)] 112
    rw [← hW1]
    have BP0 := Lib.hid hp1; have HB0 := Lib.hid hB1; clear hW1 hp1 hB1 hs1
    clear g1
    refine (ans_leaf (HAT.out.later HB0.out) HBK.out).mono ?_
    rintro e w2 ⟨rfl, hb⟩
    have HB1 := Lib.hid (Below.step HB0.out hb); have BP1 := Lib.hid (BP0.out.below hb); clear hb
    by_cases c1 : Leaf x
    case pos =>
      rw [show ((x.names.length = 0) ∧ (x.alts.length = 0) ∧ (x.kids.length = 0)) = Leaf x from rfl, dec_true c1]
      have C1 := Lib.hid c1; clear c1
      have z0 := BP1.out.cell (j := 0) rfl
      go_wp2_with fail
      clear z0
      refine (ans_noNumber (HAT.out.later HB1.out) HBK.out).mono ?_
      rintro e w3 ⟨rfl, hb⟩
      have HB2 := Lib.hid (Below.step HB1.out hb); have BP2 := Lib.hid (BP1.out.below hb); clear hb
      by_cases c2 : NoNumber x
      case pos =>
        rw [show ((x.minus = false) ∧ (x.limbs.length = 0)) = NoNumber x from rfl, dec_true c2]
        have C2 := Lib.hid c2; clear c2
        have z0 := BP2.out.cell (j := 0) rfl
        go_wp2
        go_ret
        exact ⟨by rw [HRR.out, dec_true ⟨c0, C1.out, C2.out⟩]; first | done | rfl, HB2.out⟩
      case neg =>
        rw [show ((x.minus = false) ∧ (x.limbs.length = 0)) = NoNumber x from rfl, dec_false c2]
        have N2 := Lib.hid c2; clear c2
        have z0 := BP2.out.cell (j := 0) rfl
        go_wp2
        go_ret
        exact ⟨by rw [HRR.out, dec_false (fun h => N2.out h.2.2)]; first | done | rfl, HB2.out⟩
    case neg =>
      rw [show ((x.names.length = 0) ∧ (x.alts.length = 0) ∧ (x.kids.length = 0)) = Leaf x from rfl, dec_false c1]
      have N1 := Lib.hid c1; clear c1
      have z0 := BP1.out.cell (j := 0) rfl
      go_wp2
      go_ret
      exact ⟨by rw [HRR.out, dec_false (fun h => N1.out h.2.1)]; first | done | rfl, HB1.out⟩
  case neg =>
    have N0 := Lib.hid c0
    have e1 : x.name = ⟨#[]⟩ := size_zero.1 (by omega)
    have g1 := cell_later' HB.out G1.out
    rw [e1] at g1
    go_enter Try.func107, Try.ntmps107
    go_wp2
    go_ret
    exact ⟨by rw [HRR.out, dec_false (fun h => N0.out h.1)]; first | done | rfl, HB.out⟩
set_option maxRecDepth 100000 in
set_option maxHeartbeats 1000000 in
theorem ans_char (hat : At w x p) (hbk : bulk x ≤ 1048576) : AnswersB 112 #[.agg #[.pointer (some p)]] w (dec ((x.name.size = 1) ∧ (Leaf x) ∧ (NoNumber x))) := by
  obtain ⟨b1, b2, b3, b4, b5⟩ := bounds hbk
  have HBK := Lib.hid hbk; clear hbk
  have HAT := Lib.hid hat
  obtain ⟨A3, c3, A4, c4, A5, c5, A6, c6, hK, g0, g1, g2, g3, g4, g5, g6⟩ := hat
  have NM := Lib.hid (names_of hK); have LM := Lib.hid (limbs_of hK)
  clear hK
  have HB := Lib.hid (grown_box w (.cells #[.pointer (some p)] 114))
  have G0 := Lib.hid g0
  have G1 := Lib.hid g1
  have G2 := Lib.hid g2
  have G3 := Lib.hid g3
  have G4 := Lib.hid g4
  have G5 := Lib.hid g5
  have G6 := Lib.hid g6
  clear g0 g1 g2 g3 g4 g5 g6
  unfold AnswersB
  obtain ⟨r, hrr⟩ : ∃ r, r = dec ((x.name.size = 1) ∧ (Leaf x) ∧ (NoNumber x)) := ⟨_, rfl⟩
  rw [← hrr]
  have HRR := Lib.hid hrr; clear hrr
  by_cases c0 : x.name.size = 1
  case pos =>
    have q1 : ((x.name.size : Int) == 1) = true := beq_iff_eq.2 (by omega)
    have g1 := cell_later' HB.out G1.out
    go_enter Try.func112, Try.ntmps112
    go_wp2_with fail
    obtain ⟨W1, hW1, hp1, hB1, hs1⟩ := boxed w [.pointer (some p)] 114
    rw [← hW1]
    have BP0 := Lib.hid hp1; have HB0 := Lib.hid hB1; clear hW1 hp1 hB1 hs1
    clear g1
    refine (ans_leaf (HAT.out.later HB0.out) HBK.out).mono ?_
    rintro e w2 ⟨rfl, hb⟩
    have HB1 := Lib.hid (Below.step HB0.out hb); have BP1 := Lib.hid (BP0.out.below hb); clear hb
    by_cases c1 : Leaf x
    case pos =>
      rw [show ((x.names.length = 0) ∧ (x.alts.length = 0) ∧ (x.kids.length = 0)) = Leaf x from rfl, dec_true c1]
      have C1 := Lib.hid c1; clear c1
      have z0 := BP1.out.cell (j := 0) rfl
      go_wp2_with fail
      clear z0
      refine (ans_noNumber (HAT.out.later HB1.out) HBK.out).mono ?_
      rintro e w3 ⟨rfl, hb⟩
      have HB2 := Lib.hid (Below.step HB1.out hb); have BP2 := Lib.hid (BP1.out.below hb); clear hb
      by_cases c2 : NoNumber x
      case pos =>
        rw [show ((x.minus = false) ∧ (x.limbs.length = 0)) = NoNumber x from rfl, dec_true c2]
        have C2 := Lib.hid c2; clear c2
        have z0 := BP2.out.cell (j := 0) rfl
        go_wp2
        go_ret
        exact ⟨by rw [HRR.out, dec_true ⟨c0, C1.out, C2.out⟩]; first | done | rfl, HB2.out⟩
      case neg =>
        rw [show ((x.minus = false) ∧ (x.limbs.length = 0)) = NoNumber x from rfl, dec_false c2]
        have N2 := Lib.hid c2; clear c2
        have z0 := BP2.out.cell (j := 0) rfl
        go_wp2
        go_ret
        exact ⟨by rw [HRR.out, dec_false (fun h => N2.out h.2.2)]; first | done | rfl, HB2.out⟩
    case neg =>
      rw [show ((x.names.length = 0) ∧ (x.alts.length = 0) ∧ (x.kids.length = 0)) = Leaf x from rfl, dec_false c1]
      have N1 := Lib.hid c1; clear c1
      have z0 := BP1.out.cell (j := 0) rfl
      go_wp2
      go_ret
      exact ⟨by rw [HRR.out, dec_false (fun h => N1.out h.2.1)]; first | done | rfl, HB1.out⟩
  case neg =>
    have N0 := Lib.hid c0
    have q1 : ((x.name.size : Int) == 1) = false := beq_eq_false_iff_ne.2 (by omega)
    have g1 := cell_later' HB.out G1.out
    go_enter Try.func112, Try.ntmps112
    go_wp2
    go_ret
    exact ⟨by rw [HRR.out, dec_false (fun h => N0.out h.1)]; first | done | rfl, HB.out⟩
set_option maxRecDepth 100000 in
set_option maxHeartbeats 1000000 in
theorem ans_con (hat : At w x p) (hbk : bulk x ≤ 1048576) : AnswersB 113 #[.agg #[.pointer (some p)]] w (dec ((0 < x.name.size) ∧ (x.names.length = 0) ∧ (x.alts.length = 0) ∧ (NoNumber x))) := by
  obtain ⟨b1, b2, b3, b4, b5⟩ := bounds hbk
  have HBK := Lib.hid hbk; clear hbk
  have HAT := Lib.hid hat
  obtain ⟨A3, c3, A4, c4, A5, c5, A6, c6, hK, g0, g1, g2, g3, g4, g5, g6⟩ := hat
  have NM := Lib.hid (names_of hK); have LM := Lib.hid (limbs_of hK)
  clear hK
  have HB := Lib.hid (grown_box w (.cells #[.pointer (some p)] 115))
  have G0 := Lib.hid g0
  have G1 := Lib.hid g1
  have G2 := Lib.hid g2
  have G3 := Lib.hid g3
  have G4 := Lib.hid g4
  have G5 := Lib.hid g5
  have G6 := Lib.hid g6
  clear g0 g1 g2 g3 g4 g5 g6
  unfold AnswersB
  obtain ⟨r, hrr⟩ : ∃ r, r = dec ((0 < x.name.size) ∧ (x.names.length = 0) ∧ (x.alts.length = 0) ∧ (NoNumber x)) := ⟨_, rfl⟩
  rw [← hrr]
  have HRR := Lib.hid hrr; clear hrr
  by_cases c0 : 0 < x.name.size
  case pos =>
    have q1 := isEmpty_of c0; have q2 := toList_ne c0
    have g1 := cell_later' HB.out G1.out
    go_enter Try.func113, Try.ntmps113
    go_wp2_with fail
    obtain ⟨W1, hW1, hp1, hB1, hs1⟩ := boxed w [.pointer (some p)] 115
    rw [← hW1]
    have BP0 := Lib.hid hp1; have HB0 := Lib.hid hB1; clear hW1 hp1 hB1 hs1
    clear g1
    refine (ans_noNames (HAT.out.later HB0.out) HBK.out).mono ?_
    rintro e w2 ⟨rfl, hb⟩
    have HB1 := Lib.hid (Below.step HB0.out hb); have BP1 := Lib.hid (BP0.out.below hb); clear hb
    by_cases c1 : x.names.length = 0
    case pos =>
      rw [dec_true c1]
      have C1 := Lib.hid c1; clear c1
      have z0 := BP1.out.cell (j := 0) rfl
      go_wp2_with fail
      clear z0
      refine (ans_noAlts (HAT.out.later HB1.out) HBK.out).mono ?_
      rintro e w3 ⟨rfl, hb⟩
      have HB2 := Lib.hid (Below.step HB1.out hb); have BP2 := Lib.hid (BP1.out.below hb); clear hb
      by_cases c2 : x.alts.length = 0
      case pos =>
        rw [dec_true c2]
        have C2 := Lib.hid c2; clear c2
        have z0 := BP2.out.cell (j := 0) rfl
        go_wp2_with fail
        clear z0
        refine (ans_noNumber (HAT.out.later HB2.out) HBK.out).mono ?_
        rintro e w4 ⟨rfl, hb⟩
        have HB3 := Lib.hid (Below.step HB2.out hb); have BP3 := Lib.hid (BP2.out.below hb); clear hb
        by_cases c3 : NoNumber x
        case pos =>
          rw [show ((x.minus = false) ∧ (x.limbs.length = 0)) = NoNumber x from rfl, dec_true c3]
          have C3 := Lib.hid c3; clear c3
          have z0 := BP3.out.cell (j := 0) rfl
          go_wp2
          go_ret
          exact ⟨by rw [HRR.out, dec_true ⟨c0, C1.out, C2.out, C3.out⟩]; first | done | rfl, HB3.out⟩
        case neg =>
          rw [show ((x.minus = false) ∧ (x.limbs.length = 0)) = NoNumber x from rfl, dec_false c3]
          have N3 := Lib.hid c3; clear c3
          have z0 := BP3.out.cell (j := 0) rfl
          go_wp2
          go_ret
          exact ⟨by rw [HRR.out, dec_false (fun h => N3.out h.2.2.2)]; first | done | rfl, HB3.out⟩
      case neg =>
        rw [dec_false c2]
        have N2 := Lib.hid c2; clear c2
        have z0 := BP2.out.cell (j := 0) rfl
        go_wp2
        go_ret
        exact ⟨by rw [HRR.out, dec_false (fun h => N2.out h.2.2.1)]; first | done | rfl, HB2.out⟩
    case neg =>
      rw [dec_false c1]
      have N1 := Lib.hid c1; clear c1
      have z0 := BP1.out.cell (j := 0) rfl
      go_wp2
      go_ret
      exact ⟨by rw [HRR.out, dec_false (fun h => N1.out h.2.1)]; first | done | rfl, HB1.out⟩
  case neg =>
    have N0 := Lib.hid c0
    have e1 : x.name = ⟨#[]⟩ := size_zero.1 (by omega)
    have g1 := cell_later' HB.out G1.out
    rw [e1] at g1
    go_enter Try.func113, Try.ntmps113
    go_wp2
    go_ret
    exact ⟨by rw [HRR.out, dec_false (fun h => N0.out h.1)]; first | done | rfl, HB.out⟩
set_option maxRecDepth 100000 in
set_option maxHeartbeats 1000000 in
theorem ans_app (hat : At w x p) (hbk : bulk x ≤ 1048576) : AnswersB 114 #[.agg #[.pointer (some p)]] w (dec ((x.name.size = 0) ∧ (2 ≤ x.kids.length) ∧ (x.names.length = 0) ∧ (x.alts.length = 0) ∧ (NoNumber x))) := by
  obtain ⟨b1, b2, b3, b4, b5⟩ := bounds hbk
  have HBK := Lib.hid hbk; clear hbk
  have HAT := Lib.hid hat
  obtain ⟨A3, c3, A4, c4, A5, c5, A6, c6, hK, g0, g1, g2, g3, g4, g5, g6⟩ := hat
  have NM := Lib.hid (names_of hK); have LM := Lib.hid (limbs_of hK)
  clear hK
  have HB := Lib.hid (grown_box w (.cells #[.pointer (some p)] 116))
  have G0 := Lib.hid g0
  have G1 := Lib.hid g1
  have G2 := Lib.hid g2
  have G3 := Lib.hid g3
  have G4 := Lib.hid g4
  have G5 := Lib.hid g5
  have G6 := Lib.hid g6
  clear g0 g1 g2 g3 g4 g5 g6
  unfold AnswersB
  obtain ⟨r, hrr⟩ : ∃ r, r = dec ((x.name.size = 0) ∧ (2 ≤ x.kids.length) ∧ (x.names.length = 0) ∧ (x.alts.length = 0) ∧ (NoNumber x)) := ⟨_, rfl⟩
  rw [← hrr]
  have HRR := Lib.hid hrr; clear hrr
  by_cases c0 : x.name.size = 0
  case pos =>
    have e1 : x.name = ⟨#[]⟩ := size_zero.1 c0
    by_cases c1 : 2 ≤ x.kids.length
    case pos =>
      have g1 := cell_later' HB.out G1.out
      have g5 := cell_later' HB.out G5.out
      rw [e1] at g1
      go_enter Try.func114, Try.ntmps114
      go_wp2_with fail
      obtain ⟨W1, hW1, hp1, hB1, hs1⟩ := boxed w [.pointer (some p)] 116
      rw [← hW1]
      have BP0 := Lib.hid hp1; have HB0 := Lib.hid hB1; clear hW1 hp1 hB1 hs1
      clear g1 g5
      refine (ans_noNames (HAT.out.later HB0.out) HBK.out).mono ?_
      rintro e w2 ⟨rfl, hb⟩
      have HB1 := Lib.hid (Below.step HB0.out hb); have BP1 := Lib.hid (BP0.out.below hb); clear hb
      by_cases c2 : x.names.length = 0
      case pos =>
        rw [dec_true c2]
        have C2 := Lib.hid c2; clear c2
        have z0 := BP1.out.cell (j := 0) rfl
        go_wp2_with fail
        clear z0
        refine (ans_noAlts (HAT.out.later HB1.out) HBK.out).mono ?_
        rintro e w3 ⟨rfl, hb⟩
        have HB2 := Lib.hid (Below.step HB1.out hb); have BP2 := Lib.hid (BP1.out.below hb); clear hb
        by_cases c3 : x.alts.length = 0
        case pos =>
          rw [dec_true c3]
          have C3 := Lib.hid c3; clear c3
          have z0 := BP2.out.cell (j := 0) rfl
          go_wp2_with fail
          clear z0
          refine (ans_noNumber (HAT.out.later HB2.out) HBK.out).mono ?_
          rintro e w4 ⟨rfl, hb⟩
          have HB3 := Lib.hid (Below.step HB2.out hb); have BP3 := Lib.hid (BP2.out.below hb); clear hb
          by_cases c4 : NoNumber x
          case pos =>
            rw [show ((x.minus = false) ∧ (x.limbs.length = 0)) = NoNumber x from rfl, dec_true c4]
            have C4 := Lib.hid c4; clear c4
            have z0 := BP3.out.cell (j := 0) rfl
            go_wp2
            go_ret
            exact ⟨by rw [HRR.out, dec_true ⟨c0, c1, C2.out, C3.out, C4.out⟩]; first | done | rfl, HB3.out⟩
          case neg =>
            rw [show ((x.minus = false) ∧ (x.limbs.length = 0)) = NoNumber x from rfl, dec_false c4]
            have N4 := Lib.hid c4; clear c4
            have z0 := BP3.out.cell (j := 0) rfl
            go_wp2
            go_ret
            exact ⟨by rw [HRR.out, dec_false (fun h => N4.out h.2.2.2.2)]; first | done | rfl, HB3.out⟩
        case neg =>
          rw [dec_false c3]
          have N3 := Lib.hid c3; clear c3
          have z0 := BP2.out.cell (j := 0) rfl
          go_wp2
          go_ret
          exact ⟨by rw [HRR.out, dec_false (fun h => N3.out h.2.2.2.1)]; first | done | rfl, HB2.out⟩
      case neg =>
        rw [dec_false c2]
        have N2 := Lib.hid c2; clear c2
        have z0 := BP1.out.cell (j := 0) rfl
        go_wp2
        go_ret
        exact ⟨by rw [HRR.out, dec_false (fun h => N2.out h.2.2.1)]; first | done | rfl, HB1.out⟩
    case neg =>
      have N1 := Lib.hid c1
      have g1 := cell_later' HB.out G1.out
      have g5 := cell_later' HB.out G5.out
      rw [e1] at g1
      go_enter Try.func114, Try.ntmps114
      go_wp2
      go_ret
      exact ⟨by rw [HRR.out, dec_false (fun h => N1.out h.2.1)]; first | done | rfl, HB.out⟩
  case neg =>
    have N0 := Lib.hid c0
    have q1 := isEmpty_of (s := x.name) (by omega); have q2 := toList_ne (s := x.name) (by omega)
    have g1 := cell_later' HB.out G1.out
    go_enter Try.func114, Try.ntmps114
    go_wp2
    go_ret
    exact ⟨by rw [HRR.out, dec_false (fun h => N0.out h.1)]; first | done | rfl, HB.out⟩
set_option maxRecDepth 100000 in
set_option maxHeartbeats 1000000 in
theorem ans_text (hat : At w x p) (hbk : bulk x ≤ 1048576) : AnswersB 121 #[.agg #[.pointer (some p)]] w (dec ((0 < x.name.size) ∧ (x.name.size ≤ 60000) ∧ (Leaf x) ∧ (NoNumber x))) := by
  obtain ⟨b1, b2, b3, b4, b5⟩ := bounds hbk
  have HBK := Lib.hid hbk; clear hbk
  have HAT := Lib.hid hat
  obtain ⟨A3, c3, A4, c4, A5, c5, A6, c6, hK, g0, g1, g2, g3, g4, g5, g6⟩ := hat
  have NM := Lib.hid (names_of hK); have LM := Lib.hid (limbs_of hK)
  clear hK
  have HB := Lib.hid (grown_box w (.cells #[.pointer (some p)] 121))
  have G0 := Lib.hid g0
  have G1 := Lib.hid g1
  have G2 := Lib.hid g2
  have G3 := Lib.hid g3
  have G4 := Lib.hid g4
  have G5 := Lib.hid g5
  have G6 := Lib.hid g6
  clear g0 g1 g2 g3 g4 g5 g6
  unfold AnswersB
  obtain ⟨r, hrr⟩ : ∃ r, r = dec ((0 < x.name.size) ∧ (x.name.size ≤ 60000) ∧ (Leaf x) ∧ (NoNumber x)) := ⟨_, rfl⟩
  rw [← hrr]
  have HRR := Lib.hid hrr; clear hrr
  by_cases c0 : 0 < x.name.size
  case pos =>
    have q1 := isEmpty_of c0; have q2 := toList_ne c0
    by_cases c1 : x.name.size ≤ 60000
    case pos =>
      have g1 := cell_later' HB.out G1.out
      go_enter Try.func121, Try.ntmps121
      go_wp2_with fail
      obtain ⟨W1, hW1, hp1, hB1, hs1⟩ := boxed w [.pointer (some p)] 121
      rw [← hW1]
      have BP0 := Lib.hid hp1; have HB0 := Lib.hid hB1; clear hW1 hp1 hB1 hs1
      clear g1
      refine (ans_leaf (HAT.out.later HB0.out) HBK.out).mono ?_
      rintro e w2 ⟨rfl, hb⟩
      have HB1 := Lib.hid (Below.step HB0.out hb); have BP1 := Lib.hid (BP0.out.below hb); clear hb
      by_cases c2 : Leaf x
      case pos =>
        rw [show ((x.names.length = 0) ∧ (x.alts.length = 0) ∧ (x.kids.length = 0)) = Leaf x from rfl, dec_true c2]
        have C2 := Lib.hid c2; clear c2
        have z0 := BP1.out.cell (j := 0) rfl
        go_wp2_with fail
        clear z0
        refine (ans_noNumber (HAT.out.later HB1.out) HBK.out).mono ?_
        rintro e w3 ⟨rfl, hb⟩
        have HB2 := Lib.hid (Below.step HB1.out hb); have BP2 := Lib.hid (BP1.out.below hb); clear hb
        by_cases c3 : NoNumber x
        case pos =>
          rw [show ((x.minus = false) ∧ (x.limbs.length = 0)) = NoNumber x from rfl, dec_true c3]
          have C3 := Lib.hid c3; clear c3
          have z0 := BP2.out.cell (j := 0) rfl
          go_wp2
          go_ret
          exact ⟨by rw [HRR.out, dec_true ⟨c0, c1, C2.out, C3.out⟩]; first | done | rfl, HB2.out⟩
        case neg =>
          rw [show ((x.minus = false) ∧ (x.limbs.length = 0)) = NoNumber x from rfl, dec_false c3]
          have N3 := Lib.hid c3; clear c3
          have z0 := BP2.out.cell (j := 0) rfl
          go_wp2
          go_ret
          exact ⟨by rw [HRR.out, dec_false (fun h => N3.out h.2.2.2)]; first | done | rfl, HB2.out⟩
      case neg =>
        rw [show ((x.names.length = 0) ∧ (x.alts.length = 0) ∧ (x.kids.length = 0)) = Leaf x from rfl, dec_false c2]
        have N2 := Lib.hid c2; clear c2
        have z0 := BP1.out.cell (j := 0) rfl
        go_wp2
        go_ret
        exact ⟨by rw [HRR.out, dec_false (fun h => N2.out h.2.2.1)]; first | done | rfl, HB1.out⟩
    case neg =>
      have N1 := Lib.hid c1
      have g1 := cell_later' HB.out G1.out
      go_enter Try.func121, Try.ntmps121
      go_wp2
      go_ret
      exact ⟨by rw [HRR.out, dec_false (fun h => N1.out h.2.1)]; first | done | rfl, HB.out⟩
  case neg =>
    have N0 := Lib.hid c0
    have e1 : x.name = ⟨#[]⟩ := size_zero.1 (by omega)
    have g1 := cell_later' HB.out G1.out
    rw [e1] at g1
    go_enter Try.func121, Try.ntmps121
    go_wp2
    go_ret
    exact ⟨by rw [HRR.out, dec_false (fun h => N0.out h.1)]; first | done | rfl, HB.out⟩
set_option maxRecDepth 100000 in
set_option maxHeartbeats 1000000 in
theorem ans_lam (hat : At w x p) (hbk : bulk x ≤ 1048576) : AnswersB 115 #[.agg #[.pointer (some p)]] w (dec ((x.name.size = 0) ∧ (x.kids.length = 1) ∧ (0 < x.names.length) ∧ (namesOk x.names) ∧ (x.alts.length = 0) ∧ (NoNumber x))) := by
  obtain ⟨b1, b2, b3, b4, b5⟩ := bounds hbk
  have HBK := Lib.hid hbk; clear hbk
  have HAT := Lib.hid hat
  obtain ⟨A3, c3, A4, c4, A5, c5, A6, c6, hK, g0, g1, g2, g3, g4, g5, g6⟩ := hat
  have NM := Lib.hid (names_of hK); have LM := Lib.hid (limbs_of hK)
  clear hK
  have HB := Lib.hid (grown_box w (.cells #[.pointer (some p)] 117))
  have G0 := Lib.hid g0
  have G1 := Lib.hid g1
  have G2 := Lib.hid g2
  have G3 := Lib.hid g3
  have G4 := Lib.hid g4
  have G5 := Lib.hid g5
  have G6 := Lib.hid g6
  clear g0 g1 g2 g3 g4 g5 g6
  unfold AnswersB
  obtain ⟨r, hrr⟩ : ∃ r, r = dec ((x.name.size = 0) ∧ (x.kids.length = 1) ∧ (0 < x.names.length) ∧ (namesOk x.names) ∧ (x.alts.length = 0) ∧ (NoNumber x)) := ⟨_, rfl⟩
  rw [← hrr]
  have HRR := Lib.hid hrr; clear hrr
  by_cases c0 : x.name.size = 0
  case pos =>
    have e1 : x.name = ⟨#[]⟩ := size_zero.1 c0
    by_cases c1 : x.kids.length = 1
    case pos =>
      have qkids : ((x.kids.length : Int) == 1) = true := beq_iff_eq.2 (by omega)
      by_cases c2 : 0 < x.names.length
      case pos =>
        have g1 := cell_later' HB.out G1.out
        have g4 := cell_later' HB.out G4.out
        have g5 := cell_later' HB.out G5.out
        rw [e1] at g1
        go_enter Try.func115, Try.ntmps115
        go_wp2_with fail
        obtain ⟨W1, hW1, hp1, hB1, hs1⟩ := boxed w [.pointer (some p)] 117
        rw [← hW1]
        have BP0 := Lib.hid hp1; have HB0 := Lib.hid hB1; clear hW1 hp1 hB1 hs1
        clear g1 g4 g5
        refine (unlike_any x.names (strs_small HBK.out) b4 _ _ _ (Kd.C_below NM.out.2 HB0.out) NM.out.1).mono ?_
        rintro e w2 ⟨rfl, hb⟩
        have HB1 := Lib.hid (Below.step HB0.out hb); have BP1 := Lib.hid (BP0.out.below hb); clear hb
        by_cases c3 : namesOk x.names
        case pos =>
          rw [dec_true c3]
          have C3 := Lib.hid c3; clear c3
          have z0 := BP1.out.cell (j := 0) rfl
          go_wp2_with fail
          clear z0
          refine (ans_noAlts (HAT.out.later HB1.out) HBK.out).mono ?_
          rintro e w3 ⟨rfl, hb⟩
          have HB2 := Lib.hid (Below.step HB1.out hb); have BP2 := Lib.hid (BP1.out.below hb); clear hb
          by_cases c4 : x.alts.length = 0
          case pos =>
            rw [dec_true c4]
            have C4 := Lib.hid c4; clear c4
            have z0 := BP2.out.cell (j := 0) rfl
            go_wp2_with fail
            clear z0
            refine (ans_noNumber (HAT.out.later HB2.out) HBK.out).mono ?_
            rintro e w4 ⟨rfl, hb⟩
            have HB3 := Lib.hid (Below.step HB2.out hb); have BP3 := Lib.hid (BP2.out.below hb); clear hb
            by_cases c5 : NoNumber x
            case pos =>
              rw [show ((x.minus = false) ∧ (x.limbs.length = 0)) = NoNumber x from rfl, dec_true c5]
              have C5 := Lib.hid c5; clear c5
              have z0 := BP3.out.cell (j := 0) rfl
              go_wp2
              go_ret
              exact ⟨by rw [HRR.out, dec_true ⟨c0, c1, c2, C3.out, C4.out, C5.out⟩]; first | done | rfl, HB3.out⟩
            case neg =>
              rw [show ((x.minus = false) ∧ (x.limbs.length = 0)) = NoNumber x from rfl, dec_false c5]
              have N5 := Lib.hid c5; clear c5
              have z0 := BP3.out.cell (j := 0) rfl
              go_wp2
              go_ret
              exact ⟨by rw [HRR.out, dec_false (fun h => N5.out h.2.2.2.2.2)]; first | done | rfl, HB3.out⟩
          case neg =>
            rw [dec_false c4]
            have N4 := Lib.hid c4; clear c4
            have z0 := BP2.out.cell (j := 0) rfl
            go_wp2
            go_ret
            exact ⟨by rw [HRR.out, dec_false (fun h => N4.out h.2.2.2.2.1)]; first | done | rfl, HB2.out⟩
        case neg =>
          rw [dec_false c3]
          have N3 := Lib.hid c3; clear c3
          have z0 := BP1.out.cell (j := 0) rfl
          go_wp2
          go_ret
          exact ⟨by rw [HRR.out, dec_false (fun h => N3.out h.2.2.2.1)]; first | done | rfl, HB1.out⟩
      case neg =>
        have N2 := Lib.hid c2
        have g1 := cell_later' HB.out G1.out
        have g4 := cell_later' HB.out G4.out
        have g5 := cell_later' HB.out G5.out
        rw [e1] at g1
        go_enter Try.func115, Try.ntmps115
        go_wp2
        go_ret
        exact ⟨by rw [HRR.out, dec_false (fun h => N2.out h.2.2.1)]; first | done | rfl, HB.out⟩
    case neg =>
      have N1 := Lib.hid c1
      have qkids : ((x.kids.length : Int) == 1) = false := beq_eq_false_iff_ne.2 (by omega)
      have g1 := cell_later' HB.out G1.out
      have g5 := cell_later' HB.out G5.out
      rw [e1] at g1
      go_enter Try.func115, Try.ntmps115
      go_wp2
      go_ret
      exact ⟨by rw [HRR.out, dec_false (fun h => N1.out h.2.1)]; first | done | rfl, HB.out⟩
  case neg =>
    have N0 := Lib.hid c0
    have q1 := isEmpty_of (s := x.name) (by omega); have q2 := toList_ne (s := x.name) (by omega)
    have g1 := cell_later' HB.out G1.out
    go_enter Try.func115, Try.ntmps115
    go_wp2
    go_ret
    exact ⟨by rw [HRR.out, dec_false (fun h => N0.out h.1)]; first | done | rfl, HB.out⟩
end
end Go.Proofs.Ytagfphlhahiplaa.C13
namespace Go.Proofs.Ytagfphlhahiplaa.C13
open Go.RowKit Go.Proofs.YtagfphlhahiplaaW.PrintWords Go.Proofs.Ytagfphlhahiplaa.PFnExactFormatCore
set_option linter.unusedVariables false
set_option linter.unusedSimpArgs false
theorem elem_u32 {w : World} {A : Option Addr} {n : Nat} {xs : List Int} (h : (Kd.int .u32).C w A n xs) (i : Nat) (hi : i < xs.length) : ∃ ad, A = some ad ∧ w.cell? (ad.add i) = some (.int .u32 xs[i]) := by
  obtain ⟨ad, e', hc⟩ := h.2.2 (by have := h.1; omega)
  obtain ⟨c, hcl, hK, hcell⟩ := hc i xs[i] (List.getElem?_eq_getElem hi)
  obtain rfl := hK
  refine ⟨ad, e', ?_⟩
  have := hcell 0 _ rfl
  have e : i * (Kd.int .u32).sz + 0 = i := by show i * 1 + 0 = i; omega
  rwa [e] at this
set_option maxRecDepth 100000 in
set_option maxHeartbeats 1000000 in
theorem ans_bigFault (m : Bool) (l : List Int) (A : Option Addr) (c : Nat) (w : World) (hr : (Kd.int .u32).C w A l.length l) (hc : l.length ≤ c) (hn : l.length ≤ 1048576) :
    AnswersB 75 #[.agg #[.bool m, .slice A l.length c]] w (bigFaultB m l) := by
  unfold AnswersB
  have HR := Lib.hid hr; clear hr
  have HB := Lib.hid (grown_box w (.cells #[.bool m, .slice A l.length c] 32))
  obtain ⟨r, hrr⟩ : ∃ r, r = bigFaultB m l := ⟨_, rfl⟩
  rw [← hrr]
  unfold bigFaultB at hrr
  by_cases h0 : l.length = 0
  · rw [if_neg (by omega), if_neg (by omega)] at hrr
    subst hrr
    have q0 : ((l.length : Int) == 0) = true := beq_iff_eq.2 (by omega)
    go_enter Try.func75, Try.ntmps75
    go_wp2
    go_ret
    exact ⟨rfl, by have := HB.out; rw [h0] at this; exact this⟩
  · have q0 : ((l.length : Int) == 0) = false := beq_eq_false_iff_ne.2 (by omega)
    by_cases h1 : l.length > 40
    · rw [if_pos h1] at hrr
      subst hrr
      go_enter Try.func75, Try.ntmps75
      go_wp2
      go_ret
      exact ⟨rfl, HB.out⟩
    · rw [if_neg h1, if_pos (by omega)] at hrr
      have q40 : decide (40 < (l.length : Int)) = false := decide_eq_false (by omega)
      obtain ⟨ad, rfl, g0⟩ := elem_u32 HR.out (l.length - 1) (by omega)
      have hrd : rd l (l.length - 1 : Int) = l[l.length - 1]'(by omega) := by
        simp [rd, List.getD_eq_getElem?_getD, show ((l.length : Int) - 1).toNat = l.length - 1 by omega, show l.length - 1 < l.length by omega]
      rw [hrd] at hrr
      have HRR := Lib.hid hrr; clear hrr hrd
      have g1 := cell_later' HB.out g0
      clear g0
      generalize l[l.length - 1]'(by omega) = z at *
      by_cases hz : z = 0
      · go_enter Try.func75, Try.ntmps75
        go_wp2
        go_ret
        exact ⟨by rw [HRR.out, hz]; rfl, HB.out⟩
      · have q2 : (z == 0) = false := beq_eq_false_iff_ne.2 hz
        have HZ := Lib.hid hz; clear hz
        go_enter Try.func75, Try.ntmps75
        go_wp2
        go_ret
        exact ⟨by rw [HRR.out, decide_eq_false HZ.out]; rfl, HB.out⟩
set_option maxRecDepth 100000 in
set_option maxHeartbeats 1000000 in
theorem ans_primCount (s : ByteArray) (w : World) : Calls Try.prog 120 #[.string s] w fun e w' => e = .returned (.int .i64 (primCount s)) ∧ Below w.heap.size w w' := by
  by_cases h0 : s.toList = [112, 114, 105, 109, 65, 100, 100]
  case pos =>
    have q0 : (s.toList == [112, 114, 105, 109, 65, 100, 100]) = true := beq_iff_eq.2 h0
    have P := Lib.hid (show primCount s = 2 by unfold primCount; rw [h0]; decide); clear h0
    go_enter Try.func120, Try.ntmps120
    go_wp2
    go_ret
    exact ⟨by rw [P.out]; first | done | rfl, Below.refl _ _⟩
  have q0 : (s.toList == [112, 114, 105, 109, 65, 100, 100]) = false := beq_eq_false_iff_ne.2 h0
  by_cases h1 : s.toList = [112, 114, 105, 109, 83, 117, 98]
  case pos =>
    have q1 : (s.toList == [112, 114, 105, 109, 83, 117, 98]) = true := beq_iff_eq.2 h1
    have P := Lib.hid (show primCount s = 2 by unfold primCount; rw [h1]; decide); clear h1
    go_enter Try.func120, Try.ntmps120
    go_wp2
    go_ret
    exact ⟨by rw [P.out]; first | done | rfl, Below.refl _ _⟩
  have q1 : (s.toList == [112, 114, 105, 109, 83, 117, 98]) = false := beq_eq_false_iff_ne.2 h1
  by_cases h2 : s.toList = [112, 114, 105, 109, 77, 117, 108]
  case pos =>
    have q2 : (s.toList == [112, 114, 105, 109, 77, 117, 108]) = true := beq_iff_eq.2 h2
    have P := Lib.hid (show primCount s = 2 by unfold primCount; rw [h2]; decide); clear h2
    go_enter Try.func120, Try.ntmps120
    go_wp2
    go_ret
    exact ⟨by rw [P.out]; first | done | rfl, Below.refl _ _⟩
  have q2 : (s.toList == [112, 114, 105, 109, 77, 117, 108]) = false := beq_eq_false_iff_ne.2 h2
  by_cases h3 : s.toList = [112, 114, 105, 109, 68, 105, 118]
  case pos =>
    have q3 : (s.toList == [112, 114, 105, 109, 68, 105, 118]) = true := beq_iff_eq.2 h3
    have P := Lib.hid (show primCount s = 2 by unfold primCount; rw [h3]; decide); clear h3
    go_enter Try.func120, Try.ntmps120
    go_wp2
    go_ret
    exact ⟨by rw [P.out]; first | done | rfl, Below.refl _ _⟩
  have q3 : (s.toList == [112, 114, 105, 109, 68, 105, 118]) = false := beq_eq_false_iff_ne.2 h3
  by_cases h4 : s.toList = [112, 114, 105, 109, 77, 111, 100]
  case pos =>
    have q4 : (s.toList == [112, 114, 105, 109, 77, 111, 100]) = true := beq_iff_eq.2 h4
    have P := Lib.hid (show primCount s = 2 by unfold primCount; rw [h4]; decide); clear h4
    go_enter Try.func120, Try.ntmps120
    go_wp2
    go_ret
    exact ⟨by rw [P.out]; first | done | rfl, Below.refl _ _⟩
  have q4 : (s.toList == [112, 114, 105, 109, 77, 111, 100]) = false := beq_eq_false_iff_ne.2 h4
  by_cases h5 : s.toList = [112, 114, 105, 109, 69, 113]
  case pos =>
    have q5 : (s.toList == [112, 114, 105, 109, 69, 113]) = true := beq_iff_eq.2 h5
    have P := Lib.hid (show primCount s = 2 by unfold primCount; rw [h5]; decide); clear h5
    go_enter Try.func120, Try.ntmps120
    go_wp2
    go_ret
    exact ⟨by rw [P.out]; first | done | rfl, Below.refl _ _⟩
  have q5 : (s.toList == [112, 114, 105, 109, 69, 113]) = false := beq_eq_false_iff_ne.2 h5
  by_cases h6 : s.toList = [112, 114, 105, 109, 76, 101, 115, 115]
  case pos =>
    have q6 : (s.toList == [112, 114, 105, 109, 76, 101, 115, 115]) = true := beq_iff_eq.2 h6
    have P := Lib.hid (show primCount s = 2 by unfold primCount; rw [h6]; decide); clear h6
    go_enter Try.func120, Try.ntmps120
    go_wp2
    go_ret
    exact ⟨by rw [P.out]; first | done | rfl, Below.refl _ _⟩
  have q6 : (s.toList == [112, 114, 105, 109, 76, 101, 115, 115]) = false := beq_eq_false_iff_ne.2 h6
  by_cases h7 : s.toList = [112, 114, 105, 109, 83, 101, 113]
  case pos =>
    have q7 : (s.toList == [112, 114, 105, 109, 83, 101, 113]) = true := beq_iff_eq.2 h7
    have P := Lib.hid (show primCount s = 2 by unfold primCount; rw [h7]; decide); clear h7
    go_enter Try.func120, Try.ntmps120
    go_wp2
    go_ret
    exact ⟨by rw [P.out]; first | done | rfl, Below.refl _ _⟩
  have q7 : (s.toList == [112, 114, 105, 109, 83, 101, 113]) = false := beq_eq_false_iff_ne.2 h7
  by_cases h8 : s.toList = [112, 114, 105, 109, 79, 114, 100]
  case pos =>
    have q8 : (s.toList == [112, 114, 105, 109, 79, 114, 100]) = true := beq_iff_eq.2 h8
    have P := Lib.hid (show primCount s = 1 by unfold primCount; rw [h8]; decide); clear h8
    go_enter Try.func120, Try.ntmps120
    go_wp2
    go_ret
    exact ⟨by rw [P.out]; first | done | rfl, Below.refl _ _⟩
  have q8 : (s.toList == [112, 114, 105, 109, 79, 114, 100]) = false := beq_eq_false_iff_ne.2 h8
  by_cases h9 : s.toList = [112, 114, 105, 109, 67, 104, 114]
  case pos =>
    have q9 : (s.toList == [112, 114, 105, 109, 67, 104, 114]) = true := beq_iff_eq.2 h9
    have P := Lib.hid (show primCount s = 1 by unfold primCount; rw [h9]; decide); clear h9
    go_enter Try.func120, Try.ntmps120
    go_wp2
    go_ret
    exact ⟨by rw [P.out]; first | done | rfl, Below.refl _ _⟩
  have q9 : (s.toList == [112, 114, 105, 109, 67, 104, 114]) = false := beq_eq_false_iff_ne.2 h9
  by_cases h10 : s.toList = [112, 114, 105, 109, 83, 104, 111, 119]
  case pos =>
    have q10 : (s.toList == [112, 114, 105, 109, 83, 104, 111, 119]) = true := beq_iff_eq.2 h10
    have P := Lib.hid (show primCount s = 1 by unfold primCount; rw [h10]; decide); clear h10
    go_enter Try.func120, Try.ntmps120
    go_wp2
    go_ret
    exact ⟨by rw [P.out]; first | done | rfl, Below.refl _ _⟩
  have q10 : (s.toList == [112, 114, 105, 109, 83, 104, 111, 119]) = false := beq_eq_false_iff_ne.2 h10
  by_cases h11 : s.toList = [112, 114, 105, 109, 69, 114, 114, 111, 114]
  case pos =>
    have q11 : (s.toList == [112, 114, 105, 109, 69, 114, 114, 111, 114]) = true := beq_iff_eq.2 h11
    have P := Lib.hid (show primCount s = 1 by unfold primCount; rw [h11]; decide); clear h11
    go_enter Try.func120, Try.ntmps120
    go_wp2
    go_ret
    exact ⟨by rw [P.out]; first | done | rfl, Below.refl _ _⟩
  have q11 : (s.toList == [112, 114, 105, 109, 69, 114, 114, 111, 114]) = false := beq_eq_false_iff_ne.2 h11
  have P := Lib.hid (show primCount s = 0 by unfold primCount; simp only [prims2, prims1, List.mem_cons, List.not_mem_nil, or_false, h0, h1, h2, h3, h4, h5, h6, h7, h8, h9, h10, h11, or_self, if_false])
  clear h0 h1 h2 h3 h4 h5 h6 h7 h8 h9 h10 h11
  go_enter Try.func120, Try.ntmps120
  go_wp2
  go_ret
  exact ⟨by rw [P.out]; first | done | rfl, Below.refl _ _⟩
end Go.Proofs.Ytagfphlhahiplaa.C13
namespace Go.Proofs.Ytagfphlhahiplaa.C13
open Go.RowKit Go.Proofs.YtagfphlhahiplaaW.PrintWords Go.Proofs.Ytagfphlhahiplaa.PFnExactFormatCore
set_option linter.unusedVariables false
set_option linter.unusedSimpArgs false
section
variable {S w : World} {x : CoreT} {p : Addr}
theorem below_drew {n : Nat} {w W : World} (h : Below n w W) : Below n w W.drew := ⟨h.os, h.tape, h.output, h.size, h.block⟩
theorem Blk.drew {w : World} {g e cs} (h : Blk w g e cs) : Blk w.drew g e cs := h.below (below_drew (Below.refl _ _))
set_option maxRecDepth 100000 in
set_option maxHeartbeats 1000000 in
theorem ans_let (hat : At w x p) (hbk : bulk x ≤ 1048576) : AnswersB 117 #[.agg #[.pointer (some p)]] w (dec ((x.name.size = 0) ∧ (0 < x.names.length) ∧ (x.kids.length = x.names.length + 1) ∧ (namesOk x.names) ∧ (x.alts.length = 0) ∧ (NoNumber x))) := by
  obtain ⟨b1, b2, b3, b4, b5⟩ := bounds hbk
  have HBK := Lib.hid hbk; clear hbk
  have HAT := Lib.hid hat
  obtain ⟨A3, c3, A4, c4, A5, c5, A6, c6, hK, g0, g1, g2, g3, g4, g5, g6⟩ := hat
  have NM := Lib.hid (names_of hK)
  clear hK
  have HB := Lib.hid (grown_box w (.cells #[.pointer (some p)] 118))
  have G1 := Lib.hid g1; have G4 := Lib.hid g4; have G5 := Lib.hid g5
  clear g0 g1 g2 g3 g4 g5 g6
  unfold AnswersB
  obtain ⟨r, hrr⟩ : ∃ r, r = dec ((x.name.size = 0) ∧ (0 < x.names.length) ∧ (x.kids.length = x.names.length + 1) ∧ (namesOk x.names) ∧ (x.alts.length = 0) ∧ (NoNumber x)) := ⟨_, rfl⟩
  rw [← hrr]
  have HRR := Lib.hid hrr; clear hrr
  go_enter Try.func117, Try.ntmps117
  go_wp2_with fail
  obtain ⟨W1, hW1, hp1, hB1, hs1⟩ := boxed w [.pointer (some p)] 118
  rw [← hW1]
  have BP0 := Lib.hid hp1; have HB0 := Lib.hid hB1; clear hW1 hp1 hB1 hs1
  refine wp_region_tailW 34 (by kernel_rfl) (by kernel_rfl) ?_
  simp only [List.take_succ_cons, List.take_zero, List.drop_succ_cons, List.drop_zero]
  have z0 := BP0.out.cell (j := 0) rfl
  have g1 := cell_later' HB0.out G1.out
  by_cases c0 : x.name.size = 0
  case neg =>
    have q1 := isEmpty_of (s := x.name) (by omega); have q2 := toList_ne (s := x.name) (by omega)
    have N0 := Lib.hid c0; clear c0
    iterate 8 (refine StillW.step (by kernel_rfl) (fun K hK => ?_); go_simp; refine hK _ ?_; clear hK K)
    iterate 8 (refine StillW.pass (by kernel_rfl) (by kernel_rfl) ?_)
    iterate 2 (refine StillW.step (by kernel_rfl) (fun K hK => ?_); go_simp; refine hK _ ?_; clear hK K)
    iterate 16 (refine StillW.pass (by kernel_rfl) (by kernel_rfl) ?_)
    refine StillW.done ?_
    clear g1 z0
    go_wp2
    go_ret
    exact ⟨by rw [HRR.out, dec_false (fun h => N0.out h.1)]; first | done | rfl, below_drew HB0.out⟩
  have e1 : x.name = ⟨#[]⟩ := size_zero.1 c0
  rw [e1] at g1
  have C0 := Lib.hid c0; have E1 := Lib.hid e1; clear c0 e1
  have g4 := cell_later' HB0.out G4.out
  by_cases c1 : 0 < x.names.length
  case neg =>
    have N1 := Lib.hid c1
    iterate 18 (refine StillW.step (by kernel_rfl) (fun K hK => ?_); go_simp; refine hK _ ?_; clear hK K)
    iterate 16 (refine StillW.pass (by kernel_rfl) (by kernel_rfl) ?_)
    refine StillW.done ?_
    clear g1 z0 g4
    go_wp2
    go_ret
    exact ⟨by rw [HRR.out, dec_false (fun h => N1.out h.2.1)]; first | done | rfl, below_drew HB0.out⟩
  have C1 := Lib.hid c1
  have g5 := cell_later' HB0.out G5.out
  have w1 : IntKind.i64.wrap ((x.names.length : Int) + 1) = (x.names.length : Int) + 1 := IntWalk.i64_in _ (by omega)
  by_cases c2 : x.kids.length = x.names.length + 1
  case neg =>
    have q2 : ((x.kids.length : Int) == (x.names.length : Int) + 1) = false := beq_eq_false_iff_ne.2 (by omega)
    have N2 := Lib.hid c2; clear c2
    iterate 34 (refine StillW.step (by kernel_rfl) (fun K hK => ?_); go_simp; refine hK _ ?_; clear hK K)
    refine StillW.done ?_
    clear g1 z0 g4 g5
    go_wp2
    go_ret
    exact ⟨by rw [HRR.out, dec_false (fun h => N2.out h.2.2.1)]; first | done | rfl, below_drew HB0.out⟩
  have q2 : ((x.kids.length : Int) == (x.names.length : Int) + 1) = true := beq_iff_eq.2 (by omega)
  have C2 := Lib.hid c2; clear c2
  iterate 34 (refine StillW.step (by kernel_rfl) (fun K hK => ?_); go_simp; refine hK _ ?_; clear hK K)
  refine StillW.done ?_
  clear g1 z0 g4 g5 w1 q2
  obtain ⟨W2, hW2⟩ : ∃ W2, W2 = W1.drew := ⟨_, rfl⟩
  rw [← hW2]
  have HB2 := Lib.hid (show Below w.heap.size w W2 by rw [hW2]; exact below_drew HB0.out)
  have BP2 := Lib.hid (show Blk W2 w.heap.size 118 [.pointer (some p)] by rw [hW2]; exact BP0.out.drew)
  clear hW2 HB0 BP0
  have z0 := BP2.out.cell (j := 0) rfl
  have g4 := cell_later' HB2.out G4.out
  go_wp2_with fail
  clear z0 g4
  refine (unlike_any x.names (strs_small HBK.out) b4 _ _ _ (Kd.C_below NM.out.2 HB2.out) NM.out.1).mono ?_
  rintro e w3 ⟨rfl, hb⟩
  have HB3 := Lib.hid (Below.step HB2.out hb); have BP3 := Lib.hid (BP2.out.below hb); clear hb
  have z0 := BP3.out.cell (j := 0) rfl
  by_cases c3 : namesOk x.names
  case neg =>
    rw [dec_false c3]
    have N3 := Lib.hid c3; clear c3
    go_wp2
    go_ret
    exact ⟨by rw [HRR.out, dec_false (fun h => N3.out h.2.2.2.1)]; first | done | rfl, HB3.out⟩
  rw [dec_true c3]
  have C3 := Lib.hid c3; clear c3
  go_wp2_with fail
  clear z0
  refine (ans_noAlts (HAT.out.later HB3.out) HBK.out).mono ?_
  rintro e w4 ⟨rfl, hb⟩
  have HB4 := Lib.hid (Below.step HB3.out hb); have BP4 := Lib.hid (BP3.out.below hb); clear hb
  have z0 := BP4.out.cell (j := 0) rfl
  by_cases c4 : x.alts.length = 0
  case neg =>
    rw [dec_false c4]
    have N4 := Lib.hid c4; clear c4
    go_wp2
    go_ret
    exact ⟨by rw [HRR.out, dec_false (fun h => N4.out h.2.2.2.2.1)]; first | done | rfl, HB4.out⟩
  rw [dec_true c4]
  have C4 := Lib.hid c4; clear c4
  go_wp2_with fail
  clear z0
  refine (ans_noNumber (HAT.out.later HB4.out) HBK.out).mono ?_
  rintro e w5 ⟨rfl, hb⟩
  have HB5 := Lib.hid (Below.step HB4.out hb); clear hb
  by_cases c5 : NoNumber x
  case neg =>
    rw [show ((x.minus = false) ∧ (x.limbs.length = 0)) = NoNumber x from rfl, dec_false c5]
    have N5 := Lib.hid c5; clear c5
    go_wp2
    go_ret
    exact ⟨by rw [HRR.out, dec_false (fun h => N5.out h.2.2.2.2.2)]; first | done | rfl, HB5.out⟩
  rw [show ((x.minus = false) ∧ (x.limbs.length = 0)) = NoNumber x from rfl, dec_true c5]
  have C5 := Lib.hid c5; clear c5
  go_wp2
  go_ret
  exact ⟨by rw [HRR.out, dec_true ⟨C0.out, C1.out, C2.out, C3.out, C4.out, C5.out⟩]; first | done | rfl, HB5.out⟩
end
end Go.Proofs.Ytagfphlhahiplaa.C13
namespace Go.Proofs.Ytagfphlhahiplaa.C13
open Go.RowKit Go.Proofs.YtagfphlhahiplaaW.PrintWords Go.Proofs.Ytagfphlhahiplaa.PFnExactFormatCore
set_option linter.unusedVariables false
set_option linter.unusedSimpArgs false
section
variable {S w : World} {x : CoreT} {p : Addr}
theorem alts_of {A3 c3 A4 c4 A5 c5 A6 c6} (hK : IC.K w x (cellsC x A3 c3 A4 c4 A5 c5 A6 c6)) : IA.C w A6 x.alts.length x.alts := by
  obtain ⟨_, _, _, _, _, _, _, _, he, -, -, -, -, -, -, -, g6⟩ := core_open hK
  simp only [cellsC, List.cons.injEq, Value.slice.injEq, true_and, and_true] at he
  obtain ⟨⟨rfl, rfl⟩, ⟨rfl, rfl⟩, ⟨rfl, rfl⟩, ⟨rfl, rfl⟩⟩ := he
  exact g6
theorem own_ltb {w : World} {base : Nat} {e : TypeId} {size : Nat} {v : Value} {n : Nat} {xs : List Value} (h : w.ownsRow base e size v n xs) : ∀ k, v.ownBlock = some k → k < w.heap.size := by
  intro k hk
  rcases h.2 with ⟨rfl, _⟩ | ⟨g, cap, cur, rfl, hg, hh, _⟩
  · cases hk
  · simp only [Value.ownBlock] at hk; injection hk with hk; subst hk
    exact (Array.getElem?_eq_some_iff.1 hh).1
set_option maxRecDepth 100000 in
set_option maxHeartbeats 1000000 in
theorem ans_case (hat : At w x p) (hbk : bulk x ≤ 1048576) : AnswersB 118 #[.agg #[.pointer (some p)]] w (dec ((x.names.length = 0) ∧ (NoNumber x) ∧ (1 ≤ x.kids.length) ∧ (x.kids.length ≤ 2) ∧ (2 ≤ x.kids.length + x.alts.length) ∧ (∀ a ∈ x.alts, namesOk a.names) ∧ namesOk (x.alts.map (·.con)))) := by
  obtain ⟨b1, b2, b3, b4, b5⟩ := bounds hbk
  have HBK := Lib.hid hbk; clear hbk
  have HAT := Lib.hid hat
  obtain ⟨A3, c3, A4, c4, A5, c5, A6, c6, hK, g0, g1, g2, g3, g4, g5, g6⟩ := hat
  have A6' := Lib.hid (alts_of hK)
  clear hK
  have G5 := Lib.hid g5; have G6 := Lib.hid g6
  clear g0 g1 g2 g3 g4 g5 g6
  unfold AnswersB
  obtain ⟨r, hrr⟩ : ∃ r, r = dec ((x.names.length = 0) ∧ (NoNumber x) ∧ (1 ≤ x.kids.length) ∧ (x.kids.length ≤ 2) ∧ (2 ≤ x.kids.length + x.alts.length) ∧ (∀ a ∈ x.alts, namesOk a.names) ∧ namesOk (x.alts.map (·.con))) := ⟨_, rfl⟩
  rw [← hrr]
  have HRR := Lib.hid hrr; clear hrr
  go_enter Try.func118, Try.ntmps118
  go_wp2_with fail
  obtain ⟨W1, hW1, hp1, hB1, hs1⟩ := boxed w [.pointer (some p)] 119
  rw [← hW1]
  have BP0 := Lib.hid hp1; have HB0 := Lib.hid hB1; clear hW1 hp1 hB1 hs1
  refine wp_region_mid 31 45 (by kernel_rfl) (by kernel_rfl) ?_
  simp only [List.take_succ_cons, List.take_zero, List.drop_succ_cons, List.drop_zero]
  obtain ⟨W2, hW2⟩ : ∃ W2, W2 = W1.drew := ⟨_, rfl⟩
  rw [← hW2]
  have HB2 := Lib.hid (show Below w.heap.size w W2 by rw [hW2]; exact below_drew HB0.out)
  have BP2 := Lib.hid (show Blk W2 w.heap.size 119 [.pointer (some p)] by rw [hW2]; exact BP0.out.drew)
  clear hW2 HB0 BP0
  have z0 := BP2.out.cell (j := 0) rfl
  go_wp2_with fail
  clear z0
  refine (ans_noNames (HAT.out.later HB2.out) HBK.out).mono ?_
  rintro e w3 ⟨rfl, hb⟩
  have HB3 := Lib.hid (Below.step HB2.out hb); have BP3 := Lib.hid (BP2.out.below hb); clear hb
  have z0 := BP3.out.cell (j := 0) rfl
  by_cases c0 : x.names.length = 0
  case neg =>
    rw [dec_false c0]
    have N0 := Lib.hid c0; clear c0
    go_wp2_with fail
    refine midQ_intro ?_
    iterate 14 (refine StillW.pass (by kernel_rfl) (by kernel_rfl) ?_)
    refine StillW.done ?_
    go_wp2
    go_ret
    exact ⟨by rw [HRR.out, dec_false (fun h => N0.out h.1)]; first | done | rfl, HB3.out⟩
  rw [dec_true c0]
  have C0 := Lib.hid c0; clear c0
  go_wp2_with fail
  clear z0
  refine (ans_noNumber (HAT.out.later HB3.out) HBK.out).mono ?_
  rintro e w4 ⟨rfl, hb⟩
  have HB4 := Lib.hid (Below.step HB3.out hb); have BP4 := Lib.hid (BP3.out.below hb); clear hb
  have z0 := BP4.out.cell (j := 0) rfl
  have g5 := cell_later' HB4.out G5.out
  by_cases c1 : NoNumber x
  case neg =>
    rw [show ((x.minus = false) ∧ (x.limbs.length = 0)) = NoNumber x from rfl, dec_false c1]
    have N1 := Lib.hid c1; clear c1
    go_wp2_with fail
    refine midQ_intro ?_
    iterate 14 (refine StillW.pass (by kernel_rfl) (by kernel_rfl) ?_)
    refine StillW.done ?_
    go_wp2
    go_ret
    exact ⟨by rw [HRR.out, dec_false (fun h => N1.out h.2.1)]; first | done | rfl, HB4.out⟩
  rw [show ((x.minus = false) ∧ (x.limbs.length = 0)) = NoNumber x from rfl, dec_true c1]
  have C1 := Lib.hid c1; clear c1
  by_cases c2 : 1 ≤ x.kids.length
  case neg =>
    have N2 := Lib.hid c2
    have q2 : decide ((x.kids.length : Int) < 1) = true := decide_eq_true (by omega)
    go_wp2_with fail
    refine midQ_intro ?_
    iterate 14 (refine StillW.pass (by kernel_rfl) (by kernel_rfl) ?_)
    refine StillW.done ?_
    go_wp2
    go_ret
    exact ⟨by rw [HRR.out, dec_false (fun h => N2.out h.2.2.1)]; first | done | rfl, HB4.out⟩
  have C2 := Lib.hid c2
  have q2 : decide ((x.kids.length : Int) < 1) = false := decide_eq_false (by omega)
  by_cases c3 : x.kids.length ≤ 2
  case neg =>
    have N3 := Lib.hid c3
    have q3 : decide (2 < (x.kids.length : Int)) = true := decide_eq_true (by omega)
    go_wp2_with fail
    refine midQ_intro ?_
    iterate 14 (refine StillW.pass (by kernel_rfl) (by kernel_rfl) ?_)
    refine StillW.done ?_
    go_wp2
    go_ret
    exact ⟨by rw [HRR.out, dec_false (fun h => N3.out h.2.2.2.1)]; first | done | rfl, HB4.out⟩
  have C3 := Lib.hid c3
  have q3 : decide (2 < (x.kids.length : Int)) = false := decide_eq_false (by omega)
  have g6 := cell_later' HB4.out G6.out
  have w1 : IntKind.i64.wrap ((x.kids.length : Int) + x.alts.length) = (x.kids.length : Int) + x.alts.length := IntWalk.i64_in _ (by omega)
  go_wp2_with fail
  refine midQ_intro ?_
  iterate 14 (refine StillW.step (by kernel_rfl) (fun K hK => ?_); go_simp; refine hK _ ?_; clear hK K)
  refine StillW.done ?_
  clear g5 g6 q2 q3 z0
  by_cases c4 : 2 ≤ x.kids.length + x.alts.length
  case neg =>
    have N4 := Lib.hid c4
    have q4 : decide ((x.kids.length : Int) + x.alts.length < 2) = true := decide_eq_true (by omega)
    go_wp2
    go_ret
    exact ⟨by rw [HRR.out, dec_false (fun h => N4.out h.2.2.2.2.1)]; first | done | rfl, HB4.out⟩
  have C4 := Lib.hid c4
  have q4 : decide ((x.kids.length : Int) + x.alts.length < 2) = false := decide_eq_false (by omega)
  have z0 := (BP4.out.alloc (.cells #[] 9)).cell (j := 0) rfl
  have g6 : (w4.alloc (Obj.cells #[] 9)).cell? ⟨p.block, p.off + 6, none⟩ = _ := cell_later' (grown_box w4 _) (cell_later' HB4.out G6.out)
  go_wp2_with fail
  clear z0 g6 w1 q4
  go_loopw [3, 5, 62] (fun v v5 i wr => ∃ (k : Nat), k ≤ x.alts.length ∧ i = .int .i64 k ∧ Hid (∀ a ∈ x.alts.take k, namesOk a.names) ∧ Hid (wr.ownsRow w4.heap.size 9 1 v k (encS ((x.alts.map (·.con)).take k))) ∧ Hid (Below w4.heap.size w4 wr)) (fun _ _ i _ => x.alts.length - (intOf i).toNat)
  case atStart => exact ⟨0, Nat.zero_le _, rfl, Lib.hid (fun a ha => by simp at ha), Lib.hid (own_empty w4 _ _ rfl), Lib.hid (Below.alloc (Below.refl _ _) (Nat.le_refl _) _)⟩
  case round =>
    obtain ⟨k, hk, rfl, HN, HOW, HB⟩ := hrel
    have HBw := Lib.hid (Below.step HB4.out HB.out)
    by_cases hlt : k < x.alts.length
    · obtain ⟨ad, A1, c1, A3', c3', A4', c4', B5, d5, B6, d6, rfl, _, _, l1, hnm, g0, g1, g2, g3, g4, g5, g6, g7, g8⟩ := elem_alt_at A6'.out HBw.out k hlt
      have hnb := mem_abulks (List.getElem_mem hlt)
      rw [abulk_eq] at hnb
      have HLT := Lib.hid hlt
      go_wp2_with (at_builtin; go_must (refine print_append_cells (w0 := w4) (w4.heap.size) rfl _ _ 25 9 (.string ⟨#[]⟩) 1 16 rfl Try.underlying25 infoS rfl (by decide) (by decide) u3 k (encS ((x.alts.map (·.con)).take k)) [.string x.alts[k].con] rfl (by show Value.slice (some ⟨wr.heap.size + 1, 0, none⟩) 1 1 = _; simp) rfl (by intro v hv; rw [List.mem_singleton.1 hv]; rfl) (ownsRow_below HOW.out (grown_box wr _)) (Below.alloc HB.out HB.out.size _) (by have := HB.out.size; simp; omega) (by omega) ?_))
      intro v1 w5 hown5 hb5 hg5 _
      have HOW5 := Lib.hid hown5; have HB5 := Lib.hid hb5
      have p1 := ((blk_alloc wr 80 (cellsA x.alts[k] A1 c1 A3' c3' A4' c4' B5 d5 B6 d6)).grownO hg5 (fun h => by have := own_ltb HOW.out _ h.symm; omega)).cell (j := 1) rfl
      clear hown5 hb5 hg5 g0 g1 g2 g3 g4 g5 g6 g7 g8
      have HBw5 := Lib.hid (Below.step HB4.out HB5.out)
      have hnl : x.alts[k].names.length ≤ 1048576 := by have := len_strsB x.alts[k].names; have := HBK.out; rw [bulk_eq] at this; omega
      have hss : ∀ s ∈ x.alts[k].names, s.size ≤ 1048576 := fun s hs => by have := mem_strsB hs; have := HBK.out; rw [bulk_eq] at this; omega
      have HSS := Lib.hid hss; clear hss
      go_wp2_with fail
      clear p1
      refine (unlike_any x.alts[k].names HSS.out hnl _ _ _ (Kd.C_below hnm HBw5.out) l1).mono ?_
      rintro e w6 ⟨rfl, hb6⟩
      have HB6 := Lib.hid (Below.step HB5.out hb6)
      have HOW6 := Lib.hid (ownsRow_below HOW5.out hb6)
      have HBw6 := Lib.hid (Below.step HBw5.out hb6)
      clear hb6 HSS hnb hnm
      by_cases hno : namesOk x.alts[k].names
      · rw [dec_true hno]
        have HN6 := Lib.hid (show ∀ a ∈ x.alts.take (k + 1), namesOk a.names from by
          intro a ha
          rw [take_snoc' hlt] at ha
          rcases List.mem_append.1 ha with ha | ha
          · exact HN.out a ha
          · rw [List.mem_singleton.1 ha]; exact hno)
        clear hno
        go_wp2
        go_roundw
        case rel => exact ⟨k + 1, by omega, by go_num, HN6, Lib.hid (by have := HOW6.out; have e : (x.alts.map (·.con)).take (k + 1) = (x.alts.map (·.con)).take k ++ [x.alts[k].con] := by { rw [take_snoc' (l := x.alts.map (·.con)) (by rw [List.length_map]; exact hlt), List.getElem_map]; rfl }; rw [e]; unfold encS at this ⊢; rw [List.map_append]; exact this), HB6⟩
        case measure => simp [intOf]; omega
      · rw [dec_false hno]
        have HNO := Lib.hid hno; clear hno
        go_wp2
        go_ret
        exact ⟨by rw [HRR.out, dec_false (fun h => HNO.out (h.2.2.2.2.2.1 _ (List.getElem_mem hlt)))]; first | done | rfl, HBw6.out⟩
    · have hkk : k = x.alts.length := by omega
      have hnn := HN.out
      have how := HOW.out
      rw [hkk, List.take_length] at hnn
      rw [hkk, List.take_of_length_le (by rw [List.length_map]; exact Nat.le_refl _)] at how
      have HKK := Lib.hid hkk; clear hkk
      obtain ⟨F, hrow, _, _⟩ := row_of_own how
      obtain ⟨A, c, rfl, hlc, hC⟩ := Row.readsS (l := x.alts.map (·.con)) (by rw [List.length_map]; exact hrow)
      have HNN := Lib.hid hnn; have HC := Lib.hid hC
      have HSS := Lib.hid (show ∀ s ∈ x.alts.map (·.con), s.size ≤ 1048576 from fun s hs => by
        obtain ⟨a, ha, rfl⟩ := List.mem_map.1 hs
        have := mem_abulks ha; rw [abulk_eq] at this; have := HBK.out; rw [bulk_eq] at this; omega)
      clear hnn how hrow hC
      rw [List.length_map]
      go_wp2_with fail
      refine (Calls.mono (by have := unlike_any (x.alts.map (·.con)) HSS.out (by rw [List.length_map]; omega) A c wr HC.out hlc; unfold AnswersB at this; rw [List.length_map] at this; exact this) ?_)
      rintro e w2 ⟨rfl, hb2⟩
      have HB2 := Lib.hid (Below.step HBw.out hb2); clear hb2
      go_wp2
      go_ret
      refine ⟨?_, HB2.out⟩
      rw [HRR.out]
      show Ending.returned (Value.bool (dec _)) = _
      congr 2
      exact dec_congr ⟨fun h => ⟨C0.out, C1.out, C2.out, C3.out, C4.out, HNN.out, h⟩, fun h => h.2.2.2.2.2.2⟩
end
end Go.Proofs.Ytagfphlhahiplaa.C13
namespace Go.Proofs.Ytagfphlhahiplaa.C13
open Go.RowKit Go.Proofs.YtagfphlhahiplaaW.PrintWords Go.Proofs.Ytagfphlhahiplaa.PFnExactFormatCore
set_option linter.unusedVariables false
set_option linter.unusedSimpArgs false
section
variable {S w : World} {x : CoreT} {p : Addr}
def PrimPos (x : CoreT) : Prop := 0 < primCount x.name
def PrimFit (x : CoreT) : Prop := (x.kids.length : Int) = primCount x.name
theorem ans_no : AnswersB 122 #[.agg #[.pointer (some p)]] w false := by
  unfold AnswersB
  go_enter Try.func122, Try.ntmps122
  go_wp2
  go_ret
  exact ⟨rfl, grown_box w _⟩
set_option maxRecDepth 100000 in
set_option maxHeartbeats 1000000 in
theorem ans_num (hat : At w x p) (hbk : bulk x ≤ 1048576) : AnswersB 111 #[.agg #[.pointer (some p)]] w (dec ((x.name.size = 0) ∧ (Leaf x) ∧ (bigFaultB x.minus x.limbs = false))) := by
  obtain ⟨b1, b2, b3, b4, b5⟩ := bounds hbk
  have HBK := Lib.hid hbk; clear hbk
  have HAT := Lib.hid hat
  obtain ⟨A3, c3, A4, c4, A5, c5, A6, c6, hK, g0, g1, g2, g3, g4, g5, g6⟩ := hat
  have NM := Lib.hid (names_of hK); have LM := Lib.hid (limbs_of hK)
  clear hK
  have HB := Lib.hid (grown_box w (.cells #[.pointer (some p)] 113))
  have G0 := Lib.hid g0
  have G1 := Lib.hid g1
  have G2 := Lib.hid g2
  have G3 := Lib.hid g3
  have G4 := Lib.hid g4
  have G5 := Lib.hid g5
  have G6 := Lib.hid g6
  clear g0 g1 g2 g3 g4 g5 g6
  unfold AnswersB
  obtain ⟨r, hrr⟩ : ∃ r, r = dec ((x.name.size = 0) ∧ (Leaf x) ∧ (bigFaultB x.minus x.limbs = false)) := ⟨_, rfl⟩
  rw [← hrr]
  have HRR := Lib.hid hrr; clear hrr
  by_cases c0 : x.name.size = 0
  case pos =>
    have e1 : x.name = ⟨#[]⟩ := size_zero.1 c0
    have g1 := cell_later' HB.out G1.out
    rw [e1] at g1
    go_enter Try.func111, Try.ntmps111
    go_wp2_with fail
    obtain ⟨W1, hW1, hp1, hB1, hs1⟩ := boxed w [.pointer (some p)] 113
    rw [← hW1]
    have BP0 := Lib.hid hp1; have HB0 := Lib.hid hB1; clear hW1 hp1 hB1 hs1
    clear g1
    refine (ans_leaf (HAT.out.later HB0.out) HBK.out).mono ?_
    rintro e w2 ⟨rfl, hb⟩
    have HB1 := Lib.hid (Below.step HB0.out hb); have BP1 := Lib.hid (BP0.out.below hb); clear hb
    by_cases c1 : Leaf x
    case pos =>
      rw [show ((x.names.length = 0) ∧ (x.alts.length = 0) ∧ (x.kids.length = 0)) = Leaf x from rfl, dec_true c1]
      have C1 := Lib.hid c1; clear c1
      have g2 := cell_later' HB1.out G2.out
      have g3 := cell_later' HB1.out G3.out
      have z0 := BP1.out.cell (j := 0) rfl
      go_wp2_with fail
      clear g2 g3
      clear z0
      refine (ans_bigFault x.minus x.limbs _ _ _ (Kd.C_below LM.out.2 HB1.out) LM.out.1 b2).mono ?_
      rintro e w3 ⟨rfl, hb⟩
      have HB2 := Lib.hid (Below.step HB1.out hb); have BP2 := Lib.hid (BP1.out.below hb); clear hb
      by_cases c2 : bigFaultB x.minus x.limbs = false
      case pos =>
        rw [c2]
        have C2 := Lib.hid c2; clear c2
        have z0 := BP2.out.cell (j := 0) rfl
        go_wp2
        go_ret
        exact ⟨by rw [HRR.out, dec_true ⟨c0, C1.out, C2.out⟩]; first | done | rfl, HB2.out⟩
      case neg =>
        rw [show bigFaultB x.minus x.limbs = true from by simpa using c2]
        have N2 := Lib.hid c2; clear c2
        have z0 := BP2.out.cell (j := 0) rfl
        go_wp2
        go_ret
        exact ⟨by rw [HRR.out, dec_false (fun h => N2.out h.2.2)]; first | done | rfl, HB2.out⟩
    case neg =>
      rw [show ((x.names.length = 0) ∧ (x.alts.length = 0) ∧ (x.kids.length = 0)) = Leaf x from rfl, dec_false c1]
      have N1 := Lib.hid c1; clear c1
      have z0 := BP1.out.cell (j := 0) rfl
      go_wp2
      go_ret
      exact ⟨by rw [HRR.out, dec_false (fun h => N1.out h.2.1)]; first | done | rfl, HB1.out⟩
  case neg =>
    have N0 := Lib.hid c0
    have q1 := isEmpty_of (s := x.name) (by omega); have q2 := toList_ne (s := x.name) (by omega)
    have g1 := cell_later' HB.out G1.out
    go_enter Try.func111, Try.ntmps111
    go_wp2
    go_ret
    exact ⟨by rw [HRR.out, dec_false (fun h => N0.out h.1)]; first | done | rfl, HB.out⟩
set_option maxRecDepth 100000 in
set_option maxHeartbeats 1000000 in
theorem ans_prim (hat : At w x p) (hbk : bulk x ≤ 1048576) : AnswersB 119 #[.agg #[.pointer (some p)]] w (dec ((PrimPos x) ∧ (PrimFit x) ∧ (x.names.length = 0) ∧ (x.alts.length = 0) ∧ (NoNumber x))) := by
  obtain ⟨b1, b2, b3, b4, b5⟩ := bounds hbk
  have HBK := Lib.hid hbk; clear hbk
  have HAT := Lib.hid hat
  obtain ⟨A3, c3, A4, c4, A5, c5, A6, c6, hK, g0, g1, g2, g3, g4, g5, g6⟩ := hat
  have NM := Lib.hid (names_of hK); have LM := Lib.hid (limbs_of hK)
  clear hK
  have HB := Lib.hid (grown_box w (.cells #[.pointer (some p)] 120))
  have G0 := Lib.hid g0
  have G1 := Lib.hid g1
  have G2 := Lib.hid g2
  have G3 := Lib.hid g3
  have G4 := Lib.hid g4
  have G5 := Lib.hid g5
  have G6 := Lib.hid g6
  clear g0 g1 g2 g3 g4 g5 g6
  unfold AnswersB
  obtain ⟨r, hrr⟩ : ∃ r, r = dec ((PrimPos x) ∧ (PrimFit x) ∧ (x.names.length = 0) ∧ (x.alts.length = 0) ∧ (NoNumber x)) := ⟨_, rfl⟩
  rw [← hrr]
  have HRR := Lib.hid hrr; clear hrr
  have g1 := cell_later' HB.out G1.out
  go_enter Try.func119, Try.ntmps119
  go_wp2_with fail
  obtain ⟨W1, hW1, hp1, hB1, hs1⟩ := boxed w [.pointer (some p)] 120
  rw [← hW1]
  have BP0 := Lib.hid hp1; have HB0 := Lib.hid hB1; clear hW1 hp1 hB1 hs1 g1
  refine (ans_primCount x.name _).mono ?_
  rintro e w2 ⟨rfl, hb⟩
  have HB1 := Lib.hid (Below.step HB0.out hb); have BP1 := Lib.hid (BP0.out.below hb); clear hb
  obtain ⟨n, hn⟩ : ∃ n, n = primCount x.name := ⟨_, rfl⟩
  rw [← hn]
  have hnr := primCount_range x.name
  rw [← hn] at hnr
  have HN := Lib.hid hn; clear hn
  obtain ⟨hn0, hn2⟩ := hnr
  by_cases c0 : PrimPos x
  case pos =>
    have d0 : 0 < n := by rw [HN.out]; exact c0
    by_cases c1 : PrimFit x
    case pos =>
      have d1 : ((x.kids.length : Int) == n) = true := beq_iff_eq.2 (by rw [HN.out]; exact c1)
      have g5 := cell_later' HB1.out G5.out
      have z0 := BP1.out.cell (j := 0) rfl
      go_wp2_with fail
      clear g5
      clear z0
      refine (ans_noNames (HAT.out.later HB1.out) HBK.out).mono ?_
      rintro e w3 ⟨rfl, hb⟩
      have HB2 := Lib.hid (Below.step HB1.out hb); have BP2 := Lib.hid (BP1.out.below hb); clear hb
      by_cases c2 : x.names.length = 0
      case pos =>
        rw [dec_true c2]
        have C2 := Lib.hid c2; clear c2
        have z0 := BP2.out.cell (j := 0) rfl
        go_wp2_with fail
        clear z0
        refine (ans_noAlts (HAT.out.later HB2.out) HBK.out).mono ?_
        rintro e w4 ⟨rfl, hb⟩
        have HB3 := Lib.hid (Below.step HB2.out hb); have BP3 := Lib.hid (BP2.out.below hb); clear hb
        by_cases c3 : x.alts.length = 0
        case pos =>
          rw [dec_true c3]
          have C3 := Lib.hid c3; clear c3
          have z0 := BP3.out.cell (j := 0) rfl
          go_wp2_with fail
          clear z0
          refine (ans_noNumber (HAT.out.later HB3.out) HBK.out).mono ?_
          rintro e w5 ⟨rfl, hb⟩
          have HB4 := Lib.hid (Below.step HB3.out hb); have BP4 := Lib.hid (BP3.out.below hb); clear hb
          by_cases c4 : NoNumber x
          case pos =>
            rw [show ((x.minus = false) ∧ (x.limbs.length = 0)) = NoNumber x from rfl, dec_true c4]
            have C4 := Lib.hid c4; clear c4
            have z0 := BP4.out.cell (j := 0) rfl
            go_wp2
            go_ret
            exact ⟨by rw [HRR.out, dec_true ⟨c0, c1, C2.out, C3.out, C4.out⟩]; first | done | rfl, HB4.out⟩
          case neg =>
            rw [show ((x.minus = false) ∧ (x.limbs.length = 0)) = NoNumber x from rfl, dec_false c4]
            have N4 := Lib.hid c4; clear c4
            have z0 := BP4.out.cell (j := 0) rfl
            go_wp2
            go_ret
            exact ⟨by rw [HRR.out, dec_false (fun h => N4.out h.2.2.2.2)]; first | done | rfl, HB4.out⟩
        case neg =>
          rw [dec_false c3]
          have N3 := Lib.hid c3; clear c3
          have z0 := BP3.out.cell (j := 0) rfl
          go_wp2
          go_ret
          exact ⟨by rw [HRR.out, dec_false (fun h => N3.out h.2.2.2.1)]; first | done | rfl, HB3.out⟩
      case neg =>
        rw [dec_false c2]
        have N2 := Lib.hid c2; clear c2
        have z0 := BP2.out.cell (j := 0) rfl
        go_wp2
        go_ret
        exact ⟨by rw [HRR.out, dec_false (fun h => N2.out h.2.2.1)]; first | done | rfl, HB2.out⟩
    case neg =>
      have N1 := Lib.hid c1
      have d1 : ((x.kids.length : Int) == n) = false := beq_eq_false_iff_ne.2 (by rw [HN.out]; exact c1)
      have g5 := cell_later' HB1.out G5.out
      have z0 := BP1.out.cell (j := 0) rfl
      go_wp2
      go_ret
      exact ⟨by rw [HRR.out, dec_false (fun h => N1.out h.2.1)]; first | done | rfl, HB1.out⟩
  case neg =>
    have N0 := Lib.hid c0
    have d0 : ¬ 0 < n := by rw [HN.out]; exact c0
    have z0 := BP1.out.cell (j := 0) rfl
    go_wp2
    go_ret
    exact ⟨by rw [HRR.out, dec_false (fun h => N0.out h.1)]; first | done | rfl, HB1.out⟩
end
end Go.Proofs.Ytagfphlhahiplaa.C13
namespace Go.Proofs.Ytagfphlhahiplaa.C13
open Go.RowKit Go.Proofs.YtagfphlhahiplaaW.PrintWords Go.Proofs.Ytagfphlhahiplaa.PFnExactFormatCore
set_option linter.unusedVariables false
set_option linter.unusedSimpArgs false
section
variable {S w : World} {x : CoreT} {p : Addr}
theorem consOk_iff (l : List AltT) : consOk l ↔ (∀ a ∈ l, namesOk a.names) ∧ namesOk (l.map (·.con)) := by
  unfold consOk altsNames namesOk
  constructor
  · rintro ⟨h, h2⟩
    refine ⟨fun a ha => (h a ha).2, fun s hs => ?_, h2⟩
    obtain ⟨a, ha, rfl⟩ := List.mem_map.1 hs
    exact (h a ha).1
  · rintro ⟨h, h2, h3⟩
    exact ⟨fun a ha => ⟨h2 _ (List.mem_map.2 ⟨a, ha, rfl⟩), h a ha⟩, h3⟩
theorem shape_is (x : CoreT) : Shape x ↔ (x.kind = 2 ∨ NoNumber x) ∧ (x.kind = 8 ∨ x.alts.length = 0) ∧ (x.kind = 6 ∨ x.kind = 7 ∨ x.names.length = 0) ∧
  ((x.kind = 1 ∧ 0 < x.name.size ∧ x.kids.length = 0) ∨ (x.kind = 2 ∧ x.name.size = 0 ∧ x.kids.length = 0 ∧ bigFaultB x.minus x.limbs = false) ∨ (x.kind = 3 ∧ x.name.size = 1 ∧ x.kids.length = 0) ∨
   (x.kind = 4 ∧ 0 < x.name.size) ∨ (x.kind = 10 ∧ 0 < x.name.size ∧ x.name.size ≤ 60000 ∧ x.kids.length = 0) ∨ (x.kind = 5 ∧ x.name.size = 0 ∧ 2 ≤ x.kids.length) ∨
   (x.kind = 6 ∧ x.name.size = 0 ∧ x.kids.length = 1 ∧ 0 < x.names.length ∧ namesOk x.names) ∨ (x.kind = 7 ∧ x.name.size = 0 ∧ x.kids.length = x.names.length + 1 ∧ 0 < x.names.length ∧ namesOk x.names) ∨
   (x.kind = 8 ∧ (x.kids.length = 2 ∨ x.kids.length = 1 ∧ 0 < x.alts.length) ∧ consOk x.alts) ∨ (x.kind = 9 ∧ PrimPos x ∧ PrimFit x)) := by
  unfold Shape NoNumber PrimPos PrimFit
  constructor
  · rintro ⟨h1, h2, h3, h4, h5⟩
    exact ⟨by rcases h1 with h1 | h1 <;> rcases h2 with h2 | h2 <;> first | exact .inl h1 | exact .inl h2 | exact .inr ⟨h2, h1⟩, h3, h4, h5⟩
  · rintro ⟨h1, h3, h4, h5⟩
    exact ⟨by rcases h1 with h1 | h1 <;> first | exact .inl h1 | exact .inr h1.2, by rcases h1 with h1 | h1 <;> first | exact .inl h1 | exact .inr h1.1, h3, h4, h5⟩
theorem shape_k_var (hk : x.kind = 1) : Shape x ↔ (0 < x.name.size) ∧ (Leaf x) ∧ (NoNumber x) := by
  rw [shape_is]
  simp only [hk, Leaf]
  generalize NoNumber x = q1
  generalize bigFaultB x.minus x.limbs = q2
  generalize namesOk x.names = q3
  generalize PrimPos x = q5
  generalize PrimFit x = q6
  generalize consOk x.alts = q7
  constructor
  · intro h; grind
  · intro h; grind
theorem shape_k_num (hk : x.kind = 2) : Shape x ↔ (x.name.size = 0) ∧ (Leaf x) ∧ (bigFaultB x.minus x.limbs = false) := by
  rw [shape_is]
  simp only [hk, Leaf]
  generalize NoNumber x = q1
  generalize bigFaultB x.minus x.limbs = q2
  generalize namesOk x.names = q3
  generalize PrimPos x = q5
  generalize PrimFit x = q6
  generalize consOk x.alts = q7
  constructor
  · intro h; grind
  · intro h; grind
theorem shape_k_char (hk : x.kind = 3) : Shape x ↔ (x.name.size = 1) ∧ (Leaf x) ∧ (NoNumber x) := by
  rw [shape_is]
  simp only [hk, Leaf]
  generalize NoNumber x = q1
  generalize bigFaultB x.minus x.limbs = q2
  generalize namesOk x.names = q3
  generalize PrimPos x = q5
  generalize PrimFit x = q6
  generalize consOk x.alts = q7
  constructor
  · intro h; grind
  · intro h; grind
theorem shape_k_con (hk : x.kind = 4) : Shape x ↔ (0 < x.name.size) ∧ (x.names.length = 0) ∧ (x.alts.length = 0) ∧ (NoNumber x) := by
  rw [shape_is]
  simp only [hk, Leaf]
  generalize NoNumber x = q1
  generalize bigFaultB x.minus x.limbs = q2
  generalize namesOk x.names = q3
  generalize PrimPos x = q5
  generalize PrimFit x = q6
  generalize consOk x.alts = q7
  constructor
  · intro h; grind
  · intro h; grind
theorem shape_k_app (hk : x.kind = 5) : Shape x ↔ (x.name.size = 0) ∧ (2 ≤ x.kids.length) ∧ (x.names.length = 0) ∧ (x.alts.length = 0) ∧ (NoNumber x) := by
  rw [shape_is]
  simp only [hk, Leaf]
  generalize NoNumber x = q1
  generalize bigFaultB x.minus x.limbs = q2
  generalize namesOk x.names = q3
  generalize PrimPos x = q5
  generalize PrimFit x = q6
  generalize consOk x.alts = q7
  constructor
  · intro h; grind
  · intro h; grind
theorem shape_k_lam (hk : x.kind = 6) : Shape x ↔ (x.name.size = 0) ∧ (x.kids.length = 1) ∧ (0 < x.names.length) ∧ (namesOk x.names) ∧ (x.alts.length = 0) ∧ (NoNumber x) := by
  rw [shape_is]
  simp only [hk, Leaf]
  generalize NoNumber x = q1
  generalize bigFaultB x.minus x.limbs = q2
  generalize namesOk x.names = q3
  generalize PrimPos x = q5
  generalize PrimFit x = q6
  generalize consOk x.alts = q7
  constructor
  · intro h; grind
  · intro h; grind
theorem shape_k_let (hk : x.kind = 7) : Shape x ↔ (x.name.size = 0) ∧ (0 < x.names.length) ∧ (x.kids.length = x.names.length + 1) ∧ (namesOk x.names) ∧ (x.alts.length = 0) ∧ (NoNumber x) := by
  rw [shape_is]
  simp only [hk, Leaf]
  generalize NoNumber x = q1
  generalize bigFaultB x.minus x.limbs = q2
  generalize namesOk x.names = q3
  generalize PrimPos x = q5
  generalize PrimFit x = q6
  generalize consOk x.alts = q7
  constructor
  · intro h; grind
  · intro h; grind
theorem shape_k_case (hk : x.kind = 8) : Shape x ↔ (x.names.length = 0) ∧ (NoNumber x) ∧ (1 ≤ x.kids.length) ∧ (x.kids.length ≤ 2) ∧ (2 ≤ x.kids.length + x.alts.length) ∧ (∀ a ∈ x.alts, namesOk a.names) ∧ namesOk (x.alts.map (·.con)) := by
  rw [shape_is, consOk_iff]
  simp only [hk, Leaf]
  generalize NoNumber x = q1
  generalize bigFaultB x.minus x.limbs = q2
  generalize namesOk x.names = q3
  generalize PrimPos x = q5
  generalize PrimFit x = q6
  generalize (∀ a ∈ x.alts, namesOk a.names) = q7
  generalize namesOk (x.alts.map (·.con)) = q8
  constructor
  · intro h; grind
  · intro h; grind
theorem shape_k_prim (hk : x.kind = 9) : Shape x ↔ (PrimPos x) ∧ (PrimFit x) ∧ (x.names.length = 0) ∧ (x.alts.length = 0) ∧ (NoNumber x) := by
  rw [shape_is]
  simp only [hk, Leaf]
  generalize NoNumber x = q1
  generalize bigFaultB x.minus x.limbs = q2
  generalize namesOk x.names = q3
  generalize PrimPos x = q5
  generalize PrimFit x = q6
  generalize consOk x.alts = q7
  constructor
  · intro h; grind
  · intro h; grind
theorem shape_k_text (hk : x.kind = 10) : Shape x ↔ (0 < x.name.size) ∧ (x.name.size ≤ 60000) ∧ (Leaf x) ∧ (NoNumber x) := by
  rw [shape_is]
  simp only [hk, Leaf]
  generalize NoNumber x = q1
  generalize bigFaultB x.minus x.limbs = q2
  generalize namesOk x.names = q3
  generalize PrimPos x = q5
  generalize PrimFit x = q6
  generalize consOk x.alts = q7
  constructor
  · intro h; grind
  · intro h; grind
theorem shape_k_no (h : ¬ (1 ≤ x.kind ∧ x.kind ≤ 10)) : ¬ Shape x := by
  rw [shape_is]
  intro hs
  omega
end
section
variable {S w : World} {x : CoreT} {p : Addr}
set_option maxRecDepth 100000 in
set_option maxHeartbeats 1000000 in
theorem termOf_var (hat : At w x p) (hk : x.kind = 1) : Calls Try.prog 54 #[.pointer (some p)] w fun e w' => e = .returned (.iface 112 (.agg #[.pointer (some p)])) ∧ Below w.heap.size w w' := by
  obtain ⟨A3, c3, A4, c4, A5, c5, A6, c6, hK, g0, g1, g2, g3, g4, g5, g6⟩ := hat
  clear hK g1 g2 g3 g4 g5 g6
  have HB := Lib.hid (grown_box w (.cells #[.pointer (some p)] 110))
  replace g0 := cell_later' HB.out g0
  rw [hk] at g0
  go_enter Try.func54, Try.ntmps54
  go_wp2
  go_ret
  exact ⟨rfl, HB.out⟩
set_option maxRecDepth 100000 in
set_option maxHeartbeats 1000000 in
theorem termOf_num (hat : At w x p) (hk : x.kind = 2) : Calls Try.prog 54 #[.pointer (some p)] w fun e w' => e = .returned (.iface 113 (.agg #[.pointer (some p)])) ∧ Below w.heap.size w w' := by
  obtain ⟨A3, c3, A4, c4, A5, c5, A6, c6, hK, g0, g1, g2, g3, g4, g5, g6⟩ := hat
  clear hK g1 g2 g3 g4 g5 g6
  have HB := Lib.hid (grown_box w (.cells #[.pointer (some p)] 110))
  replace g0 := cell_later' HB.out g0
  rw [hk] at g0
  go_enter Try.func54, Try.ntmps54
  go_wp2
  go_ret
  exact ⟨rfl, HB.out⟩
set_option maxRecDepth 100000 in
set_option maxHeartbeats 1000000 in
theorem termOf_char (hat : At w x p) (hk : x.kind = 3) : Calls Try.prog 54 #[.pointer (some p)] w fun e w' => e = .returned (.iface 114 (.agg #[.pointer (some p)])) ∧ Below w.heap.size w w' := by
  obtain ⟨A3, c3, A4, c4, A5, c5, A6, c6, hK, g0, g1, g2, g3, g4, g5, g6⟩ := hat
  clear hK g1 g2 g3 g4 g5 g6
  have HB := Lib.hid (grown_box w (.cells #[.pointer (some p)] 110))
  replace g0 := cell_later' HB.out g0
  rw [hk] at g0
  go_enter Try.func54, Try.ntmps54
  go_wp2
  go_ret
  exact ⟨rfl, HB.out⟩
set_option maxRecDepth 100000 in
set_option maxHeartbeats 1000000 in
theorem termOf_con (hat : At w x p) (hk : x.kind = 4) : Calls Try.prog 54 #[.pointer (some p)] w fun e w' => e = .returned (.iface 115 (.agg #[.pointer (some p)])) ∧ Below w.heap.size w w' := by
  obtain ⟨A3, c3, A4, c4, A5, c5, A6, c6, hK, g0, g1, g2, g3, g4, g5, g6⟩ := hat
  clear hK g1 g2 g3 g4 g5 g6
  have HB := Lib.hid (grown_box w (.cells #[.pointer (some p)] 110))
  replace g0 := cell_later' HB.out g0
  rw [hk] at g0
  go_enter Try.func54, Try.ntmps54
  go_wp2
  go_ret
  exact ⟨rfl, HB.out⟩
set_option maxRecDepth 100000 in
set_option maxHeartbeats 1000000 in
theorem termOf_app (hat : At w x p) (hk : x.kind = 5) : Calls Try.prog 54 #[.pointer (some p)] w fun e w' => e = .returned (.iface 116 (.agg #[.pointer (some p)])) ∧ Below w.heap.size w w' := by
  obtain ⟨A3, c3, A4, c4, A5, c5, A6, c6, hK, g0, g1, g2, g3, g4, g5, g6⟩ := hat
  clear hK g1 g2 g3 g4 g5 g6
  have HB := Lib.hid (grown_box w (.cells #[.pointer (some p)] 110))
  replace g0 := cell_later' HB.out g0
  rw [hk] at g0
  go_enter Try.func54, Try.ntmps54
  go_wp2
  go_ret
  exact ⟨rfl, HB.out⟩
set_option maxRecDepth 100000 in
set_option maxHeartbeats 1000000 in
theorem termOf_lam (hat : At w x p) (hk : x.kind = 6) : Calls Try.prog 54 #[.pointer (some p)] w fun e w' => e = .returned (.iface 117 (.agg #[.pointer (some p)])) ∧ Below w.heap.size w w' := by
  obtain ⟨A3, c3, A4, c4, A5, c5, A6, c6, hK, g0, g1, g2, g3, g4, g5, g6⟩ := hat
  clear hK g1 g2 g3 g4 g5 g6
  have HB := Lib.hid (grown_box w (.cells #[.pointer (some p)] 110))
  replace g0 := cell_later' HB.out g0
  rw [hk] at g0
  go_enter Try.func54, Try.ntmps54
  go_wp2
  go_ret
  exact ⟨rfl, HB.out⟩
set_option maxRecDepth 100000 in
set_option maxHeartbeats 1000000 in
theorem termOf_let (hat : At w x p) (hk : x.kind = 7) : Calls Try.prog 54 #[.pointer (some p)] w fun e w' => e = .returned (.iface 118 (.agg #[.pointer (some p)])) ∧ Below w.heap.size w w' := by
  obtain ⟨A3, c3, A4, c4, A5, c5, A6, c6, hK, g0, g1, g2, g3, g4, g5, g6⟩ := hat
  clear hK g1 g2 g3 g4 g5 g6
  have HB := Lib.hid (grown_box w (.cells #[.pointer (some p)] 110))
  replace g0 := cell_later' HB.out g0
  rw [hk] at g0
  go_enter Try.func54, Try.ntmps54
  go_wp2
  go_ret
  exact ⟨rfl, HB.out⟩
set_option maxRecDepth 100000 in
set_option maxHeartbeats 1000000 in
theorem termOf_case (hat : At w x p) (hk : x.kind = 8) : Calls Try.prog 54 #[.pointer (some p)] w fun e w' => e = .returned (.iface 119 (.agg #[.pointer (some p)])) ∧ Below w.heap.size w w' := by
  obtain ⟨A3, c3, A4, c4, A5, c5, A6, c6, hK, g0, g1, g2, g3, g4, g5, g6⟩ := hat
  clear hK g1 g2 g3 g4 g5 g6
  have HB := Lib.hid (grown_box w (.cells #[.pointer (some p)] 110))
  replace g0 := cell_later' HB.out g0
  rw [hk] at g0
  go_enter Try.func54, Try.ntmps54
  go_wp2
  go_ret
  exact ⟨rfl, HB.out⟩
set_option maxRecDepth 100000 in
set_option maxHeartbeats 1000000 in
theorem termOf_prim (hat : At w x p) (hk : x.kind = 9) : Calls Try.prog 54 #[.pointer (some p)] w fun e w' => e = .returned (.iface 120 (.agg #[.pointer (some p)])) ∧ Below w.heap.size w w' := by
  obtain ⟨A3, c3, A4, c4, A5, c5, A6, c6, hK, g0, g1, g2, g3, g4, g5, g6⟩ := hat
  clear hK g1 g2 g3 g4 g5 g6
  have HB := Lib.hid (grown_box w (.cells #[.pointer (some p)] 110))
  replace g0 := cell_later' HB.out g0
  rw [hk] at g0
  go_enter Try.func54, Try.ntmps54
  go_wp2
  go_ret
  exact ⟨rfl, HB.out⟩
set_option maxRecDepth 100000 in
set_option maxHeartbeats 1000000 in
theorem termOf_text (hat : At w x p) (hk : x.kind = 10) : Calls Try.prog 54 #[.pointer (some p)] w fun e w' => e = .returned (.iface 121 (.agg #[.pointer (some p)])) ∧ Below w.heap.size w w' := by
  obtain ⟨A3, c3, A4, c4, A5, c5, A6, c6, hK, g0, g1, g2, g3, g4, g5, g6⟩ := hat
  clear hK g1 g2 g3 g4 g5 g6
  have HB := Lib.hid (grown_box w (.cells #[.pointer (some p)] 110))
  replace g0 := cell_later' HB.out g0
  rw [hk] at g0
  go_enter Try.func54, Try.ntmps54
  go_wp2
  go_ret
  exact ⟨rfl, HB.out⟩
set_option maxRecDepth 100000 in
set_option maxHeartbeats 1000000 in
theorem termOf_no (hat : At w x p) (h : ¬ (1 ≤ x.kind ∧ x.kind ≤ 10)) : Calls Try.prog 54 #[.pointer (some p)] w fun e w' => e = .returned (.iface 122 (.agg #[.pointer (some p)])) ∧ Below w.heap.size w w' := by
  obtain ⟨A3, c3, A4, c4, A5, c5, A6, c6, hK, g0, g1, g2, g3, g4, g5, g6⟩ := hat
  clear hK g1 g2 g3 g4 g5 g6
  have HB := Lib.hid (grown_box w (.cells #[.pointer (some p)] 110))
  replace g0 := cell_later' HB.out g0
  have q1 : (x.kind == 1) = false := beq_eq_false_iff_ne.2 (by omega)
  have q2 : (x.kind == 2) = false := beq_eq_false_iff_ne.2 (by omega)
  have q3 : (x.kind == 3) = false := beq_eq_false_iff_ne.2 (by omega)
  have q4 : (x.kind == 4) = false := beq_eq_false_iff_ne.2 (by omega)
  have q5 : (x.kind == 5) = false := beq_eq_false_iff_ne.2 (by omega)
  have q6 : (x.kind == 6) = false := beq_eq_false_iff_ne.2 (by omega)
  have q7 : (x.kind == 7) = false := beq_eq_false_iff_ne.2 (by omega)
  have q8 : (x.kind == 8) = false := beq_eq_false_iff_ne.2 (by omega)
  have q9 : (x.kind == 9) = false := beq_eq_false_iff_ne.2 (by omega)
  have q10 : (x.kind == 10) = false := beq_eq_false_iff_ne.2 (by omega)
  clear h
  go_enter Try.func54, Try.ntmps54
  go_wp2
  go_ret
  exact ⟨rfl, HB.out⟩
end
/-- all parts so far fit; one does not -/
def FitI (S : World) (l : List (CoreT × Int)) (w : World) : Prop := Below S.heap.size S w ∧ ∀ q ∈ l, Shape q.1
def FitQ (S : World) (l : List (CoreT × Int)) (w : World) : Prop := Below S.heap.size S w ∧ ∃ q ∈ l, ¬ Shape q.1
theorem fit_end {S w' w : World} {l : List (CoreT × Int)} {y : CoreT} {d : Int} {e : Ending} {b : Bool} (hI : FitI S l w) (hb : Below w.heap.size w w') (he : e = .returned (.bool b)) (hs : b = dec (Shape y)) :
    (e = .returned (.bool true) ∧ FitI S (l ++ [(y, d)]) w') ∨ (e = .returned (.bool false) ∧ FitQ S (l ++ [(y, d)]) w') := by
  by_cases h : Shape y
  · rw [dec_true h] at hs
    refine .inl ⟨by rw [he, hs], Below.step hI.1 hb, fun q hq => ?_⟩
    rcases List.mem_append.1 hq with hq | hq
    · exact hI.2 q hq
    · rw [List.mem_singleton.1 hq]; exact h
  · rw [dec_false h] at hs
    exact .inr ⟨by rw [he, hs], Below.step hI.1 hb, (y, d), by simp, h⟩
set_option maxRecDepth 100000 in
set_option maxHeartbeats 1000000 in
theorem sees_var (S : World) (l : List (CoreT × Int)) (y : CoreT) (d : Int) (p : Addr) (w : World) (hI : FitI S l w) (hat : At S y p) (hbk : bulk y ≤ 1048576) (hk : y.kind = 1) :
    Calls Try.prog 53 #[.pointer (some p), .int .i64 d] w fun e w' => (e = .returned (.bool true) ∧ FitI S (l ++ [(y, d)]) w') ∨ (e = .returned (.bool false) ∧ FitQ S (l ++ [(y, d)]) w') := by
  have HAT := Lib.hid (hat.later hI.1)
  have HI := Lib.hid hI
  have HBK := Lib.hid hbk
  have HKV := Lib.hid hk
  clear hat hI hbk hk
  go_enter Try.func53, Try.ntmps53
  go_wp2_with fail
  refine (termOf_var HAT.out HKV.out).mono ?_
  rintro e w2 ⟨rfl, hb2⟩
  have HB2 := Lib.hid hb2; clear hb2
  go_wp2_with fail
  refine (ans_var (HAT.out.later HB2.out) HBK.out).mono ?_
  rintro e w3 ⟨rfl, hb3⟩
  have HB3 := Lib.hid (Below.step HB2.out hb3); clear hb3
  obtain ⟨b, hb⟩ : ∃ b, b = dec ((0 < y.name.size) ∧ (Leaf y) ∧ (NoNumber y)) := ⟨_, rfl⟩
  rw [← hb]
  have HBV := Lib.hid hb; clear hb
  go_wp2
  go_ret
  exact fit_end HI.out HB3.out rfl (by rw [HBV.out]; exact dec_congr (shape_k_var HKV.out).symm)
set_option maxRecDepth 100000 in
set_option maxHeartbeats 1000000 in
theorem sees_num (S : World) (l : List (CoreT × Int)) (y : CoreT) (d : Int) (p : Addr) (w : World) (hI : FitI S l w) (hat : At S y p) (hbk : bulk y ≤ 1048576) (hk : y.kind = 2) :
    Calls Try.prog 53 #[.pointer (some p), .int .i64 d] w fun e w' => (e = .returned (.bool true) ∧ FitI S (l ++ [(y, d)]) w') ∨ (e = .returned (.bool false) ∧ FitQ S (l ++ [(y, d)]) w') := by
  have HAT := Lib.hid (hat.later hI.1)
  have HI := Lib.hid hI
  have HBK := Lib.hid hbk
  have HKV := Lib.hid hk
  clear hat hI hbk hk
  go_enter Try.func53, Try.ntmps53
  go_wp2_with fail
  refine (termOf_num HAT.out HKV.out).mono ?_
  rintro e w2 ⟨rfl, hb2⟩
  have HB2 := Lib.hid hb2; clear hb2
  go_wp2_with fail
  refine (ans_num (HAT.out.later HB2.out) HBK.out).mono ?_
  rintro e w3 ⟨rfl, hb3⟩
  have HB3 := Lib.hid (Below.step HB2.out hb3); clear hb3
  obtain ⟨b, hb⟩ : ∃ b, b = dec ((y.name.size = 0) ∧ (Leaf y) ∧ (bigFaultB y.minus y.limbs = false)) := ⟨_, rfl⟩
  rw [← hb]
  have HBV := Lib.hid hb; clear hb
  go_wp2
  go_ret
  exact fit_end HI.out HB3.out rfl (by rw [HBV.out]; exact dec_congr (shape_k_num HKV.out).symm)
set_option maxRecDepth 100000 in
set_option maxHeartbeats 1000000 in
theorem sees_char (S : World) (l : List (CoreT × Int)) (y : CoreT) (d : Int) (p : Addr) (w : World) (hI : FitI S l w) (hat : At S y p) (hbk : bulk y ≤ 1048576) (hk : y.kind = 3) :
    Calls Try.prog 53 #[.pointer (some p), .int .i64 d] w fun e w' => (e = .returned (.bool true) ∧ FitI S (l ++ [(y, d)]) w') ∨ (e = .returned (.bool false) ∧ FitQ S (l ++ [(y, d)]) w') := by
  have HAT := Lib.hid (hat.later hI.1)
  have HI := Lib.hid hI
  have HBK := Lib.hid hbk
  have HKV := Lib.hid hk
  clear hat hI hbk hk
  go_enter Try.func53, Try.ntmps53
  go_wp2_with fail
  refine (termOf_char HAT.out HKV.out).mono ?_
  rintro e w2 ⟨rfl, hb2⟩
  have HB2 := Lib.hid hb2; clear hb2
  go_wp2_with fail
  refine (ans_char (HAT.out.later HB2.out) HBK.out).mono ?_
  rintro e w3 ⟨rfl, hb3⟩
  have HB3 := Lib.hid (Below.step HB2.out hb3); clear hb3
  obtain ⟨b, hb⟩ : ∃ b, b = dec ((y.name.size = 1) ∧ (Leaf y) ∧ (NoNumber y)) := ⟨_, rfl⟩
  rw [← hb]
  have HBV := Lib.hid hb; clear hb
  go_wp2
  go_ret
  exact fit_end HI.out HB3.out rfl (by rw [HBV.out]; exact dec_congr (shape_k_char HKV.out).symm)
set_option maxRecDepth 100000 in
set_option maxHeartbeats 1000000 in
theorem sees_con (S : World) (l : List (CoreT × Int)) (y : CoreT) (d : Int) (p : Addr) (w : World) (hI : FitI S l w) (hat : At S y p) (hbk : bulk y ≤ 1048576) (hk : y.kind = 4) :
    Calls Try.prog 53 #[.pointer (some p), .int .i64 d] w fun e w' => (e = .returned (.bool true) ∧ FitI S (l ++ [(y, d)]) w') ∨ (e = .returned (.bool false) ∧ FitQ S (l ++ [(y, d)]) w') := by
  have HAT := Lib.hid (hat.later hI.1)
  have HI := Lib.hid hI
  have HBK := Lib.hid hbk
  have HKV := Lib.hid hk
  clear hat hI hbk hk
  go_enter Try.func53, Try.ntmps53
  go_wp2_with fail
  refine (termOf_con HAT.out HKV.out).mono ?_
  rintro e w2 ⟨rfl, hb2⟩
  have HB2 := Lib.hid hb2; clear hb2
  go_wp2_with fail
  refine (ans_con (HAT.out.later HB2.out) HBK.out).mono ?_
  rintro e w3 ⟨rfl, hb3⟩
  have HB3 := Lib.hid (Below.step HB2.out hb3); clear hb3
  obtain ⟨b, hb⟩ : ∃ b, b = dec ((0 < y.name.size) ∧ (y.names.length = 0) ∧ (y.alts.length = 0) ∧ (NoNumber y)) := ⟨_, rfl⟩
  rw [← hb]
  have HBV := Lib.hid hb; clear hb
  go_wp2
  go_ret
  exact fit_end HI.out HB3.out rfl (by rw [HBV.out]; exact dec_congr (shape_k_con HKV.out).symm)
set_option maxRecDepth 100000 in
set_option maxHeartbeats 1000000 in
theorem sees_app (S : World) (l : List (CoreT × Int)) (y : CoreT) (d : Int) (p : Addr) (w : World) (hI : FitI S l w) (hat : At S y p) (hbk : bulk y ≤ 1048576) (hk : y.kind = 5) :
    Calls Try.prog 53 #[.pointer (some p), .int .i64 d] w fun e w' => (e = .returned (.bool true) ∧ FitI S (l ++ [(y, d)]) w') ∨ (e = .returned (.bool false) ∧ FitQ S (l ++ [(y, d)]) w') := by
  have HAT := Lib.hid (hat.later hI.1)
  have HI := Lib.hid hI
  have HBK := Lib.hid hbk
  have HKV := Lib.hid hk
  clear hat hI hbk hk
  go_enter Try.func53, Try.ntmps53
  go_wp2_with fail
  refine (termOf_app HAT.out HKV.out).mono ?_
  rintro e w2 ⟨rfl, hb2⟩
  have HB2 := Lib.hid hb2; clear hb2
  go_wp2_with fail
  refine (ans_app (HAT.out.later HB2.out) HBK.out).mono ?_
  rintro e w3 ⟨rfl, hb3⟩
  have HB3 := Lib.hid (Below.step HB2.out hb3); clear hb3
  obtain ⟨b, hb⟩ : ∃ b, b = dec ((y.name.size = 0) ∧ (2 ≤ y.kids.length) ∧ (y.names.length = 0) ∧ (y.alts.length = 0) ∧ (NoNumber y)) := ⟨_, rfl⟩
  rw [← hb]
  have HBV := Lib.hid hb; clear hb
  go_wp2
  go_ret
  exact fit_end HI.out HB3.out rfl (by rw [HBV.out]; exact dec_congr (shape_k_app HKV.out).symm)
set_option maxRecDepth 100000 in
set_option maxHeartbeats 1000000 in
theorem sees_lam (S : World) (l : List (CoreT × Int)) (y : CoreT) (d : Int) (p : Addr) (w : World) (hI : FitI S l w) (hat : At S y p) (hbk : bulk y ≤ 1048576) (hk : y.kind = 6) :
    Calls Try.prog 53 #[.pointer (some p), .int .i64 d] w fun e w' => (e = .returned (.bool true) ∧ FitI S (l ++ [(y, d)]) w') ∨ (e = .returned (.bool false) ∧ FitQ S (l ++ [(y, d)]) w') := by
  have HAT := Lib.hid (hat.later hI.1)
  have HI := Lib.hid hI
  have HBK := Lib.hid hbk
  have HKV := Lib.hid hk
  clear hat hI hbk hk
  go_enter Try.func53, Try.ntmps53
  go_wp2_with fail
  refine (termOf_lam HAT.out HKV.out).mono ?_
  rintro e w2 ⟨rfl, hb2⟩
  have HB2 := Lib.hid hb2; clear hb2
  go_wp2_with fail
  refine (ans_lam (HAT.out.later HB2.out) HBK.out).mono ?_
  rintro e w3 ⟨rfl, hb3⟩
  have HB3 := Lib.hid (Below.step HB2.out hb3); clear hb3
  obtain ⟨b, hb⟩ : ∃ b, b = dec ((y.name.size = 0) ∧ (y.kids.length = 1) ∧ (0 < y.names.length) ∧ (namesOk y.names) ∧ (y.alts.length = 0) ∧ (NoNumber y)) := ⟨_, rfl⟩
  rw [← hb]
  have HBV := Lib.hid hb; clear hb
  go_wp2
  go_ret
  exact fit_end HI.out HB3.out rfl (by rw [HBV.out]; exact dec_congr (shape_k_lam HKV.out).symm)
set_option maxRecDepth 100000 in
set_option maxHeartbeats 1000000 in
theorem sees_let (S : World) (l : List (CoreT × Int)) (y : CoreT) (d : Int) (p : Addr) (w : World) (hI : FitI S l w) (hat : At S y p) (hbk : bulk y ≤ 1048576) (hk : y.kind = 7) :
    Calls Try.prog 53 #[.pointer (some p), .int .i64 d] w fun e w' => (e = .returned (.bool true) ∧ FitI S (l ++ [(y, d)]) w') ∨ (e = .returned (.bool false) ∧ FitQ S (l ++ [(y, d)]) w') := by
  have HAT := Lib.hid (hat.later hI.1)
  have HI := Lib.hid hI
  have HBK := Lib.hid hbk
  have HKV := Lib.hid hk
  clear hat hI hbk hk
  go_enter Try.func53, Try.ntmps53
  go_wp2_with fail
  refine (termOf_let HAT.out HKV.out).mono ?_
  rintro e w2 ⟨rfl, hb2⟩
  have HB2 := Lib.hid hb2; clear hb2
  go_wp2_with fail
  refine (ans_let (HAT.out.later HB2.out) HBK.out).mono ?_
  rintro e w3 ⟨rfl, hb3⟩
  have HB3 := Lib.hid (Below.step HB2.out hb3); clear hb3
  obtain ⟨b, hb⟩ : ∃ b, b = dec ((y.name.size = 0) ∧ (0 < y.names.length) ∧ (y.kids.length = y.names.length + 1) ∧ (namesOk y.names) ∧ (y.alts.length = 0) ∧ (NoNumber y)) := ⟨_, rfl⟩
  rw [← hb]
  have HBV := Lib.hid hb; clear hb
  go_wp2
  go_ret
  exact fit_end HI.out HB3.out rfl (by rw [HBV.out]; exact dec_congr (shape_k_let HKV.out).symm)
set_option maxRecDepth 100000 in
set_option maxHeartbeats 1000000 in
theorem sees_case (S : World) (l : List (CoreT × Int)) (y : CoreT) (d : Int) (p : Addr) (w : World) (hI : FitI S l w) (hat : At S y p) (hbk : bulk y ≤ 1048576) (hk : y.kind = 8) :
    Calls Try.prog 53 #[.pointer (some p), .int .i64 d] w fun e w' => (e = .returned (.bool true) ∧ FitI S (l ++ [(y, d)]) w') ∨ (e = .returned (.bool false) ∧ FitQ S (l ++ [(y, d)]) w') := by
  have HAT := Lib.hid (hat.later hI.1)
  have HI := Lib.hid hI
  have HBK := Lib.hid hbk
  have HKV := Lib.hid hk
  clear hat hI hbk hk
  go_enter Try.func53, Try.ntmps53
  go_wp2_with fail
  refine (termOf_case HAT.out HKV.out).mono ?_
  rintro e w2 ⟨rfl, hb2⟩
  have HB2 := Lib.hid hb2; clear hb2
  go_wp2_with fail
  refine (ans_case (HAT.out.later HB2.out) HBK.out).mono ?_
  rintro e w3 ⟨rfl, hb3⟩
  have HB3 := Lib.hid (Below.step HB2.out hb3); clear hb3
  obtain ⟨b, hb⟩ : ∃ b, b = dec ((y.names.length = 0) ∧ (NoNumber y) ∧ (1 ≤ y.kids.length) ∧ (y.kids.length ≤ 2) ∧ (2 ≤ y.kids.length + y.alts.length) ∧ (∀ a ∈ y.alts, namesOk a.names) ∧ namesOk (y.alts.map (·.con))) := ⟨_, rfl⟩
  rw [← hb]
  have HBV := Lib.hid hb; clear hb
  go_wp2
  go_ret
  exact fit_end HI.out HB3.out rfl (by rw [HBV.out]; exact dec_congr (shape_k_case HKV.out).symm)
set_option maxRecDepth 100000 in
set_option maxHeartbeats 1000000 in
theorem sees_prim (S : World) (l : List (CoreT × Int)) (y : CoreT) (d : Int) (p : Addr) (w : World) (hI : FitI S l w) (hat : At S y p) (hbk : bulk y ≤ 1048576) (hk : y.kind = 9) :
    Calls Try.prog 53 #[.pointer (some p), .int .i64 d] w fun e w' => (e = .returned (.bool true) ∧ FitI S (l ++ [(y, d)]) w') ∨ (e = .returned (.bool false) ∧ FitQ S (l ++ [(y, d)]) w') := by
  have HAT := Lib.hid (hat.later hI.1)
  have HI := Lib.hid hI
  have HBK := Lib.hid hbk
  have HKV := Lib.hid hk
  clear hat hI hbk hk
  go_enter Try.func53, Try.ntmps53
  go_wp2_with fail
  refine (termOf_prim HAT.out HKV.out).mono ?_
  rintro e w2 ⟨rfl, hb2⟩
  have HB2 := Lib.hid hb2; clear hb2
  go_wp2_with fail
  refine (ans_prim (HAT.out.later HB2.out) HBK.out).mono ?_
  rintro e w3 ⟨rfl, hb3⟩
  have HB3 := Lib.hid (Below.step HB2.out hb3); clear hb3
  obtain ⟨b, hb⟩ : ∃ b, b = dec ((PrimPos y) ∧ (PrimFit y) ∧ (y.names.length = 0) ∧ (y.alts.length = 0) ∧ (NoNumber y)) := ⟨_, rfl⟩
  rw [← hb]
  have HBV := Lib.hid hb; clear hb
  go_wp2
  go_ret
  exact fit_end HI.out HB3.out rfl (by rw [HBV.out]; exact dec_congr (shape_k_prim HKV.out).symm)
set_option maxRecDepth 100000 in
set_option maxHeartbeats 1000000 in
theorem sees_text (S : World) (l : List (CoreT × Int)) (y : CoreT) (d : Int) (p : Addr) (w : World) (hI : FitI S l w) (hat : At S y p) (hbk : bulk y ≤ 1048576) (hk : y.kind = 10) :
    Calls Try.prog 53 #[.pointer (some p), .int .i64 d] w fun e w' => (e = .returned (.bool true) ∧ FitI S (l ++ [(y, d)]) w') ∨ (e = .returned (.bool false) ∧ FitQ S (l ++ [(y, d)]) w') := by
  have HAT := Lib.hid (hat.later hI.1)
  have HI := Lib.hid hI
  have HBK := Lib.hid hbk
  have HKV := Lib.hid hk
  clear hat hI hbk hk
  go_enter Try.func53, Try.ntmps53
  go_wp2_with fail
  refine (termOf_text HAT.out HKV.out).mono ?_
  rintro e w2 ⟨rfl, hb2⟩
  have HB2 := Lib.hid hb2; clear hb2
  go_wp2_with fail
  refine (ans_text (HAT.out.later HB2.out) HBK.out).mono ?_
  rintro e w3 ⟨rfl, hb3⟩
  have HB3 := Lib.hid (Below.step HB2.out hb3); clear hb3
  obtain ⟨b, hb⟩ : ∃ b, b = dec ((0 < y.name.size) ∧ (y.name.size ≤ 60000) ∧ (Leaf y) ∧ (NoNumber y)) := ⟨_, rfl⟩
  rw [← hb]
  have HBV := Lib.hid hb; clear hb
  go_wp2
  go_ret
  exact fit_end HI.out HB3.out rfl (by rw [HBV.out]; exact dec_congr (shape_k_text HKV.out).symm)
set_option maxRecDepth 100000 in
set_option maxHeartbeats 1000000 in
theorem sees_no (S : World) (l : List (CoreT × Int)) (y : CoreT) (d : Int) (p : Addr) (w : World) (hI : FitI S l w) (hat : At S y p) (hbk : bulk y ≤ 1048576) (h : ¬ (1 ≤ y.kind ∧ y.kind ≤ 10)) :
    Calls Try.prog 53 #[.pointer (some p), .int .i64 d] w fun e w' => (e = .returned (.bool true) ∧ FitI S (l ++ [(y, d)]) w') ∨ (e = .returned (.bool false) ∧ FitQ S (l ++ [(y, d)]) w') := by
  have HAT := Lib.hid (hat.later hI.1)
  have HI := Lib.hid hI
  have HBK := Lib.hid hbk
  have HKV := Lib.hid h
  clear hat hI hbk h
  go_enter Try.func53, Try.ntmps53
  go_wp2_with fail
  refine (termOf_no HAT.out HKV.out).mono ?_
  rintro e w2 ⟨rfl, hb2⟩
  have HB2 := Lib.hid hb2; clear hb2
  go_wp2_with fail
  refine (ans_no).mono ?_
  rintro e w3 ⟨rfl, hb3⟩
  have HB3 := Lib.hid (Below.step HB2.out hb3); clear hb3
  obtain ⟨b, hb⟩ : ∃ b, b = false := ⟨_, rfl⟩
  rw [← hb]
  have HBV := Lib.hid hb; clear hb
  go_wp2
  go_ret
  exact fit_end HI.out HB3.out rfl (by rw [HBV.out]; exact (dec_false (shape_k_no HKV.out)).symm)
theorem fit_sees (S : World) : Sees S 53 #[] (FitI S) (FitQ S) := by
  intro l y d p w hI hat hbk hd1 hd2
  show Calls _ _ #[.pointer (some p), .int .i64 d] _ _
  by_cases h : 1 ≤ y.kind ∧ y.kind ≤ 10
  · rcases (by omega : y.kind = 1 ∨ y.kind = 2 ∨ y.kind = 3 ∨ y.kind = 4 ∨ y.kind = 5 ∨ y.kind = 6 ∨ y.kind = 7 ∨ y.kind = 8 ∨ y.kind = 9 ∨ y.kind = 10) with hk | hk | hk | hk | hk | hk | hk | hk | hk | hk
    · exact sees_var S l y d p w hI hat hbk hk
    · exact sees_num S l y d p w hI hat hbk hk
    · exact sees_char S l y d p w hI hat hbk hk
    · exact sees_con S l y d p w hI hat hbk hk
    · exact sees_app S l y d p w hI hat hbk hk
    · exact sees_lam S l y d p w hI hat hbk hk
    · exact sees_let S l y d p w hI hat hbk hk
    · exact sees_case S l y d p w hI hat hbk hk
    · exact sees_prim S l y d p w hI hat hbk hk
    · exact sees_text S l y d p w hI hat hbk hk
  · exact sees_no S l y d p w hI hat hbk h
end Go.Proofs.Ytagfphlhahiplaa.C13
namespace Go.Proofs.Ytagfphlhahiplaa.C13
open Go.RowKit Go.Proofs.YtagfphlhahiplaaW.PrintWords Go.Proofs.Ytagfphlhahiplaa.PFnExactFormatCore
set_option linter.unusedVariables false
set_option linter.unusedSimpArgs false
theorem adds_le (x : CoreT) : adds x ≤ 1 + x.names.length + anames x.alts := by
  unfold adds; split <;> omega
theorem adds_eq {x : CoreT} (h : Shape x) : adds x = 1 + x.names.length + anames x.alts := by
  unfold adds
  split
  · rfl
  · rename_i hk
    have := h.2.2.2.1
    omega
theorem kparts_le {l : List CoreT} (h : ∀ y ∈ l, ∀ d, cnt (parts y d) ≤ total y) (d : Int) : cnt (parts.kparts l d) ≤ totals l := by
  induction l with
  | nil => simp [parts.kparts, cnt]
  | cons c r ih =>
    rw [parts.kparts, cnt_app, totals]
    have := h c (by simp) d
    have := ih (fun y hy => h y (by simp [hy]))
    omega
theorem aparts_le {l : List AltT} (h : ∀ y ∈ l, ∀ d, cnt (parts y.body d) ≤ total y.body) (d : Int) : cnt (parts.aparts l d) ≤ atotals l := by
  induction l with
  | nil => simp [parts.aparts, cnt]
  | cons c r ih =>
    rw [parts.aparts, apart_eq, cnt_app, atotals, atotal_eq]
    have := h c (by simp) d
    have := ih (fun y hy => h y (by simp [hy]))
    omega
theorem cnt_le (x : CoreT) : ∀ d, cnt (parts x d) ≤ total x := by
  refine coreInd (fun x => ∀ d, cnt (parts x d) ≤ total x) (fun c hk ha d => ?_) x
  rw [parts_eq, cnt, cnt_app, total_eq]
  have := kparts_le hk (d + 1)
  have := aparts_le ha (d + 1)
  have := adds_le c
  simp only
  omega
theorem kparts_eqT {l : List CoreT} (h : ∀ y ∈ l, ∀ d, cnt (parts y d) = total y) (d : Int) : cnt (parts.kparts l d) = totals l := by
  induction l with
  | nil => simp [parts.kparts, cnt, totals]
  | cons c r ih =>
    rw [parts.kparts, cnt_app, totals]
    have := h c (by simp) d
    have := ih (fun y hy => h y (by simp [hy]))
    omega
theorem aparts_eqT {l : List AltT} (h : ∀ y ∈ l, ∀ d, cnt (parts y.body d) = total y.body) (d : Int) : cnt (parts.aparts l d) = atotals l := by
  induction l with
  | nil => simp [parts.aparts, cnt, atotals]
  | cons c r ih =>
    rw [parts.aparts, apart_eq, cnt_app, atotals, atotal_eq]
    have := h c (by simp) d
    have := ih (fun y hy => h y (by simp [hy]))
    omega
theorem cnt_total (x : CoreT) : Shapes x → ∀ d, cnt (parts x d) = total x := by
  refine coreInd (fun x => Shapes x → ∀ d, cnt (parts x d) = total x) (fun c hk ha hs d => ?_) x
  rw [Shapes_eq] at hs
  rw [parts_eq, cnt, cnt_app, total_eq]
  have := kparts_eqT (fun y hy => hk y hy (KShapes_iff.1 hs.2.1 y hy)) (d + 1)
  have := aparts_eqT (fun y hy => ha y hy (AShapes_iff.1 hs.2.2 y hy)) (d + 1)
  have := adds_eq hs.1
  simp only
  omega
theorem kparts_dpt {l : List CoreT} (h : ∀ y ∈ l, ∀ d, 1 ≤ d → dpt (parts y d) = d - 1 + dep y) (d : Int) (hd : 1 ≤ d) (hl : l ≠ []) : dpt (parts.kparts l d) = d - 1 + deps l := by
  induction l with
  | nil => exact absurd rfl hl
  | cons c r ih =>
    rw [parts.kparts, dpt_app, deps, h c (by simp) d hd]
    by_cases hr : r = []
    · subst hr; simp only [parts.kparts, dpt, deps]; omega
    · rw [ih (fun y hy => h y (by simp [hy])) hr]; omega
theorem aparts_dpt {l : List AltT} (h : ∀ y ∈ l, ∀ d, 1 ≤ d → dpt (parts y.body d) = d - 1 + dep y.body) (d : Int) (hd : 1 ≤ d) (hl : l ≠ []) : dpt (parts.aparts l d) = d - 1 + adeps l := by
  induction l with
  | nil => exact absurd rfl hl
  | cons c r ih =>
    rw [parts.aparts, apart_eq, dpt_app, adeps, adep_eq, h c (by simp) d hd]
    by_cases hr : r = []
    · subst hr; simp only [parts.aparts, dpt, adeps]; omega
    · rw [ih (fun y hy => h y (by simp [hy])) hr]; omega
theorem dpt_parts (x : CoreT) : ∀ d, 1 ≤ d → dpt (parts x d) = d - 1 + dep x := by
  refine coreInd (fun x => ∀ d, 1 ≤ d → dpt (parts x d) = d - 1 + dep x) (fun c hk ha d hd => ?_) x
  rw [parts_eq, dpt, dpt_app, dep_eq]
  have e1 : dpt (parts.kparts c.kids (d + 1)) = if c.kids = [] then 0 else d + deps c.kids := by
    split
    · rename_i h; rw [h]; simp [parts.kparts, dpt]
    · rename_i h; rw [kparts_dpt hk (d + 1) (by omega) h]; omega
  have e2 : dpt (parts.aparts c.alts (d + 1)) = if c.alts = [] then 0 else d + adeps c.alts := by
    split
    · rename_i h; rw [h]; simp [parts.aparts, dpt]
    · rename_i h; rw [aparts_dpt ha (d + 1) (by omega) h]; omega
  have n1 : c.kids = [] → deps c.kids = 0 := fun h => by rw [h, deps]
  have n2 : c.alts = [] → adeps c.alts = 0 := fun h => by rw [h, adeps]
  rw [e1, e2]
  simp only
  split <;> split <;> (try have := n1 (by assumption)) <;> (try have := n2 (by assumption)) <;> omega
theorem shapes_parts (x : CoreT) : ∀ d, Shapes x ↔ ∀ q ∈ parts x d, Shape q.1 := by
  refine coreInd (fun x => ∀ d, Shapes x ↔ ∀ q ∈ parts x d, Shape q.1) (fun c hk ha d => ?_) x
  rw [Shapes_eq, KShapes_iff, AShapes_iff, parts_eq]
  have e1 : ∀ l : List CoreT, (∀ y ∈ l, ∀ d, Shapes y ↔ ∀ q ∈ parts y d, Shape q.1) → ((∀ y ∈ l, Shapes y) ↔ ∀ q ∈ parts.kparts l (d + 1), Shape q.1) := by
    intro l
    induction l with
    | nil => intro _; simp [parts.kparts]
    | cons a r ih =>
      intro h
      rw [parts.kparts]
      simp only [List.mem_cons, List.mem_append, or_imp, forall_and, forall_eq]
      rw [h a (by simp) (d + 1), ih (fun y hy => h y (by simp [hy]))]
  have e2 : ∀ l : List AltT, (∀ y ∈ l, ∀ d, Shapes y.body ↔ ∀ q ∈ parts y.body d, Shape q.1) → ((∀ y ∈ l, Shapes y.body) ↔ ∀ q ∈ parts.aparts l (d + 1), Shape q.1) := by
    intro l
    induction l with
    | nil => intro _; simp [parts.aparts]
    | cons a r ih =>
      intro h
      rw [parts.aparts, apart_eq]
      simp only [List.mem_cons, List.mem_append, or_imp, forall_and, forall_eq]
      rw [h a (by simp) (d + 1), ih (fun y hy => h y (by simp [hy]))]
  rw [e1 c.kids hk, e2 c.alts ha]
  simp only [List.mem_cons, List.mem_append, or_imp, forall_and, forall_eq]
theorem good_iff (x : CoreT) : Good x ↔ cnt (parts x 1) ≤ 20000 ∧ dpt (parts x 1) ≤ 1000 ∧ ∀ q ∈ parts x 1, Shape q.1 := by
  unfold Good
  rw [dpt_parts x 1 (by omega), ← shapes_parts x 1]
  constructor
  · rintro ⟨h1, h2, h3⟩
    exact ⟨by have := cnt_le x 1; omega, by omega, h3⟩
  · rintro ⟨h1, h2, h3⟩
    exact ⟨by rw [cnt_total x h3 1] at h1; exact h1, by omega, h3⟩
theorem cnt_prefix {l m : List (CoreT × Int)} (h : l <+: m) : cnt l ≤ cnt m ∧ dpt l ≤ dpt m := by
  obtain ⟨r, rfl⟩ := h
  rw [cnt_app, dpt_app]
  omega
theorem dep_bulk (x : CoreT) : dep x ≤ 1 + bulk x := by
  refine coreInd (fun x => dep x ≤ 1 + bulk x) (fun c hk ha => ?_) x
  rw [dep_eq, bulk_eq]
  have e1 : ∀ l : List CoreT, (∀ y ∈ l, dep y ≤ 1 + bulk y) → deps l ≤ bulks l := by
    intro l
    induction l with
    | nil => intro _; simp [deps]
    | cons a r ih =>
      intro h
      rw [deps, bulks]
      have := h a (by simp); have := ih (fun y hy => h y (by simp [hy])); omega
  have e2 : ∀ l : List AltT, (∀ y ∈ l, dep y.body ≤ 1 + bulk y.body) → adeps l ≤ abulks l := by
    intro l
    induction l with
    | nil => intro _; simp [adeps]
    | cons a r ih =>
      intro h
      rw [adeps, adep_eq, abulks, abulk_eq]
      have := h a (by simp); have := ih (fun y hy => h y (by simp [hy])); omega
  have := e1 c.kids hk; have := e2 c.alts ha
  omega
set_option maxRecDepth 100000 in
set_option maxHeartbeats 1000000 in
theorem implFault (x : CoreT) (hbk : bulk x ≤ 1048576) (w : World) (cs : List Value) (hK : IC.K w x cs) :
    Calls Try.prog 24 #[.agg cs.toArray] w (FaultPost x w) := by
  have hmf : ∀ (fn : Fn) (first cap : Array Value) (w : World), (Instr.makeFunc fn first cap).run Try.prog w = .ok (.func fn first cap) w := fun _ _ _ _ => rfl
  obtain ⟨A3, c3, A4, c4, A5, c5, A6, c6, rfl, -⟩ := core_open hK
  have HKK := Lib.hid hK
  have HBK := Lib.hid hbk
  have HD := Lib.hid (dep_bulk x)
  clear hK hbk
  simp only [cellsC]
  go_enter Try.func24, Try.ntmps24
  go_wp2_with fail
  obtain ⟨W1, hW1, hp1, hB1, hs1⟩ := boxed w [.int .i64 x.kind, .string x.name, .bool x.minus, .slice A3 x.limbs.length c3, .slice A4 x.names.length c4, .slice A5 x.kids.length c5, .slice A6 x.alts.length c6] 36
  obtain ⟨W2, hW2, hp2, hB2, hs2⟩ := boxed W1 [.int .i64 0] 3
  obtain ⟨W3, hW3, hp3, hB3, hs3⟩ := boxed W2 [.int .i64 0] 3
  rw [← hW1, ← hW2, ← hW3]
  rw [hs1] at hp2 hs2
  rw [hs2] at hp3
  have hat : At W1 x ⟨w.heap.size, 0, none⟩ := ⟨A3, c3, A4, c4, A5, c5, A6, c6, (kCore _ _).K_below hB1 HKK.out, hp1.cell (j := 0) rfl, hp1.cell (j := 1) rfl, hp1.cell (j := 2) rfl, hp1.cell (j := 3) rfl, hp1.cell (j := 4) rfl, hp1.cell (j := 5) rfl, hp1.cell (j := 6) rfl⟩
  have HAT := Lib.hid hat
  have HB1 := Lib.hid hB1
  have HB13 := Lib.hid (Below.step hB2 hB3)
  have HS1 := Lib.hid hs1
  refine (each_all x HBK.out W1 W3 _ 1 52 #[.pointer (some ⟨w.heap.size + 1, 0, none⟩), .pointer (some ⟨w.heap.size + 1 + 1, 0, none⟩)] (CountI W1 (w.heap.size + 1) (w.heap.size + 1 + 1)) (CountQ W1 (w.heap.size + 1) (w.heap.size + 1 + 1)) []
    (enters_of Try.func52 (by kernel_rfl) rfl) (by omega) (by have := HD.out; have := HBK.out; omega) hat (fun l w h => h.1) (count_sees W1 _ _ (by omega) (by omega) (by omega))
    ⟨Below.step hB2 hB3, hp2.below hB3, hp3, by decide, by decide⟩).mono ?_
  clear hW1 hW2 hW3 hp1 hp2 hp3 hB1 hB2 hB3 hs1 hs2 hs3 hat
  rintro e w4 (⟨rfl, hI⟩ | ⟨rfl, l, hl, hQ⟩)
  case inr =>
    obtain ⟨hb4, hc4, hd4, hn4⟩ := hQ
    have HB4 := Lib.hid (Below.trans HB1.out (hb4.mono (by have := HS1.out; omega)))
    have HN := Lib.hid (show ¬ Good x from fun h => by
      have h1 := (good_iff x).1 h
      have h2 := cnt_prefix hl
      simp only [List.nil_append] at hn4
      omega)
    have b0 := hc4.cell (j := 0) rfl
    have d0 := hd4.cell (j := 0) rfl
    simp only [List.nil_append] at hn4 b0 d0
    clear hc4 hd4 hb4 hl HB13
    generalize cnt l = c at *
    generalize dpt l = d at *
    by_cases hc : 20000 < c
    · have q1 : decide (20000 < (c : Int)) = true := decide_eq_true (by omega)
      go_wp2
      go_ret
      exact ⟨1, rfl, ⟨fun h => absurd h (by omega), fun h => absurd h HN.out⟩, HB4.out⟩
    · have q1 : decide (20000 < (c : Int)) = false := decide_eq_false (by omega)
      have q2 : decide (1000 < d) = true := decide_eq_true (by omega)
      go_wp2
      go_ret
      exact ⟨1, rfl, ⟨fun h => absurd h (by omega), fun h => absurd h HN.out⟩, HB4.out⟩
  obtain ⟨hb4, hc4, hd4, hn4, hm4⟩ := hI
  simp only [List.nil_append] at hc4 hd4 hn4 hm4
  have b0 := hc4.cell (j := 0) rfl
  have d0 := hd4.cell (j := 0) rfl
  have HN4 := Lib.hid hn4; have HM4 := Lib.hid hm4
  have HB4 := Lib.hid hb4
  clear hc4 hd4 hb4 HB13
  obtain ⟨c, hc⟩ : ∃ c, c = cnt (parts x 1) := ⟨_, rfl⟩
  obtain ⟨d, hd⟩ : ∃ d, d = dpt (parts x 1) := ⟨_, rfl⟩
  rw [← hc] at b0 hn4
  rw [← hd] at d0 hm4
  clear hc hd
  have q1 : decide (20000 < (c : Int)) = false := decide_eq_false (by omega)
  have q2 : decide (1000 < d) = false := decide_eq_false (by omega)
  go_wp2_with fail
  refine (each_all x HBK.out W1 w4 _ 1 53 #[] (FitI W1) (FitQ W1) []
    (enters_of Try.func53 (by kernel_rfl) rfl) (by omega) (by have := HD.out; have := HBK.out; omega) HAT.out (fun l w h => h.1) (fit_sees W1) ⟨HB4.out, fun q hq => by cases hq⟩).mono ?_
  clear b0 d0 q1 q2
  rintro e w5 (⟨rfl, hI⟩ | ⟨rfl, l, hl, hQ⟩)
  · have HG := Lib.hid (show Good x from (good_iff x).2 ⟨HN4.out, HM4.out, by simpa using hI.2⟩)
    have HB5 := Lib.hid (Below.trans HB1.out (hI.1.mono (by have := HS1.out; omega)))
    clear hI
    go_wp2
    go_ret
    exact ⟨0, rfl, ⟨fun _ => HG.out, fun _ => rfl⟩, HB5.out⟩
  · have HG := Lib.hid (show ¬ Good x from fun h => by
      obtain ⟨q, hq, hs⟩ := hQ.2
      exact hs (((good_iff x).1 h).2.2 q (hl.subset (by simpa using hq))))
    have HB5 := Lib.hid (Below.trans HB1.out (hQ.1.mono (by have := HS1.out; omega)))
    clear hQ hl
    go_wp2
    go_ret
    exact ⟨2, rfl, ⟨fun h => absurd h (by omega), fun h => absurd h HG.out⟩, HB5.out⟩
end Go.Proofs.Ytagfphlhahiplaa.C13
namespace Go.Proofs.Ytagfphlhahiplaa.C13
open Go.RowKit Go.Proofs.YtagfphlhahiplaaW.PrintWords Go.Proofs.Ytagfphlhahiplaa.PFnExactFormatCore
set_option linter.unusedVariables false
set_option linter.unusedSimpArgs false
def okLimbs (l : List Int) : Prop := ∀ a ∈ l, 0 ≤ a ∧ a < 4294967296
def val : List Int → Nat
  | [] => 0
  | a :: r => a.toNat + 4294967296 * val r
/-- a number's digits; of nought there are none -/
def dig (n : Nat) : List Int := if h : n = 0 then [] else dig (n / 10) ++ [((48 + n % 10 : Nat) : Int)]
theorem dig_zero : dig 0 = [] := by rw [dig]; simp
theorem dig_pos {n : Nat} (h : n ≠ 0) : dig n = dig (n / 10) ++ [((48 + n % 10 : Nat) : Int)] := by rw [dig]; simp [h]
/-- the text of a number -/
def decimal (m : Bool) (l : List Int) : List Int := if bigFaultB m l = true then [] else (if m = true then [45] else []) ++ (if l = [] then [48] else dig (val l))
theorem strOfNums_app (xs : List Int) (s : ByteArray) (ys : List Int) (h : s = strOfNums ys) : strOfNums xs ++ s = strOfNums (xs ++ ys) := by
  subst h
  apply ByteArray.ext
  apply Array.ext'
  simp [strOfNums]
theorem dig_len : ∀ (m n : Nat), n < 10 ^ m → (dig n).length ≤ m := by
  intro m
  induction m with
  | zero =>
    intro n hn
    have : n = 0 := by simp at hn; omega
    subst this
    rw [dig_zero]; simp
  | succ m ih =>
    intro n hn
    by_cases h : n = 0
    · subst h; rw [dig_zero]; simp
    · rw [dig_pos h, List.length_append, List.length_singleton]
      have := ih (n / 10) (by rw [Nat.div_lt_iff_lt_mul (by omega)]; rw [Nat.pow_succ] at hn; omega)
      omega
def esc1 (mark c : Int) : List Int := if c = 10 then [92, 110] else if c = 92 then [92, c] else if c = mark then [92, c] else [c]
def esc (mark : Int) (s : ByteArray) : List Int := mark :: ((bytesOf s).flatMap (esc1 mark) ++ [mark])
end Go.Proofs.Ytagfphlhahiplaa.C13
namespace Go.Proofs.Ytagfphlhahiplaa.C13
open Go.RowKit Go.Proofs.YtagfphlhahiplaaW.PrintWords Go.Proofs.Ytagfphlhahiplaa.PFnExactFormatCore
set_option linter.unusedVariables false
set_option linter.unusedSimpArgs false
section
variable {P : Program} (w : World)
end
/-- from the world w0 with the slice o0 on: now the world is w, the slice o, and it holds xs -/
structure Out (base : Nat) (w0 : World) (o0 : Value) (w : World) (o : Value) (xs : List Int) : Prop where
  own : w.ownsRow base 5 1 o xs.length (nums .u8 xs)
  gr : w0.grownBy w o0.ownBlock
  lies : o.ownBlock = o0.ownBlock ∨ ∃ b, o.ownBlock = some b ∧ w0.heap.size ≤ b
  ge : base ≤ w0.heap.size
theorem Out.step {base : Nat} {w0 : World} {o0 : Value} {w : World} {o : Value} {xs : List Int} (h : Out base w0 o0 w o xs) {w' : World} {o' : Value} {ys : List Int} (hown : w'.ownsRow base 5 1 o' ys.length (nums .u8 ys))
    (hg : w.grownBy w' o.ownBlock) (hl : o'.ownBlock = o.ownBlock ∨ ∃ b, o'.ownBlock = some b ∧ w.heap.size ≤ b) : Out base w0 o0 w' o' ys := by
  have hs := h.gr.size
  refine ⟨hown, ⟨hg.os.trans h.gr.os, hg.tape.trans h.gr.tape, hg.output.trans h.gr.output, Nat.le_trans hs hg.size, fun i hi hn => ?_⟩, ?_, h.ge⟩
  · refine (hg.block i (Nat.lt_of_lt_of_le hi hs) (fun he => ?_)).trans (h.gr.block i hi hn)
    rcases h.lies with hl | ⟨b, hb, hbl⟩
    · exact hn (he.trans hl)
    · rw [hb] at he; injection he with he; omega
  · rcases hl with hl | ⟨b, hb, hbl⟩
    · rw [hl]; exact h.lies
    · exact .inr ⟨b, hb, Nat.le_trans hs hbl⟩
theorem Out.below {base : Nat} {w0 : World} {o0 : Value} {w : World} {o : Value} {xs : List Int} (h : Out base w0 o0 w o xs) {w' : World} (hb : Below w.heap.size w w') : Out base w0 o0 w' o xs :=
  h.step (ownsRow_below h.own hb) (grown_of_below hb _) (.inl rfl)
theorem Out.alloc {base : Nat} {w0 : World} {o0 : Value} {w : World} {o : Value} {xs : List Int} (h : Out base w0 o0 w o xs) (ob : Obj) : Out base w0 o0 (w.alloc ob) o xs := h.below (grown_box w ob)
theorem Out.drew {base : Nat} {w0 : World} {o0 : Value} {w : World} {o : Value} {xs : List Int} (h : Out base w0 o0 w o xs) : Out base w0 o0 w.drew o xs := h.below (below_drew (Below.refl _ _))
theorem Out.trans {base : Nat} {w0 w1 w2 : World} {o0 o1 o2 : Value} {xs ys : List Int} (h : Out base w0 o0 w1 o1 xs) (k : Out base w1 o1 w2 o2 ys) : Out base w0 o0 w2 o2 ys := h.step k.own k.gr k.lies
/-- a block of before that is not the slice's own -/
theorem Out.blk {base : Nat} {w0 : World} {o0 : Value} {w : World} {o : Value} {xs : List Int} (h : Out base w0 o0 w o xs) {g : Nat} {e : TypeId} {cs : List Value} (hb : Blk w0 g e cs) (hne : some g ≠ o0.ownBlock) : Blk w g e cs := hb.grownO h.gr hne
theorem Out.belowB {base : Nat} {w0 : World} {o0 : Value} {w : World} {o : Value} {xs : List Int} (h : Out base w0 o0 w o xs) (ho : ∀ k, o0.ownBlock = some k → base ≤ k) : Below base w0 w :=
  ⟨h.gr.os, h.gr.tape, h.gr.output, h.gr.size, fun i hi => h.gr.block i (Nat.lt_of_lt_of_le hi h.ge) (fun he => by have := ho i he.symm; omega)⟩
set_option maxRecDepth 100000
section
variable {ops : Array Oper} {rest : List Oper} {o : Oper} {a : Act} {Q : Exit → Act → World → Prop}
end
end Go.Proofs.Ytagfphlhahiplaa.C13
namespace Go.Proofs.Ytagfphlhahiplaa.C13
open Go.RowKit Go.Proofs.YtagfphlhahiplaaW.PrintWords Go.Proofs.Ytagfphlhahiplaa.PFnExactFormatCore
set_option linter.unusedVariables false
set_option linter.unusedSimpArgs false
/-- texts behind one another, sep ahead of each (but of the first, if first) -/
def joins (sep : List Int) : Bool → List (List Int) → List Int
  | _, [] => []
  | first, t :: r => (if first then [] else sep) ++ t ++ joins sep false r
def altPart (a : AltT) (t : List Int) : List Int := bytesOf a.con ++ joins [32] false (a.names.map bytesOf) ++ [32, 45, 62, 32] ++ t
def letPart (n : ByteArray) (t : List Int) : List Int := bytesOf n ++ [32, 61, 32] ++ t
def fmtOf (kind : Int) (name : ByteArray) (minus : Bool) (limbs : List Int) (names : List ByteArray) (kids : List CoreT) (alts : List AltT) (ts us : List (List Int)) : List Int :=
  if kind = 1 then bytesOf name
  else if kind = 2 then decimal minus limbs
  else if kind = 3 then esc 39 name
  else if kind = 10 then esc 34 name
  else if kind = 4 ∨ kind = 9 ∨ kind = 5 then (if kids.length = 0 then bytesOf name else [40] ++ bytesOf name ++ joins [32] (decide (kind = 5)) ts ++ [41])
  else if kind = 6 then [40, 92] ++ joins [32] true (names.map bytesOf) ++ [32, 45, 62, 32] ++ ts.getD 0 [] ++ [41]
  else if kind = 7 then [40, 108, 101, 116, 32] ++ joins [59, 32] true (List.zipWith letPart names ts) ++ [32, 105, 110, 32] ++ ts.getD names.length [] ++ [41]
  else [40, 99, 97, 115, 101, 32] ++ ts.getD 0 [] ++ [32, 111, 102, 32] ++ (if name.size = 0 then [] else bytesOf name ++ [32]) ++ [123, 32] ++ joins [59, 32] true (List.zipWith altPart alts us) ++
    (if kids.length = 2 then (if 0 < alts.length then [59, 32] else []) ++ [95, 32, 45, 62, 32] ++ ts.getD 1 [] else []) ++ [32, 125, 41]
mutual
def fmt : CoreT → List Int
  | ⟨kind, name, minus, limbs, names, kids, alts⟩ => fmtOf kind name minus limbs names kids alts (fmts kids) (afmts alts)
def fmts : List CoreT → List (List Int)
  | [] => []
  | c :: r => fmt c :: fmts r
def afmts : List AltT → List (List Int)
  | [] => []
  | a :: r => afmt a :: afmts r
def afmt : AltT → List Int
  | ⟨_, _, b⟩ => fmt b
end
mutual
def WfC : CoreT → Prop
  | ⟨_, _, _, limbs, _, kids, alts⟩ => okLimbs limbs ∧ WfCs kids ∧ WfAs alts
def WfCs : List CoreT → Prop
  | [] => True
  | c :: r => WfC c ∧ WfCs r
def WfAs : List AltT → Prop
  | [] => True
  | a :: r => WfA a ∧ WfAs r
def WfA : AltT → Prop
  | ⟨_, _, b⟩ => WfC b
end
theorem WfA_eq (a : AltT) : WfA a = WfC a.body := by cases a; rw [WfA]
end Go.Proofs.Ytagfphlhahiplaa.C13
namespace Go.Proofs.Ytagfphlhahiplaa.C13
open Go.RowKit Go.Proofs.YtagfphlhahiplaaW.PrintWords Go.Proofs.Ytagfphlhahiplaa.PFnExactFormatCore
attribute [local go_sem ↓] Go.wp_at_zero Go.wp_at_succ
set_option linter.unusedVariables false
set_option linter.unusedSimpArgs false
theorem Out.pre {base : Nat} {w W1 w' : World} {o v : Value} {ys : List Int} (hb : Below w.heap.size w W1) (h : Out base W1 o w' v ys) (hge : base ≤ w.heap.size) : Out base w o w' v ys :=
  ⟨h.own, grown_trans (grown_of_below hb _) h.gr, h.lies.imp id (fun ⟨b, h1, h2⟩ => ⟨b, h1, Nat.le_trans hb.size h2⟩), hge⟩
/-- the contract of l13Format at a term; S: where the term is read -/
def FmtSaid (x : CoreT) : Prop := WfC x → Shapes x → bulk x ≤ 1048576 → ∀ (S w : World) (cs : List Value) (base : Nat) (o : Value) (xs : List Int), IC.K S x cs → Below S.heap.size S w → S.heap.size ≤ base → base ≤ w.heap.size →
  w.ownsRow base 5 1 o xs.length (nums .u8 xs) → xs.length + (fmt x).length ≤ 1000000000 →
  Calls Try.prog 19 #[o, .agg cs.toArray] w fun e w' => ∃ v, e = .returned v ∧ Out base w o w' v (xs ++ fmt x)
theorem add_nought (a : Addr) : a.add 0 = a := by unfold Addr.add; split <;> simp_all
section
variable {S w : World} {x : CoreT} {A3 : Option Addr} {c3 : Nat} {A4 : Option Addr} {c4 : Nat} {A5 : Option Addr} {c5 : Nat} {A6 : Option Addr} {c6 : Nat} {base : Nat} {o : Value} {xs : List Int}
end
end Go.Proofs.Ytagfphlhahiplaa.C13
namespace Go.Proofs.Ytagfphlhahiplaa.C13
open Go.RowKit Go.Proofs.YtagfphlhahiplaaW.PrintWords Go.Proofs.Ytagfphlhahiplaa.PFnExactFormatCore
set_option linter.unusedVariables false
set_option linter.unusedSimpArgs false
section
variable {S w : World} {x : CoreT} {A3 : Option Addr} {c3 : Nat} {A4 : Option Addr} {c4 : Nat} {A5 : Option Addr} {c5 : Nat} {A6 : Option Addr} {c6 : Nat} {base : Nat} {o : Value} {xs : List Int}
end
end Go.Proofs.Ytagfphlhahiplaa.C13
namespace Go.Proofs.Ytagfphlhahiplaa.C13
open Go.RowKit Go.Proofs.YtagfphlhahiplaaW.PrintWords Go.Proofs.Ytagfphlhahiplaa.PFnExactFormatCore
set_option linter.unusedVariables false
set_option linter.unusedSimpArgs false
/-- block b holds the one byte c, and is not the slice's own -/
def Lit (w : World) (v : Value) (b : Nat) (c : Int) : Prop := Blk w b 5 [.int .u8 c] ∧ some b ≠ v.ownBlock
theorem Lit.new {base : Nat} {w0 : World} {o0 : Value} {w : World} {v : Value} {xs : List Int} (h : Out base w0 o0 w v xs) (c : Int) : Lit (w.alloc (.cells #[.int .u8 c] 5)) v w.heap.size c :=
  ⟨blk_alloc w 5 [.int .u8 c], fun e => by have := own_ltb h.own _ e.symm; omega⟩
theorem Lit.step {w : World} {v : Value} {b : Nat} {c : Int} (h : Lit w v b c) {w' : World} {v' : Value} (hg : w.grownBy w' v.ownBlock) (hl : v'.ownBlock = v.ownBlock ∨ ∃ b, v'.ownBlock = some b ∧ w.heap.size ≤ b) : Lit w' v' b c := by
  refine ⟨h.1.grownO hg h.2, fun e => ?_⟩
  rcases hl with hl | ⟨b', hb, hbl⟩
  · exact h.2 (e.trans hl)
  · rw [hb] at e; injection e with e; have := h.1.lt; omega
theorem Lit.alloc {w : World} {v : Value} {b : Nat} {c : Int} (h : Lit w v b c) (ob : Obj) : Lit (w.alloc ob) v b c := ⟨h.1.alloc ob, h.2⟩
theorem Lit.cell {w : World} {v : Value} {b : Nat} {c : Int} (h : Lit w v b c) : w.cell? ((⟨b, 0, none⟩ : Addr).add 0) = some (.int .u8 c) := by rw [add_nought]; exact h.1.cell (j := 0) rfl
set_option maxRecDepth 100000
section
variable {ops : Array Oper} {o : Oper} {a : Act} {Q : Exit → Act → World → Prop}
end
/-- l13Format called behind other appends -/
theorem FmtSaid.call {y : CoreT} (h : FmtSaid y) (hw : WfC y) (hs : Shapes y) (hb : bulk y ≤ 1048576) {S : World} {cs : List Value} (hK : IC.K S y cs) {base : Nat} {W1 : World} {o : Value} {w : World} {v : Value} {xs : List Int}
    (ho : Out base W1 o w v xs) (hB : Below S.heap.size S W1) (hSb : S.heap.size ≤ base) (hOB : ∀ k, o.ownBlock = some k → base ≤ k) (hl : xs.length + (fmt y).length ≤ 1000000000) :
    Calls Try.prog 19 #[v, .agg cs.toArray] w fun e w5 => ∃ v5, e = .returned v5 ∧ Out base W1 o w5 v5 (xs ++ fmt y) ∧ (∀ b c, Lit w v b c → Lit w5 v5 b c) :=
  (h hw hs hb S w cs base v xs hK (hB.trans ((ho.belowB hOB).mono hSb)) hSb (Nat.le_trans ho.ge ho.gr.size) ho.own hl).mono
    (fun e w5 ⟨v5, he, h5⟩ => ⟨v5, he, ho.trans h5, fun _ _ l => l.step h5.gr h5.lies⟩)
end Go.Proofs.Ytagfphlhahiplaa.C13
