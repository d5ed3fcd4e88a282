/- Part of the proof that FnExactFormatCore answers true at every term. -/
import Derived.Deep.AppendLies
import Derived.Deep.DrawnRows
import Derived.Deep.RegionHeld3
import Derived.Shelf.Abstract
import Derived.Test.YtagfphlhahiplaaF6
namespace Go.Proofs.Ytagfphlhahiplaa.C13
open Go.RowKit Go.Proofs.YtagfphlhahiplaaW.PrintWords Go.Proofs.Ytagfphlhahiplaa.PFnExactFormatCore
set_option linter.unusedVariables false
set_option linter.unusedSimpArgs false
section
variable {S w : World} {x : CoreT} {p : Addr}
def PrimPos (x : CoreT) : Prop := 0 < primCount x.name
def PrimFit (x : CoreT) : Prop := (x.kids.length : Int) = primCount x.name
theorem ans_no : AnswersB 122 #[.agg #[.pointer (some p)]] w false := by
  unfold AnswersB
  go_enter Try.func122, Try.ntmps122
  go_wp2
  go_ret
  exact ⟨rfl, grown_box w _⟩
set_option maxRecDepth 100000 in
set_option maxHeartbeats 1000000 in
theorem ans_num (hat : At w x p) (hbk : bulk x ≤ 1048576) : AnswersB 111 #[.agg #[.pointer (some p)]] w (dec ((x.name.size = 0) ∧ (Leaf x) ∧ (bigFaultB x.minus x.limbs = false))) := by
  obtain ⟨b1, b2, b3, b4, b5⟩ := bounds hbk
  have HBK := Lib.hid hbk; clear hbk
  have HAT := Lib.hid hat
  obtain ⟨A3, c3, A4, c4, A5, c5, A6, c6, hK, g0, g1, g2, g3, g4, g5, g6⟩ := hat
  have NM := Lib.hid (names_of hK); have LM := Lib.hid (limbs_of hK)
  clear hK
  have HB := Lib.hid (grown_box w (.cells #[.pointer (some p)] 113))
  have G0 := Lib.hid g0
  have G1 := Lib.hid g1
  have G2 := Lib.hid g2
  have G3 := Lib.hid g3
  have G4 := Lib.hid g4
  have G5 := Lib.hid g5
  have G6 := Lib.hid g6
  clear g0 g1 g2 g3 g4 g5 g6
  unfold AnswersB
  obtain ⟨r, hrr⟩ : ∃ r, r = dec ((x.name.size = 0) ∧ (Leaf x) ∧ (bigFaultB x.minus x.limbs = false)) := ⟨_, rfl⟩
  rw [← hrr]
  have HRR := Lib.hid hrr; clear hrr
  by_cases c0 : x.name.size = 0
  case pos =>
    have e1 : x.name = ⟨#[]⟩ := size_zero.1 c0
    have g1 := cell_later' HB.out G1.out
    rw [e1] at g1
    go_enter Try.func111, Try.ntmps111
    go_wp2_with fail
    obtain ⟨W1, hW1, hp1, hB1, hs1⟩ := boxed w [.pointer (some p)] 113
    rw [← hW1]
    have BP0 := Lib.hid hp1; have HB0 := Lib.hid hB1; clear hW1 hp1 hB1 hs1
    clear g1
    refine (ans_leaf (HAT.out.later HB0.out) HBK.out).mono ?_
    rintro e w2 ⟨rfl, hb⟩
    have HB1 := Lib.hid (Below.step HB0.out hb); have BP1 := Lib.hid (BP0.out.below hb); clear hb
    by_cases c1 : Leaf x
    case pos =>
      rw [show ((x.names.length = 0) ∧ (x.alts.length = 0) ∧ (x.kids.length = 0)) = Leaf x from rfl, dec_true c1]
      have C1 := Lib.hid c1; clear c1
      have g2 := cell_later' HB1.out G2.out
      have g3 := cell_later' HB1.out G3.out
      have z0 := BP1.out.cell (j := 0) rfl
      go_wp2_with fail
      clear g2 g3
      clear z0
      refine (ans_bigFault x.minus x.limbs _ _ _ (Kd.C_below LM.out.2 HB1.out) LM.out.1 b2).mono ?_
      rintro e w3 ⟨rfl, hb⟩
      have HB2 := Lib.hid (Below.step HB1.out hb); have BP2 := Lib.hid (BP1.out.below hb); clear hb
      by_cases c2 : bigFaultB x.minus x.limbs = false
      case pos =>
        rw [c2]
        have C2 := Lib.hid c2; clear c2
        have z0 := BP2.out.cell (j := 0) rfl
        go_wp2
        go_ret
        exact ⟨by rw [HRR.out, dec_true ⟨c0, C1.out, C2.out⟩]; first | done | rfl, HB2.out⟩
      case neg =>
        rw [show bigFaultB x.minus x.limbs = true from by simpa using c2]
        have N2 := Lib.hid c2; clear c2
        have z0 := BP2.out.cell (j := 0) rfl
        go_wp2
        go_ret
        exact ⟨by rw [HRR.out, dec_false (fun h => N2.out h.2.2)]; first | done | rfl, HB2.out⟩
    case neg =>
      rw [show ((x.names.length = 0) ∧ (x.alts.length = 0) ∧ (x.kids.length = 0)) = Leaf x from rfl, dec_false c1]
      have N1 := Lib.hid c1; clear c1
      have z0 := BP1.out.cell (j := 0) rfl
      go_wp2
      go_ret
      exact ⟨by rw [HRR.out, dec_false (fun h => N1.out h.2.1)]; first | done | rfl, HB1.out⟩
  case neg =>
    have N0 := Lib.hid c0
    have q1 := isEmpty_of (s := x.name) (by omega); have q2 := toList_ne (s := x.name) (by omega)
    have g1 := cell_later' HB.out G1.out
    go_enter Try.func111, Try.ntmps111
    go_wp2
    go_ret
    exact ⟨by rw [HRR.out, dec_false (fun h => N0.out h.1)]; first | done | rfl, HB.out⟩
set_option maxRecDepth 100000 in
set_option maxHeartbeats 1000000 in
theorem ans_prim (hat : At w x p) (hbk : bulk x ≤ 1048576) : AnswersB 119 #[.agg #[.pointer (some p)]] w (dec ((PrimPos x) ∧ (PrimFit x) ∧ (x.names.length = 0) ∧ (x.alts.length = 0) ∧ (NoNumber x))) := by
  obtain ⟨b1, b2, b3, b4, b5⟩ := bounds hbk
  have HBK := Lib.hid hbk; clear hbk
  have HAT := Lib.hid hat
  obtain ⟨A3, c3, A4, c4, A5, c5, A6, c6, hK, g0, g1, g2, g3, g4, g5, g6⟩ := hat
  have NM := Lib.hid (names_of hK); have LM := Lib.hid (limbs_of hK)
  clear hK
  have HB := Lib.hid (grown_box w (.cells #[.pointer (some p)] 120))
  have G0 := Lib.hid g0
  have G1 := Lib.hid g1
  have G2 := Lib.hid g2
  have G3 := Lib.hid g3
  have G4 := Lib.hid g4
  have G5 := Lib.hid g5
  have G6 := Lib.hid g6
  clear g0 g1 g2 g3 g4 g5 g6
  unfold AnswersB
  obtain ⟨r, hrr⟩ : ∃ r, r = dec ((PrimPos x) ∧ (PrimFit x) ∧ (x.names.length = 0) ∧ (x.alts.length = 0) ∧ (NoNumber x)) := ⟨_, rfl⟩
  rw [← hrr]
  have HRR := Lib.hid hrr; clear hrr
  have g1 := cell_later' HB.out G1.out
  go_enter Try.func119, Try.ntmps119
  go_wp2_with fail
  obtain ⟨W1, hW1, hp1, hB1, hs1⟩ := boxed w [.pointer (some p)] 120
  rw [← hW1]
  have BP0 := Lib.hid hp1; have HB0 := Lib.hid hB1; clear hW1 hp1 hB1 hs1 g1
  refine (ans_primCount x.name _).mono ?_
  rintro e w2 ⟨rfl, hb⟩
  have HB1 := Lib.hid (Below.step HB0.out hb); have BP1 := Lib.hid (BP0.out.below hb); clear hb
  obtain ⟨n, hn⟩ : ∃ n, n = primCount x.name := ⟨_, rfl⟩
  rw [← hn]
  have hnr := primCount_range x.name
  rw [← hn] at hnr
  have HN := Lib.hid hn; clear hn
  obtain ⟨hn0, hn2⟩ := hnr
  by_cases c0 : PrimPos x
  case pos =>
    have d0 : 0 < n := by rw [HN.out]; exact c0
    by_cases c1 : PrimFit x
    case pos =>
      have d1 : ((x.kids.length : Int) == n) = true := beq_iff_eq.2 (by rw [HN.out]; exact c1)
      have g5 := cell_later' HB1.out G5.out
      have z0 := BP1.out.cell (j := 0) rfl
      go_wp2_with fail
      clear g5
      clear z0
      refine (ans_noNames (HAT.out.later HB1.out) HBK.out).mono ?_
      rintro e w3 ⟨rfl, hb⟩
      have HB2 := Lib.hid (Below.step HB1.out hb); have BP2 := Lib.hid (BP1.out.below hb); clear hb
      by_cases c2 : x.names.length = 0
      case pos =>
        rw [dec_true c2]
        have C2 := Lib.hid c2; clear c2
        have z0 := BP2.out.cell (j := 0) rfl
        go_wp2_with fail
        clear z0
        refine (ans_noAlts (HAT.out.later HB2.out) HBK.out).mono ?_
        rintro e w4 ⟨rfl, hb⟩
        have HB3 := Lib.hid (Below.step HB2.out hb); have BP3 := Lib.hid (BP2.out.below hb); clear hb
        by_cases c3 : x.alts.length = 0
        case pos =>
          rw [dec_true c3]
          have C3 := Lib.hid c3; clear c3
          have z0 := BP3.out.cell (j := 0) rfl
          go_wp2_with fail
          clear z0
          refine (ans_noNumber (HAT.out.later HB3.out) HBK.out).mono ?_
          rintro e w5 ⟨rfl, hb⟩
          have HB4 := Lib.hid (Below.step HB3.out hb); have BP4 := Lib.hid (BP3.out.below hb); clear hb
          by_cases c4 : NoNumber x
          case pos =>
            rw [show ((x.minus = false) ∧ (x.limbs.length = 0)) = NoNumber x from rfl, dec_true c4]
            have C4 := Lib.hid c4; clear c4
            have z0 := BP4.out.cell (j := 0) rfl
            go_wp2
            go_ret
            exact ⟨by rw [HRR.out, dec_true ⟨c0, c1, C2.out, C3.out, C4.out⟩]; first | done | rfl, HB4.out⟩
          case neg =>
            rw [show ((x.minus = false) ∧ (x.limbs.length = 0)) = NoNumber x from rfl, dec_false c4]
            have N4 := Lib.hid c4; clear c4
            have z0 := BP4.out.cell (j := 0) rfl
            go_wp2
            go_ret
            exact ⟨by rw [HRR.out, dec_false (fun h => N4.out h.2.2.2.2)]; first | done | rfl, HB4.out⟩
        case neg =>
          rw [dec_false c3]
          have N3 := Lib.hid c3; clear c3
          have z0 := BP3.out.cell (j := 0) rfl
          go_wp2
          go_ret
          exact ⟨by rw [HRR.out, dec_false (fun h => N3.out h.2.2.2.1)]; first | done | rfl, HB3.out⟩
      case neg =>
        rw [dec_false c2]
        have N2 := Lib.hid c2; clear c2
        have z0 := BP2.out.cell (j := 0) rfl
        go_wp2
        go_ret
        exact ⟨by rw [HRR.out, dec_false (fun h => N2.out h.2.2.1)]; first | done | rfl, HB2.out⟩
    case neg =>
      have N1 := Lib.hid c1
      have d1 : ((x.kids.length : Int) == n) = false := beq_eq_false_iff_ne.2 (by rw [HN.out]; exact c1)
      have g5 := cell_later' HB1.out G5.out
      have z0 := BP1.out.cell (j := 0) rfl
      go_wp2
      go_ret
      exact ⟨by rw [HRR.out, dec_false (fun h => N1.out h.2.1)]; first | done | rfl, HB1.out⟩
  case neg =>
    have N0 := Lib.hid c0
    have d0 : ¬ 0 < n := by rw [HN.out]; exact c0
    have z0 := BP1.out.cell (j := 0) rfl
    go_wp2
    go_ret
    exact ⟨by rw [HRR.out, dec_false (fun h => N0.out h.1)]; first | done | rfl, HB1.out⟩
end
end Go.Proofs.Ytagfphlhahiplaa.C13
namespace Go.Proofs.Ytagfphlhahiplaa.C13
open Go.RowKit Go.Proofs.YtagfphlhahiplaaW.PrintWords Go.Proofs.Ytagfphlhahiplaa.PFnExactFormatCore
set_option linter.unusedVariables false
set_option linter.unusedSimpArgs false
section
variable {S w : World} {x : CoreT} {p : Addr}
theorem consOk_iff (l : List AltT) : consOk l ↔ (∀ a ∈ l, namesOk a.names) ∧ namesOk (l.map (·.con)) := by
  unfold consOk altsNames namesOk
  constructor
  · rintro ⟨h, h2⟩
    refine ⟨fun a ha => (h a ha).2, fun s hs => ?_, h2⟩
    obtain ⟨a, ha, rfl⟩ := List.mem_map.1 hs
    exact (h a ha).1
  · rintro ⟨h, h2, h3⟩
    exact ⟨fun a ha => ⟨h2 _ (List.mem_map.2 ⟨a, ha, rfl⟩), h a ha⟩, h3⟩
theorem shape_is (x : CoreT) : Shape x ↔ (x.kind = 2 ∨ NoNumber x) ∧ (x.kind = 8 ∨ x.alts.length = 0) ∧ (x.kind = 6 ∨ x.kind = 7 ∨ x.names.length = 0) ∧
  ((x.kind = 1 ∧ 0 < x.name.size ∧ x.kids.length = 0) ∨ (x.kind = 2 ∧ x.name.size = 0 ∧ x.kids.length = 0 ∧ bigFaultB x.minus x.limbs = false) ∨ (x.kind = 3 ∧ x.name.size = 1 ∧ x.kids.length = 0) ∨
   (x.kind = 4 ∧ 0 < x.name.size) ∨ (x.kind = 10 ∧ 0 < x.name.size ∧ x.name.size ≤ 60000 ∧ x.kids.length = 0) ∨ (x.kind = 5 ∧ x.name.size = 0 ∧ 2 ≤ x.kids.length) ∨
   (x.kind = 6 ∧ x.name.size = 0 ∧ x.kids.length = 1 ∧ 0 < x.names.length ∧ namesOk x.names) ∨ (x.kind = 7 ∧ x.name.size = 0 ∧ x.kids.length = x.names.length + 1 ∧ 0 < x.names.length ∧ namesOk x.names) ∨
   (x.kind = 8 ∧ (x.kids.length = 2 ∨ x.kids.length = 1 ∧ 0 < x.alts.length) ∧ consOk x.alts) ∨ (x.kind = 9 ∧ PrimPos x ∧ PrimFit x)) := by
  unfold Shape NoNumber PrimPos PrimFit
  constructor
  · rintro ⟨h1, h2, h3, h4, h5⟩
    exact ⟨by rcases h1 with h1 | h1 <;> rcases h2 with h2 | h2 <;> first | exact .inl h1 | exact .inl h2 | exact .inr ⟨h2, h1⟩, h3, h4, h5⟩
  · rintro ⟨h1, h3, h4, h5⟩
    exact ⟨by rcases h1 with h1 | h1 <;> first | exact .inl h1 | exact .inr h1.2, by rcases h1 with h1 | h1 <;> first | exact .inl h1 | exact .inr h1.1, h3, h4, h5⟩
theorem shape_k_var (hk : x.kind = 1) : Shape x ↔ (0 < x.name.size) ∧ (Leaf x) ∧ (NoNumber x) := by
  rw [shape_is]
  simp only [hk, Leaf]
  generalize NoNumber x = q1
  generalize bigFaultB x.minus x.limbs = q2
  generalize namesOk x.names = q3
  generalize PrimPos x = q5
  generalize PrimFit x = q6
  generalize consOk x.alts = q7
  constructor
  · intro h; grind
  · intro h; grind
theorem shape_k_num (hk : x.kind = 2) : Shape x ↔ (x.name.size = 0) ∧ (Leaf x) ∧ (bigFaultB x.minus x.limbs = false) := by
  rw [shape_is]
  simp only [hk, Leaf]
  generalize NoNumber x = q1
  generalize bigFaultB x.minus x.limbs = q2
  generalize namesOk x.names = q3
  generalize PrimPos x = q5
  generalize PrimFit x = q6
  generalize consOk x.alts = q7
  constructor
  · intro h; grind
  · intro h; grind
theorem shape_k_char (hk : x.kind = 3) : Shape x ↔ (x.name.size = 1) ∧ (Leaf x) ∧ (NoNumber x) := by
  rw [shape_is]
  simp only [hk, Leaf]
  generalize NoNumber x = q1
  generalize bigFaultB x.minus x.limbs = q2
  generalize namesOk x.names = q3
  generalize PrimPos x = q5
  generalize PrimFit x = q6
  generalize consOk x.alts = q7
  constructor
  · intro h; grind
  · intro h; grind
theorem shape_k_con (hk : x.kind = 4) : Shape x ↔ (0 < x.name.size) ∧ (x.names.length = 0) ∧ (x.alts.length = 0) ∧ (NoNumber x) := by
  rw [shape_is]
  simp only [hk, Leaf]
  generalize NoNumber x = q1
  generalize bigFaultB x.minus x.limbs = q2
  generalize namesOk x.names = q3
  generalize PrimPos x = q5
  generalize PrimFit x = q6
  generalize consOk x.alts = q7
  constructor
  · intro h; grind
  · intro h; grind
theorem shape_k_app (hk : x.kind = 5) : Shape x ↔ (x.name.size = 0) ∧ (2 ≤ x.kids.length) ∧ (x.names.length = 0) ∧ (x.alts.length = 0) ∧ (NoNumber x) := by
  rw [shape_is]
  simp only [hk, Leaf]
  generalize NoNumber x = q1
  generalize bigFaultB x.minus x.limbs = q2
  generalize namesOk x.names = q3
  generalize PrimPos x = q5
  generalize PrimFit x = q6
  generalize consOk x.alts = q7
  constructor
  · intro h; grind
  · intro h; grind
theorem shape_k_lam (hk : x.kind = 6) : Shape x ↔ (x.name.size = 0) ∧ (x.kids.length = 1) ∧ (0 < x.names.length) ∧ (namesOk x.names) ∧ (x.alts.length = 0) ∧ (NoNumber x) := by
  rw [shape_is]
  simp only [hk, Leaf]
  generalize NoNumber x = q1
  generalize bigFaultB x.minus x.limbs = q2
  generalize namesOk x.names = q3
  generalize PrimPos x = q5
  generalize PrimFit x = q6
  generalize consOk x.alts = q7
  constructor
  · intro h; grind
  · intro h; grind
theorem shape_k_let (hk : x.kind = 7) : Shape x ↔ (x.name.size = 0) ∧ (0 < x.names.length) ∧ (x.kids.length = x.names.length + 1) ∧ (namesOk x.names) ∧ (x.alts.length = 0) ∧ (NoNumber x) := by
  rw [shape_is]
  simp only [hk, Leaf]
  generalize NoNumber x = q1
  generalize bigFaultB x.minus x.limbs = q2
  generalize namesOk x.names = q3
  generalize PrimPos x = q5
  generalize PrimFit x = q6
  generalize consOk x.alts = q7
  constructor
  · intro h; grind
  · intro h; grind
theorem shape_k_case (hk : x.kind = 8) : Shape x ↔ (x.names.length = 0) ∧ (NoNumber x) ∧ (1 ≤ x.kids.length) ∧ (x.kids.length ≤ 2) ∧ (2 ≤ x.kids.length + x.alts.length) ∧ (∀ a ∈ x.alts, namesOk a.names) ∧ namesOk (x.alts.map (·.con)) := by
  rw [shape_is, consOk_iff]
  simp only [hk, Leaf]
  generalize NoNumber x = q1
  generalize bigFaultB x.minus x.limbs = q2
  generalize namesOk x.names = q3
  generalize PrimPos x = q5
  generalize PrimFit x = q6
  generalize (∀ a ∈ x.alts, namesOk a.names) = q7
  generalize namesOk (x.alts.map (·.con)) = q8
  constructor
  · intro h; grind
  · intro h; grind
theorem shape_k_prim (hk : x.kind = 9) : Shape x ↔ (PrimPos x) ∧ (PrimFit x) ∧ (x.names.length = 0) ∧ (x.alts.length = 0) ∧ (NoNumber x) := by
  rw [shape_is]
  simp only [hk, Leaf]
  generalize NoNumber x = q1
  generalize bigFaultB x.minus x.limbs = q2
  generalize namesOk x.names = q3
  generalize PrimPos x = q5
  generalize PrimFit x = q6
  generalize consOk x.alts = q7
  constructor
  · intro h; grind
  · intro h; grind
theorem shape_k_text (hk : x.kind = 10) : Shape x ↔ (0 < x.name.size) ∧ (x.name.size ≤ 60000) ∧ (Leaf x) ∧ (NoNumber x) := by
  rw [shape_is]
  simp only [hk, Leaf]
  generalize NoNumber x = q1
  generalize bigFaultB x.minus x.limbs = q2
  generalize namesOk x.names = q3
  generalize PrimPos x = q5
  generalize PrimFit x = q6
  generalize consOk x.alts = q7
  constructor
  · intro h; grind
  · intro h; grind
theorem shape_k_no (h : ¬ (1 ≤ x.kind ∧ x.kind ≤ 10)) : ¬ Shape x := by
  rw [shape_is]
  intro hs
  omega
end
section
variable {S w : World} {x : CoreT} {p : Addr}
set_option maxRecDepth 100000 in
set_option maxHeartbeats 1000000 in
theorem termOf_var (hat : At w x p) (hk : x.kind = 1) : Calls Try.prog 54 #[.pointer (some p)] w fun e w' => e = .returned (.iface 112 (.agg #[.pointer (some p)])) ∧ Below w.heap.size w w' := by
  obtain ⟨A3, c3, A4, c4, A5, c5, A6, c6, hK, g0, g1, g2, g3, g4, g5, g6⟩ := hat
  clear hK g1 g2 g3 g4 g5 g6
  have HB := Lib.hid (grown_box w (.cells #[.pointer (some p)] 110))
  replace g0 := cell_later' HB.out g0
  rw [hk] at g0
  go_enter Try.func54, Try.ntmps54
  go_wp2
  go_ret
  exact ⟨rfl, HB.out⟩
set_option maxRecDepth 100000 in
set_option maxHeartbeats 1000000 in
theorem termOf_num (hat : At w x p) (hk : x.kind = 2) : Calls Try.prog 54 #[.pointer (some p)] w fun e w' => e = .returned (.iface 113 (.agg #[.pointer (some p)])) ∧ Below w.heap.size w w' := by
  obtain ⟨A3, c3, A4, c4, A5, c5, A6, c6, hK, g0, g1, g2, g3, g4, g5, g6⟩ := hat
  clear hK g1 g2 g3 g4 g5 g6
  have HB := Lib.hid (grown_box w (.cells #[.pointer (some p)] 110))
  replace g0 := cell_later' HB.out g0
  rw [hk] at g0
  go_enter Try.func54, Try.ntmps54
  go_wp2
  go_ret
  exact ⟨rfl, HB.out⟩
set_option maxRecDepth 100000 in
set_option maxHeartbeats 1000000 in
theorem termOf_char (hat : At w x p) (hk : x.kind = 3) : Calls Try.prog 54 #[.pointer (some p)] w fun e w' => e = .returned (.iface 114 (.agg #[.pointer (some p)])) ∧ Below w.heap.size w w' := by
  obtain ⟨A3, c3, A4, c4, A5, c5, A6, c6, hK, g0, g1, g2, g3, g4, g5, g6⟩ := hat
  clear hK g1 g2 g3 g4 g5 g6
  have HB := Lib.hid (grown_box w (.cells #[.pointer (some p)] 110))
  replace g0 := cell_later' HB.out g0
  rw [hk] at g0
  go_enter Try.func54, Try.ntmps54
  go_wp2
  go_ret
  exact ⟨rfl, HB.out⟩
set_option maxRecDepth 100000 in
set_option maxHeartbeats 1000000 in
theorem termOf_con (hat : At w x p) (hk : x.kind = 4) : Calls Try.prog 54 #[.pointer (some p)] w fun e w' => e = .returned (.iface 115 (.agg #[.pointer (some p)])) ∧ Below w.heap.size w w' := by
  obtain ⟨A3, c3, A4, c4, A5, c5, A6, c6, hK, g0, g1, g2, g3, g4, g5, g6⟩ := hat
  clear hK g1 g2 g3 g4 g5 g6
  have HB := Lib.hid (grown_box w (.cells #[.pointer (some p)] 110))
  replace g0 := cell_later' HB.out g0
  rw [hk] at g0
  go_enter Try.func54, Try.ntmps54
  go_wp2
  go_ret
  exact ⟨rfl, HB.out⟩
set_option maxRecDepth 100000 in
set_option maxHeartbeats 1000000 in
theorem termOf_app (hat : At w x p) (hk : x.kind = 5) : Calls Try.prog 54 #[.pointer (some p)] w fun e w' => e = .returned (.iface 116 (.agg #[.pointer (some p)])) ∧ Below w.heap.size w w' := by
  obtain ⟨A3, c3, A4, c4, A5, c5, A6, c6, hK, g0, g1, g2, g3, g4, g5, g6⟩ := hat
  clear hK g1 g2 g3 g4 g5 g6
  have HB := Lib.hid (grown_box w (.cells #[.pointer (some p)] 110))
  replace g0 := cell_later' HB.out g0
  rw [hk] at g0
  go_enter Try.func54, Try.ntmps54
  go_wp2
  go_ret
  exact ⟨rfl, HB.out⟩
set_option maxRecDepth 100000 in
set_option maxHeartbeats 1000000 in
theorem termOf_lam (hat : At w x p) (hk : x.kind = 6) : Calls Try.prog 54 #[.pointer (some p)] w fun e w' => e = .returned (.iface 117 (.agg #[.pointer (some p)])) ∧ Below w.heap.size w w' := by
  obtain ⟨A3, c3, A4, c4, A5, c5, A6, c6, hK, g0, g1, g2, g3, g4, g5, g6⟩ := hat
  clear hK g1 g2 g3 g4 g5 g6
  have HB := Lib.hid (grown_box w (.cells #[.pointer (some p)] 110))
  replace g0 := cell_later' HB.out g0
  rw [hk] at g0
  go_enter Try.func54, Try.ntmps54
  go_wp2
  go_ret
  exact ⟨rfl, HB.out⟩
set_option maxRecDepth 100000 in
set_option maxHeartbeats 1000000 in
theorem termOf_let (hat : At w x p) (hk : x.kind = 7) : Calls Try.prog 54 #[.pointer (some p)] w fun e w' => e = .returned (.iface 118 (.agg #[.pointer (some p)])) ∧ Below w.heap.size w w' := by
  obtain ⟨A3, c3, A4, c4, A5, c5, A6, c6, hK, g0, g1, g2, g3, g4, g5, g6⟩ := hat
  clear hK g1 g2 g3 g4 g5 g6
  have HB := Lib.hid (grown_box w (.cells #[.pointer (some p)] 110))
  replace g0 := cell_later' HB.out g0
  rw [hk] at g0
  go_enter Try.func54, Try.ntmps54
  go_wp2
  go_ret
  exact ⟨rfl, HB.out⟩
set_option maxRecDepth 100000 in
set_option maxHeartbeats 1000000 in
theorem termOf_case (hat : At w x p) (hk : x.kind = 8) : Calls Try.prog 54 #[.pointer (some p)] w fun e w' => e = .returned (.iface 119 (.agg #[.pointer (some p)])) ∧ Below w.heap.size w w' := by
  obtain ⟨A3, c3, A4, c4, A5, c5, A6, c6, hK, g0, g1, g2, g3, g4, g5, g6⟩ := hat
  clear hK g1 g2 g3 g4 g5 g6
  have HB := Lib.hid (grown_box w (.cells #[.pointer (some p)] 110))
  replace g0 := cell_later' HB.out g0
  rw [hk] at g0
  go_enter Try.func54, Try.ntmps54
  go_wp2
  go_ret
  exact ⟨rfl, HB.out⟩
set_option maxRecDepth 100000 in
set_option maxHeartbeats 1000000 in
theorem termOf_prim (hat : At w x p) (hk : x.kind = 9) : Calls Try.prog 54 #[.pointer (some p)] w fun e w' => e = .returned (.iface 120 (.agg #[.pointer (some p)])) ∧ Below w.heap.size w w' := by
  obtain ⟨A3, c3, A4, c4, A5, c5, A6, c6, hK, g0, g1, g2, g3, g4, g5, g6⟩ := hat
  clear hK g1 g2 g3 g4 g5 g6
  have HB := Lib.hid (grown_box w (.cells #[.pointer (some p)] 110))
  replace g0 := cell_later' HB.out g0
  rw [hk] at g0
  go_enter Try.func54, Try.ntmps54
  go_wp2
  go_ret
  exact ⟨rfl, HB.out⟩
set_option maxRecDepth 100000 in
set_option maxHeartbeats 1000000 in
theorem termOf_text (hat : At w x p) (hk : x.kind = 10) : Calls Try.prog 54 #[.pointer (some p)] w fun e w' => e = .returned (.iface 121 (.agg #[.pointer (some p)])) ∧ Below w.heap.size w w' := by
  obtain ⟨A3, c3, A4, c4, A5, c5, A6, c6, hK, g0, g1, g2, g3, g4, g5, g6⟩ := hat
  clear hK g1 g2 g3 g4 g5 g6
  have HB := Lib.hid (grown_box w (.cells #[.pointer (some p)] 110))
  replace g0 := cell_later' HB.out g0
  rw [hk] at g0
  go_enter Try.func54, Try.ntmps54
  go_wp2
  go_ret
  exact ⟨rfl, HB.out⟩
set_option maxRecDepth 100000 in
set_option maxHeartbeats 1000000 in
theorem termOf_no (hat : At w x p) (h : ¬ (1 ≤ x.kind ∧ x.kind ≤ 10)) : Calls Try.prog 54 #[.pointer (some p)] w fun e w' => e = .returned (.iface 122 (.agg #[.pointer (some p)])) ∧ Below w.heap.size w w' := by
  obtain ⟨A3, c3, A4, c4, A5, c5, A6, c6, hK, g0, g1, g2, g3, g4, g5, g6⟩ := hat
  clear hK g1 g2 g3 g4 g5 g6
  have HB := Lib.hid (grown_box w (.cells #[.pointer (some p)] 110))
  replace g0 := cell_later' HB.out g0
  have q1 : (x.kind == 1) = false := beq_eq_false_iff_ne.2 (by omega)
  have q2 : (x.kind == 2) = false := beq_eq_false_iff_ne.2 (by omega)
  have q3 : (x.kind == 3) = false := beq_eq_false_iff_ne.2 (by omega)
  have q4 : (x.kind == 4) = false := beq_eq_false_iff_ne.2 (by omega)
  have q5 : (x.kind == 5) = false := beq_eq_false_iff_ne.2 (by omega)
  have q6 : (x.kind == 6) = false := beq_eq_false_iff_ne.2 (by omega)
  have q7 : (x.kind == 7) = false := beq_eq_false_iff_ne.2 (by omega)
  have q8 : (x.kind == 8) = false := beq_eq_false_iff_ne.2 (by omega)
  have q9 : (x.kind == 9) = false := beq_eq_false_iff_ne.2 (by omega)
  have q10 : (x.kind == 10) = false := beq_eq_false_iff_ne.2 (by omega)
  clear h
  go_enter Try.func54, Try.ntmps54
  go_wp2
  go_ret
  exact ⟨rfl, HB.out⟩
end
/-- all parts so far fit; one does not -/
def FitI (S : World) (l : List (CoreT × Int)) (w : World) : Prop := Below S.heap.size S w ∧ ∀ q ∈ l, Shape q.1
def FitQ (S : World) (l : List (CoreT × Int)) (w : World) : Prop := Below S.heap.size S w ∧ ∃ q ∈ l, ¬ Shape q.1
theorem fit_end {S w' w : World} {l : List (CoreT × Int)} {y : CoreT} {d : Int} {e : Ending} {b : Bool} (hI : FitI S l w) (hb : Below w.heap.size w w') (he : e = .returned (.bool b)) (hs : b = dec (Shape y)) :
    (e = .returned (.bool true) ∧ FitI S (l ++ [(y, d)]) w') ∨ (e = .returned (.bool false) ∧ FitQ S (l ++ [(y, d)]) w') := by
  by_cases h : Shape y
  · rw [dec_true h] at hs
    refine .inl ⟨by rw [he, hs], Below.step hI.1 hb, fun q hq => ?_⟩
    rcases List.mem_append.1 hq with hq | hq
    · exact hI.2 q hq
    · rw [List.mem_singleton.1 hq]; exact h
  · rw [dec_false h] at hs
    exact .inr ⟨by rw [he, hs], Below.step hI.1 hb, (y, d), by simp, h⟩
set_option maxRecDepth 100000 in
set_option maxHeartbeats 1000000 in
theorem sees_var (S : World) (l : List (CoreT × Int)) (y : CoreT) (d : Int) (p : Addr) (w : World) (hI : FitI S l w) (hat : At S y p) (hbk : bulk y ≤ 1048576) (hk : y.kind = 1) :
    Calls Try.prog 53 #[.pointer (some p), .int .i64 d] w fun e w' => (e = .returned (.bool true) ∧ FitI S (l ++ [(y, d)]) w') ∨ (e = .returned (.bool false) ∧ FitQ S (l ++ [(y, d)]) w') := by
  have HAT := Lib.hid (hat.later hI.1)
  have HI := Lib.hid hI
  have HBK := Lib.hid hbk
  have HKV := Lib.hid hk
  clear hat hI hbk hk
  go_enter Try.func53, Try.ntmps53
  go_wp2_with fail
  refine (termOf_var HAT.out HKV.out).mono ?_
  rintro e w2 ⟨rfl, hb2⟩
  have HB2 := Lib.hid hb2; clear hb2
  go_wp2_with fail
  refine (ans_var (HAT.out.later HB2.out) HBK.out).mono ?_
  rintro e w3 ⟨rfl, hb3⟩
  have HB3 := Lib.hid (Below.step HB2.out hb3); clear hb3
  obtain ⟨b, hb⟩ : ∃ b, b = dec ((0 < y.name.size) ∧ (Leaf y) ∧ (NoNumber y)) := ⟨_, rfl⟩
  rw [← hb]
  have HBV := Lib.hid hb; clear hb
  go_wp2
  go_ret
  exact fit_end HI.out HB3.out rfl (by rw [HBV.out]; exact dec_congr (shape_k_var HKV.out).symm)
set_option maxRecDepth 100000 in
set_option maxHeartbeats 1000000 in
theorem sees_num (S : World) (l : List (CoreT × Int)) (y : CoreT) (d : Int) (p : Addr) (w : World) (hI : FitI S l w) (hat : At S y p) (hbk : bulk y ≤ 1048576) (hk : y.kind = 2) :
    Calls Try.prog 53 #[.pointer (some p), .int .i64 d] w fun e w' => (e = .returned (.bool true) ∧ FitI S (l ++ [(y, d)]) w') ∨ (e = .returned (.bool false) ∧ FitQ S (l ++ [(y, d)]) w') := by
  have HAT := Lib.hid (hat.later hI.1)
  have HI := Lib.hid hI
  have HBK := Lib.hid hbk
  have HKV := Lib.hid hk
  clear hat hI hbk hk
  go_enter Try.func53, Try.ntmps53
  go_wp2_with fail
  refine (termOf_num HAT.out HKV.out).mono ?_
  rintro e w2 ⟨rfl, hb2⟩
  have HB2 := Lib.hid hb2; clear hb2
  go_wp2_with fail
  refine (ans_num (HAT.out.later HB2.out) HBK.out).mono ?_
  rintro e w3 ⟨rfl, hb3⟩
  have HB3 := Lib.hid (Below.step HB2.out hb3); clear hb3
  obtain ⟨b, hb⟩ : ∃ b, b = dec ((y.name.size = 0) ∧ (Leaf y) ∧ (bigFaultB y.minus y.limbs = false)) := ⟨_, rfl⟩
  rw [← hb]
  have HBV := Lib.hid hb; clear hb
  go_wp2
  go_ret
  exact fit_end HI.out HB3.out rfl (by rw [HBV.out]; exact dec_congr (shape_k_num HKV.out).symm)
set_option maxRecDepth 100000 in
set_option maxHeartbeats 1000000 in
theorem sees_char (S : World) (l : List (CoreT × Int)) (y : CoreT) (d : Int) (p : Addr) (w : World) (hI : FitI S l w) (hat : At S y p) (hbk : bulk y ≤ 1048576) (hk : y.kind = 3) :
    Calls Try.prog 53 #[.pointer (some p), .int .i64 d] w fun e w' => (e = .returned (.bool true) ∧ FitI S (l ++ [(y, d)]) w') ∨ (e = .returned (.bool false) ∧ FitQ S (l ++ [(y, d)]) w') := by
  have HAT := Lib.hid (hat.later hI.1)
  have HI := Lib.hid hI
  have HBK := Lib.hid hbk
  have HKV := Lib.hid hk
  clear hat hI hbk hk
  go_enter Try.func53, Try.ntmps53
  go_wp2_with fail
  refine (termOf_char HAT.out HKV.out).mono ?_
  rintro e w2 ⟨rfl, hb2⟩
  have HB2 := Lib.hid hb2; clear hb2
  go_wp2_with fail
  refine (ans_char (HAT.out.later HB2.out) HBK.out).mono ?_
  rintro e w3 ⟨rfl, hb3⟩
  have HB3 := Lib.hid (Below.step HB2.out hb3); clear hb3
  obtain ⟨b, hb⟩ : ∃ b, b = dec ((y.name.size = 1) ∧ (Leaf y) ∧ (NoNumber y)) := ⟨_, rfl⟩
  rw [← hb]
  have HBV := Lib.hid hb; clear hb
  go_wp2
  go_ret
  exact fit_end HI.out HB3.out rfl (by rw [HBV.out]; exact dec_congr (shape_k_char HKV.out).symm)
set_option maxRecDepth 100000 in
set_option maxHeartbeats 1000000 in
theorem sees_con (S : World) (l : List (CoreT × Int)) (y : CoreT) (d : Int) (p : Addr) (w : World) (hI : FitI S l w) (hat : At S y p) (hbk : bulk y ≤ 1048576) (hk : y.kind = 4) :
    Calls Try.prog 53 #[.pointer (some p), .int .i64 d] w fun e w' => (e = .returned (.bool true) ∧ FitI S (l ++ [(y, d)]) w') ∨ (e = .returned (.bool false) ∧ FitQ S (l ++ [(y, d)]) w') := by
  have HAT := Lib.hid (hat.later hI.1)
  have HI := Lib.hid hI
  have HBK := Lib.hid hbk
  have HKV := Lib.hid hk
  clear hat hI hbk hk
  go_enter Try.func53, Try.ntmps53
  go_wp2_with fail
  refine (termOf_con HAT.out HKV.out).mono ?_
  rintro e w2 ⟨rfl, hb2⟩
  have HB2 := Lib.hid hb2; clear hb2
  go_wp2_with fail
  refine (ans_con (HAT.out.later HB2.out) HBK.out).mono ?_
  rintro e w3 ⟨rfl, hb3⟩
  have HB3 := Lib.hid (Below.step HB2.out hb3); clear hb3
  obtain ⟨b, hb⟩ : ∃ b, b = dec ((0 < y.name.size) ∧ (y.names.length = 0) ∧ (y.alts.length = 0) ∧ (NoNumber y)) := ⟨_, rfl⟩
  rw [← hb]
  have HBV := Lib.hid hb; clear hb
  go_wp2
  go_ret
  exact fit_end HI.out HB3.out rfl (by rw [HBV.out]; exact dec_congr (shape_k_con HKV.out).symm)
set_option maxRecDepth 100000 in
set_option maxHeartbeats 1000000 in
theorem sees_app (S : World) (l : List (CoreT × Int)) (y : CoreT) (d : Int) (p : Addr) (w : World) (hI : FitI S l w) (hat : At S y p) (hbk : bulk y ≤ 1048576) (hk : y.kind = 5) :
    Calls Try.prog 53 #[.pointer (some p), .int .i64 d] w fun e w' => (e = .returned (.bool true) ∧ FitI S (l ++ [(y, d)]) w') ∨ (e = .returned (.bool false) ∧ FitQ S (l ++ [(y, d)]) w') := by
  have HAT := Lib.hid (hat.later hI.1)
  have HI := Lib.hid hI
  have HBK := Lib.hid hbk
  have HKV := Lib.hid hk
  clear hat hI hbk hk
  go_enter Try.func53, Try.ntmps53
  go_wp2_with fail
  refine (termOf_app HAT.out HKV.out).mono ?_
  rintro e w2 ⟨rfl, hb2⟩
  have HB2 := Lib.hid hb2; clear hb2
  go_wp2_with fail
  refine (ans_app (HAT.out.later HB2.out) HBK.out).mono ?_
  rintro e w3 ⟨rfl, hb3⟩
  have HB3 := Lib.hid (Below.step HB2.out hb3); clear hb3
  obtain ⟨b, hb⟩ : ∃ b, b = dec ((y.name.size = 0) ∧ (2 ≤ y.kids.length) ∧ (y.names.length = 0) ∧ (y.alts.length = 0) ∧ (NoNumber y)) := ⟨_, rfl⟩
  rw [← hb]
  have HBV := Lib.hid hb; clear hb
  go_wp2
  go_ret
  exact fit_end HI.out HB3.out rfl (by rw [HBV.out]; exact dec_congr (shape_k_app HKV.out).symm)
set_option maxRecDepth 100000 in
set_option maxHeartbeats 1000000 in
theorem sees_lam (S : World) (l : List (CoreT × Int)) (y : CoreT) (d : Int) (p : Addr) (w : World) (hI : FitI S l w) (hat : At S y p) (hbk : bulk y ≤ 1048576) (hk : y.kind = 6) :
    Calls Try.prog 53 #[.pointer (some p), .int .i64 d] w fun e w' => (e = .returned (.bool true) ∧ FitI S (l ++ [(y, d)]) w') ∨ (e = .returned (.bool false) ∧ FitQ S (l ++ [(y, d)]) w') := by
  have HAT := Lib.hid (hat.later hI.1)
  have HI := Lib.hid hI
  have HBK := Lib.hid hbk
  have HKV := Lib.hid hk
  clear hat hI hbk hk
  go_enter Try.func53, Try.ntmps53
  go_wp2_with fail
  refine (termOf_lam HAT.out HKV.out).mono ?_
  rintro e w2 ⟨rfl, hb2⟩
  have HB2 := Lib.hid hb2; clear hb2
  go_wp2_with fail
  refine (ans_lam (HAT.out.later HB2.out) HBK.out).mono ?_
  rintro e w3 ⟨rfl, hb3⟩
  have HB3 := Lib.hid (Below.step HB2.out hb3); clear hb3
  obtain ⟨b, hb⟩ : ∃ b, b = dec ((y.name.size = 0) ∧ (y.kids.length = 1) ∧ (0 < y.names.length) ∧ (namesOk y.names) ∧ (y.alts.length = 0) ∧ (NoNumber y)) := ⟨_, rfl⟩
  rw [← hb]
  have HBV := Lib.hid hb; clear hb
  go_wp2
  go_ret
  exact fit_end HI.out HB3.out rfl (by rw [HBV.out]; exact dec_congr (shape_k_lam HKV.out).symm)
set_option maxRecDepth 100000 in
set_option maxHeartbeats 1000000 in
theorem sees_let (S : World) (l : List (CoreT × Int)) (y : CoreT) (d : Int) (p : Addr) (w : World) (hI : FitI S l w) (hat : At S y p) (hbk : bulk y ≤ 1048576) (hk : y.kind = 7) :
    Calls Try.prog 53 #[.pointer (some p), .int .i64 d] w fun e w' => (e = .returned (.bool true) ∧ FitI S (l ++ [(y, d)]) w') ∨ (e = .returned (.bool false) ∧ FitQ S (l ++ [(y, d)]) w') := by
  have HAT := Lib.hid (hat.later hI.1)
  have HI := Lib.hid hI
  have HBK := Lib.hid hbk
  have HKV := Lib.hid hk
  clear hat hI hbk hk
  go_enter Try.func53, Try.ntmps53
  go_wp2_with fail
  refine (termOf_let HAT.out HKV.out).mono ?_
  rintro e w2 ⟨rfl, hb2⟩
  have HB2 := Lib.hid hb2; clear hb2
  go_wp2_with fail
  refine (ans_let (HAT.out.later HB2.out) HBK.out).mono ?_
  rintro e w3 ⟨rfl, hb3⟩
  have HB3 := Lib.hid (Below.step HB2.out hb3); clear hb3
  obtain ⟨b, hb⟩ : ∃ b, b = dec ((y.name.size = 0) ∧ (0 < y.names.length) ∧ (y.kids.length = y.names.length + 1) ∧ (namesOk y.names) ∧ (y.alts.length = 0) ∧ (NoNumber y)) := ⟨_, rfl⟩
  rw [← hb]
  have HBV := Lib.hid hb; clear hb
  go_wp2
  go_ret
  exact fit_end HI.out HB3.out rfl (by rw [HBV.out]; exact dec_congr (shape_k_let HKV.out).symm)
set_option maxRecDepth 100000 in
set_option maxHeartbeats 1000000 in
theorem sees_case (S : World) (l : List (CoreT × Int)) (y : CoreT) (d : Int) (p : Addr) (w : World) (hI : FitI S l w) (hat : At S y p) (hbk : bulk y ≤ 1048576) (hk : y.kind = 8) :
    Calls Try.prog 53 #[.pointer (some p), .int .i64 d] w fun e w' => (e = .returned (.bool true) ∧ FitI S (l ++ [(y, d)]) w') ∨ (e = .returned (.bool false) ∧ FitQ S (l ++ [(y, d)]) w') := by
  have HAT := Lib.hid (hat.later hI.1)
  have HI := Lib.hid hI
  have HBK := Lib.hid hbk
  have HKV := Lib.hid hk
  clear hat hI hbk hk
  go_enter Try.func53, Try.ntmps53
  go_wp2_with fail
  refine (termOf_case HAT.out HKV.out).mono ?_
  rintro e w2 ⟨rfl, hb2⟩
  have HB2 := Lib.hid hb2; clear hb2
  go_wp2_with fail
  refine (ans_case (HAT.out.later HB2.out) HBK.out).mono ?_
  rintro e w3 ⟨rfl, hb3⟩
  have HB3 := Lib.hid (Below.step HB2.out hb3); clear hb3
  obtain ⟨b, hb⟩ : ∃ b, b = dec ((y.names.length = 0) ∧ (NoNumber y) ∧ (1 ≤ y.kids.length) ∧ (y.kids.length ≤ 2) ∧ (2 ≤ y.kids.length + y.alts.length) ∧ (∀ a ∈ y.alts, namesOk a.names) ∧ namesOk (y.alts.map (·.con))) := ⟨_, rfl⟩
  rw [← hb]
  have HBV := Lib.hid hb; clear hb
  go_wp2
  go_ret
  exact fit_end HI.out HB3.out rfl (by rw [HBV.out]; exact dec_congr (shape_k_case HKV.out).symm)
set_option maxRecDepth 100000 in
set_option maxHeartbeats 1000000 in
theorem sees_prim (S : World) (l : List (CoreT × Int)) (y : CoreT) (d : Int) (p : Addr) (w : World) (hI : FitI S l w) (hat : At S y p) (hbk : bulk y ≤ 1048576) (hk : y.kind = 9) :
    Calls Try.prog 53 #[.pointer (some p), .int .i64 d] w fun e w' => (e = .returned (.bool true) ∧ FitI S (l ++ [(y, d)]) w') ∨ (e = .returned (.bool false) ∧ FitQ S (l ++ [(y, d)]) w') := by
  have HAT := Lib.hid (hat.later hI.1)
  have HI := Lib.hid hI
  have HBK := Lib.hid hbk
  have HKV := Lib.hid hk
  clear hat hI hbk hk
  go_enter Try.func53, Try.ntmps53
  go_wp2_with fail
  refine (termOf_prim HAT.out HKV.out).mono ?_
  rintro e w2 ⟨rfl, hb2⟩
  have HB2 := Lib.hid hb2; clear hb2
  go_wp2_with fail
  refine (ans_prim (HAT.out.later HB2.out) HBK.out).mono ?_
  rintro e w3 ⟨rfl, hb3⟩
  have HB3 := Lib.hid (Below.step HB2.out hb3); clear hb3
  obtain ⟨b, hb⟩ : ∃ b, b = dec ((PrimPos y) ∧ (PrimFit y) ∧ (y.names.length = 0) ∧ (y.alts.length = 0) ∧ (NoNumber y)) := ⟨_, rfl⟩
  rw [← hb]
  have HBV := Lib.hid hb; clear hb
  go_wp2
  go_ret
  exact fit_end HI.out HB3.out rfl (by rw [HBV.out]; exact dec_congr (shape_k_prim HKV.out).symm)
set_option maxRecDepth 100000 in
set_option maxHeartbeats 1000000 in
theorem sees_text (S : World) (l : List (CoreT × Int)) (y : CoreT) (d : Int) (p : Addr) (w : World) (hI : FitI S l w) (hat : At S y p) (hbk : bulk y ≤ 1048576) (hk : y.kind = 10) :
    Calls Try.prog 53 #[.pointer (some p), .int .i64 d] w fun e w' => (e = .returned (.bool true) ∧ FitI S (l ++ [(y, d)]) w') ∨ (e = .returned (.bool false) ∧ FitQ S (l ++ [(y, d)]) w') := by
  have HAT := Lib.hid (hat.later hI.1)
  have HI := Lib.hid hI
  have HBK := Lib.hid hbk
  have HKV := Lib.hid hk
  clear hat hI hbk hk
  go_enter Try.func53, Try.ntmps53
  go_wp2_with fail
  refine (termOf_text HAT.out HKV.out).mono ?_
  rintro e w2 ⟨rfl, hb2⟩
  have HB2 := Lib.hid hb2; clear hb2
  go_wp2_with fail
  refine (ans_text (HAT.out.later HB2.out) HBK.out).mono ?_
  rintro e w3 ⟨rfl, hb3⟩
  have HB3 := Lib.hid (Below.step HB2.out hb3); clear hb3
  obtain ⟨b, hb⟩ : ∃ b, b = dec ((0 < y.name.size) ∧ (y.name.size ≤ 60000) ∧ (Leaf y) ∧ (NoNumber y)) := ⟨_, rfl⟩
  rw [← hb]
  have HBV := Lib.hid hb; clear hb
  go_wp2
  go_ret
  exact fit_end HI.out HB3.out rfl (by rw [HBV.out]; exact dec_congr (shape_k_text HKV.out).symm)
set_option maxRecDepth 100000 in
set_option maxHeartbeats 1000000 in
theorem sees_no (S : World) (l : List (CoreT × Int)) (y : CoreT) (d : Int) (p : Addr) (w : World) (hI : FitI S l w) (hat : At S y p) (hbk : bulk y ≤ 1048576) (h : ¬ (1 ≤ y.kind ∧ y.kind ≤ 10)) :
    Calls Try.prog 53 #[.pointer (some p), .int .i64 d] w fun e w' => (e = .returned (.bool true) ∧ FitI S (l ++ [(y, d)]) w') ∨ (e = .returned (.bool false) ∧ FitQ S (l ++ [(y, d)]) w') := by
  have HAT := Lib.hid (hat.later hI.1)
  have HI := Lib.hid hI
  have HBK := Lib.hid hbk
  have HKV := Lib.hid h
  clear hat hI hbk h
  go_enter Try.func53, Try.ntmps53
  go_wp2_with fail
  refine (termOf_no HAT.out HKV.out).mono ?_
  rintro e w2 ⟨rfl, hb2⟩
  have HB2 := Lib.hid hb2; clear hb2
  go_wp2_with fail
  refine (ans_no).mono ?_
  rintro e w3 ⟨rfl, hb3⟩
  have HB3 := Lib.hid (Below.step HB2.out hb3); clear hb3
  obtain ⟨b, hb⟩ : ∃ b, b = false := ⟨_, rfl⟩
  rw [← hb]
  have HBV := Lib.hid hb; clear hb
  go_wp2
  go_ret
  exact fit_end HI.out HB3.out rfl (by rw [HBV.out]; exact (dec_false (shape_k_no HKV.out)).symm)
theorem fit_sees (S : World) : Sees S 53 #[] (FitI S) (FitQ S) := by
  intro l y d p w hI hat hbk hd1 hd2
  show Calls _ _ #[.pointer (some p), .int .i64 d] _ _
  by_cases h : 1 ≤ y.kind ∧ y.kind ≤ 10
  · rcases (by omega : y.kind = 1 ∨ y.kind = 2 ∨ y.kind = 3 ∨ y.kind = 4 ∨ y.kind = 5 ∨ y.kind = 6 ∨ y.kind = 7 ∨ y.kind = 8 ∨ y.kind = 9 ∨ y.kind = 10) with hk | hk | hk | hk | hk | hk | hk | hk | hk | hk
    · exact sees_var S l y d p w hI hat hbk hk
    · exact sees_num S l y d p w hI hat hbk hk
    · exact sees_char S l y d p w hI hat hbk hk
    · exact sees_con S l y d p w hI hat hbk hk
    · exact sees_app S l y d p w hI hat hbk hk
    · exact sees_lam S l y d p w hI hat hbk hk
    · exact sees_let S l y d p w hI hat hbk hk
    · exact sees_case S l y d p w hI hat hbk hk
    · exact sees_prim S l y d p w hI hat hbk hk
    · exact sees_text S l y d p w hI hat hbk hk
  · exact sees_no S l y d p w hI hat hbk h
end Go.Proofs.Ytagfphlhahiplaa.C13
namespace Go.Proofs.Ytagfphlhahiplaa.C13
open Go.RowKit Go.Proofs.YtagfphlhahiplaaW.PrintWords Go.Proofs.Ytagfphlhahiplaa.PFnExactFormatCore
set_option linter.unusedVariables false
set_option linter.unusedSimpArgs false
theorem adds_le (x : CoreT) : adds x ≤ 1 + x.names.length + anames x.alts := by
  unfold adds; split <;> omega
theorem adds_eq {x : CoreT} (h : Shape x) : adds x = 1 + x.names.length + anames x.alts := by
  unfold adds
  split
  · rfl
  · rename_i hk
    have := h.2.2.2.1
    omega
theorem kparts_le {l : List CoreT} (h : ∀ y ∈ l, ∀ d, cnt (parts y d) ≤ total y) (d : Int) : cnt (parts.kparts l d) ≤ totals l := by
  induction l with
  | nil => simp [parts.kparts, cnt]
  | cons c r ih =>
    rw [parts.kparts, cnt_app, totals]
    have := h c (by simp) d
    have := ih (fun y hy => h y (by simp [hy]))
    omega
theorem aparts_le {l : List AltT} (h : ∀ y ∈ l, ∀ d, cnt (parts y.body d) ≤ total y.body) (d : Int) : cnt (parts.aparts l d) ≤ atotals l := by
  induction l with
  | nil => simp [parts.aparts, cnt]
  | cons c r ih =>
    rw [parts.aparts, apart_eq, cnt_app, atotals, atotal_eq]
    have := h c (by simp) d
    have := ih (fun y hy => h y (by simp [hy]))
    omega
theorem cnt_le (x : CoreT) : ∀ d, cnt (parts x d) ≤ total x := by
  refine coreInd (fun x => ∀ d, cnt (parts x d) ≤ total x) (fun c hk ha d => ?_) x
  rw [parts_eq, cnt, cnt_app, total_eq]
  have := kparts_le hk (d + 1)
  have := aparts_le ha (d + 1)
  have := adds_le c
  simp only
  omega
theorem kparts_eqT {l : List CoreT} (h : ∀ y ∈ l, ∀ d, cnt (parts y d) = total y) (d : Int) : cnt (parts.kparts l d) = totals l := by
  induction l with
  | nil => simp [parts.kparts, cnt, totals]
  | cons c r ih =>
    rw [parts.kparts, cnt_app, totals]
    have := h c (by simp) d
    have := ih (fun y hy => h y (by simp [hy]))
    omega
theorem aparts_eqT {l : List AltT} (h : ∀ y ∈ l, ∀ d, cnt (parts y.body d) = total y.body) (d : Int) : cnt (parts.aparts l d) = atotals l := by
  induction l with
  | nil => simp [parts.aparts, cnt, atotals]
  | cons c r ih =>
    rw [parts.aparts, apart_eq, cnt_app, atotals, atotal_eq]
    have := h c (by simp) d
    have := ih (fun y hy => h y (by simp [hy]))
    omega
theorem cnt_total (x : CoreT) : Shapes x → ∀ d, cnt (parts x d) = total x := by
  refine coreInd (fun x => Shapes x → ∀ d, cnt (parts x d) = total x) (fun c hk ha hs d => ?_) x
  rw [Shapes_eq] at hs
  rw [parts_eq, cnt, cnt_app, total_eq]
  have := kparts_eqT (fun y hy => hk y hy (KShapes_iff.1 hs.2.1 y hy)) (d + 1)
  have := aparts_eqT (fun y hy => ha y hy (AShapes_iff.1 hs.2.2 y hy)) (d + 1)
  have := adds_eq hs.1
  simp only
  omega
theorem kparts_dpt {l : List CoreT} (h : ∀ y ∈ l, ∀ d, 1 ≤ d → dpt (parts y d) = d - 1 + dep y) (d : Int) (hd : 1 ≤ d) (hl : l ≠ []) : dpt (parts.kparts l d) = d - 1 + deps l := by
  induction l with
  | nil => exact absurd rfl hl
  | cons c r ih =>
    rw [parts.kparts, dpt_app, deps, h c (by simp) d hd]
    by_cases hr : r = []
    · subst hr; simp only [parts.kparts, dpt, deps]; omega
    · rw [ih (fun y hy => h y (by simp [hy])) hr]; omega
theorem aparts_dpt {l : List AltT} (h : ∀ y ∈ l, ∀ d, 1 ≤ d → dpt (parts y.body d) = d - 1 + dep y.body) (d : Int) (hd : 1 ≤ d) (hl : l ≠ []) : dpt (parts.aparts l d) = d - 1 + adeps l := by
  induction l with
  | nil => exact absurd rfl hl
  | cons c r ih =>
    rw [parts.aparts, apart_eq, dpt_app, adeps, adep_eq, h c (by simp) d hd]
    by_cases hr : r = []
    · subst hr; simp only [parts.aparts, dpt, adeps]; omega
    · rw [ih (fun y hy => h y (by simp [hy])) hr]; omega
theorem dpt_parts (x : CoreT) : ∀ d, 1 ≤ d → dpt (parts x d) = d - 1 + dep x := by
  refine coreInd (fun x => ∀ d, 1 ≤ d → dpt (parts x d) = d - 1 + dep x) (fun c hk ha d hd => ?_) x
  rw [parts_eq, dpt, dpt_app, dep_eq]
  have e1 : dpt (parts.kparts c.kids (d + 1)) = if c.kids = [] then 0 else d + deps c.kids := by
    split
    · rename_i h; rw [h]; simp [parts.kparts, dpt]
    · rename_i h; rw [kparts_dpt hk (d + 1) (by omega) h]; omega
  have e2 : dpt (parts.aparts c.alts (d + 1)) = if c.alts = [] then 0 else d + adeps c.alts := by
    split
    · rename_i h; rw [h]; simp [parts.aparts, dpt]
    · rename_i h; rw [aparts_dpt ha (d + 1) (by omega) h]; omega
  have n1 : c.kids = [] → deps c.kids = 0 := fun h => by rw [h, deps]
  have n2 : c.alts = [] → adeps c.alts = 0 := fun h => by rw [h, adeps]
  rw [e1, e2]
  simp only
  split <;> split <;> (try have := n1 (by assumption)) <;> (try have := n2 (by assumption)) <;> omega
theorem shapes_parts (x : CoreT) : ∀ d, Shapes x ↔ ∀ q ∈ parts x d, Shape q.1 := by
  refine coreInd (fun x => ∀ d, Shapes x ↔ ∀ q ∈ parts x d, Shape q.1) (fun c hk ha d => ?_) x
  rw [Shapes_eq, KShapes_iff, AShapes_iff, parts_eq]
  have e1 : ∀ l : List CoreT, (∀ y ∈ l, ∀ d, Shapes y ↔ ∀ q ∈ parts y d, Shape q.1) → ((∀ y ∈ l, Shapes y) ↔ ∀ q ∈ parts.kparts l (d + 1), Shape q.1) := by
    intro l
    induction l with
    | nil => intro _; simp [parts.kparts]
    | cons a r ih =>
      intro h
      rw [parts.kparts]
      simp only [List.mem_cons, List.mem_append, or_imp, forall_and, forall_eq]
      rw [h a (by simp) (d + 1), ih (fun y hy => h y (by simp [hy]))]
  have e2 : ∀ l : List AltT, (∀ y ∈ l, ∀ d, Shapes y.body ↔ ∀ q ∈ parts y.body d, Shape q.1) → ((∀ y ∈ l, Shapes y.body) ↔ ∀ q ∈ parts.aparts l (d + 1), Shape q.1) := by
    intro l
    induction l with
    | nil => intro _; simp [parts.aparts]
    | cons a r ih =>
      intro h
      rw [parts.aparts, apart_eq]
      simp only [List.mem_cons, List.mem_append, or_imp, forall_and, forall_eq]
      rw [h a (by simp) (d + 1), ih (fun y hy => h y (by simp [hy]))]
  rw [e1 c.kids hk, e2 c.alts ha]
  simp only [List.mem_cons, List.mem_append, or_imp, forall_and, forall_eq]
theorem good_iff (x : CoreT) : Good x ↔ cnt (parts x 1) ≤ 20000 ∧ dpt (parts x 1) ≤ 1000 ∧ ∀ q ∈ parts x 1, Shape q.1 := by
  unfold Good
  rw [dpt_parts x 1 (by omega), ← shapes_parts x 1]
  constructor
  · rintro ⟨h1, h2, h3⟩
    exact ⟨by have := cnt_le x 1; omega, by omega, h3⟩
  · rintro ⟨h1, h2, h3⟩
    exact ⟨by rw [cnt_total x h3 1] at h1; exact h1, by omega, h3⟩
theorem cnt_prefix {l m : List (CoreT × Int)} (h : l <+: m) : cnt l ≤ cnt m ∧ dpt l ≤ dpt m := by
  obtain ⟨r, rfl⟩ := h
  rw [cnt_app, dpt_app]
  omega
theorem dep_bulk (x : CoreT) : dep x ≤ 1 + bulk x := by
  refine coreInd (fun x => dep x ≤ 1 + bulk x) (fun c hk ha => ?_) x
  rw [dep_eq, bulk_eq]
  have e1 : ∀ l : List CoreT, (∀ y ∈ l, dep y ≤ 1 + bulk y) → deps l ≤ bulks l := by
    intro l
    induction l with
    | nil => intro _; simp [deps]
    | cons a r ih =>
      intro h
      rw [deps, bulks]
      have := h a (by simp); have := ih (fun y hy => h y (by simp [hy])); omega
  have e2 : ∀ l : List AltT, (∀ y ∈ l, dep y.body ≤ 1 + bulk y.body) → adeps l ≤ abulks l := by
    intro l
    induction l with
    | nil => intro _; simp [adeps]
    | cons a r ih =>
      intro h
      rw [adeps, adep_eq, abulks, abulk_eq]
      have := h a (by simp); have := ih (fun y hy => h y (by simp [hy])); omega
  have := e1 c.kids hk; have := e2 c.alts ha
  omega
set_option maxRecDepth 100000 in
set_option maxHeartbeats 1000000 in
theorem implFault (x : CoreT) (hbk : bulk x ≤ 1048576) (w : World) (cs : List Value) (hK : IC.K w x cs) :
    Calls Try.prog 24 #[.agg cs.toArray] w (FaultPost x w) := by
  have hmf : ∀ (fn : Fn) (first cap : Array Value) (w : World), (Instr.makeFunc fn first cap).run Try.prog w = .ok (.func fn first cap) w := fun _ _ _ _ => rfl
  obtain ⟨A3, c3, A4, c4, A5, c5, A6, c6, rfl, -⟩ := core_open hK
  have HKK := Lib.hid hK
  have HBK := Lib.hid hbk
  have HD := Lib.hid (dep_bulk x)
  clear hK hbk
  simp only [cellsC]
  go_enter Try.func24, Try.ntmps24
  go_wp2_with fail
  obtain ⟨W1, hW1, hp1, hB1, hs1⟩ := boxed w [.int .i64 x.kind, .string x.name, .bool x.minus, .slice A3 x.limbs.length c3, .slice A4 x.names.length c4, .slice A5 x.kids.length c5, .slice A6 x.alts.length c6] 36
  obtain ⟨W2, hW2, hp2, hB2, hs2⟩ := boxed W1 [.int .i64 0] 3
  obtain ⟨W3, hW3, hp3, hB3, hs3⟩ := boxed W2 [.int .i64 0] 3
  rw [← hW1, ← hW2, ← hW3]
  rw [hs1] at hp2 hs2
  rw [hs2] at hp3
  have hat : At W1 x ⟨w.heap.size, 0, none⟩ := ⟨A3, c3, A4, c4, A5, c5, A6, c6, (kCore _ _).K_below hB1 HKK.out, hp1.cell (j := 0) rfl, hp1.cell (j := 1) rfl, hp1.cell (j := 2) rfl, hp1.cell (j := 3) rfl, hp1.cell (j := 4) rfl, hp1.cell (j := 5) rfl, hp1.cell (j := 6) rfl⟩
  have HAT := Lib.hid hat
  have HB1 := Lib.hid hB1
  have HB13 := Lib.hid (Below.step hB2 hB3)
  have HS1 := Lib.hid hs1
  refine (each_all x HBK.out W1 W3 _ 1 52 #[.pointer (some ⟨w.heap.size + 1, 0, none⟩), .pointer (some ⟨w.heap.size + 1 + 1, 0, none⟩)] (CountI W1 (w.heap.size + 1) (w.heap.size + 1 + 1)) (CountQ W1 (w.heap.size + 1) (w.heap.size + 1 + 1)) []
    (enters_of Try.func52 (by kernel_rfl) rfl) (by omega) (by have := HD.out; have := HBK.out; omega) hat (fun l w h => h.1) (count_sees W1 _ _ (by omega) (by omega) (by omega))
    ⟨Below.step hB2 hB3, hp2.below hB3, hp3, by decide, by decide⟩).mono ?_
  clear hW1 hW2 hW3 hp1 hp2 hp3 hB1 hB2 hB3 hs1 hs2 hs3 hat
  rintro e w4 (⟨rfl, hI⟩ | ⟨rfl, l, hl, hQ⟩)
  case inr =>
    obtain ⟨hb4, hc4, hd4, hn4⟩ := hQ
    have HB4 := Lib.hid (Below.trans HB1.out (hb4.mono (by have := HS1.out; omega)))
    have HN := Lib.hid (show ¬ Good x from fun h => by
      have h1 := (good_iff x).1 h
      have h2 := cnt_prefix hl
      simp only [List.nil_append] at hn4
      omega)
    have b0 := hc4.cell (j := 0) rfl
    have d0 := hd4.cell (j := 0) rfl
    simp only [List.nil_append] at hn4 b0 d0
    clear hc4 hd4 hb4 hl HB13
    generalize cnt l = c at *
    generalize dpt l = d at *
    by_cases hc : 20000 < c
    · have q1 : decide (20000 < (c : Int)) = true := decide_eq_true (by omega)
      go_wp2
      go_ret
      exact ⟨1, rfl, ⟨fun h => absurd h (by omega), fun h => absurd h HN.out⟩, HB4.out⟩
    · have q1 : decide (20000 < (c : Int)) = false := decide_eq_false (by omega)
      have q2 : decide (1000 < d) = true := decide_eq_true (by omega)
      go_wp2
      go_ret
      exact ⟨1, rfl, ⟨fun h => absurd h (by omega), fun h => absurd h HN.out⟩, HB4.out⟩
  obtain ⟨hb4, hc4, hd4, hn4, hm4⟩ := hI
  simp only [List.nil_append] at hc4 hd4 hn4 hm4
  have b0 := hc4.cell (j := 0) rfl
  have d0 := hd4.cell (j := 0) rfl
  have HN4 := Lib.hid hn4; have HM4 := Lib.hid hm4
  have HB4 := Lib.hid hb4
  clear hc4 hd4 hb4 HB13
  obtain ⟨c, hc⟩ : ∃ c, c = cnt (parts x 1) := ⟨_, rfl⟩
  obtain ⟨d, hd⟩ : ∃ d, d = dpt (parts x 1) := ⟨_, rfl⟩
  rw [← hc] at b0 hn4
  rw [← hd] at d0 hm4
  clear hc hd
  have q1 : decide (20000 < (c : Int)) = false := decide_eq_false (by omega)
  have q2 : decide (1000 < d) = false := decide_eq_false (by omega)
  go_wp2_with fail
  refine (each_all x HBK.out W1 w4 _ 1 53 #[] (FitI W1) (FitQ W1) []
    (enters_of Try.func53 (by kernel_rfl) rfl) (by omega) (by have := HD.out; have := HBK.out; omega) HAT.out (fun l w h => h.1) (fit_sees W1) ⟨HB4.out, fun q hq => by cases hq⟩).mono ?_
  clear b0 d0 q1 q2
  rintro e w5 (⟨rfl, hI⟩ | ⟨rfl, l, hl, hQ⟩)
  · have HG := Lib.hid (show Good x from (good_iff x).2 ⟨HN4.out, HM4.out, by simpa using hI.2⟩)
    have HB5 := Lib.hid (Below.trans HB1.out (hI.1.mono (by have := HS1.out; omega)))
    clear hI
    go_wp2
    go_ret
    exact ⟨0, rfl, ⟨fun _ => HG.out, fun _ => rfl⟩, HB5.out⟩
  · have HG := Lib.hid (show ¬ Good x from fun h => by
      obtain ⟨q, hq, hs⟩ := hQ.2
      exact hs (((good_iff x).1 h).2.2 q (hl.subset (by simpa using hq))))
    have HB5 := Lib.hid (Below.trans HB1.out (hQ.1.mono (by have := HS1.out; omega)))
    clear hQ hl
    go_wp2
    go_ret
    exact ⟨2, rfl, ⟨fun h => absurd h (by omega), fun h => absurd h HG.out⟩, HB5.out⟩
end Go.Proofs.Ytagfphlhahiplaa.C13
namespace Go.Proofs.Ytagfphlhahiplaa.C13
open Go.RowKit Go.Proofs.YtagfphlhahiplaaW.PrintWords Go.Proofs.Ytagfphlhahiplaa.PFnExactFormatCore
set_option linter.unusedVariables false
set_option linter.unusedSimpArgs false
theorem wrap_u64 (n : Nat) (h : n < 18446744073709551616) : IntKind.u64.wrap (n : Int) = (n : Int) := IntWalk.u64_in _ (by omega)
theorem or_limb (a b : Nat) (ha : a < 2147483648) (hb : b < 4294967296) : Go.bits .or .u64 (IntKind.u64.wrap ((a : Int) * 4294967296)) (IntKind.u64.wrap (b : Int)) = (a : Int) * 4294967296 + b := by
  have e0 : (a : Int) * 4294967296 = ((a * 4294967296 : Nat) : Int) := by omega
  rw [e0, wrap_u64 _ (by omega), wrap_u64 _ (by omega)]
  have e1 : (BitVec.ofInt 64 ((a * 4294967296 : Nat) : Int)).toNat = a * 4294967296 := by
    rw [BitVec.ofInt_natCast, BitVec.toNat_ofNat, Nat.mod_eq_of_lt]; omega
  have e2 : (BitVec.ofInt 64 ((b : Nat) : Int)).toNat = b := by
    rw [BitVec.ofInt_natCast, BitVec.toNat_ofNat, Nat.mod_eq_of_lt]; omega
  have e3 : (BitVec.ofInt 64 ((a * 4294967296 : Nat) : Int) ||| BitVec.ofInt 64 ((b : Nat) : Int)).toNat = a * 4294967296 + b := by
    rw [BitVec.toNat_or, e1, e2]
    have := Nat.two_pow_add_eq_or_of_lt (i := 32) (b := b) (by omega) a
    have e4 : (2 : Nat) ^ 32 * a = a * 4294967296 := by omega
    rw [e4] at this
    exact this.symm
  show IntKind.u64.wrap (((BitVec.ofInt 64 ((a * 4294967296 : Nat) : Int) ||| BitVec.ofInt 64 ((b : Nat) : Int)).toNat : Nat) : Int) = _
  rw [e3, wrap_u64 _ (by omega)]
  omega
def okLimbs (l : List Int) : Prop := ∀ a ∈ l, 0 ≤ a ∧ a < 4294967296
def val : List Int → Nat
  | [] => 0
  | a :: r => a.toNat + 4294967296 * val r
/-- quotient and rest, from the top limb down -/
def divL (d : Nat) : List Int → List Int × Nat
  | [] => ([], 0)
  | a :: r => ((((divL d r).2 * 4294967296 + a.toNat) / d : Nat) :: (divL d r).1, ((divL d r).2 * 4294967296 + a.toNat) % d)
theorem divL_len (d : Nat) (l : List Int) : (divL d l).1.length = l.length := by
  induction l with
  | nil => rfl
  | cons a r ih => simp [divL, ih]
theorem divL_lt {d : Nat} (hd : 0 < d) (l : List Int) : (divL d l).2 < d := by
  cases l with
  | nil => exact hd
  | cons a r => exact Nat.mod_lt _ hd
theorem divL_ok {d : Nat} (hd : 0 < d) {l : List Int} (h : okLimbs l) : okLimbs (divL d l).1 := by
  induction l with
  | nil => intro a ha; cases ha
  | cons a r ih =>
    intro q hq
    rcases List.mem_cons.1 hq with rfl | hq
    · have h1 := divL_lt hd r
      have h2 := h a (by simp)
      refine ⟨Int.natCast_nonneg _, ?_⟩
      have : ((divL d r).2 * 4294967296 + a.toNat) / d < 4294967296 := by
        rw [Nat.div_lt_iff_lt_mul hd]
        have : (divL d r).2 * 4294967296 + 4294967296 ≤ d * 4294967296 := by
          have := Nat.mul_le_mul_right 4294967296 (show (divL d r).2 + 1 ≤ d by omega)
          omega
        rw [Nat.mul_comm]; omega
      exact Int.ofNat_lt.2 this
    · exact ih (fun x hx => h x (by simp [hx])) q hq
theorem divL_val {d : Nat} (hd : 0 < d) {l : List Int} (h : okLimbs l) : val l = d * val (divL d l).1 + (divL d l).2 := by
  induction l with
  | nil => rfl
  | cons a r ih =>
    have ih := ih (fun x hx => h x (by simp [hx]))
    have ha := h a (by simp)
    simp only [val, divL, Int.toNat_natCast]
    have := Nat.div_add_mod ((divL d r).2 * 4294967296 + a.toNat) d
    generalize ((divL d r).2 * 4294967296 + a.toNat) / d = q at *
    generalize ((divL d r).2 * 4294967296 + a.toNat) % d = s at *
    rw [ih]
    rw [Nat.mul_add, Nat.mul_add, Nat.mul_left_comm]
    omega
/-- without the noughts on top -/
def trim : List Int → List Int
  | [] => []
  | a :: r => if trim r = [] ∧ a = 0 then [] else a :: trim r
theorem trim_val (l : List Int) : val (trim l) = val l := by
  induction l with
  | nil => rfl
  | cons a r ih =>
    simp only [trim]
    split
    · rename_i h
      rw [h.1] at ih
      simp only [val] at ih ⊢
      rw [h.2, ← ih]; rfl
    · simp only [val, ih]
def trimmed (l : List Int) : Prop := trim l = l
theorem trim_trim (l : List Int) : trim (trim l) = trim l := by
  induction l with
  | nil => rfl
  | cons a r ih =>
    by_cases h : trim r = [] ∧ a = 0
    · rw [trim, if_pos h]; rfl
    · rw [trim, if_neg h, trim, ih, if_neg h]
theorem trim_ok {l : List Int} (h : okLimbs l) : okLimbs (trim l) := by
  induction l with
  | nil => exact h
  | cons a r ih =>
    simp only [trim]
    split
    · intro x hx; cases hx
    · intro x hx
      rcases List.mem_cons.1 hx with rfl | hx
      · exact h x (by simp)
      · exact ih (fun y hy => h y (by simp [hy])) x hx
theorem trim_len (l : List Int) : (trim l).length ≤ l.length := by
  induction l with
  | nil => exact Nat.le_refl _
  | cons a r ih => simp only [trim]; split <;> simp; omega
theorem val_zero {l : List Int} (ho : okLimbs l) (ht : trimmed l) (h : val l = 0) : l = [] := by
  unfold trimmed at ht
  induction l with
  | nil => rfl
  | cons a r ih =>
    simp only [val] at h
    have ha := ho a (by simp)
    simp only [trim] at ht
    split at ht
    · exact ht.symm
    · rename_i hn
      injection ht with _ ht
      have hr := ih (fun y hy => ho y (by simp [hy])) ht (by omega)
      exact absurd ⟨by rw [hr]; rfl, by omega⟩ hn
theorem val_pos {l : List Int} (ho : okLimbs l) (ht : trimmed l) (h : l ≠ []) : 0 < val l := by
  rcases Nat.eq_zero_or_pos (val l) with h0 | h0
  · exact absurd (val_zero ho ht h0) h
  · exact h0
/-- a number's digits; of nought there are none -/
def dig (n : Nat) : List Int := if h : n = 0 then [] else dig (n / 10) ++ [((48 + n % 10 : Nat) : Int)]
theorem dig_zero : dig 0 = [] := by rw [dig]; simp
theorem dig_pos {n : Nat} (h : n ≠ 0) : dig n = dig (n / 10) ++ [((48 + n % 10 : Nat) : Int)] := by rw [dig]; simp [h]
/-- the text of a number -/
def decimal (m : Bool) (l : List Int) : List Int := if bigFaultB m l = true then [] else (if m = true then [45] else []) ++ (if l = [] then [48] else dig (val l))
theorem trim_snoc_zero (l : List Int) : trim (l ++ [0]) = trim l := by
  induction l with
  | nil => rfl
  | cons a r ih => simp only [List.cons_append, trim, ih]
theorem trim_snoc_ne (l : List Int) {a : Int} (h : a ≠ 0) : trim (l ++ [a]) = l ++ [a] := by
  induction l with
  | nil => simp [trim, h]
  | cons b r ih => simp only [List.cons_append, trim, ih]; simp
theorem l1Trim_l0 (l : List Int) (hl : l.length ≤ 1048576) : ∀ (n k : Nat), n ≤ l.length → n < k → trim (l.take n) = trim l → spec_l1Trim.l0 k l n = some (trim l) := by
  intro n
  induction n with
  | zero =>
    intro k hn hk ht
    obtain ⟨k, rfl⟩ : ∃ m, k = m + 1 := ⟨k - 1, by omega⟩
    simp only [spec_l1Trim.l0]
    rw [if_neg (by omega)]
    simp only [Option.bind_some]
    rw [if_pos (by omega), if_pos (by omega), if_pos (by simp)]
    simp at ht ⊢
    rw [← ht]; rfl
  | succ n ih =>
    intro k hn hk ht
    obtain ⟨k, rfl⟩ : ∃ m, k = m + 1 := ⟨k - 1, by omega⟩
    simp only [spec_l1Trim.l0]
    rw [wrap64_of (by omega) (by omega), if_pos (by omega), if_pos (by omega), if_pos (by omega)]
    have hlt : n < l.length := by omega
    have hrd : rd l (((n + 1 : Nat) : Int) - 1) = l[n] := by
      have e : (((n + 1 : Nat) : Int) - 1).toNat = n := by omega
      unfold rd
      rw [e, List.getD_eq_getElem?_getD, List.getElem?_eq_getElem hlt]; rfl
    rw [hrd]
    by_cases h0 : l[n] = 0
    · rw [if_pos h0, show (((n + 1 : Nat) : Int) - 1) = (n : Int) by omega]
      refine ih k (by omega) (by omega) ?_
      rw [List.take_succ_eq_append_getElem hlt, h0, trim_snoc_zero] at ht
      exact ht
    · rw [if_neg h0]
      simp only [Option.bind_some]
      rw [if_pos (by omega), if_pos (by omega), if_pos (by simp; omega)]
      rw [List.take_succ_eq_append_getElem hlt, trim_snoc_ne _ h0] at ht
      rw [← ht, List.nil_append, Int.toNat_natCast, List.take_succ_eq_append_getElem hlt]
theorem l1Trim_eq (l : List Int) (hl : l.length ≤ 1048576) (k : Nat) (hk : l.length < k) : spec_l1Trim.f k l = some (trim l) :=
  l1Trim_l0 l hl l.length k (Nat.le_refl _) hk (by rw [List.take_length])
theorem strOfNums_app (xs : List Int) (s : ByteArray) (ys : List Int) (h : s = strOfNums ys) : strOfNums xs ++ s = strOfNums (xs ++ ys) := by
  subst h
  apply ByteArray.ext
  apply Array.ext'
  simp [strOfNums]
theorem divL_cons (d : Nat) (a : Int) (r : List Int) : divL d (a :: r) = (((((divL d r).2 * 4294967296 + a.toNat) / d : Nat) : Int) :: (divL d r).1, ((divL d r).2 * 4294967296 + a.toNat) % d) := rfl
theorem nat_tmod (v d : Nat) : Int.tmod ((v : Nat) : Int) (d : Int) = ((v % d : Nat) : Int) := (Int.ofNat_tmod v d).symm
theorem nat_tdiv (v d : Nat) : Int.tdiv ((v : Nat) : Int) (d : Int) = ((v / d : Nat) : Int) := (Int.ofNat_tdiv v d).symm
theorem set_drop {l : List Int} {i : Nat} (h : i < l.length) (v : Int) : (l.set i v).drop i = v :: l.drop (i + 1) := by
  rw [List.drop_eq_getElem_cons (by simpa using h)]
  simp [List.drop_set_of_lt]
theorem digits_l1 (l : List Int) (hl : l.length ≤ 1048576) (ho : okLimbs l) (out r : ByteArray) :
    ∀ (i k : Nat) (next : List Int), i ≤ l.length → next.length = l.length → next.drop i = (divL 10 (l.drop i)).1 →
      (∀ k', k ≤ k' + i + 1 → ((some (([(IntKind.u64.wrap (48 + ((divL 10 l).2 : Int))) % 256] : List Int) : List Int)).bind fun y147 => (if (strOfNums y147).size + out.size ≤ 9223372036854775807 then ((spec_l1Trim.f k' (divL 10 l).1).bind fun t150 => (spec_l1Digits.l0 k' t150 ((strOfNums y147) ++ out))) else (none))) = some r) →
      i < k → spec_l1Digits.l1 k l out ((divL 10 (l.drop i)).2 : Int) next ((i : Int) - 1) = some r := by
  intro i
  induction i with
  | zero =>
    intro k next hi hn hd h hk
    obtain ⟨k, rfl⟩ : ∃ m, k = m + 1 := ⟨k - 1, by omega⟩
    simp only [spec_l1Digits.l1]
    rw [if_neg (by omega)]
    have := h k (by omega)
    simp only [List.drop_zero] at hd ⊢
    rw [hd]
    exact this
  | succ i ih =>
    intro k next hi hn hd h hk
    obtain ⟨k, rfl⟩ : ∃ m, k = m + 1 := ⟨k - 1, by omega⟩
    simp only [spec_l1Digits.l1]
    have e1 : ((i + 1 : Nat) : Int) - 1 = (i : Int) := by omega
    rw [e1, if_pos (by omega), if_pos (by omega), if_pos (by omega), if_pos (by omega), wrap64_of (by omega) (by omega)]
    have hlt : i < l.length := by omega
    have hrd : rd l (i : Int) = l[i] := by
      unfold rd
      rw [Int.toNat_natCast, List.getD_eq_getElem?_getD, List.getElem?_eq_getElem hlt]; rfl
    have ha := ho _ (List.getElem_mem hlt)
    have hdrop : l.drop i = l[i] :: l.drop (i + 1) := List.drop_eq_getElem_cons hlt
    have hr := divL_lt (d := 10) (by omega) (l.drop (i + 1))
    have hcast : l[i] = ((l[i].toNat : Nat) : Int) := by omega
    have hor := or_limb (divL 10 (l.drop (i + 1))).2 l[i].toNat (by omega) (by omega)
    rw [← hcast] at hor
    rw [hrd, hor]
    have ev : ((divL 10 (l.drop (i + 1))).2 : Int) * 4294967296 + l[i] = (((divL 10 (l.drop (i + 1))).2 * 4294967296 + l[i].toNat : Nat) : Int) := by omega
    rw [ev, show (10 : Int) = ((10 : Nat) : Int) from rfl, nat_tmod, nat_tdiv]
    have hq : ((divL 10 (l.drop (i + 1))).2 * 4294967296 + l[i].toNat) / 10 < 4294967296 := by omega
    rw [wrap_u64 _ (by omega), show ((((divL 10 (l.drop (i + 1))).2 * 4294967296 + l[i].toNat) / 10 : Nat) : Int) % 4294967296 = ((((divL 10 (l.drop (i + 1))).2 * 4294967296 + l[i].toNat) / 10 : Nat) : Int) by omega, Int.toNat_natCast]
    have hdv := divL_cons 10 l[i] (l.drop (i + 1))
    rw [← hdrop] at hdv
    have := ih k (next.set i ((((divL 10 (l.drop (i + 1))).2 * 4294967296 + l[i].toNat) / 10 : Nat) : Int)) (by omega) (by simpa using hn) (by rw [set_drop (by omega), hd, hdv]) (fun k' hk' => h k' (by omega)) (by omega)
    rw [hdv] at this
    exact this
theorem wrap_dig (n : Nat) (h : n < 10) : (IntKind.u64.wrap (48 + (n : Int))) % 256 = ((48 + n : Nat) : Int) := by
  have e : (48 : Int) + (n : Int) = ((48 + n : Nat) : Int) := by omega
  rw [e, wrap_u64 _ (by omega)]; omega
theorem divL_ten {l : List Int} (ho : okLimbs l) : (divL 10 l).2 = val l % 10 ∧ val (divL 10 l).1 = val l / 10 := by
  have h1 := divL_val (d := 10) (by omega) ho
  have h2 := divL_lt (d := 10) (by omega) l
  omega
theorem digits_l0 : ∀ (N : Nat) (l : List Int), val l = N → okLimbs l → trimmed l → l.length ≤ 1048576 → ∀ ys : List Int, ys.length + (dig N).length ≤ 1000000000 →
    ∃ K, ∀ k, K ≤ k → spec_l1Digits.l0 k l (strOfNums ys) = some (strOfNums (dig N ++ ys)) := by
  intro N
  induction N using Nat.strongRecOn with
  | _ N ih =>
    intro l hv ho ht hl ys hys
    by_cases hne : l = []
    · subst hne
      have : N = 0 := hv.symm
      subst this
      refine ⟨1, fun k hk => ?_⟩
      obtain ⟨k, rfl⟩ : ∃ m, k = m + 1 := ⟨k - 1, by omega⟩
      simp only [spec_l1Digits.l0]
      rw [if_neg (by simp), dig_zero, List.nil_append]
    · have hp := val_pos ho ht hne
      have hd10 := divL_ten ho
      have hlen : 0 < l.length := List.length_pos_iff.2 hne
      have hdl := divL_len 10 l
      have htl := trim_len (divL 10 l).1
      have hdg := dig_pos (n := N) (by omega)
      obtain ⟨K, hK⟩ := ih (N / 10) (by omega) (trim (divL 10 l).1) (by rw [trim_val, hd10.2, hv]) (trim_ok (divL_ok (by omega) ho)) (trim_trim _) (by omega) (((48 + N % 10 : Nat) : Int) :: ys) (by rw [hdg] at hys; simp at hys ⊢; omega)
      refine ⟨K + l.length + l.length + 10, fun k hk => ?_⟩
      obtain ⟨k, rfl⟩ : ∃ m, k = m + 1 := ⟨k - 1, by omega⟩
      simp only [spec_l1Digits.l0]
      rw [if_pos (by omega), if_pos (by omega), if_pos (by omega), wrap64_of (by omega) (by omega)]
      have h1 := digits_l1 l hl ho (strOfNums ys) (strOfNums (dig N ++ ys)) l.length k (List.replicate ((l.length : Int)).toNat 0) (Nat.le_refl _) (by simp) (by simp [divL]) (fun k' hk' => by
        simp only [Option.bind_some]
        rw [wrap_dig _ (divL_lt (by omega) l), if_pos (by rw [strOfNums_size, strOfNums_size]; simp; omega), l1Trim_eq _ (by omega) k' (by omega)]
        simp only [Option.bind_some]
        rw [strOfNums_app _ _ ys rfl, hd10.1, hv]
        have := hK k' (by omega)
        rw [hdg, List.append_assoc]
        exact this) (by omega)
      rw [List.drop_length] at h1
      exact h1
theorem digits_eq (l : List Int) (ho : okLimbs l) (ht : trimmed l) (hl : l.length ≤ 1048576) (hd : (dig (val l)).length ≤ 900000000) :
    ∃ K, ∀ k, K ≤ k → spec_l1Digits.f k l = some (strOfNums (if l = [] then [48] else dig (val l))) := by
  by_cases hne : l = []
  · subst hne
    exact ⟨0, fun k _ => rfl⟩
  · obtain ⟨K, hK⟩ := digits_l0 (val l) l rfl ho ht hl [] (by simp; omega)
    refine ⟨K, fun k hk => ?_⟩
    have hlen : 0 < l.length := List.length_pos_iff.2 hne
    unfold spec_l1Digits.f
    rw [if_neg (by omega), if_neg hne]
    have := hK k hk
    rw [List.append_nil] at this
    exact this
theorem dig_len : ∀ (m n : Nat), n < 10 ^ m → (dig n).length ≤ m := by
  intro m
  induction m with
  | zero =>
    intro n hn
    have : n = 0 := by simp at hn; omega
    subst this
    rw [dig_zero]; simp
  | succ m ih =>
    intro n hn
    by_cases h : n = 0
    · subst h; rw [dig_zero]; simp
    · rw [dig_pos h, List.length_append, List.length_singleton]
      have := ih (n / 10) (by rw [Nat.div_lt_iff_lt_mul (by omega)]; rw [Nat.pow_succ] at hn; omega)
      omega
theorem val_lt {l : List Int} (ho : okLimbs l) : val l < 4294967296 ^ l.length := by
  induction l with
  | nil => simp [val]
  | cons a r ih =>
    have ih := ih (fun x hx => ho x (by simp [hx]))
    have ha := ho a (by simp)
    simp only [val, List.length_cons, Nat.pow_succ]
    have : a.toNat < 4294967296 := by omega
    generalize 4294967296 ^ r.length = p at *
    have : val r + 1 ≤ p := ih
    have := Nat.mul_le_mul_left 4294967296 this
    rw [Nat.mul_comm p]
    omega
theorem dig_val_len {l : List Int} (ho : okLimbs l) : (dig (val l)).length ≤ 10 * l.length := by
  refine dig_len _ _ (Nat.lt_of_lt_of_le (val_lt ho) ?_)
  rw [Nat.pow_mul]
  exact Nat.pow_le_pow_left (by decide) _
theorem sound_big {m : Bool} {l : List Int} (h : bigFaultB m l = false) : l.length ≤ 40 ∧ trimmed l := by
  unfold bigFaultB at h
  split at h
  · cases h
  · rename_i h1
    refine ⟨by omega, ?_⟩
    split at h
    · rename_i h2
      have h3 : rd l ((l.length : Int) - 1) ≠ 0 := by simpa using h
      obtain ⟨l', a, rfl⟩ : ∃ l' a, l = l' ++ [a] := ⟨l.dropLast, l.getLast (by intro h; subst h; simp at h2), (List.dropLast_concat_getLast _).symm⟩
      refine trim_snoc_ne l' (fun ha => h3 ?_)
      have e : (((l' ++ [a]).length : Int) - 1).toNat = l'.length := by rw [List.length_append, List.length_singleton]; omega
      unfold rd
      rw [e, List.getD_eq_getElem?_getD]
      simp [ha]
    · have : l = [] := List.length_eq_zero_iff.1 (by omega)
      subst this; rfl
theorem decimal_len {m : Bool} {l : List Int} (ho : okLimbs l) : (decimal m l).length ≤ 1 + 1 + 10 * l.length := by
  unfold decimal
  have := dig_val_len ho
  split
  · simp
  · rw [List.length_append]
    split <;> split <;> simp <;> omega
theorem spec_BigText_eq (m : Bool) (l : List Int) (ho : okLimbs l) (hl : l.length ≤ 1048576) : ∃ K, ∀ k, K ≤ k → spec_BigText.f k m l = some (strOfNums (decimal m l)) := by
  by_cases hf : bigFaultB m l = true
  · refine ⟨0, fun k _ => ?_⟩
    unfold spec_BigText.f decimal
    rw [spec_BigFault_eq m l (by omega), hf]
    rfl
  · have hf' : bigFaultB m l = false := by simpa using hf
    obtain ⟨h40, htr⟩ := sound_big hf'
    have hdl := dig_val_len ho
    obtain ⟨K, hK⟩ := digits_eq l ho htr hl (by omega)
    refine ⟨K, fun k hk => ?_⟩
    unfold spec_BigText.f decimal
    rw [spec_BigFault_eq m l (by omega), hf']
    simp only [Option.bind_some]
    rw [if_neg (show ¬ (false = true) by decide), if_neg (show ¬ (false = true) by decide), hK k hk]
    by_cases hm : m = true
    · rw [if_pos hm, if_pos hm]
      simp only [Option.bind_some]
      rw [if_pos (by rw [strOfNums_size]; split; (· simp); (· omega))]
      refine congrArg some ?_
      exact strOfNums_app [45] _ _ rfl
    · rw [if_neg hm, if_neg hm]
      rfl
def esc1 (mark c : Int) : List Int := if c = 10 then [92, 110] else if c = 92 then [92, c] else if c = mark then [92, c] else [c]
def esc (mark : Int) (s : ByteArray) : List Int := mark :: ((bytesOf s).flatMap (esc1 mark) ++ [mark])
theorem esc1_len (mark c : Int) : (esc1 mark c).length ≤ 2 := by
  unfold esc1; repeat' split
  all_goals simp
theorem flat_len (mark : Int) (l : List Int) : (l.flatMap (esc1 mark)).length ≤ 2 * l.length := by
  induction l with
  | nil => simp
  | cons a r ih => rw [List.flatMap_cons, List.length_append, List.length_cons]; have := esc1_len mark a; omega
theorem esc_len (mark : Int) (s : ByteArray) : (esc mark s).length ≤ 2 + 2 * s.size := by
  unfold esc
  rw [List.length_cons, List.length_append, List.length_singleton]
  have := flat_len mark (bytesOf s)
  rw [bytesOf_length] at this
  omega
theorem bt_eq (s : ByteArray) (i : Nat) (h : i < (bytesOf s).length) : bt s (i : Int) = (bytesOf s)[i] := by
  have h2 : i < s.size := by rwa [bytesOf_length] at h
  rw [← bt_at s i (by rw [Int.toNat_natCast]; exact h2)]
  simp only [Int.toNat_natCast, bytesOf, List.getElem_map, Array.getElem_toList]
  rfl
theorem l2Escape_l0 (s : ByteArray) (mark : Int) (hs : s.size ≤ 1048576) : ∀ (d i k : Nat) (acc : List Int), s.size - i = d → i ≤ s.size → d < k → acc = mark :: ((bytesOf s).take i).flatMap (esc1 mark) →
    spec_l2Escape.l0 k s mark acc i = some (strOfNums (esc mark s)) := by
  intro d
  induction d with
  | zero =>
    intro i k acc hd hi hk hacc
    obtain ⟨k, rfl⟩ : ∃ m, k = m + 1 := ⟨k - 1, by omega⟩
    simp only [spec_l2Escape.l0]
    have hl := flat_len mark ((bytesOf s).take i)
    rw [List.length_take, bytesOf_length] at hl
    rw [if_neg (by omega), if_pos (by rw [hacc, List.length_cons]; omega), hacc, List.take_of_length_le (by rw [bytesOf_length]; omega)]
    rfl
  | succ d ih =>
    intro i k acc hd hi hk hacc
    obtain ⟨k, rfl⟩ : ∃ m, k = m + 1 := ⟨k - 1, by omega⟩
    simp only [spec_l2Escape.l0]
    have hlt : i < (bytesOf s).length := by rw [bytesOf_length]; omega
    have hl := flat_len mark ((bytesOf s).take i)
    rw [List.length_take, bytesOf_length] at hl
    have hal : acc.length ≤ 1 + 2 * s.size := by rw [hacc, List.length_cons]; omega
    have hnext : ∀ e, e = esc1 mark (bytesOf s)[i] → acc ++ e = mark :: ((bytesOf s).take (i + 1)).flatMap (esc1 mark) := by
      intro e he
      rw [hacc, List.take_succ_eq_append_getElem hlt, List.flatMap_append, he]
      simp
    rw [if_pos (by omega), if_pos (by omega), bt_eq s i hlt, wrap64_of (by omega) (by omega)]
    have e1 : (i : Int) + 1 = ((i + 1 : Nat) : Int) := by omega
    rw [e1]
    generalize (bytesOf s)[i] = c at *
    unfold esc1 at hnext
    by_cases h1 : c = 10
    · rw [if_pos h1]
      simp only [Option.bind_some]
      rw [if_pos (by simp; omega)]
      exact ih (i + 1) k _ (by omega) (by omega) (by omega) (hnext _ (by rw [if_pos h1]))
    · rw [if_neg h1]
      by_cases h2 : c = 92
      · rw [if_pos h2]
        simp only [Option.bind_some]
        rw [if_pos (by simp; omega)]
        exact ih (i + 1) k _ (by omega) (by omega) (by omega) (hnext _ (by rw [if_neg h1, if_pos h2]))
      · rw [if_neg h2]
        by_cases h3 : c = mark
        · rw [if_pos h3]
          simp only [Option.bind_some]
          rw [if_pos (by simp; omega)]
          exact ih (i + 1) k _ (by omega) (by omega) (by omega) (hnext _ (by rw [if_neg h1, if_neg h2, if_pos h3]))
        · rw [if_neg h3, if_pos (by omega)]
          exact ih (i + 1) k _ (by omega) (by omega) (by omega) (hnext _ (by rw [if_neg h1, if_neg h2, if_neg h3]))
theorem l2Escape_eq (s : ByteArray) (mark : Int) (hs : s.size ≤ 1048576) : spec_l2Escape.f (s.size + 1) s mark = some (strOfNums (esc mark s)) :=
  l2Escape_l0 s mark hs s.size 0 (s.size + 1) [mark] (by omega) (by omega) (by omega) (by simp)
theorem spellChar_eq (c mark : Int) : impl_spellChar.f c mark = some (strOfNums (esc1 mark c)) := by
  unfold impl_spellChar.f esc1
  split
  · rfl
  · split
    · rfl
    · split <;> rfl
end Go.Proofs.Ytagfphlhahiplaa.C13
namespace Go.Proofs.Ytagfphlhahiplaa.C13
open Go.RowKit Go.Proofs.YtagfphlhahiplaaW.PrintWords Go.Proofs.Ytagfphlhahiplaa.PFnExactFormatCore
set_option linter.unusedVariables false
set_option linter.unusedSimpArgs false
section
variable {P : Program} (w : World)
/-- where the slice behind an append of a string lies -/
theorem str_at (t u ty e : TypeId) (i : TypeInfo) (ht : P.underlying t = some (.slice e)) (hu : P.underlying u = some .string) (hi : P.info? e = some i) (hz : i.zero = some (.int .u8 0))
    (hsize : i.size = 1) (hby : i.bytes = 1) (base : Nat) (v : Value) (n : Nat) (xs : List Value) (hown : w.ownsRow base e 1 v n xs) (s : ByteArray) (hbytes : n + s.size ≤ 140737488355328)
    {v' : Value} {w' : World} (hr : (Builtin.append_ #[t, u] ty #[v, .string s]).run P w = .ok v' w') (hnil : v' = .slice none 0 0 ↔ v = .slice none 0 0 ∧ s.size = 0) :
    v'.ownBlock = v.ownBlock ∨ ∃ b, v'.ownBlock = some b ∧ w.heap.size ≤ b := by
  have hxl : xs.length = n := by simpa using hown.1
  rcases hown.2 with ⟨rfl, rfl⟩ | ⟨g, cap, cur, rfl, hbg, hg, hnc, hcm, hcs, htake⟩
  · by_cases hm : s.size = 0
    · rw [hnil.2 ⟨rfl, hm⟩]; exact .inl rfl
    · have h2 := run_append_nil_string (P := P) w t u ty e i (.int .u8 0) ht hu hi hz s (by omega) (by omega) (by rw [hby]; omega)
      rw [h2] at hr
      injection hr with hr _
      rw [← hr]
      exact .inr ⟨_, rfl, Nat.le_refl _⟩
  · by_cases hroom : n + s.size ≤ cap
    · have hcs' : cur.size = cap := by simpa using hcs
      have h2 := Lib.run_append_room_string (P := P) w t u ty e i ht hu hi hsize g n cap cur hg s hroom (by omega)
      rw [h2] at hr
      injection hr with hr _
      rw [← hr]
      exact .inl rfl
    · have h2 := Lib.run_append_grow_string (P := P) w t u ty e i (.int .u8 0) ht hu hi hz ⟨g, 0, none⟩ n cap xs (by rw [hsize]; omega) (hown.cells (g := g) rfl) s (by omega) (by omega) (by rw [hby]; exact growslice_fits (by omega) (by omega))
      rw [h2] at hr
      injection hr with hr _
      rw [← hr]
      exact .inr ⟨_, rfl, Nat.le_refl _⟩
end
/-- from the world w0 with the slice o0 on: now the world is w, the slice o, and it holds xs -/
structure Out (base : Nat) (w0 : World) (o0 : Value) (w : World) (o : Value) (xs : List Int) : Prop where
  own : w.ownsRow base 5 1 o xs.length (nums .u8 xs)
  gr : w0.grownBy w o0.ownBlock
  lies : o.ownBlock = o0.ownBlock ∨ ∃ b, o.ownBlock = some b ∧ w0.heap.size ≤ b
  ge : base ≤ w0.heap.size
theorem Out.step {base : Nat} {w0 : World} {o0 : Value} {w : World} {o : Value} {xs : List Int} (h : Out base w0 o0 w o xs) {w' : World} {o' : Value} {ys : List Int} (hown : w'.ownsRow base 5 1 o' ys.length (nums .u8 ys))
    (hg : w.grownBy w' o.ownBlock) (hl : o'.ownBlock = o.ownBlock ∨ ∃ b, o'.ownBlock = some b ∧ w.heap.size ≤ b) : Out base w0 o0 w' o' ys := by
  have hs := h.gr.size
  refine ⟨hown, ⟨hg.os.trans h.gr.os, hg.tape.trans h.gr.tape, hg.output.trans h.gr.output, Nat.le_trans hs hg.size, fun i hi hn => ?_⟩, ?_, h.ge⟩
  · refine (hg.block i (Nat.lt_of_lt_of_le hi hs) (fun he => ?_)).trans (h.gr.block i hi hn)
    rcases h.lies with hl | ⟨b, hb, hbl⟩
    · exact hn (he.trans hl)
    · rw [hb] at he; injection he with he; omega
  · rcases hl with hl | ⟨b, hb, hbl⟩
    · rw [hl]; exact h.lies
    · exact .inr ⟨b, hb, Nat.le_trans hs hbl⟩
theorem Out.below {base : Nat} {w0 : World} {o0 : Value} {w : World} {o : Value} {xs : List Int} (h : Out base w0 o0 w o xs) {w' : World} (hb : Below w.heap.size w w') : Out base w0 o0 w' o xs :=
  h.step (ownsRow_below h.own hb) (grown_of_below hb _) (.inl rfl)
theorem Out.alloc {base : Nat} {w0 : World} {o0 : Value} {w : World} {o : Value} {xs : List Int} (h : Out base w0 o0 w o xs) (ob : Obj) : Out base w0 o0 (w.alloc ob) o xs := h.below (grown_box w ob)
theorem Out.drew {base : Nat} {w0 : World} {o0 : Value} {w : World} {o : Value} {xs : List Int} (h : Out base w0 o0 w o xs) : Out base w0 o0 w.drew o xs := h.below (below_drew (Below.refl _ _))
theorem Out.start {base : Nat} {w : World} {o : Value} {xs : List Int} (h : w.ownsRow base 5 1 o xs.length (nums .u8 xs)) (hb : base ≤ w.heap.size) : Out base w o w o xs :=
  ⟨h, grown_of_below (Below.refl _ _) _, .inl rfl, hb⟩
theorem Out.trans {base : Nat} {w0 w1 w2 : World} {o0 o1 o2 : Value} {xs ys : List Int} (h : Out base w0 o0 w1 o1 xs) (k : Out base w1 o1 w2 o2 ys) : Out base w0 o0 w2 o2 ys := h.step k.own k.gr k.lies
/-- a block of before that is not the slice's own -/
theorem Out.blk {base : Nat} {w0 : World} {o0 : Value} {w : World} {o : Value} {xs : List Int} (h : Out base w0 o0 w o xs) {g : Nat} {e : TypeId} {cs : List Value} (hb : Blk w0 g e cs) (hne : some g ≠ o0.ownBlock) : Blk w g e cs := hb.grownO h.gr hne
theorem Out.belowB {base : Nat} {w0 : World} {o0 : Value} {w : World} {o : Value} {xs : List Int} (h : Out base w0 o0 w o xs) (ho : ∀ k, o0.ownBlock = some k → base ≤ k) : Below base w0 w :=
  ⟨h.gr.os, h.gr.tape, h.gr.output, h.gr.size, fun i hi => h.gr.block i (Nat.lt_of_lt_of_le hi h.ge) (fun he => by have := ho i he.symm; omega)⟩
theorem infoU8 : (Try.prog.info? 5).map (fun i => (i.zero, i.size, i.bytes)) = some (some (.int .u8 0), 1, 1) := by kernel_rfl
theorem app_string {base : Nat} {w0 : World} {o0 : Value} {w : World} {v : Value} {xs : List Int} (h : Out base w0 o0 w v xs) (y : ByteArray) (hl : xs.length + y.size ≤ 1000000000) (ty : TypeId) :
    ∃ v1 w1, (Builtin.append_ #[48, 9] ty #[v, .string y]).run Try.prog w = .ok v1 w1 ∧ Out base w0 o0 w1 v1 (xs ++ bytesOf y) := by
  obtain ⟨i0, hi, hz0, hz1, hz2⟩ := info_parts infoU8
  obtain ⟨v1, w1, hr, hown, hg, hn⟩ := Lib.run_append_own_string (P := Try.prog) w base 48 9 ty 5 i0 Try.underlying48 Try.underlying9 hi hz0 hz1 hz2 v xs.length (nums .u8 xs) h.own y (by simp only [maxLen]; omega) (by omega) (Nat.le_trans h.ge h.gr.size)
  have hl2 : (xs ++ bytesOf y).length = xs.length + y.size := by rw [List.length_append, bytesOf_length]
  have hc : nums .u8 (xs ++ bytesOf y) = nums .u8 xs ++ Lib.strCells y := by
    have e : nums .u8 (bytesOf y) = Lib.strCells y := by simp [nums, bytesOf, Lib.strCells]
    rw [nums_append, e]
  exact ⟨v1, w1, hr, h.step (by rw [hl2, hc]; exact hown) hg (str_at w _ _ _ _ i0 Try.underlying48 Try.underlying9 hi hz0 hz1 hz2 base v _ _ h.own y (by omega) hr hn)⟩
set_option maxRecDepth 100000
section
variable {ops : Array Oper} {rest : List Oper} {o : Oper} {a : Act} {Q : Exit → Act → World → Prop}
/-- append(out, s...) in a plain region -/
theorem app_str {base : Nat} {w0 : World} {o0 : Value} {w : World} {v : Value} {xs : List Int} (h : Out base w0 o0 w v xs) (hgd : o.guard = none) (sl x : Operand)
    (ho : o.op = .call { callee := .builtin .append, args := #[sl, x], argTypes := #[48, 9] }) (y : ByteArray) (hs : a.eval sl = v) (hx : a.eval x = .string y) (hl : xs.length + y.size ≤ 1000000000)
    (k : ∀ v1 w1, Out base w0 o0 w1 v1 (xs ++ bytesOf y) → wpList Try.prog ops Q rest (a.put o.dst v1) w1) : wpList Try.prog ops Q (o :: rest) a w := by
  refine wpList_plain hgd fun K hK => ?_
  obtain ⟨v1, w1, hr, h1⟩ := app_string h y hl o.type
  unfold Oper.wp execOp
  simp only [ho, resolve, invoke, builtin, Sem.run_bind, Sem.run_pure, Result.andThen_ok, List.map_toArray, List.map_cons, List.map_nil, hs, hx, hr]
  exact hK _ _ (k v1 w1 h1)
/-- .. at a step of a region that draws -/
theorem step_str {K : Act → World → Prop} {E : Prop} {base : Nat} {w0 : World} {o0 : Value} {w : World} {v : Value} {xs : List Int} (h : Out base w0 o0 w v xs) (hgd : o.guard = none) (sl x : Operand)
    (ho : o.op = .call { callee := .builtin .append, args := #[sl, x], argTypes := #[48, 9] }) (y : ByteArray) (hs : a.eval sl = v) (hx : a.eval x = .string y) (hl : xs.length + y.size ≤ 1000000000)
    (k : ∀ v1 w1, Out base w0 o0 w1 v1 (xs ++ bytesOf y) → K (a.put o.dst v1) w1) : if Region.wanted o (yielded ops a.tmps) = true then Oper.wp Try.prog o a w K Q else E := by
  have hw : Region.wanted o (yielded ops a.tmps) = true := by simp [Region.wanted, hgd]
  rw [if_pos hw]
  obtain ⟨v1, w1, hr, h1⟩ := app_string h y hl o.type
  unfold Oper.wp execOp
  simp only [ho, resolve, invoke, builtin, Sem.run_bind, Sem.run_pure, Result.andThen_ok, List.map_toArray, List.map_cons, List.map_nil, hs, hx, hr]
  exact k v1 w1 h1
/-- append(out, c) in a plain region -/
theorem app_byte {base : Nat} {w0 : World} {o0 : Value} {w : World} {v : Value} {xs : List Int} (h : Out base w0 o0 w v xs) (hgd : o.guard = none) (sl x : Operand)
    (ho : o.op = .call { callee := .builtin .append, args := #[sl, x], argTypes := #[48, 48] }) (y : Int) (hs : a.eval sl = v) (hx : a.eval x = .slice (some ⟨w.heap.size, 0, none⟩) 1 1) (hl : xs.length ≤ 1000000000)
    (k : ∀ v1 w1, Out base w0 o0 w1 v1 (xs ++ [y]) → wpList Try.prog ops Q rest (a.put o.dst v1) w1) : wpList Try.prog ops Q (o :: rest) a (w.alloc (.cells #[.int .u8 y] 5)) := by
  refine print_append_num (w0 := w) base hgd sl x 48 5 .u8 1 ho Try.underlying48 infoU8 (by decide) v xs y hs hx h.own ?_ (Nat.le_trans h.ge h.gr.size) (by omega) ?_
  · exact Below.refl _ _
  · intro v1 w1 hown _ hg hat
    exact k v1 w1 (h.step hown hg hat)
/-- append(out, c) at a step of a region that draws -/
theorem step_byte {K : Act → World → Prop} {E : Prop} {base : Nat} {w0 : World} {o0 : Value} {w : World} {v : Value} {xs : List Int} (h : Out base w0 o0 w v xs) (hgd : o.guard = none) (sl x : Operand)
    (ho : o.op = .call { callee := .builtin .append, args := #[sl, x], argTypes := #[48, 48] }) (y : Int) (ad : Addr) (hs : a.eval sl = v) (hx : a.eval x = .slice (some ad) 1 1) (hc : w.cell? (ad.add 0) = some (.int .u8 y)) (hl : xs.length ≤ 1000000000)
    (k : ∀ v1 w1, Out base w0 o0 w1 v1 (xs ++ [y]) → K (a.put o.dst v1) w1) : if Region.wanted o (yielded ops a.tmps) = true then Oper.wp Try.prog o a w K Q else E := by
  obtain ⟨i0, hi, hz0, hz1, hz2⟩ := info_parts infoU8
  refine step_append_lies w hgd sl x 48 ho base 5 i0 (.int .u8 0) 1 1 Try.underlying48 hi hz0 hz1 hz2 rfl (by decide) v xs.length (nums .u8 xs) hs h.own ad 1 1 [.int .u8 y] hx rfl ?_ ?_ (by decide) (by simp only [maxLen]; omega) (by omega) (Nat.le_trans h.ge h.gr.size) w.heap.size rfl ?_
  · intro j u hj
    match j, hj with
    | 0, hj => injection hj with hj; subst hj; exact hc
    | j + 1, hj => simp at hj
  · intro u hu; rw [List.mem_singleton.1 hu]; rfl
  · intro g cap w1 hown hg hat _
    refine k _ w1 (h.step (by simpa [nums] using hown) hg ?_)
    rcases hat with hat | rfl
    · exact .inl hat.symm
    · exact .inr ⟨_, rfl, Nat.le_refl _⟩
end
end Go.Proofs.Ytagfphlhahiplaa.C13
namespace Go.Proofs.Ytagfphlhahiplaa.C13
open Go.RowKit Go.Proofs.YtagfphlhahiplaaW.PrintWords Go.Proofs.Ytagfphlhahiplaa.PFnExactFormatCore
set_option linter.unusedVariables false
set_option linter.unusedSimpArgs false
/-- texts behind one another, sep ahead of each (but of the first, if first) -/
def joins (sep : List Int) : Bool → List (List Int) → List Int
  | _, [] => []
  | first, t :: r => (if first then [] else sep) ++ t ++ joins sep false r
def altPart (a : AltT) (t : List Int) : List Int := bytesOf a.con ++ joins [32] false (a.names.map bytesOf) ++ [32, 45, 62, 32] ++ t
def letPart (n : ByteArray) (t : List Int) : List Int := bytesOf n ++ [32, 61, 32] ++ t
def fmtOf (kind : Int) (name : ByteArray) (minus : Bool) (limbs : List Int) (names : List ByteArray) (kids : List CoreT) (alts : List AltT) (ts us : List (List Int)) : List Int :=
  if kind = 1 then bytesOf name
  else if kind = 2 then decimal minus limbs
  else if kind = 3 then esc 39 name
  else if kind = 10 then esc 34 name
  else if kind = 4 ∨ kind = 9 ∨ kind = 5 then (if kids.length = 0 then bytesOf name else [40] ++ bytesOf name ++ joins [32] (decide (kind = 5)) ts ++ [41])
  else if kind = 6 then [40, 92] ++ joins [32] true (names.map bytesOf) ++ [32, 45, 62, 32] ++ ts.getD 0 [] ++ [41]
  else if kind = 7 then [40, 108, 101, 116, 32] ++ joins [59, 32] true (List.zipWith letPart names ts) ++ [32, 105, 110, 32] ++ ts.getD names.length [] ++ [41]
  else [40, 99, 97, 115, 101, 32] ++ ts.getD 0 [] ++ [32, 111, 102, 32] ++ (if name.size = 0 then [] else bytesOf name ++ [32]) ++ [123, 32] ++ joins [59, 32] true (List.zipWith altPart alts us) ++
    (if kids.length = 2 then (if 0 < alts.length then [59, 32] else []) ++ [95, 32, 45, 62, 32] ++ ts.getD 1 [] else []) ++ [32, 125, 41]
mutual
def fmt : CoreT → List Int
  | ⟨kind, name, minus, limbs, names, kids, alts⟩ => fmtOf kind name minus limbs names kids alts (fmts kids) (afmts alts)
def fmts : List CoreT → List (List Int)
  | [] => []
  | c :: r => fmt c :: fmts r
def afmts : List AltT → List (List Int)
  | [] => []
  | a :: r => afmt a :: afmts r
def afmt : AltT → List Int
  | ⟨_, _, b⟩ => fmt b
end
theorem fmts_map (l : List CoreT) : fmts l = l.map fmt := by
  induction l with
  | nil => rw [fmts]; rfl
  | cons c r ih => rw [fmts, ih]; rfl
theorem afmt_eq (a : AltT) : afmt a = fmt a.body := by cases a; rw [afmt]
theorem afmts_map (l : List AltT) : afmts l = l.map (fun a => fmt a.body) := by
  induction l with
  | nil => rw [afmts]; rfl
  | cons c r ih => rw [afmts, ih, afmt_eq]; rfl
theorem fmt_eq (x : CoreT) : fmt x = fmtOf x.kind x.name x.minus x.limbs x.names x.kids x.alts (x.kids.map fmt) (x.alts.map (fun a => fmt a.body)) := by
  cases x; rw [fmt, fmts_map, afmts_map]
theorem joins_snoc (sep : List Int) (t : List Int) : ∀ (l : List (List Int)) (first : Bool), joins sep first (l ++ [t]) = joins sep first l ++ ((if first = true ∧ l = [] then [] else sep) ++ t) := by
  intro l
  induction l with
  | nil => intro first; cases first <;> simp [joins]
  | cons a r ih => intro first; simp [joins, ih]
theorem joins_take_len (sep : List Int) : ∀ (l : List (List Int)) (k : Nat) (first : Bool), (joins sep first (l.take k)).length ≤ (joins sep first l).length := by
  intro l
  induction l with
  | nil => intro k first; simp
  | cons a r ih =>
    intro k first
    cases k with
    | zero => simp [joins]
    | succ k =>
      simp only [List.take_succ_cons, joins, List.length_append]
      have := ih k false
      omega
/-- a bound for each text gives one for all -/
theorem joins_len (sep : List Int) : ∀ (l : List (List Int)) (first : Bool), (joins sep first l).length ≤ (l.map (fun t => sep.length + t.length)).sum := by
  intro l
  induction l with
  | nil => intro first; simp [joins]
  | cons a r ih =>
    intro first
    simp only [joins, List.length_append, List.map_cons, List.sum_cons]
    have := ih false
    split <;> simp <;> omega
theorem names_sum (l : List ByteArray) : ((l.map bytesOf).map (fun t => 1 + t.length)).sum = strsB l := by
  induction l with
  | nil => rfl
  | cons a r ih => simp only [List.map_cons, List.sum_cons, strsB, bytesOf_length, ih]; omega
theorem kids_sum {l : List CoreT} (h : ∀ y ∈ l, (fmt y).length ≤ 40 * bulk y + 30) : ((l.map fmt).map (fun t => 1 + t.length)).sum ≤ 40 * bulks l := by
  induction l with
  | nil => simp
  | cons a r ih =>
    simp only [List.map_cons, List.sum_cons, bulks]
    have := h a (by simp)
    have := ih (fun y hy => h y (by simp [hy]))
    omega
theorem getD_len {l : List CoreT} (h : ∀ y ∈ l, (fmt y).length ≤ 40 * bulk y + 30) (i : Nat) : ((l.map fmt).getD i []).length ≤ 40 * bulks l := by
  rw [List.getD_eq_getElem?_getD]
  rcases Nat.lt_or_ge i l.length with hi | hi
  · rw [List.getElem?_eq_getElem (by simpa using hi)]
    simp only [List.getElem_map, Option.getD_some]
    have := h _ (List.getElem_mem hi)
    have := mem_bulks (List.getElem_mem hi)
    have hb := bulks_eq l
    have : bulk l[i] + 1 ≤ bulks l := by
      have : ∀ (l : List CoreT) (x : CoreT), x ∈ l → bulk x + 1 ≤ bulks l := by
        intro l
        induction l with
        | nil => intro x hx; cases hx
        | cons a r ih =>
          intro x hx
          rw [bulks]
          rcases List.mem_cons.1 hx with rfl | hx
          · omega
          · have := ih x hx; omega
      exact this l _ (List.getElem_mem hi)
    omega
  · rw [List.getElem?_eq_none (by simpa using hi)]; simp
theorem getD_take : ∀ (l : List CoreT) (i : Nat), (∀ y ∈ l, (fmt y).length ≤ 40 * bulk y + 30) → ((l.map fmt).getD i []).length + 40 * bulks (l.take i) ≤ 40 * bulks l := by
  intro l
  induction l with
  | nil => intro i h; simp
  | cons a r ih =>
    intro i h
    have h1 := h a (by simp)
    cases i with
    | zero => simp [bulks]; omega
    | succ i =>
      have := ih i (fun y hy => h y (by simp [hy]))
      simp only [List.map_cons, List.getD_cons_succ, List.take_succ_cons, bulks]
      omega
theorem lets_sum : ∀ (ns : List ByteArray) (l : List CoreT), (∀ y ∈ l, (fmt y).length ≤ 40 * bulk y + 30) → ((List.zipWith letPart ns (l.map fmt)).map (fun t => 2 + t.length)).sum ≤ strsB ns + 40 * bulks (l.take ns.length) := by
  intro ns
  induction ns with
  | nil => intro l h; simp
  | cons n ns ih =>
    intro l h
    cases l with
    | nil => simp
    | cons a r =>
      simp only [List.map_cons, List.zipWith_cons_cons, List.sum_cons, bulks, strsB, letPart, List.length_append, bytesOf_length, List.length_cons, List.length_nil, List.take_succ_cons]
      have := h a (by simp)
      have := ih r (fun y hy => h y (by simp [hy]))
      omega
theorem alts_sum : ∀ (l : List AltT), (∀ y ∈ l, (fmt y.body).length ≤ 40 * bulk y.body + 30) → ((List.zipWith altPart l (l.map (fun a => fmt a.body))).map (fun t => 2 + t.length)).sum ≤ 40 * abulks l := by
  intro l
  induction l with
  | nil => intro h; simp
  | cons a r ih =>
    intro h
    have h1 := h a (by simp)
    have h2 := ih (fun y hy => h y (by simp [hy]))
    have h3 := joins_len [32] (a.names.map bytesOf) false
    simp only [List.length_singleton] at h3
    rw [names_sum] at h3
    simp only [List.map_cons, List.zipWith_cons_cons, List.sum_cons, abulks, abulk_eq, altPart, List.length_append, bytesOf_length, List.length_cons, List.length_nil]
    omega
mutual
def WfC : CoreT → Prop
  | ⟨_, _, _, limbs, _, kids, alts⟩ => okLimbs limbs ∧ WfCs kids ∧ WfAs alts
def WfCs : List CoreT → Prop
  | [] => True
  | c :: r => WfC c ∧ WfCs r
def WfAs : List AltT → Prop
  | [] => True
  | a :: r => WfA a ∧ WfAs r
def WfA : AltT → Prop
  | ⟨_, _, b⟩ => WfC b
end
theorem WfC_eq (c : CoreT) : WfC c = (okLimbs c.limbs ∧ WfCs c.kids ∧ WfAs c.alts) := by cases c; rw [WfC]
theorem WfA_eq (a : AltT) : WfA a = WfC a.body := by cases a; rw [WfA]
theorem WfCs_mem {l : List CoreT} (h : WfCs l) : ∀ x ∈ l, WfC x := by
  induction l with
  | nil => intro x hx; cases hx
  | cons c r ih =>
    rw [WfCs] at h
    intro x hx
    rcases List.mem_cons.1 hx with rfl | hx
    · exact h.1
    · exact ih h.2 x hx
theorem WfAs_mem {l : List AltT} (h : WfAs l) : ∀ x ∈ l, WfC x.body := by
  induction l with
  | nil => intro x hx; cases hx
  | cons c r ih =>
    rw [WfAs, WfA_eq] at h
    intro x hx
    rcases List.mem_cons.1 hx with rfl | hx
    · exact h.1
    · exact ih h.2 x hx
theorem fmt_len (x : CoreT) : WfC x → (fmt x).length ≤ 40 * bulk x + 30 := by
  refine coreInd (fun x => WfC x → (fmt x).length ≤ 40 * bulk x + 30) (fun c hk ha hw => ?_) x
  rw [WfC_eq] at hw
  obtain ⟨w1, w2, w3⟩ := hw
  have hk' : ∀ y ∈ c.kids, (fmt y).length ≤ 40 * bulk y + 30 := fun y hy => hk y hy (WfCs_mem w2 y hy)
  have ha' : ∀ y ∈ c.alts, (fmt y.body).length ≤ 40 * bulk y.body + 30 := fun y hy => ha y hy (WfAs_mem w3 y hy)
  rw [fmt_eq, bulk_eq]
  have e1 := decimal_len (m := c.minus) w1
  have e2 := esc_len 39 c.name
  have e3 := esc_len 34 c.name
  have e4 : (joins [32] (decide (c.kind = 5)) (c.kids.map fmt)).length ≤ ((c.kids.map fmt).map (fun t => 1 + t.length)).sum := joins_len [32] _ _
  have e5 : (joins [32] true (c.names.map bytesOf)).length ≤ ((c.names.map bytesOf).map (fun t => 1 + t.length)).sum := joins_len [32] _ _
  have e6 : (joins [59, 32] true (List.zipWith letPart c.names (c.kids.map fmt))).length ≤ ((List.zipWith letPart c.names (c.kids.map fmt)).map (fun t => 2 + t.length)).sum := joins_len [59, 32] _ _
  have e7 : (joins [59, 32] true (List.zipWith altPart c.alts (c.alts.map (fun a => fmt a.body)))).length ≤ 40 * abulks c.alts := Nat.le_trans (joins_len [59, 32] _ _) (alts_sum c.alts ha')
  have f4 := kids_sum hk'
  have f5 := names_sum c.names
  have f6 := lets_sum c.names c.kids hk'
  have d0 := getD_len hk' 0
  have d1 := getD_len hk' 1
  have dn := getD_take c.kids c.names.length hk'
  unfold fmtOf
  generalize joins [32] (decide (c.kind = 5)) (c.kids.map fmt) = j4 at *
  generalize joins [32] true (c.names.map bytesOf) = j5 at *
  generalize joins [59, 32] true (List.zipWith letPart c.names (c.kids.map fmt)) = j6 at *
  generalize joins [59, 32] true (List.zipWith altPart c.alts (c.alts.map (fun a => fmt a.body))) = j7 at *
  have sing : ∀ (k0 k1 : Nat), c.kids.length = 2 → ((c.kids.map fmt).getD 0 []).length + ((c.kids.map fmt).getD 1 []).length ≤ 40 * bulks c.kids := by
    intro _ _ h2
    match hc : c.kids, h2 with
    | [a, b], _ =>
      have h1 := hk' a (by rw [hc]; simp)
      have h3 := hk' b (by rw [hc]; simp)
      simp [bulks]
      omega
  have s2 := sing 0 0
  split
  · rw [bytesOf_length]; omega
  · split
    · omega
    · split
      · omega
      · split
        · omega
        · split
          · split
            · rw [bytesOf_length]; omega
            · simp only [List.length_append, List.length_cons, List.length_nil, bytesOf_length]; omega
          · split
            · simp only [List.length_append, List.length_cons, List.length_nil]; omega
            · split
              · simp only [List.length_append, List.length_cons, List.length_nil]
                omega
              · simp only [List.length_append, List.length_cons, List.length_nil]
                split <;> split <;> (try split) <;> simp only [List.length_append, List.length_cons, List.length_nil, bytesOf_length] <;> omega
end Go.Proofs.Ytagfphlhahiplaa.C13
namespace Go.Proofs.Ytagfphlhahiplaa.C13
open Go.RowKit Go.Proofs.YtagfphlhahiplaaW.PrintWords Go.Proofs.Ytagfphlhahiplaa.PFnExactFormatCore
attribute [local go_sem ↓] Go.wp_at_zero Go.wp_at_succ
set_option linter.unusedVariables false
set_option linter.unusedSimpArgs false
theorem Out.pre {base : Nat} {w W1 w' : World} {o v : Value} {ys : List Int} (hb : Below w.heap.size w W1) (h : Out base W1 o w' v ys) (hge : base ≤ w.heap.size) : Out base w o w' v ys :=
  ⟨h.own, grown_trans (grown_of_below hb _) h.gr, h.lies.imp id (fun ⟨b, h1, h2⟩ => ⟨b, h1, Nat.le_trans hb.size h2⟩), hge⟩
/-- the contract of l13Format at a term; S: where the term is read -/
def FmtSaid (x : CoreT) : Prop := WfC x → Shapes x → bulk x ≤ 1048576 → ∀ (S w : World) (cs : List Value) (base : Nat) (o : Value) (xs : List Int), IC.K S x cs → Below S.heap.size S w → S.heap.size ≤ base → base ≤ w.heap.size →
  w.ownsRow base 5 1 o xs.length (nums .u8 xs) → xs.length + (fmt x).length ≤ 1000000000 →
  Calls Try.prog 19 #[o, .agg cs.toArray] w fun e w' => ∃ v, e = .returned v ∧ Out base w o w' v (xs ++ fmt x)
theorem add_nought (a : Addr) : a.add 0 = a := by unfold Addr.add; split <;> simp_all
theorem kids_of {w : World} {x : CoreT} {A3 c3 A4 c4 A5 c5 A6 c6} (hK : IC.K w x (cellsC x A3 c3 A4 c4 A5 c5 A6 c6)) : IC.C w A5 x.kids.length x.kids := by
  obtain ⟨_, _, _, _, _, _, _, _, he, -, -, -, -, -, g5, -⟩ := core_open hK
  simp only [cellsC, List.cons.injEq, Value.slice.injEq, true_and, and_true] at he
  obtain ⟨⟨rfl, rfl⟩, ⟨rfl, rfl⟩, ⟨rfl, rfl⟩, ⟨rfl, rfl⟩⟩ := he
  exact g5
section
variable {S w : World} {x : CoreT} {A3 : Option Addr} {c3 : Nat} {A4 : Option Addr} {c4 : Nat} {A5 : Option Addr} {c5 : Nat} {A6 : Option Addr} {c6 : Nat} {base : Nat} {o : Value} {xs : List Int}
set_option maxRecDepth 100000 in
set_option maxHeartbeats 1000000 in
/-- a variable -/
theorem fmt_var (hk : x.kind = 1) (hge : base ≤ w.heap.size) (hown : w.ownsRow base 5 1 o xs.length (nums .u8 xs)) (hl : xs.length + x.name.size ≤ 1000000000) :
    Calls Try.prog 19 #[o, .agg (cellsC x A3 c3 A4 c4 A5 c5 A6 c6).toArray] w fun e w' => ∃ v, e = .returned v ∧ Out base w o w' v (xs ++ bytesOf x.name) := by
  have HO := Lib.hid hown; clear hown
  simp only [cellsC]
  rw [hk]
  have HK := Lib.hid hk; clear hk
  go_enter Try.func19, Try.ntmps19
  go_wp2_with (at_builtin; go_must (refine app_str (Out.alloc (Out.start HO.out hge) _) rfl _ _ rfl x.name rfl rfl hl ?_))
  intro v1 w1 h1
  have H1 := Lib.hid h1; clear h1
  go_wp2
  go_ret
  exact ⟨_, rfl, H1.out⟩
set_option maxRecDepth 100000 in
set_option maxHeartbeats 2000000 in
theorem fmt_app4 (hbk : bulk x ≤ 1048576) (hk : x.kind = 4) (hn : 0 < x.kids.length) (ih : ∀ y ∈ x.kids, FmtSaid y) (hw : WfCs x.kids) (hs : ∀ y ∈ x.kids, Shapes y) (hK : IC.K S x (cellsC x A3 c3 A4 c4 A5 c5 A6 c6))
    (hB : Below S.heap.size S w) (hSb : S.heap.size ≤ base) (hge : base ≤ w.heap.size) (hown : w.ownsRow base 5 1 o xs.length (nums .u8 xs))
    (hl : xs.length + ([40] ++ bytesOf x.name ++ joins [32] false (x.kids.map fmt) ++ [41]).length ≤ 1000000000) :
    Calls Try.prog 19 #[o, .agg (cellsC x A3 c3 A4 c4 A5 c5 A6 c6).toArray] w fun e w' => ∃ v, e = .returned v ∧ Out base w o w' v (xs ++ ([40] ++ bytesOf x.name ++ joins [32] false (x.kids.map fmt) ++ [41])) := by
  have HO := Lib.hid hown; clear hown
  have G5 := Lib.hid (kids_of hK); clear hK
  obtain ⟨b1, b2, b3, b4, b5⟩ := bounds hbk
  have IH := Lib.hid ih; have HW := Lib.hid hw; have HS := Lib.hid hs; clear ih hw hs
  have HBS := Lib.hid hB; clear hB
  have HBK := Lib.hid hbk; clear hbk
  simp only [cellsC]
  rw [hk]
  have HKK := Lib.hid hk; clear hk
  have qn : ((x.kids.length : Int) == 0) = false := beq_eq_false_iff_ne.2 (by omega)
  go_enter Try.func19, Try.ntmps19
  go_wp2_with fail
  obtain ⟨W1, hW1, hp1, hB1, hs1⟩ := boxed w [.int .i64 4, .string x.name, .bool x.minus, .slice A3 x.limbs.length c3, .slice A4 x.names.length c4, .slice A5 x.kids.length c5, .slice A6 x.alts.length c6] 36
  rw [← hW1]
  have BP1 := Lib.hid hp1; have HB1 := Lib.hid hB1
  have HNE := Lib.hid (show some w.heap.size ≠ o.ownBlock from fun h => by have := own_ltb HO.out _ h.symm; omega)
  have H1 := Lib.hid (Out.start (ownsRow_below HO.out hB1) (show base ≤ W1.heap.size by omega))
  have HOB := Lib.hid (own_base' HO.out)
  clear hW1 hp1 hB1 hs1
  have p1 := BP1.out.cell (j := 1) rfl
  simp only [List.length_append, bytesOf_length, List.length_cons, List.length_nil] at hl
  go_region_held3 (fun w' => w'.cell? ⟨w.heap.size, 1, none⟩ = some (.string x.name)) (first | go_keep | (exact ((by assumption : Out base W1 o _ _ _).blk BP1.out HNE.out).cell (j := 1) rfl))
    (first
      | (refine step_str (by assumption : Out base W1 o _ _ (xs ++ [40])) (by rfl) _ _ (by rfl) x.name (by rfl) (by rfl) (by simp; omega) ?_; intro v3 w3 h3)
      | (refine step_byte (Out.alloc (Out.drew H1.out) _) (by rfl) _ _ (by rfl) 40 _ (by rfl) (by rfl) (by simp [Addr.add]) (by omega) ?_; intro v2 w2 h2))
  rename_i hheld
  have H3 := Lib.hid h3
  clear hheld h2 h3 p1
  go_wp2_with fail
  go_loopw [0, 5] (fun v i wr => ∃ k : Nat, k ≤ x.kids.length ∧ i = .int .i64 k ∧ Hid (Out base W1 o wr v (xs ++ [40] ++ bytesOf x.name ++ joins [32] false ((x.kids.map fmt).take k)))) (fun _ i _ => x.kids.length - (intOf i).toNat)
  case atStart => exact ⟨0, Nat.zero_le _, rfl, Lib.hid (by simpa [joins] using H3.out)⟩
  case round =>
    obtain ⟨k, hk, rfl, HQ⟩ := hrel
    have HBP := Lib.hid (HQ.out.blk BP1.out HNE.out)
    have p5 := HBP.out.cell (j := 5) rfl
    by_cases hlt : k < x.kids.length
    · have p0 := HBP.out.cell (j := 0) rfl
      have hJ := joins_take_len [32] (x.kids.map fmt) (k + 1) false
      have hsn : (x.kids.map fmt).take (k + 1) = (x.kids.map fmt).take k ++ [fmt x.kids[k]] := by rw [take_snoc' (by rw [List.length_map]; exact hlt), List.getElem_map]
      rw [hsn, joins_snoc] at hJ
      have HSN := Lib.hid hsn; clear hsn
      simp only [List.length_append] at hJ
      rw [if_neg (fun h => by cases h.1)] at hJ
      by_cases hk0 : 0 < k
      · have q0 : decide (0 < (k : Int)) = true := decide_eq_true (by omega)
        go_wp2_with (at_builtin; go_must (refine app_byte HQ.out rfl _ _ rfl 32 rfl rfl (by simp only [List.length_append, List.length_cons, List.length_nil, bytesOf_length]; omega) ?_))
        intro v4 w4 h4
        have H4 := Lib.hid h4
        clear h4 p0 p5
        have HB4 := Lib.hid ((Below.step HBS.out HB1.out).trans ((H4.out.belowB HOB.out).mono hSb))
        have HBP4 := Lib.hid (H4.out.blk BP1.out HNE.out)
        have q5 := HBP4.out.cell (j := 5) rfl
        obtain ⟨ad, A3', c3', A4', c4', B5, d5, B6, d6, rfl, hKk, g0, g1, g2, g3, g4, g5, g6⟩ := elem_core_at G5.out HB4.out k hlt
        go_wp2_with fail
        refine (IH.out _ (List.getElem_mem hlt) (WfCs_mem HW.out _ (List.getElem_mem hlt)) (HS.out _ (List.getElem_mem hlt)) (by have := mem_bulks (List.getElem_mem hlt); have := HBK.out; rw [bulk_eq] at this; omega) S _ _ base _ _ hKk HB4.out hSb (Nat.le_trans H4.out.ge H4.out.gr.size) H4.out.own (by simp only [List.length_append, List.length_cons, List.length_nil, bytesOf_length] at hJ ⊢; omega)).mono ?_
        clear q5 g0 g1 g2 g3 g4 g5 g6 hKk
        rintro e w5 ⟨v5, rfl, h5⟩
        have H5 := Lib.hid (H4.out.trans h5); clear h5
        go_wp2
        go_roundw
        case rel => exact ⟨k + 1, by omega, by go_num, Lib.hid (by have := H5.out; rw [HSN.out, joins_snoc]; rw [if_neg (fun h => by cases h.1)]; simpa [List.append_assoc] using this)⟩
        case measure => simp [intOf]; omega
      · have q0 : decide (0 < (k : Int)) = false := decide_eq_false (by omega)
        go_wp2_with (at_builtin; go_must (refine app_byte HQ.out rfl _ _ rfl 32 rfl rfl (by simp only [List.length_append, List.length_cons, List.length_nil, bytesOf_length]; omega) ?_))
        intro v4 w4 h4
        have H4 := Lib.hid h4
        clear h4 p0 p5
        have HB4 := Lib.hid ((Below.step HBS.out HB1.out).trans ((H4.out.belowB HOB.out).mono hSb))
        have HBP4 := Lib.hid (H4.out.blk BP1.out HNE.out)
        have q5 := HBP4.out.cell (j := 5) rfl
        obtain ⟨ad, A3', c3', A4', c4', B5, d5, B6, d6, rfl, hKk, g0, g1, g2, g3, g4, g5, g6⟩ := elem_core_at G5.out HB4.out k hlt
        go_wp2_with fail
        refine (IH.out _ (List.getElem_mem hlt) (WfCs_mem HW.out _ (List.getElem_mem hlt)) (HS.out _ (List.getElem_mem hlt)) (by have := mem_bulks (List.getElem_mem hlt); have := HBK.out; rw [bulk_eq] at this; omega) S _ _ base _ _ hKk HB4.out hSb (Nat.le_trans H4.out.ge H4.out.gr.size) H4.out.own (by simp only [List.length_append, List.length_cons, List.length_nil, bytesOf_length] at hJ ⊢; omega)).mono ?_
        clear q5 g0 g1 g2 g3 g4 g5 g6 hKk
        rintro e w5 ⟨v5, rfl, h5⟩
        have H5 := Lib.hid (H4.out.trans h5); clear h5
        go_wp2
        go_roundw
        case rel => exact ⟨k + 1, by omega, by go_num, Lib.hid (by have := H5.out; rw [HSN.out, joins_snoc]; rw [if_neg (fun h => by cases h.1)]; simpa [List.append_assoc] using this)⟩
        case measure => simp [intOf]; omega
    · have hkk : k = x.kids.length := by omega
      have hq := HQ.out
      rw [hkk, List.take_of_length_le (by rw [List.length_map]; exact Nat.le_refl _)] at hq
      have HQ2 := Lib.hid hq; clear hq hkk
      go_wp2_with (at_builtin; go_must (refine app_byte HQ2.out rfl _ _ rfl 41 rfl rfl (by simp only [List.length_append, List.length_cons, List.length_nil, bytesOf_length]; omega) ?_))
      intro v4 w4 h4
      have H4 := Lib.hid h4
      clear h4 p5
      go_wp2
      go_ret
      exact ⟨_, rfl, Out.pre HB1.out (by simpa [List.append_assoc] using H4.out) hge⟩
set_option maxRecDepth 100000 in
set_option maxHeartbeats 2000000 in
theorem fmt_app9 (hbk : bulk x ≤ 1048576) (hk : x.kind = 9) (hn : 0 < x.kids.length) (ih : ∀ y ∈ x.kids, FmtSaid y) (hw : WfCs x.kids) (hs : ∀ y ∈ x.kids, Shapes y) (hK : IC.K S x (cellsC x A3 c3 A4 c4 A5 c5 A6 c6))
    (hB : Below S.heap.size S w) (hSb : S.heap.size ≤ base) (hge : base ≤ w.heap.size) (hown : w.ownsRow base 5 1 o xs.length (nums .u8 xs))
    (hl : xs.length + ([40] ++ bytesOf x.name ++ joins [32] false (x.kids.map fmt) ++ [41]).length ≤ 1000000000) :
    Calls Try.prog 19 #[o, .agg (cellsC x A3 c3 A4 c4 A5 c5 A6 c6).toArray] w fun e w' => ∃ v, e = .returned v ∧ Out base w o w' v (xs ++ ([40] ++ bytesOf x.name ++ joins [32] false (x.kids.map fmt) ++ [41])) := by
  have HO := Lib.hid hown; clear hown
  have G5 := Lib.hid (kids_of hK); clear hK
  obtain ⟨b1, b2, b3, b4, b5⟩ := bounds hbk
  have IH := Lib.hid ih; have HW := Lib.hid hw; have HS := Lib.hid hs; clear ih hw hs
  have HBS := Lib.hid hB; clear hB
  have HBK := Lib.hid hbk; clear hbk
  simp only [cellsC]
  rw [hk]
  have HKK := Lib.hid hk; clear hk
  have qn : ((x.kids.length : Int) == 0) = false := beq_eq_false_iff_ne.2 (by omega)
  go_enter Try.func19, Try.ntmps19
  go_wp2_with fail
  obtain ⟨W1, hW1, hp1, hB1, hs1⟩ := boxed w [.int .i64 9, .string x.name, .bool x.minus, .slice A3 x.limbs.length c3, .slice A4 x.names.length c4, .slice A5 x.kids.length c5, .slice A6 x.alts.length c6] 36
  rw [← hW1]
  have BP1 := Lib.hid hp1; have HB1 := Lib.hid hB1
  have HNE := Lib.hid (show some w.heap.size ≠ o.ownBlock from fun h => by have := own_ltb HO.out _ h.symm; omega)
  have H1 := Lib.hid (Out.start (ownsRow_below HO.out hB1) (show base ≤ W1.heap.size by omega))
  have HOB := Lib.hid (own_base' HO.out)
  clear hW1 hp1 hB1 hs1
  have p1 := BP1.out.cell (j := 1) rfl
  simp only [List.length_append, bytesOf_length, List.length_cons, List.length_nil] at hl
  go_region_held3 (fun w' => w'.cell? ⟨w.heap.size, 1, none⟩ = some (.string x.name)) (first | go_keep | (exact ((by assumption : Out base W1 o _ _ _).blk BP1.out HNE.out).cell (j := 1) rfl))
    (first
      | (refine step_str (by assumption : Out base W1 o _ _ (xs ++ [40])) (by rfl) _ _ (by rfl) x.name (by rfl) (by rfl) (by simp; omega) ?_; intro v3 w3 h3)
      | (refine step_byte (Out.alloc (Out.drew H1.out) _) (by rfl) _ _ (by rfl) 40 _ (by rfl) (by rfl) (by simp [Addr.add]) (by omega) ?_; intro v2 w2 h2))
  rename_i hheld
  have H3 := Lib.hid h3
  clear hheld h2 h3 p1
  go_wp2_with fail
  go_loopw [0, 5] (fun v i wr => ∃ k : Nat, k ≤ x.kids.length ∧ i = .int .i64 k ∧ Hid (Out base W1 o wr v (xs ++ [40] ++ bytesOf x.name ++ joins [32] false ((x.kids.map fmt).take k)))) (fun _ i _ => x.kids.length - (intOf i).toNat)
  case atStart => exact ⟨0, Nat.zero_le _, rfl, Lib.hid (by simpa [joins] using H3.out)⟩
  case round =>
    obtain ⟨k, hk, rfl, HQ⟩ := hrel
    have HBP := Lib.hid (HQ.out.blk BP1.out HNE.out)
    have p5 := HBP.out.cell (j := 5) rfl
    by_cases hlt : k < x.kids.length
    · have p0 := HBP.out.cell (j := 0) rfl
      have hJ := joins_take_len [32] (x.kids.map fmt) (k + 1) false
      have hsn : (x.kids.map fmt).take (k + 1) = (x.kids.map fmt).take k ++ [fmt x.kids[k]] := by rw [take_snoc' (by rw [List.length_map]; exact hlt), List.getElem_map]
      rw [hsn, joins_snoc] at hJ
      have HSN := Lib.hid hsn; clear hsn
      simp only [List.length_append] at hJ
      rw [if_neg (fun h => by cases h.1)] at hJ
      by_cases hk0 : 0 < k
      · have q0 : decide (0 < (k : Int)) = true := decide_eq_true (by omega)
        go_wp2_with (at_builtin; go_must (refine app_byte HQ.out rfl _ _ rfl 32 rfl rfl (by simp only [List.length_append, List.length_cons, List.length_nil, bytesOf_length]; omega) ?_))
        intro v4 w4 h4
        have H4 := Lib.hid h4
        clear h4 p0 p5
        have HB4 := Lib.hid ((Below.step HBS.out HB1.out).trans ((H4.out.belowB HOB.out).mono hSb))
        have HBP4 := Lib.hid (H4.out.blk BP1.out HNE.out)
        have q5 := HBP4.out.cell (j := 5) rfl
        obtain ⟨ad, A3', c3', A4', c4', B5, d5, B6, d6, rfl, hKk, g0, g1, g2, g3, g4, g5, g6⟩ := elem_core_at G5.out HB4.out k hlt
        go_wp2_with fail
        refine (IH.out _ (List.getElem_mem hlt) (WfCs_mem HW.out _ (List.getElem_mem hlt)) (HS.out _ (List.getElem_mem hlt)) (by have := mem_bulks (List.getElem_mem hlt); have := HBK.out; rw [bulk_eq] at this; omega) S _ _ base _ _ hKk HB4.out hSb (Nat.le_trans H4.out.ge H4.out.gr.size) H4.out.own (by simp only [List.length_append, List.length_cons, List.length_nil, bytesOf_length] at hJ ⊢; omega)).mono ?_
        clear q5 g0 g1 g2 g3 g4 g5 g6 hKk
        rintro e w5 ⟨v5, rfl, h5⟩
        have H5 := Lib.hid (H4.out.trans h5); clear h5
        go_wp2
        go_roundw
        case rel => exact ⟨k + 1, by omega, by go_num, Lib.hid (by have := H5.out; rw [HSN.out, joins_snoc]; rw [if_neg (fun h => by cases h.1)]; simpa [List.append_assoc] using this)⟩
        case measure => simp [intOf]; omega
      · have q0 : decide (0 < (k : Int)) = false := decide_eq_false (by omega)
        go_wp2_with (at_builtin; go_must (refine app_byte HQ.out rfl _ _ rfl 32 rfl rfl (by simp only [List.length_append, List.length_cons, List.length_nil, bytesOf_length]; omega) ?_))
        intro v4 w4 h4
        have H4 := Lib.hid h4
        clear h4 p0 p5
        have HB4 := Lib.hid ((Below.step HBS.out HB1.out).trans ((H4.out.belowB HOB.out).mono hSb))
        have HBP4 := Lib.hid (H4.out.blk BP1.out HNE.out)
        have q5 := HBP4.out.cell (j := 5) rfl
        obtain ⟨ad, A3', c3', A4', c4', B5, d5, B6, d6, rfl, hKk, g0, g1, g2, g3, g4, g5, g6⟩ := elem_core_at G5.out HB4.out k hlt
        go_wp2_with fail
        refine (IH.out _ (List.getElem_mem hlt) (WfCs_mem HW.out _ (List.getElem_mem hlt)) (HS.out _ (List.getElem_mem hlt)) (by have := mem_bulks (List.getElem_mem hlt); have := HBK.out; rw [bulk_eq] at this; omega) S _ _ base _ _ hKk HB4.out hSb (Nat.le_trans H4.out.ge H4.out.gr.size) H4.out.own (by simp only [List.length_append, List.length_cons, List.length_nil, bytesOf_length] at hJ ⊢; omega)).mono ?_
        clear q5 g0 g1 g2 g3 g4 g5 g6 hKk
        rintro e w5 ⟨v5, rfl, h5⟩
        have H5 := Lib.hid (H4.out.trans h5); clear h5
        go_wp2
        go_roundw
        case rel => exact ⟨k + 1, by omega, by go_num, Lib.hid (by have := H5.out; rw [HSN.out, joins_snoc]; rw [if_neg (fun h => by cases h.1)]; simpa [List.append_assoc] using this)⟩
        case measure => simp [intOf]; omega
    · have hkk : k = x.kids.length := by omega
      have hq := HQ.out
      rw [hkk, List.take_of_length_le (by rw [List.length_map]; exact Nat.le_refl _)] at hq
      have HQ2 := Lib.hid hq; clear hq hkk
      go_wp2_with (at_builtin; go_must (refine app_byte HQ2.out rfl _ _ rfl 41 rfl rfl (by simp only [List.length_append, List.length_cons, List.length_nil, bytesOf_length]; omega) ?_))
      intro v4 w4 h4
      have H4 := Lib.hid h4
      clear h4 p5
      go_wp2
      go_ret
      exact ⟨_, rfl, Out.pre HB1.out (by simpa [List.append_assoc] using H4.out) hge⟩
set_option maxRecDepth 100000 in
set_option maxHeartbeats 2000000 in
theorem fmt_app5 (hbk : bulk x ≤ 1048576) (hk : x.kind = 5) (hn : 0 < x.kids.length) (ih : ∀ y ∈ x.kids, FmtSaid y) (hw : WfCs x.kids) (hs : ∀ y ∈ x.kids, Shapes y) (hK : IC.K S x (cellsC x A3 c3 A4 c4 A5 c5 A6 c6))
    (hB : Below S.heap.size S w) (hSb : S.heap.size ≤ base) (hge : base ≤ w.heap.size) (hown : w.ownsRow base 5 1 o xs.length (nums .u8 xs))
    (hl : xs.length + ([40] ++ bytesOf x.name ++ joins [32] true (x.kids.map fmt) ++ [41]).length ≤ 1000000000) :
    Calls Try.prog 19 #[o, .agg (cellsC x A3 c3 A4 c4 A5 c5 A6 c6).toArray] w fun e w' => ∃ v, e = .returned v ∧ Out base w o w' v (xs ++ ([40] ++ bytesOf x.name ++ joins [32] true (x.kids.map fmt) ++ [41])) := by
  have HO := Lib.hid hown; clear hown
  have G5 := Lib.hid (kids_of hK); clear hK
  obtain ⟨b1, b2, b3, b4, b5⟩ := bounds hbk
  have IH := Lib.hid ih; have HW := Lib.hid hw; have HS := Lib.hid hs; clear ih hw hs
  have HBS := Lib.hid hB; clear hB
  have HBK := Lib.hid hbk; clear hbk
  simp only [cellsC]
  rw [hk]
  have HKK := Lib.hid hk; clear hk
  have qn : ((x.kids.length : Int) == 0) = false := beq_eq_false_iff_ne.2 (by omega)
  go_enter Try.func19, Try.ntmps19
  go_wp2_with fail
  obtain ⟨W1, hW1, hp1, hB1, hs1⟩ := boxed w [.int .i64 5, .string x.name, .bool x.minus, .slice A3 x.limbs.length c3, .slice A4 x.names.length c4, .slice A5 x.kids.length c5, .slice A6 x.alts.length c6] 36
  rw [← hW1]
  have BP1 := Lib.hid hp1; have HB1 := Lib.hid hB1
  have HNE := Lib.hid (show some w.heap.size ≠ o.ownBlock from fun h => by have := own_ltb HO.out _ h.symm; omega)
  have H1 := Lib.hid (Out.start (ownsRow_below HO.out hB1) (show base ≤ W1.heap.size by omega))
  have HOB := Lib.hid (own_base' HO.out)
  clear hW1 hp1 hB1 hs1
  have p1 := BP1.out.cell (j := 1) rfl
  simp only [List.length_append, bytesOf_length, List.length_cons, List.length_nil] at hl
  go_region_held3 (fun w' => w'.cell? ⟨w.heap.size, 1, none⟩ = some (.string x.name)) (first | go_keep | (exact ((by assumption : Out base W1 o _ _ _).blk BP1.out HNE.out).cell (j := 1) rfl))
    (first
      | (refine step_str (by assumption : Out base W1 o _ _ (xs ++ [40])) (by rfl) _ _ (by rfl) x.name (by rfl) (by rfl) (by simp; omega) ?_; intro v3 w3 h3)
      | (refine step_byte (Out.alloc (Out.drew H1.out) _) (by rfl) _ _ (by rfl) 40 _ (by rfl) (by rfl) (by simp [Addr.add]) (by omega) ?_; intro v2 w2 h2))
  rename_i hheld
  have H3 := Lib.hid h3
  clear hheld h2 h3 p1
  go_wp2_with fail
  go_loopw [0, 5] (fun v i wr => ∃ k : Nat, k ≤ x.kids.length ∧ i = .int .i64 k ∧ Hid (Out base W1 o wr v (xs ++ [40] ++ bytesOf x.name ++ joins [32] true ((x.kids.map fmt).take k)))) (fun _ i _ => x.kids.length - (intOf i).toNat)
  case atStart => exact ⟨0, Nat.zero_le _, rfl, Lib.hid (by simpa [joins] using H3.out)⟩
  case round =>
    obtain ⟨k, hk, rfl, HQ⟩ := hrel
    have HBP := Lib.hid (HQ.out.blk BP1.out HNE.out)
    have p5 := HBP.out.cell (j := 5) rfl
    by_cases hlt : k < x.kids.length
    · have p0 := HBP.out.cell (j := 0) rfl
      have hJ := joins_take_len [32] (x.kids.map fmt) (k + 1) true
      have hsn : (x.kids.map fmt).take (k + 1) = (x.kids.map fmt).take k ++ [fmt x.kids[k]] := by rw [take_snoc' (by rw [List.length_map]; exact hlt), List.getElem_map]
      rw [hsn, joins_snoc] at hJ
      have HSN := Lib.hid hsn; clear hsn
      simp only [List.length_append] at hJ
      by_cases hk0 : k = 0
      · subst hk0
        have ht0 : (x.kids.map fmt).take 0 = [] := rfl
        rw [if_pos (by simp)] at hJ
        have HB4 := Lib.hid ((Below.step HBS.out HB1.out).trans ((HQ.out.belowB HOB.out).mono hSb))
        have HBP4 := Lib.hid (HQ.out.blk BP1.out HNE.out)
        have q5 := HBP4.out.cell (j := 5) rfl
        obtain ⟨ad, A3', c3', A4', c4', B5, d5, B6, d6, rfl, hKk, g0, g1, g2, g3, g4, g5, g6⟩ := elem_core_at G5.out HB4.out 0 hlt
        rw [Nat.zero_mul, add_nought] at g0 g1 g2 g3 g4 g5 g6
        go_wp2_with fail
        refine (IH.out _ (List.getElem_mem hlt) (WfCs_mem HW.out _ (List.getElem_mem hlt)) (HS.out _ (List.getElem_mem hlt)) (by have := mem_bulks (List.getElem_mem hlt); have := HBK.out; rw [bulk_eq] at this; omega) S _ _ base _ _ hKk HB4.out hSb (Nat.le_trans HQ.out.ge HQ.out.gr.size) HQ.out.own (by simp only [List.length_append, List.length_cons, List.length_nil, bytesOf_length] at hJ ⊢; omega)).mono ?_
        clear q5 p0 p5 g0 g1 g2 g3 g4 g5 g6 hKk
        rintro e w5 ⟨v5, rfl, h5⟩
        have H5 := Lib.hid (HQ.out.trans h5); clear h5
        go_wp2
        go_roundw
        case rel => exact ⟨0 + 1, by omega, by go_num, Lib.hid (by have := H5.out; rw [HSN.out, joins_snoc]; rw [if_pos (by simp)]; simpa [List.append_assoc] using this)⟩
        case measure => simp [intOf]; omega
      · have q0 : decide (0 < (k : Int)) = true := decide_eq_true (by omega)
        have hne : ¬ ((x.kids.map fmt).take k = []) := by intro h; have := congrArg List.length h; rw [List.length_take, List.length_map, List.length_nil] at this; omega
        rw [if_neg (fun h => hne h.2)] at hJ
        have HNE0 := Lib.hid hne; clear hne
        go_wp2_with (at_builtin; go_must (refine app_byte HQ.out rfl _ _ rfl 32 rfl rfl (by simp only [List.length_append, List.length_cons, List.length_nil, bytesOf_length]; omega) ?_))
        intro v4 w4 h4
        have H4 := Lib.hid h4
        clear h4 p0 p5
        have HB4 := Lib.hid ((Below.step HBS.out HB1.out).trans ((H4.out.belowB HOB.out).mono hSb))
        have HBP4 := Lib.hid (H4.out.blk BP1.out HNE.out)
        have q5 := HBP4.out.cell (j := 5) rfl
        obtain ⟨ad, A3', c3', A4', c4', B5, d5, B6, d6, rfl, hKk, g0, g1, g2, g3, g4, g5, g6⟩ := elem_core_at G5.out HB4.out k hlt
        go_wp2_with fail
        refine (IH.out _ (List.getElem_mem hlt) (WfCs_mem HW.out _ (List.getElem_mem hlt)) (HS.out _ (List.getElem_mem hlt)) (by have := mem_bulks (List.getElem_mem hlt); have := HBK.out; rw [bulk_eq] at this; omega) S _ _ base _ _ hKk HB4.out hSb (Nat.le_trans H4.out.ge H4.out.gr.size) H4.out.own (by simp only [List.length_append, List.length_cons, List.length_nil, bytesOf_length] at hJ ⊢; omega)).mono ?_
        clear q5 g0 g1 g2 g3 g4 g5 g6 hKk
        rintro e w5 ⟨v5, rfl, h5⟩
        have H5 := Lib.hid (H4.out.trans h5); clear h5
        go_wp2
        go_roundw
        case rel => exact ⟨k + 1, by omega, by go_num, Lib.hid (by have := H5.out; rw [HSN.out, joins_snoc]; rw [if_neg (fun h => HNE0.out h.2)]; simpa [List.append_assoc] using this)⟩
        case measure => simp [intOf]; omega
    · have hkk : k = x.kids.length := by omega
      have hq := HQ.out
      rw [hkk, List.take_of_length_le (by rw [List.length_map]; exact Nat.le_refl _)] at hq
      have HQ2 := Lib.hid hq; clear hq hkk
      go_wp2_with (at_builtin; go_must (refine app_byte HQ2.out rfl _ _ rfl 41 rfl rfl (by simp only [List.length_append, List.length_cons, List.length_nil, bytesOf_length]; omega) ?_))
      intro v4 w4 h4
      have H4 := Lib.hid h4
      clear h4 p5
      go_wp2
      go_ret
      exact ⟨_, rfl, Out.pre HB1.out (by simpa [List.append_assoc] using H4.out) hge⟩
end
end Go.Proofs.Ytagfphlhahiplaa.C13
namespace Go.Proofs.Ytagfphlhahiplaa.C13
open Go.RowKit Go.Proofs.YtagfphlhahiplaaW.PrintWords Go.Proofs.Ytagfphlhahiplaa.PFnExactFormatCore
set_option linter.unusedVariables false
set_option linter.unusedSimpArgs false
def okB (l : List Int) : Prop := ∀ b ∈ l, 0 ≤ b ∧ b < 256
theorem bytes_of {l : List Int} (h : okB l) : bytesOf (strOfNums l) = l := by
  unfold bytesOf
  rw [strOfNums_data, List.map_map]
  conv => rhs; rw [← List.map_id l]
  refine List.map_congr_left (fun b hb => ?_)
  have := h b hb
  simp [UInt8.toNat_ofNat']
  omega
theorem okB_app {l m : List Int} (h : okB l) (k : okB m) : okB (l ++ m) := fun b hb => (List.mem_append.1 hb).elim (h b) (k b)
theorem okB_bytes (s : ByteArray) : okB (bytesOf s) := by
  intro b hb
  unfold bytesOf at hb
  obtain ⟨c, _, rfl⟩ := List.mem_map.1 hb
  have := c.toNat_lt
  omega
theorem okB_dig (n : Nat) : okB (dig n) := by
  induction n using Nat.strongRecOn with
  | _ n ih =>
    by_cases h : n = 0
    · subst h; rw [dig_zero]; intro b hb; cases hb
    · rw [dig_pos h]
      refine okB_app (ih (n / 10) (by omega)) ?_
      intro b hb
      rw [List.mem_singleton.1 hb]
      omega
theorem okB_decimal (m : Bool) (l : List Int) : okB (decimal m l) := by
  unfold decimal
  split
  · intro b hb; cases hb
  · refine okB_app ?_ ?_
    · split
      · intro b hb; rw [List.mem_singleton.1 hb]; omega
      · intro b hb; cases hb
    · split
      · intro b hb; rw [List.mem_singleton.1 hb]; omega
      · exact okB_dig _
theorem okB_esc1 {mark c : Int} (h : 0 ≤ c ∧ c < 256) : okB (esc1 mark c) := by
  unfold esc1
  repeat' split
  all_goals
    intro b hb
    simp at hb
    omega
theorem okB_esc {mark : Int} (hm : 0 ≤ mark ∧ mark < 256) (s : ByteArray) : okB (esc mark s) := by
  unfold esc
  intro b hb
  rcases List.mem_cons.1 hb with rfl | hb
  · exact hm
  · rcases List.mem_append.1 hb with hb | hb
    · obtain ⟨c, hc, hb⟩ := List.mem_flatMap.1 hb
      exact okB_esc1 (okB_bytes s c hc) b hb
    · rw [List.mem_singleton.1 hb]; exact hm
section
variable {S w : World} {x : CoreT} {A3 : Option Addr} {c3 : Nat} {A4 : Option Addr} {c4 : Nat} {A5 : Option Addr} {c5 : Nat} {A6 : Option Addr} {c6 : Nat} {base : Nat} {o : Value} {xs : List Int}
set_option maxRecDepth 100000 in
set_option maxHeartbeats 1000000 in
/-- a number -/
theorem fmt_num (hbk : bulk x ≤ 1048576) (hk : x.kind = 2) (hw : okLimbs x.limbs) (hK : IC.K S x (cellsC x A3 c3 A4 c4 A5 c5 A6 c6)) (hB : Below S.heap.size S w) (hge : base ≤ w.heap.size) (hown : w.ownsRow base 5 1 o xs.length (nums .u8 xs)) (hl : xs.length + (decimal x.minus x.limbs).length ≤ 1000000000) :
    Calls Try.prog 19 #[o, .agg (cellsC x A3 c3 A4 c4 A5 c5 A6 c6).toArray] w fun e w' => ∃ v, e = .returned v ∧ Out base w o w' v (xs ++ decimal x.minus x.limbs) := by
  have HO := Lib.hid hown; clear hown
  obtain ⟨b1, b2, b3, b4, b5⟩ := bounds hbk
  have LM := Lib.hid (limbs_of hK); clear hK
  have HBS := Lib.hid hB; clear hB
  obtain ⟨K, hKe⟩ := spec_BigText_eq x.minus x.limbs hw (by omega)
  have HKE := Lib.hid (hKe K (Nat.le_refl _)); clear hKe
  simp only [cellsC]
  rw [hk]
  have HK := Lib.hid hk; clear hk
  go_enter Try.func19, Try.ntmps19
  go_wp2_with fail
  have HGB := Lib.hid (grown_box w (.cells #[.int .i64 2, .string x.name, .bool x.minus, .slice A3 x.limbs.length c3, .slice A4 x.names.length c4, .slice A5 x.kids.length c5, .slice A6 x.alts.length c6] 36))
  refine (spec_BigText.calls K x.minus A3 c3 x.limbs _ _ (Kd.C_below LM.out.2 (Below.step HBS.out HGB.out)) LM.out.1 HKE.out).mono ?_
  rintro e w2 ⟨rfl, hb2⟩
  have HB2 := Lib.hid (Below.step HGB.out hb2); clear hb2
  go_wp2_with (at_builtin; go_must (refine app_str (Out.below (Out.start HO.out hge) HB2.out) rfl _ _ rfl (strOfNums (decimal x.minus x.limbs)) rfl rfl (by rw [strOfNums_size]; exact hl) ?_))
  intro v1 w1 h1
  rw [bytes_of (okB_decimal _ _)] at h1
  have H1 := Lib.hid h1; clear h1
  go_wp2
  go_ret
  exact ⟨_, rfl, H1.out⟩
set_option maxRecDepth 100000 in
set_option maxHeartbeats 1000000 in
/-- a character or a text -/
theorem fmt_chr (hk : x.kind = 3) (hsz : x.name.size ≤ 1048576) (hge : base ≤ w.heap.size) (hown : w.ownsRow base 5 1 o xs.length (nums .u8 xs)) (hl : xs.length + (esc 39 x.name).length ≤ 1000000000) :
    Calls Try.prog 19 #[o, .agg (cellsC x A3 c3 A4 c4 A5 c5 A6 c6).toArray] w fun e w' => ∃ v, e = .returned v ∧ Out base w o w' v (xs ++ esc 39 x.name) := by
  have HO := Lib.hid hown; clear hown
  simp only [cellsC]
  rw [hk]
  have HK := Lib.hid hk; clear hk
  go_enter Try.func19, Try.ntmps19
  go_wp2_with fail
  have HGB := Lib.hid (grown_box w (.cells #[.int .i64 3, .string x.name, .bool x.minus, .slice A3 x.limbs.length c3, .slice A4 x.names.length c4, .slice A5 x.kids.length c5, .slice A6 x.alts.length c6] 36))
  refine (spec_l2Escape.calls (x.name.size + 1) x.name 39 _ _ (l2Escape_eq x.name 39 hsz)).mono ?_
  rintro e w2 ⟨rfl, hb2⟩
  have HB2 := Lib.hid (Below.step HGB.out hb2); clear hb2
  go_wp2_with (at_builtin; go_must (refine app_str (Out.below (Out.start HO.out hge) HB2.out) rfl _ _ rfl (strOfNums (esc 39 x.name)) rfl rfl (by rw [strOfNums_size]; exact hl) ?_))
  intro v1 w1 h1
  rw [bytes_of (okB_esc (by omega) _)] at h1
  have H1 := Lib.hid h1; clear h1
  go_wp2
  go_ret
  exact ⟨_, rfl, H1.out⟩
set_option maxRecDepth 100000 in
set_option maxHeartbeats 1000000 in
/-- a character or a text -/
theorem fmt_txt (hk : x.kind = 10) (hsz : x.name.size ≤ 1048576) (hge : base ≤ w.heap.size) (hown : w.ownsRow base 5 1 o xs.length (nums .u8 xs)) (hl : xs.length + (esc 34 x.name).length ≤ 1000000000) :
    Calls Try.prog 19 #[o, .agg (cellsC x A3 c3 A4 c4 A5 c5 A6 c6).toArray] w fun e w' => ∃ v, e = .returned v ∧ Out base w o w' v (xs ++ esc 34 x.name) := by
  have HO := Lib.hid hown; clear hown
  simp only [cellsC]
  rw [hk]
  have HK := Lib.hid hk; clear hk
  go_enter Try.func19, Try.ntmps19
  go_wp2_with fail
  have HGB := Lib.hid (grown_box w (.cells #[.int .i64 10, .string x.name, .bool x.minus, .slice A3 x.limbs.length c3, .slice A4 x.names.length c4, .slice A5 x.kids.length c5, .slice A6 x.alts.length c6] 36))
  refine (spec_l2Escape.calls (x.name.size + 1) x.name 34 _ _ (l2Escape_eq x.name 34 hsz)).mono ?_
  rintro e w2 ⟨rfl, hb2⟩
  have HB2 := Lib.hid (Below.step HGB.out hb2); clear hb2
  go_wp2_with (at_builtin; go_must (refine app_str (Out.below (Out.start HO.out hge) HB2.out) rfl _ _ rfl (strOfNums (esc 34 x.name)) rfl rfl (by rw [strOfNums_size]; exact hl) ?_))
  intro v1 w1 h1
  rw [bytes_of (okB_esc (by omega) _)] at h1
  have H1 := Lib.hid h1; clear h1
  go_wp2
  go_ret
  exact ⟨_, rfl, H1.out⟩
set_option maxRecDepth 100000 in
set_option maxHeartbeats 1000000 in
/-- no parts -/
theorem fmt_bare4 (hk : x.kind = 4) (hn : x.kids.length = 0) (hge : base ≤ w.heap.size) (hown : w.ownsRow base 5 1 o xs.length (nums .u8 xs)) (hl : xs.length + x.name.size ≤ 1000000000) :
    Calls Try.prog 19 #[o, .agg (cellsC x A3 c3 A4 c4 A5 c5 A6 c6).toArray] w fun e w' => ∃ v, e = .returned v ∧ Out base w o w' v (xs ++ bytesOf x.name) := by
  have HO := Lib.hid hown; clear hown
  simp only [cellsC]
  rw [hk, hn]
  have HK := Lib.hid hk; clear hk
  have HN := Lib.hid hn; clear hn
  go_enter Try.func19, Try.ntmps19
  go_wp2_with (at_builtin; refine app_str (Out.alloc (Out.start HO.out hge) _) rfl _ _ rfl x.name rfl rfl hl ?_)
  intro v1 w1 h1
  have H1 := Lib.hid h1; clear h1
  go_wp2
  go_ret
  exact ⟨_, rfl, H1.out⟩
set_option maxRecDepth 100000 in
set_option maxHeartbeats 1000000 in
/-- no parts -/
theorem fmt_bare9 (hk : x.kind = 9) (hn : x.kids.length = 0) (hge : base ≤ w.heap.size) (hown : w.ownsRow base 5 1 o xs.length (nums .u8 xs)) (hl : xs.length + x.name.size ≤ 1000000000) :
    Calls Try.prog 19 #[o, .agg (cellsC x A3 c3 A4 c4 A5 c5 A6 c6).toArray] w fun e w' => ∃ v, e = .returned v ∧ Out base w o w' v (xs ++ bytesOf x.name) := by
  have HO := Lib.hid hown; clear hown
  simp only [cellsC]
  rw [hk, hn]
  have HK := Lib.hid hk; clear hk
  have HN := Lib.hid hn; clear hn
  go_enter Try.func19, Try.ntmps19
  go_wp2_with (at_builtin; refine app_str (Out.alloc (Out.start HO.out hge) _) rfl _ _ rfl x.name rfl rfl hl ?_)
  intro v1 w1 h1
  have H1 := Lib.hid h1; clear h1
  go_wp2
  go_ret
  exact ⟨_, rfl, H1.out⟩
end
end Go.Proofs.Ytagfphlhahiplaa.C13
