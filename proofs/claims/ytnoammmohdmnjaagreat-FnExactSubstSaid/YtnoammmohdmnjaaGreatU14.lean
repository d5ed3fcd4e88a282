import Derived.Test.YtnoammmohdmnjaaGreatU13
set_option maxRecDepth 100000
set_option maxHeartbeats 16000000
set_option linter.unusedVariables false
set_option linter.unusedSimpArgs false
namespace Go.Proofs.YtnoammmohdmnjaaGreat.C13
open Go.RowKit Go.Proofs.YtnoammmohdmnjaaGreatW.PrintWords
open List renaming setIfInBounds_toArray → Jla, set_cons_zero → Jlb, set_cons_succ → Jlc
section
variable {S w : World} {x : CoreT} {p : Addr}
theorem qpr (l : List AltT) : qcl l ↔ (∀ a ∈ l, Zh a.names) ∧ Zh (l.map (·.con)) := by
 unfold qcl qch Zh
 constructor
 ·rintro ⟨h, h2⟩
  refine ⟨fun a ha => (h a ha).2, fun s hs => ?_, h2⟩
  obtain ⟨a, ha, rfl⟩ := List.mem_map.1 hs
  exact (h a ha).1
 ·rintro ⟨h, h2, h3⟩
  exact ⟨fun a ha => ⟨h2 _ (List.mem_map.2 ⟨a, ha, rfl⟩), h a ha⟩, h3⟩
theorem qjt (x : CoreT) : Zw x ↔ (x.kind = 2 ∨ Ql x) ∧ (x.kind = 8 ∨ x.alts.length = 0) ∧ (x.kind = 6 ∨ x.kind = 7 ∨ x.names.length = 0) ∧
 ((x.kind = 1 ∧ 0 < x.name.size ∧ x.kids.length = 0) ∨ (x.kind = 2 ∧ x.name.size = 0 ∧ x.kids.length = 0 ∧ Jl x.minus x.limbs = false) ∨ (x.kind = 3 ∧ x.name.size = 1 ∧ x.kids.length = 0) ∨
  (x.kind = 4 ∧ 0 < x.name.size) ∨ (x.kind = 10 ∧ 0 < x.name.size ∧ x.name.size ≤ 60000 ∧ x.kids.length = 0) ∨ (x.kind = 5 ∧ x.name.size = 0 ∧ 2 ≤ x.kids.length) ∨
  (x.kind = 6 ∧ x.name.size = 0 ∧ x.kids.length = 1 ∧ 0 < x.names.length ∧ Zh x.names) ∨ (x.kind = 7 ∧ x.name.size = 0 ∧ x.kids.length = x.names.length + 1 ∧ 0 < x.names.length ∧ Zh x.names) ∨
  (x.kind = 8 ∧ (x.kids.length = 2 ∨ x.kids.length = 1 ∧ 0 < x.alts.length) ∧ qcl x.alts) ∨ (x.kind = 9 ∧ Hb x ∧ Ha x)) := by
 unfold Zw Ql Hb Ha
 constructor
 ·rintro ⟨h1, h2, h3, h4, h5⟩
  exact ⟨by rcases h1 with h1 | h1 <;> rcases h2 with h2 | h2 <;> first | exact .inl h1 | exact .inl h2 | exact .inr ⟨h2, h1⟩, h3, h4, h5⟩
 ·rintro ⟨h1, h3, h4, h5⟩
  exact ⟨by rcases h1 with h1 | h1 <;> first | exact .inl h1 | exact .inr h1.2, by rcases h1 with h1 | h1 <;> first | exact .inl h1 | exact .inr h1.1, h3, h4, h5⟩
theorem f15 {p : Prop} (h : p := by
 rw [qjt]
 simp only [hk, qdh]
 generalize Ql x = q1
 generalize Jl x.minus x.limbs = q2
 generalize Zh x.names = q3
 generalize Hb x = q5
 generalize Ha x = q6
 generalize qcl x.alts = q7
 constructor
 ·intro h; grind
 ·intro h; grind) : p := h
theorem qno (hk : x.kind = 1) : Zw x ↔ (0 < x.name.size) ∧ (qdh x) ∧ (Ql x) := by
 exact f15
theorem qnn (hk : x.kind = 2) : Zw x ↔ (x.name.size = 0) ∧ (qdh x) ∧ (Jl x.minus x.limbs = false) := by
 exact f15
theorem qlt (hk : x.kind = 3) : Zw x ↔ (x.name.size = 1) ∧ (qdh x) ∧ (Ql x) := by
 exact f15
theorem qnk (hk : x.kind = 4) : Zw x ↔ (0 < x.name.size) ∧ (x.names.length = 0) ∧ (x.alts.length = 0) ∧ (Ql x) := by
 exact f15
theorem qnj (hk : x.kind = 5) : Zw x ↔ (x.name.size = 0) ∧ (2 ≤ x.kids.length) ∧ (x.names.length = 0) ∧ (x.alts.length = 0) ∧ (Ql x) := by
 exact f15
theorem qnl (hk : x.kind = 6) : Zw x ↔ (x.name.size = 0) ∧ (x.kids.length = 1) ∧ (0 < x.names.length) ∧ (Zh x.names) ∧ (x.alts.length = 0) ∧ (Ql x) := by
 exact f15
theorem qnm (hk : x.kind = 7) : Zw x ↔ (x.name.size = 0) ∧ (0 < x.names.length) ∧ (x.kids.length = x.names.length + 1) ∧ (Zh x.names) ∧ (x.alts.length = 0) ∧ (Ql x) := by
 exact f15
theorem qls (hk : x.kind = 8) : Zw x ↔ (x.names.length = 0) ∧ (Ql x) ∧ (1 ≤ x.kids.length) ∧ (x.kids.length ≤ 2) ∧ (2 ≤ x.kids.length + x.alts.length) ∧ (∀ a ∈ x.alts, Zh a.names) ∧ Zh (x.alts.map (·.con)) := by
 rw [qjt, qpr]
 simp only [hk, qdh]
 generalize Ql x = q1
 generalize Jl x.minus x.limbs = q2
 generalize Zh x.names = q3
 generalize Hb x = q5
 generalize Ha x = q6
 generalize (∀ a ∈ x.alts, Zh a.names) = q7
 generalize Zh (x.alts.map (·.con)) = q8
 constructor
 ·intro h; grind
 ·intro h; grind
theorem qlu (hk : x.kind = 9) : Zw x ↔ (Hb x) ∧ (Ha x) ∧ (x.names.length = 0) ∧ (x.alts.length = 0) ∧ (Ql x) := by
 exact f15
theorem qlv (hk : x.kind = 10) : Zw x ↔ (0 < x.name.size) ∧ (x.name.size ≤ 60000) ∧ (qdh x) ∧ (Ql x) := by
 exact f15
theorem qqt (h : ¬ (1 ≤ x.kind ∧ x.kind ≤ 10)) : ¬ Zw x := by
 rw [qjt]
 intro hs
 omega
end
section
variable {S w : World} {x : CoreT} {p : Addr}
theorem f13 {p : Prop} (h : p := by
 obtain ⟨A3, c3, A4, c4, A5, c5, A6, c6, hK, g0, g1, g2, g3, g4, g5, g6⟩ := hat
 clear hK g1 g2 g3 g4 g5 g6
 have HB := Wd (Zv w (.cells #[.pointer (some p)] 108))
 replace g0 := Cl HB.out g0
 rw [hk] at g0
 go_enter Tryz.func56, Tryz.ntmps56
 go_wp2
 go_ret
 exact ⟨rfl, HB.out⟩) : p := h
theorem qri (hat : At w x p) (hk : x.kind = 1) : Calls Tryz.prog 56 #[.pointer (some p)] w fun e w' => e = .returned (.iface 110 (.agg #[.pointer (some p)])) ∧ Below w.heap.size w w' := by
 exact f13
theorem qrh (hat : At w x p) (hk : x.kind = 2) : Calls Tryz.prog 56 #[.pointer (some p)] w fun e w' => e = .returned (.iface 111 (.agg #[.pointer (some p)])) ∧ Below w.heap.size w w' := by
 exact f13
theorem qnt (hat : At w x p) (hk : x.kind = 3) : Calls Tryz.prog 56 #[.pointer (some p)] w fun e w' => e = .returned (.iface 112 (.agg #[.pointer (some p)])) ∧ Below w.heap.size w w' := by
 exact f13
theorem qre (hat : At w x p) (hk : x.kind = 4) : Calls Tryz.prog 56 #[.pointer (some p)] w fun e w' => e = .returned (.iface 113 (.agg #[.pointer (some p)])) ∧ Below w.heap.size w w' := by
 exact f13
theorem qrd (hat : At w x p) (hk : x.kind = 5) : Calls Tryz.prog 56 #[.pointer (some p)] w fun e w' => e = .returned (.iface 114 (.agg #[.pointer (some p)])) ∧ Below w.heap.size w w' := by
 exact f13
theorem qrf (hat : At w x p) (hk : x.kind = 6) : Calls Tryz.prog 56 #[.pointer (some p)] w fun e w' => e = .returned (.iface 115 (.agg #[.pointer (some p)])) ∧ Below w.heap.size w w' := by
 exact f13
theorem qrg (hat : At w x p) (hk : x.kind = 7) : Calls Tryz.prog 56 #[.pointer (some p)] w fun e w' => e = .returned (.iface 116 (.agg #[.pointer (some p)])) ∧ Below w.heap.size w w' := by
 exact f13
theorem qns (hat : At w x p) (hk : x.kind = 8) : Calls Tryz.prog 56 #[.pointer (some p)] w fun e w' => e = .returned (.iface 117 (.agg #[.pointer (some p)])) ∧ Below w.heap.size w w' := by
 exact f13
theorem qnu (hat : At w x p) (hk : x.kind = 9) : Calls Tryz.prog 56 #[.pointer (some p)] w fun e w' => e = .returned (.iface 118 (.agg #[.pointer (some p)])) ∧ Below w.heap.size w w' := by
 exact f13
theorem qnv (hat : At w x p) (hk : x.kind = 10) : Calls Tryz.prog 56 #[.pointer (some p)] w fun e w' => e = .returned (.iface 119 (.agg #[.pointer (some p)])) ∧ Below w.heap.size w w' := by
 exact f13
theorem quv (hat : At w x p) (h : ¬ (1 ≤ x.kind ∧ x.kind ≤ 10)) : Calls Tryz.prog 56 #[.pointer (some p)] w fun e w' => e = .returned (.iface 120 (.agg #[.pointer (some p)])) ∧ Below w.heap.size w w' := by
 obtain ⟨A3, c3, A4, c4, A5, c5, A6, c6, hK, g0, g1, g2, g3, g4, g5, g6⟩ := hat
 clear hK g1 g2 g3 g4 g5 g6
 have HB := Wd (Zv w (.cells #[.pointer (some p)] 108))
 replace g0 := Cl HB.out g0
 have q1 : (x.kind == 1) = false := beq_eq_false_iff_ne.2 (by omega)
 have q2 : (x.kind == 2) = false := beq_eq_false_iff_ne.2 (by omega)
 have q3 : (x.kind == 3) = false := beq_eq_false_iff_ne.2 (by omega)
 have q4 : (x.kind == 4) = false := beq_eq_false_iff_ne.2 (by omega)
 have q5 : (x.kind == 5) = false := beq_eq_false_iff_ne.2 (by omega)
 have q6 : (x.kind == 6) = false := beq_eq_false_iff_ne.2 (by omega)
 have q7 : (x.kind == 7) = false := beq_eq_false_iff_ne.2 (by omega)
 have q8 : (x.kind == 8) = false := beq_eq_false_iff_ne.2 (by omega)
 have q9 : (x.kind == 9) = false := beq_eq_false_iff_ne.2 (by omega)
 have q10 : (x.kind == 10) = false := beq_eq_false_iff_ne.2 (by omega)
 clear h
 go_enter Tryz.func56, Tryz.ntmps56
 go_wp2
 go_ret
 exact ⟨rfl, HB.out⟩
end
def qdz (S : World) (l : List (CoreT × Int)) (w : World) : Prop := Below S.heap.size S w ∧ ∀ q ∈ l, Zw q.1
def qoc (S : World) (l : List (CoreT × Int)) (w : World) : Prop := Below S.heap.size S w ∧ ∃ q ∈ l, ¬ Zw q.1
theorem Ue {S w' w : World} {l : List (CoreT × Int)} {y : CoreT} {d : Int} {e : Ending} {b : Bool} (hI : qdz S l w) (hb : Below w.heap.size w w') (he : e = .returned (.bool b)) (hs : b = dec (Zw y)) :
  (e = .returned (.bool true) ∧ qdz S (l ++ [(y, d)]) w') ∨ (e = .returned (.bool false) ∧ qoc S (l ++ [(y, d)]) w') := by
 by_cases h : Zw y
 ·rw [Qm h] at hs
  refine .inl ⟨by rw [he, hs], Below.step hI.1 hb, fun q hq => ?_⟩
  rcases List.mem_append.1 hq with hq | hq
  ·exact hI.2 q hq
  ·rw [List.mem_singleton.1 hq]; exact h
 ·rw [Qd h] at hs
  exact .inr ⟨by rw [he, hs], Below.step hI.1 hb, (y, d), by simp, h⟩
theorem qxm (S : World) (l : List (CoreT × Int)) (y : CoreT) (d : Int) (p : Addr) (w : World) (hI : qdz S l w) (hat : At S y p) (hbk : bulk y ≤ 274877906944) (hk : y.kind = 1) :
  Calls Tryz.prog 55 #[.pointer (some p), .int .i64 d] w fun e w' => (e = .returned (.bool true) ∧ qdz S (l ++ [(y, d)]) w') ∨ (e = .returned (.bool false) ∧ qoc S (l ++ [(y, d)]) w') := by
 have HAT := Wd (hat.later hI.1)
 have HI := Wd hI
 have HBK := Wd hbk
 have HKV := Wd hk
 clear hat hI hbk hk
 go_enter Tryz.func55, Tryz.ntmps55
 go_wp2_with fail
 refine (qri HAT.out HKV.out).mono ?_
 rintro e w2 ⟨rfl, hb2⟩
 have HB2 := Wd hb2; clear hb2
 go_wp2_with fail
 refine (qzv (HAT.out.later HB2.out) HBK.out).mono ?_
 rintro e w3 ⟨rfl, hb3⟩
 have HB3 := Wd (Below.step HB2.out hb3); clear hb3
 obtain ⟨b, hb⟩ : ∃ b, b = dec ((0 < y.name.size) ∧ (qdh y) ∧ (Ql y)) := ⟨_, rfl⟩
 rw [← hb]
 have HBV := Wd hb; clear hb
 go_wp2
 go_ret
 exact Ue HI.out HB3.out rfl (by rw [HBV.out]; exact Xs (qno HKV.out).symm)
theorem qxl (S : World) (l : List (CoreT × Int)) (y : CoreT) (d : Int) (p : Addr) (w : World) (hI : qdz S l w) (hat : At S y p) (hbk : bulk y ≤ 274877906944) (hk : y.kind = 2) :
  Calls Tryz.prog 55 #[.pointer (some p), .int .i64 d] w fun e w' => (e = .returned (.bool true) ∧ qdz S (l ++ [(y, d)]) w') ∨ (e = .returned (.bool false) ∧ qoc S (l ++ [(y, d)]) w') := by
 have HAT := Wd (hat.later hI.1)
 have HI := Wd hI
 have HBK := Wd hbk
 have HKV := Wd hk
 clear hat hI hbk hk
 go_enter Tryz.func55, Tryz.ntmps55
 go_wp2_with fail
 refine (qrh HAT.out HKV.out).mono ?_
 rintro e w2 ⟨rfl, hb2⟩
 have HB2 := Wd hb2; clear hb2
 go_wp2_with fail
 refine (qzu (HAT.out.later HB2.out) HBK.out).mono ?_
 rintro e w3 ⟨rfl, hb3⟩
 have HB3 := Wd (Below.step HB2.out hb3); clear hb3
 obtain ⟨b, hb⟩ : ∃ b, b = dec ((y.name.size = 0) ∧ (qdh y) ∧ (Jl y.minus y.limbs = false)) := ⟨_, rfl⟩
 rw [← hb]
 have HBV := Wd hb; clear hb
 go_wp2
 go_ret
 exact Ue HI.out HB3.out rfl (by rw [HBV.out]; exact Xs (qnn HKV.out).symm)
theorem qub (S : World) (l : List (CoreT × Int)) (y : CoreT) (d : Int) (p : Addr) (w : World) (hI : qdz S l w) (hat : At S y p) (hbk : bulk y ≤ 274877906944) (hk : y.kind = 3) :
  Calls Tryz.prog 55 #[.pointer (some p), .int .i64 d] w fun e w' => (e = .returned (.bool true) ∧ qdz S (l ++ [(y, d)]) w') ∨ (e = .returned (.bool false) ∧ qoc S (l ++ [(y, d)]) w') := by
 have HAT := Wd (hat.later hI.1)
 have HI := Wd hI
 have HBK := Wd hbk
 have HKV := Wd hk
 clear hat hI hbk hk
 go_enter Tryz.func55, Tryz.ntmps55
 go_wp2_with fail
 refine (qnt HAT.out HKV.out).mono ?_
 rintro e w2 ⟨rfl, hb2⟩
 have HB2 := Wd hb2; clear hb2
 go_wp2_with fail
 refine (qvp (HAT.out.later HB2.out) HBK.out).mono ?_
 rintro e w3 ⟨rfl, hb3⟩
 have HB3 := Wd (Below.step HB2.out hb3); clear hb3
 obtain ⟨b, hb⟩ : ∃ b, b = dec ((y.name.size = 1) ∧ (qdh y) ∧ (Ql y)) := ⟨_, rfl⟩
 rw [← hb]
 have HBV := Wd hb; clear hb
 go_wp2
 go_ret
 exact Ue HI.out HB3.out rfl (by rw [HBV.out]; exact Xs (qlt HKV.out).symm)
theorem qxi (S : World) (l : List (CoreT × Int)) (y : CoreT) (d : Int) (p : Addr) (w : World) (hI : qdz S l w) (hat : At S y p) (hbk : bulk y ≤ 274877906944) (hk : y.kind = 4) :
  Calls Tryz.prog 55 #[.pointer (some p), .int .i64 d] w fun e w' => (e = .returned (.bool true) ∧ qdz S (l ++ [(y, d)]) w') ∨ (e = .returned (.bool false) ∧ qoc S (l ++ [(y, d)]) w') := by
 have HAT := Wd (hat.later hI.1)
 have HI := Wd hI
 have HBK := Wd hbk
 have HKV := Wd hk
 clear hat hI hbk hk
 go_enter Tryz.func55, Tryz.ntmps55
 go_wp2_with fail
 refine (qre HAT.out HKV.out).mono ?_
 rintro e w2 ⟨rfl, hb2⟩
 have HB2 := Wd hb2; clear hb2
 go_wp2_with fail
 refine (qzr (HAT.out.later HB2.out) HBK.out).mono ?_
 rintro e w3 ⟨rfl, hb3⟩
 have HB3 := Wd (Below.step HB2.out hb3); clear hb3
 obtain ⟨b, hb⟩ : ∃ b, b = dec ((0 < y.name.size) ∧ (y.names.length = 0) ∧ (y.alts.length = 0) ∧ (Ql y)) := ⟨_, rfl⟩
 rw [← hb]
 have HBV := Wd hb; clear hb
 go_wp2
 go_ret
 exact Ue HI.out HB3.out rfl (by rw [HBV.out]; exact Xs (qnk HKV.out).symm)
theorem qxh (S : World) (l : List (CoreT × Int)) (y : CoreT) (d : Int) (p : Addr) (w : World) (hI : qdz S l w) (hat : At S y p) (hbk : bulk y ≤ 274877906944) (hk : y.kind = 5) :
  Calls Tryz.prog 55 #[.pointer (some p), .int .i64 d] w fun e w' => (e = .returned (.bool true) ∧ qdz S (l ++ [(y, d)]) w') ∨ (e = .returned (.bool false) ∧ qoc S (l ++ [(y, d)]) w') := by
 have HAT := Wd (hat.later hI.1)
 have HI := Wd hI
 have HBK := Wd hbk
 have HKV := Wd hk
 clear hat hI hbk hk
 go_enter Tryz.func55, Tryz.ntmps55
 go_wp2_with fail
 refine (qrd HAT.out HKV.out).mono ?_
 rintro e w2 ⟨rfl, hb2⟩
 have HB2 := Wd hb2; clear hb2
 go_wp2_with fail
 refine (qzq (HAT.out.later HB2.out) HBK.out).mono ?_
 rintro e w3 ⟨rfl, hb3⟩
 have HB3 := Wd (Below.step HB2.out hb3); clear hb3
 obtain ⟨b, hb⟩ : ∃ b, b = dec ((y.name.size = 0) ∧ (2 ≤ y.kids.length) ∧ (y.names.length = 0) ∧ (y.alts.length = 0) ∧ (Ql y)) := ⟨_, rfl⟩
 rw [← hb]
 have HBV := Wd hb; clear hb
 go_wp2
 go_ret
 exact Ue HI.out HB3.out rfl (by rw [HBV.out]; exact Xs (qnj HKV.out).symm)
theorem qxj (S : World) (l : List (CoreT × Int)) (y : CoreT) (d : Int) (p : Addr) (w : World) (hI : qdz S l w) (hat : At S y p) (hbk : bulk y ≤ 274877906944) (hk : y.kind = 6) :
  Calls Tryz.prog 55 #[.pointer (some p), .int .i64 d] w fun e w' => (e = .returned (.bool true) ∧ qdz S (l ++ [(y, d)]) w') ∨ (e = .returned (.bool false) ∧ qoc S (l ++ [(y, d)]) w') := by
 have HAT := Wd (hat.later hI.1)
 have HI := Wd hI
 have HBK := Wd hbk
 have HKV := Wd hk
 clear hat hI hbk hk
 go_enter Tryz.func55, Tryz.ntmps55
 go_wp2_with fail
 refine (qrf HAT.out HKV.out).mono ?_
 rintro e w2 ⟨rfl, hb2⟩
 have HB2 := Wd hb2; clear hb2
 go_wp2_with fail
 refine (qzs (HAT.out.later HB2.out) HBK.out).mono ?_
 rintro e w3 ⟨rfl, hb3⟩
 have HB3 := Wd (Below.step HB2.out hb3); clear hb3
 obtain ⟨b, hb⟩ : ∃ b, b = dec ((y.name.size = 0) ∧ (y.kids.length = 1) ∧ (0 < y.names.length) ∧ (Zh y.names) ∧ (y.alts.length = 0) ∧ (Ql y)) := ⟨_, rfl⟩
 rw [← hb]
 have HBV := Wd hb; clear hb
 go_wp2
 go_ret
 exact Ue HI.out HB3.out rfl (by rw [HBV.out]; exact Xs (qnl HKV.out).symm)
theorem qxk (S : World) (l : List (CoreT × Int)) (y : CoreT) (d : Int) (p : Addr) (w : World) (hI : qdz S l w) (hat : At S y p) (hbk : bulk y ≤ 274877906944) (hk : y.kind = 7) :
  Calls Tryz.prog 55 #[.pointer (some p), .int .i64 d] w fun e w' => (e = .returned (.bool true) ∧ qdz S (l ++ [(y, d)]) w') ∨ (e = .returned (.bool false) ∧ qoc S (l ++ [(y, d)]) w') := by
 have HAT := Wd (hat.later hI.1)
 have HI := Wd hI
 have HBK := Wd hbk
 have HKV := Wd hk
 clear hat hI hbk hk
 go_enter Tryz.func55, Tryz.ntmps55
 go_wp2_with fail
 refine (qrg HAT.out HKV.out).mono ?_
 rintro e w2 ⟨rfl, hb2⟩
 have HB2 := Wd hb2; clear hb2
 go_wp2_with fail
 refine (qzt (HAT.out.later HB2.out) HBK.out).mono ?_
 rintro e w3 ⟨rfl, hb3⟩
 have HB3 := Wd (Below.step HB2.out hb3); clear hb3
 obtain ⟨b, hb⟩ : ∃ b, b = dec ((y.name.size = 0) ∧ (0 < y.names.length) ∧ (y.kids.length = y.names.length + 1) ∧ (Zh y.names) ∧ (y.alts.length = 0) ∧ (Ql y)) := ⟨_, rfl⟩
 rw [← hb]
 have HBV := Wd hb; clear hb
 go_wp2
 go_ret
 exact Ue HI.out HB3.out rfl (by rw [HBV.out]; exact Xs (qnm HKV.out).symm)
theorem qua (S : World) (l : List (CoreT × Int)) (y : CoreT) (d : Int) (p : Addr) (w : World) (hI : qdz S l w) (hat : At S y p) (hbk : bulk y ≤ 274877906944) (hk : y.kind = 8) :
  Calls Tryz.prog 55 #[.pointer (some p), .int .i64 d] w fun e w' => (e = .returned (.bool true) ∧ qdz S (l ++ [(y, d)]) w') ∨ (e = .returned (.bool false) ∧ qoc S (l ++ [(y, d)]) w') := by
 have HAT := Wd (hat.later hI.1)
 have HI := Wd hI
 have HBK := Wd hbk
 have HKV := Wd hk
 clear hat hI hbk hk
 go_enter Tryz.func55, Tryz.ntmps55
 go_wp2_with fail
 refine (qns HAT.out HKV.out).mono ?_
 rintro e w2 ⟨rfl, hb2⟩
 have HB2 := Wd hb2; clear hb2
 go_wp2_with fail
 refine (qvo (HAT.out.later HB2.out) HBK.out).mono ?_
 rintro e w3 ⟨rfl, hb3⟩
 have HB3 := Wd (Below.step HB2.out hb3); clear hb3
 obtain ⟨b, hb⟩ : ∃ b, b = dec ((y.names.length = 0) ∧ (Ql y) ∧ (1 ≤ y.kids.length) ∧ (y.kids.length ≤ 2) ∧ (2 ≤ y.kids.length + y.alts.length) ∧ (∀ a ∈ y.alts, Zh a.names) ∧ Zh (y.alts.map (·.con))) := ⟨_, rfl⟩
 rw [← hb]
 have HBV := Wd hb; clear hb
 go_wp2
 go_ret
 exact Ue HI.out HB3.out rfl (by rw [HBV.out]; exact Xs (qls HKV.out).symm)
theorem quc (S : World) (l : List (CoreT × Int)) (y : CoreT) (d : Int) (p : Addr) (w : World) (hI : qdz S l w) (hat : At S y p) (hbk : bulk y ≤ 274877906944) (hk : y.kind = 9) :
  Calls Tryz.prog 55 #[.pointer (some p), .int .i64 d] w fun e w' => (e = .returned (.bool true) ∧ qdz S (l ++ [(y, d)]) w') ∨ (e = .returned (.bool false) ∧ qoc S (l ++ [(y, d)]) w') := by
 have HAT := Wd (hat.later hI.1)
 have HI := Wd hI
 have HBK := Wd hbk
 have HKV := Wd hk
 clear hat hI hbk hk
 go_enter Tryz.func55, Tryz.ntmps55
 go_wp2_with fail
 refine (qnu HAT.out HKV.out).mono ?_
 rintro e w2 ⟨rfl, hb2⟩
 have HB2 := Wd hb2; clear hb2
 go_wp2_with fail
 refine (qvq (HAT.out.later HB2.out) HBK.out).mono ?_
 rintro e w3 ⟨rfl, hb3⟩
 have HB3 := Wd (Below.step HB2.out hb3); clear hb3
 obtain ⟨b, hb⟩ : ∃ b, b = dec ((Hb y) ∧ (Ha y) ∧ (y.names.length = 0) ∧ (y.alts.length = 0) ∧ (Ql y)) := ⟨_, rfl⟩
 rw [← hb]
 have HBV := Wd hb; clear hb
 go_wp2
 go_ret
 exact Ue HI.out HB3.out rfl (by rw [HBV.out]; exact Xs (qlu HKV.out).symm)
theorem qud (S : World) (l : List (CoreT × Int)) (y : CoreT) (d : Int) (p : Addr) (w : World) (hI : qdz S l w) (hat : At S y p) (hbk : bulk y ≤ 274877906944) (hk : y.kind = 10) :
  Calls Tryz.prog 55 #[.pointer (some p), .int .i64 d] w fun e w' => (e = .returned (.bool true) ∧ qdz S (l ++ [(y, d)]) w') ∨ (e = .returned (.bool false) ∧ qoc S (l ++ [(y, d)]) w') := by
 have HAT := Wd (hat.later hI.1)
 have HI := Wd hI
 have HBK := Wd hbk
 have HKV := Wd hk
 clear hat hI hbk hk
 go_enter Tryz.func55, Tryz.ntmps55
 go_wp2_with fail
 refine (qnv HAT.out HKV.out).mono ?_
 rintro e w2 ⟨rfl, hb2⟩
 have HB2 := Wd hb2; clear hb2
 go_wp2_with fail
 refine (qvr (HAT.out.later HB2.out) HBK.out).mono ?_
 rintro e w3 ⟨rfl, hb3⟩
 have HB3 := Wd (Below.step HB2.out hb3); clear hb3
 obtain ⟨b, hb⟩ : ∃ b, b = dec ((0 < y.name.size) ∧ (y.name.size ≤ 60000) ∧ (qdh y) ∧ (Ql y)) := ⟨_, rfl⟩
 rw [← hb]
 have HBV := Wd hb; clear hb
 go_wp2
 go_ret
 exact Ue HI.out HB3.out rfl (by rw [HBV.out]; exact Xs (qlv HKV.out).symm)
theorem zar (S : World) (l : List (CoreT × Int)) (y : CoreT) (d : Int) (p : Addr) (w : World) (hI : qdz S l w) (hat : At S y p) (hbk : bulk y ≤ 274877906944) (h : ¬ (1 ≤ y.kind ∧ y.kind ≤ 10)) :
  Calls Tryz.prog 55 #[.pointer (some p), .int .i64 d] w fun e w' => (e = .returned (.bool true) ∧ qdz S (l ++ [(y, d)]) w') ∨ (e = .returned (.bool false) ∧ qoc S (l ++ [(y, d)]) w') := by
 have HAT := Wd (hat.later hI.1)
 have HI := Wd hI
 have HBK := Wd hbk
 have HKV := Wd h
 clear hat hI hbk h
 go_enter Tryz.func55, Tryz.ntmps55
 go_wp2_with fail
 refine (quv HAT.out HKV.out).mono ?_
 rintro e w2 ⟨rfl, hb2⟩
 have HB2 := Wd hb2; clear hb2
 go_wp2_with fail
 refine (ans_no).mono ?_
 rintro e w3 ⟨rfl, hb3⟩
 have HB3 := Wd (Below.step HB2.out hb3); clear hb3
 obtain ⟨b, hb⟩ : ∃ b, b = false := ⟨_, rfl⟩
 rw [← hb]
 have HBV := Wd hb; clear hb
 go_wp2
 go_ret
 exact Ue HI.out HB3.out rfl (by rw [HBV.out]; exact (Qd (qqt HKV.out)).symm)
theorem qvz (S : World) : Sees S 55 #[] (qdz S) (qoc S) := by
 intro l y d p w hI hat hbk hd1 hd2
 show Calls _ _ #[.pointer (some p), .int .i64 d] _ _
 by_cases h : 1 ≤ y.kind ∧ y.kind ≤ 10
 ·rcases (by omega : y.kind = 1 ∨ y.kind = 2 ∨ y.kind = 3 ∨ y.kind = 4 ∨ y.kind = 5 ∨ y.kind = 6 ∨ y.kind = 7 ∨ y.kind = 8 ∨ y.kind = 9 ∨ y.kind = 10) with hk | hk | hk | hk | hk | hk | hk | hk | hk | hk
  ·exact qxm S l y d p w hI hat hbk hk
  ·exact qxl S l y d p w hI hat hbk hk
  ·exact qub S l y d p w hI hat hbk hk
  ·exact qxi S l y d p w hI hat hbk hk
  ·exact qxh S l y d p w hI hat hbk hk
  ·exact qxj S l y d p w hI hat hbk hk
  ·exact qxk S l y d p w hI hat hbk hk
  ·exact qua S l y d p w hI hat hbk hk
  ·exact quc S l y d p w hI hat hbk hk
  ·exact qud S l y d p w hI hat hbk hk
 ·exact zar S l y d p w hI hat hbk h
theorem qzn (x : CoreT) : qzk x ≤ 1 + x.names.length + Zp x.alts := by
 unfold qzk; split <;> omega
theorem qzl {x : CoreT} (h : Zw x) : qzk x = 1 + x.names.length + Zp x.alts := by
 unfold qzk
 split
 ·rfl
 ·rename_i hk
  have := h.2.2.2.1
  omega
theorem f74 {p : Prop} (h : p := by
 have := h c (by simp) d
 have := ih (fun y hy => h y (by simp [hy]))
 omega) : p := h
theorem qsw {l : List CoreT} (h : ∀ y ∈ l, ∀ d, cnt (parts y d) ≤ Qr y) (d : Int) : cnt (parts.kparts l d) ≤ Zb l := by
 induction l with
 | nil => simp [parts.kparts, cnt]
 | cons c r ih =>
  rw [parts.kparts, Hf, Zb]
  exact f74
theorem qrv {l : List AltT} (h : ∀ y ∈ l, ∀ d, cnt (parts y.body d) ≤ Qr y.body) (d : Int) : cnt (parts.aparts l d) ≤ Qy l := by
 induction l with
 | nil => simp [parts.aparts, cnt]
 | cons c r ih =>
  rw [parts.aparts, qcj, Hf, Qy, Xr]
  exact f74
theorem cnt_le (x : CoreT) : ∀ d, cnt (parts x d) ≤ Qr x := by
 refine Za (fun x => ∀ d, cnt (parts x d) ≤ Qr x) (fun c hk ha d => ?_) x
 rw [Uw, cnt, Hf, Zj]
 have := qsw hk (d + 1)
 have := qrv ha (d + 1)
 have := qzn c
 simp only
 omega
theorem qqe {l : List CoreT} (h : ∀ y ∈ l, ∀ d, cnt (parts y d) = Qr y) (d : Int) : cnt (parts.kparts l d) = Zb l := by
 induction l with
 | nil => simp [parts.kparts, cnt, Zb]
 | cons c r ih =>
  rw [parts.kparts, Hf, Zb]
  exact f74
theorem qpm {l : List AltT} (h : ∀ y ∈ l, ∀ d, cnt (parts y.body d) = Qr y.body) (d : Int) : cnt (parts.aparts l d) = Qy l := by
 induction l with
 | nil => simp [parts.aparts, cnt, Qy]
 | cons c r ih =>
  rw [parts.aparts, qcj, Hf, Qy, Xr]
  exact f74
theorem qkp (x : CoreT) : Shapes x → ∀ d, cnt (parts x d) = Qr x := by
 refine Za (fun x => Shapes x → ∀ d, cnt (parts x d) = Qr x) (fun c hk ha hs d => ?_) x
 rw [Ve] at hs
 rw [Uw, cnt, Hf, Zj]
 have := qqe (fun y hy => hk y hy (Yv.1 hs.2.1 y hy)) (d + 1)
 have := qpm (fun y hy => ha y hy (Yu.1 hs.2.2 y hy)) (d + 1)
 have := qzl hs.1
 simp only
 omega
theorem qqd {l : List CoreT} (h : ∀ y ∈ l, ∀ d, 1 ≤ d → dpt (parts y d) = d - 1 + dep y) (d : Int) (hd : 1 ≤ d) (hl : l ≠ []) : dpt (parts.kparts l d) = d - 1 + qdd l := by
 induction l with
 | nil => exact absurd rfl hl
 | cons c r ih =>
  rw [parts.kparts, qfw, qdd, h c (by simp) d hd]
  by_cases hr : r = []
  ·subst hr; simp only [parts.kparts, dpt, qdd]; omega
  ·rw [ih (fun y hy => h y (by simp [hy])) hr]; omega
theorem qpl {l : List AltT} (h : ∀ y ∈ l, ∀ d, 1 ≤ d → dpt (parts y.body d) = d - 1 + dep y.body) (d : Int) (hd : 1 ≤ d) (hl : l ≠ []) : dpt (parts.aparts l d) = d - 1 + Yt l := by
 induction l with
 | nil => exact absurd rfl hl
 | cons c r ih =>
  rw [parts.aparts, qcj, qfw, Yt, qdl, h c (by simp) d hd]
  by_cases hr : r = []
  ·subst hr; simp only [parts.aparts, dpt, Yt]; omega
  ·rw [ih (fun y hy => h y (by simp [hy])) hr]; omega
theorem qsf (x : CoreT) : ∀ d, 1 ≤ d → dpt (parts x d) = d - 1 + dep x := by
 refine Za (fun x => ∀ d, 1 ≤ d → dpt (parts x d) = d - 1 + dep x) (fun c hk ha d hd => ?_) x
 rw [Uw, dpt, qfw, Yi]
 have e1 : dpt (parts.kparts c.kids (d + 1)) = if c.kids = [] then 0 else d + qdd c.kids := by
  split
  ·rename_i h; rw [h]; simp [parts.kparts, dpt]
  ·rename_i h; rw [qqd hk (d + 1) (by omega) h]; omega
 have e2 : dpt (parts.aparts c.alts (d + 1)) = if c.alts = [] then 0 else d + Yt c.alts := by
  split
  ·rename_i h; rw [h]; simp [parts.aparts, dpt]
  ·rename_i h; rw [qpl ha (d + 1) (by omega) h]; omega
 have n1 : c.kids = [] → qdd c.kids = 0 := fun h => by rw [h, qdd]
 have n2 : c.alts = [] → Yt c.alts = 0 := fun h => by rw [h, Yt]
 rw [e1, e2]
 simp only
 split <;> split <;> (try have := n1 (by assumption)) <;> (try have := n2 (by assumption)) <;> omega
theorem f101 {p : Prop} (h : p := by
 simp only [List.mem_cons, List.mem_append, or_imp, forall_and, forall_eq]
 rw [h a (by simp) (d + 1), ih (fun y hy => h y (by simp [hy]))]) : p := h
theorem qlw (x : CoreT) : ∀ d, Shapes x ↔ ∀ q ∈ parts x d, Zw q.1 := by
 refine Za (fun x => ∀ d, Shapes x ↔ ∀ q ∈ parts x d, Zw q.1) (fun c hk ha d => ?_) x
 rw [Ve, Yv, Yu, Uw]
 have e1 : ∀ l : List CoreT, (∀ y ∈ l, ∀ d, Shapes y ↔ ∀ q ∈ parts y d, Zw q.1) → ((∀ y ∈ l, Shapes y) ↔ ∀ q ∈ parts.kparts l (d + 1), Zw q.1) := by
  intro l
  induction l with
  | nil => intro _; simp [parts.kparts]
  | cons a r ih =>
   intro h
   rw [parts.kparts]
   exact f101
 have e2 : ∀ l : List AltT, (∀ y ∈ l, ∀ d, Shapes y.body ↔ ∀ q ∈ parts y.body d, Zw q.1) → ((∀ y ∈ l, Shapes y.body) ↔ ∀ q ∈ parts.aparts l (d + 1), Zw q.1) := by
  intro l
  induction l with
  | nil => intro _; simp [parts.aparts]
  | cons a r ih =>
   intro h
   rw [parts.aparts, qcj]
   exact f101
 rw [e1 c.kids hk, e2 c.alts ha]
 simp only [List.mem_cons, List.mem_append, or_imp, forall_and, forall_eq]
theorem qje (x : CoreT) : Good x ↔ cnt (parts x 1) ≤ 20000 ∧ dpt (parts x 1) ≤ 1000 ∧ ∀ q ∈ parts x 1, Zw q.1 := by
 unfold Good
 rw [qsf x 1 (by omega), ← qlw x 1]
 constructor
 ·rintro ⟨h1, h2, h3⟩
  exact ⟨by have := cnt_le x 1; omega, by omega, h3⟩
 ·rintro ⟨h1, h2, h3⟩
  exact ⟨by rw [qkp x h3 1] at h1; exact h1, by omega, h3⟩
theorem qpq {l m : List (CoreT × Int)} (h : l <+: m) : cnt l ≤ cnt m ∧ dpt l ≤ dpt m := by
 obtain ⟨r, rfl⟩ := h
 rw [Hf, qfw]
 omega
theorem qol (x : CoreT) : dep x ≤ 1 + bulk x := by
 refine Za (fun x => dep x ≤ 1 + bulk x) (fun c hk ha => ?_) x
 rw [Yi, Qg]
 have e1 : ∀ l : List CoreT, (∀ y ∈ l, dep y ≤ 1 + bulk y) → qdd l ≤ Qo l := by
  intro l
  induction l with
  | nil => intro _; simp [qdd]
  | cons a r ih =>
   intro h
   rw [qdd, Qo]
   have := h a (by simp); have := ih (fun y hy => h y (by simp [hy])); omega
 have e2 : ∀ l : List AltT, (∀ y ∈ l, dep y.body ≤ 1 + bulk y.body) → Yt l ≤ Qq l := by
  intro l
  induction l with
  | nil => intro _; simp [Yt]
  | cons a r ih =>
   intro h
   rw [Yt, qdl, Qq, Zo]
   have := h a (by simp); have := ih (fun y hy => h y (by simp [hy])); omega
 have := e1 c.kids hk; have := e2 c.alts ha
 omega
theorem qge (x : CoreT) (hbk : bulk x ≤ 274877906944) (w : World) (cs : List Value) (hK : IC.K w x cs) :
  Calls Tryz.prog 25 #[.agg cs.toArray] w (qke x w) := by
 have hmf : ∀ (fn : Fn) (first cap : Array Value) (w : World), (Instr.makeFunc fn first cap).run Tryz.prog w = .ok (.func fn first cap) w := fun _ _ _ _ => rfl
 obtain ⟨A3, c3, A4, c4, A5, c5, A6, c6, rfl, -⟩ := Qk hK
 have HKK := Wd hK
 have HBK := Wd hbk
 have HD := Wd (qol x)
 clear hK hbk
 simp only [Qb]
 go_enter Tryz.func25, Tryz.ntmps25
 go_wp2_with fail
 obtain ⟨W1, hW1, hp1, hB1, hs1⟩ := Wy w x A3 c3 A4 c4 A5 c5 A6 c6 35
 obtain ⟨W2, hW2, hp2, hB2, hs2⟩ := boxed W1 [.int .i64 0] 3
 obtain ⟨W3, hW3, hp3, hB3, hs3⟩ := boxed W2 [.int .i64 0] 3
 rw [← hW1, ← hW2, ← hW3]
 rw [hs1] at hp2 hs2
 rw [hs2] at hp3
 have hat : At W1 x ⟨w.heap.size, 0, none⟩ := ⟨A3, c3, A4, c4, A5, c5, A6, c6, (Ja _ _).K_below hB1 HKK.out, hp1.cell (j := 0) rfl, hp1.cell (j := 1) rfl, hp1.cell (j := 2) rfl, hp1.cell (j := 3) rfl, hp1.cell (j := 4) rfl, hp1.cell (j := 5) rfl, hp1.cell (j := 6) rfl⟩
 have HAT := Wd hat
 have HB1 := Wd hB1
 have HB13 := Wd (Below.step hB2 hB3)
 have HS1 := Wd hs1
 refine (qiz x HBK.out W1 W3 _ 1 54 #[.pointer (some ⟨w.heap.size + 1, 0, none⟩), .pointer (some ⟨w.heap.size + 1 + 1, 0, none⟩)] (qyq W1 (w.heap.size + 1) (w.heap.size + 1 + 1)) (qyr W1 (w.heap.size + 1) (w.heap.size + 1 + 1)) []
  (enters_of Tryz.func54 (by kernel_rfl) rfl) (by omega) (by have := HD.out; have := HBK.out; omega) hat (fun l w h => h.1) (qps W1 _ _ (by omega) (by omega) (by omega))
  ⟨Below.step hB2 hB3, hp2.below hB3, hp3, by decide, by decide⟩).mono ?_
 clear hW1 hW2 hW3 hp1 hp2 hp3 hB1 hB2 hB3 hs1 hs2 hs3 hat
 rintro e w4 (⟨rfl, hI⟩ | ⟨rfl, l, hl, hQ⟩)
 case inr =>
  obtain ⟨hb4, hc4, hd4, hn4⟩ := hQ
  have HB4 := Wd (Below.trans HB1.out (hb4.mono (by have := HS1.out; omega)))
  have HN := Wd (show ¬ Good x from fun h => by
   have h1 := (qje x).1 h
   have h2 := qpq hl
   simp only [List.nil_append] at hn4
   omega)
  have b0 := hc4.cell (j := 0) rfl
  have d0 := hd4.cell (j := 0) rfl
  simp only [List.nil_append] at hn4 b0 d0
  clear hc4 hd4 hb4 hl HB13
  generalize cnt l = c at *
  generalize dpt l = d at *
  by_cases hc : 20000 < c
  ·have q1 : decide (20000 < (c : Int)) = true := decide_eq_true (by omega)
   go_wp2
   go_ret
   exact ⟨1, rfl, ⟨fun h => absurd h (by omega), fun h => absurd h HN.out⟩, HB4.out⟩
  ·have q1 : decide (20000 < (c : Int)) = false := decide_eq_false (by omega)
   have q2 : decide (1000 < d) = true := decide_eq_true (by omega)
   go_wp2
   go_ret
   exact ⟨1, rfl, ⟨fun h => absurd h (by omega), fun h => absurd h HN.out⟩, HB4.out⟩
 obtain ⟨hb4, hc4, hd4, hn4, hm4⟩ := hI
 simp only [List.nil_append] at hc4 hd4 hn4 hm4
 have b0 := hc4.cell (j := 0) rfl
 have d0 := hd4.cell (j := 0) rfl
 have HN4 := Wd hn4; have HM4 := Wd hm4
 have HB4 := Wd hb4
 clear hc4 hd4 hb4 HB13
 obtain ⟨c, hc⟩ : ∃ c, c = cnt (parts x 1) := ⟨_, rfl⟩
 obtain ⟨d, hd⟩ : ∃ d, d = dpt (parts x 1) := ⟨_, rfl⟩
 rw [← hc] at b0 hn4
 rw [← hd] at d0 hm4
 clear hc hd
 have q1 : decide (20000 < (c : Int)) = false := decide_eq_false (by omega)
 have q2 : decide (1000 < d) = false := decide_eq_false (by omega)
 go_wp2_with fail
 refine (qiz x HBK.out W1 w4 _ 1 55 #[] (qdz W1) (qoc W1) []
  (enters_of Tryz.func55 (by kernel_rfl) rfl) (by omega) (by have := HD.out; have := HBK.out; omega) HAT.out (fun l w h => h.1) (qvz W1) ⟨HB4.out, fun q hq => by cases hq⟩).mono ?_
 clear b0 d0 q1 q2
 rintro e w5 (⟨rfl, hI⟩ | ⟨rfl, l, hl, hQ⟩)
 ·have HG := Wd (show Good x from (qje x).2 ⟨HN4.out, HM4.out, by simpa using hI.2⟩)
  have HB5 := Wd (Below.trans HB1.out (hI.1.mono (by have := HS1.out; omega)))
  clear hI
  go_wp2
  go_ret
  exact ⟨0, rfl, ⟨fun _ => HG.out, fun _ => rfl⟩, HB5.out⟩
 ·have HG := Wd (show ¬ Good x from fun h => by
   obtain ⟨q, hq, hs⟩ := hQ.2
   exact hs (((qje x).1 h).2.2 q (hl.subset (by simpa using hq))))
  have HB5 := Wd (Below.trans HB1.out (hQ.1.mono (by have := HS1.out; omega)))
  clear hQ hl
  go_wp2
  go_ret
  exact ⟨2, rfl, ⟨fun h => absurd h (by omega), fun h => absurd h HG.out⟩, HB5.out⟩
def qte (l : List Int) : Prop := ∀ a ∈ l, 0 ≤ a ∧ a < 4294967296
def dig (n : Nat) : List Int := if h : n = 0 then [] else dig (n / 10) ++ [((48 + n % 10 : Nat) : Int)]
theorem qiy : dig 0 = [] := by rw [dig]; simp
theorem qse {n : Nat} (h : n ≠ 0) : dig n = dig (n / 10) ++ [((48 + n % 10 : Nat) : Int)] := by rw [dig]; simp [h]
theorem qcy (xs : List Int) (s : ByteArray) (ys : List Int) (h : s = strOfNums ys) : strOfNums xs ++ s = strOfNums (xs ++ ys) := by
 subst h
 apply ByteArray.ext
 apply Array.ext'
 simp [strOfNums]
theorem qzz : ∀ (m n : Nat), n < 10 ^ m → (dig n).length ≤ m := by
 intro m
 induction m with
 | zero =>
  intro n hn
  have : n = 0 := by simp at hn; omega
  subst this
  rw [qiy]; simp
 | succ m ih =>
  intro n hn
  by_cases h : n = 0
  ·subst h; rw [qiy]; simp
  ·rw [qse h, List.length_append, List.length_singleton]
   have := ih (n / 10) (by rw [Nat.div_lt_iff_lt_mul (by omega)]; rw [Nat.pow_succ] at hn; omega)
   omega
mutual
def WfC : CoreT → Prop
 | ⟨_, _, _, limbs, _, kids, alts⟩ => qte limbs ∧ WfCs kids ∧ WfAs alts
def WfCs : List CoreT → Prop
 | [] => True
 | c :: r => WfC c ∧ WfCs r
def WfAs : List AltT → Prop
 | [] => True
 | a :: r => WfA a ∧ WfAs r
def WfA : AltT → Prop
 | ⟨_, _, b⟩ => WfC b
end
theorem WfA_eq (a : AltT) : WfA a = WfC a.body := by cases a; rw [WfA]
end Go.Proofs.YtnoammmohdmnjaaGreat.C13
