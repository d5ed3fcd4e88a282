import Derived.Test.YtnoammmohdmnjaaGreatU3
set_option maxRecDepth 100000
set_option maxHeartbeats 16000000
set_option linter.unusedVariables false
set_option linter.unusedSimpArgs false
namespace Go.Proofs.YtnoammmohdmnjaaGreat.C13
open Go.RowKit Go.Proofs.YtnoammmohdmnjaaGreatW.PrintWords
open List renaming setIfInBounds_toArray → Jla, set_cons_zero → Jlb, set_cons_succ → Jlc
mutual
def bulk : CoreT → Nat
 | ⟨_, name, _, limbs, names, kids, alts⟩ => name.size + (limbs.length + (Uo names + (Qo kids + Qq alts)))
def Qo : List CoreT → Nat
 | [] => 0
 | c :: r => 1 + bulk c + Qo r
def Qq : List AltT → Nat
 | [] => 0
 | a :: r => 1 + Us a + Qq r
def Us : AltT → Nat
 | ⟨con, ns, b⟩ => con.size + (Uo ns + bulk b)
end
theorem Qg (c : CoreT) : bulk c = c.name.size + (c.limbs.length + (Uo c.names + (Qo c.kids + Qq c.alts))) := by cases c; rw [bulk]
theorem Zo (a : AltT) : Us a = a.con.size + (Uo a.names + bulk a.body) := by cases a; rw [Us]
abbrev LC := Ja 29 70
abbrev LA := qeu 29 70
def qvy (l : List ByteArray) : Prop := ∀ s ∈ l, s.size ≤ 9223372036854775807
mutual
def qmh : CoreT → Prop
 | ⟨_, name, _, _, names, kids, alts⟩ => name.size ≤ 9223372036854775807 ∧ qvy names ∧ qmi kids ∧ qfj alts
def qmi : List CoreT → Prop
 | [] => True
 | c :: r => qmh c ∧ qmi r
def qfj : List AltT → Prop
 | [] => True
 | a :: r => qip a ∧ qfj r
def qip : AltT → Prop
 | ⟨con, ns, b⟩ => con.size ≤ 9223372036854775807 ∧ qvy ns ∧ qmh b
end
theorem qzb (c : CoreT) : qmh c = (c.name.size ≤ 9223372036854775807 ∧ qvy c.names ∧ qmi c.kids ∧ qfj c.alts) := by cases c; rw [qmh]
theorem qve (a : AltT) : qip a = (a.con.size ≤ 9223372036854775807 ∧ qvy a.names ∧ qmh a.body) := by cases a; rw [qip]
theorem qrq {l : List CoreT} (h : qmi l) : ∀ x ∈ l, qmh x := by
 induction l with
 | nil => intro x hx; cases hx
 | cons c r ih =>
  rw [qmi] at h
  intro x hx
  rcases List.mem_cons.1 hx with rfl | hx
  ·exact h.1
  ·exact ih h.2 x hx
theorem qpe {l : List AltT} (h : qfj l) : ∀ x ∈ l, qip x := by
 induction l with
 | nil => intro x hx; cases hx
 | cons c r ih =>
  rw [qfj] at h
  intro x hx
  rcases List.mem_cons.1 hx with rfl | hx
  ·exact h.1
  ·exact ih h.2 x hx
def qhm (x : CoreT) : Prop := qmh x → ∀ (w : World) (cs : List Value) (left : Int), 0 ≤ left → left ≤ 1048576 → LC.K w x cs →
 Calls Tryz.prog 4 #[.agg cs.toArray, .int .i64 left] w fun e w' => e = .returned (.int .i64 (cut (bulk x) left)) ∧ Below w.heap.size w w'
def qyp : List CoreT → Nat
 | [] => 0
 | c :: r => bulk c + qyp r
theorem qoi (l : List CoreT) : Qo l = l.length + qyp l := by
 induction l with
 | nil => rfl
 | cons c r ih => rw [Qo, qyp, ih, List.length_cons]; omega
theorem Ko {e ea : Nat} {w : World} {A : Option Addr} {n : Nat} {xs : List CoreT} (h : (Ja e ea).C w A n xs) (i : Nat) (hi : i < xs.length) :
  ∃ ad A3 c3 A4 c4 A5 c5 A6 c6, A = some ad ∧ (Ja e ea).K w xs[i] (Qb xs[i] A3 c3 A4 c4 A5 c5 A6 c6) ∧
   w.cell? (ad.add (i * 7)) = some (.int .i64 xs[i].kind) ∧ w.cell? ⟨(ad.add (i * 7)).block, (ad.add (i * 7)).off + 1, none⟩ = some (.string xs[i].name) ∧
   w.cell? ⟨(ad.add (i * 7)).block, (ad.add (i * 7)).off + 2, none⟩ = some (.bool xs[i].minus) ∧ w.cell? ⟨(ad.add (i * 7)).block, (ad.add (i * 7)).off + 3, none⟩ = some (.slice A3 xs[i].limbs.length c3) ∧
   w.cell? ⟨(ad.add (i * 7)).block, (ad.add (i * 7)).off + 4, none⟩ = some (.slice A4 xs[i].names.length c4) ∧ w.cell? ⟨(ad.add (i * 7)).block, (ad.add (i * 7)).off + 5, none⟩ = some (.slice A5 xs[i].kids.length c5) ∧
   w.cell? ⟨(ad.add (i * 7)).block, (ad.add (i * 7)).off + 6, none⟩ = some (.slice A6 xs[i].alts.length c6) := by
 obtain ⟨ad, e', hc⟩ := h.2.2 (by have := h.1; omega)
 obtain ⟨c, hcl, hK, hcell⟩ := hc i xs[i] (List.getElem?_eq_getElem hi)
 obtain ⟨A3, c3, A4, c4, A5, c5, A6, c6, rfl, _⟩ := Qk hK
 exact ⟨ad, A3, c3, A4, c4, A5, c5, A6, c6, e', hK, hcell 0 _ rfl, by rw [← Xq _ _ 1 (by omega)]; exact hcell 1 _ rfl, by rw [← Xq _ _ 2 (by omega)]; exact hcell 2 _ rfl,
  by rw [← Xq _ _ 3 (by omega)]; exact hcell 3 _ rfl, by rw [← Xq _ _ 4 (by omega)]; exact hcell 4 _ rfl, by rw [← Xq _ _ 5 (by omega)]; exact hcell 5 _ rfl, by rw [← Xq _ _ 6 (by omega)]; exact hcell 6 _ rfl⟩
theorem Cl {S w : World} (hB : Below S.heap.size S w) {a : Addr} {v : Value} (h : S.cell? a = some v) : w.cell? a = some v :=
 (hB.cell (World.block_lt_of_cell? S a h)).trans h
theorem Kp {e ea : Nat} {S w : World} {A : Option Addr} {n : Nat} {xs : List CoreT} (h : (Ja e ea).C S A n xs) (hB : Below S.heap.size S w) (i : Nat) (hi : i < xs.length) :
  ∃ ad A3 c3 A4 c4 A5 c5 A6 c6, A = some ad ∧ (Ja e ea).K S xs[i] (Qb xs[i] A3 c3 A4 c4 A5 c5 A6 c6) ∧
   w.cell? (ad.add (i * 7)) = some (.int .i64 xs[i].kind) ∧ w.cell? ⟨(ad.add (i * 7)).block, (ad.add (i * 7)).off + 1, none⟩ = some (.string xs[i].name) ∧
   w.cell? ⟨(ad.add (i * 7)).block, (ad.add (i * 7)).off + 2, none⟩ = some (.bool xs[i].minus) ∧ w.cell? ⟨(ad.add (i * 7)).block, (ad.add (i * 7)).off + 3, none⟩ = some (.slice A3 xs[i].limbs.length c3) ∧
   w.cell? ⟨(ad.add (i * 7)).block, (ad.add (i * 7)).off + 4, none⟩ = some (.slice A4 xs[i].names.length c4) ∧ w.cell? ⟨(ad.add (i * 7)).block, (ad.add (i * 7)).off + 5, none⟩ = some (.slice A5 xs[i].kids.length c5) ∧
   w.cell? ⟨(ad.add (i * 7)).block, (ad.add (i * 7)).off + 6, none⟩ = some (.slice A6 xs[i].alts.length c6) := by
 obtain ⟨ad, A3, c3, A4, c4, A5, c5, A6, c6, hA, hK, g0, g1, g2, g3, g4, g5, g6⟩ := Ko h i hi
 exact ⟨ad, A3, c3, A4, c4, A5, c5, A6, c6, hA, hK, Cl hB g0, Cl hB g1, Cl hB g2, Cl hB g3, Cl hB g4, Cl hB g5, Cl hB g6⟩
theorem f46 {p : Prop} (h : p := by
 obtain ⟨hq0, hq1⟩ := hq
 by_cases hneg : q < 0
 ·go_wp2
  go_ret
  exact ⟨by rw [HRR.out, E1.out, if_neg (by omega), HC2.out, if_pos hneg]; rfl, HB2.out⟩
 ·go_wp2
  go_roundw
  case rel => exact ⟨k + 1, q, by omega, by go_num, rfl, by omega, by omega, Wd (by rw [HC2.out, if_neg (by omega)]), HB2⟩
  case measure => simp [intOf]; omega) : p := h
theorem qnr (xs : List CoreT) (hfine : qmi xs) (ih : ∀ x ∈ xs, qhm x) (A : Option Addr) (c : Nat) (w : World) (left : Int) (h0 : 0 ≤ left) (h1 : left ≤ 1048576) (hr : LC.C w A xs.length xs) (hc : xs.length ≤ c) :
  Calls Tryz.prog 13 #[.slice A xs.length c, .int .i64 left] w fun e w' => e = .returned (.int .i64 (cut (Qo xs) left)) ∧ Below w.heap.size w w' := by
 have hl := hr.2.1
 obtain ⟨r, hrr⟩ : ∃ r, r = cut (Qo xs) left := ⟨_, rfl⟩
 rw [← hrr]
 rw [qoi, Vl _ _ h0] at hrr
 have HRR := Wd hrr; clear hrr
 have FINE := Wd hfine; clear hfine
 have IH := Wd ih; clear ih
 have HR := Wd hr; clear hr
 go_enter Tryz.func13, Tryz.ntmps13
 by_cases hn : left < xs.length
 ·exact f100
 ·have E1 := Wd (Vm hn)
  go_wp2
  go_loopw [1, 5] (fun v i wr => ∃ (k : Nat) (l : Int), k ≤ xs.length ∧ i = .int .i64 k ∧ v = .int .i64 l ∧ 0 ≤ l ∧ l ≤ 1048576 ∧ Hid (cut (qyp xs) (left - xs.length) = cut (qyp (xs.drop k)) l) ∧ Hid (Below w.heap.size w wr)) (fun _ i _ => xs.length - (intOf i).toNat)
  case atStart => exact ⟨0, _, Nat.zero_le _, rfl, rfl, by omega, by omega, Wd rfl, Wd (Below.refl _ _)⟩
  case round =>
   obtain ⟨k, l, hk, rfl, rfl, hl0, hl1, HC, HB⟩ := hrel
   by_cases hlt : k < xs.length
   ·obtain ⟨ad, A3, c3, A4, c4, A5, c5, A6, c6, rfl, hK, g0, g1, g2, g3, g4, g5, g6⟩ := Ko (Kd.C_below HR.out HB.out) k hlt
    go_wp2_with fail
    refine (IH.out _ (List.getElem_mem hlt) (qrq FINE.out _ (List.getElem_mem hlt)) wr _ l hl0 hl1 hK).mono ?_
    rintro e w2 ⟨rfl, hb2⟩
    have HB2 := Wd (HB.out.trans (hb2.mono HB.out.size)); clear hb2
    have HC2 := Wd (HC.out.trans (by rw [List.drop_eq_getElem_cons hlt, qyp, Vl _ _ hl0] : cut (qyp (xs.drop k)) l = if cut (bulk xs[k]) l < 0 then -1 else cut (qyp (xs.drop (k + 1))) (cut (bulk xs[k]) l)))
    have hq := Ym (bulk xs[k]) hl1
    clear g0 g1 g2 g3 g4 g5 g6 hK HC HB
    generalize cut (bulk xs[k]) l = q at *
    exact f46
   ·go_wp2
    go_ret
    exact ⟨by rw [HRR.out, E1.out, if_neg (by omega), HC.out, List.drop_eq_nil_of_le (by omega), qyp, Vm (by omega)]; simp, HB.out⟩
def qmj (x : AltT) : Prop := qip x → ∀ (w : World) (cs : List Value) (left : Int), 0 ≤ left → left ≤ 1048576 → LA.K w x cs →
 Calls Tryz.prog 43 #[.agg cs.toArray, .int .i64 left] w fun e w' => e = .returned (.int .i64 (cut (Us x) left)) ∧ Below w.heap.size w w'
def qyo : List AltT → Nat
 | [] => 0
 | c :: r => Us c + qyo r
theorem qki (l : List AltT) : Qq l = l.length + qyo l := by
 induction l with
 | nil => rfl
 | cons c r ih => rw [Qq, qyo, ih, List.length_cons]; omega
def Yl (x : AltT) (A1 : Option Addr) (c1 : Nat) (A3 : Option Addr) (c3 : Nat) (A4 : Option Addr) (c4 : Nat) (A5 : Option Addr) (c5 : Nat) (A6 : Option Addr) (c6 : Nat) : List Value :=
 [.string x.con, .slice A1 x.names.length c1, .int .i64 x.body.kind, .string x.body.name, .bool x.body.minus, .slice A3 x.body.limbs.length c3, .slice A4 x.body.names.length c4, .slice A5 x.body.kids.length c5, .slice A6 x.body.alts.length c6]
theorem Xn {e ea : Nat} {w : World} {A : Option Addr} {n : Nat} {xs : List AltT} (h : (qeu e ea).C w A n xs) (i : Nat) (hi : i < xs.length) :
  ∃ ad A1 c1 A3 c3 A4 c4 A5 c5 A6 c6, A = some ad ∧ (qeu e ea).K w xs[i] (Yl xs[i] A1 c1 A3 c3 A4 c4 A5 c5 A6 c6) ∧
   (Ja e ea).K w xs[i].body (Qb xs[i].body A3 c3 A4 c4 A5 c5 A6 c6) ∧ xs[i].names.length ≤ c1 ∧ Kd.string.C w A1 xs[i].names.length xs[i].names ∧
   w.cell? (ad.add (i * 9)) = some (.string xs[i].con) ∧ w.cell? ⟨(ad.add (i * 9)).block, (ad.add (i * 9)).off + 1, none⟩ = some (.slice A1 xs[i].names.length c1) ∧
   w.cell? ⟨(ad.add (i * 9)).block, (ad.add (i * 9)).off + 2, none⟩ = some (.int .i64 xs[i].body.kind) ∧ w.cell? ⟨(ad.add (i * 9)).block, (ad.add (i * 9)).off + 3, none⟩ = some (.string xs[i].body.name) ∧
   w.cell? ⟨(ad.add (i * 9)).block, (ad.add (i * 9)).off + 4, none⟩ = some (.bool xs[i].body.minus) ∧ w.cell? ⟨(ad.add (i * 9)).block, (ad.add (i * 9)).off + 5, none⟩ = some (.slice A3 xs[i].body.limbs.length c3) ∧
   w.cell? ⟨(ad.add (i * 9)).block, (ad.add (i * 9)).off + 6, none⟩ = some (.slice A4 xs[i].body.names.length c4) ∧ w.cell? ⟨(ad.add (i * 9)).block, (ad.add (i * 9)).off + 7, none⟩ = some (.slice A5 xs[i].body.kids.length c5) ∧
   w.cell? ⟨(ad.add (i * 9)).block, (ad.add (i * 9)).off + 8, none⟩ = some (.slice A6 xs[i].body.alts.length c6) := by
 obtain ⟨ad, e', hc⟩ := h.2.2 (by have := h.1; omega)
 obtain ⟨c, hcl, hK, hcell⟩ := hc i xs[i] (List.getElem?_eq_getElem hi)
 obtain ⟨A1, c1, cb, rfl, l1, g1, hb⟩ := qcg hK
 obtain ⟨A3, c3, A4, c4, A5, c5, A6, c6, rfl, _⟩ := Qk hb
 exact ⟨ad, A1, c1, A3, c3, A4, c4, A5, c5, A6, c6, e', hK, hb, l1, g1, hcell 0 _ rfl, by rw [← Xq _ _ 1 (by omega)]; exact hcell 1 _ rfl, by rw [← Xq _ _ 2 (by omega)]; exact hcell 2 _ rfl,
  by rw [← Xq _ _ 3 (by omega)]; exact hcell 3 _ rfl, by rw [← Xq _ _ 4 (by omega)]; exact hcell 4 _ rfl, by rw [← Xq _ _ 5 (by omega)]; exact hcell 5 _ rfl, by rw [← Xq _ _ 6 (by omega)]; exact hcell 6 _ rfl,
  by rw [← Xq _ _ 7 (by omega)]; exact hcell 7 _ rfl, by rw [← Xq _ _ 8 (by omega)]; exact hcell 8 _ rfl⟩
theorem Yd {e ea : Nat} {S w : World} {A : Option Addr} {n : Nat} {xs : List AltT} (h : (qeu e ea).C S A n xs) (hB : Below S.heap.size S w) (i : Nat) (hi : i < xs.length) :
  ∃ ad A1 c1 A3 c3 A4 c4 A5 c5 A6 c6, A = some ad ∧ (qeu e ea).K S xs[i] (Yl xs[i] A1 c1 A3 c3 A4 c4 A5 c5 A6 c6) ∧
   (Ja e ea).K S xs[i].body (Qb xs[i].body A3 c3 A4 c4 A5 c5 A6 c6) ∧ xs[i].names.length ≤ c1 ∧ Kd.string.C S A1 xs[i].names.length xs[i].names ∧
   w.cell? (ad.add (i * 9)) = some (.string xs[i].con) ∧ w.cell? ⟨(ad.add (i * 9)).block, (ad.add (i * 9)).off + 1, none⟩ = some (.slice A1 xs[i].names.length c1) ∧
   w.cell? ⟨(ad.add (i * 9)).block, (ad.add (i * 9)).off + 2, none⟩ = some (.int .i64 xs[i].body.kind) ∧ w.cell? ⟨(ad.add (i * 9)).block, (ad.add (i * 9)).off + 3, none⟩ = some (.string xs[i].body.name) ∧
   w.cell? ⟨(ad.add (i * 9)).block, (ad.add (i * 9)).off + 4, none⟩ = some (.bool xs[i].body.minus) ∧ w.cell? ⟨(ad.add (i * 9)).block, (ad.add (i * 9)).off + 5, none⟩ = some (.slice A3 xs[i].body.limbs.length c3) ∧
   w.cell? ⟨(ad.add (i * 9)).block, (ad.add (i * 9)).off + 6, none⟩ = some (.slice A4 xs[i].body.names.length c4) ∧ w.cell? ⟨(ad.add (i * 9)).block, (ad.add (i * 9)).off + 7, none⟩ = some (.slice A5 xs[i].body.kids.length c5) ∧
   w.cell? ⟨(ad.add (i * 9)).block, (ad.add (i * 9)).off + 8, none⟩ = some (.slice A6 xs[i].body.alts.length c6) := by
 obtain ⟨ad, A1, c1, A3, c3, A4, c4, A5, c5, A6, c6, hA, hK, hb, l1, gs, g0, g1, g2, g3, g4, g5, g6, g7, g8⟩ := Xn h i hi
 exact ⟨ad, A1, c1, A3, c3, A4, c4, A5, c5, A6, c6, hA, hK, hb, l1, gs, Cl hB g0, Cl hB g1, Cl hB g2, Cl hB g3, Cl hB g4, Cl hB g5, Cl hB g6, Cl hB g7, Cl hB g8⟩
theorem qhj (xs : List AltT) (hfine : qfj xs) (ih : ∀ x ∈ xs, qmj x) (A : Option Addr) (c : Nat) (w : World) (left : Int) (h0 : 0 ≤ left) (h1 : left ≤ 1048576) (hr : LA.C w A xs.length xs) (hc : xs.length ≤ c) :
  Calls Tryz.prog 14 #[.slice A xs.length c, .int .i64 left] w fun e w' => e = .returned (.int .i64 (cut (Qq xs) left)) ∧ Below w.heap.size w w' := by
 have hl := hr.2.1
 obtain ⟨r, hrr⟩ : ∃ r, r = cut (Qq xs) left := ⟨_, rfl⟩
 rw [← hrr]
 rw [qki, Vl _ _ h0] at hrr
 have HRR := Wd hrr; clear hrr
 have FINE := Wd hfine; clear hfine
 have IH := Wd ih; clear ih
 have HR := Wd hr; clear hr
 go_enter Tryz.func14, Tryz.ntmps14
 by_cases hn : left < xs.length
 ·exact f100
 ·have E1 := Wd (Vm hn)
  go_wp2
  go_loopw [1, 5] (fun v i wr => ∃ (k : Nat) (l : Int), k ≤ xs.length ∧ i = .int .i64 k ∧ v = .int .i64 l ∧ 0 ≤ l ∧ l ≤ 1048576 ∧ Hid (cut (qyo xs) (left - xs.length) = cut (qyo (xs.drop k)) l) ∧ Hid (Below w.heap.size w wr)) (fun _ i _ => xs.length - (intOf i).toNat)
  case atStart => exact ⟨0, _, Nat.zero_le _, rfl, rfl, by omega, by omega, Wd rfl, Wd (Below.refl _ _)⟩
  case round =>
   obtain ⟨k, l, hk, rfl, rfl, hl0, hl1, HC, HB⟩ := hrel
   by_cases hlt : k < xs.length
   ·obtain ⟨ad, A1, c1, A3, c3, A4, c4, A5, c5, A6, c6, rfl, hK, _, _, _, g0, g1, g2, g3, g4, g5, g6, g7, g8⟩ := Xn (Kd.C_below HR.out HB.out) k hlt
    go_wp2_with fail
    refine (IH.out _ (List.getElem_mem hlt) (qpe FINE.out _ (List.getElem_mem hlt)) wr _ l hl0 hl1 hK).mono ?_
    rintro e w2 ⟨rfl, hb2⟩
    have HB2 := Wd (HB.out.trans (hb2.mono HB.out.size)); clear hb2
    have HC2 := Wd (HC.out.trans (by rw [List.drop_eq_getElem_cons hlt, qyo, Vl _ _ hl0] : cut (qyo (xs.drop k)) l = if cut (Us xs[k]) l < 0 then -1 else cut (qyo (xs.drop (k + 1))) (cut (Us xs[k]) l)))
    have hq := Ym (Us xs[k]) hl1
    clear g0 g1 g2 g3 g4 g5 g6 g7 g8 hK HC HB
    generalize cut (Us xs[k]) l = q at *
    exact f46
   ·go_wp2
    go_ret
    exact ⟨by rw [HRR.out, E1.out, if_neg (by omega), HC.out, List.drop_eq_nil_of_le (by omega), qyo, Vm (by omega)]; simp, HB.out⟩
theorem Below.step {W1 w w' : World} (h : Below W1.heap.size W1 w) (k : Below w.heap.size w w') : Below W1.heap.size W1 w' := h.trans (k.mono h.size)
theorem qhg {W w1 : World} (hb : Below W.heap.size W w1) : (∀ b o, b < W.heap.size → w1.cell? ⟨b, o, none⟩ = W.cell? ⟨b, o, none⟩) :=
 fun b o h => hb.cell (p := ⟨b, o, none⟩) h
theorem Drawn0.below {w w' : World} (h : Drawn0 w w') : Below w.heap.size w w' := by
 obtain ⟨n, rfl⟩ := h.out
 exact ⟨rfl, rfl, rfl, Nat.le_refl _, fun _ _ => rfl⟩
theorem Jk {w w2 : World} {o : Obj} (h : Below (w.alloc o).heap.size (w.alloc o) w2) : Below w.heap.size w w2 :=
 ((Below.refl _ _).alloc (Nat.le_refl _) o).trans (h.mono (by simp))
theorem qjx (x : AltT) (ih : qhm x.body) : qmj x := by
 intro hfine w cs left h0 h1 hK
 rw [qve] at hfine
 obtain ⟨f1, f2, f3⟩ := hfine
 have F2 := Wd f2; have F3 := Wd f3; clear f2 f3
 obtain ⟨A1, c1, cb, rfl, l1, g1, hb⟩ := qcg hK
 obtain ⟨A3, c3, A4, c4, A5, c5, A6, c6, rfl, _⟩ := Qk hb
 obtain ⟨r, hrr⟩ : ∃ r, r = cut (Us x) left := ⟨_, rfl⟩
 rw [← hrr]
 rw [Zo, Vl _ _ h0] at hrr
 have HRR := Wd hrr; clear hrr
 have IH := Wd ih; clear ih
 have G1 := Wd g1; clear g1
 have HBd := Wd hb; clear hb hK
 simp only [Qb]
 go_enter Tryz.func43, Tryz.ntmps43
 by_cases hn : left < x.con.size
 ·go_wp2
  go_ret
  exact ⟨by rw [HRR.out, qbu hn]; rfl, (Below.refl _ _).alloc (Nat.le_refl _) _⟩
 ·have E1 := Wd (Vm hn)
  go_wp2_with fail
  refine (qut x.names (left - x.con.size) F2.out (by omega) (by omega) _ _ _ (Kd.C_below G1.out ((Below.refl _ _).alloc (Nat.le_refl _) _)) l1).mono ?_
  rintro e w2 ⟨rfl, hb2⟩
  have hc2 := qhg hb2
  have HB2 := Wd hb2; clear hb2
  rw [Vl _ _ (by rw [E1.out]; omega), E1.out] at HRR
  have hq := Ym (Uo x.names) (left := left - x.con.size) (by omega)
  generalize cut (Uo x.names) (left - x.con.size) = q at *
  obtain ⟨hq0, hq1⟩ := hq
  by_cases hneg : q < 0
  ·go_wp2
   go_ret
   exact ⟨by rw [HRR.out, if_neg (by omega), if_pos hneg]; rfl, Jk HB2.out⟩
  ·clear hc2
   have hc2 := qhg HB2.out
   go_wp2_with fail
   refine (IH.out F3.out _ _ q (by omega) hq1 ((Ja _ _).K_below (Jk HB2.out) HBd.out)).mono ?_
   rintro e w3 ⟨rfl, hb3⟩
   have HB3 := Wd (Below.step HB2.out hb3); clear hb3
   have HRR2 := Wd (HRR.out.trans (by rw [if_neg (by omega), if_neg (by omega)] : _ = cut (bulk x.body) q)); clear HRR
   have hq2 := Ym (bulk x.body) hq1
   generalize cut (bulk x.body) q = q2 at *
   obtain ⟨hq20, hq21⟩ := hq2
   by_cases hneg2 : q2 < 0
   ·go_wp2
    go_ret
    exact ⟨by rw [HRR2.out]; congr 1; first | rfl | (show Value.int _ _ = _; congr 1; omega), Jk HB3.out⟩
   ·go_wp2
    go_ret
    exact ⟨by rw [HRR2.out]; rfl, Jk HB3.out⟩
theorem qrc (x : CoreT) (ihk : ∀ y ∈ x.kids, qhm y) (iha : ∀ a ∈ x.alts, qmj a) : qhm x := by
 intro hfine w cs left h0 h1 hK
 rw [qzb] at hfine
 obtain ⟨f1, f2, f3, f4⟩ := hfine
 have ⟨F2, F3, F4⟩ := Wq f2 f3 f4; clear f2 f3 f4
 obtain ⟨A3, c3, A4, c4, A5, c5, A6, c6, rfl, l3, g3, l4, g4, l5, g5, l6, g6⟩ := Qk hK
 obtain ⟨r, hrr⟩ : ∃ r, r = cut (bulk x) left := ⟨_, rfl⟩
 rw [← hrr]
 rw [Qg, Vl _ _ h0] at hrr
 have HRR := Wd hrr; clear hrr
 have IHK := Wd ihk; have IHA := Wd iha; clear ihk iha
 have ⟨G3, G4, G5, G6⟩ := Wj g3 g4 g5 g6; clear g3 g4 g5 g6 hK
 simp only [Qb]
 go_enter Tryz.func4, Tryz.ntmps4
 by_cases hn : left < x.name.size
 ·go_wp2
  go_ret
  exact ⟨by rw [HRR.out, qbu hn]; rfl, (Below.refl _ _).alloc (Nat.le_refl _) _⟩
 have E1 := Wd (Vm hn)
 go_wp2_with fail
 refine (zau x.minus _ _ _ (left - x.name.size) (by omega) (by omega) G3.out.2.1 _).mono ?_
 rintro e w2 ⟨rfl, hb2⟩
 have HB2 := Wd hb2; clear hb2
 rw [Vl _ _ (by rw [E1.out]; omega), E1.out, if_neg (by omega)] at HRR
 have hq := Ym x.limbs.length (left := left - x.name.size) (by omega)
 generalize cut x.limbs.length (left - x.name.size) = q at *
 obtain ⟨hq0, hq1⟩ := hq
 clear E1
 by_cases hneg : q < 0
 ·go_wp2
  go_ret
  exact ⟨by rw [HRR.out, if_pos hneg]; rfl, Jk HB2.out⟩
 have HRR2 := Wd (HRR.out.trans (if_neg hneg)); clear HRR
 have hc2 := qhg HB2.out
 go_wp2_with fail
 clear hc2
 refine (qut x.names q F2.out (by omega) (by omega) _ _ _ (Kd.C_below G4.out (Jk HB2.out)) l4).mono ?_
 rintro e w3 ⟨rfl, hb3⟩
 have HB3 := Wd (Below.step HB2.out hb3); clear hb3 HB2
 rw [Vl _ _ (by omega)] at HRR2
 have hq := Ym (Uo x.names) hq1
 generalize cut (Uo x.names) q = q2 at *
 obtain ⟨hq20, hq21⟩ := hq
 by_cases hneg2 : q2 < 0
 ·go_wp2
  go_ret
  exact ⟨by rw [HRR2.out, if_pos hneg2]; rfl, Jk HB3.out⟩
 have HRR3 := Wd (HRR2.out.trans (if_neg hneg2)); clear HRR2
 have hc3 := qhg HB3.out
 go_wp2_with fail
 clear hc3
 refine (qnr x.kids F3.out IHK.out _ _ _ q2 (by omega) hq21 (Kd.C_below G5.out (Jk HB3.out)) l5).mono ?_
 rintro e w4 ⟨rfl, hb4⟩
 have HB4 := Wd (Below.step HB3.out hb4); clear hb4 HB3
 rw [Vl _ _ (by omega)] at HRR3
 have hq := Ym (Qo x.kids) hq21
 generalize cut (Qo x.kids) q2 = q3 at *
 obtain ⟨hq30, hq31⟩ := hq
 by_cases hneg3 : q3 < 0
 ·go_wp2
  go_ret
  exact ⟨by rw [HRR3.out, if_pos hneg3]; rfl, Jk HB4.out⟩
 have HRR4 := Wd (HRR3.out.trans (if_neg hneg3)); clear HRR3
 have hc4 := qhg HB4.out
 go_wp2_with fail
 clear hc4
 refine (qhj x.alts F4.out IHA.out _ _ _ q3 (by omega) hq31 (Kd.C_below G6.out (Jk HB4.out)) l6).mono ?_
 rintro e w5 ⟨rfl, hb5⟩
 have HB5 := Wd (Below.step HB4.out hb5); clear hb5 HB4
 have hq := Ym (Qq x.alts) hq31
 generalize cut (Qq x.alts) q3 = q4 at *
 obtain ⟨hq40, hq41⟩ := hq
 by_cases hneg4 : q4 < 0
 ·go_wp2
  go_ret
  exact ⟨by rw [HRR4.out]; first | rfl | (show Ending.returned (Value.int _ _) = _; congr 2; omega), Jk HB5.out⟩
 ·go_wp2
  go_ret
  exact ⟨by rw [HRR4.out]; rfl, Jk HB5.out⟩
theorem sz_all (x : CoreT) : qhm x :=
 Za qhm (fun c hk ha => qrc c hk (fun a h => qjx a (ha a h))) x
theorem Cl3 {w w' : World} (hb : Below w.heap.size w w') {a0 : Addr} {v0 : Value} (h0 : w.cell? a0 = some v0) {a1 : Addr} {v1 : Value} (h1 : w.cell? a1 = some v1) {a2 : Addr} {v2 : Value} (h2 : w.cell? a2 = some v2) : w'.cell? a0 = some v0 ∧ w'.cell? a1 = some v1 ∧ w'.cell? a2 = some v2 := ⟨Cl hb h0, Cl hb h1, Cl hb h2⟩
theorem Cl4 {w w' : World} (hb : Below w.heap.size w w') {a0 : Addr} {v0 : Value} (h0 : w.cell? a0 = some v0) {a1 : Addr} {v1 : Value} (h1 : w.cell? a1 = some v1) {a2 : Addr} {v2 : Value} (h2 : w.cell? a2 = some v2) {a3 : Addr} {v3 : Value} (h3 : w.cell? a3 = some v3) : w'.cell? a0 = some v0 ∧ w'.cell? a1 = some v1 ∧ w'.cell? a2 = some v2 ∧ w'.cell? a3 = some v3 := ⟨Cl hb h0, Cl hb h1, Cl hb h2, Cl hb h3⟩
theorem Cl5 {w w' : World} (hb : Below w.heap.size w w') {a0 : Addr} {v0 : Value} (h0 : w.cell? a0 = some v0) {a1 : Addr} {v1 : Value} (h1 : w.cell? a1 = some v1) {a2 : Addr} {v2 : Value} (h2 : w.cell? a2 = some v2) {a3 : Addr} {v3 : Value} (h3 : w.cell? a3 = some v3) {a4 : Addr} {v4 : Value} (h4 : w.cell? a4 = some v4) : w'.cell? a0 = some v0 ∧ w'.cell? a1 = some v1 ∧ w'.cell? a2 = some v2 ∧ w'.cell? a3 = some v3 ∧ w'.cell? a4 = some v4 := ⟨Cl hb h0, Cl hb h1, Cl hb h2, Cl hb h3, Cl hb h4⟩
theorem Cl6 {w w' : World} (hb : Below w.heap.size w w') {a0 : Addr} {v0 : Value} (h0 : w.cell? a0 = some v0) {a1 : Addr} {v1 : Value} (h1 : w.cell? a1 = some v1) {a2 : Addr} {v2 : Value} (h2 : w.cell? a2 = some v2) {a3 : Addr} {v3 : Value} (h3 : w.cell? a3 = some v3) {a4 : Addr} {v4 : Value} (h4 : w.cell? a4 = some v4) {a5 : Addr} {v5 : Value} (h5 : w.cell? a5 = some v5) : w'.cell? a0 = some v0 ∧ w'.cell? a1 = some v1 ∧ w'.cell? a2 = some v2 ∧ w'.cell? a3 = some v3 ∧ w'.cell? a4 = some v4 ∧ w'.cell? a5 = some v5 := ⟨Cl hb h0, Cl hb h1, Cl hb h2, Cl hb h3, Cl hb h4, Cl hb h5⟩
theorem Cl7 {w w' : World} (hb : Below w.heap.size w w') {a0 : Addr} {v0 : Value} (h0 : w.cell? a0 = some v0) {a1 : Addr} {v1 : Value} (h1 : w.cell? a1 = some v1) {a2 : Addr} {v2 : Value} (h2 : w.cell? a2 = some v2) {a3 : Addr} {v3 : Value} (h3 : w.cell? a3 = some v3) {a4 : Addr} {v4 : Value} (h4 : w.cell? a4 = some v4) {a5 : Addr} {v5 : Value} (h5 : w.cell? a5 = some v5) {a6 : Addr} {v6 : Value} (h6 : w.cell? a6 = some v6) : w'.cell? a0 = some v0 ∧ w'.cell? a1 = some v1 ∧ w'.cell? a2 = some v2 ∧ w'.cell? a3 = some v3 ∧ w'.cell? a4 = some v4 ∧ w'.cell? a5 = some v5 ∧ w'.cell? a6 = some v6 := ⟨Cl hb h0, Cl hb h1, Cl hb h2, Cl hb h3, Cl hb h4, Cl hb h5, Cl hb h6⟩
abbrev IC := Ja 35 76
abbrev IA := qeu 35 76
def qhl (x : CoreT) : Prop := ∀ (w : World) (cs cs' : List Value), IC.K w x cs → IC.K w x cs' →
 Calls Tryz.prog 8 #[.agg cs.toArray, .agg cs'.toArray] w fun e w' => e = .returned (.bool true) ∧ Below w.heap.size w w'
def qmg (x : AltT) : Prop := ∀ (w : World) (cs cs' : List Value), IA.K w x cs → IA.K w x cs' →
 Calls Tryz.prog 64 #[.agg cs.toArray, .agg cs'.toArray] w fun e w' => e = .returned (.bool true) ∧ Below w.heap.size w w'
theorem f70 {p : Prop} (h : p := by
 rintro e w2 ⟨rfl, hb2⟩
 have HB2 := Wd (Below.step HB.out.drew hb2); clear hb2 hK hK' HB
 go_wp2_with fail
 go_roundw
 case rel => exact ⟨k + 1, by omega, by go_num, HB2⟩
 case measure => simp [intOf]; omega) : p := h
theorem qms (xs : List CoreT) (ih : ∀ x ∈ xs, qhl x) (A B : Option Addr) (c d : Nat) (w : World) (hr : IC.C w A xs.length xs) (hc : xs.length ≤ c) (hs : IC.C w B xs.length xs) (hd : xs.length ≤ d) :
  Calls Tryz.prog 32 #[.slice A xs.length c, .slice B xs.length d] w fun e w' => e = .returned (.bool true) ∧ Below w.heap.size w w' := by
 have hl := hr.2.1
 have IH := Wd ih; clear ih
 have HR := Wd hr; clear hr
 have HS := Wd hs; clear hs
 go_enter Tryz.func32, Tryz.ntmps32
 go_wp2
 go_loopw [5] (fun i wr => ∃ (k : Nat), k ≤ xs.length ∧ i = .int .i64 k ∧ Hid (Below w.heap.size w wr)) (fun i _ => xs.length - (intOf i).toNat)
 case atStart => exact ⟨0, Nat.zero_le _, rfl, Wd (Below.refl _ _)⟩
 case round =>
  obtain ⟨k, hk, rfl, HB⟩ := hrel
  by_cases hlt : k < xs.length
  ·obtain ⟨ad, A3, c3, A4, c4, A5, c5, A6, c6, rfl, hK, g0, g1, g2, g3, g4, g5, g6⟩ := Ko (Kd.C_below HR.out HB.out) k hlt
   obtain ⟨ad', A3', c3', A4', c4', A5', c5', A6', c6', rfl, hK', g0', g1', g2', g3', g4', g5', g6'⟩ := Ko (Kd.C_below HS.out HB.out) k hlt
   go_wp2_with fail
   go_still_tail 8, (by kernel_rfl)
   change wpList _ _ _ _ _ wr.drew
   clear g0 g1 g2 g3 g4 g5 g6 g0' g1' g2' g3' g4' g5' g6'
   go_wp2_with fail
   refine (IH.out _ (List.getElem_mem hlt) _ _ _ ((Ja _ _).K_below (Below.refl _ wr).drew hK) ((Ja _ _).K_below (Below.refl _ wr).drew hK')).mono ?_
   exact f70
  ·go_wp2
   go_ret
   exact ⟨rfl, HB.out⟩
theorem qhi (xs : List AltT) (ih : ∀ x ∈ xs, qmg x) (A B : Option Addr) (c d : Nat) (w : World) (hr : IA.C w A xs.length xs) (hc : xs.length ≤ c) (hs : IA.C w B xs.length xs) (hd : xs.length ≤ d) :
  Calls Tryz.prog 33 #[.slice A xs.length c, .slice B xs.length d] w fun e w' => e = .returned (.bool true) ∧ Below w.heap.size w w' := by
 have hl := hr.2.1
 have IH := Wd ih; clear ih
 have HR := Wd hr; clear hr
 have HS := Wd hs; clear hs
 go_enter Tryz.func33, Tryz.ntmps33
 go_wp2
 go_loopw [5] (fun i wr => ∃ (k : Nat), k ≤ xs.length ∧ i = .int .i64 k ∧ Hid (Below w.heap.size w wr)) (fun i _ => xs.length - (intOf i).toNat)
 case atStart => exact ⟨0, Nat.zero_le _, rfl, Wd (Below.refl _ _)⟩
 case round =>
  obtain ⟨k, hk, rfl, HB⟩ := hrel
  by_cases hlt : k < xs.length
  ·obtain ⟨ad, A1, c1, A3, c3, A4, c4, A5, c5, A6, c6, rfl, hK, _, _, _, g0, g1, g2, g3, g4, g5, g6, g7, g8⟩ := Xn (Kd.C_below HR.out HB.out) k hlt
   obtain ⟨ad', A1', c1', A3', c3', A4', c4', A5', c5', A6', c6', rfl, hK', _, _, _, g0', g1', g2', g3', g4', g5', g6', g7', g8'⟩ := Xn (Kd.C_below HS.out HB.out) k hlt
   go_wp2_with fail
   go_still_tail 8, (by kernel_rfl)
   change wpList _ _ _ _ _ wr.drew
   clear g0 g1 g2 g3 g4 g5 g6 g7 g8 g0' g1' g2' g3' g4' g5' g6' g7' g8'
   go_wp2_with fail
   refine (IH.out _ (List.getElem_mem hlt) _ _ _ ((qeu _ _).K_below (Below.refl _ wr).drew hK) ((qeu _ _).K_below (Below.refl _ wr).drew hK')).mono ?_
   exact f70
  ·go_wp2
   go_ret
   exact ⟨rfl, HB.out⟩
theorem Xz {w w2 : World} {o o' : Obj} (h : Below ((w.alloc o).alloc o').heap.size ((w.alloc o).alloc o') w2) : Below w.heap.size w w2 := Jk (Jk h)
theorem qja (x : AltT) (ih : qhl x.body) : qmg x := by
 intro w cs cs' hK hK'
 obtain ⟨A1, c1, cb, rfl, l1, g1, hb⟩ := qcg hK
 obtain ⟨A3, c3, A4, c4, A5, c5, A6, c6, rfl, _⟩ := Qk hb
 obtain ⟨A1', c1', cb', rfl, l1', g1', hb'⟩ := qcg hK'
 obtain ⟨A3', c3', A4', c4', A5', c5', A6', c6', rfl, _⟩ := Qk hb'
 have IH := Wd ih; clear ih
 have G1 := Wd g1; have G1' := Wd g1'; clear g1 g1'
 have HBd := Wd hb; have HBd' := Wd hb'; clear hb hb' hK hK'
 simp only [Qb]
 go_enter Tryz.func64, Tryz.ntmps64
 go_wp2_with fail
 have HB0 := Wd (((Below.refl w.heap.size w).alloc (Nat.le_refl _) (.cells #[Value.string x.con, Value.slice A1 x.names.length c1, Value.int IntKind.i64 x.body.kind, Value.string x.body.name, Value.bool x.body.minus, Value.slice A3 x.body.limbs.length c3, Value.slice A4 x.body.names.length c4, Value.slice A5 x.body.kids.length c5, Value.slice A6 x.body.alts.length c6] 76)).alloc (by simp) (.cells #[Value.string x.con, Value.slice A1' x.names.length c1', Value.int IntKind.i64 x.body.kind, Value.string x.body.name, Value.bool x.body.minus, Value.slice A3' x.body.limbs.length c3', Value.slice A4' x.body.names.length c4', Value.slice A5' x.body.kids.length c5', Value.slice A6' x.body.alts.length c6'] 76))
 refine (qsh x.names _ _ _ _ _ (Kd.C_below G1.out HB0.out) l1 (Kd.C_below G1'.out HB0.out) l1').mono ?_
 rintro e w2 ⟨rfl, hb2⟩
 have HB2 := Wd hb2; clear hb2 HB0
 have hc2 := qhg HB2.out
 go_wp2_with fail
 clear hc2
 refine (IH.out _ _ _ ((Ja _ _).K_below (Xz HB2.out) HBd.out) ((Ja _ _).K_below (Xz HB2.out) HBd'.out)).mono ?_
 rintro e w3 ⟨rfl, hb3⟩
 have HB3 := Wd (Below.step HB2.out hb3); clear hb3 HB2
 go_wp2
 go_ret
 exact ⟨rfl, Xz HB3.out⟩
theorem qpv (x : CoreT) (ihk : ∀ y ∈ x.kids, qhl y) (iha : ∀ a ∈ x.alts, qmg a) : qhl x := by
 intro w cs cs' hK hK'
 obtain ⟨A3, c3, A4, c4, A5, c5, A6, c6, rfl, l3, g3, l4, g4, l5, g5, l6, g6⟩ := Qk hK
 obtain ⟨A3', c3', A4', c4', A5', c5', A6', c6', rfl, l3', g3', l4', g4', l5', g5', l6', g6'⟩ := Qk hK'
 have IHK := Wd ihk; have IHA := Wd iha; clear ihk iha
 have ⟨G3, G4, G5, G6⟩ := Wj g3 g4 g5 g6; clear g3 g4 g5 g6 hK
 have G3' := Wd g3'; have G4' := Wd g4'; have G5' := Wd g5'; have G6' := Wd g6'; clear g3' g4' g5' g6' hK'
 simp only [Qb]
 go_enter Tryz.func8, Tryz.ntmps8
 go_wp2_with fail
 have HB0 := Wd (((Below.refl w.heap.size w).alloc (Nat.le_refl _) (.cells #[Value.int IntKind.i64 x.kind, Value.string x.name, Value.bool x.minus, Value.slice A3 x.limbs.length c3, Value.slice A4 x.names.length c4, Value.slice A5 x.kids.length c5, Value.slice A6 x.alts.length c6] 35)).alloc (by simp) (.cells #[Value.int IntKind.i64 x.kind, Value.string x.name, Value.bool x.minus, Value.slice A3' x.limbs.length c3', Value.slice A4' x.names.length c4', Value.slice A5' x.kids.length c5', Value.slice A6' x.alts.length c6'] 35))
 refine (zaa x.minus x.limbs _ _ _ _ _ (Kd.C_below G3.out HB0.out) l3 (Kd.C_below G3'.out HB0.out) l3').mono ?_
 rintro e w2 ⟨rfl, hb2⟩
 have HB2 := Wd hb2; clear hb2 HB0
 have hc2 := qhg HB2.out
 go_wp2_with fail
 clear hc2
 refine (qsh x.names _ _ _ _ _ (Kd.C_below G4.out (Xz HB2.out)) l4 (Kd.C_below G4'.out (Xz HB2.out)) l4').mono ?_
 rintro e w3 ⟨rfl, hb3⟩
 have HB3 := Wd (Below.step HB2.out hb3); clear hb3 HB2
 have hc3 := qhg HB3.out
 go_wp2_with fail
 clear hc3
 refine (qms x.kids IHK.out _ _ _ _ _ (Kd.C_below G5.out (Xz HB3.out)) l5 (Kd.C_below G5'.out (Xz HB3.out)) l5').mono ?_
 rintro e w4 ⟨rfl, hb4⟩
 have HB4 := Wd (Below.step HB3.out hb4); clear hb4 HB3
 have hc4 := qhg HB4.out
 go_wp2_with fail
 clear hc4
 refine (qhi x.alts IHA.out _ _ _ _ _ (Kd.C_below G6.out (Xz HB4.out)) l6 (Kd.C_below G6'.out (Xz HB4.out)) l6').mono ?_
 rintro e w5 ⟨rfl, hb5⟩
 have HB5 := Wd (Below.step HB4.out hb5); clear hb5 HB4
 go_wp2
 go_ret
 exact ⟨rfl, Xz HB5.out⟩
theorem qku (x : CoreT) : qhl x :=
 Za qhl (fun c hk ha => qpv c hk (fun a h => qja a (ha a h))) x
end Go.Proofs.YtnoammmohdmnjaaGreat.C13
