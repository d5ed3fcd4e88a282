import Derived.Test.YtnoammmohdmnjaaGreatU9
set_option maxRecDepth 100000
set_option maxHeartbeats 16000000
set_option linter.unusedVariables false
set_option linter.unusedSimpArgs false
namespace Go.Proofs.YtnoammmohdmnjaaGreat.C13
open Go.RowKit Go.Proofs.YtnoammmohdmnjaaGreatW.PrintWords
open List renaming setIfInBounds_toArray → Jla, set_cons_zero → Jlb, set_cons_succ → Jlc
def Qh (f : Nat) (args : Array Value) (w : World) (b : Bool) : Prop := Calls Tryz.prog f args w fun e w' => e = .returned (.bool b) ∧ Below w.heap.size w w'
section
variable (x : CoreT) (A3 : Option Addr) (c3 : Nat) (A4 : Option Addr) (c4 : Nat) (A5 : Option Addr) (c5 : Nat) (A6 : Option Addr) (c6 : Nat) (w : World)
theorem f11 {p : Prop} (h : p := by
 unfold Qh
 simp only [Qb]
 go_enter Tryz.func68, Tryz.ntmps68
 go_wp2
 all_goals go_ret
 all_goals exact ⟨rfl, (Below.refl _ _).alloc (Nat.le_refl _) _⟩) : p := h
theorem qug (hk2 : (x.kind != 2) = true) (he2 : (x.kind == 2) = false) (hl : 0 < x.limbs.length) : Qh 68 #[.agg (Qb x A3 c3 A4 c4 A5 c5 A6 c6).toArray] w false := by
 exact f11
theorem quh (hk2 : (x.kind != 2) = true) (he2 : (x.kind == 2) = false) (hl : x.limbs.length = 0) (hm : x.minus = true) : Qh 68 #[.agg (Qb x A3 c3 A4 c4 A5 c5 A6 c6).toArray] w false := by
 exact f11
theorem qui (hk : x.kind = 2) (ha : 0 < x.alts.length) : Qh 68 #[.agg (Qb x A3 c3 A4 c4 A5 c5 A6 c6).toArray] w false := by
 exact f11
theorem quj (hk2 : (x.kind != 2) = true) (hk8 : (x.kind != 8) = true) (he2 : (x.kind == 2) = false) (he8 : (x.kind == 8) = false) (hm : x.minus = false) (hl : x.limbs.length = 0) (ha : 0 < x.alts.length) : Qh 68 #[.agg (Qb x A3 c3 A4 c4 A5 c5 A6 c6).toArray] w false := by
 exact f11
theorem quk (hk : x.kind = 2) (ha : x.alts.length = 0) (hn : 0 < x.names.length) : Qh 68 #[.agg (Qb x A3 c3 A4 c4 A5 c5 A6 c6).toArray] w false := by
 exact f11
theorem qul (hk : x.kind = 8) (hm : x.minus = false) (hl : x.limbs.length = 0) (hn : 0 < x.names.length) : Qh 68 #[.agg (Qb x A3 c3 A4 c4 A5 c5 A6 c6).toArray] w false := by
 exact f11
theorem qum (hk2 : (x.kind != 2) = true) (hk8 : (x.kind != 8) = true) (hk6 : (x.kind != 6) = true) (hk7 : (x.kind != 7) = true) (he2 : (x.kind == 2) = false) (he8 : (x.kind == 8) = false) (he6 : (x.kind == 6) = false) (he7 : (x.kind == 7) = false) (hm : x.minus = false) (hl : x.limbs.length = 0) (ha : x.alts.length = 0) (hn : 0 < x.names.length) : Qh 68 #[.agg (Qb x A3 c3 A4 c4 A5 c5 A6 c6).toArray] w false := by
 exact f11
theorem qyj (hk : x.kind = 1) (hm : x.minus = false) (hl : x.limbs.length = 0) (ha : x.alts.length = 0) (hn : x.names.length = 0) (hs : x.name = ⟨#[]⟩) : Qh 68 #[.agg (Qb x A3 c3 A4 c4 A5 c5 A6 c6).toArray] w false := by
 exact f11
theorem qxt (hk : x.kind = 2) (ha : x.alts.length = 0) (hn : x.names.length = 0) (hs : x.name.toList.isEmpty = false) (hs2 : x.name.toList = [] ↔ False) : Qh 68 #[.agg (Qb x A3 c3 A4 c4 A5 c5 A6 c6).toArray] w false := by
 exact f11
theorem qxo (hk : x.kind = 3) (hm : x.minus = false) (hl : x.limbs.length = 0) (ha : x.alts.length = 0) (hn : x.names.length = 0) (hz : ((x.name.size : Int) == 1) = false) : Qh 68 #[.agg (Qb x A3 c3 A4 c4 A5 c5 A6 c6).toArray] w false := by
 exact f11
theorem quo (hk : x.kind = 1) (hm : x.minus = false) (hl : x.limbs.length = 0) (ha : x.alts.length = 0) (hn : x.names.length = 0) (hs : x.name.toList.isEmpty = false) (hs2 : x.name.toList = [] ↔ False) : Qh 68 #[.agg (Qb x A3 c3 A4 c4 A5 c5 A6 c6).toArray] w ((x.kids.length : Int) == 0) := by
 exact f11
theorem qxu (hk : x.kind = 2) (ha : x.alts.length = 0) (hn : x.names.length = 0) (hs : x.name = ⟨#[]⟩) (hq : ((x.kids.length : Int) == 0) = false) : Qh 68 #[.agg (Qb x A3 c3 A4 c4 A5 c5 A6 c6).toArray] w false := by
 exact f11
theorem quf (hk : x.kind = 3) (hm : x.minus = false) (hl : x.limbs.length = 0) (ha : x.alts.length = 0) (hn : x.names.length = 0) (hz : x.name.size = 1) : Qh 68 #[.agg (Qb x A3 c3 A4 c4 A5 c5 A6 c6).toArray] w ((x.kids.length : Int) == 0) := by
 exact f11
theorem qun (hk : x.kind = 10) (hm : x.minus = false) (hl : x.limbs.length = 0) (ha : x.alts.length = 0) (hn : x.names.length = 0) (hs : x.name.toList.isEmpty = false) (hs2 : x.name.toList = [] ↔ False) (hz : x.name.size ≤ 60000) : Qh 68 #[.agg (Qb x A3 c3 A4 c4 A5 c5 A6 c6).toArray] w ((x.kids.length : Int) == 0) := by
 exact f11
theorem que (hk : x.kind = 5) (hm : x.minus = false) (hl : x.limbs.length = 0) (ha : x.alts.length = 0) (hn : x.names.length = 0) (hs : x.name = ⟨#[]⟩) : Qh 68 #[.agg (Qb x A3 c3 A4 c4 A5 c5 A6 c6).toArray] w (decide (2 ≤ (x.kids.length : Int))) := by
 exact f11
theorem qyf (hk : x.kind = 4) (hm : x.minus = false) (hl : x.limbs.length = 0) (ha : x.alts.length = 0) (hn : x.names.length = 0) (hs : x.name = ⟨#[]⟩) : Qh 68 #[.agg (Qb x A3 c3 A4 c4 A5 c5 A6 c6).toArray] w false := by
 exact f11
theorem qyg (hk : x.kind = 4) (hm : x.minus = false) (hl : x.limbs.length = 0) (ha : x.alts.length = 0) (hn : x.names.length = 0) (hs : x.name.toList.isEmpty = false) (hs2 : x.name.toList = [] ↔ False) : Qh 68 #[.agg (Qb x A3 c3 A4 c4 A5 c5 A6 c6).toArray] w true := by
 exact f11
theorem qyh (hk : x.kind = 10) (hm : x.minus = false) (hl : x.limbs.length = 0) (ha : x.alts.length = 0) (hn : x.names.length = 0) (hs : x.name = ⟨#[]⟩) : Qh 68 #[.agg (Qb x A3 c3 A4 c4 A5 c5 A6 c6).toArray] w false := by
 exact f11
theorem qyi (hk : x.kind = 10) (hm : x.minus = false) (hl : x.limbs.length = 0) (ha : x.alts.length = 0) (hn : x.names.length = 0) (hs : x.name.toList.isEmpty = false) (hs2 : x.name.toList = [] ↔ False) (hz : 60000 < x.name.size) : Qh 68 #[.agg (Qb x A3 c3 A4 c4 A5 c5 A6 c6).toArray] w false := by
 exact f11
theorem qxn (hk : x.kind = 5) (hm : x.minus = false) (hl : x.limbs.length = 0) (ha : x.alts.length = 0) (hn : x.names.length = 0) (hs : x.name.toList.isEmpty = false) (hs2 : x.name.toList = [] ↔ False) : Qh 68 #[.agg (Qb x A3 c3 A4 c4 A5 c5 A6 c6).toArray] w false := by
 exact f11
theorem qyb (hk : x.kind = 6) (hm : x.minus = false) (hl : x.limbs.length = 0) (ha : x.alts.length = 0) (hs : x.name.toList.isEmpty = false) (hs2 : x.name.toList = [] ↔ False) : Qh 68 #[.agg (Qb x A3 c3 A4 c4 A5 c5 A6 c6).toArray] w false := by
 exact f11
theorem qyc (hk : x.kind = 6) (hm : x.minus = false) (hl : x.limbs.length = 0) (ha : x.alts.length = 0) (hs : x.name = ⟨#[]⟩) (hq : ((x.kids.length : Int) == 1) = false) : Qh 68 #[.agg (Qb x A3 c3 A4 c4 A5 c5 A6 c6).toArray] w false := by
 exact f11
theorem qyd (hk : x.kind = 6) (hm : x.minus = false) (hl : x.limbs.length = 0) (ha : x.alts.length = 0) (hs : x.name = ⟨#[]⟩) (hq : x.kids.length = 1) (hn : x.names.length = 0) : Qh 68 #[.agg (Qb x A3 c3 A4 c4 A5 c5 A6 c6).toArray] w false := by
 exact f11
theorem qxp (hk : x.kind = 7) (hm : x.minus = false) (hl : x.limbs.length = 0) (ha : x.alts.length = 0) (hs : x.name.toList.isEmpty = false) (hs2 : x.name.toList = [] ↔ False) : Qh 68 #[.agg (Qb x A3 c3 A4 c4 A5 c5 A6 c6).toArray] w false := by
 exact f11
theorem qxq (hk : x.kind = 7) (hm : x.minus = false) (hl : x.limbs.length = 0) (ha : x.alts.length = 0) (hs : x.name = ⟨#[]⟩) (hn : x.names.length = 0) : Qh 68 #[.agg (Qb x A3 c3 A4 c4 A5 c5 A6 c6).toArray] w false := by
 exact f11
theorem qxr (hk : x.kind = 7) (hm : x.minus = false) (hl : x.limbs.length = 0) (ha : x.alts.length = 0) (hs : x.name = ⟨#[]⟩) (hn : 0 < x.names.length) (hnl : x.names.length ≤ 274877906944) (hq : ((x.kids.length : Int) == (x.names.length : Int) + 1) = false) : Qh 68 #[.agg (Qb x A3 c3 A4 c4 A5 c5 A6 c6).toArray] w false := by
 exact f11
theorem qxw (hk : x.kind = 8) (hm : x.minus = false) (hl : x.limbs.length = 0) (hn : x.names.length = 0) (hq : x.kids.length = 0) : Qh 68 #[.agg (Qb x A3 c3 A4 c4 A5 c5 A6 c6).toArray] w false := by
 exact f11
theorem qxx (hk : x.kind = 8) (hm : x.minus = false) (hl : x.limbs.length = 0) (hn : x.names.length = 0) (hq : 2 < x.kids.length) : Qh 68 #[.agg (Qb x A3 c3 A4 c4 A5 c5 A6 c6).toArray] w false := by
 exact f11
theorem qxy (hk : x.kind = 8) (hm : x.minus = false) (hl : x.limbs.length = 0) (hn : x.names.length = 0) (hq : x.kids.length = 1) (ha : x.alts.length = 0) : Qh 68 #[.agg (Qb x A3 c3 A4 c4 A5 c5 A6 c6).toArray] w false := by
 exact f11
theorem qyk (hk1 : (x.kind != 1) = true) (hk2 : (x.kind != 2) = true) (hk3 : (x.kind != 3) = true) (hk4 : (x.kind != 4) = true) (hk5 : (x.kind != 5) = true) (hk6 : (x.kind != 6) = true) (hk7 : (x.kind != 7) = true) (hk8 : (x.kind != 8) = true) (hk9 : (x.kind != 9) = true) (hk10 : (x.kind != 10) = true) (he1 : (x.kind == 1) = false) (he2 : (x.kind == 2) = false) (he3 : (x.kind == 3) = false) (he4 : (x.kind == 4) = false) (he5 : (x.kind == 5) = false) (he6 : (x.kind == 6) = false) (he7 : (x.kind == 7) = false) (he8 : (x.kind == 8) = false) (he9 : (x.kind == 9) = false) (he10 : (x.kind == 10) = false) (hm : x.minus = false) (hl : x.limbs.length = 0) (ha : x.alts.length = 0) (hn : x.names.length = 0) : Qh 68 #[.agg (Qb x A3 c3 A4 c4 A5 c5 A6 c6).toArray] w false := by
 exact f11
end
section
variable (x : CoreT) (A3 : Option Addr) (c3 : Nat) (A4 : Option Addr) (c4 : Nat) (A5 : Option Addr) (c5 : Nat) (A6 : Option Addr) (c6 : Nat) (w : World)
theorem f122 {p : Prop} (h : p := by
 rintro e w2 ⟨rfl, hb2⟩
 have HB := Wd hb2; clear hb2
 go_wp2
 go_ret
 exact ⟨rfl, Jk HB.out⟩) : p := h
theorem qxv (g3 : (Kd.int .u32).C w A3 x.limbs.length x.limbs) (l3 : x.limbs.length ≤ c3) (hk : x.kind = 2) (ha : x.alts.length = 0) (hn : x.names.length = 0) (hs : x.name = ⟨#[]⟩) (hq : x.kids.length = 0) :
  Qh 68 #[.agg (Qb x A3 c3 A4 c4 A5 c5 A6 c6).toArray] w (!Jl x.minus x.limbs) := by
 unfold Qh
 have hl := g3.2.1
 by_cases hb : 0 < x.limbs.length
 ·simp only [Qb]
  have G3 := Wd g3; clear g3
  go_enter Tryz.func68, Tryz.ntmps68
  go_wp2_with fail
  refine (qup _ x.limbs _ _ _ (Kd.C_below G3.out ((Below.refl _ _).alloc (Nat.le_refl _) _)) l3).mono ?_
  exact f122
 ·have h0 : x.limbs = [] := List.eq_nil_of_length_eq_zero (by omega)
  rw [h0] at g3 l3 ⊢
  simp only [Qb, h0, List.length_nil] at g3 l3 ⊢
  have G3 := Wd g3; have L3 := Wd l3; clear g3 hb hl h0 l3
  go_enter Tryz.func68, Tryz.ntmps68
  go_wp2_with fail
  refine (qup _ [] _ _ _ (Kd.C_below G3.out ((Below.refl _ _).alloc (Nat.le_refl _) _)) L3.out).mono ?_
  exact f122
theorem f38 {p : Prop} (h : p := by
 unfold Qh
 simp only [Qb]
 have G4 := Wd g4; clear g4
 have hn1 : decide (1 ≤ (x.names.length : Int)) = true := by simp; omega
 go_enter Tryz.func68, Tryz.ntmps68
 go_wp2_with fail
 refine (qlf x.names (by omega) _ _ _ (Kd.C_below G4.out ((Below.refl _ _).alloc (Nat.le_refl _) _)) l4).mono ?_
 exact f122) : p := h
theorem qye (g4 : Kd.string.C w A4 x.names.length x.names) (l4 : x.names.length ≤ c4) (hnl : x.names.length ≤ 274877906944) (hk : x.kind = 6) (hm : x.minus = false) (hl : x.limbs.length = 0) (ha : x.alts.length = 0) (hs : x.name = ⟨#[]⟩) (hq : x.kids.length = 1) (hn : 0 < x.names.length) :
  Qh 68 #[.agg (Qb x A3 c3 A4 c4 A5 c5 A6 c6).toArray] w (dec (Zh x.names)) := by
 exact f38
theorem qxs (g4 : Kd.string.C w A4 x.names.length x.names) (l4 : x.names.length ≤ c4) (hnl : x.names.length ≤ 274877906944) (hk : x.kind = 7) (hm : x.minus = false) (hl : x.limbs.length = 0) (ha : x.alts.length = 0) (hs : x.name = ⟨#[]⟩) (hq : ((x.kids.length : Int) == (x.names.length : Int) + 1) = true) (hn : 0 < x.names.length) :
  Qh 68 #[.agg (Qb x A3 c3 A4 c4 A5 c5 A6 c6).toArray] w (dec (Zh x.names)) := by
 exact f38
theorem zat (hk : x.kind = 9) (hm : x.minus = false) (hl : x.limbs.length = 0) (ha : x.alts.length = 0) (hn : x.names.length = 0) :
  Qh 68 #[.agg (Qb x A3 c3 A4 c4 A5 c5 A6 c6).toArray] w (decide (0 < Qi x.name) && ((x.kids.length : Int) == Qi x.name)) := by
 unfold Qh
 simp only [Qb]
 have hpe := qyl x.name
 generalize Qi x.name = p at *
 have HPE := Wd hpe; clear hpe
 go_enter Tryz.func68, Tryz.ntmps68
 go_wp2_with fail
 refine (HPE.out _).mono ?_
 rintro e w2 ⟨rfl, hb2⟩
 have HB := Wd hb2; clear hb2
 by_cases hp : 0 < p
 ·have hp1 : decide (0 < p) = true := decide_eq_true hp
  have hc := qhg HB.out
  go_wp2_with fail
  clear hc
  refine (HPE.out _).mono ?_
  rintro e w3 ⟨rfl, hb3⟩
  have HB3 := Wd (Below.step HB.out hb3); clear hb3
  go_wp2
  go_ret
  exact ⟨by simp [hp], Jk HB3.out⟩
 ·have hp1 : decide (0 < p) = false := decide_eq_false hp
  go_wp2
  go_ret
  exact ⟨by rw [hp1]; rfl, Jk HB.out⟩
end
theorem qwn : (Tryz.prog.info? 9).map (fun i => (i.zero, i.size, i.bytes)) = some (some (.string ⟨#[]⟩), 1, 16) := by kernel_rfl
theorem qgo (w : World) (e : TypeId) (n : Nat) (hn : n = w.heap.size) : (w.alloc (.cells #[] e)).ownsRow n e 1 (.slice (some ⟨n, 0, none⟩) 0 0) 0 [] := by
 subst hn
 exact ⟨rfl, .inr ⟨_, 0, #[], rfl, Nat.le_refl _, qay w e #[], Nat.le_refl _, by simp [maxLen], rfl, rfl⟩⟩
theorem Vs {w w' : World} {base : Nat} {e : TypeId} {size : Nat} {v : Value} {n : Nat} {xs : List Value} (h : w.ownsRow base e size v n xs) (hb : Below w.heap.size w w') : w'.ownsRow base e size v n xs :=
 h.kept (Ky hb none) (by cases hv : v.ownBlock <;> simp)
theorem qli {w : World} {base : Nat} {e : TypeId} {size : Nat} {v : Value} {n : Nat} {xs : List Value} (h : w.ownsRow base e size v n xs) : ∀ k, v.ownBlock = some k → base ≤ k := by
 intro k hk
 rcases h.2 with ⟨rfl, _⟩ | ⟨g, cap, cur, rfl, hg, _⟩
 ·cases hk
 ·simp only [Value.ownBlock] at hk; injection hk with hk; omega
def qch (l : List AltT) : Prop := ∀ a ∈ l, a.con ≠ ⟨#[]⟩ ∧ Zh a.names
def qcl (l : List AltT) : Prop := qch l ∧ (l.map (·.con)).Nodup
section
variable (x : CoreT) (A3 : Option Addr) (c3 : Nat) (A4 : Option Addr) (c4 : Nat) (A5 : Option Addr) (c5 : Nat) (A6 : Option Addr) (c6 : Nat) (w : World)
theorem f10 {p : Prop} (h : p := by
 simp only [hk, hm, hl, hn, hq]
 have ⟨HKe, HMe, HLe, HNe, HQe⟩ := Wz hk hm hl hn hq
 clear hk hm hl hn hq
 go_enter Tryz.func68, Tryz.ntmps68
 go_wp2_with fail
 obtain ⟨W1, hW1, hp1, hB1, hs1⟩ := Wy w x A3 c3 A4 c4 A5 c5 A6 c6 35
 rw [HKe.out, HMe.out, HLe.out, HNe.out, HQe.out] at hW1 hp1
 rw [← hW1]
 have ⟨BP, HB1, HS1⟩ := Wq hp1 hB1 hs1
 clear hp1 hB1 hs1 hW1
 go_loopw [6, 7] (fun v i wr => ∃ (k : Nat), k ≤ x.alts.length ∧ i = .int .i64 k ∧ Hid (qch (x.alts.take k)) ∧ Hid (wr.ownsRow (w.heap.size + 1) 9 1 v k (Xa ((x.alts.map (·.con)).take k))) ∧ Hid (Below W1.heap.size W1 wr)) (fun _ i _ => x.alts.length - (intOf i).toNat)
 case atStart => exact ⟨0, Nat.zero_le _, rfl, Wd (fun a ha => by simp at ha), Wd (qgo W1 _ _ HS1.out.symm), Wd (Below.alloc (Below.refl _ _) (Nat.le_refl _) _)⟩
 case round =>
  obtain ⟨k, hk', rfl, HN, HOW, HB⟩ := hrel
  have HBw := Wd (HB1.out.trans (HB.out.mono (by have := HS1.out; omega)))
  have HP := Wd (BP.out.below HB.out)
  have p6 := HP.out.cell (j := 6) rfl
  by_cases hlt : k < x.alts.length
  ·obtain ⟨ad, A1, c1, A3', c3', A4', c4', B5, d5, B6, d6, rfl, _, _, l1, hnm, g0, g1, g2, g3, g4, g5, g6, g7, g8⟩ := Yd G6.out HBw.out k hlt
   clear g2 g3 g4 g5 g6 g7 g8
   by_cases hce : x.alts[k].con = ⟨#[]⟩
   ·rw [hce] at g0
    have HCE := Wd hce; clear hce
    go_wp2
    go_ret
    exact ⟨by rw [HR.out, Qd (fun h => (h.1 _ (List.getElem_mem hlt)).1 HCE.out)]; rfl, HBw.out⟩
   ·have hne : x.alts[k].con.toList.isEmpty = false := by
     cases h : x.alts[k].con.toList with
     | nil => exact absurd (Jz (h.trans empty_toList.symm)) hce
     | cons a b => rfl
    have hne2 : x.alts[k].con.toList = [] ↔ False := ⟨(fun h => by rw [h] at hne; cases hne), False.elim⟩
    have HCE := Wd hce; clear hce
    have hnb := Zu (List.getElem_mem hlt)
    rw [Zo] at hnb
    have hnl : x.alts[k].names.length ≤ 274877906944 := by have := Qn x.alts[k].names; have := HBK.out; omega
    go_wp2_with fail
    refine (qlf x.alts[k].names (by omega) _ _ _ (Kd.C_below hnm HBw.out) l1).mono ?_
    rintro e w2 ⟨rfl, hb2⟩
    have HB2 := Wd hb2
    clear hb2 hnm hnb hnl
    by_cases hno : Zh x.alts[k].names
    ·rw [Qm hno]
     have g0' := Cl HB2.out g0
     have p6' := Cl HB2.out p6
     have HOW2 := Wd (Vs HOW.out HB2.out)
     have HBB := Wd (Below.step HB.out HB2.out)
     have HN2 := Wd (show qch (x.alts.take (k + 1)) from by
      intro a ha
      rw [Qf hlt] at ha
      rcases List.mem_append.1 ha with ha | ha
      ·exact HN.out a ha
      ·rw [List.mem_singleton.1 ha]; exact ⟨HCE.out, hno⟩)
     clear g0 p6 g1 HP
     have HLT := Wd hlt
     go_wp2_with (at_builtin; refine Ux (w0 := W1) (w.heap.size + 1) rfl _ _ 25 9 (.string ⟨#[]⟩) 1 16 rfl Tryz.underlying25 qwn rfl (by decide) (by decide) u6 k (Xa ((x.alts.map (·.con)).take k)) [.string x.alts[k].con] rfl rfl rfl (by intro v hv; rw [List.mem_singleton.1 hv]; rfl) HOW2.out (by have := HBB.out; rw [HS1.out] at this; exact this) (by have := HBB.out.size; have := HS1.out; omega) (by omega) ?_)
     intro v1 w3 hown3 hb3 hg3 _
     have HOW3 := Wd hown3; have HB3 := Wd (show Below W1.heap.size W1 w3 from by rw [HS1.out]; exact hb3)
     clear hown3 hb3 hg3 g0' p6'
     go_wp2
     go_roundw
     case rel => exact ⟨k + 1, by omega, by go_num, HN2, Wd (by have := HOW3.out; have e : (x.alts.map (·.con)).take (k + 1) = (x.alts.map (·.con)).take k ++ [x.alts[k].con] := by { rw [Qf (l := x.alts.map (·.con)) (by rw [List.length_map]; exact hlt), List.getElem_map]; rfl }; rw [e]; unfold Xa at this ⊢; rw [List.map_append]; exact this), HB3⟩
     case measure => simp [intOf]; omega
    ·rw [Qd hno]
     go_wp2
     go_ret
     exact ⟨by rw [HR.out, Qd (fun h => hno (h.1 _ (List.getElem_mem hlt)).2)]; rfl, Below.step HBw.out HB2.out⟩
  ·have hkk : k = x.alts.length := by omega
   have hnn := HN.out
   have how := HOW.out
   rw [hkk, List.take_length] at hnn
   rw [hkk, List.take_of_length_le (by rw [List.length_map]; exact Nat.le_refl _)] at how
   have HKK := Wd hkk; clear hkk
   obtain ⟨F, hrow, _, _⟩ := qdw how
   obtain ⟨A, c, rfl, hlc, hC⟩ := Row.readsS (l := x.alts.map (·.con)) (by rw [List.length_map]; exact hrow)
   have HNN := Wd hnn; have HC := Wd hC
   clear hnn how hrow hC
   rw [List.length_map]
   go_wp2_with fail
   refine (Calls.mono (by have := qmc (x.alts.map (·.con)) (by rw [List.length_map]; omega) _ c wr HC.out hlc; rw [List.length_map] at this; exact this) ?_)
   rintro e w2 ⟨rfl, hb2⟩
   have HB2 := Wd (Below.step HBw.out hb2); clear hb2
   go_wp2
   go_ret
   exact ⟨by rw [HR.out]; show Ending.returned (Value.bool (!dec _)) = _; rw [qsc]; congr 2; exact Xs ⟨fun h => ⟨HNN.out, Classical.not_not.1 h⟩, fun h h' => h' h.2⟩, HB2.out⟩) : p := h
theorem qxz (hbk : bulk x ≤ 274877906944) (g6 : IA.C w A6 x.alts.length x.alts) (l6 : x.alts.length ≤ c6) (hk : x.kind = 8) (hm : x.minus = false) (hl : x.limbs.length = 0) (hn : x.names.length = 0) (hq : x.kids.length = 2) :
  Qh 68 #[.agg (Qb x A3 c3 A4 c4 A5 c5 A6 c6).toArray] w (dec (qcl x.alts)) := by
 unfold Qh
 simp only [Qb]
 rw [Qg] at hbk
 have hla : x.alts.length ≤ 274877906944 := by have := Ks x.alts; omega
 have HBK := Wd hbk; clear hbk
 obtain ⟨r, hr⟩ : ∃ r, r = dec (qcl x.alts) := ⟨_, rfl⟩
 rw [← hr]
 have HR := Wd hr; clear hr
 have G6 := Wd g6; clear g6
 obtain ⟨i0, hi, hz0, hz1, hz2⟩ := info_parts qwn
 have ⟨HI, HZ0, HZ1, HZ2⟩ := Wj hi hz0 hz1 hz2; clear hi hz0 hz1 hz2
 exact f10
theorem qya (hbk : bulk x ≤ 274877906944) (g6 : IA.C w A6 x.alts.length x.alts) (l6 : x.alts.length ≤ c6) (hk : x.kind = 8) (hm : x.minus = false) (hl : x.limbs.length = 0) (hn : x.names.length = 0) (hq : x.kids.length = 1) (hq2 : 0 < x.alts.length) :
  Qh 68 #[.agg (Qb x A3 c3 A4 c4 A5 c5 A6 c6).toArray] w (dec (qcl x.alts)) := by
 unfold Qh
 simp only [Qb]
 rw [Qg] at hbk
 have hla : x.alts.length ≤ 274877906944 := by have := Ks x.alts; omega
 have HBK := Wd hbk; clear hbk
 obtain ⟨r, hr⟩ : ∃ r, r = dec (qcl x.alts) := ⟨_, rfl⟩
 rw [← hr]
 have HR := Wd hr; clear hr
 have G6 := Wd g6; clear g6
 obtain ⟨i0, hi, hz0, hz1, hz2⟩ := info_parts qwn
 have ⟨HI, HZ0, HZ1, HZ2⟩ := Wj hi hz0 hz1 hz2; clear hi hz0 hz1 hz2
 have hq3 : ((x.alts.length : Int) == 0) = false := beq_eq_false_iff_ne.2 (by omega)
 exact f10
end
def Zw (x : CoreT) : Prop :=
 (x.kind = 2 ∨ x.limbs.length = 0) ∧ (x.kind = 2 ∨ x.minus = false) ∧ (x.kind = 8 ∨ x.alts.length = 0) ∧ (x.kind = 6 ∨ x.kind = 7 ∨ x.names.length = 0) ∧
 ((x.kind = 1 ∧ 0 < x.name.size ∧ x.kids.length = 0) ∨ (x.kind = 2 ∧ x.name.size = 0 ∧ x.kids.length = 0 ∧ Jl x.minus x.limbs = false) ∨ (x.kind = 3 ∧ x.name.size = 1 ∧ x.kids.length = 0) ∨
  (x.kind = 4 ∧ 0 < x.name.size) ∨ (x.kind = 10 ∧ 0 < x.name.size ∧ x.name.size ≤ 60000 ∧ x.kids.length = 0) ∨ (x.kind = 5 ∧ x.name.size = 0 ∧ 2 ≤ x.kids.length) ∨
  (x.kind = 6 ∧ x.name.size = 0 ∧ x.kids.length = 1 ∧ 0 < x.names.length ∧ Zh x.names) ∨ (x.kind = 7 ∧ x.name.size = 0 ∧ x.kids.length = x.names.length + 1 ∧ 0 < x.names.length ∧ Zh x.names) ∨
  (x.kind = 8 ∧ (x.kids.length = 2 ∨ x.kids.length = 1 ∧ 0 < x.alts.length) ∧ qcl x.alts) ∨ (x.kind = 9 ∧ 0 < Qi x.name ∧ (x.kids.length : Int) = Qi x.name))
theorem Kj {s : ByteArray} : s.size = 0 ↔ s = ⟨#[]⟩ := by
 constructor
 ·intro h
  cases s with
  | mk d => simp only [ByteArray.size, Array.size_eq_zero_iff] at h; rw [h]
 ·rintro rfl; rfl
theorem Jh {s : ByteArray} (h : 0 < s.size) : s.toList.isEmpty = false := by
 cases hl : s.toList with
 | nil => have := Kj.2 (Jz (hl.trans empty_toList.symm)); omega
 | cons a b => rfl
theorem Xl {s : ByteArray} (h : 0 < s.size) : s.toList = [] ↔ False := by
 have := Jh h
 exact ⟨(fun hl => by rw [hl] at this; cases this), False.elim⟩
theorem Jq {f args w b c} (h : Qh f args w b) (e : b = c) : Qh f args w c := e ▸ h
section
variable {x : CoreT}
theorem qla (hbk : bulk x ≤ 274877906944) (w : World) (cs : List Value) (hK : IC.K w x cs) : Qh 68 #[.agg cs.toArray] w (dec (Zw x)) := by
 obtain ⟨A3, c3, A4, c4, A5, c5, A6, c6, rfl, l3, g3, l4, g4, l5, g5, l6, g6⟩ := Qk hK
 have hbk' := hbk
 rw [Qg] at hbk'
 have hnl : x.names.length ≤ 274877906944 := by have := Qn x.names; omega
 have ne : ∀ {n : Int}, x.kind ≠ n → (x.kind != n) = true := fun h => bne_iff_ne.2 h
 have ee : ∀ {n : Int}, x.kind ≠ n → (x.kind == n) = false := fun h => beq_eq_false_iff_ne.2 h
 by_cases p1 : x.kind = 2 ∨ x.limbs.length = 0
 case neg =>
  exact Jq (qug x A3 c3 A4 c4 A5 c5 A6 c6 w (ne (by omega)) (ee (by omega)) (by omega)) (Qd (fun h => p1 h.1)).symm
 by_cases p1b : x.kind = 2 ∨ x.minus = false
 case neg =>
  have hk : x.kind ≠ 2 := fun h => p1b (.inl h)
  have hm : x.minus = true := by cases h : x.minus with | true => rfl | false => exact absurd (.inr h) p1b
  exact Jq (quh x A3 c3 A4 c4 A5 c5 A6 c6 w (ne hk) (ee hk) (by omega) hm) (Qd (fun h => p1b h.2.1)).symm
 by_cases p2 : x.kind = 8 ∨ x.alts.length = 0
 case neg =>
  by_cases hk : x.kind = 2
  ·exact Jq (qui x A3 c3 A4 c4 A5 c5 A6 c6 w hk (by omega)) (Qd (fun h => p2 h.2.2.1)).symm
  ·exact Jq (quj x A3 c3 A4 c4 A5 c5 A6 c6 w (ne hk) (ne (by omega)) (ee hk) (ee (by omega)) (p1b.resolve_left hk) (by omega) (by omega)) (Qd (fun h => p2 h.2.2.1)).symm
 by_cases p3 : x.kind = 6 ∨ x.kind = 7 ∨ x.names.length = 0
 case neg =>
  have hr := (Qd (p := Zw x) (fun h => p3 h.2.2.2.1)).symm
  by_cases hk : x.kind = 2
  ·exact Jq (quk x A3 c3 A4 c4 A5 c5 A6 c6 w hk (by omega) (by omega)) hr
  by_cases hk8 : x.kind = 8
  ·exact Jq (qul x A3 c3 A4 c4 A5 c5 A6 c6 w hk8 (p1b.resolve_left hk) (by omega) (by omega)) hr
  ·exact Jq (qum x A3 c3 A4 c4 A5 c5 A6 c6 w (ne hk) (ne hk8) (ne (by omega)) (ne (by omega)) (ee hk) (ee hk8) (ee (by omega)) (ee (by omega)) (p1b.resolve_left hk) (by omega) (by omega) (by omega)) hr
 have hle : ∀ {b : Bool}, (b = true ↔ Zw x) → b = dec (Zw x) := fun h => by
  rename_i b
  cases b with
  | true => exact (Qm (h.1 rfl)).symm
  | false => exact (Qd (fun s => by have := h.2 s; cases this)).symm
 have hz : 0 < x.name.size ∨ x.name = ⟨#[]⟩ := by
  rcases Nat.eq_zero_or_pos x.name.size with h | h
  ·exact .inr (Kj.1 h)
  ·exact .inl h
 have hE : x.name = ⟨#[]⟩ → x.name.size = 0 := fun h => Kj.2 h
 have notk : ∀ {n m : Int}, x.kind = n → n ≠ m → (x.kind = m) = False := fun h hne => by simp [h, hne]
 have E0 : (⟨#[]⟩ : ByteArray).size = 0 := rfl
 by_cases k1 : x.kind = 1
 ·have hm := p1b.resolve_left (by omega); have hl : x.limbs.length = 0 := by omega
  have ha : x.alts.length = 0 := by omega
  have hn : x.names.length = 0 := by omega
  rcases hz with hz | hz
  ·exact Jq (quo x A3 c3 A4 c4 A5 c5 A6 c6 w k1 hm hl ha hn (Jh hz) (Xl hz)) (hle (by simp [Zw, k1, hm, hl, ha, hn]; omega))
  ·exact Jq (qyj x A3 c3 A4 c4 A5 c5 A6 c6 w k1 hm hl ha hn hz) (hle (by simp [Zw, k1, hm, hl, ha, hn, hE hz]))
 by_cases k2 : x.kind = 2
 ·have ha : x.alts.length = 0 := by omega
  have hn : x.names.length = 0 := by omega
  rcases hz with hz | hz
  ·exact Jq (qxt x A3 c3 A4 c4 A5 c5 A6 c6 w k2 ha hn (Jh hz) (Xl hz)) (hle (by have hz' : ¬ x.name.size = 0 := Nat.ne_of_gt hz; simp [Zw, k2, ha, hn, hz']))
  ·by_cases hq : x.kids.length = 0
   ·exact Jq (qxv x A3 c3 A4 c4 A5 c5 A6 c6 w g3 l3 k2 ha hn hz hq) (hle (by simp [Zw, k2, ha, hn, hE hz, hq]))
   ·exact Jq (qxu x A3 c3 A4 c4 A5 c5 A6 c6 w k2 ha hn hz (beq_eq_false_iff_ne.2 (by omega))) (hle (by simp [Zw, k2, ha, hn, hE hz, hq]))
 have hm := p1b.resolve_left k2
 have hl : x.limbs.length = 0 := p1.resolve_left k2
 by_cases k8 : x.kind = 8
 ·have hn : x.names.length = 0 := by omega
  by_cases hq2 : x.kids.length = 2
  ·exact Jq (qxz x A3 c3 A4 c4 A5 c5 A6 c6 w hbk g6 l6 k8 hm hl hn hq2) (hle (by rw [qix]; simp [Zw, k8, hm, hl, hn, hq2]))
  ·by_cases hq1 : x.kids.length = 1
   ·by_cases ha : x.alts.length = 0
    ·exact Jq (qxy x A3 c3 A4 c4 A5 c5 A6 c6 w k8 hm hl hn hq1 ha) (hle (by simp [Zw, k8, hm, hl, hn, hq1, ha]))
    ·exact Jq (qya x A3 c3 A4 c4 A5 c5 A6 c6 w hbk g6 l6 k8 hm hl hn hq1 (by omega)) (hle (by rw [qix]; simp [Zw, k8, hm, hl, hn, hq1]; intro _; omega))
   ·by_cases hq0 : x.kids.length = 0
    ·exact Jq (qxw x A3 c3 A4 c4 A5 c5 A6 c6 w k8 hm hl hn hq0) (hle (by simp [Zw, k8, hm, hl, hn, hq0]))
    ·exact Jq (qxx x A3 c3 A4 c4 A5 c5 A6 c6 w k8 hm hl hn (by omega)) (hle (by simp [Zw, k8, hm, hl, hn, hq1, hq2]))
 have ha : x.alts.length = 0 := p2.resolve_left k8
 by_cases k6 : x.kind = 6
 ·rcases hz with hz | hz
  ·exact Jq (qyb x A3 c3 A4 c4 A5 c5 A6 c6 w k6 hm hl ha (Jh hz) (Xl hz)) (hle (by have hz' : ¬ x.name.size = 0 := Nat.ne_of_gt hz; simp [Zw, k6, hm, hl, ha, hz']))
  ·by_cases hq : x.kids.length = 1
   ·by_cases hn : x.names.length = 0
    ·exact Jq (qyd x A3 c3 A4 c4 A5 c5 A6 c6 w k6 hm hl ha hz hq hn) (hle (by simp [Zw, k6, hm, hl, ha, hE hz, hq, hn]))
    ·exact Jq (qye x A3 c3 A4 c4 A5 c5 A6 c6 w g4 l4 hnl k6 hm hl ha hz hq (by omega)) (hle (by rw [qix]; simp [Zw, k6, hm, hl, ha, hE hz, hq]; intro _; omega))
   ·exact Jq (qyc x A3 c3 A4 c4 A5 c5 A6 c6 w k6 hm hl ha hz (beq_eq_false_iff_ne.2 (by omega))) (hle (by simp [Zw, k6, hm, hl, ha, hE hz, hq]))
 by_cases k7 : x.kind = 7
 ·rcases hz with hz | hz
  ·exact Jq (qxp x A3 c3 A4 c4 A5 c5 A6 c6 w k7 hm hl ha (Jh hz) (Xl hz)) (hle (by have hz' : ¬ x.name.size = 0 := Nat.ne_of_gt hz; simp [Zw, k7, hm, hl, ha, hz']))
  ·by_cases hn : x.names.length = 0
   ·exact Jq (qxq x A3 c3 A4 c4 A5 c5 A6 c6 w k7 hm hl ha hz hn) (hle (by simp [Zw, k7, hm, hl, ha, hE hz, hn]))
   ·by_cases hq : x.kids.length = x.names.length + 1
    ·exact Jq (qxs x A3 c3 A4 c4 A5 c5 A6 c6 w g4 l4 hnl k7 hm hl ha hz (beq_iff_eq.2 (by omega)) (by omega)) (hle (by rw [qix]; simp [Zw, k7, hm, hl, ha, hE hz, hq]; intro _; omega))
    ·exact Jq (qxr x A3 c3 A4 c4 A5 c5 A6 c6 w k7 hm hl ha hz (by omega) hnl (beq_eq_false_iff_ne.2 (by omega))) (hle (by simp [Zw, k7, hm, hl, ha, hE hz, hq]))
 have hn : x.names.length = 0 := (p3.resolve_left k6).resolve_left k7
 by_cases k3 : x.kind = 3
 ·by_cases hs : x.name.size = 1
  ·exact Jq (quf x A3 c3 A4 c4 A5 c5 A6 c6 w k3 hm hl ha hn hs) (hle (by simp [Zw, k3, hm, hl, ha, hn, hs]))
  ·exact Jq (qxo x A3 c3 A4 c4 A5 c5 A6 c6 w k3 hm hl ha hn (beq_eq_false_iff_ne.2 (by omega))) (hle (by simp [Zw, k3, hm, hl, ha, hn, hs]))
 by_cases k4 : x.kind = 4
 ·rcases hz with hz | hz
  ·exact Jq (qyg x A3 c3 A4 c4 A5 c5 A6 c6 w k4 hm hl ha hn (Jh hz) (Xl hz)) (hle (by simp [Zw, k4, hm, hl, ha, hn, hz]))
  ·exact Jq (qyf x A3 c3 A4 c4 A5 c5 A6 c6 w k4 hm hl ha hn hz) (hle (by simp [Zw, k4, hm, hl, ha, hn, hE hz]))
 by_cases k10 : x.kind = 10
 ·rcases hz with hz | hz
  ·by_cases hs : x.name.size ≤ 60000
   ·exact Jq (qun x A3 c3 A4 c4 A5 c5 A6 c6 w k10 hm hl ha hn (Jh hz) (Xl hz) hs) (hle (by simp [Zw, k10, hm, hl, ha, hn, hz, hs]))
   ·exact Jq (qyi x A3 c3 A4 c4 A5 c5 A6 c6 w k10 hm hl ha hn (Jh hz) (Xl hz) (by omega)) (hle (by simp [Zw, k10, hm, hl, ha, hn, hz, hs]))
  ·exact Jq (qyh x A3 c3 A4 c4 A5 c5 A6 c6 w k10 hm hl ha hn hz) (hle (by simp [Zw, k10, hm, hl, ha, hn, hE hz]))
 by_cases k5 : x.kind = 5
 ·rcases hz with hz | hz
  ·exact Jq (qxn x A3 c3 A4 c4 A5 c5 A6 c6 w k5 hm hl ha hn (Jh hz) (Xl hz)) (hle (by have hz' : ¬ x.name.size = 0 := Nat.ne_of_gt hz; simp [Zw, k5, hm, hl, ha, hn, hz']))
  ·exact Jq (que x A3 c3 A4 c4 A5 c5 A6 c6 w k5 hm hl ha hn hz) (hle (by simp [Zw, k5, hm, hl, ha, hn, hE hz]; omega))
 by_cases k9 : x.kind = 9
 ·exact Jq (zat x A3 c3 A4 c4 A5 c5 A6 c6 w k9 hm hl ha hn) (hle (by simp [Zw, k9, hm, hl, ha, hn]))
 ·exact Jq (qyk x A3 c3 A4 c4 A5 c5 A6 c6 w (ne k1) (ne k2) (ne k3) (ne k4) (ne k5) (ne k6) (ne k7) (ne k8) (ne k9) (ne k10) (ee k1) (ee k2) (ee k3) (ee k4) (ee k5) (ee k6) (ee k7) (ee k8) (ee k9) (ee k10) hm hl ha hn) (hle (by simp [Zw, k1, k2, k3, k4, k5, k6, k7, k8, k9, k10]))
end
end Go.Proofs.YtnoammmohdmnjaaGreat.C13
