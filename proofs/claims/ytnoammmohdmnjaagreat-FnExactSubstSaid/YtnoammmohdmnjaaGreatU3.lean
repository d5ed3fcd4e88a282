import Derived.Test.YtnoammmohdmnjaaGreatU2
set_option maxRecDepth 100000
set_option maxHeartbeats 16000000
set_option linter.unusedVariables false
set_option linter.unusedSimpArgs false
namespace Go.Proofs.YtnoammmohdmnjaaGreat.C13
open Go.RowKit Go.Proofs.YtnoammmohdmnjaaGreatW.PrintWords
open List renaming setIfInBounds_toArray → Jla, set_cons_zero → Jlb, set_cons_succ → Jlc
theorem Wd {p : Prop} (h : p) : Hid p := Lib.hid h
theorem Wq {p0 : Prop} (h0 : p0) {p1 : Prop} (h1 : p1) {p2 : Prop} (h2 : p2) : Hid p0 ∧ Hid p1 ∧ Hid p2 := ⟨Wd h0, Wd h1, Wd h2⟩
theorem Wj {p0 : Prop} (h0 : p0) {p1 : Prop} (h1 : p1) {p2 : Prop} (h2 : p2) {p3 : Prop} (h3 : p3) : Hid p0 ∧ Hid p1 ∧ Hid p2 ∧ Hid p3 := ⟨Wd h0, Wd h1, Wd h2, Wd h3⟩
theorem Wz {p0 : Prop} (h0 : p0) {p1 : Prop} (h1 : p1) {p2 : Prop} (h2 : p2) {p3 : Prop} (h3 : p3) {p4 : Prop} (h4 : p4) : Hid p0 ∧ Hid p1 ∧ Hid p2 ∧ Hid p3 ∧ Hid p4 := ⟨Wd h0, Wd h1, Wd h2, Wd h3, Wd h4⟩
theorem Wx {p0 : Prop} (h0 : p0) {p1 : Prop} (h1 : p1) {p2 : Prop} (h2 : p2) {p3 : Prop} (h3 : p3) {p4 : Prop} (h4 : p4) {p5 : Prop} (h5 : p5) : Hid p0 ∧ Hid p1 ∧ Hid p2 ∧ Hid p3 ∧ Hid p4 ∧ Hid p5 := ⟨Wd h0, Wd h1, Wd h2, Wd h3, Wd h4, Wd h5⟩
theorem Wk {p0 : Prop} (h0 : p0) {p1 : Prop} (h1 : p1) {p2 : Prop} (h2 : p2) {p3 : Prop} (h3 : p3) {p4 : Prop} (h4 : p4) {p5 : Prop} (h5 : p5) {p6 : Prop} (h6 : p6) : Hid p0 ∧ Hid p1 ∧ Hid p2 ∧ Hid p3 ∧ Hid p4 ∧ Hid p5 ∧ Hid p6 := ⟨Wd h0, Wd h1, Wd h2, Wd h3, Wd h4, Wd h5, Wd h6⟩
theorem Ww {p0 : Prop} (h0 : p0) {p1 : Prop} (h1 : p1) {p2 : Prop} (h2 : p2) {p3 : Prop} (h3 : p3) {p4 : Prop} (h4 : p4) {p5 : Prop} (h5 : p5) {p6 : Prop} (h6 : p6) {p7 : Prop} (h7 : p7) : Hid p0 ∧ Hid p1 ∧ Hid p2 ∧ Hid p3 ∧ Hid p4 ∧ Hid p5 ∧ Hid p6 ∧ Hid p7 := ⟨Wd h0, Wd h1, Wd h2, Wd h3, Wd h4, Wd h5, Wd h6, Wd h7⟩
structure AltD (α : Type) where
 con : ByteArray
 names : List ByteArray
 body : α
structure CoreT where
 kind : Int
 name : ByteArray
 minus : Bool
 limbs : List Int
 names : List ByteArray
 kids : List CoreT
 alts : List (AltD CoreT)
abbrev AltT := AltD CoreT
theorem kid_lt (c x : CoreT) (h : x ∈ c.kids) : SizeOf.sizeOf x < SizeOf.sizeOf c := by
 cases c; simp at *; have := List.sizeOf_lt_of_mem h; omega
theorem alt_lt (c : CoreT) (a : AltT) (h : a ∈ c.alts) : SizeOf.sizeOf a.body < SizeOf.sizeOf c := by
 cases c; cases a; simp at *; have := List.sizeOf_lt_of_mem h; simp at this; omega
theorem Za (P : CoreT → Prop) (h : ∀ c : CoreT, (∀ x ∈ c.kids, P x) → (∀ a ∈ c.alts, P a.body) → P c) : ∀ c, P c := by
 intro c
 generalize hn : SizeOf.sizeOf c = n
 induction n using Nat.strongRecOn generalizing c with
 | _ n ih =>
  subst hn
  exact h c (fun x hx => ih _ (kid_lt c x hx) x rfl) (fun a ha => ih _ (alt_lt c a ha) a.body rfl)
def qop (d : Kd CoreT) : Kd AltT := Kd.iso (Kd.pair Kd.string (Kd.pair (Kd.slice 9 Kd.string) d)) (fun a : AltT => (a.con, a.names, a.body))
def Hh (e ea : Nat) (d : Kd CoreT) : Kd CoreT :=
 Kd.iso (Kd.pair (Kd.int .i64) (Kd.pair Kd.string (Kd.pair Kd.bool (Kd.pair (Kd.slice 106 (Kd.int .u32)) (Kd.pair (Kd.slice 9 Kd.string) (Kd.pair (Kd.slice e d) (Kd.slice ea (qop d))))))))
  (fun x : CoreT => (x.kind, x.name, x.minus, x.limbs, x.names, x.kids, x.alts))
def Hg (e ea : Nat) : List Nat := [9, 106, e, ea]
theorem mono_kAlt : Kd.Mono qop := Kd.mono_iso _ (Kd.mono_pair (Kd.mono_const _) (Kd.mono_pair (Kd.mono_const _) Kd.mono_id))
theorem qta (e ea : Nat) : Kd.Mono (Hh e ea) :=
 Kd.mono_iso _ (Kd.mono_pair (Kd.mono_const _) (Kd.mono_pair (Kd.mono_const _) (Kd.mono_pair (Kd.mono_const _) (Kd.mono_pair (Kd.mono_const _) (Kd.mono_pair (Kd.mono_const _) (Kd.mono_pair (Kd.mono_slice e Kd.mono_id) (Kd.mono_slice ea mono_kAlt)))))))
theorem qyn {E : List Nat} (h : 9 ∈ E) : Kd.Sub qop E :=
 Kd.sub_iso _ (Kd.sub_pair (Kd.sub_const _ (by intro q hq; cases hq)) (Kd.sub_pair (Kd.sub_const _ (by intro q hq; simp [Kd.slice, Kd.string, Kd.scalar] at hq; subst hq; exact h)) Kd.sub_id))
theorem qym (e ea : Nat) : Kd.Sub (Hh e ea) (Hg e ea) := by
 refine Kd.sub_iso _ (Kd.sub_pair (Kd.sub_const _ ?_) (Kd.sub_pair (Kd.sub_const _ ?_) (Kd.sub_pair (Kd.sub_const _ ?_) (Kd.sub_pair (Kd.sub_const _ ?_) (Kd.sub_pair (Kd.sub_const _ ?_) (Kd.sub_pair (Kd.sub_slice e ?_ Kd.sub_id) (Kd.sub_slice ea ?_ (qyn ?_))))))))
 all_goals simp [Hg, Kd.slice, Kd.string, Kd.scalar, Kd.int, Kd.bool]
theorem Gd (e ea : Nat) : ∀ n, (Kd.upto (Hh e ea) 7 (Hg e ea) n).sz = 7 := Kd.upto_sz (fun _ => rfl)
def Ja (e ea : Nat) : Kd CoreT := Kd.fix (Hh e ea) 7 (Hg e ea) (Gd e ea) (Kd.upto_E (qym e ea))
def qeu (e ea : Nat) : Kd AltT := qop (Ja e ea)
def Qb (x : CoreT) (A3 : Option Addr) (c3 : Nat) (A4 : Option Addr) (c4 : Nat) (A5 : Option Addr) (c5 : Nat) (A6 : Option Addr) (c6 : Nat) : List Value :=
 [.int .i64 x.kind, .string x.name, .bool x.minus, .slice A3 x.limbs.length c3, .slice A4 x.names.length c4, .slice A5 x.kids.length c5, .slice A6 x.alts.length c6]
section
variable {e ea : Nat} {w : World}
theorem qvn {n : Nat} {A : Option Addr} {m : Nat} {xs : List AltT} (h : (qop (Kd.upto (Hh e ea) 7 (Hg e ea) n)).C w A m xs) : (qeu e ea).C w A m xs :=
 Kd.C_imp (d' := qeu e ea) (mono_kAlt.sz _ _ (Gd e ea n)) (mono_kAlt.K _ _ (Gd e ea n) (fun w x cs hp => (⟨n, hp⟩ : ∃ n, (Kd.upto (Hh e ea) 7 (Hg e ea) n).K w x cs))) h
theorem Qk {x : CoreT} {cs : List Value} (h : (Ja e ea).K w x cs) : ∃ A3 c3 A4 c4 A5 c5 A6 c6, cs = Qb x A3 c3 A4 c4 A5 c5 A6 c6 ∧
  x.limbs.length ≤ c3 ∧ (Kd.int .u32).C w A3 x.limbs.length x.limbs ∧ x.names.length ≤ c4 ∧ Kd.string.C w A4 x.names.length x.names ∧
  x.kids.length ≤ c5 ∧ (Ja e ea).C w A5 x.kids.length x.kids ∧ x.alts.length ≤ c6 ∧ (qeu e ea).C w A6 x.alts.length x.alts := by
 obtain ⟨n, h⟩ := h
 cases n with
 | zero => exact h.elim
 | succ n =>
  obtain ⟨_, _, rfl, rfl, ⟨_, _, rfl, rfl, ⟨_, _, rfl, rfl, ⟨_, _, rfl, ⟨A3, c3, rfl, l3, g3⟩, ⟨_, _, rfl, ⟨A4, c4, rfl, l4, g4⟩, ⟨_, _, rfl, ⟨A5, c5, rfl, l5, g5⟩, ⟨A6, c6, rfl, l6, g6⟩⟩⟩⟩⟩⟩⟩ := h
  exact ⟨A3, c3, A4, c4, A5, c5, A6, c6, rfl, l3, g3, l4, g4, l5, Kd.fix_C g5, l6, qvn g6⟩
theorem qcg {a : AltT} {cs : List Value} (h : (qeu e ea).K w a cs) : ∃ A1 c1 cb, cs = .string a.con :: .slice A1 a.names.length c1 :: cb ∧ a.names.length ≤ c1 ∧ Kd.string.C w A1 a.names.length a.names ∧ (Ja e ea).K w a.body cb := by
 obtain ⟨_, _, rfl, rfl, ⟨_, _, rfl, ⟨A1, c1, rfl, l1, g1⟩, hb⟩⟩ := h
 exact ⟨A1, c1, _, rfl, l1, g1, hb⟩
end
def cut (n : Nat) (left : Int) : Int := if left < n then -1 else left - n
theorem Ym (n : Nat) {left : Int} (h : left ≤ 1048576) : -1 ≤ cut n left ∧ cut n left ≤ 1048576 := by
 unfold cut; split <;> omega
theorem qbu {n : Nat} {left : Int} (h : left < n) : cut n left = -1 := if_pos h
theorem Vm {n : Nat} {left : Int} (h : ¬ left < n) : cut n left = left - n := if_neg h
theorem Vl (n m : Nat) {left : Int} (h0 : 0 ≤ left) : cut (n + m) left = if cut n left < 0 then -1 else cut m (cut n left) := by
 unfold cut
 split <;> split <;> (try split) <;> first | rfl | omega | (rename_i h; split at h <;> omega) | skip
 all_goals (repeat' split) <;> omega
def Uo : List ByteArray → Nat
 | [] => 0
 | s :: r => s.size + 1 + Uo r
def qjv : List ByteArray → Nat
 | [] => 0
 | s :: r => s.size + qjv r
theorem qpb (l : List ByteArray) : Uo l = l.length + qjv l := by
 induction l with
 | nil => rfl
 | cons s r ih => simp [Uo, qjv, ih]; omega
theorem qvb {x : Int} (h : -9223372036854775808 ≤ x) (h' : x ≤ 9223372036854775807) : wrap64 x = x := by
 unfold wrap64; omega
theorem Xy {w : World} {A : Option Addr} {n : Nat} {xs : List ByteArray} (h : Kd.string.C w A n xs) (i : Nat) (hi : i < xs.length) : ∃ ad, A = some ad ∧ w.cell? (ad.add i) = some (.string xs[i]) := by
 obtain ⟨ad, e', hc⟩ := h.2.2 (by have := h.1; omega)
 obtain ⟨c, hcl, hK, hcell⟩ := hc i xs[i] (List.getElem?_eq_getElem hi)
 obtain rfl := hK
 refine ⟨ad, e', ?_⟩
 have := hcell 0 _ rfl
 have e : i * Kd.string.sz + 0 = i := by show i * 1 + 0 = i; omega
 rwa [e] at this
theorem qbb {w : World} {A : Option Addr} {n : Nat} {xs : List Int} (h : (Kd.int .u32).C w A n xs) (i : Nat) (hi : i < xs.length) : ∃ ad, A = some ad ∧ w.cell? (ad.add i) = some (.int .u32 xs[i]) := by
 obtain ⟨ad, e', hc⟩ := h.2.2 (by have := h.1; omega)
 obtain ⟨c, hcl, hK, hcell⟩ := hc i xs[i] (List.getElem?_eq_getElem hi)
 obtain rfl := hK
 refine ⟨ad, e', ?_⟩
 have := hcell 0 _ rfl
 have e : i * (Kd.int .u32).sz + 0 = i := by show i * 1 + 0 = i; omega
 rwa [e] at this
section
set_option maxRecDepth 100000
set_option maxHeartbeats 2000000
theorem zav (n c : Nat) (A : Option Addr) (left : Int) (h0 : 0 ≤ left) (h1 : left ≤ 1048576) (hn : n ≤ 9223372036854775807) (w : World) :
  Calls Tryz.prog 42 #[.slice A n c, .int .i64 left] w fun e w' => e = .returned (.int .i64 (cut n left)) ∧ Below w.heap.size w w' := by
 go_enter Tryz.func42, Tryz.ntmps42
 by_cases hc : left < (n : Int)
 ·go_wp2
  go_ret
  exact ⟨by rw [qbu hc]; rfl, Below.refl _ _⟩
 ·go_wp2
  go_ret
  exact ⟨by rw [Vm (by omega)]; rfl, Below.refl _ _⟩
theorem zau (m : Bool) (n c : Nat) (A : Option Addr) (left : Int) (h0 : 0 ≤ left) (h1 : left ≤ 1048576) (hn : n ≤ 9223372036854775807) (w : World) :
  Calls Tryz.prog 11 #[.agg #[.bool m, .slice A n c], .int .i64 left] w fun e w' => e = .returned (.int .i64 (cut n left)) ∧ Below w.heap.size w w' := by
 go_enter Tryz.func11, Tryz.ntmps11
 go_wp2_with fail
 refine (zav n c A left h0 h1 hn _).mono ?_
 rintro e w2 ⟨rfl, hb⟩
 have HB := Wd (show Below w.heap.size w w2 from (Below.alloc (Below.refl _ _) (Nat.le_refl _) _).trans (hb.mono (by simp)))
 clear hb
 have hq := Ym n h1
 obtain ⟨q, hqe⟩ : ∃ q, q = cut n left := ⟨_, rfl⟩
 rw [← hqe] at hq ⊢
 have HQ := Wd hqe
 clear hqe
 by_cases hc : q < 0
 ·have e1 : q = -1 := by omega
  go_wp2
  go_ret
  exact ⟨by rw [← HQ.out, e1]; rfl, HB.out⟩
 ·go_wp2
  go_ret
  exact ⟨by rw [← HQ.out]; rfl, HB.out⟩
theorem f100 {p : Prop} (h : p := by
 go_wp2
 go_ret
 exact ⟨by rw [HRR.out, qbu hn]; rfl, Below.refl _ _⟩) : p := h
theorem qut (l : List ByteArray) (left : Int) (hs : ∀ s ∈ l, s.size ≤ 9223372036854775807) (h0 : 0 ≤ left) (h1 : left ≤ 1048576) (A : Option Addr) (c : Nat) (w : World) (hr : Kd.string.C w A l.length l) (hc : l.length ≤ c) :
  Calls Tryz.prog 12 #[.slice A l.length c, .int .i64 left] w fun e w' => e = .returned (.int .i64 (cut (Uo l) left)) ∧ Below w.heap.size w w' := by
 have hl := hr.2.1
 have HS := Wd hs; have HR := Wd hr
 obtain ⟨r, hrr⟩ : ∃ r, r = cut (Uo l) left := ⟨_, rfl⟩
 rw [← hrr]
 rw [qpb, Vl _ _ h0] at hrr
 have HRR := Wd hrr
 clear hs hr hrr
 go_enter Tryz.func12, Tryz.ntmps12
 by_cases hn : left < (l.length : Int)
 ·exact f100
 have E1 := Wd (Vm hn)
 go_wp2
 go_loopw [1, 5] (fun v i wr => ∃ (k : Nat) (q : Int), k ≤ l.length ∧ i = .int .i64 k ∧ v = .int .i64 q ∧ 0 ≤ q ∧ q ≤ 1048576 ∧ Hid (cut (qjv l) (left - l.length) = cut (qjv (l.drop k)) q) ∧ Hid (Below w.heap.size w wr)) (fun _ i _ => l.length - (intOf i).toNat)
 case atStart => exact ⟨0, _, Nat.zero_le _, rfl, rfl, by omega, by omega, Wd rfl, Wd (Below.refl _ _)⟩
 case round =>
  obtain ⟨k, q, hk, rfl, rfl, hq0, hq1, HC, HB⟩ := hrel
  by_cases hlt : k < l.length
  ·obtain ⟨ad, rfl, g0⟩ := Xy (Kd.C_below HR.out HB.out) k hlt
   have hsz := HS.out l[k] (List.getElem_mem hlt)
   have HC2 := Wd (HC.out.trans (by rw [List.drop_eq_getElem_cons hlt, qjv, Vl _ _ hq0] : cut (qjv (l.drop k)) q = if cut l[k].size q < 0 then -1 else cut (qjv (l.drop (k + 1))) (cut l[k].size q)))
   clear HC
   by_cases hneg : q < (l[k].size : Int)
   ·go_wp2
    go_ret
    exact ⟨by rw [HRR.out, E1.out, if_neg (by omega), HC2.out, qbu hneg]; rfl, HB.out⟩
   ·have E2 := Wd (Vm hneg)
    go_wp2
    go_roundw
    case rel => exact ⟨k + 1, q - l[k].size, by omega, by go_num, by go_num, by omega, by omega, Wd (by rw [HC2.out, E2.out, if_neg (by omega)]), HB⟩
    case measure => simp [intOf]; omega
  ·go_wp2
   go_ret
   exact ⟨by rw [HRR.out, E1.out, if_neg (by omega), HC.out, List.drop_eq_nil_of_le (by omega), qjv, Vm (by omega)]; simp, HB.out⟩
theorem f90 {p : Prop} (h : p := by
 go_wp2_with fail
 go_still (by kernel_rfl)
 go_wp2
 go_roundw
 case rel => exact ⟨k + 1, by omega, by go_num, Wd HB.out.drew⟩
 case measure => simp [intOf]; omega) : p := h
theorem zab (l : List Int) (A B : Option Addr) (c d : Nat) (w : World) (hr : (Kd.int .u32).C w A l.length l) (hc : l.length ≤ c) (hs : (Kd.int .u32).C w B l.length l) (hd : l.length ≤ d) :
  Calls Tryz.prog 63 #[.slice A l.length c, .slice B l.length d] w fun e w' => e = .returned (.bool true) ∧ Below w.heap.size w w' := by
 have hl := hr.2.1
 have HR := Wd hr; have HS := Wd hs
 clear hr hs
 go_enter Tryz.func63, Tryz.ntmps63
 go_wp2
 go_loopw [5] (fun i wr => ∃ (k : Nat), k ≤ l.length ∧ i = .int .i64 k ∧ Hid (Below w.heap.size w wr)) (fun i _ => l.length - (intOf i).toNat)
 case atStart => exact ⟨0, Nat.zero_le _, rfl, Wd (Below.refl _ _)⟩
 case round =>
  obtain ⟨k, hk, rfl, HB⟩ := hrel
  by_cases hlt : k < l.length
  ·obtain ⟨ad, rfl, g0⟩ := qbb (Kd.C_below HR.out HB.out) k hlt
   obtain ⟨ad', rfl, g0'⟩ := qbb (Kd.C_below HS.out HB.out) k hlt
   exact f90
  ·go_wp2
   go_ret
   exact ⟨rfl, HB.out⟩
theorem qsh (l : List ByteArray) (A B : Option Addr) (c d : Nat) (w : World) (hr : Kd.string.C w A l.length l) (hc : l.length ≤ c) (hs : Kd.string.C w B l.length l) (hd : l.length ≤ d) :
  Calls Tryz.prog 31 #[.slice A l.length c, .slice B l.length d] w fun e w' => e = .returned (.bool true) ∧ Below w.heap.size w w' := by
 have hl := hr.2.1
 have HR := Wd hr; have HS := Wd hs
 clear hr hs
 go_enter Tryz.func31, Tryz.ntmps31
 go_wp2
 go_loopw [5] (fun i wr => ∃ (k : Nat), k ≤ l.length ∧ i = .int .i64 k ∧ Hid (Below w.heap.size w wr)) (fun i _ => l.length - (intOf i).toNat)
 case atStart => exact ⟨0, Nat.zero_le _, rfl, Wd (Below.refl _ _)⟩
 case round =>
  obtain ⟨k, hk, rfl, HB⟩ := hrel
  by_cases hlt : k < l.length
  ·obtain ⟨ad, rfl, g0⟩ := Xy (Kd.C_below HR.out HB.out) k hlt
   obtain ⟨ad', rfl, g0'⟩ := Xy (Kd.C_below HS.out HB.out) k hlt
   exact f90
  ·go_wp2
   go_ret
   exact ⟨rfl, HB.out⟩
theorem zaa (m : Bool) (l : List Int) (A B : Option Addr) (c d : Nat) (w : World) (hr : (Kd.int .u32).C w A l.length l) (hc : l.length ≤ c) (hs : (Kd.int .u32).C w B l.length l) (hd : l.length ≤ d) :
  Calls Tryz.prog 30 #[.agg #[.bool m, .slice A l.length c], .agg #[.bool m, .slice B l.length d]] w fun e w' => e = .returned (.bool true) ∧ Below w.heap.size w w' := by
 have HR := Wd hr; have HS := Wd hs
 clear hr hs
 go_enter Tryz.func30, Tryz.ntmps30
 go_wp2_with fail
 have hb0 : Below w.heap.size w ((w.alloc (.cells #[.bool m, .slice A l.length c] 31)).alloc (.cells #[.bool m, .slice B l.length d] 31)) := (Below.alloc (Below.refl _ _) (Nat.le_refl _) _).alloc (by simp) _
 refine (zab l A B c d _ (Kd.C_below HR.out hb0) hc (Kd.C_below HS.out hb0) hd).mono ?_
 rintro e w2 ⟨rfl, hb⟩
 have HB := Wd (hb0.trans (hb.mono hb0.size))
 clear hb hb0
 go_wp2
 go_ret
 exact ⟨rfl, HB.out⟩
end
end Go.Proofs.YtnoammmohdmnjaaGreat.C13
