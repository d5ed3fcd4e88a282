import Derived.Test.YtnoammmohdmnjaaGreatU30
set_option maxRecDepth 100000
set_option maxHeartbeats 16000000
set_option linter.unusedVariables false
set_option linter.unusedSimpArgs false
namespace Go.Proofs.YtnoammmohdmnjaaGreat.C13
open Go.RowKit Go.Proofs.YtnoammmohdmnjaaGreatW.PrintWords
open List renaming setIfInBounds_toArray → Jla, set_cons_zero → Jlb, set_cons_succ → Jlc
theorem qsd (x : CoreT) : 1 ≤ dep x := by rw [Yi]; omega
structure Pre (nm : ByteArray) (bt x : CoreT) : Prop where
 t : Qr x + Qt nm x * Qr bt ≤ 60000
 m : Hm x + Qt nm x * Hm bt ≤ 34359738368
 n : Xb 2097152 x
 s : Vn x
structure Post (nm : ByteArray) (bt x y : CoreT) : Prop where
 t : Qr y ≤ Qr x + Qt nm x * Qr bt
 m : Hm y ≤ Hm x + Qt nm x * Hm bt
 n : Xb 2097152 y
 s : Vn y
section
variable {nm : ByteArray} {free all : List ByteArray} {bt : CoreT}
theorem Pre.fit {x : CoreT} (h : Pre nm bt x) : Fit x := ⟨Nat.le_trans (Nat.le_add_right _ _) h.t, Nat.le_trans (Nat.le_add_right _ _) h.m, h.n, h.s⟩
theorem Post.fit {x y : CoreT} (h : Post nm bt x y) (k : Pre nm bt x) : Fit y := ⟨Nat.le_trans h.t k.t, Nat.le_trans h.m k.m, h.n, h.s⟩
theorem Post.refl {x : CoreT} (h : Pre nm bt x) : Post nm bt x x := ⟨Nat.le_add_right _ _, Nat.le_add_right _ _, h.n, h.s⟩
theorem Pre.part {x c : CoreT} (h : Pre nm bt x) (h1 : Qr c ≤ Qr x) (h2 : Hm c ≤ Hm x) (h3 : Qt nm c ≤ Qt nm x) (hn : Xb 2097152 c) (hs : Vn c) : Pre nm bt c := by
 have e1 := Nat.mul_le_mul_right (Qr bt) h3
 have e2 := Nat.mul_le_mul_right (Hm bt) h3
 exact ⟨by have := h.t; omega, by have := h.m; omega, hn, hs⟩
theorem Pre.same {x y : CoreT} (h : Pre nm bt x) (k : Same nm x y) (hn : Xb 2097152 y) : Pre nm bt y := ⟨by rw [k.t, k.c]; exact h.t, by rw [k.m, k.c]; exact h.m, hn, k.s h.s⟩
theorem Post.same {x y z : CoreT} (k : Same nm x y) (h : Post nm bt y z) : Post nm bt x z := ⟨by have := h.t; rwa [k.t, k.c] at this, by have := h.m; rwa [k.m, k.c] at this, h.n, h.s⟩
theorem qmb {c : CoreT} : ∀ {l : List CoreT}, c ∈ l → Qr c ≤ Zb l ∧ Hm c ≤ Jo l
 | a :: r, h => by
  rw [Zb, Jo]
  rcases List.mem_cons.1 h with rfl | h
  ·omega
  ·have := qmb h; omega
theorem qhq {a : AltT} : ∀ {l : List AltT}, a ∈ l → a.names.length + Qr a.body ≤ Zp l + Qy l ∧ Hm a.body ≤ Kl l
 | b :: r, h => by
  rw [Qy, Zp, Kl]
  rcases List.mem_cons.1 h with rfl | h
  ·rw [Xr, Uv]; omega
  ·have := qhq h; omega
theorem Pre.kid {x c : CoreT} (h : Pre nm bt x) (hc : c ∈ x.kids) (ht : Qt nm c ≤ Qt nm x) : Pre nm bt c := by
 have := qmb hc
 exact h.part (by rw [Zj x]; omega) (by rw [Kr x]; omega) ht ((Zd.1 h.n).2.1 c hc) ((Zz.1 h.s).2.1 c hc)
theorem Pre.alt {x : CoreT} {a : AltT} (h : Pre nm bt x) (hc : a ∈ x.alts) (ht : Qt nm a.body ≤ Qt nm x) : Pre nm bt a.body := by
 have := qhq hc
 exact h.part (by rw [Zj x]; omega) (by rw [Kr x]; omega) ht ((Zd.1 h.n).2.2 a hc).2 ((Zz.1 h.s).2.2 a hc)
theorem qoh {x : CoreT} (h : Vn x) (h8 : x.kind ≠ 8) : x.alts = [] := List.eq_nil_of_length_eq_zero ((Zz.1 h).1.2.1 h8)
theorem Gs {x : CoreT} (hs : Vn x) (h1 : x.kind ≠ 1) (h8 : x.kind ≠ 8) (hn : ¬((x.kind = 6 ∨ x.kind = 7) ∧ nm ∈ x.names)) : Qt nm x = Jf nm x.kids := by
 rw [Xe, if_neg h1, if_neg hn, show decide (x.kind = 8 ∧ x.name = nm) = false from decide_eq_false (fun h => h8 h.1), Yr, qoh hs h8, Qu]
 simp
theorem qbi {x : CoreT} (h8 : x.kind = 8) (hn : x.name ≠ nm) : Qt nm x = Jf nm x.kids + Qu nm x.alts := by
 rw [Xe, if_neg (by omega), if_neg (by omega), show decide (x.kind = 8 ∧ x.name = nm) = false from decide_eq_false (fun h => hn h.2), Yr, if_neg hn]
theorem Up (nm : ByteArray) : ∀ (k : Nat) (l : List CoreT), Jf nm l = Jf nm (l.take k) + Jf nm (l.drop k)
 | 0, l => by simp [Jf]
 | k + 1, [] => by simp [Jf]
 | k + 1, c :: r => by rw [List.take_succ_cons, List.drop_succ_cons, Jf, Jf, Up nm k r]; omega
theorem qgx {x : CoreT} (hs : Vn x) (h8 : x.kind = 8) (hn : x.name = nm) : Qt nm x = Jf nm (x.kids.take 1) := by
 have hl := (Zz.1 hs).1.2.2 h8
 rw [Xe, if_neg (by omega), if_neg (by omega), decide_eq_true ⟨h8, hn⟩, if_pos hn]
 rcases hk : x.kids with _ | ⟨c, _ | ⟨d, _ | ⟨e, r⟩⟩⟩ <;> simp [Zl, Jf]
 rw [hk] at hl; simp at hl
theorem qas (k : Nat) (l : List CoreT) : Zb l = Zb (l.take k) + Zb (l.drop k) ∧ Jo l = Jo (l.take k) + Jo (l.drop k) := by
 induction k generalizing l with
 | zero => simp [Zb, Jo]
 | succ k ih =>
  cases l with
  | nil => simp [Zb, Jo]
  | cons c r => rw [List.take_succ_cons, List.drop_succ_cons, Zb, Jo, Zb, Jo, (ih r).1, (ih r).2]; omega
theorem qin (l m : List CoreT) : Zb (l ++ m) = Zb l + Zb m ∧ Jo (l ++ m) = Jo l + Jo m := by
 induction l with
 | nil => simp [Zb, Jo]
 | cons c r ih => rw [List.cons_append, Zb, Jo, Zb, Jo, ih.1, ih.2]; omega
theorem qao {f : CoreT → CoreT} : ∀ {l : List CoreT}, (∀ c ∈ l, Post nm bt c (f c)) → Zb (l.map f) ≤ Zb l + Jf nm l * Qr bt ∧ Jo (l.map f) ≤ Jo l + Jf nm l * Hm bt
 | [], _ => by simp [Zb, Jo]
 | c :: r, h => by
  have h1 := h c (by simp)
  have h2 := qao (f := f) (l := r) (fun d hd => h d (by simp [hd]))
  have e1 := h1.t
  have e2 := h1.m
  rw [List.map_cons, Zb, Jo, Zb, Jo, Jf, Nat.add_mul, Nat.add_mul]
  omega
structure PostA (nm : ByteArray) (bt : CoreT) (a b : AltT) : Prop where
 con : b.con = a.con
 nl : b.names.length = a.names.length
 n : ∀ s ∈ b.names, s.size ≤ 2097152
 t : Qr b.body ≤ Qr a.body + qeo nm a * Qr bt
 m : Hm b.body ≤ Hm a.body + qeo nm a * Hm bt
 bn : Xb 2097152 b.body
 bs : Vn b.body
theorem qlj {f : AltT → AltT} : ∀ {l : List AltT}, (∀ c ∈ l, PostA nm bt c (f c)) → Zp (l.map f) = Zp l ∧ Qy (l.map f) ≤ Qy l + Qu nm l * Qr bt ∧ Kl (l.map f) ≤ Kl l + Qu nm l * Hm bt
 | [], _ => by simp [Qy, Kl]
 | c :: r, h => by
  have h1 := h c (by simp)
  have h2 := qlj (f := f) (l := r) (fun d hd => h d (by simp [hd]))
  have e1 := h1.t
  have e2 := h1.m
  rw [List.map_cons, Qy, Kl, Qy, Kl, Zp, Zp, Qu, Nat.add_mul, Nat.add_mul, Xr, Xr, Uv, Uv, h1.nl, h1.con]
  omega
structure CaseK (nm : ByteArray) (y z : CoreT) : Prop where
 k : z.kind = y.kind
 mi : z.minus = y.minus
 li : z.limbs = y.limbs
 ns : z.names = y.names
 k0 : z.kids.take 1 = y.kids.take 1
 kl : z.kids.length = y.kids.length
 ks : All2 (Same nm) (y.kids.drop 1) (z.kids.drop 1)
 al : All2 (SameA nm) y.alts z.alts
 ne : z.name ≠ nm
 fit : Fit z
theorem Hz (he : Env free all bt) {y : CoreT} (hf : Fit y) (h8 : y.kind = 8) (hn : y.name ≠ nm) : CaseK nm y (Yk nm free all y) := by
 unfold Yk
 by_cases hc : y.name ≠ ⟨#[]⟩ ∧ y.name ∈ free ∧ Yp nm y = true
 ·rw [if_pos hc]
  show CaseK nm y { y with name := qew nm all y y.name, kids := y.kids.take 1 ++ (y.kids.drop 1).map (rn y.name (qew nm all y y.name)), alts := y.alts.map (fun a => if y.name ∈ a.names then a else { a with body := rn y.name (qew nm all y y.name) a.body }) }
  have hle := qtc (nm := nm) he hf.t hc.2.1
  obtain ⟨hne, hpos⟩ := qtd (nm := nm) (all := all) y y.name
  have hl := (Zz.1 hf.s).1.2.2 h8
  have e0 : (y.kids.take 1 ++ (y.kids.drop 1).map (rn y.name (qew nm all y y.name))).take 1 = y.kids.take 1 := by
   rcases hk : y.kids with _ | ⟨c, r⟩
   ·rw [hk] at hl; simp at hl
   ·simp
  have e1 : (y.kids.take 1 ++ (y.kids.drop 1).map (rn y.name (qew nm all y y.name))).drop 1 = (y.kids.drop 1).map (rn y.name (qew nm all y y.name)) := by
   rcases hk : y.kids with _ | ⟨c, r⟩
   ·rw [hk] at hl; simp at hl
   ·simp
  have hK : All2 (Same nm) (y.kids.drop 1) ((y.kids.drop 1).map (rn y.name (qew nm all y y.name))) := All2.map (fun c _ => qfh hn hne hpos c)
  have hA : All2 (SameA nm) y.alts (y.alts.map (fun a => if y.name ∈ a.names then a else { a with body := rn y.name (qew nm all y y.name) a.body })) := All2.map (fun a _ => by
   split
   ·exact SameA.refl _ _
   ·exact ⟨rfl, rfl, Iff.rfl, qfh hn hne hpos _⟩)
  have hS : Same nm y { y with name := qew nm all y y.name, kids := y.kids.take 1 ++ (y.kids.drop 1).map (rn y.name (qew nm all y y.name)), alts := y.alts.map (fun a => if y.name ∈ a.names then a else { a with body := rn y.name (qew nm all y y.name) a.body }) } := by
   refine qnh rfl ⟨fun h => absurd h hne, fun h => absurd h hn⟩ (by omega) rfl rfl Iff.rfl ?_ hA
   have := All2.append (All2.refl (Same.refl nm) (y.kids.take 1)) hK
   rwa [List.take_append_drop] at this
  refine ⟨rfl, rfl, rfl, rfl, e0, by simp; omega, by rw [e1]; exact hK, hA, hne, ⟨by have := hS.t; rw [show Qr _ = _ from this]; exact hf.t, by have := hS.m; rw [show Hm _ = _ from this]; exact hf.m, ?_, hS.s hf.s⟩⟩
  have hn' := Zd.1 hf.n
  rw [Zd]
  refine ⟨⟨hle, hn'.1.2⟩, fun c hc => ?_, fun a ha => ?_⟩
  ·rcases List.mem_append.1 hc with hc | hc
   ·exact hn'.2.1 c (List.mem_of_mem_take hc)
   ·obtain ⟨d, hd, rfl⟩ := List.mem_map.1 hc
    exact qcv hle d (hn'.2.1 d (List.mem_of_mem_drop hd))
  ·obtain ⟨d, hd, rfl⟩ := List.mem_map.1 ha
   split
   ·exact hn'.2.2 d hd
   ·exact ⟨(hn'.2.2 d hd).1, qcv hle _ (hn'.2.2 d hd).2⟩
 ·rw [if_neg hc]
  exact ⟨rfl, rfl, rfl, rfl, rfl, rfl, All2.refl (Same.refl nm) _, All2.refl (SameA.refl nm) _, hn, hf⟩
def qko (nm : ByteArray) (free all : List ByteArray) (a : AltT) (i : Nat) : AltT := (List.range i).foldl (Yh nm free all) a
theorem qab (a : AltT) (i : Nat) : qko nm free all a (i + 1) = Yh nm free all (qko nm free all a i) i := by
 unfold qko; rw [List.range_succ, List.foldl_append]; rfl
theorem qbr (a : AltT) : Xm nm free all a = qko nm free all a a.names.length := rfl
def qwv (nm : ByteArray) (all : List ByteArray) (a : AltT) (s : ByteArray) : ByteArray := Zt (all ++ (Um a ++ [nm])) s
theorem He {a : AltT} {i : Nat} (hi : i < a.names.length) (hm : a.names[i] ∈ free) : Yh nm free all a i = { a with body := rn a.names[i] (qwv nm all a a.names[i]) a.body, names := a.names.set i (qwv nm all a a.names[i]) } := by
 unfold Yh
 rw [List.getElem?_eq_getElem hi]
 simp only
 rw [if_pos hm]; rfl
theorem Uz {a : AltT} {i : Nat} (hi : i < a.names.length) (hm : a.names[i] ∉ free) : Yh nm free all a i = a := by
 unfold Yh
 rw [List.getElem?_eq_getElem hi]
 simp only
 rw [if_neg hm]
structure FitA (a : AltT) : Prop where
 t : a.names.length + Qr a.body ≤ 60000
 m : Hm a.body ≤ 34359738368
 n : ∀ s ∈ a.names, s.size ≤ 2097152
 b : Xb 2097152 a.body
 s : Vn a.body
theorem FitA.fit {a : AltT} (h : FitA a) : Fit a.body := ⟨by have := h.t; omega, h.m, h.b, h.s⟩
structure AltK (nm : ByteArray) (a b : AltT) : Prop where
 con : b.con = a.con
 nl : b.names.length = a.names.length
 nn : nm ∉ b.names
 bd : Same nm a.body b.body
 fit : FitA b
theorem qhh (he : Env free all bt) {a : AltT} (hf : FitA a) (hnm : nm ∉ a.names) {i : Nat} (hi : i < a.names.length) : AltK nm a (Yh nm free all a i) := by
 by_cases hm : a.names[i] ∈ free
 ·rw [He hi hm]
  have hsz := qbv (all ++ (Um a ++ [nm])) a.names[i]
  have hne : qwv nm all a a.names[i] ≠ nm := fun e => qhz (all ++ (Um a ++ [nm])) a.names[i] (by
   have : Zt (all ++ (Um a ++ [nm])) a.names[i] = nm := e
   rw [this]; simp)
  have hle : (qwv nm all a a.names[i]).size ≤ 2097152 := by
   have h1 := he.fr _ hm
   have h2 := he.al
   have h3 := Jp a.body
   have h4 := hf.t
   have : (all ++ (Um a ++ [nm])).length = all.length + (a.names.length + (Zc a.body).length + 1) := by rw [qak]; simp; omega
   have := hsz.1
   show (Zt (all ++ (Um a ++ [nm])) a.names[i]).size ≤ _
   omega
  have hs : a.names[i] ≠ nm := fun e => hnm (e ▸ List.getElem_mem hi)
  have hb := qfh hs hne hsz.2 a.body
  refine ⟨rfl, by simp, fun h => ?_, hb, ⟨by simp only [List.length_set]; rw [hb.t]; exact hf.t, by simp only; rw [hb.m]; exact hf.m, fun s h => ?_, qcv hle _ hf.b, hb.s hf.s⟩⟩
  ·rcases List.mem_or_eq_of_mem_set h with h | h
   ·exact hnm h
   ·exact hne h.symm
  ·rcases List.mem_or_eq_of_mem_set h with h | h
   ·exact hf.n s h
   ·rw [h]; exact hle
 ·rw [Uz hi hm]
  exact ⟨rfl, rfl, hnm, Same.refl _ _, hf⟩
theorem qey (he : Env free all bt) {a : AltT} (hf : FitA a) (hnm : nm ∉ a.names) : ∀ (i : Nat), i ≤ a.names.length → AltK nm a (qko nm free all a i)
 | 0, _ => ⟨rfl, rfl, hnm, Same.refl _ _, hf⟩
 | i + 1, hi => by
  have k := qey he hf hnm i (by omega)
  have j := qhh he k.fit k.nn (i := i) (by rw [k.nl]; omega)
  rw [qab]
  exact ⟨j.con.trans k.con, j.nl.trans k.nl, j.nn, k.bd.trans j.bd, j.fit⟩
theorem Fit.fitA {x : CoreT} {a : AltT} (h : Fit x) (ha : a ∈ x.alts) : FitA a := by
 obtain ⟨h1, h2, h3⟩ := h.alt ha
 exact ⟨h2, h1.m, h3, h1.n, h1.s⟩
end
section
variable {nm : ByteArray} {free all : List ByteArray} {bt : CoreT}
theorem qem {x : CoreT} {f : CoreT → CoreT} (h : Pre nm bt x) (h1 : x.kind ≠ 1) (ht : Jf nm x.kids ≤ Qt nm x) (hf : ∀ c ∈ x.kids, Post nm bt c (f c)) : Post nm bt x { x with kids := x.kids.map f } := by
 obtain ⟨k1, k2⟩ := qao hf
 have e1 := Nat.mul_le_mul_right (Qr bt) ht
 have e2 := Nat.mul_le_mul_right (Hm bt) ht
 have hn := Zd.1 h.n
 have hs := Zz.1 h.s
 refine ⟨by rw [Zj, Zj x]; simp only; omega, by rw [Kr, Kr x]; simp only; omega, Zd.2 ⟨hn.1, fun c hc => ?_, hn.2.2⟩, Zz.2 ⟨⟨fun h => absurd h h1, hs.1.2.1, fun h8 => ?_⟩, fun c hc => ?_, hs.2.2⟩⟩
 ·obtain ⟨d, hd, rfl⟩ := List.mem_map.1 hc
  exact (hf d hd).n
 ·have := hs.1.2.2 h8; simpa using this
 ·obtain ⟨d, hd, rfl⟩ := List.mem_map.1 hc
  exact (hf d hd).s
theorem qdu {x : CoreT} {f : CoreT → CoreT} (h : Pre nm bt x) (h1 : x.kind ≠ 1) (ht : Jf nm (x.kids.take 1) ≤ Qt nm x) (hf : ∀ c ∈ x.kids.take 1, Post nm bt c (f c)) : Post nm bt x { x with kids := (x.kids.take 1).map f ++ x.kids.drop 1 } := by
 obtain ⟨k1, k2⟩ := qao hf
 have e1 := Nat.mul_le_mul_right (Qr bt) ht
 have e2 := Nat.mul_le_mul_right (Hm bt) ht
 have hn := Zd.1 h.n
 have hs := Zz.1 h.s
 obtain ⟨s1, s2⟩ := qas 1 x.kids
 obtain ⟨a1, a2⟩ := qin ((x.kids.take 1).map f) (x.kids.drop 1)
 refine ⟨by rw [Zj, Zj x]; simp only; omega, by rw [Kr, Kr x]; simp only; omega, Zd.2 ⟨hn.1, fun c hc => ?_, hn.2.2⟩, Zz.2 ⟨⟨fun h => absurd h h1, hs.1.2.1, fun h8 => ?_⟩, fun c hc => ?_, hs.2.2⟩⟩
 ·rcases List.mem_append.1 hc with hc | hc
  ·obtain ⟨d, hd, rfl⟩ := List.mem_map.1 hc
   exact (hf d hd).n
  ·exact hn.2.1 c (List.mem_of_mem_drop hc)
 ·have := hs.1.2.2 h8; simp; omega
 ·rcases List.mem_append.1 hc with hc | hc
  ·obtain ⟨d, hd, rfl⟩ := List.mem_map.1 hc
   exact (hf d hd).s
  ·exact hs.2.1 c (List.mem_of_mem_drop hc)
theorem Pre.first {x : CoreT} (h : Pre nm bt x) (h8 : x.kind = 8) : ∀ c ∈ x.kids.take 1, Pre nm bt c := fun c hc => by
 refine h.kid (List.mem_of_mem_take hc) (Nat.le_trans (Yj hc) ?_)
 by_cases hn : x.name = nm
 ·rw [qgx h.s h8 hn]; exact Nat.le_refl _
 ·rw [qbi h8 hn, Up nm 1 x.kids]; omega
theorem qaq {x : CoreT} (h : Pre nm bt x) (h8 : x.kind = 8) : Jf nm (x.kids.take 1) ≤ Qt nm x := by
 by_cases hn : x.name = nm
 ·rw [qgx h.s h8 hn]; exact Nat.le_refl _
 ·rw [qbi h8 hn, Up nm 1 x.kids]; omega
theorem Pre.clear (he : Env free all bt) {x : CoreT} (h : Pre nm bt x) (h67 : x.kind = 6 ∨ x.kind = 7) (hnm : nm ∉ x.names) : Pre nm bt (Hu nm free all x) ∧ Same nm x (Hu nm free all x) ∧ (∀ c ∈ (Hu nm free all x).kids, Pre nm bt c) ∧ (Hu nm free all x).kind = x.kind ∧ Jf nm (Hu nm free all x).kids = Qt nm (Hu nm free all x) := by
 obtain ⟨k, s, nn, f, _⟩ := qaa he h.fit (by omega) hnm x.names.length (Nat.le_refl _)
 rw [← Ud] at k s nn f
 have hy := h.same s f.n
 have ht := Gs (nm := nm) f.s (by rw [k.k]; omega) (by rw [k.k]; omega) (fun h => nn h.2)
 exact ⟨hy, s, fun c hc => hy.kid hc (by rw [ht]; exact Yj hc), k.k, ht.symm⟩
theorem qmu {x : CoreT} (h67 : x.kind = 6 ∨ x.kind = 7) (hh : Vg nm x = true) : nm ∉ x.names := fun hm => by
 rw [Gc, if_neg (by omega), if_pos ⟨h67, hm⟩] at hh
 cases hh
theorem qaw {α : Type} {R : α → α → Prop} : ∀ {l m : List α}, All2 R l m → ∀ b ∈ m, ∃ a ∈ l, R a b
 | _, _, .nil, b, hb => by cases hb
 | _, _, .cons h t, b, hb => by
  rcases List.mem_cons.1 hb with rfl | hb
  ·exact ⟨_, by simp, h⟩
  ·obtain ⟨a, ha, hr⟩ := qaw t b hb
   exact ⟨a, by simp [ha], hr⟩
theorem Pre.altBody (he : Env free all bt) {a : AltT} (hf : FitA a) (hp : Pre nm bt a.body) (hm : nm ∉ a.names) : AltK nm a (Xm nm free all a) ∧ Pre nm bt (Xm nm free all a).body := by
 have k := qey (nm := nm) (free := free) he hf hm a.names.length (Nat.le_refl _)
 rw [← qbr] at k
 exact ⟨k, hp.same k.bd k.fit.b⟩
theorem qdm {x z y : CoreT} (h : Pre nm bt x) (h8 : x.kind = 8) (hn : x.name ≠ nm) (hyk : y.kids.drop 1 = x.kids.drop 1) (hya : y.alts = x.alts) (hK : CaseK nm y z) :
  (∀ c ∈ z.kids.drop 1, Pre nm bt c) ∧ (∀ a ∈ z.alts, FitA a ∧ (nm ∉ a.names → Pre nm bt a.body)) ∧ Zb (z.kids.drop 1) = Zb (x.kids.drop 1) ∧ Jo (z.kids.drop 1) = Jo (x.kids.drop 1) ∧ Jf nm (z.kids.drop 1) = Jf nm (x.kids.drop 1) ∧ Qu nm z.alts = Qu nm x.alts ∧ Zp z.alts = Zp x.alts ∧ Qy z.alts = Qy x.alts ∧ Kl z.alts = Kl x.alts := by
 have ht := qbi h8 hn
 have hl := Up nm 1 x.kids
 have ks := hK.ks
 rw [hyk] at ks
 have al := hK.al
 rw [hya] at al
 obtain ⟨i1, i2, i3, i4, -, -⟩ := qlp ks
 obtain ⟨j1, j2, j3, j4, j5, -⟩ := qlo al
 have hzn := Zd.1 hK.fit.n
 refine ⟨fun c hc => ?_, fun a ha => ⟨hK.fit.fitA ha, fun hm => ?_⟩, i1, i2, i4, j5, j2, j1, j3⟩
 ·obtain ⟨d, hd, hs⟩ := qaw ks c hc
  have hp : Pre nm bt d := h.kid (List.mem_of_mem_drop hd) (by have := Yj (nm := nm) hd; omega)
  exact hp.same hs (hzn.2.1 c (List.mem_of_mem_drop hc))
 ·obtain ⟨d, hd, hs⟩ := qaw al a ha
  have hp : Pre nm bt d.body := h.alt hd (by have := qgw (nm := nm) hd; rw [Vj, if_neg (fun h' => hm (hs.i.2 h'))] at this; omega)
  exact hp.same hs.b (hzn.2.2 a ha).2
theorem qcz (he : Env free all bt) : ∀ (n : Nat) (x : CoreT), Pre nm bt x → Post nm bt x (Jb nm bt free all n x)
 | 0, x, h => by rw [Jb]; exact Post.refl h
 | n + 1, x, h => by
  have ih := qcz he n
  rw [Jb]
  by_cases h1 : x.kind = 1
  ·rw [if_pos h1]
   by_cases hn : x.name = nm
   ·rw [if_pos hn]
    have ht : Qt nm x = 1 := by rw [Xe, if_pos h1, if_pos hn]
    exact ⟨by rw [ht]; omega, by rw [ht]; omega, he.bt.n, he.bt.s⟩
   ·rw [if_neg hn]; exact Post.refl h
  rw [if_neg h1]
  by_cases h67 : x.kind = 6 ∨ x.kind = 7
  ·rw [if_pos h67]
   by_cases hh : Vg nm x = true
   ·rw [if_pos hh]
    obtain ⟨hy, hs, hc, hk, ht⟩ := h.clear he h67 (qmu h67 hh)
    exact Post.same hs (qem hy (by rw [hk]; omega) (by rw [ht]; exact Nat.le_refl _) (fun c hc' => ih c (hc c hc')))
   ·rw [if_neg hh]; exact Post.refl h
  rw [if_neg h67]
  by_cases h8 : x.kind = 8
  ·rw [if_pos h8]
   have hP1 := qdu (f := Jb nm bt free all n) h h1 (qaq h h8) (fun c hc => ih c (h.first h8 c hc))
   by_cases hn : x.name = nm
   ·simp only
    rw [if_pos hn]; exact hP1
   ·simp only
    rw [if_neg hn]
    have hyf := hP1.fit h
    have hK := Hz (nm := nm) he hyf h8 hn
    have hl := (Zz.1 h.s).1.2.2 h8
    have hlt1 : ((x.kids.take 1).map (Jb nm bt free all n)).length = 1 := by simp; omega
    have hyd : ((x.kids.take 1).map (Jb nm bt free all n) ++ x.kids.drop 1).drop 1 = x.kids.drop 1 := by rw [List.drop_append_of_le_length (by omega), List.drop_eq_nil_of_le (by omega), List.nil_append]
    have hyt : ((x.kids.take 1).map (Jb nm bt free all n) ++ x.kids.drop 1).take 1 = (x.kids.take 1).map (Jb nm bt free all n) := by rw [List.take_append_of_le_length (by omega), List.take_of_length_le (by omega)]
    obtain ⟨q1, q2, q3, q4, q5, q6, q7, q8, q9⟩ := qdm (y := { x with kids := (x.kids.take 1).map (Jb nm bt free all n) ++ x.kids.drop 1 }) h h8 hn hyd rfl hK
    generalize hz : Yk nm free all { x with kids := (x.kids.take 1).map (Jb nm bt free all n) ++ x.kids.drop 1 } = z at *
    have hp1 := qao (nm := nm) (bt := bt) (f := Jb nm bt free all n) (l := z.kids.drop 1) (fun c hc => ih c (q1 c hc))
    have hp0 := qao (nm := nm) (bt := bt) (f := Jb nm bt free all n) (l := x.kids.take 1) (fun c hc => ih c (h.first h8 c hc))
    have hpa : ∀ a ∈ z.alts, PostA nm bt a (if nm ∈ a.names ∨ Vg nm a.body = false then a else { Xm nm free all a with body := Jb nm bt free all n (Xm nm free all a).body }) := fun a ha => by
     obtain ⟨hf, hp⟩ := q2 a ha
     split
     ·exact ⟨rfl, rfl, hf.n, Nat.le_add_right _ _, Nat.le_add_right _ _, hf.b, hf.s⟩
     ·rename_i hc
      have hm : nm ∉ a.names := fun h => hc (.inl h)
      obtain ⟨k, hp'⟩ := (hp hm).altBody he hf hm
      have hq := Post.same k.bd (ih _ hp')
      have ht : qeo nm a = Qt nm a.body := by rw [Vj, if_neg hm]
      exact ⟨k.con, k.nl, k.fit.n, by rw [ht]; exact hq.t, by rw [ht]; exact hq.m, hq.n, hq.s⟩
    have hpa' := qlj hpa
    have ht := qbi h8 hn
    have htl := Up nm 1 x.kids
    obtain ⟨s1, s2⟩ := qas 1 x.kids
    have e1 : Qt nm x * Qr bt = Jf nm (x.kids.take 1) * Qr bt + (Jf nm (x.kids.drop 1) * Qr bt + Qu nm x.alts * Qr bt) := by rw [ht, htl, Nat.add_mul, Nat.add_mul]; omega
    have e2 : Qt nm x * Hm bt = Jf nm (x.kids.take 1) * Hm bt + (Jf nm (x.kids.drop 1) * Hm bt + Qu nm x.alts * Hm bt) := by rw [ht, htl, Nat.add_mul, Nat.add_mul]; omega
    have hzs := Zz.1 hK.fit.s
    have hzn := Zd.1 hK.fit.n
    have hz0 := hK.k0
    simp only at hz0
    rw [hyt] at hz0
    obtain ⟨a1, a2⟩ := qin ((x.kids.take 1).map (Jb nm bt free all n)) ((z.kids.drop 1).map (Jb nm bt free all n))
    have hns := hK.ns; have hli := hK.li; have hkk := hK.k; have hkl := hK.kl
    simp only at hns hli hkk hkl
    rw [q5] at hp1
    rw [q6] at hpa'
    change Post nm bt x { z with kids := z.kids.take 1 ++ (z.kids.drop 1).map (Jb nm bt free all n), alts := z.alts.map (fun a => if nm ∈ a.names ∨ Vg nm a.body = false then a else { Xm nm free all a with body := Jb nm bt free all n (Xm nm free all a).body }) }
    generalize hg : z.alts.map (fun a => if nm ∈ a.names ∨ Vg nm a.body = false then a else { Xm nm free all a with body := Jb nm bt free all n (Xm nm free all a).body }) = ZA at hpa' ⊢
    refine ⟨?_, ?_, Zd.2 ⟨hzn.1, fun c hc => ?_, fun a ha => ?_⟩, Zz.2 ⟨⟨fun h => by simp only at h; omega, fun h => by simp only at h; omega, fun _ => ?_⟩, fun c hc => ?_, fun a ha => ?_⟩⟩
    ·rw [Zj, Zj x]; simp only; rw [hns, hz0, a1, e1]; omega
    ·rw [Kr, Kr x]; simp only; rw [hns, hli, hz0, a2, e2]; omega
    ·simp only at hc
     rcases List.mem_append.1 hc with hc | hc
     ·exact hzn.2.1 c (List.mem_of_mem_take hc)
     ·obtain ⟨d, hd, rfl⟩ := List.mem_map.1 hc
      exact (ih d (q1 d hd)).n
    ·rw [← hg] at ha
     obtain ⟨d, hd, rfl⟩ := List.mem_map.1 ha
     exact ⟨(hpa d hd).n, (hpa d hd).bn⟩
    ·simp at hkl ⊢; omega
    ·simp only at hc
     rcases List.mem_append.1 hc with hc | hc
     ·exact hzs.2.1 c (List.mem_of_mem_take hc)
     ·obtain ⟨d, hd, rfl⟩ := List.mem_map.1 hc
      exact (ih d (q1 d hd)).s
    ·rw [← hg] at ha
     obtain ⟨d, hd, rfl⟩ := List.mem_map.1 ha
     exact (hpa d hd).bs
  ·rw [if_neg h8]
   have ht := Gs (nm := nm) h.s h1 h8 (fun hh => h67 hh.1)
   exact qem h h1 (by rw [ht]; exact Nat.le_refl _) (fun c hc => ih c (h.kid hc (by rw [ht]; exact Yj hc)))
end
end Go.Proofs.YtnoammmohdmnjaaGreat.C13
