import Derived.Test.YtnoammmohdmnjaaGreatU22
import Derived.Test.YtnoammmohdmnjaaGreatU26
set_option maxRecDepth 100000
set_option maxHeartbeats 16000000
set_option linter.unusedVariables false
set_option linter.unusedSimpArgs false
namespace Go.Proofs.YtnoammmohdmnjaaGreat.C13
open Go.RowKit Go.Proofs.YtnoammmohdmnjaaGreatW.PrintWords
open List renaming setIfInBounds_toArray → Jla, set_cons_zero → Jlb, set_cons_succ → Jlc
mutual
def Hm : CoreT → Nat
 | ⟨_, _, _, l, ns, ks, ls⟩ => l.length + (ns.length + (Jo ks + Kl ls))
def Jo : List CoreT → Nat
 | [] => 0
 | c :: r => 1 + Hm c + Jo r
def Kl : List AltT → Nat
 | [] => 0
 | a :: r => 1 + zal a + Kl r
def zal : AltT → Nat
 | ⟨con, ns, b⟩ => con.size + (ns.length + Hm b)
end
mutual
def Xb (L : Nat) : CoreT → Prop
 | ⟨_, n, _, _, ns, ks, ls⟩ => (n.size ≤ L ∧ ∀ s ∈ ns, s.size ≤ L) ∧ qau L ks ∧ qat L ls
def qau (L : Nat) : List CoreT → Prop
 | [] => True
 | c :: r => Xb L c ∧ qau L r
def qat (L : Nat) : List AltT → Prop
 | [] => True
 | a :: r => qis L a ∧ qat L r
def qis (L : Nat) : AltT → Prop
 | ⟨_, ns, b⟩ => (∀ s ∈ ns, s.size ≤ L) ∧ Xb L b
end
theorem Kr (x : CoreT) : Hm x = x.limbs.length + (x.names.length + (Jo x.kids + Kl x.alts)) := by cases x; rw [Hm]
theorem Uv (a : AltT) : zal a = a.con.size + (a.names.length + Hm a.body) := by cases a; rw [zal]
theorem qrr (L : Nat) (x : CoreT) : Xb L x = ((x.name.size ≤ L ∧ ∀ s ∈ x.names, s.size ≤ L) ∧ qau L x.kids ∧ qat L x.alts) := by cases x; rw [Xb]
theorem qph (L : Nat) (a : AltT) : qis L a = ((∀ s ∈ a.names, s.size ≤ L) ∧ Xb L a.body) := by cases a; rw [qis]
theorem qkg {L : Nat} {l : List CoreT} : qau L l ↔ ∀ x ∈ l, Xb L x := by
 induction l with
 | nil => simp [qau]
 | cons c r ih => simp [qau, ih]
theorem qkf {L : Nat} {l : List AltT} : qat L l ↔ ∀ x ∈ l, qis L x := by
 induction l with
 | nil => simp [qat]
 | cons c r ih => simp [qat, ih]
theorem Zd {L : Nat} {x : CoreT} : Xb L x ↔ (x.name.size ≤ L ∧ ∀ s ∈ x.names, s.size ≤ L) ∧ (∀ c ∈ x.kids, Xb L c) ∧ ∀ a ∈ x.alts, (∀ s ∈ a.names, s.size ≤ L) ∧ Xb L a.body := by
 rw [qrr, qkg, qkf]
 simp only [qph]
theorem Zz {x : CoreT} : Vn x ↔ qit x ∧ (∀ c ∈ x.kids, Vn c) ∧ ∀ a ∈ x.alts, Vn a.body := by rw [Kn, Js, Jr]
theorem qjw {L : Nat} : ∀ {l : List ByteArray}, (∀ s ∈ l, s.size ≤ L) → Uo l ≤ l.length + L * l.length
 | [], _ => by simp [Uo]
 | s :: r, h => by
  rw [Uo, List.length_cons, Nat.mul_succ]
  have := h s (by simp)
  have := qjw (l := r) (fun t ht => h t (by simp [ht]))
  omega
theorem qrz (L : Nat) : ∀ x : CoreT, Xb L x → bulk x ≤ Hm x + L * Qr x := by
 refine Za (fun x => Xb L x → bulk x ≤ Hm x + L * Qr x) (fun x ihk iha h => ?_)
 rw [Zd] at h
 obtain ⟨⟨h1, h2⟩, h3, h4⟩ := h
 have hk : ∀ l : List CoreT, (∀ c ∈ l, c ∈ x.kids) → Qo l ≤ Jo l + L * Zb l := by
  intro l
  induction l with
  | nil => intro _; simp [Qo]
  | cons c r ih =>
   intro h
   rw [Qo, Jo, Zb, Nat.mul_add]
   have := ih (fun d hd => h d (by simp [hd]))
   have := ihk c (h c (by simp)) (h3 c (h c (by simp)))
   omega
 have ha : ∀ l : List AltT, (∀ c ∈ l, c ∈ x.alts) → Qq l ≤ Kl l + (L * Zp l + L * Qy l) := by
  intro l
  induction l with
  | nil => intro _; simp [Qq]
  | cons c r ih =>
   intro h
   rw [Qq, Kl, Qy, Zp, Zo, Uv, Xr, Nat.mul_add, Nat.mul_add]
   have := ih (fun d hd => h d (by simp [hd]))
   have := iha c (h c (by simp)) (h4 c (h c (by simp))).2
   have := qjw (h4 c (h c (by simp))).1
   omega
 have := hk x.kids (fun c h => h)
 have := ha x.alts (fun c h => h)
 have := qjw h2
 rw [Qg, Kr, Zj, Nat.mul_add, Nat.mul_add, Nat.mul_add, Nat.mul_add, Nat.mul_one]
 omega
theorem f48 {p : Prop} (h : p := by
 refine Za (fun x => Xb L x → Xb M x) (fun x ihk iha h => ?_)
 rw [Zd] at h ⊢
 exact ⟨⟨Nat.le_trans h.1.1 hLM, fun s hs => Nat.le_trans (h.1.2 s hs) hLM⟩, fun c hc => ihk c hc (h.2.1 c hc), fun a ha => ⟨fun s hs => Nat.le_trans ((h.2.2 a ha).1 s hs) hLM, iha a ha (h.2.2 a ha).2⟩⟩) : p := h
theorem Vr : ∀ x : CoreT, Xb (bulk x) x ∧ Hm x ≤ bulk x := by
 have up : ∀ {L M : Nat}, L ≤ M → ∀ x, Xb L x → Xb M x := by
  intro L M hLM
  exact f48
 refine Za (fun x => Xb (bulk x) x ∧ Hm x ≤ bulk x) (fun x ihk iha => ⟨?_, ?_⟩)
 ·rw [Zd]
  refine ⟨⟨by rw [Qg]; omega, fun s hs => ?_⟩, fun c hc => up ?_ c (ihk c hc).1, fun a ha => ⟨fun s hs => ?_, up ?_ a.body (iha a ha).1⟩⟩
  ·have := Ka hs; rw [Qg]; omega
  ·have := Qx hc; rw [Qg x]; omega
  ·have := Ka hs; have := Zu ha; rw [Zo] at this; rw [Qg]; omega
  ·have := Zu ha; rw [Zo] at this; rw [Qg x]; omega
 ·have hk : ∀ l : List CoreT, (∀ c ∈ l, c ∈ x.kids) → Jo l ≤ Qo l := by
   intro l
   induction l with
   | nil => intro _; simp [Jo]
   | cons c r ih =>
    intro h
    rw [Qo, Jo]
    have := ih (fun d hd => h d (by simp [hd]))
    have := (ihk c (h c (by simp))).2
    omega
  have ha : ∀ l : List AltT, (∀ c ∈ l, c ∈ x.alts) → Kl l ≤ Qq l := by
   intro l
   induction l with
   | nil => intro _; simp [Kl]
   | cons c r ih =>
    intro h
    rw [Qq, Kl, Zo, Uv]
    have := ih (fun d hd => h d (by simp [hd]))
    have := (iha c (h c (by simp))).2
    have := Qn c.names
    omega
  have := hk x.kids (fun c h => h)
  have := ha x.alts (fun c h => h)
  have := Qn x.names
  rw [Qg, Kr]
  omega
theorem qkh {L M : Nat} (hLM : L ≤ M) : ∀ x, Xb L x → Xb M x := by
 exact f48
theorem Vh (x : CoreT) : Zc x = (if x.name ≠ ⟨#[]⟩ ∧ (x.kind = 1 ∨ x.kind = 8) then [x.name] else []) ++ (x.names ++ (Qs x.kids ++ Qv x.alts)) := by cases x; rw [Zc]
theorem qak (a : AltT) : Um a = a.names ++ Zc a.body := by cases a; rw [Um]
theorem Jp : ∀ x : CoreT, (Zc x).length ≤ Qr x := by
 refine Za (fun x => (Zc x).length ≤ Qr x) (fun x ihk iha => ?_)
 have hk : ∀ l : List CoreT, (∀ c ∈ l, c ∈ x.kids) → (Qs l).length ≤ Zb l := by
  intro l
  induction l with
  | nil => intro _; simp [Qs]
  | cons c r ih =>
   intro h
   rw [Qs, Zb, List.length_append]
   have := ih (fun d hd => h d (by simp [hd]))
   have := ihk c (h c (by simp))
   omega
 have ha : ∀ l : List AltT, (∀ c ∈ l, c ∈ x.alts) → (Qv l).length ≤ Zp l + Qy l := by
  intro l
  induction l with
  | nil => intro _; simp [Qv]
  | cons c r ih =>
   intro h
   rw [Qv, Qy, Zp, qak, Xr, List.length_append, List.length_append]
   have := ih (fun d hd => h d (by simp [hd]))
   have := iha c (h c (by simp))
   omega
 have := hk x.kids (fun c h => h)
 have := ha x.alts (fun c h => h)
 rw [Vh, Zj, List.length_append, List.length_append, List.length_append]
 split <;> simp <;> omega
structure Same (nm : ByteArray) (x y : CoreT) : Prop where
 t : Qr y = Qr x
 m : Hm y = Hm x
 d : dep y = dep x
 c : Qt nm y = Qt nm x
 s : Vn x → Vn y
structure SameA (nm : ByteArray) (x y : AltT) : Prop where
 con : y.con = x.con
 n : y.names.length = x.names.length
 i : nm ∈ y.names ↔ nm ∈ x.names
 b : Same nm x.body y.body
theorem Same.refl (nm : ByteArray) (x : CoreT) : Same nm x x := ⟨rfl, rfl, rfl, rfl, id⟩
theorem SameA.refl (nm : ByteArray) (x : AltT) : SameA nm x x := ⟨rfl, rfl, Iff.rfl, Same.refl _ _⟩
theorem Same.trans {nm : ByteArray} {x y z : CoreT} (h : Same nm x y) (k : Same nm y z) : Same nm x z := ⟨k.t.trans h.t, k.m.trans h.m, k.d.trans h.d, k.c.trans h.c, fun s => k.s (h.s s)⟩
section
variable {nm : ByteArray}
theorem qlp {l m : List CoreT} (h : All2 (Same nm) l m) : Zb m = Zb l ∧ Jo m = Jo l ∧ qdd m = qdd l ∧ Jf nm m = Jf nm l ∧ (∀ i skip, Zl nm skip i m = Zl nm skip i l) ∧ ((∀ c ∈ l, Vn c) → ∀ c ∈ m, Vn c) := by
 induction h with
 | nil => exact ⟨rfl, rfl, rfl, rfl, fun _ _ => rfl, fun h => h⟩
 | cons a t ih =>
  obtain ⟨i1, i2, i3, i4, i5, i6⟩ := ih
  refine ⟨by rw [Zb, Zb, i1, a.t], by rw [Jo, Jo, i2, a.m], by rw [qdd, qdd, i3, a.d], by rw [Jf, Jf, i4, a.c], fun i skip => by rw [Zl, Zl, i5, a.c], fun h c hc => ?_⟩
  rcases List.mem_cons.1 hc with rfl | hc
  ·exact a.s (h _ (by simp))
  ·exact i6 (fun d hd => h d (by simp [hd])) c hc
theorem qlo {l m : List AltT} (h : All2 (SameA nm) l m) : Qy m = Qy l ∧ Zp m = Zp l ∧ Kl m = Kl l ∧ Yt m = Yt l ∧ Qu nm m = Qu nm l ∧ ((∀ c ∈ l, Vn c.body) → ∀ c ∈ m, Vn c.body) := by
 induction h with
 | nil => exact ⟨rfl, rfl, rfl, rfl, rfl, fun h => h⟩
 | cons a t ih =>
  obtain ⟨i1, i2, i3, i4, i5, i6⟩ := ih
  refine ⟨by rw [Qy, Qy, i1, Xr, Xr, a.b.t], by rw [Zp, Zp, i2, a.n], by rw [Kl, Kl, i3, Uv, Uv, a.b.m, a.n, a.con], by rw [Yt, Yt, i4, qdl, qdl, a.b.d], by
   rw [Qu, Qu, i5, Vj, Vj, a.b.c]; simp only [a.i], fun h c hc => ?_⟩
  rcases List.mem_cons.1 hc with rfl | hc
  ·exact a.b.s (h _ (by simp))
  ·exact i6 (fun d hd => h d (by simp [hd])) c hc
theorem qnh {x y : CoreT} (hk : y.kind = x.kind) (hn : y.name = nm ↔ x.name = nm) (h1 : x.kind ≠ 1) (hl : y.limbs = x.limbs) (hns : y.names.length = x.names.length) (hmem : nm ∈ y.names ↔ nm ∈ x.names)
  (K : All2 (Same nm) x.kids y.kids) (A : All2 (SameA nm) x.alts y.alts) : Same nm x y := by
 obtain ⟨i1, i2, i3, i4, i5, i6⟩ := qlp K
 obtain ⟨j1, j2, j3, j4, j5, j6⟩ := qlo A
 refine ⟨by rw [Zj, Zj, i1, j1, j2, hns], by rw [Kr, Kr, hl, hns, i2, j3], by rw [Yi, Yi, i3, j4], ?_, fun h => ?_⟩
 ·rw [Xe, Xe, hk, i5, j5]
  simp only [hn, hmem]
 ·rw [Zz] at h ⊢
  refine ⟨?_, i6 h.2.1, j6 h.2.2⟩
  obtain ⟨⟨a, b, c⟩, _⟩ := h
  exact ⟨fun h => absurd (hk ▸ h) h1, fun h => by rw [A.len]; exact b (hk ▸ h), fun h => by rw [K.len]; exact c (hk ▸ h)⟩
theorem qkk {R : CoreT → CoreT → Prop} (fr tn : ByteArray) (skip : Bool) (hr : ∀ x, R x x) : ∀ (i : Nat) (l : List CoreT), (∀ c ∈ l, R c (rn fr tn c)) → All2 R l (Un fr tn skip i l)
 | _, [], _ => by rw [Un]; exact .nil
 | i, c :: r, h => by
  rw [Un]
  refine .cons ?_ (qkk fr tn skip hr (i + 1) r (fun d hd => h d (by simp [hd])))
  split
  ·exact hr _
  ·exact h c (by simp)
theorem qfh {fr tn : ByteArray} (h1 : fr ≠ nm) (h2 : tn ≠ nm) (h3 : 0 < tn.size) : ∀ x : CoreT, Same nm x (rn fr tn x) := by
 refine Za (fun x => Same nm x (rn fr tn x)) (fun x ihk iha => ?_)
 rw [qjr]
 by_cases hk : x.kind = 1
 ·rw [if_pos hk]
  refine ⟨by rw [Zj, Zj], by rw [Kr, Kr], by rw [Yi, Yi], ?_, fun h => ?_⟩
  ·rw [Xe, Xe, if_pos hk, if_pos hk]
   simp only
   by_cases h : x.name = fr
   ·rw [if_pos h, if_neg h2, if_neg (by rw [h]; exact h1)]
   ·rw [if_neg h]
  ·rw [Zz] at h ⊢
   refine ⟨⟨fun _ => ?_, h.1.2.1, h.1.2.2⟩, h.2⟩
   simp only
   split
   ·exact h3
   ·exact h.1.1 hk
 rw [if_neg hk]
 split
 ·exact Same.refl _ _
 ·refine qnh rfl Iff.rfl hk rfl rfl Iff.rfl (qkk fr tn _ (Same.refl nm) 0 x.kids ihk) ?_
  rw [Vu]
  refine All2.map fun a ha => ?_
  rw [qgs]
  refine ⟨rfl, rfl, Iff.rfl, ?_⟩
  simp only
  split
  ·exact Same.refl _ _
  ·exact iha a ha
theorem qcv {L : Nat} {fr tn : ByteArray} (ht : tn.size ≤ L) : ∀ x : CoreT, Xb L x → Xb L (rn fr tn x) := by
 refine Za (fun x => Xb L x → Xb L (rn fr tn x)) (fun x ihk iha h => ?_)
 have h0 := h
 rw [Zd] at h
 obtain ⟨⟨a1, a2⟩, a3, a4⟩ := h
 rw [qjr]
 split
 ·rw [Zd]
  refine ⟨⟨?_, a2⟩, a3, a4⟩
  simp only
  split <;> assumption
 ·split
  ·exact h0
  ·rw [Zd]
   refine ⟨⟨a1, a2⟩, fun c hc => ?_, fun a ha => ?_⟩
   ·have hl : ∀ skip i (l : List CoreT), (∀ d ∈ l, d ∈ x.kids) → ∀ c ∈ Un fr tn skip i l, Xb L c := by
     intro skip i l
     induction l generalizing i with
     | nil => intro _ c hc; rw [Un] at hc; cases hc
     | cons d r ih =>
      intro h c hc
      rw [Un] at hc
      rcases List.mem_cons.1 hc with rfl | hc
      ·split
       ·exact a3 d (h d (by simp))
       ·exact ihk d (h d (by simp)) (a3 d (h d (by simp)))
      ·exact ih _ (fun e he => h e (by simp [he])) c hc
    exact hl _ _ _ (fun d h => h) c hc
   ·rw [Vu] at ha
    obtain ⟨b, hb, rfl⟩ := List.mem_map.1 ha
    rw [qgs]
    refine ⟨(a4 b hb).1, ?_⟩
    simp only
    split
    ·exact (a4 b hb).2
    ·exact iha b hb (a4 b hb).2
theorem qfy (av : List ByteArray) : ∀ (n : Nat) (s : ByteArray), (Ku av s n).size ≤ s.size + n + 1 ∧ 0 < (Ku av s n).size
 | 0, s => by rw [Ku, Kb]; omega
 | n + 1, s => by
  rw [Ku]
  split
  ·have := qfy av n (s ++ ⟨#[39]⟩)
   rw [Kb] at this
   omega
  ·rw [Kb]; omega
theorem qhy (av : List ByteArray) : ∀ (n : Nat) (s : ByteArray), Ur av s.size ≤ n → Ku av s n ∉ av
 | 0, s, h => by rw [Ku]; exact qdi (by omega)
 | n + 1, s, h => by
  rw [Ku]
  split
  ·rename_i hm
   have := qcf hm (Kb s)
   exact qhy av n _ (by rw [Kb]; omega)
  ·assumption
theorem qbv (av : List ByteArray) (s : ByteArray) : (Zt av s).size ≤ s.size + av.length + 1 ∧ 0 < (Zt av s).size := qfy av _ s
theorem qhz (av : List ByteArray) (s : ByteArray) : Zt av s ∉ av := qhy av _ s (Vo _ _)
end
structure Fit (x : CoreT) : Prop where
 t : Qr x ≤ 60000
 m : Hm x ≤ 34359738368
 n : Xb 2097152 x
 s : Vn x
theorem Fit.bulk {x : CoreT} (h : Fit x) : bulk x ≤ 274877906944 := by
 have := qrz 2097152 x h.n
 have := h.t
 have := h.m
 omega
theorem Fit.kid {x c : CoreT} (h : Fit x) (hc : c ∈ x.kids) : Fit c := by
 have h1 := h.t
 have h2 := h.m
 rw [Zj] at h1
 rw [Kr] at h2
 have e1 : ∀ l : List CoreT, c ∈ l → Qr c ≤ Zb l ∧ Hm c ≤ Jo l := by
  intro l
  induction l with
  | nil => intro h; cases h
  | cons d r ih =>
   intro h
   rw [Zb, Jo]
   exact f82
 have := e1 _ hc
 exact ⟨by omega, by omega, (Zd.1 h.n).2.1 c hc, (Zz.1 h.s).2.1 c hc⟩
theorem Fit.alt {x : CoreT} {a : AltT} (h : Fit x) (hc : a ∈ x.alts) : Fit a.body ∧ a.names.length + Qr a.body ≤ 60000 ∧ ∀ s ∈ a.names, s.size ≤ 2097152 := by
 have h1 := h.t
 have h2 := h.m
 rw [Zj] at h1
 rw [Kr] at h2
 have e1 : ∀ l : List AltT, a ∈ l → a.names.length + Qr a.body ≤ Zp l + Qy l ∧ Hm a.body ≤ Kl l := by
  intro l
  induction l with
  | nil => intro h; cases h
  | cons d r ih =>
   intro h
   rw [Qy, Zp, Kl]
   rcases List.mem_cons.1 h with rfl | h
   ·rw [Xr, Uv]; omega
   ·have := ih h; omega
 have := e1 _ hc
 have k := (Zd.1 h.n).2.2 a hc
 exact ⟨⟨by omega, by omega, k.2, (Zz.1 h.s).2.2 a hc⟩, by omega, k.1⟩
theorem qmr (nm : ByteArray) (x : CoreT) (hk : x.kind ≠ 1) (hm : ¬((x.kind = 6 ∨ x.kind = 7) ∧ nm ∈ x.names)) : Vg nm x = (Ui nm (decide (x.kind = 8 ∧ x.name = nm)) 0 x.kids || (decide (x.name ≠ nm) && Hw nm x.alts)) := by
 rw [Gc, if_neg hk, if_neg hm]
theorem Gn (nm : ByteArray) (skip : Bool) : ∀ (i : Nat) (l : List CoreT) (c : CoreT), Ui nm skip i (l ++ [c]) = (Ui nm skip i l || (!(skip && decide (i + l.length = 1)) && Vg nm c))
 | i, [], c => by simp [Ui]
 | i, a :: r, c => by
  rw [List.cons_append, Ui, Ui, Gn nm skip (i + 1) r c, List.length_cons, show i + 1 + r.length = i + (r.length + 1) by omega, Bool.or_assoc]
theorem qpy {nm : ByteArray} {skip : Bool} {l : List CoreT} {k : Nat} (hk : k < l.length) (h : Ui nm skip 0 (l.take (k + 1)) = true) : Ui nm skip 0 l = true := by
 have key : ∀ (m : List CoreT) (i : Nat) (l : List CoreT), Ui nm skip i l = true → Ui nm skip i (l ++ m) = true := by
  intro m
  induction m with
  | nil => intro i l h; rwa [List.append_nil]
  | cons a r ih =>
   intro i l h
   have := ih i (l ++ [a]) (by rw [Gn, h, Bool.true_or])
   simpa using this
 have := key (l.drop (k + 1)) 0 _ h
 rwa [List.take_append_drop] at this
theorem qdq (nm : ByteArray) (l : List AltT) (a : AltT) : Hw nm (l ++ [a]) = (Hw nm l || qkz nm a) := by rw [Gm, Gm]; simp
theorem qpx {nm : ByteArray} {l : List AltT} {k : Nat} (hk : k < l.length) (h : Hw nm (l.take (k + 1)) = true) : Hw nm l = true := by
 rw [Gm, List.any_eq_true] at h ⊢
 obtain ⟨a, ha, h⟩ := h
 exact ⟨a, List.mem_of_mem_take ha, h⟩
def qfm (nm : ByteArray) (x : CoreT) : Prop := bulk x ≤ 274877906944 → ∀ (w : World) (cs : List Value), IC.K w x cs → Qh 71 #[.agg cs.toArray, .string nm] w (Vg nm x)
def Hy (nm : ByteArray) (x : CoreT) : Prop := bulk x ≤ 274877906944 → Qt nm x ≤ 1000000000 → ∀ (w : World) (cs : List Value), IC.K w x cs →
 Calls Tryz.prog 17 #[.agg cs.toArray, .string nm] w fun e w' => e = .returned (.int .i64 (Qt nm x)) ∧ Below w.heap.size w w'
theorem qer (nm : ByteArray) (skip : Bool) : ∀ (i : Nat) (l : List CoreT) (k : Nat), Zl nm skip i (l.take k) ≤ Zl nm skip i l
 | i, [], k => by simp
 | i, a :: r, 0 => by simp [Zl]
 | i, a :: r, k + 1 => by rw [List.take_succ_cons, Zl, Zl]; have := qer nm skip (i + 1) r k; omega
theorem qep (nm : ByteArray) : ∀ (l : List AltT) (k : Nat), Qu nm (l.take k) ≤ Qu nm l
 | [], k => by simp
 | a :: r, 0 => by simp [Qu]
 | a :: r, k + 1 => by rw [List.take_succ_cons, Qu, Qu]; have := qep nm r k; omega
theorem Vy {x : CoreT} {a : AltT} (hbk : bulk x ≤ 274877906944) (ha : a ∈ x.alts) : a.names.length ≤ 274877906944 := by
 have := Zu ha
 rw [Zo] at this
 rw [Qg] at hbk
 have := Qn a.names
 omega
theorem qqf (nm : ByteArray) (x : CoreT) (ihk : ∀ y ∈ x.kids, qfm nm y) (iha : ∀ a ∈ x.alts, qfm nm a.body) : qfm nm x := by
 intro hbk w cs hK
 unfold Qh
 obtain ⟨r, hr⟩ : ∃ r, r = Vg nm x := ⟨_, rfl⟩
 rw [← hr]
 have HR := Wd hr; clear hr
 obtain ⟨A3, c3, A4, c4, A5, c5, A6, c6, rfl, l3, g3, l4, g4, l5, g5, l6, g6⟩ := Qk hK
 obtain ⟨b1, b2, b3, b4, b5⟩ := Qz hbk
 have HBK := Wd hbk
 have IHK := Wd ihk; have IHA := Wd iha; clear ihk iha
 have ⟨G4, G5, G6⟩ := Wq g4 g5 g6; clear g3 g4 g5 g6 hK hbk
 simp only [Qb]
 obtain ⟨W1, hW1, hp1, hB1, hs1⟩ := Wy w x A3 c3 A4 c4 A5 c5 A6 c6 35
 have HB1 := Wd hB1; have BP1 := Wd hp1
 clear hs1 hB1
 subst hW1
 by_cases hk1 : x.kind = 1
 ·have p0 := hp1.cell (j := 0) rfl; have p1 := hp1.cell (j := 1) rfl
  have e1 : (x.kind == 1) = true := beq_iff_eq.2 hk1
  have HK1 := Wd hk1; clear hk1 hp1
  by_cases hn : x.name = nm
  ·have ⟨q1, q2⟩ := Kk hn
   have HN := Wd hn; clear hn
   go_enter Tryz.func71, Tryz.ntmps71
   go_wp2
   go_ret
   exact ⟨by rw [HR.out, Gc, if_pos HK1.out, decide_eq_true HN.out]; rfl, HB1.out⟩
  ·have ⟨q1, q2⟩ := Xt hn
   have HN := Wd hn; clear hn
   go_enter Tryz.func71, Tryz.ntmps71
   go_wp2
   go_ret
   exact ⟨by rw [HR.out, Gc, if_pos HK1.out, decide_eq_false HN.out]; rfl, HB1.out⟩
 have e1 : (x.kind == 1) = false := beq_eq_false_iff_ne.2 hk1
 have HK1 := Wd hk1; clear hk1
 have HRN := Wd (show ∀ w', Below w.heap.size w w' → Kd.string.C w' A4 x.names.length x.names from fun w' hb => Kd.C_below G4.out hb)
 refine Or.elim (by by_cases hm : nm ∈ x.names <;> simp only [hm, and_true, not_true_eq_false, not_false_eq_true] <;> omega : ((x.kind = 6 ∨ x.kind = 7) ∧ nm ∈ x.names) ∨ (x.kind = 6 ∧ nm ∉ x.names) ∨ (x.kind = 7 ∧ nm ∉ x.names) ∨ (x.kind ≠ 6 ∧ x.kind ≠ 7)) ?ca (fun h => h.elim ?cb (fun h => h.elim ?cc ?cd))
 case ca =>
  rintro ⟨hk, hm⟩
  have HM := Wd hm; have HK67 := Wd hk; clear hm
  rcases hk with hk | hk
  case' inl => have e6 : (x.kind == 6) = true := beq_iff_eq.2 hk
  case' inr => have e6 : (x.kind == 6) = false := beq_eq_false_iff_ne.2 (by omega); have e7 : (x.kind == 7) = true := beq_iff_eq.2 hk
  all_goals
   have p0 := hp1.cell (j := 0) rfl; have p4 := hp1.cell (j := 3) rfl
   clear hk hp1
   go_enter Tryz.func71, Tryz.ntmps71
   go_wp2_with fail
   refine (Jj x.names nm b4 A4 c4 _ (HRN.out _ HB1.out) l4).mono ?_
   rintro e w3 ⟨rfl, hb3⟩
   rw [decide_eq_true HM.out]
   have BB3 := Wd (Qa HB1.out hb3)
   clear hb3 p0 p4
   go_wp2
   go_ret
   exact ⟨by rw [HR.out, Gc, if_neg HK1.out, if_pos ⟨HK67.out, HM.out⟩]; rfl, BB3.out⟩
 case' cd => intro hk; have HM := Wd (show ¬((x.kind = 6 ∨ x.kind = 7) ∧ nm ∈ x.names) from fun h => by have := h.1; omega)
 case' cb => rintro ⟨hk, hm⟩; have HM := Wd (show ¬((x.kind = 6 ∨ x.kind = 7) ∧ nm ∈ x.names) from fun h => hm h.2); have HM2 := Wd hm; clear hm; have e6 : (x.kind == 6) = true := beq_iff_eq.2 hk; clear hk
 case' cc => rintro ⟨hk, hm⟩; have HM := Wd (show ¬((x.kind = 6 ∨ x.kind = 7) ∧ nm ∈ x.names) from fun h => hm h.2); have HM2 := Wd hm; clear hm; have e6 : (x.kind == 6) = false := beq_eq_false_iff_ne.2 (by omega); have e7 : (x.kind == 7) = true := beq_iff_eq.2 hk; clear hk
 case' cb =>
  have p0 := hp1.cell (j := 0) rfl; have p4 := hp1.cell (j := 3) rfl
  go_enter Tryz.func71, Tryz.ntmps71
  go_wp2_with fail
  refine (Jj x.names nm b4 A4 c4 _ (HRN.out _ HB1.out) l4).mono ?_
  rintro e W2 ⟨rfl, hb3⟩
  rw [decide_eq_false HM2.out]
  have HB2 := Wd (Qa HB1.out hb3); have BP2 := Wd (BP1.out.below hb3)
  clear hb3 p0 p4 e6 e1 hp1 HM2
  have p5 := BP2.out.cell (j := 5) rfl
  go_wp2_with fail
  clear p5
 case' cc =>
  have p0 := hp1.cell (j := 0) rfl; have p4 := hp1.cell (j := 3) rfl
  go_enter Tryz.func71, Tryz.ntmps71
  go_wp2_with fail
  refine (Jj x.names nm b4 A4 c4 _ (HRN.out _ HB1.out) l4).mono ?_
  rintro e W2 ⟨rfl, hb3⟩
  rw [decide_eq_false HM2.out]
  have HB2 := Wd (Qa HB1.out hb3); have BP2 := Wd (BP1.out.below hb3)
  clear hb3 p0 p4 e6 e7 e1 hp1 HM2
  have p5 := BP2.out.cell (j := 5) rfl
  go_wp2_with fail
  clear p5
 case' cd =>
  have p0 := hp1.cell (j := 0) rfl; have p5 := hp1.cell (j := 5) rfl
  have e6 : (x.kind == 6) = false := beq_eq_false_iff_ne.2 hk.1
  have e7 : (x.kind == 7) = false := beq_eq_false_iff_ne.2 hk.2
  clear hp1
  go_enter Tryz.func71, Tryz.ntmps71
  go_wp2_with fail
  clear p0 p5 e6 e7 e1
  obtain ⟨W2, hW2⟩ : ∃ W2, W2 = w.alloc (.cells #[.int .i64 x.kind, .string x.name, .bool x.minus, .slice A3 x.limbs.length c3, .slice A4 x.names.length c4, .slice A5 x.kids.length c5, .slice A6 x.alts.length c6] 35) := ⟨_, rfl⟩
  have HB2 := HB1; have BP2 := BP1
  rw [← hW2] at HB2 BP2 ⊢
  clear hW2
 all_goals
  try clear hk
  go_loopw [5] (fun i wr => ∃ k : Nat, k ≤ x.kids.length ∧ i = .int .i64 k ∧ Hid (Ui nm (decide (x.kind = 8 ∧ x.name = nm)) 0 (x.kids.take k) = false) ∧ Hid (Below W2.heap.size W2 wr)) (fun i _ => x.kids.length - (intOf i).toNat)
  case atStart => exact ⟨0, Nat.zero_le _, rfl, Wd (by rw [List.take_zero, Ui]), Wd (Below.refl _ _)⟩
  case round =>
   obtain ⟨k, hk, rfl, HN, HB⟩ := hrel
   have HBw := Wd (Below.step HB2.out HB.out)
   have HP := Wd (BP2.out.below HB.out)
   have p0 := HP.out.cell (j := 0) rfl; have p1 := HP.out.cell (j := 1) rfl; have p5 := HP.out.cell (j := 5) rfl
   by_cases hlt : k < x.kids.length
   ·obtain ⟨ad, A3', c3', A4', c4', B5, d5, B6, d6, rfl, hK, g0, g1, g2, g3, g4, g5, g6⟩ := Ko (Kd.C_below G5.out HBw.out) k hlt
    by_cases hs : x.kind = 8 ∧ k = 1 ∧ x.name = nm
    ·have HSK := Wd hs
     obtain ⟨h1, h2, h3⟩ := hs
     have e8 : (x.kind == 8) = true := beq_iff_eq.2 h1
     have e9 : ((k : Int) == 1) = true := beq_iff_eq.2 (by omega)
     have ⟨q1, q2⟩ := Kk h3
     clear h1 h2 h3
     go_wp2
     go_roundw
     case rel => exact ⟨k + 1, by omega, by go_num, Wd (by rw [Qf hlt, Gn, HN.out, List.length_take, Nat.min_eq_left (by omega), Nat.zero_add]; simp [HSK.out]), HB⟩
     case measure => simp [intOf]; omega
    ·have HSK := Wd hs
     rcases (show x.kind ≠ 8 ∨ (x.kind = 8 ∧ k ≠ 1) ∨ (x.kind = 8 ∧ k = 1 ∧ x.name ≠ nm) from by
      by_cases h1 : x.kind = 8
      ·by_cases h2 : k = 1
       ·exact .inr (.inr ⟨h1, h2, fun h3 => hs ⟨h1, h2, h3⟩⟩)
       ·exact .inr (.inl ⟨h1, h2⟩)
      ·exact .inl h1) with h1 | ⟨h1, h2⟩ | ⟨h1, h2, h3⟩
     all_goals
      first
       | (have e8 : (x.kind == 8) = false := beq_eq_false_iff_ne.2 h1; clear h1)
       | (have e8 : (x.kind == 8) = true := beq_iff_eq.2 h1; have e9 : ((k : Int) == 1) = false := beq_eq_false_iff_ne.2 (by omega); clear h1 h2)
       | (have e8 : (x.kind == 8) = true := beq_iff_eq.2 h1; have e9 : ((k : Int) == 1) = true := beq_iff_eq.2 (by omega); have ⟨q1, q2⟩ := Xt h3; clear h1 h2 h3)
      clear hs
      go_wp2_with fail
      refine (IHK.out _ (List.getElem_mem hlt) (by have := Qx (List.getElem_mem hlt); have := HBK.out; rw [Qg] at this; omega) _ _ hK).mono ?_
      rintro e w3 ⟨rfl, hb3⟩
      have HB3 := Wd (Below.step HB.out hb3)
      have HBw3 := Wd (Below.step HBw.out hb3)
      clear g0 g1 g2 g3 g4 g5 g6 hK p0 p1 p5 hb3
      by_cases hh : Vg nm x.kids[k] = true
      ·have HH := Wd (show r = true from by
        rw [HR.out, qmr nm x HK1.out HM.out, qpy hlt (by
         rw [Qf hlt, Gn, HN.out, hh, List.length_take, Nat.min_eq_left (by omega), Nat.zero_add, Bool.false_or, Bool.and_true, Bool.not_eq_true', Bool.and_eq_false_iff, decide_eq_false_iff_not, decide_eq_false_iff_not]
         by_cases h : k = 1
         ·exact .inl (fun h' => HSK.out ⟨h'.1, h, h'.2⟩)
         ·exact .inr h), Bool.true_or])
       rw [hh]
       clear hh
       go_wp2
       go_ret
       exact ⟨by rw [HH.out]; rfl, HBw3.out⟩
      ·rw [Bool.not_eq_true] at hh
       have HN3 := Wd (show Ui nm (decide (x.kind = 8 ∧ x.name = nm)) 0 (x.kids.take (k + 1)) = false from by rw [Qf hlt, Gn, HN.out, hh, Bool.and_false]; rfl)
       rw [hh]
       clear hh
       go_wp2
       go_roundw
       case rel => exact ⟨k + 1, by omega, by go_num, HN3, HB3⟩
       case measure => simp [intOf]; omega
   ·have hkk : k = x.kids.length := by omega
    have hnn := HN.out
    rw [hkk, List.take_length] at hnn
    have HNK := Wd hnn; have HKK := Wd hkk; clear hnn hkk
    go_wp2_with fail
    clear p0 p1 p5
    obtain ⟨wo, rfl⟩ : ∃ wo : World, wo = wr := ⟨_, rfl⟩
    go_loopw [6] (fun i wr => ∃ m : Nat, m ≤ x.alts.length ∧ i = .int .i64 m ∧ Hid (x.name = nm ∨ Hw nm (x.alts.take m) = false) ∧ Hid (Below W2.heap.size W2 wr)) (fun i _ => x.alts.length - (intOf i).toNat)
    case atStart => exact ⟨0, Nat.zero_le _, rfl, Wd (.inr (by rw [List.take_zero, Hw])), HB⟩
    case round =>
     obtain ⟨m, hm, rfl, HN, HB⟩ := hrel
     have HBw := Wd (Below.step HB2.out HB.out)
     have HP := Wd (BP2.out.below HB.out)
     have p1 := HP.out.cell (j := 1) rfl; have p6 := HP.out.cell (j := 6) rfl
     by_cases hlt2 : m < x.alts.length
     ·by_cases hn : x.name = nm
      ·have ⟨q1, q2⟩ := Kk hn
       have HNM := Wd hn; clear hn
       go_wp2
       go_roundw
       case rel => exact ⟨m + 1, by omega, by go_num, Wd (.inl HNM.out), HB⟩
       case measure => simp [intOf]; omega
      ·have ⟨q1, q2⟩ := Xt hn
       have HNM := Wd hn; clear hn
       obtain ⟨ad, A1, c1, A3', c3', A4', c4', B5, d5, B6, d6, rfl, _, hK, hl1, hC1, g0, g1, g2, g3, g4, g5, g6, g7, g8⟩ := Xn (Kd.C_below G6.out HBw.out) m hlt2
       have hnl : x.alts[m].names.length ≤ 274877906944 := Vy HBK.out (List.getElem_mem hlt2)
       go_wp2_with fail
       refine (Jj x.alts[m].names nm hnl A1 c1 _ hC1 hl1).mono ?_
       rintro e w3 ⟨rfl, hb3⟩
       by_cases hmm : nm ∈ x.alts[m].names
       ·rw [decide_eq_true hmm]
        have HB3 := Wd (Below.step HB.out hb3)
        have HN3 := Wd (show x.name = nm ∨ Hw nm (x.alts.take (m + 1)) = false from HN.out.imp id (fun h => by rw [Qf hlt2, qdq, h, Uh, decide_eq_false (fun h => h hmm)]; rfl))
        clear g0 g1 g2 g3 g4 g5 g6 g7 g8 hK hC1 p1 p6 hb3 hmm
        go_wp2
        go_roundw
        case rel => exact ⟨m + 1, by omega, by go_num, HN3, HB3⟩
        case measure => simp [intOf]; omega
       ·rw [decide_eq_false hmm]
        have hat : ∀ (q : Addr) (v : Value), wr.cell? q = some v → w3.cell? q = some v := fun q v hq => Cb hb3 hq
        have HB3 := Wd (Below.step HB.out hb3)
        have HBw3 := Wd (Below.step HBw.out hb3)
        have HP3 := Wd (HP.out.below hb3)
        have hK3 := (Ja _ _).K_below hb3 hK
        have HMM := Wd hmm
        
        replace g2 := hat _ _ g2; replace g3 := hat _ _ g3; replace g4 := hat _ _ g4; replace g5 := hat _ _ g5; replace g6 := hat _ _ g6; replace g7 := hat _ _ g7; replace g8 := hat _ _ g8
        clear g0 g1 hK hC1 p1 p6 hb3 hmm hat
        have p6 := HP3.out.cell (j := 6) rfl
        go_wp2_with fail
        refine (IHA.out _ (List.getElem_mem hlt2) (by have := Zu (List.getElem_mem hlt2); rw [Zo] at this; have := HBK.out; rw [Qg] at this; omega) _ _ hK3).mono ?_
        rintro e w4 ⟨rfl, hb4⟩
        have HB4 := Wd (Below.step HB3.out hb4)
        have HBw4 := Wd (Below.step HBw3.out hb4)
        clear g2 g3 g4 g5 g6 g7 g8 hK3 p6 hb4
        by_cases hh : Vg nm x.alts[m].body = true
        ·have HH := Wd (show r = true from by
          rw [HR.out, qmr nm x HK1.out HM.out, qpx hlt2 (by rw [Qf hlt2, qdq, Uh, hh, decide_eq_true HMM.out, Bool.and_self, Bool.or_true]), decide_eq_true HNM.out, Bool.and_self, Bool.or_true])
         rw [hh]
         clear hh
         go_wp2
         go_ret
         exact ⟨by rw [HH.out]; rfl, HBw4.out⟩
        ·rw [Bool.not_eq_true] at hh
         have HN3 := Wd (show x.name = nm ∨ Hw nm (x.alts.take (m + 1)) = false from HN.out.imp id (fun h => by rw [Qf hlt2, qdq, h, Uh, hh, Bool.and_false]; rfl))
         rw [hh]
         clear hh
         go_wp2
         go_roundw
         case rel => exact ⟨m + 1, by omega, by go_num, HN3, HB4⟩
         case measure => simp [intOf]; omega
     ·have hkk : m = x.alts.length := by omega
      have hnn := HN.out
      rw [hkk, List.take_length] at hnn
      have HH := Wd (show r = false from by
       rw [HR.out, qmr nm x HK1.out HM.out, HNK.out, Bool.false_or]
       rcases hnn with h | h
       ·simp [h]
       ·rw [h, Bool.and_false])
      clear hnn hkk
      go_wp2
      go_ret
      exact ⟨by rw [HH.out]; rfl, HBw.out⟩
theorem qgc (nm : ByteArray) (x : CoreT) : qfm nm x := Za (qfm nm) (fun c hk ha => qqf nm c hk ha) x
end Go.Proofs.YtnoammmohdmnjaaGreat.C13
