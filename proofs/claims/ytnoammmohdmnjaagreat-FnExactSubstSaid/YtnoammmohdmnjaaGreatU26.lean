import Derived.Test.YtnoammmohdmnjaaGreatU20
import Derived.Test.YtnoammmohdmnjaaGreatU23
set_option maxRecDepth 100000
set_option maxHeartbeats 16000000
set_option linter.unusedVariables false
set_option linter.unusedSimpArgs false
namespace Go.Proofs.YtnoammmohdmnjaaGreat.C13
open Go.RowKit Go.Proofs.YtnoammmohdmnjaaGreatW.PrintWords
open List renaming setIfInBounds_toArray → Jla, set_cons_zero → Jlb, set_cons_succ → Jlc
def ticks (s : ByteArray) : Nat → ByteArray
 | 0 => s
 | n + 1 => ticks (s ++ ⟨#[39]⟩) n
def Ku (av : List ByteArray) (s : ByteArray) : Nat → ByteArray
 | 0 => s ++ ⟨#[39]⟩
 | n + 1 => if (s ++ ⟨#[39]⟩) ∈ av then Ku av (s ++ ⟨#[39]⟩) n else s ++ ⟨#[39]⟩
def Zt (av : List ByteArray) (s : ByteArray) : ByteArray := Ku av s av.length
mutual
def Vg (nm : ByteArray) : CoreT → Bool
 | ⟨k, n, m, l, ns, ks, ls⟩ =>
  if k = 1 then decide (n = nm)
  else if (k = 6 ∨ k = 7) ∧ nm ∈ ns then false
  else Ui nm (decide (k = 8 ∧ n = nm)) 0 ks || (decide (n ≠ nm) && Hw nm ls)
def Ui (nm : ByteArray) (skip : Bool) : Nat → List CoreT → Bool
 | _, [] => false
 | i, c :: r => (!(skip && decide (i = 1)) && Vg nm c) || Ui nm skip (i + 1) r
def Hw (nm : ByteArray) : List AltT → Bool
 | [] => false
 | a :: r => qkz nm a || Hw nm r
def qkz (nm : ByteArray) : AltT → Bool
 | ⟨con, names, body⟩ => decide (nm ∉ names) && Vg nm body
end
mutual
def Zc : CoreT → List ByteArray
 | ⟨k, n, m, l, ns, ks, ls⟩ => (if n ≠ ⟨#[]⟩ ∧ (k = 1 ∨ k = 8) then [n] else []) ++ (ns ++ (Qs ks ++ Qv ls))
def Qs : List CoreT → List ByteArray
 | [] => []
 | c :: r => Zc c ++ Qs r
def Qv : List AltT → List ByteArray
 | [] => []
 | a :: r => Um a ++ Qv r
def Um : AltT → List ByteArray
 | ⟨con, names, body⟩ => names ++ Zc body
end
section
variable (nm : ByteArray) (bt : CoreT) (free all : List ByteArray)
def Uc (x : CoreT) : List ByteArray := all ++ (Zc x ++ [nm])
def Vk (x : CoreT) (i : Nat) : CoreT :=
 match x.names[i]? with
 | none => x
 | some s => if s ∈ free then
   let t := Zt (Uc nm all x) s
   { x with kids := x.kids.map (rn s t), names := x.names.set i t } else x
def Hu (x : CoreT) : CoreT := (List.range x.names.length).foldl (Vk nm free all) x
def Yh (a : AltT) (i : Nat) : AltT :=
 match a.names[i]? with
 | none => a
 | some s => if s ∈ free then
   let t := Zt (all ++ (Um a ++ [nm])) s
   { a with body := rn s t a.body, names := a.names.set i t } else a
def Xm (a : AltT) : AltT := (List.range a.names.length).foldl (Yh nm free all) a
def Yp (x : CoreT) : Bool := ((x.kids.drop 1).any (Vg nm)) || x.alts.any (qkz nm)
def Yk (x : CoreT) : CoreT :=
 if x.name ≠ ⟨#[]⟩ ∧ x.name ∈ free ∧ Yp nm x = true then
  let t := Zt (Uc nm all x) x.name
  { x with name := t, kids := x.kids.take 1 ++ (x.kids.drop 1).map (rn x.name t), alts := x.alts.map (fun a => if x.name ∈ a.names then a else { a with body := rn x.name t a.body }) }
 else x
def Jb : Nat → CoreT → CoreT
 | 0, x => x
 | n + 1, x =>
  if x.kind = 1 then (if x.name = nm then bt else x)
  else if x.kind = 6 ∨ x.kind = 7 then
   (if Vg nm x = true then let y := Hu nm free all x; { y with kids := y.kids.map (Jb n) } else x)
  else if x.kind = 8 then
   (let y := { x with kids := (x.kids.take 1).map (Jb n) ++ x.kids.drop 1 }
   if x.name = nm then y else
   let z := Yk nm free all y
   { z with kids := z.kids.take 1 ++ (z.kids.drop 1).map (Jb n), alts := z.alts.map (fun a => if nm ∈ a.names ∨ Vg nm a.body = false then a else let b := Xm nm free all a; { b with body := Jb n b.body }) })
  else { x with kids := x.kids.map (Jb n) }
end
theorem Gc (nm : ByteArray) (x : CoreT) : Vg nm x = (if x.kind = 1 then decide (x.name = nm) else if (x.kind = 6 ∨ x.kind = 7) ∧ nm ∈ x.names then false
  else Ui nm (decide (x.kind = 8 ∧ x.name = nm)) 0 x.kids || (decide (x.name ≠ nm) && Hw nm x.alts)) := by cases x; rw [Vg]
theorem Uh (nm : ByteArray) (a : AltT) : qkz nm a = (decide (nm ∉ a.names) && Vg nm a.body) := by cases a; rw [qkz]
theorem Gm (nm : ByteArray) : ∀ l : List AltT, Hw nm l = l.any (qkz nm)
 | [] => by rw [Hw]; rfl
 | a :: r => by rw [Hw, Gm nm r, List.any_cons]
theorem qcn (nm : ByteArray) : ∀ (i : Nat) (l : List CoreT), Ui nm false i l = l.any (Vg nm)
 | _, [] => by rw [Ui]; rfl
 | i, c :: r => by rw [Ui, qcn nm (i + 1) r, List.any_cons]; simp
theorem qgi {α : Type} {f : α → α} {l : List α} (h : ∀ x ∈ l, f x = x) : l.map f = l := by
 conv => rhs; rw [← List.map_id l]
 exact List.map_congr_left h
theorem Kv (x : CoreT) : CoreT.mk x.kind x.name x.minus x.limbs x.names x.kids x.alts = x := by cases x; rfl
theorem sub_id (nm : ByteArray) (bt : CoreT) (free all : List ByteArray) : ∀ (n : Nat) (x : CoreT), Vg nm x = false → Jb nm bt free all n x = x
 | 0, x, _ => by rw [Jb]
 | n + 1, x, h => by
  have ih := sub_id nm bt free all n
  rw [Jb]
  by_cases h1 : x.kind = 1
  ·rw [if_pos h1]
   rw [Gc, if_pos h1, decide_eq_false_iff_not] at h
   rw [if_neg h]
  rw [if_neg h1]
  by_cases h67 : x.kind = 6 ∨ x.kind = 7
  ·rw [if_pos h67, h]; simp
  rw [if_neg h67]
  rw [Gc, if_neg h1, if_neg (fun hh => h67 hh.1)] at h
  by_cases h8 : x.kind = 8
  ·rw [if_pos h8]
   by_cases hn : x.name = nm
   ·rw [if_pos (by exact hn)]
    simp only [h8, hn, and_self, decide_true, Bool.or_eq_false_iff] at h
    have hk : (x.kids.take 1).map (Jb nm bt free all n) = x.kids.take 1 := by
     rcases hk : x.kids with _ | ⟨c, r⟩
     ·rfl
     ·rw [hk, Ui] at h
      simp at h
      simp [ih c h.1]
    rw [hk, List.take_append_drop, Kv]
   ·simp only [h8, hn, and_false, decide_false, qcn, Gm, Bool.or_eq_false_iff, decide_not, Bool.not_false, Bool.true_and] at h
    obtain ⟨hk, ha⟩ := h
    have hk' : ∀ c ∈ x.kids, Vg nm c = false := fun c hc => by
     rw [List.any_eq_false] at hk; simpa using hk c hc
    have ha' : ∀ a ∈ x.alts, qkz nm a = false := fun a hc => by
     rw [List.any_eq_false] at ha; simpa using ha a hc
    have e1 : (x.kids.take 1).map (Jb nm bt free all n) = x.kids.take 1 := qgi (fun c hc => ih c (hk' c (List.mem_of_mem_take hc)))
    have e2 : (x.kids.drop 1).map (Jb nm bt free all n) = x.kids.drop 1 := qgi (fun c hc => ih c (hk' c (List.mem_of_mem_drop hc)))
    rw [e1, List.take_append_drop]
    have hr : Yp nm x = false := by
     rw [Yp, Bool.or_eq_false_iff]
     exact ⟨by rw [List.any_eq_false]; intro c hc; simp [hk' c (List.mem_of_mem_drop hc)], ha⟩
    have hc : Yk nm free all x = x := by rw [Yk, if_neg (by rw [hr]; simp)]
    rw [if_neg (by exact hn)]
    have e3 : x.alts.map (fun a => if nm ∈ a.names ∨ Vg nm a.body = false then a else { (Xm nm free all a) with body := Jb nm bt free all n (Xm nm free all a).body }) = x.alts := qgi (fun a hm => by
     have := ha' a hm
     rw [Uh, Bool.and_eq_false_iff] at this
     rw [if_pos]
     rcases this with h | h
     ·exact .inl (by simpa using h)
     ·exact .inr h)
    rw [Kv, hc]
    show ({ kind := x.kind, name := x.name, minus := x.minus, limbs := x.limbs, names := x.names, kids := x.kids.take 1 ++ (x.kids.drop 1).map (Jb nm bt free all n), alts := _ } : CoreT) = x
    rw [e2, List.take_append_drop]
    refine Eq.trans ?_ (Kv x)
    exact congrArg (fun l => CoreT.mk x.kind x.name x.minus x.limbs x.names x.kids l) e3
  ·rw [if_neg h8]
   simp only [h8, false_and, decide_false, qcn, Bool.or_eq_false_iff] at h
   have : x.kids.map (Jb nm bt free all n) = x.kids := qgi (fun c hc => ih c (by
    have := h.1
    rw [List.any_eq_false] at this
    simpa using this c hc))
   rw [this, Kv]
def Ur (av : List ByteArray) (k : Nat) : Nat := (av.filter (fun a => decide (k < a.size))).length
theorem Vo (av : List ByteArray) (k : Nat) : Ur av k ≤ av.length := List.length_filter_le _ _
theorem qav (a : ByteArray) (av : List ByteArray) (k : Nat) : Ur (a :: av) k = (if k < a.size then 1 else 0) + Ur av k := by
 rw [Ur, List.filter_cons]
 split <;> rename_i h <;> simp at h <;> simp [Ur, h]
 omega
theorem qpi (av : List ByteArray) (k : Nat) : Ur av (k + 1) ≤ Ur av k := by
 induction av with
 | nil => simp [Ur]
 | cons a r ih =>
  rw [qav, qav]
  split <;> split <;> omega
theorem qcf {av : List ByteArray} {k : Nat} {t : ByteArray} (h : t ∈ av) (ht : t.size = k + 1) : Ur av (k + 1) < Ur av k := by
 induction av with
 | nil => cases h
 | cons a r ih =>
  rw [qav, qav]
  rcases List.mem_cons.1 h with rfl | h
  ·have := qpi r k
   rw [if_neg (by omega), if_pos (by omega)]
   omega
  ·have := ih h
   split <;> split <;> omega
theorem Kb (s : ByteArray) : (s ++ (⟨#[39]⟩ : ByteArray)).size = s.size + 1 := by rw [ByteArray.size_append]; rfl
theorem qdi {av : List ByteArray} {s : ByteArray} (h : Ur av s.size = 0) : s ++ ⟨#[39]⟩ ∉ av := fun hm => by
 have := qcf hm (Kb s)
 omega
theorem Hi (av : List ByteArray) : ∀ (n m : Nat) (s : ByteArray), Ur av s.size ≤ n → Ur av s.size ≤ m → Ku av s n = Ku av s m
 | 0, 0, s, _, _ => rfl
 | 0, m + 1, s, h, _ => by rw [Ku, Ku, if_neg (qdi (by omega))]
 | n + 1, 0, s, _, h => by rw [Ku, Ku, if_neg (qdi (by omega))]
 | n + 1, m + 1, s, h1, h2 => by
  rw [Ku, Ku]
  by_cases hm : s ++ ⟨#[39]⟩ ∈ av
  ·have := qcf hm (Kb s)
   rw [if_pos hm, if_pos hm]
   exact Hi av n m _ (by rw [Kb]; omega) (by rw [Kb]; omega)
  ·rw [if_neg hm, if_neg hm]
theorem Hj (av : List ByteArray) (s : ByteArray) : Zt av s = if s ++ ⟨#[39]⟩ ∈ av then Zt av (s ++ ⟨#[39]⟩) else s ++ ⟨#[39]⟩ := by
 rw [Zt, Hi av av.length (av.length + 1) s (Vo _ _) (Nat.le_succ_of_le (Vo _ _)), Ku, Zt]
theorem qec {av av' : List ByteArray} (h : ∀ t, t ∈ av ↔ t ∈ av') : ∀ (n : Nat) (s : ByteArray), Ku av s n = Ku av' s n
 | 0, s => rfl
 | n + 1, s => by
  rw [Ku, Ku, qec h n]
  by_cases hm : s ++ ⟨#[39]⟩ ∈ av
  ·rw [if_pos hm, if_pos ((h _).1 hm)]
  ·rw [if_neg hm, if_neg (fun hh => hm ((h _).2 hh))]
theorem qae {av av' : List ByteArray} (h : ∀ t, t ∈ av ↔ t ∈ av') (s : ByteArray) : Zt av s = Zt av' s := by
 rw [Zt, Zt, Hi av av.length (av.length + av'.length) s (Vo _ _) (Nat.le_trans (Vo _ _) (by omega)), qec h,
  Hi av' (av.length + av'.length) av'.length s (Nat.le_trans (Vo _ _) (by omega)) (Vo _ _)]
inductive All2 {α : Type} (R : α → α → Prop) : List α → List α → Prop
 | nil : All2 R [] []
 | cons {a b : α} {l m : List α} : R a b → All2 R l m → All2 R (a :: l) (b :: m)
theorem All2.map {α : Type} {R : α → α → Prop} {f : α → α} : ∀ {l : List α}, (∀ x ∈ l, R x (f x)) → All2 R l (l.map f)
 | [], _ => .nil
 | a :: l, h => .cons (h a (by simp)) (All2.map (fun x hx => h x (by simp [hx])))
theorem All2.refl {α : Type} {R : α → α → Prop} (h : ∀ x, R x x) : ∀ l : List α, All2 R l l
 | [] => .nil
 | a :: l => .cons (h a) (All2.refl h l)
theorem All2.append {α : Type} {R : α → α → Prop} : ∀ {l l' m m' : List α}, All2 R l l' → All2 R m m' → All2 R (l ++ m) (l' ++ m')
 | _, _, _, _, .nil, k => k
 | _, _, _, _, .cons h t, k => .cons h (All2.append t k)
theorem All2.len {α : Type} {R : α → α → Prop} : ∀ {l m : List α}, All2 R l m → m.length = l.length
 | _, _, .nil => rfl
 | _, _, .cons _ t => by simp [All2.len t]
theorem All2.imp {α : Type} {R S : α → α → Prop} (h : ∀ a b, R a b → S a b) : ∀ {l m : List α}, All2 R l m → All2 S l m
 | _, _, .nil => .nil
 | _, _, .cons a t => .cons (h _ _ a) (All2.imp h t)
def Xx (out : List ByteArray) (s : ByteArray) : List ByteArray := if s ∈ out then out else out ++ [s]
theorem qfa (l : List ByteArray) : ∀ (out : List ByteArray) (s : ByteArray), s ∈ l.foldl Xx out ↔ s ∈ out ∨ s ∈ l := by
 induction l with
 | nil => intro out s; simp
 | cons a r ih =>
  intro out s
  rw [List.foldl_cons, ih, Xx]
  split
  ·rename_i h
   rw [List.mem_cons]
   constructor
   ·rintro (h1 | h1)
    ·exact .inl h1
    ·exact .inr (.inr h1)
   ·rintro (h1 | h1 | h1)
    ·exact .inl h1
    ·exact .inl (h1 ▸ h)
    ·exact .inr h1
  ·simp [or_assoc]
theorem Jx (l : List ByteArray) : ∀ (out : List ByteArray), (l.foldl Xx out).length ≤ out.length + l.length := by
 induction l with
 | nil => intro out; simp
 | cons a r ih =>
  intro out
  rw [List.foldl_cons]
  have := ih (Xx out a)
  have : (Xx out a).length ≤ out.length + 1 := by rw [Xx]; split <;> simp
  rw [List.length_cons]; omega
theorem qaj (l m : List ByteArray) (s : ByteArray) : nIn (l ++ m) s = nIn l s + nIn m s := by simp [nIn]
def inn (bd : List ByteArray) (n : ByteArray) : List ByteArray := if n = ⟨#[]⟩ then bd else bd ++ [n]
mutual
def fvs (bd : List ByteArray) : CoreT → List ByteArray
 | ⟨k, n, m, l, ns, ks, ls⟩ =>
  if k = 1 then (if n ∈ bd then [] else [n])
  else if k = 6 ∨ k = 7 then Zf (bd ++ ns) ks
  else if k = 8 then fvsH bd ks ++ (Xu (inn bd n) ls ++ fvsT (inn bd n) ks)
  else Zf bd ks
def Zf (bd : List ByteArray) : List CoreT → List ByteArray
 | [] => []
 | c :: r => fvs bd c ++ Zf bd r
def fvsH (bd : List ByteArray) : List CoreT → List ByteArray
 | [] => []
 | c :: _ => fvs bd c
def fvsT (bd : List ByteArray) : List CoreT → List ByteArray
 | [] => []
 | _ :: r => Zf bd r
def Xu (bd : List ByteArray) : List AltT → List ByteArray
 | [] => []
 | a :: r => fvsA bd a ++ Xu bd r
def fvsA (bd : List ByteArray) : AltT → List ByteArray
 | ⟨con, names, body⟩ => fvs (bd ++ names) body
end
theorem Uu (bd : List ByteArray) (x : CoreT) : fvs bd x = (if x.kind = 1 then (if x.name ∈ bd then [] else [x.name]) else if x.kind = 6 ∨ x.kind = 7 then Zf (bd ++ x.names) x.kids
  else if x.kind = 8 then fvsH bd x.kids ++ (Xu (inn bd x.name) x.alts ++ fvsT (inn bd x.name) x.kids) else Zf bd x.kids) := by cases x; rw [fvs]
theorem qfz (bd : List ByteArray) (a : AltT) : fvsA bd a = fvs (bd ++ a.names) a.body := by cases a; rw [fvsA]
theorem Vw (bd : List ByteArray) (l : List CoreT) (c : CoreT) : Zf bd (l ++ [c]) = Zf bd l ++ fvs bd c := by
 induction l with
 | nil => simp [Zf]
 | cons a r ih => simp only [List.cons_append, Zf, ih, List.append_assoc]
theorem qdo (bd : List ByteArray) (l : List AltT) (a : AltT) : Xu bd (l ++ [a]) = Xu bd l ++ fvs (bd ++ a.names) a.body := by
 induction l with
 | nil => simp [Xu, qfz]
 | cons b r ih => simp only [List.cons_append, Xu, ih, List.append_assoc]
theorem Ug (bd : List ByteArray) (l : List CoreT) : fvsT bd l = Zf bd (l.drop 1) := by
 cases l with
 | nil => rw [fvsT]; simp [Zf]
 | cons c r => rw [fvsT]; rfl
theorem Uf (bd : List ByteArray) (l : List CoreT) : fvsH bd l = Zf bd (l.take 1) := by
 cases l with
 | nil => rw [fvsH]; simp [Zf]
 | cons c r => rw [fvsH]; simp [Zf]
mutual
def Qt (nm : ByteArray) : CoreT → Nat
 | ⟨k, n, m, l, ns, ks, ls⟩ =>
  if k = 1 then (if n = nm then 1 else 0)
  else if (k = 6 ∨ k = 7) ∧ nm ∈ ns then 0
  else Zl nm (decide (k = 8 ∧ n = nm)) 0 ks + (if n = nm then 0 else Qu nm ls)
def Zl (nm : ByteArray) (skip : Bool) : Nat → List CoreT → Nat
 | _, [] => 0
 | i, c :: r => (if skip = true ∧ i = 1 then 0 else Qt nm c) + Zl nm skip (i + 1) r
def Qu (nm : ByteArray) : List AltT → Nat
 | [] => 0
 | a :: r => qeo nm a + Qu nm r
def qeo (nm : ByteArray) : AltT → Nat
 | ⟨con, names, body⟩ => if nm ∈ names then 0 else Qt nm body
end
def Jf (nm : ByteArray) : List CoreT → Nat
 | [] => 0
 | c :: r => Qt nm c + Jf nm r
section
variable {nm : ByteArray}
theorem Xe (nm : ByteArray) (x : CoreT) : Qt nm x = (if x.kind = 1 then (if x.name = nm then 1 else 0) else if (x.kind = 6 ∨ x.kind = 7) ∧ nm ∈ x.names then 0
  else Zl nm (decide (x.kind = 8 ∧ x.name = nm)) 0 x.kids + (if x.name = nm then 0 else Qu nm x.alts)) := by cases x; rw [Qt]
theorem Vj (nm : ByteArray) (a : AltT) : qeo nm a = if nm ∈ a.names then 0 else Qt nm a.body := by cases a; rw [qeo]
theorem Yr (nm : ByteArray) : ∀ (i : Nat) (l : List CoreT), Zl nm false i l = Jf nm l
 | _, [] => by rw [Zl, Jf]
 | i, c :: r => by rw [Zl, Jf, Yr nm (i + 1) r]; simp
theorem qeq (nm : ByteArray) (skip : Bool) : ∀ (i : Nat) (l : List CoreT) (c : CoreT), Zl nm skip i (l ++ [c]) = Zl nm skip i l + (if skip = true ∧ i + l.length = 1 then 0 else Qt nm c)
 | i, [], c => by simp [Zl]
 | i, a :: r, c => by
  rw [List.cons_append, Zl, Zl, qeq nm skip (i + 1) r c, List.length_cons, show i + 1 + r.length = i + (r.length + 1) by omega]
  omega
theorem qlz (nm : ByteArray) (l : List AltT) (a : AltT) : Qu nm (l ++ [a]) = Qu nm l + qeo nm a := by
 induction l with
 | nil => simp [Qu]
 | cons b r ih => simp only [List.cons_append, Qu, ih]; omega
theorem Yj {c : CoreT} : ∀ {l : List CoreT}, c ∈ l → Qt nm c ≤ Jf nm l
 | a :: r, h => by
  rw [Jf]
  rcases List.mem_cons.1 h with rfl | h
  ·omega
  ·have := Yj h; omega
theorem qgw {a : AltT} : ∀ {l : List AltT}, a ∈ l → qeo nm a ≤ Qu nm l
 | b :: r, h => by
  rw [Qu]
  rcases List.mem_cons.1 h with rfl | h
  ·omega
  ·have := qgw h; omega
theorem qgb {skip : Bool} : ∀ (i : Nat) (l : List CoreT), (∀ c ∈ l, Vg nm c = decide (0 < Qt nm c)) → Ui nm skip i l = decide (0 < Zl nm skip i l)
 | _, [], _ => by rw [Ui, Zl]; rfl
 | i, c :: r, h => by
  rw [Ui, Zl, qgb (i + 1) r (fun d hd => h d (by simp [hd])), h c (by simp)]
  by_cases h1 : skip = true ∧ i = 1
  ·rw [if_pos h1]; simp [h1.1, h1.2]
  ·rw [if_neg h1, show (skip && decide (i = 1)) = false by
    cases skip
    ·rfl
    ·simp at h1 ⊢; exact h1]
   simp only [Bool.not_false, Bool.true_and]
   by_cases h2 : 0 < Qt nm c <;> by_cases h3 : 0 < Zl nm skip (i + 1) r <;> simp [h2, h3] <;> omega
theorem qga : ∀ (l : List AltT), (∀ a ∈ l, Vg nm a.body = decide (0 < Qt nm a.body)) → Hw nm l = decide (0 < Qu nm l)
 | [], _ => by rw [Hw, Qu]; rfl
 | a :: r, h => by
  rw [Hw, Qu, qga r (fun d hd => h d (by simp [hd])), Uh, Vj, h a (by simp)]
  by_cases h1 : nm ∈ a.names
  ·simp [h1]
  ·simp only [h1, not_false_eq_true, decide_true, Bool.true_and, if_false]
   by_cases h2 : 0 < Qt nm a.body <;> by_cases h3 : 0 < Qu nm r <;> simp [h2, h3] <;> omega
theorem qpz : ∀ x : CoreT, Vg nm x = decide (0 < Qt nm x) := by
 refine Za (fun x => Vg nm x = decide (0 < Qt nm x)) (fun x ihk iha => ?_)
 rw [Gc, Xe]
 split
 ·split <;> simp [*]
 ·split
  ·rfl
  ·rw [qgb 0 x.kids ihk, qga x.alts iha]
   by_cases h : x.name = nm
   ·simp [h]
   ·simp only [h, ne_eq, not_false_eq_true, decide_true, Bool.true_and, if_false, and_false, decide_false]
    by_cases h2 : 0 < Zl nm false 0 x.kids <;> by_cases h3 : 0 < Qu nm x.alts <;> simp [h2, h3] <;> omega
theorem qgy : ∀ x : CoreT, Vn x → Qt ⟨#[]⟩ x = 0 ∧ ∀ bd, nIn (fvs bd x) ⟨#[]⟩ = 0 := by
 refine Za (fun x => Vn x → Qt ⟨#[]⟩ x = 0 ∧ ∀ bd, nIn (fvs bd x) ⟨#[]⟩ = 0) (fun x ihk iha hs => ?_)
 rw [Kn, Js, Jr] at hs
 obtain ⟨hsh, hks, hls⟩ := hs
 have hK : ∀ skip i (l : List CoreT), (∀ c ∈ l, c ∈ x.kids) → Zl ⟨#[]⟩ skip i l = 0 := by
  intro skip i l
  induction l generalizing i with
  | nil => intro _; rw [Zl]
  | cons c r ih =>
   intro h
   rw [Zl, ih _ (fun d hd => h d (by simp [hd])), (ihk c (h c (by simp)) (hks c (h c (by simp)))).1]
   simp
 have hA : ∀ (l : List AltT), (∀ c ∈ l, c ∈ x.alts) → Qu ⟨#[]⟩ l = 0 := by
  intro l
  induction l with
  | nil => intro _; rw [Qu]
  | cons c r ih =>
   intro h
   rw [Qu, ih (fun d hd => h d (by simp [hd])), Vj, (iha c (h c (by simp)) (hls c (h c (by simp)))).1]
   simp
 have hK2 : ∀ bd (l : List CoreT), (∀ c ∈ l, c ∈ x.kids) → nIn (Zf bd l) ⟨#[]⟩ = 0 := by
  intro bd l
  induction l with
  | nil => intro _; rw [Zf]; rfl
  | cons c r ih =>
   intro h
   rw [Zf, qaj, ih (fun d hd => h d (by simp [hd])), (ihk c (h c (by simp)) (hks c (h c (by simp)))).2]
 have hA2 : ∀ bd (l : List AltT), (∀ c ∈ l, c ∈ x.alts) → nIn (Xu bd l) ⟨#[]⟩ = 0 := by
  intro bd l
  induction l with
  | nil => intro _; rw [Xu]; rfl
  | cons c r ih =>
   intro h
   rw [Xu, qaj, ih (fun d hd => h d (by simp [hd])), qfz, (iha c (h c (by simp)) (hls c (h c (by simp)))).2]
 constructor
 ·rw [Xe, hK _ _ _ (fun c h => h), hA _ (fun c h => h)]
  split
  ·rename_i h
   rw [if_neg (qju (hsh.1 h))]
  ·split <;> simp
 ·intro bd
  rw [Uu]
  split
  ·rename_i h
   split
   ·rfl
   ·simp [nIn, qju (hsh.1 h)]
  ·split
   ·exact hK2 _ _ (fun c h => h)
   ·split
    ·rw [qaj, qaj, hA2 _ _ (fun c h => h), Uf, Ug, hK2 _ _ (fun c h => List.mem_of_mem_take h), hK2 _ _ (fun c h => List.mem_of_mem_drop h)]
    ·exact hK2 _ _ (fun c h => h)
theorem zao (hne : nm ≠ ⟨#[]⟩) : ∀ x : CoreT, Vn x → ∀ bd, nIn (fvs bd x) nm = if nm ∈ bd then 0 else Qt nm x := by
 refine Za (fun x => Vn x → ∀ bd, nIn (fvs bd x) nm = if nm ∈ bd then 0 else Qt nm x) (fun x ihk iha hs bd => ?_)
 rw [Kn, Js, Jr] at hs
 obtain ⟨hsh, hks, hls⟩ := hs
 have hK : ∀ bd (l : List CoreT), (∀ c ∈ l, c ∈ x.kids) → nIn (Zf bd l) nm = if nm ∈ bd then 0 else Jf nm l := by
  intro bd l
  induction l with
  | nil => intro _; rw [Zf, Jf]; simp [nIn]
  | cons c r ih =>
   intro h
   rw [Zf, qaj, ih (fun d hd => h d (by simp [hd])), ihk c (h c (by simp)) (hks c (h c (by simp))), Jf]
   split <;> rfl
 have hA : ∀ bd (l : List AltT), (∀ c ∈ l, c ∈ x.alts) → nIn (Xu bd l) nm = if nm ∈ bd then 0 else Qu nm l := by
  intro bd l
  induction l with
  | nil => intro _; rw [Xu, Qu]; simp [nIn]
  | cons c r ih =>
   intro h
   rw [Xu, qaj, ih (fun d hd => h d (by simp [hd])), qfz, iha c (h c (by simp)) (hls c (h c (by simp))), Qu, Vj]
   by_cases h1 : nm ∈ bd <;> by_cases h2 : nm ∈ c.names <;> simp [h1, h2]
 have h0 : x.kind ≠ 8 → Qu nm x.alts = 0 := fun h => by
  rw [List.eq_nil_of_length_eq_zero (hsh.2.1 h), Qu]
 have hinn : ∀ bd, (nm ∈ inn bd x.name ↔ (nm ∈ bd ∨ x.name = nm)) := fun bd => by
  unfold inn
  split
  ·rename_i h
   rw [h]
   exact ⟨.inl, fun h => h.resolve_right (fun e => hne e.symm)⟩
  ·rw [List.mem_append, List.mem_singleton]
   exact ⟨fun h => h.imp id Eq.symm, fun h => h.imp id Eq.symm⟩
 rw [Uu, Xe]
 by_cases h1 : x.kind = 1
 ·rw [if_pos h1, if_pos h1]
  by_cases hn : x.name = nm
  ·rw [hn]; by_cases hb : nm ∈ bd <;> simp [hb, nIn]
  ·by_cases hb : x.name ∈ bd <;> simp [hb, nIn, hn]
 rw [if_neg h1, if_neg h1]
 by_cases h67 : x.kind = 6 ∨ x.kind = 7
 ·have h8 : x.kind ≠ 8 := by omega
  rw [if_pos h67, hK _ _ (fun c h => h), show decide (x.kind = 8 ∧ x.name = nm) = false from decide_eq_false (fun h => h8 h.1), Yr, h0 h8]
  simp only [List.mem_append, h67, true_and, ite_self, Nat.add_zero]
  by_cases hb : nm ∈ bd <;> by_cases hn : nm ∈ x.names <;> simp [hb, hn]
 rw [if_neg h67, if_neg (show ¬((x.kind = 6 ∨ x.kind = 7) ∧ nm ∈ x.names) from fun h => h67 h.1)]
 by_cases h8 : x.kind = 8
 ·rw [if_pos h8, qaj, qaj, hA _ _ (fun c h => h), Uf, Ug, hK _ _ (fun c h => List.mem_of_mem_take h), hK _ _ (fun c h => List.mem_of_mem_drop h)]
  simp only [hinn, h8, true_and]
  rcases hk : x.kids with _ | ⟨c, r⟩
  ·have := hsh.2.2 h8
   rw [hk] at this
   simp at this
  have hr : r = [] ∨ ∃ d, r = [d] := by
   have := hsh.2.2 h8
   rw [hk] at this
   rcases r with _ | ⟨d, _ | ⟨f, r⟩⟩
   ·exact .inl rfl
   ·exact .inr ⟨d, rfl⟩
   ·simp at this
  by_cases hn : x.name = nm
  ·rw [decide_eq_true hn]
   rcases hr with rfl | ⟨d, rfl⟩ <;> by_cases hb : nm ∈ bd <;> simp [hb, hn, Zl, Jf]
  ·rw [decide_eq_false hn]
   rcases hr with rfl | ⟨d, rfl⟩ <;> by_cases hb : nm ∈ bd <;> simp [hb, hn, Zl, Jf]
   omega
 ·rw [if_neg h8, hK _ _ (fun c h => h), show decide (x.kind = 8 ∧ x.name = nm) = false from decide_eq_false (fun h => h8 h.1), Yr, h0 h8]
  simp
theorem qgz (x : CoreT) (hs : Vn x) : nIn (fvs [] x) nm = Qt nm x := by
 by_cases h : nm = ⟨#[]⟩
 ·subst h; rw [(qgy x hs).1, (qgy x hs).2]
 ·rw [zao h x hs]; simp
theorem zaf (x : CoreT) (hs : Vn x) : Vg nm x = decide (nm ∈ fvs [] x) := by
 rw [qpz, ← qgz x hs]
 exact decide_eq_decide.2 qnc
end
end Go.Proofs.YtnoammmohdmnjaaGreat.C13
