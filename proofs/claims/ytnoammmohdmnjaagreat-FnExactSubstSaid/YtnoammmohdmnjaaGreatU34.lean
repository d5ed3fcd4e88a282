import Derived.Test.YtnoammmohdmnjaaGreatU32
set_option maxRecDepth 100000
set_option maxHeartbeats 16000000
set_option linter.unusedVariables false
set_option linter.unusedSimpArgs false
namespace Go.Proofs.YtnoammmohdmnjaaGreat.C13
open Go.RowKit Go.Proofs.YtnoammmohdmnjaaGreatW.PrintWords
open List renaming setIfInBounds_toArray → Jla, set_cons_zero → Jlb, set_cons_succ → Jlc
section
variable {L : Nat} {F0 : List Nat} {w0 wr : World} {y : CoreT} {v3 v4 v5 v6 : Value}
theorem Inv.altIn (h : Inv L F0 w0 y v3 v4 v5 v6 wr) (hw : w0.heap.size ≤ L) {k : Nat} (hk : k < y.alts.length) :
  ∃ g cap c1 A1 cc cx post, v6 = .slice (some ⟨g, 0, none⟩) y.alts.length cap ∧ y.alts.length ≤ cap ∧ c1.length = k * 9 ∧ Blk wr g 76 ((c1 ++ [.string y.alts[k].con, .slice A1 y.alts[k].names.length cc]) ++ (cx ++ post)) ∧
   y.alts[k].names.length ≤ cc ∧ Kd.string.C wr A1 y.alts[k].names.length y.alts[k].names ∧ (g ∈ F0 ∨ L ≤ g) ∧
   (∃ Gx, Ke 35 76 wr y.alts[k].body cx Gx ∧ Gx.Nodup ∧ (∀ i ∈ Gx, i ∈ F0 ∨ L ≤ i) ∧ g ∉ Gx ∧ (∀ i ∈ Gx, i < wr.heap.size) ∧
    ∀ z cx' Gx' w4 w5, Ke 35 76 w4 z cx' Gx' → Gx'.Nodup → (∀ i ∈ Gx', i ∈ Gx ∨ wr.heap.size ≤ i) → But Gx wr w4 → w4.grownBy w5 (some g) → Blk w5 g 76 ((c1 ++ [.string y.alts[k].con, .slice A1 y.alts[k].names.length cc]) ++ (cx' ++ post)) →
     Inv L F0 w0 { y with alts := y.alts.set k { y.alts[k] with body := z } } v3 v4 v5 v6 w5) ∧
   (∀ i (hi : i < y.alts[k].names.length), ∃ g1 d1 dp, A1 = some ⟨g1, 0, none⟩ ∧ d1.length = i ∧ Blk wr g1 9 (d1 ++ ([.string y.alts[k].names[i]] ++ dp)) ∧ (g1 ∈ F0 ∨ L ≤ g1) ∧ g1 ≠ g ∧
    ∀ t w5, wr.grownBy w5 (some g1) → Blk w5 g1 9 (d1 ++ ([.string t] ++ dp)) → Inv L F0 w0 { y with alts := y.alts.set k { y.alts[k] with names := y.alts[k].names.set i t } } v3 v4 v5 v6 w5) := by
 obtain ⟨g, cap, c1, cx, post, hv, hcap, hl, hb, Gx, hox, hnx, hsx, hgx, hgF, hltx, hcl⟩ := h.alt hw hk
 rw [Xw] at hox
 obtain ⟨v1, cb, F1, Gb, rfl, rfl, hr1, hob⟩ := hox
 obtain ⟨A1, cc, rfl, hcc, hC⟩ := hr1.readsS
 have hnd := List.nodup_append.1 hnx
 have hF1 : ∀ i ∈ F1, i < wr.heap.size := fun i hi => hltx i (by simp [hi])
 have hGb : ∀ i ∈ Gb, i < wr.heap.size := fun i hi => hltx i (by simp [hi])
 have hF1g : ∀ i ∈ F1, i ≠ g := fun i hi e => hgx (by rw [← e]; simp [hi])
 have hGbg : ∀ i ∈ Gb, i ≠ g := fun i hi e => hgx (by rw [← e]; simp [hi])
 refine ⟨g, cap, c1, A1, cc, cb, post, hv, hcap, hl, by simpa [List.append_assoc] using hb, hcc, hC, hgF, ⟨Gb, hob, hnd.2.1, fun i hi => hsx i (by simp [hi]), fun hh => hgx (by simp [hh]), hGb, fun z cx' Gx' w4 w5 hz hn' hs' h4 h5 hb5 => ?_⟩, fun i hi => ?_⟩
 ·have hgg : g ∉ Gx' := fun hh => (hs' g hh).elim (fun hh => hgx (by simp [hh])) (fun h' => by have := hb.lt; omega)
  have hk1 : ∀ i ∈ F1, w5.heap[i]? = wr.heap[i]? := fun i hi => by
   rw [h5.block i (Nat.lt_of_lt_of_le (hF1 i hi) h4.size) (fun e => hF1g i hi (by injection e)), h4.block i (hF1 i hi) (fun hh => hnd.2.2 i hi i hh rfl)]
  refine hcl { y.alts[k] with body := z } (.string y.alts[k].con :: .slice A1 y.alts[k].names.length cc :: cx') (F1 ++ Gx') w5 ?_ ?_ ?_ ?_ (by simpa [List.append_assoc] using hb5)
  ·rw [Xw]
   exact ⟨_, _, F1, Gx', rfl, rfl, hr1.move hk1, Xv hz h5 (fun i hi e => hgg (e ▸ hi))⟩
  ·exact List.nodup_append.2 ⟨hnd.1, hn', fun a ha b hb' e => (hs' b hb').elim (fun hh => hnd.2.2 a ha b hh e) (fun hh => by have := hF1 a ha; omega)⟩
  ·exact fun i hi => (List.mem_append.1 hi).elim (fun hh => .inl (by simp [hh])) (fun hh => (hs' i hh).imp (fun h => by simp [h]) id)
  ·exact ⟨h5.os.trans h4.os, h5.tape.trans h4.tape, h5.output.trans h4.output, Nat.le_trans h4.size h5.size, fun i hi hn => by
    rw [h5.block i (Nat.lt_of_lt_of_le hi h4.size) (fun e => hn (by injection e with e; simp [e])), h4.block i hi (fun hh => hn (by simp [hh]))]⟩
 ·have hr1' := hr1
  rcases hr1' with ⟨_, h0, _, _⟩ | ⟨g1, cap1, spare, he, hcap1, hcap2, hb1, rfl⟩
  ·omega
  simp only [Value.slice.injEq] at he
  obtain ⟨rfl, -, rfl⟩ := he
  have hsp : ∀ l : List ByteArray, i < l.length → ∀ t, Xa (l.set i t) = Xa (l.take i) ++ ([.string t] ++ Xa (l.drop (i + 1))) := fun l hl t => by
   rw [List.set_eq_take_append_cons_drop, if_pos hl]; simp [Xa]
  have hsp0 : Xa y.alts[k].names = Xa (y.alts[k].names.take i) ++ ([.string y.alts[k].names[i]] ++ Xa (y.alts[k].names.drop (i + 1))) := by
   have := hsp y.alts[k].names hi y.alts[k].names[i]
   rwa [List.set_getElem_self] at this
  have hg1 : g1 ≠ g := hF1g g1 (by simp)
  have hg1b : g1 ∉ Gb := fun hh => hnd.2.2 g1 (by simp) g1 hh rfl
  refine ⟨g1, Xa (y.alts[k].names.take i), Xa (y.alts[k].names.drop (i + 1)) ++ spare, rfl, by simp [Xa]; omega, by rw [hsp0] at hb1; simpa [List.append_assoc] using hb1, hsx g1 (by simp), hg1, fun t w5 h5 hb5 => ?_⟩
  refine hcl { y.alts[k] with names := y.alts[k].names.set i t } (.string y.alts[k].con :: .slice (some ⟨g1, 0, none⟩) y.alts[k].names.length cc :: cb) ([g1] ++ Gb) w5 ?_ hnx (fun i hi => .inl hi) ((But.of_grown h5).mono (fun j hj => by rw [List.mem_singleton.1 hj]; simp)) ?_
  ·rw [Xw]
   exact ⟨_, _, [g1], Gb, rfl, rfl, .inr ⟨g1, cc, spare, by simp, by simpa using hcap1, hcap2, by simp only; rw [hsp _ hi]; simpa [List.append_assoc] using hb5, rfl⟩, Xv hob h5 (fun i hi e => hg1b (e ▸ hi))⟩
  ·have := hb.grownO h5 (fun e => hg1 (by injection e with e; exact e.symm))
   simpa [List.append_assoc] using this
theorem Inv.altAt (h : Inv L F0 w0 y v3 v4 v5 v6 wr) (hw : w0.heap.size ≤ L) {k m : Nat} {a : AltT} {l : List AltT} (hl0 : y.alts = l) (hm : l.length = m) (hk : k < m) (ha : ∀ h : k < l.length, l[k] = a) :
  ∃ g cap c1 A1 cc cx post, v6 = .slice (some ⟨g, 0, none⟩) m cap ∧ m ≤ cap ∧ c1.length = k * 9 ∧ Blk wr g 76 ((c1 ++ [.string a.con, .slice A1 a.names.length cc]) ++ (cx ++ post)) ∧
   a.names.length ≤ cc ∧ Kd.string.C wr A1 a.names.length a.names ∧ (g ∈ F0 ∨ L ≤ g) ∧
   (∃ Gx, Ke 35 76 wr a.body cx Gx ∧ Gx.Nodup ∧ (∀ i ∈ Gx, i ∈ F0 ∨ L ≤ i) ∧ g ∉ Gx ∧ (∀ i ∈ Gx, i < wr.heap.size) ∧
    ∀ z cx' Gx' w4 w5, Ke 35 76 w4 z cx' Gx' → Gx'.Nodup → (∀ i ∈ Gx', i ∈ Gx ∨ wr.heap.size ≤ i) → But Gx wr w4 → w4.grownBy w5 (some g) → Blk w5 g 76 ((c1 ++ [.string a.con, .slice A1 a.names.length cc]) ++ (cx' ++ post)) →
     Inv L F0 w0 { y with alts := l.set k { a with body := z } } v3 v4 v5 v6 w5) ∧
   (∀ i (hi : i < a.names.length), ∃ g1 d1 dp, A1 = some ⟨g1, 0, none⟩ ∧ d1.length = i ∧ Blk wr g1 9 (d1 ++ ([.string a.names[i]] ++ dp)) ∧ (g1 ∈ F0 ∨ L ≤ g1) ∧ g1 ≠ g ∧
    ∀ t w5, wr.grownBy w5 (some g1) → Blk w5 g1 9 (d1 ++ ([.string t] ++ dp)) → Inv L F0 w0 { y with alts := l.set k { a with names := a.names.set i t } } v3 v4 v5 v6 w5) := by
 subst hl0; subst hm
 obtain rfl := ha hk
 exact h.altIn hw hk
def qlg (a : AltT) : CoreT := ⟨6, ⟨#[]⟩, false, [], a.names, [a.body], []⟩
theorem qtf (a : AltT) : Zc (qlg a) = Um a := by cases a; simp [qlg, Zc, Um, Qs, Qv]
theorem qnd {a : AltT} (h : FitA a) : bulk (qlg a) ≤ 274877906944 ∧ (Zc (qlg a)).length ≤ 1000000 := by
 have h1 := qrz 2097152 (qlg a) (Zd.2 ⟨⟨by show (0 : Nat) ≤ 2097152; omega, h.n⟩, fun c hc => by simp [qlg] at hc; rw [hc]; exact h.b, fun c hc => by simp [qlg] at hc⟩)
 have h2 := Jp (qlg a)
 have h3 := h.t
 have h4 := h.m
 have e1 : Qr (qlg a) ≤ 60001 := by rw [Zj]; simp [qlg, Zb, Zp, Qy]; omega
 have e2 : Hm (qlg a) ≤ 34359798369 := by rw [Kr]; simp [qlg, Jo, Kl]; omega
 exact ⟨by omega, by omega⟩
theorem one_K {w : World} {a : AltT} {cb : List Value} {g : Nat} {A1 : Option Addr} {cc : Nat} (hK : IC.K w a.body cb) (h7 : cb.length = 7) (hC : Kd.string.C w A1 a.names.length a.names) (hcc : a.names.length ≤ cc) (hb : Blk w g 35 cb) :
  IC.K w (qlg a) [.int .i64 6, .string ⟨#[]⟩, .bool false, .slice none 0 0, .slice A1 a.names.length cc, .slice (some ⟨g, 0, none⟩) 1 1, .slice none 0 0] := by
 obtain ⟨n, hn⟩ := hK
 have h3 := Row.readsI (w := w) (e := 106) (v := .slice none 0 0) (F := []) (l := []) (.inl ⟨rfl, rfl, rfl, rfl⟩)
 obtain ⟨A3, d3, e3, l3, g3⟩ := h3
 have h5 := Row.reads (w := w) (e := 35) (v := .slice (some ⟨g, 0, none⟩) 1 1) (F := [g]) (cells := cb) (xs := [a.body]) (R := (Kd.upto (Hh 35 76) 7 (Hg 35 76) n).K w) (size := 7) (.inr ⟨g, 1, [], rfl, Nat.le_refl _, by omega, by simpa using hb, rfl⟩) (by have := Reps.snoc (Reps.none _ _) hn h7; simpa using this)
 obtain ⟨A5, d5, e5, l5, g5⟩ := h5
 have h6 := Row.reads (w := w) (e := 76) (v := .slice none 0 0) (F := []) (cells := []) (xs := ([] : List AltT)) (R := (qop (Kd.upto (Hh 35 76) 7 (Hg 35 76) n)).K w) (size := 9) (.inl ⟨rfl, rfl, rfl, rfl⟩) (Reps.none _ _)
 obtain ⟨A6, d6, e6, l6, g6⟩ := h6
 simp only [Value.slice.injEq] at e3 e5 e6
 obtain ⟨rfl, -, rfl⟩ := e3; obtain ⟨rfl, -, rfl⟩ := e5; obtain ⟨rfl, -, rfl⟩ := e6
 have g5' : (Kd.upto (Hh 35 76) 7 (Hg 35 76) n).C w (some ⟨g, 0, none⟩) 1 [a.body] := by
  unfold Kd.C; rw [Gd _ _ n]; exact g5
 have g6' : (qop (Kd.upto (Hh 35 76) 7 (Hg 35 76) n)).C w none 0 [] := by
  unfold Kd.C; rw [show (qop (Kd.upto (Hh 35 76) 7 (Hg 35 76) n)).sz = 9 from mono_kAlt.sz _ (Ja 35 76) (Gd _ _ n)]; exact g6
 exact ⟨n + 1, ⟨[_], _, rfl, rfl, ⟨[_], _, rfl, rfl, ⟨[_], _, rfl, rfl, ⟨[_], _, rfl, ⟨none, 0, rfl, Nat.le_refl _, g3⟩, ⟨[_], _, rfl, ⟨A1, cc, rfl, hcc, hC⟩, ⟨[_], _, rfl, ⟨some ⟨g, 0, none⟩, 1, rfl, Nat.le_refl _, g5'⟩, ⟨none, 0, rfl, Nat.le_refl _, g6'⟩⟩⟩⟩⟩⟩⟩⟩
theorem qkn {nm : ByteArray} {x y z : CoreT} (hyk : y.kids.drop 1 = x.kids.drop 1) (hya : y.alts = x.alts) (hK : CaseK nm y z) :
  (∀ c ∈ z.kids.drop 1, dep c + 1 ≤ dep x) ∧ (∀ a ∈ z.alts, dep a.body + 1 ≤ dep x) ∧ z.alts.length = x.alts.length := by
 have ks := hK.ks; have al := hK.al
 rw [hyk] at ks; rw [hya] at al
 refine ⟨fun c hc => ?_, fun a ha => ?_, al.len⟩
 ·obtain ⟨d, hd, hs⟩ := qaw ks c hc
  rw [hs.d, Yi x]; have := Yz (List.mem_of_mem_drop hd); omega
 ·obtain ⟨d, hd, hs⟩ := qaw al a ha
  rw [hs.b.d, Yi x]; have := qfo hd; omega
end
end Go.Proofs.YtnoammmohdmnjaaGreat.C13
