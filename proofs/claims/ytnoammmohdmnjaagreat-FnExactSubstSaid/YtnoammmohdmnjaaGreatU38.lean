import Derived.Test.YtnoammmohdmnjaaGreatU34
set_option maxRecDepth 100000
set_option maxHeartbeats 16000000
set_option linter.unusedVariables false
set_option linter.unusedSimpArgs false
namespace Go.Proofs.YtnoammmohdmnjaaGreat.C13
open Go.RowKit Go.Proofs.YtnoammmohdmnjaaGreatW.PrintWords
open List renaming setIfInBounds_toArray → Jla, set_cons_zero → Jlb, set_cons_succ → Jlc
structure InP (L g : Nat) (F0 : List Nat) (w0 : World) (y : CoreT) (v3 v4 v5 v6 : Value) (wr : World) : Prop where
 ex : ∃ F, Own7 wr y v3 v4 v5 v6 F ∧ ∀ i ∈ F, i ∈ F0 ∨ L ≤ i
 but : But (g :: F0) w0 wr
 lt0 : ∀ i ∈ F0, i < w0.heap.size
 ls : L ≤ wr.heap.size
 g0 : g ∉ F0 ∧ g < w0.heap.size
 lw : w0.heap.size ≤ L
abbrev c7 (x : CoreT) (v3 v4 v5 v6 : Value) : List Value := [.int .i64 x.kind, .string x.name, .bool x.minus, v3, v4, v5, v6]
section
variable {L g : Nat} {F0 : List Nat} {w0 wr : World} {y : CoreT} {v3 v4 v5 v6 : Value}
theorem But.thru {D G : List Nat} {S w1 w2 : World} (h : But D S w1) (k : But G w1 w2) (hG : ∀ i ∈ G, i ∈ D ∨ S.heap.size ≤ i) : But D S w2 :=
 ⟨k.os.trans h.os, k.tape.trans h.tape, k.output.trans h.output, Nat.le_trans h.size k.size, fun i hi hn => (k.block i (Nat.lt_of_lt_of_le hi h.size) (fun hh => (hG i hh).elim hn (fun h' => by omega))).trans (h.block i hi hn)⟩
theorem InP.below {S : World} {D : List Nat} (h : InP L g F0 w0 y v3 v4 v5 v6 wr) (hB : But D S w0) (hF : ∀ i ∈ F0, i ∈ D ∨ S.heap.size ≤ i) (hg : g ∈ D ∨ S.heap.size ≤ g) : But D S wr :=
 hB.thru h.but (fun i hi => (List.mem_cons.1 hi).elim (fun e => e ▸ hg) (hF i))
theorem InP.on (h : InP L g F0 w0 y v3 v4 v5 v6 wr) {w3 : World} (hb : Below wr.heap.size wr w3) : InP L g F0 w0 y v3 v4 v5 v6 w3 := by
 obtain ⟨F, hF, hs⟩ := h.ex
 exact ⟨⟨F, hF.move (fun k hk => hb.block k (hF.lt k hk)), hs⟩, h.but.trans (But.of_below hb), h.lt0, Nat.le_trans h.ls hb.size, h.g0, h.lw⟩
theorem InP.step (h : InP L g F0 w0 y v3 v4 v5 v6 wr) {F G : List Nat} (hFs : ∀ i ∈ F, i ∈ F0 ∨ L ≤ i) {w5 : World} {y' : CoreT} {u3 u4 u5 u6 : Value} {F' : List Nat} (ho : Own7 w5 y' u3 u4 u5 u6 F') (hs : ∀ i ∈ F', i ∈ F ∨ wr.heap.size ≤ i) (hb : But G wr w5) (hG : ∀ i ∈ G, i ∈ F ∨ i = g) : InP L g F0 w0 y' u3 u4 u5 u6 w5 := by
 refine ⟨⟨F', ho, fun i hi => (hs i hi).elim (hFs i) (fun h' => .inr (Nat.le_trans h.ls h'))⟩, ⟨hb.os.trans h.but.os, hb.tape.trans h.but.tape, hb.output.trans h.but.output, Nat.le_trans h.but.size hb.size, fun i hi hn => ?_⟩, h.lt0, Nat.le_trans h.ls hb.size, h.g0, h.lw⟩
 rw [hb.block i (Nat.lt_of_lt_of_le hi h.but.size) (fun hg => ?_), h.but.block i hi hn]
 rcases hG i hg with h1 | h1
 ·exact (hFs i h1).elim (fun h2 => hn (by simp [h2])) (fun h2 => by have := h.lw; omega)
 ·exact hn (by simp [h1])
theorem InP.far (h : InP L g F0 w0 y v3 v4 v5 v6 wr) {i : Nat} (hi : i ∈ F0 ∨ L ≤ i) : g ≠ i := fun e => hi.elim (fun h1 => h.g0.1 (e ▸ h1)) (fun h1 => by have := h.g0.2; have := h.lw; omega)
theorem InP.form (h : InP L g F0 w0 y v3 v4 v5 v6 wr) : ∃ A3 c3 A4 c4 A5 c5 A6 c6, v3 = .slice A3 y.limbs.length c3 ∧ v4 = .slice A4 y.names.length c4 ∧ v5 = .slice A5 y.kids.length c5 ∧ v6 = .slice A6 y.alts.length c6 ∧ y.names.length ≤ c4 ∧ Kd.string.C wr A4 y.names.length y.names ∧ IC.K wr y (Qb y A3 c3 A4 c4 A5 c5 A6 c6) := by
 obtain ⟨F, hF, _⟩ := h.ex
 exact hF.form
theorem InP.at (h : InP L g F0 w0 y v3 v4 v5 v6 wr) {off : Nat} {e : TypeId} {pre post : List Value} (hb : Blk wr g e (pre ++ (c7 y v3 v4 v5 v6 ++ post))) (hp : pre.length = off) : At wr y ⟨g, off, none⟩ := by
 obtain ⟨A3, c3, A4, c4, A5, c5, A6, c6, rfl, rfl, rfl, rfl, -, -, hK⟩ := h.form
 obtain ⟨g0, g1, g2, g3, g4, g5, g6⟩ := Blk.seven hb hp
 exact ⟨A3, c3, A4, c4, A5, c5, A6, c6, hK, g0, g1, g2, g3, g4, g5, g6⟩
theorem InP.kid (h : InP L g F0 w0 y v3 v4 v5 v6 wr) {k m : Nat} {c : CoreT} {l : List CoreT} (hl0 : y.kids = l) (hm : l.length = m) (hk : k < m) (hc : ∀ h : k < l.length, l[k] = c) :
  ∃ g5 cap c1 u3 u4 u5 u6 post Gx, v5 = .slice (some ⟨g5, 0, none⟩) m cap ∧ m ≤ cap ∧ c1.length = k * 7 ∧ Blk wr g5 35 (c1 ++ (c7 c u3 u4 u5 u6 ++ post)) ∧ Own7 wr c u3 u4 u5 u6 Gx ∧ (∀ i ∈ Gx, i ∈ F0 ∨ L ≤ i) ∧ g5 ∉ Gx ∧ (g5 ∈ F0 ∨ L ≤ g5) ∧
   ∀ z cx' Gx' w5, Ke 35 76 w5 z cx' Gx' → Gx'.Nodup → (∀ i ∈ Gx', i ∈ Gx ∨ wr.heap.size ≤ i) → But (g5 :: Gx) wr w5 → Blk w5 g5 35 (c1 ++ (cx' ++ post)) →
    InP L g F0 w0 { y with kids := l.set k z } v3 v4 v5 v6 w5 ∧ ∀ e cs, Blk wr g e cs → Blk w5 g e cs := by
 subst hl0; subst hm
 obtain rfl := hc hk
 obtain ⟨F, hF, hs⟩ := h.ex
 obtain ⟨g5, cap, c1, cx, post, Gx, e, hcp, hl, hb, ho, hn, hsub, hgF, hgx, hcl⟩ := hF.kid hk
 obtain ⟨u3, u4, u5, u6, rfl, hO⟩ := Own7.of ho hn
 refine ⟨g5, cap, c1, u3, u4, u5, u6, post, Gx, e, hcp, hl, hb, hO, fun i hi => hs i (hsub i hi), hgx, hs g5 hgF, fun z cx' Gx' w5 hz hn' hs' hbt hb5 => ?_⟩
 obtain ⟨F', ho', hs''⟩ := hcl z cx' Gx' w5 hz hn' hs' hb5 (fun i hi h1 h2 => hbt.block i (hF.lt i hi) (fun hh => (List.mem_cons.1 hh).elim h1 h2))
 refine ⟨h.step hs ho' hs'' hbt (fun i hi => .inl ((List.mem_cons.1 hi).elim (fun e => e ▸ hgF) (hsub i))), fun e cs hbg => hbt.blk hbg (fun hh => ?_)⟩
 rcases List.mem_cons.1 hh with hh | hh
 ·exact h.far (hs g5 hgF) hh
 ·exact h.far (hs g (hsub g hh)) rfl
theorem InP.nam (h : InP L g F0 w0 y v3 v4 v5 v6 wr) {k : Nat} (hk : k < y.names.length) :
  ∃ g4 cap c1 post, v4 = .slice (some ⟨g4, 0, none⟩) y.names.length cap ∧ y.names.length ≤ cap ∧ c1.length = k ∧ Blk wr g4 9 (c1 ++ ([.string y.names[k]] ++ post)) ∧ (g4 ∈ F0 ∨ L ≤ g4) ∧
   ∀ t w5, wr.grownBy w5 (some g4) → Blk w5 g4 9 (c1 ++ ([.string t] ++ post)) → InP L g F0 w0 { y with names := y.names.set k t } v3 v4 v5 v6 w5 ∧ ∀ e cs, Blk wr g e cs → Blk w5 g e cs := by
 obtain ⟨F, hF, hs⟩ := h.ex
 obtain ⟨g4, cap, c1, post, e, hc, hl, hb, hgF, hcl⟩ := hF.nam hk
 refine ⟨g4, cap, c1, post, e, hc, hl, hb, hs g4 hgF, fun t w5 h5 hb5 => ⟨?_, fun e cs hbg => hbg.grownO h5 (fun e => h.far (hs g4 hgF) (by injection e))⟩⟩
 exact h.step hs (hcl t w5 hb5 (fun i hi hne => h5.block i (hF.lt i hi) (fun e => hne (by injection e)))) (fun i hi => .inl hi) (But.of_grown h5) (fun i hi => by rw [List.mem_singleton.1 hi]; exact .inl hgF)
theorem InP.alt (h : InP L g F0 w0 y v3 v4 v5 v6 wr) {k m : Nat} {a : AltT} {l : List AltT} (hl0 : y.alts = l) (hm : l.length = m) (hk : k < m) (ha : ∀ h : k < l.length, l[k] = a) :
  ∃ g6 cap c1 A1 cc u3 u4 u5 u6 post Gx, v6 = .slice (some ⟨g6, 0, none⟩) m cap ∧ m ≤ cap ∧ c1.length = k * 9 ∧ Blk wr g6 76 ((c1 ++ [.string a.con, .slice A1 a.names.length cc]) ++ (c7 a.body u3 u4 u5 u6 ++ post)) ∧
   a.names.length ≤ cc ∧ Kd.string.C wr A1 a.names.length a.names ∧ (g6 ∈ F0 ∨ L ≤ g6) ∧ Own7 wr a.body u3 u4 u5 u6 Gx ∧ (∀ i ∈ Gx, i ∈ F0 ∨ L ≤ i) ∧ g6 ∉ Gx ∧
   (∀ z cx' Gx' w5, Ke 35 76 w5 z cx' Gx' → Gx'.Nodup → (∀ i ∈ Gx', i ∈ Gx ∨ wr.heap.size ≤ i) → But (g6 :: Gx) wr w5 → Blk w5 g6 76 ((c1 ++ [.string a.con, .slice A1 a.names.length cc]) ++ (cx' ++ post)) →
     InP L g F0 w0 { y with alts := l.set k { a with body := z } } v3 v4 v5 v6 w5 ∧ ∀ e cs, Blk wr g e cs → Blk w5 g e cs) ∧
   (∀ i (hi : i < a.names.length), ∃ g1 d1 dp, A1 = some ⟨g1, 0, none⟩ ∧ d1.length = i ∧ Blk wr g1 9 (d1 ++ ([.string a.names[i]] ++ dp)) ∧
    ∀ t w5, wr.grownBy w5 (some g1) → Blk w5 g1 9 (d1 ++ ([.string t] ++ dp)) → InP L g F0 w0 { y with alts := l.set k { a with names := a.names.set i t } } v3 v4 v5 v6 w5 ∧ ∀ e cs, Blk wr g e cs → Blk w5 g e cs) := by
 subst hl0; subst hm
 obtain rfl := ha hk
 obtain ⟨F, hF, hs⟩ := h.ex
 obtain ⟨g6, cap, c1, cx, post, Gx, hv, hcap, hl, hb, hox, hnx, hsx, hgF, hgx, hcl⟩ := hF.alt hk
 have hltx := qgl _ _ _ hox
 rw [Xw] at hox
 obtain ⟨v1, cb, F1, Gb, rfl, rfl, hr1, hob⟩ := hox
 obtain ⟨A1, cc, rfl, hcc, hC⟩ := hr1.readsS
 have hnd := List.nodup_append.1 hnx
 obtain ⟨u3, u4, u5, u6, rfl, hO⟩ := Own7.of hob hnd.2.1
 have hF1 : ∀ i ∈ F1, i < wr.heap.size := fun i hi => hltx i (by simp [hi])
 have hF1g : ∀ i ∈ F1, i ≠ g6 := fun i hi e => hgx (by rw [← e]; simp [hi])
 refine ⟨g6, cap, c1, A1, cc, u3, u4, u5, u6, post, Gb, hv, hcap, hl, by simpa [List.append_assoc] using hb, hcc, hC, hs g6 hgF, hO, fun i hi => hs i (hsx i (by simp [hi])), fun hh => hgx (by simp [hh]), fun z cx' Gx' w5 hz hn' hs' hbt hb5 => ?_, fun i hi => ?_⟩
 ·have hk1 : ∀ i ∈ F1, w5.heap[i]? = wr.heap[i]? := fun i hi => hbt.block i (hF1 i hi) (fun hh => (List.mem_cons.1 hh).elim (hF1g i hi) (fun hh => hnd.2.2 i hi i hh rfl))
  obtain ⟨F', ho', hs''⟩ := hcl { y.alts[k] with body := z } (.string y.alts[k].con :: .slice A1 y.alts[k].names.length cc :: cx') (F1 ++ Gx') w5 (by rw [Xw]; exact ⟨_, _, F1, Gx', rfl, rfl, hr1.move hk1, hz⟩)
   (List.nodup_append.2 ⟨hnd.1, hn', fun a ha b hb' e => (hs' b hb').elim (fun hh => hnd.2.2 a ha b hh e) (fun hh => by have := hF1 a ha; omega)⟩)
   (fun i hi => (List.mem_append.1 hi).elim (fun hh => .inl (by simp [hh])) (fun hh => (hs' i hh).imp (fun h => by simp [h]) id)) (by simpa [List.append_assoc] using hb5)
   (fun i hi h1 h2 => hbt.block i (hF.lt i hi) (fun hh => (List.mem_cons.1 hh).elim h1 (fun hh => h2 (by simp [hh]))))
  refine ⟨h.step hs ho' hs'' hbt (fun i hi => .inl ((List.mem_cons.1 hi).elim (fun e => e ▸ hgF) (fun hh => hsx i (by simp [hh])))), fun e cs hbg => hbt.blk hbg (fun hh => ?_)⟩
  rcases List.mem_cons.1 hh with hh | hh
  ·exact h.far (hs g6 hgF) hh
  ·exact h.far (hs g (hsx g (by simp [hh]))) rfl
 ·have hr1' := hr1
  rcases hr1' with ⟨_, h0, _, _⟩ | ⟨g1, cap1, spare, he, hcap1, hcap2, hb1, rfl⟩
  ·omega
  simp only [Value.slice.injEq] at he
  obtain ⟨rfl, -, rfl⟩ := he
  have hsp : ∀ l : List ByteArray, i < l.length → ∀ t, Xa (l.set i t) = Xa (l.take i) ++ ([.string t] ++ Xa (l.drop (i + 1))) := fun l hl t => by
   rw [List.set_eq_take_append_cons_drop, if_pos hl]; simp [Xa]
  have hsp0 : Xa y.alts[k].names = Xa (y.alts[k].names.take i) ++ ([.string y.alts[k].names[i]] ++ Xa (y.alts[k].names.drop (i + 1))) := by
   have := hsp y.alts[k].names hi y.alts[k].names[i]
   rwa [List.set_getElem_self] at this
  have hg1 : g1 ≠ g6 := hF1g g1 (by simp)
  have hg1b : g1 ∉ Gb := fun hh => hnd.2.2 g1 (by simp) g1 hh rfl
  have hg1F := hsx g1 (by simp)
  refine ⟨g1, Xa (y.alts[k].names.take i), Xa (y.alts[k].names.drop (i + 1)) ++ spare, rfl, by simp [Xa]; omega, by rw [hsp0] at hb1; simpa [List.append_assoc] using hb1, fun t w5 h5 hb5 => ?_⟩
  obtain ⟨F', ho', hs''⟩ := hcl { y.alts[k] with names := y.alts[k].names.set i t } (.string y.alts[k].con :: .slice (some ⟨g1, 0, none⟩) y.alts[k].names.length cc :: c7 y.alts[k].body u3 u4 u5 u6) ([g1] ++ Gb) w5
   (by rw [Xw]; exact ⟨_, _, [g1], Gb, rfl, rfl, .inr ⟨g1, cc, spare, by simp, by simpa using hcap1, hcap2, by simp only; rw [hsp _ hi]; simpa [List.append_assoc] using hb5, rfl⟩, Xv hob h5 (fun i hi e => hg1b (e ▸ hi))⟩)
   hnx (fun i hi => .inl hi) (by have := hb.grownO h5 (fun e => hg1 (by injection e with e; exact e.symm)); simpa [List.append_assoc] using this)
   (fun i hi h1 h2 => h5.block i (hF.lt i hi) (fun e => h2 (by injection e with e; simp [← e])))
  exact ⟨h.step hs ho' hs'' (But.of_grown h5) (fun i hi => by rw [List.mem_singleton.1 hi]; exact .inl hg1F), fun e cs hbg => hbg.grownO h5 (fun e => h.far (hs g1 hg1F) (by injection e))⟩
end
end Go.Proofs.YtnoammmohdmnjaaGreat.C13
