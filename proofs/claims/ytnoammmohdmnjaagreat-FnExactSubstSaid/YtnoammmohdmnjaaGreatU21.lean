import Derived.Test.YtnoammmohdmnjaaGreatU18
set_option maxRecDepth 100000
set_option maxHeartbeats 16000000
set_option linter.unusedVariables false
set_option linter.unusedSimpArgs false
namespace Go.Proofs.YtnoammmohdmnjaaGreat.C13
open Go.RowKit Go.Proofs.YtnoammmohdmnjaaGreatW.PrintWords
open List renaming setIfInBounds_toArray → Jla, set_cons_zero → Jlb, set_cons_succ → Jlc
section
variable {e ea : TypeId} {w : World}
theorem qgn : ∀ (l : List CoreT) (cells : List Value) (G : List Nat) (k : Nat) (hk : k < l.length), Ju e ea w l cells G →
  ∃ c1 cx c2 G1 Gx G2, cells = c1 ++ (cx ++ c2) ∧ G = G1 ++ (Gx ++ G2) ∧ c1.length = k * 7 ∧ Ke e ea w l[k] cx Gx ∧
   ∀ w' y cx', Ke e ea w' y cx' Gx → (∀ i ∈ G1 ++ G2, w'.heap[i]? = w.heap[i]?) → Ju e ea w' (l.set k y) (c1 ++ (cx' ++ c2)) G
 | [], _, _, k, hk, _ => by cases hk
 | c :: r, cells, G, k, hk, h => by
  rw [Ju] at h
  obtain ⟨d1, d2, F1, F2, rfl, rfl, hc, hr⟩ := h
  cases k with
  | zero =>
   refine ⟨[], d1, d2, [], F1, F2, rfl, rfl, rfl, hc, fun w' y cx' hy hm => ?_⟩
   rw [List.set_cons_zero, Ju]
   exact ⟨cx', d2, F1, F2, rfl, rfl, hy, Zs hr (fun i hi => hm i (by simpa using hi))⟩
  | succ k =>
   obtain ⟨c1, cx, c2, G1, Gx, G2, rfl, rfl, hl, hx, hcl⟩ := qgn r d2 F2 k (by simpa using hk) hr
   refine ⟨d1 ++ c1, cx, c2, F1 ++ G1, Gx, G2, by simp, by simp, ?_, hx, fun w' y cx' hy hm => ?_⟩
   ·rw [List.length_append, hl, qgp hc]; omega
   ·rw [List.set_cons_succ, Ju]
    exact ⟨d1, c1 ++ (cx' ++ c2), F1, G1 ++ (Gx ++ G2), by simp, rfl, Jy _ _ _ hc (fun i hi => hm i (by simp [hi])), hcl w' y cx' hy (fun i hi => hm i (by rcases List.mem_append.1 hi with h | h <;> simp [h]))⟩
theorem qgm : ∀ (l : List AltT) (cells : List Value) (G : List Nat) (k : Nat) (hk : k < l.length), Jt e ea w l cells G →
  ∃ c1 v1 cb c2 G1 F1 Gb G2, cells = c1 ++ ((.string l[k].con :: v1 :: cb) ++ c2) ∧ G = G1 ++ ((F1 ++ Gb) ++ G2) ∧ c1.length = k * 9 ∧ Row w 9 v1 l[k].names.length (Xa l[k].names) F1 ∧ Ke e ea w l[k].body cb Gb ∧
   ∀ w' y cb', Ke e ea w' y cb' Gb → (∀ i ∈ G1 ++ (F1 ++ G2), w'.heap[i]? = w.heap[i]?) → Jt e ea w' (l.set k { l[k] with body := y }) (c1 ++ ((.string l[k].con :: v1 :: cb') ++ c2)) G
 | [], _, _, k, hk, _ => by cases hk
 | c :: r, cells, G, k, hk, h => by
  rw [Jt] at h
  obtain ⟨d1, d2, F1, F2, rfl, rfl, hc, hr⟩ := h
  cases k with
  | zero =>
   have hc' := hc
   rw [Xw] at hc
   obtain ⟨v1, cb, H1, H2, rfl, rfl, hrow, hb⟩ := hc
   refine ⟨[], v1, cb, d2, [], H1, H2, F2, rfl, rfl, rfl, hrow, hb, fun w' y cx' hy hm => ?_⟩
   rw [List.set_cons_zero, Jt]
   refine ⟨_, d2, H1 ++ H2, F2, rfl, rfl, ?_, Jd hr (fun i hi => hm i (by simp [hi]))⟩
   rw [Xw]
   exact ⟨v1, cx', H1, H2, rfl, rfl, hrow.move (fun i hi => hm i (by simp [hi])), hy⟩
  | succ k =>
   obtain ⟨c1, v1, cb, c2, G1, H1, Gb, G2, rfl, rfl, hl, hrow, hx, hcl⟩ := qgm r d2 F2 k (by simpa using hk) hr
   refine ⟨d1 ++ c1, v1, cb, c2, F1 ++ G1, H1, Gb, G2, by simp, by simp, ?_, hrow, hx, fun w' y cx' hy hm => ?_⟩
   ·rw [List.length_append, hl, qfd hc]; omega
   ·rw [List.set_cons_succ, Jt]
    refine ⟨d1, _, F1, G1 ++ ((H1 ++ Gb) ++ G2), ?_, rfl, qam _ _ _ hc (fun i hi => hm i (by simp [hi])), hcl w' y cx' hy (fun i hi => hm i (by simp only [List.mem_append] at hi ⊢; rcases hi with h | h | h <;> simp [h]))⟩
    simp
end
def mix {α : Type} (A B : List α) (k : Nat) : List α := A.take k ++ B.drop k
section
variable {α : Type} {A B : List α}
theorem Jc : mix A B 0 = B := by simp [mix]
theorem Xj (hl : A.length = B.length) : mix A B B.length = A := by simp [mix, ← hl]
theorem Zg (hl : A.length = B.length) (k : Nat) : (mix A B k).length = B.length := by simp [mix]; omega
theorem Xf (hl : A.length = B.length) {k : Nat} (hk : k < B.length) : (mix A B k)[k]'(by rw [Zg hl]; exact hk) = B[k] := by
 unfold mix
 rw [List.getElem_append_right (by simp; omega)]
 simp [Nat.min_eq_left (show k ≤ A.length by omega)]
theorem qor (hl : A.length = B.length) {k : Nat} (hk : k < B.length) : (mix A B (k + 1))[k]'(by rw [Zg hl]; exact hk) = A[k]'(by omega) := by
 simp only [mix]
 rw [List.getElem_append_left (by simp; omega)]
 simp
theorem Ki (hl : A.length = B.length) {k : Nat} (hk : k < B.length) {y : α} (hy : y = A[k]'(by omega)) : (mix A B k).set k y = mix A B (k + 1) := by
 subst hy
 apply List.ext_getElem?
 intro i
 have hlen := Zg hl k
 rw [List.getElem?_set, hlen]
 unfold mix
 rcases Nat.lt_trichotomy i k with h | h | h
 ·rw [if_neg (by omega), List.getElem?_append_left (by simp; omega), List.getElem?_append_left (by simp; omega), List.getElem?_take_of_lt h, List.getElem?_take_of_lt (by omega)]
 ·subst h
  rw [if_pos rfl, if_pos hk, List.getElem?_append_left (by simp; omega), List.getElem?_take_of_lt (by omega), List.getElem?_eq_getElem]
 ·rw [if_neg (by omega), List.getElem?_append_right (by simp; omega), List.getElem?_append_right (by simp; omega), List.getElem?_drop, List.getElem?_drop]
  simp only [List.length_take]
  congr 1
  omega
theorem Vq (hl : A.length = B.length) {k : Nat} (hk : k < B.length) (hy : A[k]'(by omega) = B[k]) : mix A B k = mix A B (k + 1) := by
 have := Ki hl hk (y := B[k]) hy.symm
 rw [← this, ← Xf hl hk, List.set_getElem_self]
end
structure RnX (x : CoreT) (v3 v4 v5 v6 : Value) (F3 F4 F5 F6 G5 G6 : List Nat) (n m : Nat) (ks : List CoreT) (ls : List AltT) (w : World) : Prop where
 r3 : Row w 106 v3 x.limbs.length (Gz .u32 x.limbs) F3
 r4 : Row w 9 v4 x.names.length (Xa x.names) F4
 r5 : ∃ c5, Row w 35 v5 n c5 F5 ∧ Ju 35 76 w ks c5 G5
 r6 : ∃ c6, Row w 76 v6 m c6 F6 ∧ Jt 35 76 w ls c6 G6
 kl : ks.length = n
 al : ls.length = m
 nd : (F3 ++ (F4 ++ ((F5 ++ G5) ++ (F6 ++ G6)))).Nodup
section
variable {x : CoreT} {v3 v4 v5 v6 : Value} {F3 F4 F5 F6 G5 G6 : List Nat} {n m : Nat} {ks : List CoreT} {ls : List AltT} {w : World}
theorem RnX.open {cs : List Value} {F : List Nat} (hO : Ke 35 76 w x cs F) (hnd : F.Nodup) : ∃ v3 v4 v5 v6 F3 F4 F5 F6 G5 G6, cs = [.int .i64 x.kind, .string x.name, .bool x.minus, v3, v4, v5, v6] ∧ F = F3 ++ (F4 ++ ((F5 ++ G5) ++ (F6 ++ G6))) ∧ RnX x v3 v4 v5 v6 F3 F4 F5 F6 G5 G6 x.kids.length x.alts.length x.kids x.alts w := by
 rw [Xi] at hO
 obtain ⟨v3, v4, v5, v6, F3, F4, F5, F6, G5, G6, c5, c6, rfl, rfl, h3, h4, ⟨h5, k5⟩, ⟨h6, k6⟩⟩ := hO
 exact ⟨v3, v4, v5, v6, F3, F4, F5, F6, G5, G6, rfl, rfl, h3, h4, ⟨c5, h5, k5⟩, ⟨c6, h6, k6⟩, rfl, rfl, hnd⟩
theorem RnX.own (h : RnX x v3 v4 v5 v6 F3 F4 F5 F6 G5 G6 n m ks ls w) (k : Int) (nm : ByteArray) (mi : Bool) :
  Ke 35 76 w ⟨k, nm, mi, x.limbs, x.names, ks, ls⟩ [.int .i64 k, .string nm, .bool mi, v3, v4, v5, v6] (F3 ++ (F4 ++ ((F5 ++ G5) ++ (F6 ++ G6)))) := by
 obtain ⟨c5, h5, k5⟩ := h.r5
 obtain ⟨c6, h6, k6⟩ := h.r6
 rw [Xi]
 exact ⟨v3, v4, v5, v6, F3, F4, F5, F6, G5, G6, c5, c6, rfl, rfl, h.r3, h.r4, ⟨by simp only; rw [h.kl]; exact h5, k5⟩, ⟨by simp only; rw [h.al]; exact h6, k6⟩⟩
theorem RnX.lt (h : RnX x v3 v4 v5 v6 F3 F4 F5 F6 G5 G6 n m ks ls w) : ∀ k ∈ F3 ++ (F4 ++ ((F5 ++ G5) ++ (F6 ++ G6))), k < w.heap.size := Je _ _ _ (h.own 0 ⟨#[]⟩ false)
theorem RnX.move {w' : World} (h : RnX x v3 v4 v5 v6 F3 F4 F5 F6 G5 G6 n m ks ls w) (hm : ∀ k ∈ F3 ++ (F4 ++ ((F5 ++ G5) ++ (F6 ++ G6))), w'.heap[k]? = w.heap[k]?) : RnX x v3 v4 v5 v6 F3 F4 F5 F6 G5 G6 n m ks ls w' := by
 obtain ⟨c5, h5, k5⟩ := h.r5
 obtain ⟨c6, h6, k6⟩ := h.r6
 exact ⟨h.r3.move (fun k hk => hm k (by simp [hk])), h.r4.move (fun k hk => hm k (by simp [hk])), ⟨c5, h5.move (fun k hk => hm k (by simp [hk])), Zs k5 (fun k hk => hm k (by simp [hk]))⟩,
  ⟨c6, h6.move (fun k hk => hm k (by simp [hk])), Jd k6 (fun k hk => hm k (by simp [hk]))⟩, h.kl, h.al, h.nd⟩
theorem f77 {p : Prop} (h : p := by
 rw [List.perm_iff_count]; intro a; simp only [List.count_append, List.count_cons, List.count_nil]; omega) : p := h
theorem RnX.kid (h : RnX x v3 v4 v5 v6 F3 F4 F5 F6 G5 G6 n m ks ls w) {k : Nat} (hk : k < ks.length) :
  ∃ g cap c1 cx post Gx, v5 = .slice (some ⟨g, 0, none⟩) n cap ∧ n ≤ cap ∧ c1.length = k * 7 ∧ Blk w g 35 (c1 ++ (cx ++ post)) ∧ Ke 35 76 w ks[k] cx Gx ∧ Gx.Nodup ∧
   (∀ i ∈ Gx, i ∈ F3 ++ (F4 ++ ((F5 ++ G5) ++ (F6 ++ G6)))) ∧ g ∈ F3 ++ (F4 ++ ((F5 ++ G5) ++ (F6 ++ G6))) ∧ g ∉ Gx ∧
   ∀ y cx' w', Ke 35 76 w' y cx' Gx → Blk w' g 35 (c1 ++ (cx' ++ post)) → (∀ i ∈ F3 ++ (F4 ++ ((F5 ++ G5) ++ (F6 ++ G6))), i ≠ g → i ∉ Gx → w'.heap[i]? = w.heap[i]?) →
    RnX x v3 v4 v5 v6 F3 F4 F5 F6 G5 G6 n m (ks.set k y) ls w' := by
 obtain ⟨c5, h5, k5⟩ := h.r5
 obtain ⟨c6, h6, k6⟩ := h.r6
 have hkl := h.kl
 rcases h5 with ⟨_, h0, _, _⟩ | ⟨g, cap, spare, rfl, hcap, hcap2, hb, rfl⟩
 ·omega
 obtain ⟨c1, cx, c2, G1, Gx, G2, rfl, rfl, hl, hx, hcl⟩ := qgn ks _ _ k hk k5
 have hnd := h.nd
 have hperm : (F3 ++ (F4 ++ (([g] ++ (G1 ++ (Gx ++ G2))) ++ (F6 ++ G6)))).Perm (g :: (Gx ++ (F3 ++ (F4 ++ (G1 ++ (G2 ++ (F6 ++ G6))))))) := by
  exact f77
 rw [hperm.nodup_iff, List.nodup_cons, List.nodup_append] at hnd
 obtain ⟨hg, hGx, hR, hdis⟩ := hnd
 have hgx : g ∉ Gx := fun hh => hg (List.mem_append_left _ hh)
 refine ⟨g, cap, c1, cx, c2 ++ spare, Gx, rfl, hcap, hl, by simpa [List.append_assoc] using hb, hx, hGx, fun i hi => by simp [hi], by simp, hgx, fun y cx' w' hy hb' hm => ?_⟩
 have key : ∀ i ∈ F3 ++ (F4 ++ (G1 ++ (G2 ++ (F6 ++ G6)))), w'.heap[i]? = w.heap[i]? := fun i hi => hm i (hperm.mem_iff.2 (List.mem_cons_of_mem _ (List.mem_append_right _ hi))) (fun e => hg (List.mem_append_right _ (e ▸ hi))) (fun hx' => hdis i hx' i hi rfl)
 refine ⟨h.r3.move (fun i hi => key i (by simp [hi])), h.r4.move (fun i hi => key i (by simp [hi])), ⟨c1 ++ (cx' ++ c2), .inr ⟨g, cap, spare, rfl, hcap, hcap2, by simpa [List.append_assoc] using hb', rfl⟩, hcl w' y cx' hy (fun i hi => key i (by simp only [List.mem_append] at hi ⊢; rcases hi with hi | hi <;> simp [hi]))⟩,
  ⟨c6, h6.move (fun i hi => key i (by simp [hi])), Jd k6 (fun i hi => key i (by simp [hi]))⟩, by simpa using hkl, h.al, h.nd⟩
theorem RnX.alt (h : RnX x v3 v4 v5 v6 F3 F4 F5 F6 G5 G6 n m ks ls w) {k : Nat} (hk : k < ls.length) :
  ∃ g cap c1 v1 cx post Gx, v6 = .slice (some ⟨g, 0, none⟩) m cap ∧ m ≤ cap ∧ c1.length = k * 9 ∧ Blk w g 76 ((c1 ++ [.string ls[k].con, v1]) ++ (cx ++ post)) ∧ (∃ F1, Row w 9 v1 ls[k].names.length (Xa ls[k].names) F1 ∧ (∀ i ∈ F1, i ∉ Gx ∧ i ≠ g ∧ i ∈ F3 ++ (F4 ++ ((F5 ++ G5) ++ (F6 ++ G6))))) ∧ Ke 35 76 w ls[k].body cx Gx ∧ Gx.Nodup ∧
   (∀ i ∈ Gx, i ∈ F3 ++ (F4 ++ ((F5 ++ G5) ++ (F6 ++ G6)))) ∧ g ∈ F3 ++ (F4 ++ ((F5 ++ G5) ++ (F6 ++ G6))) ∧ g ∉ Gx ∧
   ∀ y cx' w', Ke 35 76 w' y cx' Gx → Blk w' g 76 ((c1 ++ [.string ls[k].con, v1]) ++ (cx' ++ post)) → (∀ i ∈ F3 ++ (F4 ++ ((F5 ++ G5) ++ (F6 ++ G6))), i ≠ g → i ∉ Gx → w'.heap[i]? = w.heap[i]?) →
    RnX x v3 v4 v5 v6 F3 F4 F5 F6 G5 G6 n m ks (ls.set k { ls[k] with body := y }) w' := by
 obtain ⟨c5, h5, k5⟩ := h.r5
 obtain ⟨c6, h6, k6⟩ := h.r6
 have hal := h.al
 rcases h6 with ⟨_, h0, _, _⟩ | ⟨g, cap, spare, rfl, hcap, hcap2, hb, rfl⟩
 ·omega
 obtain ⟨c1, v1, cx, c2, G1, F1, Gx, G2, rfl, rfl, hl, hrow, hx, hcl⟩ := qgm ls _ _ k hk k6
 have hnd := h.nd
 have hperm : (F3 ++ (F4 ++ ((F5 ++ G5) ++ ([g] ++ (G1 ++ ((F1 ++ Gx) ++ G2)))))).Perm (g :: (Gx ++ (F3 ++ (F4 ++ (F5 ++ (G5 ++ (G1 ++ (F1 ++ G2)))))))) := by
  exact f77
 rw [hperm.nodup_iff, List.nodup_cons, List.nodup_append] at hnd
 obtain ⟨hg, hGx, hR, hdis⟩ := hnd
 have hgx : g ∉ Gx := fun hh => hg (List.mem_append_left _ hh)
 refine ⟨g, cap, c1, v1, cx, c2 ++ spare, Gx, rfl, hcap, hl, by simpa [List.append_assoc] using hb, ⟨F1, hrow, fun i hi => ⟨fun hx' => hdis i hx' i (by simp [hi]) rfl, fun e => hg (List.mem_append_right _ (by rw [← e]; simp [hi])), by simp [hi]⟩⟩, hx, hGx, fun i hi => by simp [hi], by simp, hgx, fun y cx' w' hy hb' hm => ?_⟩
 have key : ∀ i ∈ F3 ++ (F4 ++ (F5 ++ (G5 ++ (G1 ++ (F1 ++ G2))))), w'.heap[i]? = w.heap[i]? := fun i hi => hm i (hperm.mem_iff.2 (List.mem_cons_of_mem _ (List.mem_append_right _ hi))) (fun e => hg (List.mem_append_right _ (e ▸ hi))) (fun hx' => hdis i hx' i hi rfl)
 refine ⟨h.r3.move (fun i hi => key i (by simp [hi])), h.r4.move (fun i hi => key i (by simp [hi])), ⟨c5, h5.move (fun i hi => key i (by simp [hi])), Zs k5 (fun i hi => key i (by simp [hi]))⟩,
  ⟨c1 ++ ((.string ls[k].con :: v1 :: cx') ++ c2), .inr ⟨g, cap, spare, rfl, hcap, hcap2, by simpa [List.append_assoc] using hb', rfl⟩, hcl w' y cx' hy (fun i hi => key i (by simp only [List.mem_append] at hi ⊢; rcases hi with hi | hi | hi <;> simp [hi]))⟩, h.kl, by simpa using hal, h.nd⟩
end
theorem Blk.seven {w : World} {g : Nat} {e : TypeId} {pre post : List Value} {a0 a1 a2 a3 a4 a5 a6 : Value} (h : Blk w g e (pre ++ ([a0, a1, a2, a3, a4, a5, a6] ++ post))) {o : Nat} (ho : pre.length = o) :
  w.cell? ⟨g, o, none⟩ = some a0 ∧ w.cell? ⟨g, o + 1, none⟩ = some a1 ∧ w.cell? ⟨g, o + 2, none⟩ = some a2 ∧ w.cell? ⟨g, o + 3, none⟩ = some a3 ∧ w.cell? ⟨g, o + 4, none⟩ = some a4 ∧ w.cell? ⟨g, o + 5, none⟩ = some a5 ∧ w.cell? ⟨g, o + 6, none⟩ = some a6 := by
 subst ho
 refine ⟨h.cell ?_, h.cell ?_, h.cell ?_, h.cell ?_, h.cell ?_, h.cell ?_, h.cell ?_⟩
 all_goals
  rw [List.getElem?_append_right (by omega)]
  first
   | rw [show pre.length - pre.length = 0 by omega]; rfl
   | rw [show pre.length + 1 - pre.length = 1 by omega]; rfl
   | rw [show pre.length + 2 - pre.length = 2 by omega]; rfl
   | rw [show pre.length + 3 - pre.length = 3 by omega]; rfl
   | rw [show pre.length + 4 - pre.length = 4 by omega]; rfl
   | rw [show pre.length + 5 - pre.length = 5 by omega]; rfl
   | rw [show pre.length + 6 - pre.length = 6 by omega]; rfl
theorem Qp {w w' : World} {a : Addr} {v : Value} (hb : w'.heap[a.block]? = w.heap[a.block]?) (h : w.cell? a = some v) : w'.cell? a = some v := (World.cell?_of_block hb).trans h
end Go.Proofs.YtnoammmohdmnjaaGreat.C13
