import Derived.Test.YtnoammmohdmnjaaGreatU45
set_option maxRecDepth 100000
set_option maxHeartbeats 16000000
set_option linter.unusedVariables false
set_option linter.unusedSimpArgs false
namespace Go.Proofs.YtnoammmohdmnjaaGreat.C13
open Go.RowKit Go.Proofs.YtnoammmohdmnjaaGreatW.PrintWords
open List renaming setIfInBounds_toArray → Jla, set_cons_zero → Jlb, set_cons_succ → Jlc
theorem qok (x : CoreT) : qoj x = 3 + Kx x := by cases x; rw [qoj]; simp only [Kx]; omega
theorem qvu (a : AltT) : qzx a = 1 + a.names.length + qoj a.body := by cases a; rw [qzx]
theorem qnp {x : CoreT} (h : Zw x) : x.limbs.length ≤ 40 := by
 rcases h.1 with h2 | h2
 ·rcases h.2.2.2.2 with h | h | h | h | h | h | h | h | h | h
  all_goals first | (have := h.1; omega) | skip
  have h3 := h.2.2.2
  unfold Jl at h3
  by_cases h4 : x.limbs.length > 40
  ·rw [if_pos h4] at h3; cases h3
  ·omega
 ·omega
theorem qvw : ∀ x : CoreT, Shapes x → Kx x + 4 ≤ 50 * Qr x := by
 refine Za (fun x => Shapes x → Kx x + 4 ≤ 50 * Qr x) (fun x ihk iha hs => ?_)
 rw [Ve, Yv, Yu] at hs
 have hk : ∀ l : List CoreT, (∀ c ∈ l, c ∈ x.kids) → Zr l ≤ 50 * Zb l := by
  intro l
  induction l with
  | nil => intro _; simp [Zr]
  | cons c r ih =>
   intro h
   rw [Zr, Zb, qok]
   have := ih (fun d hd => h d (by simp [hd]))
   have := ihk c (h c (by simp)) (hs.2.1 c (h c (by simp)))
   omega
 have ha : ∀ l : List AltT, (∀ c ∈ l, c ∈ x.alts) → Jv l ≤ 50 * (Zp l + Qy l) := by
  intro l
  induction l with
  | nil => intro _; simp [Jv]
  | cons c r ih =>
   intro h
   rw [Jv, Qy, Zp, Xr, qvu, qok]
   have := ih (fun d hd => h d (by simp [hd]))
   have := iha c (h c (by simp)) (hs.2.2 c (h c (by simp)))
   omega
 have := hk x.kids (fun c h => h)
 have := ha x.alts (fun c h => h)
 have := qnp hs.1
 rw [Zj]
 unfold Kx
 omega
theorem qqy {nm : ByteArray} {x bt : CoreT} (hx : bulk x ≤ 1048576) : Kx (Yq nm bt x) ≤ 4194304 := by
 unfold Yq
 split
 ·rename_i h
  have := qvw _ h.2.2.2
  have := h.2.1
  omega
 ·have := qbt x; omega
def LS (w : World) (ca cb : List Value) (bs : List (Nat × List Value)) (os : List (CoreT × List Value × List Nat)) (W : World) : Prop :=
 Below w.heap.size w W ∧ (Blk W w.heap.size 29 ca ∧ Blk W (w.heap.size + 1) 29 cb) ∧ (∀ p ∈ bs, Blk W p.1 35 p.2) ∧ ∀ q ∈ os, Ke 35 76 W q.1 q.2.1 q.2.2
section
variable {w : World} {ca cb : List Value} {bs : List (Nat × List Value)} {os : List (CoreT × List Value × List Nat)} {W W' : World}
theorem LS.sz (h : LS w ca cb bs os W) : w.heap.size + 1 < W.heap.size := h.2.1.2.lt
theorem LS.but {F : List Nat} (h : LS w ca cb bs os W) (hB : But F W W') (hw : ∀ k ∈ F, w.heap.size + 1 < k) (hb : ∀ p ∈ bs, p.1 ∉ F) (ho : ∀ q ∈ os, ∀ k ∈ q.2.2, k ∉ F) : LS w ca cb bs os W' :=
 ⟨h.1.trans (hB.below (fun k hk => by have := hw k hk; omega) h.1.size), ⟨hB.blk h.2.1.1 (fun hk => by have := hw _ hk; omega), hB.blk h.2.1.2 (fun hk => by have := hw _ hk; omega)⟩, fun p hp => hB.blk (h.2.2.1 p hp) (hb p hp), fun q hq => Jy _ _ _ (h.2.2.2 q hq) (fun k hk => hB.block k (Je _ _ _ (h.2.2.2 q hq) k hk) (ho q hq k hk))⟩
theorem LS.below (h : LS w ca cb bs os W) (hB : Below W.heap.size W W') : LS w ca cb bs os W' :=
 h.but (F := []) (But.of_below hB) (by simp) (by simp) (by simp)
theorem LS.addB (h : LS w ca cb bs os W) {g : Nat} {cs : List Value} (hb : Blk W g 35 cs) : LS w ca cb ((g, cs) :: bs) os W :=
 ⟨h.1, h.2.1, fun p hp => by rcases List.mem_cons.1 hp with rfl | hp; exact hb; exact h.2.2.1 p hp, h.2.2.2⟩
theorem LS.addO (h : LS w ca cb bs os W) {x : CoreT} {cs : List Value} {F : List Nat} (ho : Ke 35 76 W x cs F) : LS w ca cb bs ((x, cs, F) :: os) W :=
 ⟨h.1, h.2.1, h.2.2.1, fun q hq => by rcases List.mem_cons.1 hq with rfl | hq; exact ho; exact h.2.2.2 q hq⟩
theorem LS.sub {bs' : List (Nat × List Value)} {os' : List (CoreT × List Value × List Nat)} (h : LS w ca cb bs os W) (hb : ∀ p ∈ bs', p ∈ bs) (ho : ∀ q ∈ os', q ∈ os) : LS w ca cb bs' os' W := ⟨h.1, h.2.1, fun p hp => h.2.2.1 p (hb p hp), fun q hq => h.2.2.2 q (ho q hq)⟩
theorem LS.box {z cs : List Value} (h : LS w ca cb bs os W) (hg : (W.alloc (.cells z.toArray 35)).grownBy W' (some W.heap.size)) (hb : Blk W' W.heap.size 35 cs) : LS w ca cb ((W.heap.size, cs) :: bs) os W' := by
 have h1 := h.below ((Below.refl _ _).alloc (Nat.le_refl _) (.cells z.toArray 35))
 exact (h1.but (But.of_grown hg) (fun k hk => by rw [List.mem_singleton.1 hk]; exact h.sz) (fun p hp hk => by have := (h.2.2.1 p hp).lt; rw [List.mem_singleton.1 hk] at this; omega) (fun q hq k hk hk' => by have := Je _ _ _ (h.2.2.2 q hq) k hk; rw [List.mem_singleton.1 hk'] at this; omega)).addB hb
end
theorem f32 {p : Prop} (h : p := by
 have ⟨u0, v0, u1, v1, u2, v2, u3⟩ := Cb7 hSw p0 q0 p1 q1 p2 q2 p3; have ⟨v3, u4, v4, u5, v5, u6, v6⟩ := Cb7 hSw q3 p4 q4 p5 q5 p6 q6
 go_simp
 try with_reducible rfl) : p := h
theorem f54 {p : Prop} (h : p := by
 rintro e u6 ⟨d6, G6, rfl, ho6, hn6, hf6, hb6⟩
 refine hKK.out _ _ G6 rfl (hb5.trans (hb6.mono hb5.size)) ⟨But.of_below hb6, fun k hk => .inr (hf6 k hk), Je _ _ _ ho6, hn6⟩ ?_
 exact Thr.done _ (fun u7 hb7 hk7 => ⟨d6, rfl, Jy _ _ _ ho6 hk7.2⟩)) : p := h
theorem zak (x z : CoreT) (hf : qmh x) (hfz : qmh z) (nm : ByteArray) (w : World) (cs ds : List Value) (hK : LC.K w x cs) (hL : LC.K w z ds) :
  Calls Tryz.prog 3 #[.agg cs.toArray, .string nm, .agg ds.toArray] w fun e w' => e = .returned (.bool true) ∧ Below w.heap.size w w' := by
 have hsz : ∀ (x : CoreT) (cs : List Value), qmh x → LC.K w x cs → ∀ (l : Int), 0 ≤ l → l ≤ 1048576 → ∀ w', Below w.heap.size w w' → Calls Tryz.prog 4 #[.agg cs.toArray, .int .i64 l] w' fun e w'' => e = .returned (.int .i64 (cut (bulk x) l)) ∧ Below w'.heap.size w' w'' := fun x cs hf hK l h0 h1 w' hb =>
  sz_all x hf w' cs l h0 h1 ((Ja _ _).K_below hb hK)
 have hto : ∀ (x : CoreT) (cs : List Value), LC.K w x cs → bulk x ≤ 1048576 → ∀ w', Below w.heap.size w w' → Calls Tryz.prog 6 #[.agg cs.toArray] w' (qbn 35 76 x w') := fun x cs hK hbk w' hb =>
  to_all x (by omega) w' cs ((Ja _ _).K_below hb hK)
 have ⟨HSX, HSZ, HTO, HTZ⟩ := Wj (hsz x cs hf hK) (hsz z ds hfz hL) (hto x cs hK) (hto z ds hL)
 obtain ⟨A3, a3, A4, a4, A5, a5, A6, a6, rfl, -⟩ := Qk hK
 obtain ⟨B3, b3, B4, b4, B5, b5, B6, b6, rfl, -⟩ := Qk hL
 clear hsz hto hK hL hf hfz
 obtain ⟨W1, hW1, hp1, hB1, hs1⟩ := Wy w x A3 a3 A4 a4 A5 a5 A6 a6 29
 obtain ⟨W2, hW2, hp2, hB2, hs2⟩ := Wy W1 z B3 b3 B4 b4 B5 b5 B6 b6 29
 rw [hs1] at hp2
 have L1 := Wd (show LS w (Qb x A3 a3 A4 a4 A5 a5 A6 a6) (Qb z B3 b3 B4 b4 B5 b5 B6 b6) [] [] W2 from ⟨Below.step hB1 hB2, ⟨hp1.below hB2, hp2⟩, by simp, by simp⟩)
 clear hp1 hp2 hB1 hB2 hs1 hs2
 simp only [Qb] at HSX HSZ HTO HTZ ⊢
 subst hW2
 subst hW1
 by_cases hnm : (1048576 : Int) < nm.size
 ·go_enter Tryz.func3, Tryz.ntmps3
  go_wp2
  go_ret
  exact ⟨rfl, L1.out.1⟩
 have HNM := Wd (show nm.size ≤ 1048576 by omega)
 have ⟨p0, p1, p2, p3, p4, p5, p6⟩ := Cz L1.out.2.1.1
 go_enter Tryz.func3, Tryz.ntmps3
 go_wp2_with fail
 refine (HSX.out _ (by omega) (by omega) _ L1.out.1).mono ?_
 rintro e w2 ⟨rfl, hb⟩
 clear p0 p1 p2 p3 p4 p5 p6 hnm
 have L2 := Wd (L1.out.below hb)
 clear hb L1
 by_cases hn : (1048576 : Int) < bulk x
 ·rw [qbu hn]
  go_wp2
  go_ret
  exact ⟨rfl, L2.out.1⟩
 have HBX := Wd (show bulk x ≤ 1048576 by omega)
 rw [Vm hn]
 obtain ⟨lf, hlf⟩ : ∃ lf : Int, lf = 1048576 - bulk x := ⟨_, rfl⟩
 rw [← hlf]
 have hl2 : ¬ (lf < 0) := by omega
 have hl3 : lf ≤ 1048576 := by omega
 clear hlf hn
 have ⟨p0, p1, p2, p3, p4, p5, p6⟩ := Cz L2.out.2.1.2
 go_wp2_with fail
 refine (HSZ.out _ (by omega) hl3 _ L2.out.1).mono ?_
 rintro e w3 ⟨rfl, hb⟩
 clear p0 p1 p2 p3 p4 p5 p6
 have L3 := Wd (L2.out.below hb)
 clear hb L2
 by_cases hn : lf < (bulk z : Int)
 ·rw [qbu hn]
  go_wp2
  go_ret
  exact ⟨rfl, L3.out.1⟩
 have HBZ := Wd (show bulk z ≤ 1048576 by omega)
 rw [Vm hn]
 obtain ⟨lz, hlz⟩ : ∃ lz : Int, lz = lf - bulk z := ⟨_, rfl⟩
 rw [← hlz]
 have hl4 : ¬ (lz < 0) := by omega
 clear hlz hn hl2 hl3
 have HTO := Wd (HTO.out HBX.out); have HTZ := Wd (HTZ.out HBZ.out)
 have HCX := Wd (show Kx x ≤ 4194304 by have := qbt x; have := HBX.out; omega)
 have HCZ := Wd (show Kx z ≤ 4194304 by have := qbt z; have := HBZ.out; omega)
 have HCY := Wd (qqy (nm := nm) (bt := z) HBX.out)
 have hsp : ∀ (w : World) (cs ds : List Value), IC.K w x cs → IC.K w z ds → Calls Tryz.prog 5 #[.agg cs.toArray, .string nm, .agg ds.toArray] w (qbn 35 76 (Yq nm z x) w) := fun w cs ds => quq nm x z HBX.out HBZ.out w cs ds
 have him : ∀ (w : World) (cs ds : List Value), IC.K w x cs → IC.K w z ds → Calls Tryz.prog 7 #[.agg cs.toArray, .string nm, .agg ds.toArray] w (qbn 35 76 (Yq nm z x) w) := fun w cs ds => qst nm x z HNM.out HBX.out HBZ.out w cs ds
 obtain ⟨y, hy⟩ : ∃ y, y = Yq nm z x := ⟨_, rfl⟩
 rw [← hy] at HCY hsp him
 have HSP := Wd hsp; have HIM := Wd him
 clear hy hsp him HSX HSZ HNM HBX HBZ
 have ⟨p0, p1, p2, p3, p4, p5, p6⟩ := Cz L3.out.2.1.1
 have ⟨q0, q1, q2, q3, q4, q5, q6⟩ := Cz L3.out.2.1.2
 go_wp2_with fail
 refine Jg [0, 2, 3] [] ([1, 4, 5] ++ [6]) [7] [30, 33, 34, 8] (by kernel_rfl) (fun W' => Below w3.heap.size w3 W') (Both [34] [8] (fun vs w F => ∃ cs, vs = [.agg cs.toArray] ∧ Ke 35 76 w y cs F) (fun vs w F => ∃ g, vs = [.pointer (some ⟨g, 0, none⟩)] ∧ Blk w g 35 [.int .i64 0, .string ⟨#[]⟩, .bool false, .slice none 0 0, .slice none 0 0, .slice none 0 0, .slice none 0 0] ∧ F = [g])) (by kernel_rfl) (by kernel_rfl) (fun _ _ d _ _ h => by cases d <;> exact h) (fun w' hb => hb) ?_
 iterate 3
  refine Yb 29 (y := fun w' hSw => by
   exact f32) (h := ?_)
 refine YAll.nil (YAll.nil ⟨?ct8, ?cu8⟩)
 case ct8 =>
  refine Thr.par (T1 := [1, 4, 5]) (T2 := [6]) 3 1 [34] [8] _ _ (by kernel_rfl) (Nat.le_refl _) ?_ ?_
  ·refine Thr.step (some 30) (by rfl) rfl (by kernel_rfl) ?_
   intro u1 hb1 hk1 K hKK
   go_simp
   refine (HTO.out u1 (Qa L3.out.1 (Qj hb1))).mono ?_
   rintro e u2 ⟨d2, G2, rfl, ho2, hn2, hf2, hb2⟩
   refine hKK.out _ _ G2 rfl (hb1.trans (hb2.mono hb1.size)) ⟨But.of_below hb2, fun k hk => .inr (hf2 k hk), Je _ _ _ ho2, hn2⟩ ?_
   try simp only [Act.put, heap_drew, Nat.reduceAdd, Jla, Jlb, Jlc]
   refine Thr.step (some 33) (by rfl) rfl (by kernel_rfl) ?_
   intro u3 hb3 hk3 K hKK
   go_simp
   refine (HTZ.out u3 (Qa L3.out.1 (Qj hb3))).mono ?_
   rintro e u4 ⟨d4, G4, rfl, ho4, hn4, hf4, hb4⟩
   have hl2 := Je _ _ _ ho2
   refine hKK.out _ _ (G2 ++ G4) rfl (hb3.trans (hb4.mono hb3.size)) ⟨But.of_below hb4, fun k hk => (List.mem_append.1 hk).imp id (hf4 k), fun k hk => (List.mem_append.1 hk).elim (fun h => Nat.lt_of_lt_of_le (hl2 k h) (Nat.le_trans hk3.1 hb4.size)) (Je _ _ _ ho4 k), List.nodup_append.2 ⟨hn2, hn4, fun a ha b hb e => by have := hl2 a ha; have := hf4 b hb; have := hk3.1; omega⟩⟩ ?_
   try simp only [Act.put, heap_drew, Nat.reduceAdd, Jla, Jlb, Jlc]
   refine Thr.step (some 34) (by rfl) rfl (by kernel_rfl) ?_
   intro u5 hb5 hk5 K hKK
   go_simp
   refine (HSP.out u5 d2 d4 (Yo (Jy _ _ _ ho2 (fun k hk => (hk5.2 k (by simp [hk])).trans ((hb4.block k (Nat.lt_of_lt_of_le (hl2 k hk) hk3.1)).trans (hk3.2 k hk))))) (Yo (Jy _ _ _ ho4 (fun k hk => hk5.2 k (by simp [hk]))))).mono ?_
   exact f54
  ·refine Thr.new (fun g => .pointer (some ⟨g, 0, none⟩)) (.cells #[.int .i64 0, .string ⟨#[]⟩, .bool false, .slice none 0 0, .slice none 0 0, .slice none 0 0, .slice none 0 0] 35) (some 8) (by rfl) rfl (by kernel_rfl) rfl (fun w' hb => by go_simp) ?_
   intro g u1 hg1 hg2 hg3 hb3
   exact Thr.done _ (fun u2 hb6 hk6 => ⟨g, rfl, hk6.blk hg3 (by simp), rfl⟩)
 rintro u u3 F hb hnd hF ⟨F1, Fg, rfl, ⟨d1, e1, ho⟩, ⟨g1, e2, hbg, rfl⟩⟩
 simp only [List.map_cons, List.map_nil, List.cons.injEq, and_true] at e1 e2
 obtain ⟨C3, c3, C4, c4, C5, c5, C6, c6, rfl⟩ := Zi ho
 simp only [qde, List.foldl_cons, List.foldl_nil, Act.put, Jla, Jlb, Jlc, qmf, List.map_cons, List.map_nil, List.getD_cons_succ, List.getD_cons_zero, e1, e2, Qb]
 refine Qc g1 0 [] [.int .i64 0, .string ⟨#[]⟩, .bool false, .slice none 0 0, .slice none 0 0, .slice none 0 0, .slice none 0 0] [] [.int .i64 y.kind, .string y.name, .bool y.minus, .slice C3 y.limbs.length c3, .slice C4 y.names.length c4, .slice C5 y.kids.length c5, .slice C6 y.alts.length c6] 35 (by rfl) 35 _ _ (by rfl) (by rfl) rfl (by rfl) hbg rfl (by kernel_rfl) ?hone ?_
 case hone => intro v hv; simp at hv; rcases hv with rfl | rfl | rfl | rfl | rfl | rfl | rfl <;> rfl
 intro w4 hb4 hg4 hs4
 have hng : ∀ k ∈ F1, k ≠ g1 := fun k hk e => (List.nodup_append.1 hnd).2.2 k hk g1 (by simp) e
 have HFF1 := Wd (show ∀ k ∈ F1, w3.heap.size ≤ k ∧ k < w4.heap.size from fun k hk => ⟨(hF k (by simp [hk])).1, Nat.lt_of_lt_of_le (hF k (by simp [hk])).2 hg4.size⟩)
 have HGg1 := Wd (show w3.heap.size ≤ g1 ∧ g1 < w4.heap.size from ⟨(hF g1 (by simp)).1, Nat.lt_of_lt_of_le (hF g1 (by simp)).2 hg4.size⟩)
 have Lw4 := Wd (((L3.out.below (Qj hb)).but (But.of_grown hg4) (fun k hk => by rw [List.mem_singleton.1 hk]; have := HGg1.out.1; have := L3.out.sz; omega) (fun p hp hk => by have := (L3.out.2.2.1 p hp).lt; rw [List.mem_singleton.1 hk] at this; have := HGg1.out.1; omega) (fun q hq k hk hk' => by have := Je _ _ _ (L3.out.2.2.2 q hq) k hk; rw [List.mem_singleton.1 hk'] at this; have := HGg1.out.1; omega)).addB (cs := Qb y C3 c3 C4 c4 C5 c5 C6 c6) hb4 |>.addO (Xv ho hg4 hng))
 clear hb hnd hF e1 e2 ho hbg hb4 hg4 hs4 hng p0 p1 p2 p3 p4 p5 p6 q0 q1 q2 q3 q4 q5 q6
 have ⟨p0, p1, p2, p3, p4, p5, p6⟩ := Cz Lw4.out.2.1.1
 go_wp2_with fail
 refine (HTO.out _ Lw4.out.1).mono ?_
 rintro e w5 ⟨c2, F2, rfl, ho, hnF2, hf, hb⟩
 clear p0 p1 p2 p3 p4 p5 p6
 obtain ⟨D3, d3, D4, d4, D5, d5, D6, d6, rfl⟩ := Zi ho
 have Lw5 := Wd ((Lw4.out.below hb).addO ho)
 have HFF2 := Wd (show ∀ k ∈ F2, w4.heap.size ≤ k ∧ k < w5.heap.size from fun k hk => ⟨hf k hk, Je _ _ _ ho k hk⟩)
 have HNF2 := Wd hnF2
 have HMw5 := Wd hb.size
 clear ho hb hf hnF2 Lw4
 simp only [Qb]
 have hz := Wd (Jm w5 35 [.int .i64 0, .string ⟨#[]⟩, .bool false, .slice none 0 0, .slice none 0 0, .slice none 0 0, .slice none 0 0])
 go_wp2_with (refine Wv w5.heap.size [.int .i64 x.kind, .string x.name, .bool x.minus, .slice D3 x.limbs.length d3, .slice D4 x.names.length d4, .slice D5 x.kids.length d5, .slice D6 x.alts.length d6] hz.out ?_)
 intro w6 hb hg hs
 have Lw6 := Wd (LS.box Lw5.out hg hb)
 have Sw6 := Wd (show w5.heap.size < w6.heap.size by have h := (show (w5.alloc (.cells #[.int .i64 0, .string ⟨#[]⟩, .bool false, .slice none 0 0, .slice none 0 0, .slice none 0 0, .slice none 0 0] 35)).heap.size = w5.heap.size + 1 by simp); omega)
 clear hz hb hg hs
 have ⟨p0, p1, p2, p3, p4, p5, p6⟩ := Cz Lw6.out.2.1.2
 go_wp2_with fail
 refine (HTZ.out _ Lw6.out.1).mono ?_
 rintro e w7 ⟨c2, F3, rfl, ho, hnF3, hf, hb⟩
 clear p0 p1 p2 p3 p4 p5 p6
 obtain ⟨E3, e3, E4, e4, E5, e5, E6, e6, rfl⟩ := Zi ho
 have Lw7 := Wd ((Lw6.out.below hb).addO ho)
 have HFF3 := Wd (show ∀ k ∈ F3, w6.heap.size ≤ k ∧ k < w7.heap.size from fun k hk => ⟨hf k hk, Je _ _ _ ho k hk⟩)
 have HNF3 := Wd hnF3
 have HMw7 := Wd hb.size
 clear ho hb hf hnF3 Lw6
 simp only [Qb]
 have hz := Wd (Jm w7 35 [.int .i64 0, .string ⟨#[]⟩, .bool false, .slice none 0 0, .slice none 0 0, .slice none 0 0, .slice none 0 0])
 go_wp2_with (refine Wv w7.heap.size [.int .i64 z.kind, .string z.name, .bool z.minus, .slice E3 z.limbs.length e3, .slice E4 z.names.length e4, .slice E5 z.kids.length e5, .slice E6 z.alts.length e6] hz.out ?_)
 intro w8 hb hg hs
 have Lw8 := Wd (LS.box Lw7.out hg hb)
 have Sw8 := Wd (show w7.heap.size < w8.heap.size by have h := (show (w7.alloc (.cells #[.int .i64 0, .string ⟨#[]⟩, .bool false, .slice none 0 0, .slice none 0 0, .slice none 0 0, .slice none 0 0] 35)).heap.size = w7.heap.size + 1 by simp); omega)
 clear hz hb hg hs
 have ⟨p0, p1, p2, p3, p4, p5, p6⟩ := Cz (Lw8.out.2.2.1 (w5.heap.size, Qb x D3 d3 D4 d4 D5 d5 D6 d6) (by simp [Qb]))
 have ⟨q0, q1, q2, q3, q4, q5, q6⟩ := Cz (Lw8.out.2.2.1 (w7.heap.size, Qb z E3 e3 E4 e4 E5 e5 E6 e6) (by simp [Qb]))
 go_wp2_with fail
 refine (HIM.out _ _ _ (Yo (Lw8.out.2.2.2 (x, Qb x D3 d3 D4 d4 D5 d5 D6 d6, F2) (by simp [Qb]))) (Yo (Lw8.out.2.2.2 (z, Qb z E3 e3 E4 e4 E5 e5 E6 e6, F3) (by simp [Qb])))).mono ?_
 rintro e w9 ⟨c3, F4, rfl, ho, hn4, hf, hb⟩
 clear p0 p1 p2 p3 p4 p5 p6 q0 q1 q2 q3 q4 q5 q6
 obtain ⟨G3, g3, G4, g4, G5, g5, G6, g6, rfl⟩ := Zi ho
 have Lw9 := Wd ((Lw8.out.below hb).addO ho)
 have HFF4 := Wd (show ∀ k ∈ F4, w8.heap.size ≤ k ∧ k < w9.heap.size from fun k hk => ⟨hf k hk, Je _ _ _ ho k hk⟩)
 have HNF4 := Wd hn4
 have HZ := Wd (show w.heap.size + 1 < w3.heap.size ∧ w4.heap.size ≤ w5.heap.size ∧ w5.heap.size < w6.heap.size ∧ w6.heap.size ≤ w7.heap.size ∧ w7.heap.size < w8.heap.size ∧ w8.heap.size ≤ w9.heap.size from ⟨L3.out.sz, HMw5.out, Sw6.out, HMw7.out, Sw8.out, hb.size⟩)
 clear ho hb hf hn4 Lw8 HMw5 Sw6 HMw7 Sw8 L3
 simp only [Qb]
 have hz := Wd (Jm w9 35 [.int .i64 0, .string ⟨#[]⟩, .bool false, .slice none 0 0, .slice none 0 0, .slice none 0 0, .slice none 0 0])
 go_wp2_with (refine Wv w9.heap.size [.int .i64 y.kind, .string y.name, .bool y.minus, .slice G3 y.limbs.length g3, .slice G4 y.names.length g4, .slice G5 y.kids.length g5, .slice G6 y.alts.length g6] hz.out ?_)
 intro wa hb hg hs
 have Lwa := Wd (LS.box Lw9.out hg hb)
 have Swa := Wd (show w9.heap.size < wa.heap.size by have h := (show (w9.alloc (.cells #[.int .i64 0, .string ⟨#[]⟩, .bool false, .slice none 0 0, .slice none 0 0, .slice none 0 0, .slice none 0 0] 35)).heap.size = w9.heap.size + 1 by simp); omega)
 clear hz hb hg hs
 have ⟨p0, p1, p2, p3, p4, p5, p6⟩ := Cz (Lwa.out.2.2.1 (w9.heap.size, Qb y G3 g3 G4 g4 G5 g5 G6 g6) (by simp [Qb]))
 have ⟨q0, q1, q2, q3, q4, q5, q6⟩ := Cz (Lwa.out.2.2.1 (g1, Qb y C3 c3 C4 c4 C5 c5 C6 c6) (by simp [Qb]))
 go_wp2_with fail
 refine (qku y _ _ _ (Yo (Lwa.out.2.2.2 (y, Qb y G3 g3 G4 g4 G5 g5 G6 g6, F4) (by simp [Qb]))) (Yo (Lwa.out.2.2.2 (y, Qb y C3 c3 C4 c4 C5 c5 C6 c6, F1) (by simp [Qb])))).mono ?_
 rintro e wb ⟨rfl, hb⟩
 clear p0 p1 p2 p3 p4 p5 p6 q0 q1 q2 q3 q4 q5 q6
 have Lwb := Wd (Lwa.out.below hb)
 clear hb
 have ⟨p0, p1, p2, p3, p4, p5, p6⟩ := Cz (Lwb.out.2.2.1 (w5.heap.size, Qb x D3 d3 D4 d4 D5 d5 D6 d6) (by simp [Qb]))
 have ⟨q0, q1, q2, q3, q4, q5, q6⟩ := Cz Lwb.out.2.1.1
 go_wp2_with fail
 refine Ys [0, 1] [] [2, 3, 4] [3, 4] (fun W' => Below wb.heap.size wb W') (by kernel_rfl) (by kernel_rfl) (fun _ _ d _ _ h => by cases d <;> exact h) ⟨rfl, rfl, rfl, Nat.le_refl _, fun _ _ => rfl⟩ ?_
 iterate 2
  refine Yb 47 (y := fun w' hSw => by
   exact f32) (h := ?_)
 refine YAll.nil (YAll.nil ?_)
 refine wpListS.step (some 49) (by rfl) rfl ?_
 intro K hK
 go_simp
 have hbd : Below wb.heap.size wb wb.drew := ⟨rfl, rfl, rfl, Nat.le_refl _, fun _ _ => rfl⟩
 refine (HTO.out _ (Lwb.out.below hbd).1).mono ?_
 rintro e u1 ⟨cu, Gu, rfl, ho, -, -, hb⟩
 have hb10 : Below wb.heap.size wb u1 := Qa hbd hb
 have Lu := Wd ((Lwb.out.below hb10).addO ho)
 refine hK.out _ _ (fun _ => hb10) ?_
 clear hK K hbd ho hb hb10
 refine wpListS.step (some 50) (by rfl) rfl ?_
 intro K hK
 go_simp
 refine (qku x _ _ cu (Yo (Lu.out.2.2.2 (x, Qb x D3 d3 D4 d4 D5 d5 D6 d6, F2) (by simp [Qb]))) (Yo (Lu.out.2.2.2 (x, cu, Gu) (by simp)))).mono ?_
 rintro e wc ⟨rfl, hb⟩
 have Lwc := Wd (LS.sub (Lu.out.below hb) (fun p hp => hp) (fun q hq => List.mem_cons_of_mem _ hq))
 refine hK.out _ _ (fun h => absurd (by decide) h) ?_
 clear hK K hb
 refine wpListS.step (some 51) (by rfl) rfl ?_
 intro K hK
 go_simp
 refine hK.out _ _ (fun h => absurd (by decide) h) ?_
 clear hK K Lu Lwb p0 p1 p2 p3 p4 p5 p6 q0 q1 q2 q3 q4 q5 q6
 refine wpListS.nil ?_
 have ⟨p0, p1, p2, p3, p4, p5, p6⟩ := Cz (Lwc.out.2.2.1 (w7.heap.size, Qb z E3 e3 E4 e4 E5 e5 E6 e6) (by simp [Qb]))
 have ⟨q0, q1, q2, q3, q4, q5, q6⟩ := Cz Lwc.out.2.1.2
 go_wp2_with fail
 refine Ys [0, 1] [] [2, 3, 4] [3, 4] (fun W' => Below wc.heap.size wc W') (by kernel_rfl) (by kernel_rfl) (fun _ _ d _ _ h => by cases d <;> exact h) ⟨rfl, rfl, rfl, Nat.le_refl _, fun _ _ => rfl⟩ ?_
 iterate 2
  refine Yb 52 (y := fun w' hSw => by
   exact f32) (h := ?_)
 refine YAll.nil (YAll.nil ?_)
 refine wpListS.step (some 54) (by rfl) rfl ?_
 intro K hK
 go_simp
 have hbd : Below wc.heap.size wc wc.drew := ⟨rfl, rfl, rfl, Nat.le_refl _, fun _ _ => rfl⟩
 refine (HTZ.out _ (Lwc.out.below hbd).1).mono ?_
 rintro e u1 ⟨cu, Gu, rfl, ho, -, -, hb⟩
 have hb10 : Below wc.heap.size wc u1 := Qa hbd hb
 have Lu := Wd ((Lwc.out.below hb10).addO ho)
 refine hK.out _ _ (fun _ => hb10) ?_
 clear hK K hbd ho hb hb10
 refine wpListS.step (some 55) (by rfl) rfl ?_
 intro K hK
 go_simp
 refine (qku z _ _ cu (Yo (Lu.out.2.2.2 (z, Qb z E3 e3 E4 e4 E5 e5 E6 e6, F3) (by simp [Qb]))) (Yo (Lu.out.2.2.2 (z, cu, Gu) (by simp)))).mono ?_
 rintro e wd ⟨rfl, hb⟩
 have Lwd := Wd (LS.sub (Lu.out.below hb) (fun p hp => hp) (fun q hq => List.mem_cons_of_mem _ hq))
 refine hK.out _ _ (fun h => absurd (by decide) h) ?_
 clear hK K hb
 refine wpListS.step (some 56) (by rfl) rfl ?_
 intro K hK
 go_simp
 refine hK.out _ _ (fun h => absurd (by decide) h) ?_
 clear hK K Lu Lwc p0 p1 p2 p3 p4 p5 p6 q0 q1 q2 q3 q4 q5 q6
 refine wpListS.nil ?_
 have ⟨p0, p1, p2, p3, p4, p5, p6⟩ := Cz (Lwd.out.2.2.1 (w5.heap.size, Qb x D3 d3 D4 d4 D5 d5 D6 d6) (by simp [Qb]))
 go_wp2_with fail
 refine (qai x _ F2 1 (by omega) (by have := HCX.out; have := HCZ.out; have := HCY.out; omega) _ (Lwd.out.2.2.2 (x, Qb x D3 d3 D4 d4 D5 d5 D6 d6, F2) (by simp [Qb])) HNF2.out).mono ?_
 rintro e we ⟨rfl, ho, hbt⟩
 clear p0 p1 p2 p3 p4 p5 p6
 have Lwe := Wd (show LS w (Qb x A3 a3 A4 a4 A5 a5 A6 a6) (Qb z B3 b3 B4 b4 B5 b5 B6 b6) [(w9.heap.size, Qb y G3 g3 G4 g4 G5 g5 G6 g6), (w7.heap.size, Qb z E3 e3 E4 e4 E5 e5 E6 e6), (g1, Qb y C3 c3 C4 c4 C5 c5 C6 c6)] [(y, Qb y G3 g3 G4 g4 G5 g5 G6 g6, F4), (z, Qb z E3 e3 E4 e4 E5 e5 E6 e6, F3), (y, Qb y C3 c3 C4 c4 C5 c5 C6 c6, F1)] we from ((LS.sub (bs' := [(w9.heap.size, Qb y G3 g3 G4 g4 G5 g5 G6 g6), (w7.heap.size, Qb z E3 e3 E4 e4 E5 e5 E6 e6), (g1, Qb y C3 c3 C4 c4 C5 c5 C6 c6)]) (os' := [(y, Qb y G3 g3 G4 g4 G5 g5 G6 g6, F4), (z, Qb z E3 e3 E4 e4 E5 e5 E6 e6, F3), (y, Qb y C3 c3 C4 c4 C5 c5 C6 c6, F1)]) Lwd.out (by simp [Qb]) (by simp [Qb])).but hbt (fun k hk => by have := HFF2.out k hk; have := HZ.out; have := HGg1.out; omega) (fun p hp hk => by
  have h2 := HFF2.out _ hk
  simp only [List.mem_cons, List.not_mem_nil, or_false] at hp
  have := HZ.out; have := HGg1.out
  rcases hp with rfl | rfl | rfl <;> simp only at h2 <;> omega) (fun q hq k hk hk' => by
  have h2 := HFF2.out _ hk'
  simp only [List.mem_cons, List.not_mem_nil, or_false] at hq
  have := HZ.out; have := HGg1.out
  rcases hq with rfl | rfl | rfl
  ·have := HFF4.out k hk; omega
  ·have := HFF3.out k hk; omega
  ·have := HFF1.out k hk; omega)))
 clear ho hbt Lwd
 have ⟨p0, p1, p2, p3, p4, p5, p6⟩ := Cz (Lwe.out.2.2.1 (w7.heap.size, Qb z E3 e3 E4 e4 E5 e5 E6 e6) (by simp [Qb]))
 go_wp2_with fail
 refine (qai z _ F3 (1 + (Kx x : Int)) (by omega) (by have := HCX.out; have := HCZ.out; have := HCY.out; omega) _ (Lwe.out.2.2.2 (z, Qb z E3 e3 E4 e4 E5 e5 E6 e6, F3) (by simp [Qb])) HNF3.out).mono ?_
 rintro e wf ⟨rfl, ho, hbt⟩
 clear p0 p1 p2 p3 p4 p5 p6
 have Lwf := Wd (show LS w (Qb x A3 a3 A4 a4 A5 a5 A6 a6) (Qb z B3 b3 B4 b4 B5 b5 B6 b6) [(w9.heap.size, Qb y G3 g3 G4 g4 G5 g5 G6 g6), (g1, Qb y C3 c3 C4 c4 C5 c5 C6 c6)] [(y, Qb y G3 g3 G4 g4 G5 g5 G6 g6, F4), (y, Qb y C3 c3 C4 c4 C5 c5 C6 c6, F1)] wf from ((LS.sub (bs' := [(w9.heap.size, Qb y G3 g3 G4 g4 G5 g5 G6 g6), (g1, Qb y C3 c3 C4 c4 C5 c5 C6 c6)]) (os' := [(y, Qb y G3 g3 G4 g4 G5 g5 G6 g6, F4), (y, Qb y C3 c3 C4 c4 C5 c5 C6 c6, F1)]) Lwe.out (by simp [Qb]) (by simp [Qb])).but hbt (fun k hk => by have := HFF3.out k hk; have := HZ.out; have := HGg1.out; omega) (fun p hp hk => by
  have h2 := HFF3.out _ hk
  simp only [List.mem_cons, List.not_mem_nil, or_false] at hp
  have := HZ.out; have := HGg1.out
  rcases hp with rfl | rfl <;> simp only at h2 <;> omega) (fun q hq k hk hk' => by
  have h2 := HFF3.out _ hk'
  simp only [List.mem_cons, List.not_mem_nil, or_false] at hq
  have := HZ.out; have := HGg1.out
  rcases hq with rfl | rfl
  ·have := HFF4.out k hk; omega
  ·have := HFF1.out k hk; omega)))
 clear ho hbt Lwe
 have hm0 : ¬ (1 + ((Kx x : Nat) : Int) + ((Kx z : Nat) : Int) < 0) := by omega
 have ⟨p0, p1, p2, p3, p4, p5, p6⟩ := Cz (Lwf.out.2.2.1 (w9.heap.size, Qb y G3 g3 G4 g4 G5 g5 G6 g6) (by simp [Qb]))
 have ⟨q0, q1, q2, q3, q4, q5, q6⟩ := Cz (Lwf.out.2.2.1 (g1, Qb y C3 c3 C4 c4 C5 c5 C6 c6) (by simp [Qb]))
 go_wp2_with fail
 refine (qku y _ _ _ (Yo (Lwf.out.2.2.2 (y, Qb y G3 g3 G4 g4 G5 g5 G6 g6, F4) (by simp [Qb]))) (Yo (Lwf.out.2.2.2 (y, Qb y C3 c3 C4 c4 C5 c5 C6 c6, F1) (by simp [Qb])))).mono ?_
 rintro e wg ⟨rfl, hb⟩
 clear p0 p1 p2 p3 p4 p5 p6 q0 q1 q2 q3 q4 q5 q6
 have Lwg := Wd (Lwf.out.below hb)
 clear hb
 clear hm0
 have ⟨p0, p1, p2, p3, p4, p5, p6⟩ := Cz (Lwg.out.2.2.1 (w9.heap.size, Qb y G3 g3 G4 g4 G5 g5 G6 g6) (by simp [Qb]))
 go_wp2_with fail
 refine (qai y _ F4 1 (by omega) (by have := HCX.out; have := HCZ.out; have := HCY.out; omega) _ (Lwg.out.2.2.2 (y, Qb y G3 g3 G4 g4 G5 g5 G6 g6, F4) (by simp [Qb])) HNF4.out).mono ?_
 rintro e wh ⟨rfl, ho, hbt⟩
 clear p0 p1 p2 p3 p4 p5 p6
 have Lwh0 := Wd (show LS w (Qb x A3 a3 A4 a4 A5 a5 A6 a6) (Qb z B3 b3 B4 b4 B5 b5 B6 b6) [(w9.heap.size, Qb y G3 g3 G4 g4 G5 g5 G6 g6), (g1, Qb y C3 c3 C4 c4 C5 c5 C6 c6)] [(y, Qb y C3 c3 C4 c4 C5 c5 C6 c6, F1)] wh from ((LS.sub (bs' := [(w9.heap.size, Qb y G3 g3 G4 g4 G5 g5 G6 g6), (g1, Qb y C3 c3 C4 c4 C5 c5 C6 c6)]) (os' := [(y, Qb y C3 c3 C4 c4 C5 c5 C6 c6, F1)]) Lwg.out (by simp [Qb]) (by simp [Qb])).but hbt (fun k hk => by have := HFF4.out k hk; have := HZ.out; have := HGg1.out; omega) (fun p hp hk => by
  have h2 := HFF4.out _ hk
  simp only [List.mem_cons, List.not_mem_nil, or_false] at hp
  have := HZ.out; have := HGg1.out
  rcases hp with rfl | rfl <;> simp only at h2 <;> omega) (fun q hq k hk hk' => by
  have h2 := HFF4.out _ hk'
  simp only [List.mem_cons, List.not_mem_nil, or_false] at hq
  have := HZ.out; have := HGg1.out
  rcases hq with rfl
  ·have := HFF1.out k hk; omega)))
 have Lwh := Wd (Lwh0.out.addO ho)
 clear ho hbt Lwg Lwh0
 have ⟨p0, p1, p2, p3, p4, p5, p6⟩ := Cz (Lwh.out.2.2.1 (w9.heap.size, Qb y G3 g3 G4 g4 G5 g5 G6 g6) (by simp [Qb]))
 go_wp2_with fail
 refine (qed y _ 1 (by omega) (by have := HCY.out; omega) _ (Yo (Lwh.out.2.2.2 (qsz y 1, Qb y G3 g3 G4 g4 G5 g5 G6 g6, F4) (by simp [Qb])))).mono ?_
 rintro e wi ⟨rfl, hb⟩
 clear p0 p1 p2 p3 p4 p5 p6
 have Lwi := Wd (Lwh.out.below hb)
 clear hb Lwh
 have hm1 : ¬ (1 + ((Kx y : Nat) : Int) < 0) := by omega
 have ⟨p0, p1, p2, p3, p4, p5, p6⟩ := Cz Lwi.out.2.1.1
 have ⟨q0, q1, q2, q3, q4, q5, q6⟩ := Cz Lwi.out.2.1.2
 go_wp2_with fail
 clear hm1
 refine Jg [0, 2, 3] [] ([1, 4, 5] ++ [6]) [7] [83, 86, 87, 15] (by kernel_rfl) (fun W' => Below wi.heap.size wi W') (Both [87] [15] (fun vs w F => ∃ cs, vs = [.agg cs.toArray] ∧ Ke 35 76 w y cs F) (fun vs w F => ∃ g, vs = [.pointer (some ⟨g, 0, none⟩)] ∧ Blk w g 35 [.int .i64 0, .string ⟨#[]⟩, .bool false, .slice none 0 0, .slice none 0 0, .slice none 0 0, .slice none 0 0] ∧ F = [g])) (by kernel_rfl) (by kernel_rfl) (fun _ _ d _ _ h => by cases d <;> exact h) (fun w' hb => hb) ?_
 iterate 3
  refine Yb 82 (y := fun w' hSw => by
   exact f32) (h := ?_)
 refine YAll.nil (YAll.nil ⟨?ct15, ?cu15⟩)
 case ct15 =>
  refine Thr.par (T1 := [1, 4, 5]) (T2 := [6]) 3 1 [87] [15] _ _ (by kernel_rfl) (Nat.le_refl _) ?_ ?_
  ·refine Thr.step (some 83) (by rfl) rfl (by kernel_rfl) ?_
   intro u1 hb1 hk1 K hKK
   go_simp
   refine (HTO.out u1 (Qa Lwi.out.1 (Qj hb1))).mono ?_
   rintro e u2 ⟨d2, G2, rfl, ho2, hn2, hf2, hb2⟩
   refine hKK.out _ _ G2 rfl (hb1.trans (hb2.mono hb1.size)) ⟨But.of_below hb2, fun k hk => .inr (hf2 k hk), Je _ _ _ ho2, hn2⟩ ?_
   try simp only [Act.put, heap_drew, Nat.reduceAdd, Jla, Jlb, Jlc]
   refine Thr.step (some 86) (by rfl) rfl (by kernel_rfl) ?_
   intro u3 hb3 hk3 K hKK
   go_simp
   refine (HTZ.out u3 (Qa Lwi.out.1 (Qj hb3))).mono ?_
   rintro e u4 ⟨d4, G4, rfl, ho4, hn4, hf4, hb4⟩
   have hl2 := Je _ _ _ ho2
   refine hKK.out _ _ (G2 ++ G4) rfl (hb3.trans (hb4.mono hb3.size)) ⟨But.of_below hb4, fun k hk => (List.mem_append.1 hk).imp id (hf4 k), fun k hk => (List.mem_append.1 hk).elim (fun h => Nat.lt_of_lt_of_le (hl2 k h) (Nat.le_trans hk3.1 hb4.size)) (Je _ _ _ ho4 k), List.nodup_append.2 ⟨hn2, hn4, fun a ha b hb e => by have := hl2 a ha; have := hf4 b hb; have := hk3.1; omega⟩⟩ ?_
   try simp only [Act.put, heap_drew, Nat.reduceAdd, Jla, Jlb, Jlc]
   refine Thr.step (some 87) (by rfl) rfl (by kernel_rfl) ?_
   intro u5 hb5 hk5 K hKK
   go_simp
   refine (HIM.out u5 d2 d4 (Yo (Jy _ _ _ ho2 (fun k hk => (hk5.2 k (by simp [hk])).trans ((hb4.block k (Nat.lt_of_lt_of_le (hl2 k hk) hk3.1)).trans (hk3.2 k hk))))) (Yo (Jy _ _ _ ho4 (fun k hk => hk5.2 k (by simp [hk]))))).mono ?_
   exact f54
  ·refine Thr.new (fun g => .pointer (some ⟨g, 0, none⟩)) (.cells #[.int .i64 0, .string ⟨#[]⟩, .bool false, .slice none 0 0, .slice none 0 0, .slice none 0 0, .slice none 0 0] 35) (some 15) (by rfl) rfl (by kernel_rfl) rfl (fun w' hb => by go_simp) ?_
   intro g u1 hg1 hg2 hg3 hb3
   exact Thr.done _ (fun u2 hb6 hk6 => ⟨g, rfl, hk6.blk hg3 (by simp), rfl⟩)
 rintro u u3 F hb hnd hF ⟨F6, Fg, rfl, ⟨d1, e1, ho⟩, ⟨gh, e2, hbg, rfl⟩⟩
 simp only [List.map_cons, List.map_nil, List.cons.injEq, and_true] at e1 e2
 obtain ⟨H3, h3, H4, h4, H5, h5, H6, h6, rfl⟩ := Zi ho
 simp only [qde, List.foldl_cons, List.foldl_nil, Act.put, Jla, Jlb, Jlc, qmf, List.map_cons, List.map_nil, List.getD_cons_succ, List.getD_cons_zero, e1, e2, Qb]
 refine Qc gh 0 [] [.int .i64 0, .string ⟨#[]⟩, .bool false, .slice none 0 0, .slice none 0 0, .slice none 0 0, .slice none 0 0] [] [.int .i64 y.kind, .string y.name, .bool y.minus, .slice H3 y.limbs.length h3, .slice H4 y.names.length h4, .slice H5 y.kids.length h5, .slice H6 y.alts.length h6] 35 (by rfl) 35 _ _ (by rfl) (by rfl) rfl (by rfl) hbg rfl (by kernel_rfl) ?hone ?_
 case hone => intro v hv; simp at hv; rcases hv with rfl | rfl | rfl | rfl | rfl | rfl | rfl <;> rfl
 intro wj hb4 hg4 hs4
 have hng : ∀ k ∈ F6, k ≠ gh := fun k hk e => (List.nodup_append.1 hnd).2.2 k hk gh (by simp) e
 have HFF6 := Wd (show ∀ k ∈ F6, wi.heap.size ≤ k ∧ k < wj.heap.size from fun k hk => ⟨(hF k (by simp [hk])).1, Nat.lt_of_lt_of_le (hF k (by simp [hk])).2 hg4.size⟩)
 have HGgh := Wd (show wi.heap.size ≤ gh ∧ gh < wj.heap.size from ⟨(hF gh (by simp)).1, Nat.lt_of_lt_of_le (hF gh (by simp)).2 hg4.size⟩)
 have Lwj := Wd (((Lwi.out.below (Qj hb)).but (But.of_grown hg4) (fun k hk => by rw [List.mem_singleton.1 hk]; have := HGgh.out.1; have := Lwi.out.sz; omega) (fun p hp hk => by have := (Lwi.out.2.2.1 p hp).lt; rw [List.mem_singleton.1 hk] at this; have := HGgh.out.1; omega) (fun q hq k hk hk' => by have := Je _ _ _ (Lwi.out.2.2.2 q hq) k hk; rw [List.mem_singleton.1 hk'] at this; have := HGgh.out.1; omega)).addB (cs := Qb y H3 h3 H4 h4 H5 h5 H6 h6) hb4 |>.addO (Xv ho hg4 hng))
 clear hb hnd hF e1 e2 ho hbg hb4 hg4 hs4 hng p0 p1 p2 p3 p4 p5 p6 q0 q1 q2 q3 q4 q5 q6
 have ⟨p0, p1, p2, p3, p4, p5, p6⟩ := Cz (Lwj.out.2.2.1 (gh, Qb y H3 h3 H4 h4 H5 h5 H6 h6) (by simp [Qb]))
 have ⟨q0, q1, q2, q3, q4, q5, q6⟩ := Cz (Lwj.out.2.2.1 (g1, Qb y C3 c3 C4 c4 C5 c5 C6 c6) (by simp [Qb]))
 go_wp2_with fail
 refine (qku y _ _ _ (Yo (Lwj.out.2.2.2 (y, Qb y H3 h3 H4 h4 H5 h5 H6 h6, F6) (by simp [Qb]))) (Yo (Lwj.out.2.2.2 (y, Qb y C3 c3 C4 c4 C5 c5 C6 c6, F1) (by simp [Qb])))).mono ?_
 rintro e wk ⟨rfl, hb⟩
 clear p0 p1 p2 p3 p4 p5 p6 q0 q1 q2 q3 q4 q5 q6
 have Lwk := Wd (Lwj.out.below hb)
 clear hb
 have ⟨p0, p1, p2, p3, p4, p5, p6⟩ := Cz (Lwk.out.2.2.1 (w9.heap.size, Qb y G3 g3 G4 g4 G5 g5 G6 g6) (by simp [Qb]))
 go_wp2_with fail
 refine (qed y _ 1 (by omega) (by have := HCY.out; omega) _ (Yo (Lwk.out.2.2.2 (qsz y 1, Qb y G3 g3 G4 g4 G5 g5 G6 g6, F4) (by simp [Qb])))).mono ?_
 rintro e wl ⟨rfl, hb⟩
 clear p0 p1 p2 p3 p4 p5 p6
 have Lwl := Wd (Lwk.out.below hb)
 clear hb Lwk
 have hm1 : ¬ (1 + ((Kx y : Nat) : Int) < 0) := by omega
 go_wp2
 go_ret
 exact ⟨rfl, Lwl.out.1⟩
end Go.Proofs.YtnoammmohdmnjaaGreat.C13
namespace Go.Proofs.YtnoammmohdmnjaaGreat.C13
open Go.ChangeShapes Go.WideShapes Go.ChangeAt Go.RowKit
open List renaming setIfInBounds_toArray → Jla, set_cons_zero → Jlb, set_cons_succ → Jlc
theorem qxa : ownKnob Tryz.prog.godebug = none := by kernel_rfl
theorem qjj : laidOutB Tryz.prog = true := by kernel_rfl
theorem qqw (os : Os) (started : os.Started) (H : Type) (enc : TypeId × Value → H) :
  ReturnsInHanded {} Tryz.checked os 3 .any (Rows.fnExactSubstSpec.pre6 enc Tryz.prog Tryz.f3 Rows.fnExactSubstRow.domain false) (Rows.fnExactSubstSpec.post enc Tryz.prog Tryz.f3 false true false false) := by
 refine returnsInHanded_of_change (C := Tryz.checked) qxa started (by kernel_rfl) Tryz.func3
  (ChangeSpec.witness6 (enc := enc) (C := Tryz.checked) false ⟨#[], #[.agg #[.int .i64 0, .string ⟨#[]⟩, .bool false, .slice none 0 0, .slice none 0 0, .slice none 0 0, .slice none 0 0], .string ⟨#[]⟩, .agg #[.int .i64 0, .string ⟨#[]⟩, .bool false, .slice none 0 0, .slice none 0 0, .slice none 0 0, .slice none 0 0]], []⟩ 8 (by kernel_rfl) (by kernel_rfl) (by kernel_rfl) (by kernel_rfl)) ?_
 intro W base args dd gs before hval0 hW _ _
 have hval : ∀ (j : Nat) t v, Tryz.f3.params[j]? = some t → args[j]? = some v → Value.okWide Tryz.prog W .any base t v := hval0
 have hW' := hW
 obtain ⟨p, q, hA0, hV, rfl, _, _⟩ := hW
 have hA : DataW.TrodAll enc Tryz.prog W 0 (fun _ => true) true Tryz.f3.params.toList args.toList dd p := hA0
 rw [Tryz.params3] at hA hval
 obtain ⟨v0, v1, v2, d0, d1, d2, p0, p1, p2, rfl, rfl, rfl, h0, h1, h2⟩ := trodAll_three hA
 obtain ⟨rfl, rfl⟩ := trodVars_none hV
 obtain ⟨cs, rfl, _⟩ := okWide_struct Tryz.underlying29 (hval 0 29 v0 rfl rfl)
 obtain ⟨nm, rfl⟩ := okWide_string Tryz.underlying9 (hval 1 9 v1 rfl rfl)
 obtain ⟨ds, rfl, _⟩ := okWide_struct Tryz.underlying29 (hval 2 29 v2 rfl rfl)
 have k0 := h0; have k1 := h1; have k2 := h2
 have lt0 : ∀ x ∈ p0, x.block < W.heap.size := by obtain ⟨m, hm⟩ := k0; exact DataW.trod_lt m _ _ _ hm
 have lt1 : ∀ x ∈ p1, x.block < W.heap.size := by obtain ⟨m, hm⟩ := k1; exact DataW.trod_lt m _ _ _ hm
 have lt2 : ∀ x ∈ p2, x.block < W.heap.size := by obtain ⟨m, hm⟩ := k2; exact DataW.trod_lt m _ _ _ hm
 obtain ⟨fuel, hf⟩ := h0
 obtain ⟨fuel2, hf2⟩ := h2
 obtain ⟨x, hK, hF, _⟩ := qou (cs := cs.toList) hf
 obtain ⟨z, hL, hG, _⟩ := qou (cs := ds.toList) hf2
 clear hA0 hval0 hf hf2
 have hlaw := zak x z hF hG nm W cs.toList ds.toList hK hL
 rw [Array.toArray_toList, Array.toArray_toList] at hlaw
 refine hlaw.mono fun e W' ⟨he, bel⟩ => ?_
 subst he
 exact ⟨_, rfl, _, _, _, [], _, [], hW', trodAll_mk1 (shut_bool Tryz.underlying4 _), trodAll_mk3 (Below.trod qjj (by kernel_rfl) (of_decide_eq_true (by kernel_rfl)) k0 bel lt0) (Below.trod qjj (by kernel_rfl) (of_decide_eq_true (by kernel_rfl)) k1 bel lt1) (Below.trod qjj (by kernel_rfl) (of_decide_eq_true (by kernel_rfl)) k2 bel lt2), rfl, bel.frame _, fun h => by cases h⟩
theorem sub_over : Rows.fnExactSubstRow.holds Tryz.pinned (OpenSpec.ofChange Rows.fnExactSubstSpec) :=
 OpenClaim.holds_of_wide 3 Tryz.f3 rfl rfl rfl rfl rfl rfl rfl ⟨rfl, rfl, rfl, rfl, rfl⟩ rfl rfl rfl rfl rfl (by kernel_rfl) Tryz.func3 (by kernel_rfl)
  (of_decide_eq_true (by kernel_rfl)) (by unfold Func.isWrapper; first | (rw [if_pos (by decide +kernel)]; kernel_rfl) | (rw [if_neg (by decide +kernel)]; exact ⟨rfl, rfl⟩))
  (fun os started H enc _ => qqw os started H enc)
end Go.Proofs.YtnoammmohdmnjaaGreat.C13
namespace Go.Proofs.YtnoammmohdmnjaaGreat
theorem fnExactSubst_holds : Rows.FnExactSubstSaid := C13.sub_over
#print axioms fnExactSubst_holds
end Go.Proofs.YtnoammmohdmnjaaGreat
