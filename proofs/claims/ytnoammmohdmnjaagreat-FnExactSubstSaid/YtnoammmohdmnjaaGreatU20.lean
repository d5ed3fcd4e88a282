import Derived.Test.YtnoammmohdmnjaaGreatU19
set_option maxRecDepth 100000
set_option maxHeartbeats 16000000
set_option linter.unusedVariables false
set_option linter.unusedSimpArgs false
namespace Go.Proofs.YtnoammmohdmnjaaGreat.C13
open Go.RowKit Go.Proofs.YtnoammmohdmnjaaGreatW.PrintWords
open List renaming setIfInBounds_toArray → Jla, set_cons_zero → Jlb, set_cons_succ → Jlc
def Hx (x : CoreT) : Prop := bulk x ≤ 274877906944 → ∀ (w : World) (p : Addr), At w x p →
 Calls Tryz.prog 24 #[.pointer (some p)] w (qbn 35 76 x w)
theorem At.below {w w' : World} {x : CoreT} {p : Addr} (h : At w x p) (hb : Below w.heap.size w w') : At w' x p := by
 obtain ⟨A3, c3, A4, c4, A5, c5, A6, c6, hK, g0, g1, g2, g3, g4, g5, g6⟩ := h
 exact ⟨A3, c3, A4, c4, A5, c5, A6, c6, (Ja _ _).K_below hb hK, Cb hb g0, Cb hb g1, Cb hb g2, Cb hb g3, Cb hb g4, Cb hb g5, Cb hb g6⟩
theorem qmq (m : Bool) (A : Option Addr) (c : Nat) (l : List Int) (w : World) (hr : (Kd.int .u32).C w A l.length l) (hc : l.length ≤ c) (hl : l.length ≤ 274877906944) :
  Calls Tryz.prog 52 #[.agg #[.bool m, .slice A l.length c]] w fun e w' => ∃ B d F, e = .returned (.agg #[.bool m, .slice B l.length d]) ∧ Row w' 106 (.slice B l.length d) l.length (Gz .u32 l) F ∧ F.Nodup ∧ (∀ k ∈ F, w.heap.size ≤ k ∧ k < w'.heap.size) ∧ Below w.heap.size w w' := by
 have HR := Wd hr; clear hr
 obtain ⟨W1, hW1, hp1, hB1, hs1⟩ := boxed w [.bool m, .slice A l.length c] 31
 obtain ⟨W2, hW2, hp2, hB2, hs2⟩ := boxed W1 [.bool false, .slice none 0 0] 31
 rw [hs1] at hp2 hs2
 have ⟨HX, HY, HB, HS⟩ := Wj (hp1.below hB2) hp2 (Below.step hB1 hB2) hs2
 clear hp1 hp2 hB1 hB2 hs1 hs2
 rw [hW1] at hW2
 have HW := Wd hW2
 clear hW1 hW2
 go_enter Tryz.func52, Tryz.ntmps52
 go_wp2_with fail
 rw [← HW.out]
 clear HW W1
 have c0 := HX.out.cell (j := 0) rfl; have c1 := HX.out.cell (j := 1) rfl
 have HBD := Wd (show Below W2.heap.size W2 W2.drew from ⟨rfl, rfl, rfl, Nat.le_refl _, fun _ _ => rfl⟩)
 refine Qe [(true, 0), (true, 1), (true, 3), (true, 4), (false, 2), (false, 5), (true, 6), (false, 7)] [7] (fun W' => Below W2.heap.size W2 W') (by kernel_rfl) (by kernel_rfl) (fun _ _ d _ _ h => by cases d <;> exact h) ⟨rfl, rfl, rfl, Nat.le_refl _, fun _ _ => rfl⟩ ?_
 iterate 4
  refine Tb 3 (y := fun w' hSw => by
   have t0 := Cb hSw c0; have t1 := Cb hSw c1
   go_simp
   try with_reducible rfl) (h := ?_)
 refine Run.new (some 5) (fun g => .slice (some ⟨g, 0, none⟩) 0 0) (.cells #[] 106) (by rfl) (by rfl) rfl (fun w' => by go_simp) ?_
 intro w3 hb3 hs3 hh3
 have HB3 := Wd (show Below W2.heap.size W2 w3 from Qa HBD.out hb3)
 have H3 := Wd (show Blk w3 W2.heap.size 106 [] from hh3)
 refine ⟨HB3.out, ?_⟩
 clear hb3 hs3 hh3
 try simp only [Act.put, heap_drew, Nat.reduceAdd, Jla, Jlb, Jlc]
 refine Run.step (some 8) (by rfl) (by rfl) ?_
 intro K hK
 refine qik W2.heap.size rfl _ _ (by rfl) W2.heap.size (by rfl) (Ho H3.out (Nat.le_refl _)) HB3.out.size A c l (by rfl) (Kd.C_below HR.out (Qa HB.out HB3.out)) hl ?_
 intro v w4 ho4 hg4 hat4
 obtain ⟨F, B, d, rfl, hr4, hG, hF⟩ := Guar.row hg4 hat4 ho4
 have HB4 := Wd (HB3.out.grown hg4 HB3.out.size (fun j hj => by injection hj with hj; omega))
 have ⟨HR4, HF, HN⟩ := Wq hr4 hF hG.nd
 change K (Act.put _ (some 8) _) _
 refine hK.out _ _ (fun _ => HB4.out) ?_
 clear hK K ho4 hg4 hat4 hr4 hG hF
 try simp only [Act.put, heap_drew, Nat.reduceAdd, Jla, Jlb, Jlc]
 refine Tb 3 (y := fun w' hSw => by
  have t0 := Cb hSw c0; have t1 := Cb hSw c1
  go_simp
  try with_reducible rfl) (h := ?_)
 have HY4 := Wd (HY.out.below HB4.out); have HZ := Wd HY.out.lt
 refine Run.step none (by rfl) (by rfl) ?_
 intro K hK
 refine Qw (w.heap.size + 1) 0 [] [.bool false, .slice none 0 0] [] [.bool m, .slice B l.length d] 31 (by rfl) 31 _ _ (by rfl) (by rfl) rfl (by rfl) HY4.out rfl (by kernel_rfl) ?honez ?_
 case honez => intro v hv; simp at hv; rcases hv with rfl | rfl <;> rfl
 intro w5 hb5 hg5 hs5
 refine hK.out _ _ (fun h => absurd (by decide) h) ?_
 clear hK K
 have q0 := hb5.cell (j := 0) rfl; have q1 := hb5.cell (j := 1) rfl
 have HR5 := Wd (HR4.out.move (fun k hk => hg5.block k (HR4.out.lt k hk) (fun e => by injection e with e; have := HF.out k hk; have := HZ.out; omega)))
 have HB5 := Wd (Ze (Qa HB.out HB4.out) hg5 (by omega))
 clear hb5 hg5 hs5 c0 c1
 refine Run.nil ?_
 go_wp2
 refine bodyPost_ret (v := .agg #[.bool m, .slice B l.length d]) (by simp [results, Tryz.results52, go_sem, q0, q1]) rfl ?_
 exact ⟨B, d, F, rfl, HR5.out, HN.out, fun k hk => ⟨Nat.le_trans HB.out.size (HF.out k hk), HR5.out.lt k hk⟩, HB5.out⟩
theorem qkq (x : CoreT) (ihk : ∀ y ∈ x.kids, Hx y) (iha : ∀ a ∈ x.alts, Hx a.body) : Hx x := by
 intro hbk w p hAt
 obtain ⟨A3, c3, A4, c4, A5, c5, A6, c6, hK, e0, e1, e2, e3, e4, e5, e6⟩ := hAt
 obtain ⟨A3', c3', A4', c4', A5', c5', A6', c6', hcs, l3, h3, l4, h4, l5, h5, l6, h6⟩ := Qk hK
 simp only [Qb, List.cons.injEq, Value.slice.injEq, and_true, true_and] at hcs
 obtain ⟨⟨rfl, rfl⟩, ⟨rfl, rfl⟩, ⟨rfl, rfl⟩, rfl, rfl⟩ := hcs
 obtain ⟨b1, b2, b3, b4, b5⟩ := Qz hbk
 have ⟨IHK, IHA, HBK⟩ := Wq ihk iha hbk
 have ⟨H3, H4, H5, H6⟩ := Wj h3 h4 h5 h6
 have ⟨E0, E1, E2, E3, E4, E5, E6⟩ := Wk e0 e1 e2 e3 e4 e5 e6
 clear h3 h4 h5 h6 hK ihk iha hbk e0 e1 e2 e3 e4 e5 e6
 obtain ⟨W2, hW2, hp2, hB2, hs2⟩ := Wh w 35
 go_enter Tryz.func24, Tryz.ntmps24
 go_wp2_with fail
 rw [← hW2]
 have BR := Wd hp2
 have HB2 := Wd hB2
 clear hp2 hB2 hW2 hs2
 refine Jg [0, 1, 2, 3, 4, 5, 6, 7, 8, 9, 10, 11, 14, 15, 16, 17] [] ((([12] ++ [13, 18]) ++ [19]) ++ [20]) [21] [19, 20, 25, 26, 3] (by kernel_rfl) (fun W' => Below W2.heap.size W2 W') (Both [26] [3] (qvg x) qvi) (by kernel_rfl) (by kernel_rfl) (fun _ _ d _ _ h => by cases d <;> exact h) (fun _ h => h) ?_
 iterate 16
  refine Yb 7 (y := fun w' hSw => by
   have hw := Qa HB2.out hSw
   have ⟨p0, p1, p2, p3, p4, p5, p6⟩ := Cb7 hw E0.out E1.out E2.out E3.out E4.out E5.out E6.out
   clear hw
   go_simp
   try with_reducible rfl) (h := ?_)
 refine YAll.nil (YAll.nil ⟨?_, ?_⟩)
 ·refine Thr.par (T1 := ([12] ++ [13, 18]) ++ [19]) (T2 := [20]) 4 1 [26] [3] (qvg x) qvi (by kernel_rfl) (Nat.le_refl _) ?_ ?_
  ·refine Thr.seq (T := [12] ++ [13, 18]) (C := [19]) 3 1 [19, 20, 25] (by kernel_rfl) (Both [19] [25] (qvh x) (qkc x.names)) (by kernel_rfl) (by kernel_rfl) (Below.refl _ _) ?_ ?_
   ·refine Thr.par 1 2 [19] [25] (qvh x) (qkc x.names) (by kernel_rfl) (Nat.le_refl _) ?_ ?_
    ·refine Thr.step (some 19) (by rfl) rfl (by kernel_rfl) ?_
     intro w1 hb1 hk1 K hKK
     go_simp
     refine (qmq x.minus A3 c3 x.limbs w1 (Kd.C_below H3.out (Qa HB2.out (Qj hb1))) l3 b2).mono ?_
     rintro e w2 ⟨B, d, F, rfl, hr, hn, hf, hb2⟩
     exact hKK.out _ _ F rfl (hb1.trans (hb2.mono hb1.size)) (Guar.of_below hb2 hn hf) (Thr.done _ (fun w4 hb4 hk4 => ⟨B, d, rfl, hk4.row hr (fun _ h => h)⟩))
    ·refine Thr.new (fun g => .slice (some ⟨g, 0, none⟩) 0 0) (.cells #[] 9) (some 20) (by rfl) rfl (by kernel_rfl) rfl (fun w' hb => by go_simp) ?_
     intro g w' hg1 hg2 hg3 hb
     simp only [Act.put, Jla, Jlb, Jlc]
     refine Thr.copyS (some 25) (by rfl) rfl (by kernel_rfl) rfl _ _ (by rfl) g (by rfl) hg3 hg1 A4 c4 x.names (by rfl) (fun w' hb => Kd.C_below H4.out (Qa HB2.out (Qj hb))) b4 ?_
     exact f50
   ·rintro u w' F hb hnd hF ⟨F1, F2, rfl, ⟨B3, d3, e1, hr1⟩, ⟨B4, d4, e2, hr2⟩⟩
    simp only [List.map_cons, List.map_nil, List.cons.injEq, and_true] at e1 e2
    simp only [qde, List.foldl_cons, List.foldl_nil, Act.put, Jla, Jlb, Jlc, e1, e2]
    refine Thr.value (v := .agg #[.int .i64 x.kind, .string x.name, .bool x.minus, .slice B3 x.limbs.length d3, .slice B4 x.names.length d4, .slice none 0 0, .slice none 0 0]) (some 26) (by rfl) rfl (by kernel_rfl) rfl hnd (fun k hk => (hF k hk).2) (fun w' _ _ => by go_simp) ?_
    exact f67
  ·exact f43
 ·rintro u w' F hb hnd hF ⟨F1, F2, rfl, ⟨B3, d3, B4, d4, F3, F4, e1, rfl, hr3, hr4⟩, ⟨g, e2, rfl, hz⟩⟩
  simp only [List.map_cons, List.map_nil, List.cons.injEq, and_true] at e1 e2
  simp only [qde, List.foldl_cons, List.foldl_nil, Act.put, Jla, Jlb, Jlc, qmf, List.map_cons, List.map_nil, List.getD_cons_succ, List.getD_cons_zero, e1, e2]
  go_wp2_with (refine Wv g [.int .i64 x.kind, .string x.name, .bool x.minus, .slice B3 x.limbs.length d3, .slice B4 x.names.length d4, .slice none 0 0, .slice none 0 0] hz ?_)
  intro w5 hblk5 hg5 hsz5
  have C0 := Wd (qkr hb hnd hF hr3 hr4 hblk5 hg5 hsz5)
  clear hblk5 hg5 hsz5 hz hr3 hr4 hF hnd hb e1 e2
  have HW := Wd (show ∀ (w' : World), Below W2.heap.size W2 w' → Below w.heap.size w w' from fun w' hb => Qa HB2.out hb)
  obtain ⟨_, _, _, _, _, _, _, _, hE0⟩ := C0.out
  have p5 := Cb (HW.out _ hE0.below) E5.out
  clear hE0
  go_wp2_with fail
  clear p5
  go_loopw [32] (fun s4 wr => ∃ (v5 : Value) (k : Nat), k ≤ x.kids.length ∧ s4 = .int .i64 k ∧ Hid (CpI x W2 wr.heap.size g (.slice B3 x.limbs.length d3) (.slice B4 x.names.length d4) v5 (.slice none 0 0) (x.kids.take k) [] wr)) (fun s4 _ => x.kids.length - (intOf s4).toNat)
  case atStart => exact ⟨.slice none 0 0, 0, Nat.zero_le _, rfl, C0⟩
  case round =>
   obtain ⟨v5, k, hk, rfl, HI⟩ := hrel
   obtain ⟨F3, F4, F5, F6, G5, G6, c5', c6', hE⟩ := HI.out
   have p5 := Cb (HW.out _ hE.below) E5.out
   have HE := Wd hE
   clear hE HI
   by_cases hlt : k < x.kids.length
   ·have qk0 : (0 : Int) ≤ (k : Int) := by omega
    have qk1 : (k : Int) < x.kids.length := by omega
    obtain ⟨ad, hA5, hAtk⟩ := Ub (Kd.C_below H5.out (HW.out _ HE.out.below)) k hlt
    have qg := HE.out.blk.cell (j := 5) rfl
    have KK := Wd hAtk; clear hAtk
    subst hA5
    go_wp2_with fail
    refine Jg [0, 1, 2, 3, 4, 5, 6, 7] [] [8, 9] [10, 11, 12] [43, 44] (by kernel_rfl) (fun W' => Below wr.heap.size wr W') (fun u w' F => ∃ h A3 c3 A4 c4 A5 c5 A6 c6 Fy, u 44 = .slice (some ⟨h, 0, none⟩) 1 1 ∧ Blk w' h 35 (Qb x.kids[k] A3 c3 A4 c4 A5 c5 A6 c6) ∧ Ke 35 76 w' x.kids[k] (Qb x.kids[k] A3 c3 A4 c4 A5 c5 A6 c6) Fy ∧ F = Fy ++ [h]) (by kernel_rfl) (by kernel_rfl) (fun _ _ d _ _ h => by cases d <;> exact h) (fun _ h => h) ?_
    iterate 8
     refine Yb 35 (y := fun w' hSw => by
      have r5 := Cb hSw p5; have rg := Cb hSw qg
      go_simp
      try with_reducible rfl) (h := ?_)
    refine YAll.nil (YAll.nil ⟨?_, ?_⟩)
    ·refine Thr.step (some 43) (by rfl) rfl (by kernel_rfl) ?_
     intro w1 hb1 hk1 K hKK
     go_simp
     refine (IHK.out _ (List.getElem_mem hlt) (by have := Qx (List.getElem_mem hlt); have := HBK.out; rw [Qg] at this; omega) w1 _ (KK.out.below (Qj hb1))).mono ?_
     rintro e w2 ⟨cy, Fy, rfl, ho, hn, hf, hb2⟩
     refine hKK.out _ _ Fy rfl (hb1.trans (hb2.mono hb1.size)) (Guar.of_below hb2 hn (fun k hk => ⟨hf k hk, Je _ _ _ ho k hk⟩)) ?_
     obtain ⟨Y3, e3, Y4, e4, Y5, e5, Y6, e6, rfl⟩ := Zi ho
     simp only [Qb] at ho ⊢
     refine Thr.step (some 44) (by rfl) rfl (by kernel_rfl) ?_
     exact f35
    ·rintro u w4 F hb4 hn4 hF4 ⟨h, Y3, e3, Y4, e4, Y5, e5, Y6, e6, Fy, e1, hbl, ho, rfl⟩
     simp only [qde, List.foldl_cons, List.foldl_nil, Act.put, Jla, Jlb, Jlc, qmf, List.map_cons, List.map_nil, List.getD_cons_succ, List.getD_cons_zero, e1]
     have HC := Wd (HE.out.fresh.to (Qj hb4))
     have HTK := Wd (show (x.kids.take k).length = k by rw [List.length_take]; omega)
     have FY := Wd (show (∀ k ∈ Fy, wr.heap.size ≤ k) ∧ Fy.Nodup ∧ wr.heap.size ≤ w4.heap.size from ⟨fun k hk => (hF4 k (List.mem_append_left _ hk)).1, (List.nodup_append.1 hn4).1, hb4.size⟩)
     have OY := Wd ho
     have BW := Wd (HE.out.below.size)
     clear ho hF4 hn4 hb4 p5 qg e1
     exact f22
   ·have hke : x.kids.take k = x.kids := List.take_of_length_le (by omega)
    have C1 := Wd (show CpI x W2 wr.heap.size g (.slice B3 x.limbs.length d3) (.slice B4 x.names.length d4) v5 (.slice none 0 0) x.kids (x.alts.take 0) wr from ⟨_, _, _, _, _, _, _, _, by rw [hke] at HE; exact HE.out⟩)
    have p6 := Cb (HW.out _ HE.out.below) E6.out
    clear hke HE
    go_wp2_with fail
    clear p5 p6 hk hlt
    go_loopw [53] (fun s5 wr => ∃ (v6 : Value) (k : Nat), k ≤ x.alts.length ∧ s5 = .int .i64 k ∧ Hid (CpI x W2 wr.heap.size g (.slice B3 x.limbs.length d3) (.slice B4 x.names.length d4) v5 v6 x.kids (x.alts.take k) wr)) (fun s5 _ => x.alts.length - (intOf s5).toNat)
    case atStart => exact ⟨.slice none 0 0, 0, Nat.zero_le _, rfl, C1⟩
    clear C1
    case round =>
     obtain ⟨v6, k, hk, rfl, HI⟩ := hrel
     obtain ⟨F3, F4, F5, F6, G5, G6, c5', c6', hE⟩ := HI.out
     have p6 := Cb (HW.out _ hE.below) E6.out
     have HE := Wd hE
     clear hE HI
     by_cases hlt : k < x.alts.length
     ·have qk0 : (0 : Int) ≤ (k : Int) := by omega
      have qk1 : (k : Int) < x.alts.length := by omega
      obtain ⟨ad, A1', c1', A3', c3', A4', c4', B5, d5, B6, d6, rfl, hKa, hKb, l1n, gsn, g0, g1, g2, g3, g4, g5, g6, g7, g8⟩ := Yd H6.out (HW.out _ HE.out.below) k hlt
      have hAtk : At wr x.alts[k].body ⟨(ad.add (k * 9)).block, (ad.add (k * 9)).off + 2, none⟩ := ⟨A3', c3', A4', c4', B5, d5, B6, d6, (Ja _ _).K_below (HW.out _ HE.out.below) hKb, g2, g3, g4, g5, g6, g7, g8⟩
      have qg := HE.out.blk.cell (j := 6) rfl
      have KK := Wd hAtk; have GS := Wd gsn; clear hAtk hKa hKb gsn g2 g3 g4 g5 g6 g7 g8
      go_wp2_with fail
      refine Jg [0, 1, 2, 3, 4, 5, 7, 8, 9, 10, 12, 13, 14] [] (([6, 11] ++ [15]) ++ [16, 17]) [18, 19, 20] [68, 73, 77, 78, 79] (by kernel_rfl) (fun W' => Below wr.heap.size wr W') (fun u w' F => CopyA x.alts[k] (u 79) w' F) (by kernel_rfl) (by kernel_rfl) (fun _ _ d _ _ h => by cases d <;> exact h) (fun _ h => h) ?_
      iterate 13
       refine Yb 62 (y := fun w' hSw => by
        have ⟨r0, r1, rg⟩ := Cb3 hSw g0 g1 qg
        go_simp
        try with_reducible rfl) (h := ?_)
      refine YAll.nil (YAll.nil ⟨?_, ?_⟩)
      ·refine Thr.seq (T := [6, 11] ++ [15]) (C := [16, 17]) 3 2 [68, 73, 77] (by kernel_rfl) (Both [73] [77] (qkc x.alts[k].names) (qvf x.alts[k].body)) (by kernel_rfl) (by kernel_rfl) (Below.refl _ _) ?_ ?_
       ·refine Thr.par 2 1 [73] [77] (qkc x.alts[k].names) (qvf x.alts[k].body) (by kernel_rfl) (Nat.le_refl _) ?_ ?_
        ·refine Thr.new (fun g => .slice (some ⟨g, 0, none⟩) 0 0) (.cells #[] 9) (some 68) (by rfl) rfl (by kernel_rfl) rfl (fun w' hb => by go_simp) ?_
         intro g' w' hg1 hg2 hg3 hb
         simp only [Act.put, Jla, Jlb, Jlc]
         refine Thr.copyS (some 73) (by rfl) rfl (by kernel_rfl) rfl _ _ (by rfl) g' (by rfl) hg3 hg1 A1' c1' x.alts[k].names (by rfl) (fun w' hb => Kd.C_below GS.out (Qa (HW.out _ HE.out.below) (Qj hb))) (Hd HBK.out (List.getElem_mem hlt)) ?_
         exact f50
        ·refine Thr.step (some 77) (by rfl) rfl (by kernel_rfl) ?_
         intro w1 hb1 hk1 K hKK
         go_simp
         refine (IHA.out _ (List.getElem_mem hlt) (Vp HBK.out (List.getElem_mem hlt)) w1 _ (KK.out.below (Qj hb1))).mono ?_
         exact f56
       ·rintro u w' F hb hnd hF ⟨F1, F2, rfl, ⟨B, d, e1, hr⟩, ⟨cy, e2, ho⟩⟩
        obtain ⟨Y3, y3, Y4, y4, Y5, y5, Y6, y6, rfl⟩ := Zi ho
        simp only [List.map_cons, List.map_nil, List.cons.injEq, and_true, Qb] at e1 e2
        simp only [qde, List.foldl_cons, List.foldl_nil, Act.put, Jla, Jlb, Jlc, e1, e2]
        refine Thr.value (v := .agg (Yl x.alts[k] B d Y3 y3 Y4 y4 Y5 y5 Y6 y6).toArray) (some 78) (by rfl) rfl (by kernel_rfl) rfl hnd (fun k hk => (hF k hk).2) (fun w' _ _ => by simp only [Yl]; go_simp) ?_
        intro w2 hb2 hk2
        simp only [Yl, Act.put, Jla, Jlb, Jlc]
        refine Thr.step (some 79) (by rfl) rfl (by kernel_rfl) ?_
        exact f24
      ·rintro u w4 F hb4 hn4 hF4 ⟨h, Y1, y1, Y3, y3, Y4, y4, Y5, y5, Y6, y6, Fy, e1, hbl, ho, rfl⟩
       simp only [qde, List.foldl_cons, List.foldl_nil, Act.put, Jla, Jlb, Jlc, qmf, List.map_cons, List.map_nil, List.getD_cons_succ, List.getD_cons_zero, e1]
       have HC := Wd (HE.out.fresh.to (Qj hb4))
       have HTK := Wd (show (x.alts.take k).length = k by rw [List.length_take]; omega)
       have FY := Wd (show (∀ k ∈ Fy, wr.heap.size ≤ k) ∧ Fy.Nodup ∧ wr.heap.size ≤ w4.heap.size from ⟨fun k hk => (hF4 k (List.mem_append_left _ hk)).1, (List.nodup_append.1 hn4).1, hb4.size⟩)
       have OY := Wd ho
       have BW := Wd (HE.out.below.size)
       clear ho hF4 hn4 hb4 p6 g0 g1 qg e1
       exact f21
     ·have hke : x.alts.take k = x.alts := List.take_of_length_le (by omega)
      have C2 := HE.out
      rw [hke] at C2
      have HC2 := Wd C2
      clear C2 hke HE
      obtain ⟨V5, D5, rfl, -⟩ := HC2.out.r5.slice
      obtain ⟨V6, D6, rfl, -⟩ := HC2.out.r6.slice
      have ⟨q0, q1, q2, q3, q4, q5, qq6⟩ := Cz HC2.out.blk
      have BR2 := Wd (BR.out.below HC2.out.below)
      go_wp2_with (refine Wv w.heap.size [.int .i64 x.kind, .string x.name, .bool x.minus, .slice B3 x.limbs.length d3, .slice B4 x.names.length d4, .slice V5 x.kids.length D5, .slice V6 x.alts.length D6] BR2.out ?_)
      intro w5 hblk5 hg5 hsz5
      obtain ⟨F, ho, hn, hge, hne⟩ := HC2.out.own
      have HF := Wd (show Ke 35 76 w5 x [.int .i64 x.kind, .string x.name, .bool x.minus, .slice B3 x.limbs.length d3, .slice B4 x.names.length d4, .slice V5 x.kids.length D5, .slice V6 x.alts.length D6] F ∧ F.Nodup ∧ (∀ k ∈ F, w.heap.size ≤ k) ∧ Below w.heap.size w w5 from
       ⟨Xv ho hg5 (fun k hk => by have := hge k hk; have := BR.out.lt; omega), hn, (fun k hk => Nat.le_trans HB2.out.size (hge k hk)), Ze (HW.out _ HC2.out.below) hg5 (by omega)⟩)
      clear q0 q1 q2 q3 q4 q5 qq6 p6 BR2 HC2 hg5 hsz5 ho hn hge hne
      have ⟨q0, q1, q2, q3, q4, q5, q6⟩ := Cz hblk5
      clear hblk5
      go_wp2
      exact bodyPost_ret (v := .agg #[.int .i64 x.kind, .string x.name, .bool x.minus, .slice B3 x.limbs.length d3, .slice B4 x.names.length d4, .slice V5 x.kids.length D5, .slice V6 x.alts.length D6]) (by simp [results, Tryz.results24, go_sem, q0, q1, q2, q3, q4, q5, q6]) rfl ⟨_, F, rfl, HF.out.1, HF.out.2.1, HF.out.2.2.1, HF.out.2.2.2⟩
theorem qac (x : CoreT) : Hx x := Za Hx (fun c hk ha => qkq c hk ha) x
theorem qxf (g off b1 b2 : Nat) (pre post : List Value) (e : TypeId) (name fr tn : ByteArray) (w : World) (hoff : off + 1 = pre.length) (hb : Blk w g e (pre ++ ([.string name] ++ post))) (h1 : Blk w b1 9 [.string fr]) (h2 : Blk w b2 9 [.string tn]) :
  Calls Tryz.prog 95 #[.pointer (some ⟨g, off, none⟩), .pointer (some ⟨b1, 0, none⟩), .pointer (some ⟨b2, 0, none⟩)] w fun en w' => en = .returned (.tuple #[]) ∧ Blk w' g e (pre ++ ([.string (if name = fr then tn else name)] ++ post)) ∧ But [g] w w' := by
 have HB := Wd hb
 have g0 := Blk.at (o := off + 1) (pre := pre) (c := .string name) (post := post) (by simpa using hb) hoff
 have g1 := h1.cell (j := 0) rfl
 have g2 := h2.cell (j := 0) rfl
 have HOFF := Wd hoff
 clear hb hoff h1 h2
 by_cases he : name = fr
 ·subst he
  go_enter Tryz.func95, Tryz.ntmps95
  go_wp2_with fail
  refine Uq 5 (by kernel_rfl) (by kernel_rfl) ?_
  simp only [List.take_succ_cons, List.take_zero, List.drop_succ_cons, List.drop_zero]
  iterate 5 (refine StillW.step (by kernel_rfl) (fun K hK => ?_); go_simp; refine hK _ ?_; clear hK K)
  refine StillW.done ?_
  go_wp2_with ((refine Qc g (off + 1) pre [.string name] post [.string tn] e rfl 9 (.tmp 13) _ rfl rfl HOFF.out rfl (HB.out.below (Zn (Below.refl _ _))) rfl (by kernel_rfl) (by intro v hv; rw [List.mem_singleton.1 hv]; rfl) ?_))
  intro w3 hb3 hg3 hs3
  have HB3 := Wd hb3; have HG3 := Wd hg3
  clear hb3 hg3 g0 g1 g2
  go_wp2
  go_end0
  exact ⟨rfl, by simpa using HB3.out, (But.of_below (Zn (Below.refl _ _))).trans (But.of_grown HG3.out)⟩
 ·have hne : (name.toList == fr.toList) = false := beq_eq_false_iff_ne.2 (fun h => he (Jz h))
  have hne2 : ¬ name.toList = fr.toList := fun h => he (Jz h)
  have HE := Wd he
  clear he
  go_enter Tryz.func95, Tryz.ntmps95
  go_wp2_with fail
  refine Uq 5 (by kernel_rfl) (by kernel_rfl) ?_
  simp only [List.take_succ_cons, List.take_zero, List.drop_succ_cons, List.drop_zero]
  iterate 5 (refine StillW.step (by kernel_rfl) (fun K hK => ?_); go_simp; refine hK _ ?_; clear hK K)
  refine StillW.done ?_
  go_wp2
  go_end0
  exact ⟨rfl, by have := HB.out.below (Zn (Below.refl w.heap.size w)); simpa [HE.out] using this, But.of_below (Zn (Below.refl _ _))⟩
instance memDec (s : ByteArray) (l : List ByteArray) : Decidable (s ∈ l) := decidable_of_iff (l.any (fun t => decide (t = s)) = true) (by
 rw [List.any_eq_true]
 constructor
 ·rintro ⟨t, ht, he⟩; rw [decide_eq_true_eq] at he; exact he ▸ ht
 ·intro h; exact ⟨s, h, by simp⟩)
mutual
def Vn : CoreT → Prop
 | ⟨k, n, _, _, _, ks, ls⟩ => ((k = 1 → 0 < n.size) ∧ (k ≠ 8 → ls.length = 0) ∧ (k = 8 → ks.length = 1 ∨ ks.length = 2)) ∧ qpg ks ∧ qpd ls
def qpg : List CoreT → Prop
 | [] => True
 | c :: r => Vn c ∧ qpg r
def qpd : List AltT → Prop
 | [] => True
 | a :: r => qrl a ∧ qpd r
def qrl : AltT → Prop
 | ⟨_, _, b⟩ => Vn b
end
def qit (x : CoreT) : Prop := (x.kind = 1 → 0 < x.name.size) ∧ (x.kind ≠ 8 → x.alts.length = 0) ∧ (x.kind = 8 → x.kids.length = 1 ∨ x.kids.length = 2)
theorem Kn (x : CoreT) : Vn x = (qit x ∧ qpg x.kids ∧ qpd x.alts) := by cases x; rw [Vn]; rfl
theorem qrm (a : AltT) : qrl a = Vn a.body := by cases a; rw [qrl]
theorem Js {l : List CoreT} : qpg l ↔ ∀ x ∈ l, Vn x := by
 induction l with
 | nil => simp [qpg]
 | cons c r ih => simp [qpg, ih]
theorem Jr {l : List AltT} : qpd l ↔ ∀ x ∈ l, Vn x.body := by
 induction l with
 | nil => simp [qpd]
 | cons c r ih => simp [qpd, ih, qrm]
theorem Shapes.sane : ∀ x : CoreT, Shapes x → Vn x := by
 refine Za (fun x => Shapes x → Vn x) (fun x ihk iha hs => ?_)
 rw [Ve] at hs
 obtain ⟨hsh, hks, hls⟩ := hs
 rw [Yv] at hks
 rw [Yu] at hls
 rw [Kn, Js, Jr]
 refine ⟨?_, fun c hc => ihk c hc (hks c hc), fun a ha => iha a ha (hls a ha)⟩
 unfold Zw at hsh
 refine ⟨fun h => ?_, fun h => ?_, fun h => ?_⟩
 ·have := hsh.2.2.2.2; omega
 ·omega
 ·have := hsh.2.2.2.2; omega
mutual
def rn (fr tn : ByteArray) : CoreT → CoreT
 | ⟨k, n, m, l, ns, ks, ls⟩ =>
  if k = 1 then ⟨k, if n = fr then tn else n, m, l, ns, ks, ls⟩
  else if (k = 6 ∨ k = 7) ∧ fr ∈ ns then ⟨k, n, m, l, ns, ks, ls⟩
  else ⟨k, n, m, l, ns, Un fr tn (decide (k = 8 ∧ n = fr)) 0 ks, qbl fr tn (decide (n = fr)) ls⟩
def Un (fr tn : ByteArray) (skip : Bool) : Nat → List CoreT → List CoreT
 | _, [] => []
 | i, c :: r => (if skip = true ∧ i = 1 then c else rn fr tn c) :: Un fr tn skip (i + 1) r
def qbl (fr tn : ByteArray) (skip : Bool) : List AltT → List AltT
 | [] => []
 | a :: r => rnA fr tn skip a :: qbl fr tn skip r
def rnA (fr tn : ByteArray) (skip : Bool) : AltT → AltT
 | ⟨con, names, body⟩ => ⟨con, names, if skip = true ∨ fr ∈ names then body else rn fr tn body⟩
end
theorem qjr (fr tn : ByteArray) (x : CoreT) : rn fr tn x = (if x.kind = 1 then { x with name := if x.name = fr then tn else x.name } else if (x.kind = 6 ∨ x.kind = 7) ∧ fr ∈ x.names then x
  else { x with kids := Un fr tn (decide (x.kind = 8 ∧ x.name = fr)) 0 x.kids, alts := qbl fr tn (decide (x.name = fr)) x.alts }) := by cases x; rw [rn]
theorem qgs (fr tn : ByteArray) (skip : Bool) (a : AltT) : rnA fr tn skip a = { a with body := if skip = true ∨ fr ∈ a.names then a.body else rn fr tn a.body } := by cases a; rw [rnA]
theorem Km (fr tn : ByteArray) (skip : Bool) : ∀ (i : Nat) (l : List CoreT), (Un fr tn skip i l).length = l.length
 | _, [] => by rw [Un]
 | i, c :: r => by rw [Un, List.length_cons, List.length_cons, Km fr tn skip (i + 1) r]
theorem Uy (fr tn : ByteArray) (skip : Bool) : ∀ (i : Nat) (l : List CoreT) (j : Nat) (h : j < l.length), (Un fr tn skip i l)[j]'(by rw [Km]; exact h) = if skip = true ∧ i + j = 1 then l[j] else rn fr tn l[j]
 | _, [], j, h => by cases h
 | i, c :: r, j, h => by
  cases j with
  | zero => simp [Un]
  | succ j =>
   simp only [Un, List.getElem_cons_succ]
   rw [Uy fr tn skip (i + 1) r j (by simpa using h), show i + 1 + j = i + (j + 1) by omega]
theorem Vu (fr tn : ByteArray) (skip : Bool) : ∀ (l : List AltT), qbl fr tn skip l = l.map (rnA fr tn skip)
 | [] => by rw [qbl]; rfl
 | a :: r => by rw [qbl, Vu fr tn skip r]; rfl
mutual
def fv (fr tn : ByteArray) (hid : Bool) : CoreT → CoreT
 | ⟨k, n, m, l, ns, ks, ls⟩ =>
  if k = 1 then ⟨k, if hid = false ∧ n = fr then tn else n, m, l, ns, ks, ls⟩
  else if k = 6 ∨ k = 7 then ⟨k, n, m, l, ns, qwd fr tn (hid || decide (fr ∈ ns)) ks, ls⟩
  else if k = 8 then ⟨k, n, m, l, ns, fvC fr tn hid (hid || decide (n ≠ ⟨#[]⟩ ∧ n = fr)) ks, Hv fr tn (hid || decide (n ≠ ⟨#[]⟩ ∧ n = fr)) ls⟩
  else ⟨k, n, m, l, ns, qwd fr tn hid ks, ls⟩
def fvC (fr tn : ByteArray) (hid hid2 : Bool) : List CoreT → List CoreT
 | [] => []
 | c :: r => fv fr tn hid c :: qwd fr tn hid2 r
def qwd (fr tn : ByteArray) (hid : Bool) : List CoreT → List CoreT
 | [] => []
 | c :: r => fv fr tn hid c :: qwd fr tn hid r
def Hv (fr tn : ByteArray) (hid : Bool) : List AltT → List AltT
 | [] => []
 | a :: r => fvA fr tn hid a :: Hv fr tn hid r
def fvA (fr tn : ByteArray) (hid : Bool) : AltT → AltT
 | ⟨con, names, body⟩ => ⟨con, names, fv fr tn (hid || decide (fr ∈ names)) body⟩
end
theorem qjc (fr tn : ByteArray) (hid : Bool) (x : CoreT) : fv fr tn hid x = (if x.kind = 1 then { x with name := if hid = false ∧ x.name = fr then tn else x.name } else if x.kind = 6 ∨ x.kind = 7 then { x with kids := qwd fr tn (hid || decide (fr ∈ x.names)) x.kids }
  else if x.kind = 8 then { x with kids := fvC fr tn hid (hid || decide (x.name ≠ ⟨#[]⟩ ∧ x.name = fr)) x.kids, alts := Hv fr tn (hid || decide (x.name ≠ ⟨#[]⟩ ∧ x.name = fr)) x.alts } else { x with kids := qwd fr tn hid x.kids }) := by cases x; rw [fv]
theorem qkw (fr tn : ByteArray) (hid : Bool) (a : AltT) : fvA fr tn hid a = { a with body := fv fr tn (hid || decide (fr ∈ a.names)) a.body } := by cases a; rw [fvA]
theorem Va (fr tn : ByteArray) (hid : Bool) : ∀ (l : List CoreT), qwd fr tn hid l = l.map (fv fr tn hid)
 | [] => by rw [qwd]; rfl
 | a :: r => by rw [qwd, Va fr tn hid r]; rfl
theorem Hk (fr tn : ByteArray) (hid : Bool) : ∀ (l : List AltT), Hv fr tn hid l = l.map (fvA fr tn hid)
 | [] => by rw [Hv]; rfl
 | a :: r => by rw [Hv, Hk fr tn hid r]; rfl
theorem qkx (fr tn : ByteArray) (hid hid2 : Bool) (l : List CoreT) : fvC fr tn hid hid2 l = match l with | [] => [] | c :: r => fv fr tn hid c :: r.map (fv fr tn hid2) := by
 cases l with
 | nil => rw [fvC]
 | cons c r => rw [fvC, Va]
theorem Hl {α : Type} {f : α → α} {l : List α} (h : ∀ x ∈ l, f x = x) : l.map f = l := by
 conv => rhs; rw [← List.map_id l]
 exact List.map_congr_left h
theorem qsl {fr tn : ByteArray} {hid hid2 : Bool} {l : List CoreT} (h1 : ∀ c ∈ l, fv fr tn hid c = c) (h2 : ∀ c ∈ l, fv fr tn hid2 c = c) : fvC fr tn hid hid2 l = l := by
 rw [qkx]
 cases l with
 | nil => rfl
 | cons c r => simp only; rw [h1 c (by simp), Hl (fun x hx => h2 x (by simp [hx]))]
theorem qoo (fr tn : ByteArray) : ∀ x : CoreT, fv fr tn true x = x := by
 refine Za (fun x => fv fr tn true x = x) (fun x ihk iha => ?_)
 rw [qjc]
 simp only [Bool.true_or, Bool.true_eq_false, false_and, if_false, Va, Hk]
 rw [Hl ihk, qsl ihk ihk, Hl (fun a ha => by rw [qkw]; simp only [Bool.true_or]; rw [iha a ha])]
 cases x
 split
 ·rfl
 ·split
  ·rfl
  ·split <;> rfl
theorem qju {s : ByteArray} (h : 0 < s.size) : s ≠ ⟨#[]⟩ := fun e => by have := Kj.2 e; omega
theorem qcm (tn : ByteArray) : ∀ x : CoreT, Vn x → ∀ hid, fv ⟨#[]⟩ tn hid x = x := by
 refine Za (fun x => Vn x → ∀ hid, fv ⟨#[]⟩ tn hid x = x) (fun x ihk iha hs hid => ?_)
 rw [Kn] at hs
 obtain ⟨hsh, hks, hls⟩ := hs
 rw [Js] at hks
 rw [Jr] at hls
 have hk1 : ∀ b, ∀ c ∈ x.kids, fv ⟨#[]⟩ tn b c = c := fun b c hc => ihk c hc (hks c hc) b
 have ha1 : ∀ b, ∀ a ∈ x.alts, fvA ⟨#[]⟩ tn b a = a := fun b a ha => by rw [qkw, iha a ha (hls a ha)]
 rw [qjc, Va, Va, Hk, Hl (hk1 _), Hl (hk1 hid), qsl (hk1 _) (hk1 _), Hl (ha1 _)]
 split
 ·rename_i hk
  have hn : x.name ≠ ⟨#[]⟩ := by
   unfold qit at hsh
   refine qju ?_
   omega
  rw [if_neg (fun h => hn h.2)]
  cases x; rfl
 ·cases x
  split
  ·rfl
  ·split <;> rfl
theorem fv_rn (fr tn : ByteArray) : ∀ x : CoreT, Vn x → fv fr tn false x = rn fr tn x := by
 refine Za (fun x => Vn x → fv fr tn false x = rn fr tn x) (fun x ihk iha hs => ?_)
 have hs' := hs
 rw [Kn] at hs
 obtain ⟨hsh, hks, hls⟩ := hs
 rw [Js] at hks
 rw [Jr] at hls
 have hks1 : ∀ skip, skip = false → x.kids.map (fv fr tn false) = Un fr tn skip 0 x.kids := fun skip h => by
  subst h
  apply List.ext_getElem
  ·simp [Km]
  ·intro i h1 h2
   rw [Uy fr tn false 0 x.kids i (by simpa using h1)]
   simp only [List.getElem_map, Bool.false_eq_true, false_and, if_false]
   exact ihk _ (List.getElem_mem _) (hks _ (List.getElem_mem _))
 have halt : x.kind ≠ 8 → x.alts = [] := fun h => by
  unfold qit at hsh
  exact List.eq_nil_of_length_eq_zero (by omega)
 rw [qjc, qjr]
 by_cases h1 : x.kind = 1
 ·rw [if_pos h1, if_pos h1]; simp only [true_and]
 rw [if_neg h1, if_neg h1]
 by_cases h67 : x.kind = 6 ∨ x.kind = 7
 ·rw [if_pos h67]
  have h8 : x.kind ≠ 8 := by omega
  by_cases hm : fr ∈ x.names
  ·rw [if_pos ⟨h67, hm⟩, Va, Hl (fun c _ => by rw [decide_eq_true hm, Bool.or_true]; exact qoo _ _ c)]
   cases x; rfl
  ·rw [if_neg (show ¬((x.kind = 6 ∨ x.kind = 7) ∧ fr ∈ x.names) from fun h => hm h.2), Va, decide_eq_false hm, Bool.or_false, hks1 (decide (x.kind = 8 ∧ x.name = fr)) (decide_eq_false (fun h => h8 h.1)), halt h8]
   rw [qbl]
 ·rw [if_neg h67, if_neg (show ¬((x.kind = 6 ∨ x.kind = 7) ∧ fr ∈ x.names) from fun h => h67 h.1)]
  by_cases h8 : x.kind = 8
  ·rw [if_pos h8]
   have hlen : x.kids.length = 1 ∨ x.kids.length = 2 := by unfold qit at hsh; omega
   by_cases he : fr = ⟨#[]⟩
   ·subst he
    have ha : Hv ⟨#[]⟩ tn (false || decide (x.name ≠ ⟨#[]⟩ ∧ x.name = ⟨#[]⟩)) x.alts = x.alts := by
     rw [Hk, decide_eq_false (fun h => h.1 h.2)]
     exact Hl (fun a ha => by rw [qkw, qcm tn _ (hls a ha)])
    have hb : qbl ⟨#[]⟩ tn (decide (x.name = ⟨#[]⟩)) x.alts = x.alts := by
     rw [Vu]
     exact Hl (fun a ha => by
      rw [qgs]
      split
      ·rfl
      ·rw [← iha a ha (hls a ha), qcm tn _ (hls a ha)])
    have hk : fvC ⟨#[]⟩ tn false (false || decide (x.name ≠ ⟨#[]⟩ ∧ x.name = ⟨#[]⟩)) x.kids = x.kids := qsl (fun c hc => qcm tn _ (hks c hc) _) (fun c hc => qcm tn _ (hks c hc) _)
    have hk2 : Un ⟨#[]⟩ tn (decide (x.kind = 8 ∧ x.name = ⟨#[]⟩)) 0 x.kids = x.kids := by
     apply List.ext_getElem
     ·rw [Km]
     ·intro i h1 h2
      rw [Uy _ _ _ 0 x.kids i h2]
      split
      ·rfl
      ·rw [← ihk _ (List.getElem_mem _) (hks _ (List.getElem_mem _)), qcm tn _ (hks _ (List.getElem_mem _))]
    rw [ha, hb, hk, hk2]
   ·have hd : decide (x.name ≠ ⟨#[]⟩ ∧ x.name = fr) = decide (x.name = fr) := by
     rw [decide_eq_decide]
     exact ⟨fun h => h.2, fun h => ⟨fun h0 => he (h.symm.trans h0), h⟩⟩
    have hd2 : decide (x.kind = 8 ∧ x.name = fr) = decide (x.name = fr) := by
     rw [decide_eq_decide]
     exact ⟨fun h => h.2, fun h => ⟨h8, h⟩⟩
    rw [Bool.false_or, hd, hd2]
    have hA : Hv fr tn (decide (x.name = fr)) x.alts = qbl fr tn (decide (x.name = fr)) x.alts := by
     rw [Hk, Vu]
     refine List.map_congr_left fun a ha => ?_
     rw [qkw, qgs]
     by_cases hn : x.name = fr
     ·rw [decide_eq_true hn, Bool.true_or, qoo, if_pos (.inl rfl)]
     ·rw [decide_eq_false hn, Bool.false_or]
      by_cases hm : fr ∈ a.names
      ·rw [decide_eq_true hm, qoo, if_pos (.inr hm)]
      ·rw [decide_eq_false hm, iha a ha (hls a ha), if_neg (by simp [hm])]
    have hK : fvC fr tn false (decide (x.name = fr)) x.kids = Un fr tn (decide (x.name = fr)) 0 x.kids := by
     rw [qkx]
     cases hkk : x.kids with
     | nil => rw [Un]
     | cons c r =>
      simp only
      rw [Un, if_neg (by simp), ihk c (by rw [hkk]; simp) (hks c (by rw [hkk]; simp))]
      refine congrArg _ ?_
      cases r with
      | nil => rw [Un]; rfl
      | cons d r =>
       have hr : r = [] := by rw [hkk] at hlen; simp at hlen; exact hlen
       subst hr
       rw [Un, Un]
       simp only [List.map_cons, List.map_nil, List.cons.injEq, and_true]
       by_cases hn : x.name = fr
       ·rw [decide_eq_true hn, qoo, if_pos (by simp)]
       ·rw [decide_eq_false hn, if_neg (by simp)]
        exact ihk d (by rw [hkk]; simp) (hks d (by rw [hkk]; simp))
    rw [hA, hK]
  ·rw [if_neg h8, Va, hks1 (decide (x.kind = 8 ∧ x.name = fr)) (decide_eq_false (fun h => h8 h.1)), halt h8]
   rw [qbl]
end Go.Proofs.YtnoammmohdmnjaaGreat.C13
