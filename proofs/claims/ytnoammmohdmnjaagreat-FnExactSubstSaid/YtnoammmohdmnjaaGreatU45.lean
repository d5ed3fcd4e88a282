import Derived.Test.YtnoammmohdmnjaaGreatU37
import Derived.Test.YtnoammmohdmnjaaGreatU44
set_option maxRecDepth 100000
set_option maxHeartbeats 16000000
set_option linter.unusedVariables false
set_option linter.unusedSimpArgs false
namespace Go.Proofs.YtnoammmohdmnjaaGreat.C13
open Go.RowKit Go.Proofs.YtnoammmohdmnjaaGreatW.PrintWords
open List renaming setIfInBounds_toArray → Jla, set_cons_zero → Jlb, set_cons_succ → Jlc
theorem qyu {w : World} {x : CoreT} {g : Nat} {A3 A4 A5 A6 : Option Addr} {a3 a4 a5 a6 : Nat} (hb : Blk w g 35 [.int .i64 x.kind, .string x.name, .bool x.minus, .slice A3 x.limbs.length a3, .slice A4 x.names.length a4, .slice A5 x.kids.length a5, .slice A6 x.alts.length a6]) (hK : IC.K w x (Qb x A3 a3 A4 a4 A5 a5 A6 a6)) : At w x ⟨g, 0, none⟩ :=
 ⟨A3, a3, A4, a4, A5, a5, A6, a6, hK, hb.cell (j := 0) rfl, hb.cell (j := 1) rfl, hb.cell (j := 2) rfl, hb.cell (j := 3) rfl, hb.cell (j := 4) rfl, hb.cell (j := 5) rfl, hb.cell (j := 6) rfl⟩
theorem qst (nm : ByteArray) (x bt : CoreT) (hnm : nm.size ≤ 1048576) (hx : bulk x ≤ 1048576) (hb : bulk bt ≤ 1048576) (w : World) (cs ds : List Value) (hK : IC.K w x cs) (hL : IC.K w bt ds) :
  Calls Tryz.prog 7 #[.agg cs.toArray, .string nm, .agg ds.toArray] w (qbn 35 76 (Yq nm bt x) w) := by
 obtain ⟨A3, a3, A4, a4, A5, a5, A6, a6, rfl, -⟩ := Qk hK
 obtain ⟨B3, b3, B4, b4, B5, b5, B6, b6, rfl, -⟩ := Qk hL
 have ⟨HBX, HBB, HNM⟩ := Wq hx hb hnm
 have hmm := @run_makeMap Tryz.prog
 have hmf : ∀ (fn : Fn) (first cap : Array Value) (w : World), (Instr.makeFunc fn first cap).run Tryz.prog w = .ok (.func fn first cap) w := fun _ _ _ _ => rfl
 obtain ⟨W1, hW1, hp1, hB1, hs1⟩ := Wy w x A3 a3 A4 a4 A5 a5 A6 a6 35
 obtain ⟨W2, hW2, hp2, hB2, hs2⟩ := boxed W1 [.string nm] 9
 obtain ⟨W3, hW3, hp3, hB3, hs3⟩ := Wy W2 bt B3 b3 B4 b4 B5 b5 B6 b6 35
 obtain ⟨W4, hW4, hp4, hB4, hs4⟩ := Wh W3 35
 rw [hs1] at hp2 hs2
 rw [hs2] at hp3 hs3
 rw [hs3] at hp4 hs4
 have ⟨HX, HN, HY, HR4⟩ := Wj (((hp1.below hB2).below hB3).below hB4) ((hp2.below hB3).below hB4) (hp3.below hB4) hp4
 have HB4 := Wd (Below.step (Below.step (Below.step hB1 hB2) hB3) hB4); have HS4 := Wd hs4
 have HK := Wd ((Ja _ _).K_below HB4.out hK); have HL := Wd ((Ja _ _).K_below HB4.out hL)
 have HAX := Wd (qyu HX.out HK.out); have HAY := Wd (qyu HY.out HL.out)
 clear hp1 hp2 hp3 hp4 hB1 hB2 hB3 hB4 hs1 hs2 hs3 hs4 hK hL hx hb hnm
 rw [hW3, hW2, hW1] at hW4
 have HW4 := Wd hW4
 clear hW1 hW2 hW3 hW4
 simp only [Qb]
 go_enter Tryz.func7, Tryz.ntmps7
 go_wp2_with fail
 rw [← HW4.out]
 clear HW4 W1 W2 W3
 refine (qac x (by have := HBX.out; omega) W4 ⟨w.heap.size, 0, none⟩ HAX.out).mono ?_
 rintro e w5 ⟨c5, F5, rfl, ho, hn, hf, hb⟩
 obtain ⟨D3, d3, D4, d4, D5, d5, D6, d6, rfl⟩ := Zi ho
 have HO5 := Wd (show Own7 w5 x (.slice D3 x.limbs.length d3) (.slice D4 x.names.length d4) (.slice D5 x.kids.length d5) (.slice D6 x.alts.length d6) F5 from ⟨ho, hn⟩)
 have ⟨HF5, HB5, HLT5⟩ := Wq hf hb (Je _ _ _ ho)
 clear ho hn hf hb
 simp only [Qb]
 have hz := Wd (Jm w5 35 [.int .i64 0, .string ⟨#[]⟩, .bool false, .slice none 0 0, .slice none 0 0, .slice none 0 0, .slice none 0 0])
 go_wp2_with (refine Wv w5.heap.size [.int .i64 x.kind, .string x.name, .bool x.minus, .slice D3 x.limbs.length d3, .slice D4 x.names.length d4, .slice D5 x.kids.length d5, .slice D6 x.alts.length d6] hz.out ?_)
 intro w6 hb6 hg6 hs6
 have HB56 := Wd (show Below w5.heap.size w5 w6 from ((Below.refl _ _).alloc (Nat.le_refl _) _).grown hg6 (by simp) (fun j hj => by injection hj with hj; omega))
 have HG := Wd hb6
 have HLT := Wd (show w5.heap.size < w6.heap.size from hb6.lt)
 have HO := Wd (HO5.out.move (fun k hk => HB56.out.block k (HLT5.out k hk)))
 have HB6 := Wd (show Below W4.heap.size W4 w6 from Qa HB5.out HB56.out)
 clear hz hb6 hg6 hs6 HO5
 have HBZ := Wd (show Below w6.heap.size w6 w6 from Below.refl _ _)
 have ⟨p0, p1, p2, p3, p4, p5, p6⟩ := Cz (HX.out.below HB6.out)
 go_wp2_with fail
 refine (qge x (by have := HBX.out; omega) _ _ ((Ja _ _).K_below HB6.out HK.out)).mono ?_
 rintro e w7 ⟨f, rfl, hgood, hb⟩
 replace HBZ := Wd (Qa HBZ.out hb)
 clear hb p0 p1 p2 p3 p4 p5 p6
 by_cases hg : Good x
 case' pos =>
  obtain rfl := hgood.2 hg
  have HGX := Wd hg
  clear hgood hg
  have ⟨p0, p1, p2, p3, p4, p5, p6⟩ := Cz (HY.out.below (Qa HB6.out HBZ.out))
  go_wp2_with fail
  refine (qge bt (by have := HBB.out; omega) _ _ ((Ja _ _).K_below (Qa HB6.out HBZ.out) HL.out)).mono ?_
  rintro e w8 ⟨f, rfl, hgood, hb⟩
  replace HBZ := Wd (Qa HBZ.out hb)
  clear hb p0 p1 p2 p3 p4 p5 p6
  by_cases hg : Good bt
  case' pos =>
   obtain rfl := hgood.2 hg
   have HGB := Wd hg
   clear hgood hg
   have hz := Wd (Jm w8 3 [.int .i64 0])
   go_wp2_with (refine Wv w8.heap.size [.int .i64 0] hz.out ?_)
   intro w9 hb9 hg9 hs9
   have HB9 := Wd (show Below w8.heap.size w8 w9 from ((Below.refl _ _).alloc (Nat.le_refl _) _).grown hg9 (by simp) (fun j hj => by injection hj with hj; omega))
   have H9 := Wd hb9
   have hal : Below w9.heap.size w9 (w9.alloc (.map #[] 0)) := (Below.refl _ _).alloc (Nat.le_refl _) _
   have HQ := Wd (show qyt w8 w8.heap.size nm [] [w8.heap.size] (w9.alloc (.map #[] 0)) from ⟨rfl, Qa HB9.out hal, by have h := hb9.below hal; have e : wrap64 ((nIn [] nm : Nat) : Int) = 0 := qdy 0 (by omega); rw [e]; exact h⟩)
   have HB48 := Wd (Qa HB6.out HBZ.out)
   have HL9 := Wd (qrj (S := w8) (bc := w8.heap.size) (bn := w.heap.size + 1) (b := w9.heap.size) (nm := nm) (HN.out.below HB48.out) (Nat.le_refl _) HB9.out.size (by have := hb9.lt; omega))
   clear hz hb9 hg9 hs9 hal
   go_wp2_with fail
   refine (qmt x HGX.out.sane (by have := HBX.out; omega) w8 _ ⟨w.heap.size, 0, none⟩ w9.heap.size 0 _ _ _ (fun _ => 0) [] [] _ HL9.out (HAX.out.below HB48.out) (fun s => by simp) (CountM.made w9) (by have := HBX.out; omega) HQ.out (Nat.le_refl _)).mono ?_
   rintro en w10 ⟨rfl, h7⟩
   obtain ⟨G7, ⟨-, hb7, k1⟩, -⟩ := h7.ex
   have hsm : Qt nm x ≤ 20000 := by have := qdb nm x HGX.out.sane; have := HGX.out.1; omega
   rw [List.nil_append, qgz x HGX.out.sane, qdy _ (by omega)] at k1
   replace HBZ := Wd (Qa HBZ.out hb7)
   have c0 := k1.cell (j := 0) rfl
   clear h7 hb7 k1 HQ HL9 H9 HB9 HB48 hsm
   go_wp2_with fail
   have HBW := Wd (show Below w10.heap.size w10 w10.drew from ⟨rfl, rfl, rfl, Nat.le_refl _, fun _ _ => rfl⟩)
   refine Qe [(true, 1), (false, 0), (false, 2), (true, 3), (true, 4), (true, 5), (true, 6)] [] (fun W' => Below w10.heap.size w10 W') (by kernel_rfl) (by kernel_rfl) (fun _ _ d _ _ h => by cases d <;> exact h) ⟨rfl, rfl, rfl, Nat.le_refl _, fun _ _ => rfl⟩ ?_
   refine Tb 22 (y := fun w' hSw => by
    have t0 := Cb hSw c0
    go_simp
    try with_reducible rfl) (h := ?_)
   refine Run.step (some 22) (by rfl) (by rfl) ?_
   intro K hK
   go_simp
   refine (qda x HGX.out.2.2 (by have := HBX.out; omega) (by have := HGX.out.1; omega) _ _ (HAX.out.below (Qa (Qa HB6.out HBZ.out) HBW.out))).mono ?_
   rintro e w11 ⟨rfl, hb⟩
   replace HBW := Wd (Qa HBW.out hb)
   refine hK.out _ _ (fun _ => HBW.out) ?_
   clear hK K hb
   try simp only [Act.put, heap_drew, Nat.reduceAdd, Jla, Jlb, Jlc]
   refine Run.step (some 24) (by rfl) (by rfl) ?_
   intro K hK
   go_simp
   refine (qda bt HGB.out.2.2 (by have := HBB.out; omega) (by have := HGB.out.1; omega) _ _ (HAY.out.below (Qa (Qa HB6.out HBZ.out) HBW.out))).mono ?_
   rintro e w12 ⟨rfl, hb⟩
   replace HBW := Wd (Qa HBW.out hb)
   refine hK.out _ _ (fun _ => HBW.out) ?_
   clear hK K hb
   try simp only [Act.put, heap_drew, Nat.reduceAdd, Jla, Jlb, Jlc]
   have hT : Qt nm x ≤ 20000 := by have := qdb nm x HGX.out.sane; have := HGX.out.1; omega
   have hm : 0 ≤ (Qt nm x : Int) * ((Qr bt : Int) - 1) ∧ (Qt nm x : Int) * ((Qr bt : Int) - 1) ≤ 400000000 := by
    have h1 := qar bt; have h2 := HGB.out.1
    refine ⟨Int.mul_nonneg (by omega) (by omega), ?_⟩
    have := Int.mul_le_mul (show (Qt nm x : Int) ≤ 20000 by omega) (show ((Qr bt : Int) - 1) ≤ 20000 by omega) (by omega) (by omega)
    omega
   have e1 : wrap64 ((Qr bt : Int) - 1) = (Qr bt : Int) - 1 := by have := HGB.out.1; have := qar bt; unfold wrap64; omega
   obtain ⟨M, hM⟩ : ∃ M : Int, M = (Qt nm x : Int) * ((Qr bt : Int) - 1) := ⟨_, rfl⟩
   rw [← hM] at hm
   have e2 : wrap64 M = M := by unfold wrap64; omega
   have e3 : wrap64 ((Qr x : Int) + M) = (Qr x : Int) + M := by have := HGX.out.1; unfold wrap64; omega
   have ⟨HM, E1, E2, E3⟩ := Wj hM e1 e2 e3
   clear hM e1 e2 e3 hT hm
   refine Tb 22 (v := .int .i64 ((Qr bt : Int) - 1)) (y := fun w' hSw => by
    go_simp
    all_goals simp [Ht, E1.out]) (h := ?_)
   refine Tb 22 (v := .int .i64 M) (y := fun w' hSw => by
    go_simp
    all_goals simp [Ht, ← HM.out, E2.out]) (h := ?_)
   refine Tb 22 (v := .int .i64 ((Qr x : Int) + M)) (y := fun w' hSw => by
    go_simp
    all_goals simp [Ht, E3.out]) (h := ?_)
   by_cases hm : 20000 < (Qr x : Int) + M
   case' neg =>
    refine Tb 22 (v := .bool false) (y := fun w' hSw => by
     go_simp
     all_goals simp [hm]) (h := ?_)
    have HF := Wd (show Fits2 nm x bt from ⟨HGX.out, HGB.out, by rw [← HM.out]; omega⟩)
    replace HBZ := Wd (Qa HBZ.out HBW.out)
    clear hm HM E1 E2 E3 c0 HBW
    refine Run.nil ?_
    have HB4Z := Wd (Qa HB6.out HBZ.out)
    have c0 := (HN.out.below HB4Z.out).cell (j := 0) rfl
    go_wp2_with fail
    clear c0
    refine (qqx nm x bt (by have := HNM.out; omega) (HF.out.pre HBX.out HBB.out) HGB.out HBB.out _ W4 w5.heap.size 0 35 [] [] _ _ _ _ F5 ⟨w.heap.size + 1 + 1, 0, none⟩ HAY.out HB4Z.out rfl (HG.out.below HBZ.out) (HO.out.move (fun k hk => HBZ.out.block k (HO.out.lt k hk))) (fun hh => absurd (HLT5.out _ hh) (Nat.lt_irrefl _)) (fun i hi => (List.mem_cons.1 hi).elim (fun h => by rw [h]; exact HB5.out.size) (HF5.out i))).mono ?_
    rintro en w14 ⟨rfl, u3, u4, u5, u6, F14, hO, hb, hs, hbt⟩
    have HPO := Wd ((qcz (HGB.out.env HBB.out) (dep x) x (HF.out.pre HBX.out HBB.out)).fit (HF.out.pre HBX.out HBB.out)).bulk
    obtain ⟨y, hy⟩ : ∃ y, y = Jb nm bt (qad bt) (qbk bt) (dep x) x := ⟨_, rfl⟩
    rw [← hy] at hO hb HPO
    obtain ⟨U3, u3', U4, u4', U5, u5', U6, u6', rfl, rfl, rfl, rfl, -⟩ := hO.form
    have HY14 := Wd hy; have HO14 := Wd hO
    have HG14 := Wd (show Blk w14 w5.heap.size 35 [.int .i64 y.kind, .string y.name, .bool y.minus, .slice U3 y.limbs.length u3', .slice U4 y.names.length u4', .slice U5 y.kids.length u5', .slice U6 y.alts.length u6'] from hb)
    have HF14 := Wd (show ∀ k ∈ F14, W4.heap.size ≤ k from fun k hk => (hs k hk).elim (HF5.out k) (Nat.le_trans HB4Z.out.size))
    have HB14 := Wd (show Below W4.heap.size W4 w14 from HB4Z.out.trans (hbt.below (fun i hi => (List.mem_cons.1 hi).elim (fun h => by rw [h]; exact HB5.out.size) (HF5.out i)) HB4Z.out.size))
    clear hO hb hs hbt hy HO HG HBZ HB4Z HLT HLT5 HB56 HB6 HB5 HF5
    have ⟨c0, c1, c2, c3, c4, c5, c6⟩ := Cz HG14.out
    go_wp2_with fail
    refine (qge y HPO.out w14 _ (Yo HO14.out.own)).mono ?_
    rintro e w15 ⟨f, rfl, hgood, hb⟩
    have HB15 := Wd (Qa HB14.out hb)
    have HO15 := Wd (HO14.out.move (fun k hk => hb.block k (HO14.out.lt k hk)))
    have HG15 := Wd (HG14.out.below hb)
    clear hb c0 c1 c2 c3 c4 c5 c6 HO14 HG14 HB14
    by_cases hg : Good y
    ·obtain rfl := hgood.2 hg
     have HR := Wd (show Yq nm bt x = y from by rw [HY14.out] at hg ⊢; exact qim HF.out hg)
     clear hgood hg HY14
     have ⟨c0, c1, c2, c3, c4, c5, c6⟩ := Cz HG15.out
     have HRZ := Wd (HR4.out.below HB15.out)
     go_wp2_with (refine Wv (w.heap.size + 1 + 1 + 1) [.int .i64 y.kind, .string y.name, .bool y.minus, .slice U3 y.limbs.length u3', .slice U4 y.names.length u4', .slice U5 y.kids.length u5', .slice U6 y.alts.length u6'] HRZ.out ?_)
     intro w16 hblk hg hsz
     have ⟨q0, q1, q2, q3, q4, q5, q6⟩ := Cz hblk
     have HGG := Wd hg
     clear hblk hg
     go_wp2
     refine bodyPost_ret (v := .agg #[.int .i64 y.kind, .string y.name, .bool y.minus, .slice U3 y.limbs.length u3', .slice U4 y.names.length u4', .slice U5 y.kids.length u5', .slice U6 y.alts.length u6']) (by simp [results, Tryz.results7, go_sem, q0, q1, q2, q3, q4, q5, q6]) rfl ?_
     have hd := Ge HB4.out HR4.out.lt (by omega) HB15.out HO15.out.own HF14.out HGG.out
     rw [HR.out]
     exact ⟨_, F14, rfl, hd.1, HO15.out.nd, hd.2.1, hd.2.2⟩
    ·have hf0 : ¬ f = 0 := fun h => hg (hgood.1 h)
     have hf1 : (f == 0) = false := beq_eq_false_iff_ne.2 hf0
     have HR := Wd (show Yq nm bt x = x from by rw [HY14.out] at hg; exact Vi (fun _ => hg))
     clear hgood hg HY14
     go_wp2_with fail
     clear hf0 hf1
     refine (qac x (by have := HBX.out; omega) w15 ⟨w.heap.size, 0, none⟩ (HAX.out.below HB15.out)).mono ?_
     rintro e w16 ⟨c16, F16, rfl, ho, hn, hf, hb⟩
     obtain ⟨E3, e3, E4, e4, E5, e5, E6, e6, rfl⟩ := Zi ho
     have ⟨HO16, HN16, HF16, HB16⟩ := Wj ho hn hf hb
     have HB05 := Wd (show Below w.heap.size w w15 from Qa HB4.out HB15.out)
     have HRW := Wd (HR4.out.below HB15.out)
     have HRZ := Wd (HRW.out.below hb)
     clear ho hn hf hb HG15 HO15
     simp only [Qb]
     go_wp2_with (refine Wv (w.heap.size + 1 + 1 + 1) [.int .i64 x.kind, .string x.name, .bool x.minus, .slice E3 x.limbs.length e3, .slice E4 x.names.length e4, .slice E5 x.kids.length e5, .slice E6 x.alts.length e6] HRZ.out ?_)
     intro w17 hblk hg hsz
     have ⟨q0, q1, q2, q3, q4, q5, q6⟩ := Cz hblk
     have HGG := Wd hg
     clear hblk hg
     go_wp2
     refine bodyPost_ret (v := .agg #[.int .i64 x.kind, .string x.name, .bool x.minus, .slice E3 x.limbs.length e3, .slice E4 x.names.length e4, .slice E5 x.kids.length e5, .slice E6 x.alts.length e6]) (by simp [results, Tryz.results7, go_sem, q0, q1, q2, q3, q4, q5, q6]) rfl ?_
     have hd := Ge HB05.out HRW.out.lt (by omega) HB16.out HO16.out HF16.out HGG.out
     rw [HR.out]
     exact ⟨_, F16, rfl, hd.1, HN16.out, hd.2.1, hd.2.2⟩
   rotate_right
   case' pos =>
    have HR := Wd (show Yq nm bt x = x from Vi (fun h => absurd h.2.2 (by rw [← HM.out]; omega)))
    refine Tb 22 (v := .bool true) (y := fun w' hSw => by
     go_simp
     all_goals simp [hm]) (h := ?_)
    clear hm HM E1 E2 E3 HGX HGB
    replace HBZ := Wd (Qa HBZ.out HBW.out)
    have ⟨c0, c1, c2, c3, c4, c5, c6⟩ := Cz (HG.out.below HBZ.out)
    have HRZ := Wd (HR4.out.below (Qa HB6.out HBZ.out))
    clear HBW
    refine Run.nil ?way3
  rotate_right
  case' neg =>
   have hf0 : ¬ f = 0 := fun h => hg (hgood.1 h)
   have hf1 : (f == 0) = false := beq_eq_false_iff_ne.2 hf0
   have HR := Wd (show Yq nm bt x = x from Vi (fun h => absurd h.2.1 hg))
   have ⟨c0, c1, c2, c3, c4, c5, c6⟩ := Cz (HG.out.below HBZ.out)
   have HRZ := Wd (HR4.out.below (Qa HB6.out HBZ.out))
   clear hgood hg
   refine ?way2
 rotate_right
 case' neg =>
  have hf0 : ¬ f = 0 := fun h => hg (hgood.1 h)
  have hf1 : (f == 0) = false := beq_eq_false_iff_ne.2 hf0
  have HR := Wd (show Yq nm bt x = x from Vi (fun h => absurd h.1 hg))
  have ⟨c0, c1, c2, c3, c4, c5, c6⟩ := Cz (HG.out.below HBZ.out)
  have HRZ := Wd (HR4.out.below (Qa HB6.out HBZ.out))
  clear hgood hg
  refine ?way1
 all_goals
  have HOZ := Wd (HO.out.move (fun k hk => HBZ.out.block k (HO.out.lt k hk)))
  have HB4Z := Wd (Qa HB6.out HBZ.out)
  go_wp2_with (refine Wv (w.heap.size + 1 + 1 + 1) [.int .i64 x.kind, .string x.name, .bool x.minus, .slice D3 x.limbs.length d3, .slice D4 x.names.length d4, .slice D5 x.kids.length d5, .slice D6 x.alts.length d6] HRZ.out ?_)
  intro w18 hblk hg hsz
  have ⟨q0, q1, q2, q3, q4, q5, q6⟩ := Cz hblk
  have HGG := Wd hg
  clear hblk hg
  go_wp2
  refine bodyPost_ret (v := .agg #[.int .i64 x.kind, .string x.name, .bool x.minus, .slice D3 x.limbs.length d3, .slice D4 x.names.length d4, .slice D5 x.kids.length d5, .slice D6 x.alts.length d6]) (by simp [results, Tryz.results7, go_sem, q0, q1, q2, q3, q4, q5, q6]) rfl ?_
  have hd := Ge HB4.out HR4.out.lt (by omega) HB4Z.out HOZ.out.own HF5.out HGG.out
  rw [HR.out]
  exact ⟨_, F5, rfl, hd.1, HOZ.out.nd, hd.2.1, hd.2.2⟩
end Go.Proofs.YtnoammmohdmnjaaGreat.C13
