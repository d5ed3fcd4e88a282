import Derived.Test.YtnoammmohdmnjaaGreatU30
set_option maxRecDepth 100000
set_option maxHeartbeats 16000000
set_option linter.unusedVariables false
set_option linter.unusedSimpArgs false
namespace Go.Proofs.YtnoammmohdmnjaaGreat.C13
open Go.RowKit Go.Proofs.YtnoammmohdmnjaaGreatW.PrintWords
open List renaming setIfInBounds_toArray → Jla, set_cons_zero → Jlb, set_cons_succ → Jlc
theorem Ge {w W2 w3 w5 : World} {F : List Nat} {y : CoreT} {cs : List Value} {g : Nat} (h2 : Below w.heap.size w W2) (hgW : g < W2.heap.size) (hg : w.heap.size ≤ g) (h3 : Below W2.heap.size W2 w3) (ho : Ke 35 76 w3 y cs F) (hF : ∀ k ∈ F, W2.heap.size ≤ k) (h5 : w3.grownBy w5 (some g)) :
  Ke 35 76 w5 y cs F ∧ (∀ k ∈ F, w.heap.size ≤ k) ∧ Below w.heap.size w w5 :=
 ⟨Xv ho h5 (fun k hk e => by have := hF k hk; omega), fun k hk => Nat.le_trans h2.size (hF k hk), Ze (Qa h2 h3) h5 hg⟩
theorem qpc (fr tn : ByteArray) (x : CoreT) (hbk : bulk x ≤ 274877906944) (w : World) (cs : List Value) (hK : IC.K w x cs) :
  Calls Tryz.prog 91 #[.agg cs.toArray, .string fr, .string tn] w (qbn 35 76 (rn fr tn x) w) := by
 obtain ⟨A3, a3, A4, a4, A5, a5, A6, a6, rfl, -⟩ := Qk hK
 have HK := Wd hK; have HBK := Wd hbk
 clear hK hbk
 simp only [Qb]
 obtain ⟨W1, hW1, hp1, hB1, hs1⟩ := Wy w x A3 a3 A4 a4 A5 a5 A6 a6 35
 obtain ⟨W2, hW2, hp2, hB2, hs2⟩ := Wh W1 35
 have BP := Wd (hp1.below hB2)
 have BR := Wd (show Blk W2 (w.heap.size + 1) _ _ from by have h := hp2; rw [hs1] at h; exact h)
 have HB2 := Wd (Below.step hB1 hB2)
 have HS2 := Wd hs2
 clear hp1 hp2 hB1 hB2 hs2
 have ⟨p0, p1, p2, p3, p4, p5, p6⟩ := Cz BP.out
 subst hW2; subst hW1
 go_enter Tryz.func91, Tryz.ntmps91
 go_wp2_with fail
 refine (Uk x HBK.out _ _ ((Ja _ _).K_below HB2.out HK.out)).mono ?_
 rintro e w3 ⟨c1, F, rfl, ho, hn, hf, hb3⟩
 obtain ⟨Y3, y3, Y4, y4, Y5, y5, Y6, y6, rfl⟩ := Zi ho
 have ⟨HO, HN, HF, HB3⟩ := Wj ho hn hf hb3
 clear ho hn hf hb3 p0 p1 p2 p3 p4 p5 p6
 simp only [Qb]
 go_wp2_with fail
 refine (rn_all fr tn x HBK.out _ _ F HO.out HN.out).mono ?_
 rintro e w4 ⟨c2, rfl, ho4, hb4⟩
 obtain ⟨Z3, z3, Z4, z4, Z5, z5, Z6, z6, rfl⟩ := Zi ho4
 have HO4 := Wd ho4
 have HB4 := Wd (HB3.out.trans (hb4.below HF.out HB3.out.size))
 have BR4 := Wd (BR.out.below HB4.out)
 clear ho4 hb4
 simp only [Qb]
 go_wp2_with (refine Wv (w.heap.size + 1) [.int .i64 (rn fr tn x).kind, .string (rn fr tn x).name, .bool (rn fr tn x).minus, .slice Z3 (rn fr tn x).limbs.length z3, .slice Z4 (rn fr tn x).names.length z4, .slice Z5 (rn fr tn x).kids.length z5, .slice Z6 (rn fr tn x).alts.length z6] BR4.out ?_)
 intro w5 hblk5 hg5 hsz5
 have ⟨q0, q1, q2, q3, q4, q5, q6⟩ := Cz hblk5
 have HG5 := Wd hg5
 clear hblk5 hg5
 go_wp2
 refine bodyPost_ret (v := .agg #[.int .i64 (rn fr tn x).kind, .string (rn fr tn x).name, .bool (rn fr tn x).minus, .slice Z3 (rn fr tn x).limbs.length z3, .slice Z4 (rn fr tn x).names.length z4, .slice Z5 (rn fr tn x).kids.length z5, .slice Z6 (rn fr tn x).alts.length z6]) (by simp [results, Tryz.results91, go_sem, q0, q1, q2, q3, q4, q5, q6]) rfl ⟨_, F, rfl, ?_, ?_, ?_, ?_⟩
 ·exact (Ge HB2.out BR.out.lt (by omega) HB4.out HO4.out HF.out HG5.out).1
 ·exact HN.out
 ·exact (Ge HB2.out BR.out.lt (by omega) HB4.out HO4.out HF.out HG5.out).2.1
 ·exact (Ge HB2.out BR.out.lt (by omega) HB4.out HO4.out HF.out HG5.out).2.2
theorem Inv.weaken {L L' : Nat} {F0 : List Nat} {w0 wr : World} {y : CoreT} {v3 v4 v5 v6 : Value} (h : Inv L F0 w0 y v3 v4 v5 v6 wr) (hL : L' ≤ L) : Inv L' F0 w0 y v3 v4 v5 v6 wr :=
 ⟨h.ex.imp fun F hF => ⟨hF.1, fun i hi => (hF.2 i hi).imp id (Nat.le_trans hL)⟩, h.but, h.lt0, Nat.le_trans hL h.ls⟩
theorem Inv.K {L : Nat} {F0 : List Nat} {w0 wr : World} {y : CoreT} {v3 v4 v5 v6 : Value} (h : Inv L F0 w0 y v3 v4 v5 v6 wr) : IC.K wr y [.int .i64 y.kind, .string y.name, .bool y.minus, v3, v4, v5, v6] := by
 obtain ⟨F, hF, _⟩ := h.ex
 exact Yo hF.own
theorem Kd.K_drew' {w : World} {x : CoreT} {cs : List Value} (h : IC.K w x cs) : IC.K w.drew x cs := (Ja _ _).K_below (show Below w.heap.size w w.drew from ⟨rfl, rfl, rfl, Nat.le_refl _, fun _ _ => rfl⟩) h
theorem Inv.grown {L : Nat} {F0 : List Nat} {w0 wr w5 : World} {y : CoreT} {v3 v4 v5 v6 : Value} (h : Inv L F0 w0 y v3 v4 v5 v6 wr) {g : Nat} (h1 : w0.heap.size ≤ g) (h2 : g < L) (h5 : wr.grownBy w5 (some g)) : Inv L F0 w0 y v3 v4 v5 v6 w5 := by
 obtain ⟨F, hF, hs⟩ := h.ex
 refine ⟨⟨F, hF.move (fun k hk => h5.block k (hF.lt k hk) (fun e => ?_)), hs⟩, ⟨h5.os.trans h.but.os, h5.tape.trans h.but.tape, h5.output.trans h.but.output, Nat.le_trans h.but.size h5.size, fun i hi hn => ?_⟩, h.lt0, Nat.le_trans h.ls h5.size⟩
 ·injection e with e
  exact (hs k hk).elim (fun h' => by have := h.lt0 k h'; omega) (fun h' => by omega)
 ·rw [h5.block i (Nat.lt_of_lt_of_le hi h.but.size) (fun e => by injection e; omega), h.but.block i hi hn]
theorem Inv.far {L : Nat} {F0 : List Nat} {w0 wr : World} {y : CoreT} {v3 v4 v5 v6 : Value} (h : Inv L F0 w0 y v3 v4 v5 v6 wr) {g k : Nat} (hg : g ∈ F0 ∨ L ≤ g) (h1 : w0.heap.size ≤ k) (h2 : k < L) : k ≠ g := fun e => hg.elim (fun h' => by have := h.lt0 g h'; omega) (fun h' => by omega)
theorem qlb {S : World} {bs : Nat} {nm : ByteArray} {bt : CoreT} {free all : List ByteArray} {B3 : Option Addr} {b3 : Nat} {B4 : Option Addr} {b4 : Nat} {B5 : Option Addr} {b5 : Nat} {B6 : Option Addr} {b6 : Nat} {Af : Option Addr} {cf : Nat} {Aa : Option Addr} {ca : Nat}
  (hS : Sb S bs nm bt free all B3 b3 B4 b4 B5 b5 B6 b6 Af cf Aa ca) (henv : Env free all bt) (hfl : free.length ≤ 1000000000) (x : CoreT) (hf : Fit x) (hk67 : x.kind ≠ 1) (hnm : nm ∉ x.names) (w : World) (v3 v4 v5 v6 : Value) (F : List Nat) (hO : Own7 w x v3 v4 v5 v6 F) (hB : Below S.heap.size S w) (hF : ∀ i ∈ F, S.heap.size ≤ i) :
  Calls Tryz.prog 72 #[.pointer (some ⟨bs, 0, none⟩), .agg #[.int .i64 x.kind, .string x.name, .bool x.minus, v3, v4, v5, v6]] w (Ut (Hu nm free all x) F w) := by
 have hlt := hO.lt
 obtain ⟨A3, c3, A4, c4, A5, c5, A6, c6, rfl, rfl, rfl, rfl, -, -, -⟩ := hO.form
 have ⟨HS, HE, HF, HNM, HK, HFS, HB, HFL⟩ := Ww hS henv hf hnm hk67 hF hB hfl
 obtain ⟨W1, hW1, hp1, hB1, hs1⟩ := Wy w x A3 c3 A4 c4 A5 c5 A6 c6 35
 obtain ⟨W2, hW2, hp2, hB2, hs2⟩ := Wh W1 35
 have HB2 := Wd (Below.step hB1 hB2)
 have BP := Wd (hp1.below hB2)
 have BR := Wd (show Blk W2 (w.heap.size + 1) _ _ from by have h := hp2; rw [hs1] at h; exact h)
 have HI0 := Wd (show Inv (w.heap.size + 2) F w x (.slice A3 x.limbs.length c3) (.slice A4 x.names.length c4) (.slice A5 x.kids.length c5) (.slice A6 x.alts.length c6) W2 from
  ⟨⟨F, hO.move (fun k hk => HB2.out.block k (hlt k hk)), fun i hi => .inl hi⟩, But.of_below HB2.out, hlt, by omega⟩)
 have HLT := Wd hlt
 obtain ⟨-, -, hbk3, -, -⟩ := Qz hf.bulk
 have hbn : x.names.length ≤ 60000 := by have := hf.t; rw [Zj] at this; omega
 clear hS henv hf hnm hk67 hF hB hO hlt hp1 hp2 hB1 hB2 hs1 hs2 hfl
 subst hW2; subst hW1
 go_enter Tryz.func72, Tryz.ntmps72
 go_wp2_with fail
 go_loopw [5, 6, 7] (fun s5 s6 s7 wr => ∃ i : Nat, i ≤ x.names.length ∧ s5 = .int .i64 i ∧ Hid (Inv (w.heap.size + 2) F w (clI nm free all x i) (.slice A3 x.limbs.length c3) (.slice A4 x.names.length c4) (.slice A5 x.kids.length c5) (.slice A6 x.alts.length c6) wr) ∧ Hid (Blk wr w.heap.size 35 [.int .i64 x.kind, .string x.name, .bool x.minus, .slice A3 x.limbs.length c3, .slice A4 x.names.length c4, .slice A5 x.kids.length c5, .slice A6 x.alts.length c6]) ∧ Hid (Blk wr (w.heap.size + 1) 35 [.int .i64 0, .string ⟨#[]⟩, .bool false, .slice none 0 0, .slice none 0 0, .slice none 0 0, .slice none 0 0])) (fun s5 _ _ _ => x.names.length - (intOf s5).toNat)
 case atStart => exact ⟨0, Nat.zero_le _, rfl, HI0, BP, BR⟩
 clear HI0 BP BR
 case round =>
  obtain ⟨i, hi, rfl, HI, BP, BR⟩ := hrel
  have p4 := BP.out.cell (j := 4) rfl
  by_cases hlt : i < x.names.length
  ·have hall := qaa HE.out HF.out HK.out HNM.out i hi
   obtain ⟨y, hy⟩ : ∃ y, y = clI nm free all x i := ⟨_, rfl⟩
   have HY := Wd hy
   rw [← hy] at HI hall
   have HNL := Wd hall.1; have HAL := Wd hall
   have hiy : i < y.names.length := by rw [hall.1.nl]; exact hlt
   clear hy hall
   obtain ⟨s, hs⟩ : ∃ s, s = y.names[i] := ⟨_, rfl⟩
   have HSN := Wd hs
   have hwr := HI.out.below HB.out HFS.out
   have HBR := Wd hwr
   obtain ⟨g4, cap4, d1, dp, hv4, hcap4, hl4, hb4, hgF4, hcl4⟩ := HI.out.nam (by omega) hiy
   rw [HNL.out.nl] at hv4 hcap4
   simp only [Value.slice.injEq, true_and] at hv4
   obtain ⟨rfl, rfl⟩ := hv4
   have q4 := Blk.cell (j := i) hb4 (by rw [List.getElem?_append_right (by omega), hl4]; simp; rfl)
   rw [← hs] at q4 hb4
   have ⟨HB4, HCL4, HG4, HL4⟩ := Wj hb4 hcl4 hgF4 hl4
   have s2 := (HS.out.blk.below hwr).cell (j := 8) rfl
   have qk0 : (0 : Int) ≤ (i : Int) := by omega
   have qk1 : (i : Int) < x.names.length := by omega
   clear hs hb4 hcl4 hgF4 hl4 hwr
   go_wp2_with fail
   refine Qe [(true, 0), (true, 1), (true, 2), (true, 3), (true, 4), (true, 5), (true, 6), (true, 7), (true, 8), (false, 9), (true, 10)] [] (fun W' => Below wr.heap.size wr W') (by kernel_rfl) (by kernel_rfl) (fun _ _ d _ _ h => by cases d <;> exact h) ⟨rfl, rfl, rfl, Nat.le_refl _, fun _ _ => rfl⟩ ?_
   iterate 9
    refine Tb 15 (y := fun w' hSw => by
     have ⟨t1, t2, t3⟩ := Cb3 hSw p4 q4 s2
     go_simp
     try with_reducible rfl) (h := ?_)
   refine Run.step (some 24) (by rfl) (by rfl) ?_
   intro K hK
   go_simp
   refine (Jj free s (by have := HFL.out; omega) Af cf _ (Kd.C_below HS.out.fc (show Below S.heap.size S wr.drew from ⟨HBR.out.os, HBR.out.tape, HBR.out.output, HBR.out.size, HBR.out.block⟩)) HS.out.fl).mono ?_
   rintro e w3 ⟨rfl, hb3⟩
   have HB3 := Wd (Qj hb3)
   refine hK.out _ _ (fun _ => HB3.out) ?_
   clear hK K hb3
   by_cases hm : s ∈ free
   case neg =>
    rw [decide_eq_false hm]
    have HM := Wd hm
    have HI3 := Wd (show Inv (w.heap.size + 2) F w (clI nm free all x (i + 1)) (.slice A3 x.limbs.length c3) (.slice (some ⟨g4, 0, none⟩) x.names.length c4) (.slice A5 x.kids.length c5) (.slice A6 x.alts.length c6) w3 from by
     rw [qck, ← HY.out, qbs hiy (by rw [← HSN.out]; exact HM.out)]; exact HI.out.on HB3.out)
    have BP3 := Wd (BP.out.below HB3.out); have BR3 := Wd (BR.out.below HB3.out)
    clear hm p4 q4 s2
    refine Tk (some 25) (y := fun w' hSw => by
     go_simp
     try with_reducible rfl) (h := ?_)
    refine Run.nil ?_
    go_wp2
    go_roundw
    case rel => exact ⟨i + 1, by omega, by go_num, HI3, BP3, BR3⟩
    case measure => simp [intOf]; omega
   case pos =>
    rw [decide_eq_true hm]
    have HM := Wd hm
    have HI3 := Wd (HI.out.on HB3.out)
    have BP3 := Wd (BP.out.below HB3.out); have BR3 := Wd (BR.out.below HB3.out)
    have HBR3 := Wd (HBR.out.trans (HB3.out.mono HBR.out.size))
    have q4' := Cb HB3.out q4
    clear hm p4 q4 s2
    refine Tk (some 25) (y := fun w' hSw => by
     go_simp
     try with_reducible rfl) (h := ?_)
    refine Run.nil ?_
    have ⟨r0, r1, r2, r3, r4, r5, r6⟩ := Cz BP3.out
    go_wp2_with fail
    have HKY := Wd (HI3.out.K)
    rw [HNL.out.k, HNL.out.n, HNL.out.m] at HKY
    refine Qe [(true, 0), (true, 1), (true, 2), (true, 3), (true, 4), (true, 5), (true, 6), (false, 7), (false, 8), (true, 9)] [] (fun W' => Below w3.heap.size w3 W') (by kernel_rfl) (by kernel_rfl) (fun _ _ d _ _ h => by cases d <;> exact h) ⟨rfl, rfl, rfl, Nat.le_refl _, fun _ _ => rfl⟩ ?_
    iterate 7
     refine Tb 26 (y := fun w' hSw => by
      have ⟨t4, u0, u1, u2, u3, u4, u5⟩ := Cb7 hSw q4' r0 r1 r2 r3 r4 r5; have u6 := Cb hSw r6
      go_simp
      try with_reducible rfl) (h := ?_)
    refine Run.step (some 33) (by rfl) (by rfl) ?_
    intro K hK
    go_simp
    refine (qag HS.out (by have := HE.out.al; omega) y HAL.out.2.2.2.1.bulk (by have := Jp y; have := HAL.out.2.2.2.1.t; omega) w3.drew _ (show Below S.heap.size S w3.drew from ⟨HBR3.out.os, HBR3.out.tape, HBR3.out.output, HBR3.out.size, HBR3.out.block⟩) (show IC.K w3.drew y _ from Kd.K_drew' HKY.out)).mono ?_
    rintro e w4 ⟨u4, rfl, ho4, hb4⟩
    have HB4 := Wd (Qj hb4)
    refine hK.out _ _ (fun _ => HB4.out) ?_
    clear hK K hb4
    obtain ⟨av, hav⟩ : ∃ av, av = all ++ (qbk y ++ [nm]) := ⟨_, rfl⟩
    have HAV := Wd (show av.length ≤ 1000000 from by
     rw [hav, List.length_append, List.length_append, List.length_singleton]
     have := HE.out.al; have := Jp y; have := HAL.out.2.2.2.1.t; have := Jx (Zc y) []
     unfold qbk; simp at this; omega)
    obtain ⟨t, ht⟩ : ∃ t, t = Zt av s := ⟨_, rfl⟩
    have HT := Wd (show t = qew nm all y s from by rw [ht, hav]; exact qfr nm all y s)
    rw [← hav] at ho4
    obtain ⟨A7, c7, rfl, l7, hC7⟩ := (Zk (by decide) ho4).1.readsS
    have HC7 := Wd hC7
    clear ho4 hC7 hav q4'
    try simp only [Act.put, heap_drew, Nat.reduceAdd, Jla, Jlb, Jlc]
    refine Run.step (some 34) (by rfl) (by rfl) ?_
    intro K hK
    go_simp
    refine (qfl av (by have := HAV.out; omega) s (by have := HE.out.fr s HM.out; omega) A7 c7 _ HC7.out l7).mono ?_
    rintro e w5 ⟨rfl, hb5⟩
    rw [← ht]
    have HB5 := Wd (HB4.out.trans (hb5.mono HB4.out.size))
    refine hK.out _ _ (fun _ => HB5.out) ?_
    clear hK K hb5 ht
    try simp only [Act.put, heap_drew, Nat.reduceAdd, Jla, Jlb, Jlc]
    refine Tk (some 6) (y := fun w' hSw => by
     go_simp
     try with_reducible rfl) (h := ?_)
    refine Run.nil ?_
    have HI5 := Wd (show Inv (w.heap.size + 2) F w { y with kids := mix (y.kids.map (rn s t)) y.kids 0 } (.slice A3 x.limbs.length c3) (.slice (some ⟨g4, 0, none⟩) x.names.length c4) (.slice A5 x.kids.length c5) (.slice A6 x.alts.length c6) w5 from by rw [Jc, Kv]; exact HI3.out.on HB5.out)
    have BP5 := Wd (BP3.out.below HB5.out); have BR5 := Wd (BR3.out.below HB5.out)
    clear r0 r1 r2 r3 r4 r5 r6 HI3 BP3 BR3 HKY HCL4 HB4
    have p5 := BP5.out.cell (j := 5) rfl
    go_wp2_with fail
    clear p5
    go_loopw [7] (fun s7 wr => ∃ k : Nat, k ≤ x.kids.length ∧ s7 = .int .i64 k ∧ Hid (Inv (w.heap.size + 2) F w { y with kids := mix (y.kids.map (rn s t)) y.kids k } (.slice A3 x.limbs.length c3) (.slice (some ⟨g4, 0, none⟩) x.names.length c4) (.slice A5 x.kids.length c5) (.slice A6 x.alts.length c6) wr) ∧ Hid (Blk wr w.heap.size 35 [.int .i64 x.kind, .string x.name, .bool x.minus, .slice A3 x.limbs.length c3, .slice (some ⟨g4, 0, none⟩) x.names.length c4, .slice A5 x.kids.length c5, .slice A6 x.alts.length c6]) ∧ Hid (Blk wr (w.heap.size + 1) 35 [.int .i64 0, .string ⟨#[]⟩, .bool false, .slice none 0 0, .slice none 0 0, .slice none 0 0, .slice none 0 0])) (fun s7 _ => x.kids.length - (intOf s7).toNat)
    case atStart => exact ⟨0, Nat.zero_le _, rfl, HI5, BP5, BR5⟩
    clear HI5 BP5 BR5
    case round =>
     obtain ⟨k, hk, rfl, HI, BP, BR⟩ := hrel
     obtain ⟨gg, capn, dn, dpn, hvn, hcapn, hln, hbn, hgFn, hcln⟩ := HI.out.nam (by omega) (k := i) hiy
     simp only [Value.slice.injEq, Option.some.injEq, Addr.mk.injEq, and_true, true_and] at hvn
     obtain ⟨rfl, -, rfl⟩ := hvn
     have q4 := Blk.cell (j := i) hbn (by rw [List.getElem?_append_right (by omega), hln]; simp; rfl)
     simp only [← HSN.out] at q4 hbn
     have ⟨HBN, HLN, HCN, HGN⟩ := Wj hbn hln hcln hgFn
     clear hbn hln hcln hgFn
     have p5 := BP.out.cell (j := 5) rfl; have p4 := BP.out.cell (j := 4) rfl
     by_cases hlk : k < x.kids.length
     ·have hky : k < y.kids.length := by rw [HNL.out.kl]; exact hlk
      obtain ⟨g5, cap5, e1, cx, post, hv5, hcap5, hl5, hb5, Gx, hox, hnx, hsx, hgx, hg5F, hltx, hcl5⟩ := HI.out.kid (by omega) (k := k) (by simp only; rw [Zg (by simp)]; exact hky)
      simp only [Zg (show (y.kids.map (rn s t)).length = y.kids.length by simp), HNL.out.kl] at hv5 hcap5
      simp only [Value.slice.injEq, true_and] at hv5
      obtain ⟨rfl, rfl⟩ := hv5
      simp only [Xf (show (y.kids.map (rn s t)).length = y.kids.length by simp) hky] at hox
      have HKF := Wd (HAL.out.2.2.2.1.kid (List.getElem_mem hky))
      have HKK := Wd (Yo hox)
      obtain ⟨Y3, y3, Y4, y4, Y5, y5, Y6, y6, rfl⟩ := Zi hox
      obtain ⟨g0, g1, g2, g3, g4', g5', g6⟩ := Blk.seven (show Blk wr g5 _ (e1 ++ ([_, _, _, _, _, _, _] ++ post)) from hb5) hl5
      have HB5' := Wd hb5; have ⟨HCL5, HG5, HL5⟩ := Wq hcl5 (show g5 ∉ Gx ∧ (g5 ∈ F ∨ w.heap.size + 2 ≤ g5) from ⟨hgx, hg5F⟩) hl5
      clear hb5 hcl5 hgx hg5F hl5 hox hnx hsx hltx
      have qk0 : (0 : Int) ≤ (i : Int) := by omega
      have qk1 : (i : Int) < x.names.length := by omega
      have qk2 : (0 : Int) ≤ (k : Int) := by omega
      have qk3 : (k : Int) < x.kids.length := by omega
      go_wp2_with fail
      refine Qe [(true, 0), (true, 1), (true, 2), (true, 3), (true, 4), (true, 5), (true, 6), (true, 7), (true, 8), (true, 9), (true, 10), (true, 11), (true, 12), (true, 13), (false, 14), (true, 15), (false, 16)] [16] (fun W' => Below wr.heap.size wr W') (by kernel_rfl) (by kernel_rfl) (fun _ _ d _ _ h => by cases d <;> exact h) ⟨rfl, rfl, rfl, Nat.le_refl _, fun _ _ => rfl⟩ ?_
      iterate 14
       refine Tb 42 (y := fun w' hSw => by
        have ⟨t1, t2, t3, u0, u1, u2, u3⟩ := Cb7 hSw p4 q4 p5 g0 g1 g2 g3; have ⟨u4, u5, u6⟩ := Cb3 hSw g4' g5' g6
        go_simp
        try with_reducible rfl) (h := ?_)
      refine Run.step (some 56) (by rfl) (by rfl) ?_
      intro K hK
      go_simp
      refine (qpc s t y.kids[k] HKF.out.bulk wr.drew _ (show IC.K wr.drew _ _ from Kd.K_drew' HKK.out)).mono ?_
      rintro e w4 ⟨cx', Gx', rfl, ho4, hn4, hf4, hb4⟩
      obtain ⟨Z3, z3, Z4, z4, Z5, z5, Z6, z6, rfl⟩ := Zi ho4
      have HB4 := Wd (Qj hb4); have HO4 := Wd ho4
      have HN4 := Wd (show Gx'.Nodup ∧ ∀ j ∈ Gx', wr.heap.size ≤ j from ⟨hn4, hf4⟩)
      refine hK.out _ _ (fun _ => HB4.out) ?_
      clear hK K ho4 hn4 hf4 hb4
      try simp only [Act.put, heap_drew, Nat.reduceAdd, Jla, Jlb, Jlc]
      refine Tk (some 57) (y := fun w' hSw => by
       go_simp
       try with_reducible rfl) (h := ?_)
      refine Run.step none (by rfl) (by rfl) ?_
      intro K hK
      refine Qw g5 (k * 7) _ (Qb y.kids[k] Y3 y3 Y4 y4 Y5 y5 Y6 y6) post (Qb (rn s t y.kids[k]) Z3 z3 Z4 z4 Z5 z5 Z6 z6) 35 (by rfl) 35 _ _ (by rfl) (by rfl) HL5.out.symm (by rfl) (HB5'.out.below HB4.out) rfl (by kernel_rfl) (Xg _ _ _ _ _ _ _ _ _) ?_
      intro w5 hb5 hg5 hs5
      have HI5 := Wd (HCL5.out (rn s t y.kids[k]) _ Gx' w4 w5 HO4.out HN4.out.1 (fun j hj => .inr (HN4.out.2 j hj)) (But.of_below HB4.out) hg5 hb5)
      have BP5 := Wd ((BP.out.below HB4.out).grownO hg5 (fun e => HI.out.far HG5.out.2 (Nat.le_refl _) (by omega) (by injection e)))
      have BR5 := Wd ((BR.out.below HB4.out).grownO hg5 (fun e => HI.out.far HG5.out.2 (Nat.le_succ _) (by omega) (by injection e)))
      refine hK.out _ _ (fun h => absurd (by decide) h) ?_
      clear hK K hb5 hg5 hs5 p4 p5 q4 g0 g1 g2 g3 g4' g5' g6
      refine Run.nil ?_
      go_wp2
      go_roundw
      case rel => exact ⟨k + 1, by omega, by go_num, Wd (by have h := HI5.out; (try simp only at h); rw [Ki (by simp) hky (by simp)] at h; exact h), BP5, BR5⟩
      case measure => simp [intOf]; omega
     ·have hkk : k = y.kids.length := by rw [HNL.out.kl]; omega
      have hin := qdn (nm := nm) (all := all) (free := free) hiy (by rw [← HSN.out]; exact HM.out)
      rw [← HSN.out, ← HT.out] at hin
      have HIN := Wd hin
      have HKE := Wd hkk
      clear hkk hin
      have qk0 : (0 : Int) ≤ (i : Int) := by omega
      have qk1 : (i : Int) < x.names.length := by omega
      go_wp2_with (refine Qc g4 i _ [.string s] dpn [.string t] 9 (by rfl) 9 _ _ (by rfl) (by rfl) HLN.out.symm (by rfl) HBN.out rfl (by kernel_rfl) (by intro v hv; rw [List.mem_singleton.1 hv]; rfl) ?_)
      intro w6 hb6 hg6 hs6
      have HI6 := Wd (HCN.out t w6 hg6 hb6)
      have BP6 := Wd (BP.out.grownO hg6 (fun e => HI.out.far HGN.out (Nat.le_refl _) (by omega) (by injection e)))
      have BR6 := Wd (BR.out.grownO hg6 (fun e => HI.out.far HGN.out (Nat.le_succ _) (by omega) (by injection e)))
      clear hb6 hg6 hs6 p4 p5 q4
      go_wp2
      go_roundw
      case rel => exact ⟨i + 1, by omega, by go_num, Wd (by have h := HI6.out; simp only [HKE.out, Xj (show (y.kids.map (rn s t)).length = y.kids.length by simp)] at h; rw [qck, ← HY.out, HIN.out]; exact h), BP6, BR6⟩
      case measure => simp [intOf]; omega
  ·have hkk : i = x.names.length := by omega
   have hin := HI.out
   rw [hkk, ← Ud] at hin
   have HIN := Wd hin
   have hall := (qaa HE.out HF.out HK.out HNM.out x.names.length (Nat.le_refl _)).1
   rw [← Ud] at hall
   have HNL := Wd hall
   clear hkk hin HI hall p4
   have ⟨p0, p1, p2, p3, p4, p5, p6⟩ := Cz BP.out
   go_wp2_with (refine Wv (w.heap.size + 1) [.int .i64 x.kind, .string x.name, .bool x.minus, .slice A3 x.limbs.length c3, .slice A4 x.names.length c4, .slice A5 x.kids.length c5, .slice A6 x.alts.length c6] BR.out ?_)
   intro w5 hblk5 hg5 hsz5
   clear p0 p1 p2 p3 p4 p5 p6
   have ⟨q0, q1, q2, q3, q4, q5, q6⟩ := Cz hblk5
   have HI9 := Wd (HIN.out.grown (Nat.le_succ _) (by omega) hg5)
   clear hblk5 hg5
   go_wp2
   refine bodyPost_ret (v := .agg #[.int .i64 x.kind, .string x.name, .bool x.minus, .slice A3 x.limbs.length c3, .slice A4 x.names.length c4, .slice A5 x.kids.length c5, .slice A6 x.alts.length c6]) (by simp [results, Tryz.results72, go_sem, q0, q1, q2, q3, q4, q5, q6]) rfl ?_
   refine ⟨.slice A3 x.limbs.length c3, .slice A4 x.names.length c4, .slice A5 x.kids.length c5, .slice A6 x.alts.length c6, ?_, HI9.out.weaken (by omega)⟩
   rw [HNL.out.k, HNL.out.n, HNL.out.m]
theorem qez {α : Type} {l : List α} (h : 1 < l.length) (h2 : l.length ≤ 2) : l.drop 1 = [l[1]] := by
 rcases l with _ | ⟨c, _ | ⟨d, _ | ⟨e, r⟩⟩⟩
 ·simp at h
 ·simp at h
 ·rfl
 ·simp at h2
theorem qlc {S : World} {bs : Nat} {nm : ByteArray} {bt : CoreT} {free all : List ByteArray} {B3 : Option Addr} {b3 : Nat} {B4 : Option Addr} {b4 : Nat} {B5 : Option Addr} {b5 : Nat} {B6 : Option Addr} {b6 : Nat} {Af : Option Addr} {cf : Nat} {Aa : Option Addr} {ca : Nat} (hS : Sb S bs nm bt free all B3 b3 B4 b4 B5 b5 B6 b6 Af cf Aa ca) (x : CoreT) (hbk : bulk x ≤ 274877906944) (hkl : x.kids.length ≤ 2) (w : World) (cs : List Value) (hB : Below S.heap.size S w) (hK : IC.K w x cs) :
  Qh 92 #[.pointer (some ⟨bs, 0, none⟩), .agg cs.toArray] w (Yp nm x) := by
 unfold Qh
 obtain ⟨A3, c3, A4, c4, A5, c5, A6, c6, rfl, l3, g3, l4, g4, l5, g5, l6, g6⟩ := Qk hK
 obtain ⟨b1, b2, b3, b4, b5⟩ := Qz hbk
 have ⟨HBK, HS, HKL⟩ := Wq hbk hS hkl
 have G5 := Wd g5; have G6 := Wd g6; clear g3 g4 g5 g6 hK hbk hS hkl
 simp only [Qb]
 obtain ⟨W1, hW1, hp1, hB1, hs1⟩ := Wy w x A3 c3 A4 c4 A5 c5 A6 c6 35
 have ⟨HB1, BP1, HBS⟩ := Wq hB1 hp1 (hB.trans (hB1.mono hB.size))
 clear hs1 hp1 hB1 hB
 subst hW1
 obtain ⟨r, hr⟩ : ∃ r, r = Yp nm x := ⟨_, rfl⟩
 rw [← hr]
 have HR := Wd hr; clear hr
 by_cases hk2 : 1 < x.kids.length
 case' pos =>
  obtain ⟨ad, A3', c3', A4', c4', B5, d5, B6, d6, rfl, hK, g0, g1, g2, g3, g4, g5, g6⟩ := Ko (Kd.C_below G5.out HB1.out) 1 hk2
  have h0 : World.cell? _ (ad.add 7) = _ := g0; have h7 : World.cell? _ ⟨ad.block, ad.off + 7, none⟩ = _ := g0; have h1 : World.cell? _ ⟨ad.block, ad.off + 7 + 1, none⟩ = _ := g1; have h2 : World.cell? _ ⟨ad.block, ad.off + 7 + 2, none⟩ = _ := g2; have h3 : World.cell? _ ⟨ad.block, ad.off + 7 + 3, none⟩ = _ := g3; have h4 : World.cell? _ ⟨ad.block, ad.off + 7 + 4, none⟩ = _ := g4; have h5 : World.cell? _ ⟨ad.block, ad.off + 7 + 5, none⟩ = _ := g5; have h6 : World.cell? _ ⟨ad.block, ad.off + 7 + 6, none⟩ = _ := g6
  clear g0 g1 g2 g3 g4 g5 g6
  have HD := Wd (show x.kids.drop 1 = [x.kids[1]] from qez hk2 (by have := HKL.out; omega))
  have HKK := Wd hK; clear hK
  go_enter Tryz.func92, Tryz.ntmps92
  go_wp2_with fail
  obtain ⟨W1, hW1⟩ : ∃ W1, W1 = w.alloc (.cells #[.int .i64 x.kind, .string x.name, .bool x.minus, .slice A3 x.limbs.length c3, .slice A4 x.names.length c4, .slice (some ad) x.kids.length c5, .slice A6 x.alts.length c6] 35) := ⟨_, rfl⟩
  rw [← hW1] at HB1 BP1 HBS HKK h0 h1 h2 h3 h4 h5 h6 h7 ⊢
  clear hW1
  have s0 := (HS.out.blk.below HBS.out).cell (j := 0) rfl
  have p5 := BP1.out.cell (j := 5) rfl
  refine Qe [(true, 0), (true, 1), (true, 2), (true, 3), (true, 4), (true, 5), (true, 6), (true, 7), (true, 8), (true, 9), (true, 10), (true, 11), (true, 12), (false, 13), (true, 14)] [] (fun W' => Below W1.heap.size W1 W') (by kernel_rfl) (by kernel_rfl) (fun _ _ d _ _ h => by cases d <;> exact h) ⟨rfl, rfl, rfl, Nat.le_refl _, fun _ _ => rfl⟩ ?_
  iterate 3
   refine Tb 6 (y := fun w' hSw => by
    have t5 := Cb hSw p5
    go_simp
    try with_reducible rfl) (h := ?_)
  refine Tb 6 (v := .bool true) (y := fun w' hSw => by
   have hk3 : (1 : Int) < (x.kids.length : Int) := by omega
   go_simp
   try first | (with_reducible rfl) | (simp; done) | (simp; omega)) (h := ?_)
  iterate 9
   refine Tb 6 (y := fun w' hSw => by
    have hk3 : (1 : Int) < (x.kids.length : Int) := (by omega); have ⟨t5, t0, u0, u1, u2, u3, u4⟩ := Cb7 hSw p5 s0 h0 h1 h2 h3 h4; have ⟨u5, u6, u7⟩ := Cb3 hSw h5 h6 h7
    go_simp
    try with_reducible rfl) (h := ?_)
  refine Run.step (some 19) (by rfl) (by rfl) ?_
  intro K hK
  go_simp
  refine (qgc nm _ (by have := Qx (List.getElem_mem hk2); have := HBK.out; rw [Qg] at this; omega) W1.drew _ (Kd.K_drew' HKK.out)).mono ?_
  rintro e w3 ⟨rfl, hb3⟩
  have HB3 := Wd (Qj hb3)
  refine hK.out _ _ (fun _ => HB3.out) ?_
  clear hK K hb3
  try simp only [Act.put, heap_drew, Nat.reduceAdd, Jla, Jlb, Jlc]
  refine Tk (some 20) (y := fun w' hSw => by
   go_simp
   try with_reducible rfl) (h := ?_)
  refine Run.nil ?_
  clear h0 h1 h2 h3 h4 h5 h6 h7 p5 s0
  by_cases hh : Vg nm x.kids[1] = true
  case pos =>
   rw [hh]
   have HH := Wd (show r = true from by rw [HR.out, Yp, HD.out]; simp [hh])
   clear hh
   go_wp2
   go_ret
   exact ⟨by rw [HH.out]; rfl, Qa HB1.out HB3.out⟩
  rw [Bool.not_eq_true] at hh
  have HRR := Wd (show r = x.alts.any (qkz nm) from by rw [HR.out, Yp, HD.out]; simp [hh])
  rw [hh]
  clear hh
  have ⟨HB4, BP4, HBS4⟩ := Wq (Qa HB1.out HB3.out) (BP1.out.below HB3.out) (HBS.out.trans (HB3.out.mono HBS.out.size))
  obtain ⟨wS, rfl⟩ : ∃ wS, wS = w3 := ⟨_, rfl⟩
  go_wp2_with fail
 case' neg =>
  have HD := Wd (show x.kids.drop 1 = [] from List.drop_eq_nil_of_le (by omega))
  go_enter Tryz.func92, Tryz.ntmps92
  go_wp2_with fail
  obtain ⟨W1, hW1⟩ : ∃ W1, W1 = w.alloc (.cells #[.int .i64 x.kind, .string x.name, .bool x.minus, .slice A3 x.limbs.length c3, .slice A4 x.names.length c4, .slice A5 x.kids.length c5, .slice A6 x.alts.length c6] 35) := ⟨_, rfl⟩
  rw [← hW1] at HB1 BP1 HBS ⊢
  clear hW1
  have p5 := BP1.out.cell (j := 5) rfl
  refine Qe [(true, 0), (true, 1), (true, 2), (true, 3), (true, 4), (true, 5), (true, 6), (true, 7), (true, 8), (true, 9), (true, 10), (true, 11), (true, 12), (false, 13), (true, 14)] [] (fun W' => Below W1.heap.size W1 W') (by kernel_rfl) (by kernel_rfl) (fun _ _ d _ _ h => by cases d <;> exact h) ⟨rfl, rfl, rfl, Nat.le_refl _, fun _ _ => rfl⟩ ?_
  iterate 3
   refine Tb 6 (y := fun w' hSw => by
    have t5 := Cb hSw p5
    go_simp
    try with_reducible rfl) (h := ?_)
  refine Tb 6 (v := .bool false) (y := fun w' hSw => by
   have hk3 : ¬ (1 : Int) < (x.kids.length : Int) := by omega
   go_simp
   try first | (with_reducible rfl) | (simp; done) | (simp; omega)) (h := ?_)
  iterate 1
   refine Tb 6 (y := fun w' hSw => by
    go_simp
    try with_reducible rfl) (h := ?_)
  iterate 8
   refine Run.passB 6 (by rfl) (by rfl) (by rfl) ?_
   simp only [Act.put, heap_drew, Nat.reduceAdd, Jla, Jlb, Jlc]
  refine Run.step (some 19) (by rfl) (by rfl) ?_
  intro K hK
  go_simp
  refine hK.out _ _ (fun _ => ⟨rfl, rfl, rfl, Nat.le_refl _, fun _ _ => rfl⟩) ?_
  clear hK K
  try simp only [Act.put, heap_drew, Nat.reduceAdd, Jla, Jlb, Jlc]
  refine Tk (some 20) (y := fun w' hSw => by
   go_simp
   try with_reducible rfl) (h := ?_)
  refine Run.nil ?_
  have HRR := Wd (show r = x.alts.any (qkz nm) from by rw [HR.out, Yp, HD.out]; simp)
  have ⟨HB4, BP4, HBS4⟩ := Wq (show Below w.heap.size w W1.drew from ⟨HB1.out.os, HB1.out.tape, HB1.out.output, HB1.out.size, HB1.out.block⟩) (show Blk W1.drew w.heap.size _ _ from BP1.out) (show Below S.heap.size S W1.drew from ⟨HBS.out.os, HBS.out.tape, HBS.out.output, HBS.out.size, HBS.out.block⟩)
  obtain ⟨wS, hwS⟩ : ∃ wS, wS = W1.drew := ⟨_, rfl⟩
  rw [← hwS] at HB4 BP4 HBS4 ⊢
  clear p5 hwS
  go_wp2_with fail
 all_goals
  go_loopw [5] (fun s5 wr => ∃ m : Nat, m ≤ x.alts.length ∧ s5 = .int .i64 m ∧ Hid ((x.alts.take m).any (qkz nm) = false) ∧ Hid (Below wS.heap.size wS wr)) (fun s5 _ => x.alts.length - (intOf s5).toNat)
  case atStart => exact ⟨0, Nat.zero_le _, rfl, Wd (by simp), Wd (Below.refl _ _)⟩
  case round =>
   obtain ⟨m, hm, rfl, HN, HB⟩ := hrel
   have HBw := Wd (Qa HB4.out (show Below _ _ wr from HB.out))
   have HP := Wd (BP4.out.below HB.out)
   have HBSw := Wd (HBS4.out.trans (HB.out.mono HBS4.out.size))
   have p6 := HP.out.cell (j := 6) rfl
   by_cases hlt2 : m < x.alts.length
   ·obtain ⟨ad2, A1, c1, A3', c3', A4', c4', B5, d5, B6, d6, rfl, _, hK, hl1, hC1, g0, g1, g2, g3, g4, g5, g6, g7, g8⟩ := Xn (Kd.C_below G6.out HBw.out) m hlt2
    have hnl : x.alts[m].names.length ≤ 274877906944 := Vy HBK.out (List.getElem_mem hlt2)
    have ⟨HK, HC1, HL1⟩ := Wq hK hC1 hl1
    have s0 := (HS.out.blk.below HBSw.out).cell (j := 0) rfl
    have qk0 : (0 : Int) ≤ (m : Int) := by omega
    have qk1 : (m : Int) < x.alts.length := by omega
    clear hK hC1 hl1 g0
    go_wp2_with fail
    refine Qe [(true, 0), (true, 1), (true, 2), (true, 3), (true, 4), (true, 5), (true, 6), (true, 7), (true, 8), (true, 9), (false, 10), (true, 11), (true, 12), (true, 13), (true, 14), (true, 15), (true, 16), (true, 17), (true, 18), (true, 19), (true, 20), (true, 21), (true, 22), (false, 23), (true, 24)] [] (fun W' => Below wr.heap.size wr W') (by kernel_rfl) (by kernel_rfl) (fun _ _ d _ _ h => by cases d <;> exact h) ⟨rfl, rfl, rfl, Nat.le_refl _, fun _ _ => rfl⟩ ?_
    iterate 10
     refine Tb 28 (y := fun w' hSw => by
      have ⟨t6, t0, u1⟩ := Cb3 hSw p6 s0 g1
      go_simp
      try with_reducible rfl) (h := ?_)
    refine Run.step (some 38) (by rfl) (by rfl) ?_
    intro K hK
    go_simp
    refine (Jj x.alts[m].names nm hnl A1 c1 wr.drew (Kd.C_below HC1.out ⟨rfl, rfl, rfl, Nat.le_refl _, fun _ _ => rfl⟩) HL1.out).mono ?_
    rintro e w3 ⟨rfl, hb3⟩
    have HB3 := Wd (Qj hb3)
    refine hK.out _ _ (fun _ => HB3.out) ?_
    clear hK K hb3
    try simp only [Act.put, heap_drew, Nat.reduceAdd, Jla, Jlb, Jlc]
    by_cases hmm : nm ∈ x.alts[m].names
    case pos =>
     rw [decide_eq_true hmm]
     have HN3 := Wd (show (x.alts.take (m + 1)).any (qkz nm) = false from by rw [Qf hlt2, List.any_append, HN.out]; simp [Uh, hmm])
     clear hmm
     refine Tb 28 (v := .bool false) (y := fun w' hSw => by
      go_simp
      try first | (with_reducible rfl) | (simp; done) | (simp; omega)) (h := ?_)
     iterate 1
      refine Tb 28 (y := fun w' hSw => by
       go_simp
       try with_reducible rfl) (h := ?_)
     iterate 10
      refine Run.passB 28 (by rfl) (by rfl) (by rfl) ?_
      simp only [Act.put, heap_drew, Nat.reduceAdd, Jla, Jlb, Jlc]
     refine Run.step (some 51) (by rfl) (by rfl) ?_
     intro K hK
     go_simp
     refine hK.out _ _ (fun _ => HB3.out) ?_
     clear hK K
     try simp only [Act.put, heap_drew, Nat.reduceAdd, Jla, Jlb, Jlc]
     refine Tk (some 52) (y := fun w' hSw => by
      go_simp
      try with_reducible rfl) (h := ?_)
     refine Run.nil ?_
     have HB5 := Wd (HB.out.trans (HB3.out.mono HB.out.size))
     clear p6 s0 g1 g2 g3 g4 g5 g6 g7 g8
     go_wp2
     go_roundw
     case rel => exact ⟨m + 1, by omega, by go_num, HN3, HB5⟩
     case measure => simp [intOf]; omega
    case neg =>
     rw [decide_eq_false hmm]
     have HMM := Wd hmm
     clear hmm
     refine Tb 28 (v := .bool true) (y := fun w' hSw => by
      go_simp
      try first | (with_reducible rfl) | (simp; done) | (simp; omega)) (h := ?_)
     iterate 11
      refine Tb 28 (y := fun w' hSw => by
       have ⟨t6, t0, u2, u3, u4, u5, u6⟩ := Cb7 hSw p6 s0 g2 g3 g4 g5 g6; have u7 := Cb hSw g7; have u8 := Cb hSw g8
       go_simp
       try with_reducible rfl) (h := ?_)
     refine Run.step (some 51) (by rfl) (by rfl) ?_
     intro K hK
     go_simp
     refine (qgc nm _ (by have := Zu (List.getElem_mem hlt2); rw [Zo] at this; have := HBK.out; rw [Qg] at this; omega) w3 _ ((Ja _ _).K_below HB3.out HK.out)).mono ?_
     rintro e w4 ⟨rfl, hb4⟩
     have HB4' := Wd (HB3.out.trans (hb4.mono HB3.out.size))
     refine hK.out _ _ (fun _ => HB4'.out) ?_
     clear hK K hb4
     try simp only [Act.put, heap_drew, Nat.reduceAdd, Jla, Jlb, Jlc]
     refine Tk (some 52) (y := fun w' hSw => by
      go_simp
      try with_reducible rfl) (h := ?_)
     refine Run.nil ?_
     have HB5 := Wd (HB.out.trans (HB4'.out.mono HB.out.size))
     clear p6 s0 g1 g2 g3 g4 g5 g6 g7 g8
     by_cases hh : Vg nm x.alts[m].body = true
     ·rw [hh]
      have HH := Wd (show r = true from by rw [HRR.out, List.any_eq_true]; exact ⟨_, List.getElem_mem hlt2, by rw [Uh, hh, decide_eq_true HMM.out]; rfl⟩)
      clear hh
      go_wp2
      go_ret
      exact ⟨by rw [HH.out]; rfl, Qa HB4.out HB5.out⟩
     ·rw [Bool.not_eq_true] at hh
      have HN3 := Wd (show (x.alts.take (m + 1)).any (qkz nm) = false from by rw [Qf hlt2, List.any_append, HN.out]; simp [Uh, hh])
      rw [hh]
      clear hh
      go_wp2
      go_roundw
      case rel => exact ⟨m + 1, by omega, by go_num, HN3, HB5⟩
      case measure => simp [intOf]; omega
   ·have hkk : m = x.alts.length := by omega
    have hnn := HN.out
    rw [hkk, List.take_length] at hnn
    have HH := Wd (show r = false from by rw [HRR.out, hnn])
    clear hkk hnn
    go_wp2
    go_ret
    exact ⟨by rw [HH.out]; rfl, HBw.out⟩
end Go.Proofs.YtnoammmohdmnjaaGreat.C13
