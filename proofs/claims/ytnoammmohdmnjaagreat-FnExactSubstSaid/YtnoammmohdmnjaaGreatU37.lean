import Derived.Test.YtnoammmohdmnjaaGreatU36
set_option maxRecDepth 100000
set_option maxHeartbeats 16000000
set_option linter.unusedVariables false
set_option linter.unusedSimpArgs false
namespace Go.Proofs.YtnoammmohdmnjaaGreat.C13
open Go.RowKit Go.Proofs.YtnoammmohdmnjaaGreatW.PrintWords
open List renaming setIfInBounds_toArray → Jla, set_cons_zero → Jlb, set_cons_succ → Jlc
theorem Gw (a b : Int) : wrap64 (wrap64 a + b) = wrap64 (a + b) := by unfold wrap64; omega
theorem Ht (a : Int) : IntKind.i64.wrap a = wrap64 a := by
 unfold wrap64
 simp only [IntKind.wrap, IntKind.bits, IntKind.signed, Bool.true_and, ge_iff_le, decide_eq_true_eq]
 simp only [show (2 : Int) ^ (64 - 1) = 9223372036854775808 from rfl, show (2 : Int) ^ 64 = 18446744073709551616 from rfl]
 split <;> omega
theorem qdy (n : Nat) (h : n ≤ 1000000000000) : wrap64 (n : Int) = n := by unfold wrap64; omega
def TcI (S : World) (bc : Nat) (l : List (CoreT × Int)) (w : World) : Prop := Below S.heap.size S w ∧ Blk w bc 3 [.int .i64 (wrap64 (cnt l))]
theorem zax (S : World) (bc : Nat) (h1 : S.heap.size ≤ bc) : Sees S 58 #[.pointer (some ⟨bc, 0, none⟩)] (TcI S bc) (fun _ _ => False) := by
 intro l y d p w ⟨hB, hc⟩ hat hbk hd1 hd2
 obtain ⟨A3, c3, A4, c4, A5, c5, A6, c6, hK, g0, -, -, -, g4, -, g6⟩ := hat
 obtain ⟨_, _, _, _, _, _, _, _, he, -, -, -, -, -, -, l6, a6⟩ := Qk hK
 simp only [Qb, List.cons.injEq, Value.slice.injEq, true_and, and_true] at he
 obtain ⟨⟨rfl, rfl⟩, ⟨rfl, rfl⟩, ⟨rfl, rfl⟩, ⟨rfl, rfl⟩⟩ := he
 clear hK
 have hla : y.alts.length ≤ 274877906944 := by rw [Qg] at hbk; have := Ks y.alts; omega
 have ⟨G0, G4, G6⟩ := Wq g0 g4 g6; have A6' := Wd a6; clear g0 g4 g6 a6 hbk
 have HB := Wd hB; have HC := Wd hc; clear hB
 obtain ⟨c, hcc⟩ : ∃ c : Int, c = wrap64 (cnt l) := ⟨_, rfl⟩
 rw [← hcc] at hc HC
 have HCC := Wd hcc; clear hcc
 have b0 := hc.cell (j := 0) rfl
 clear hc
 go_enter Tryz.func58, Tryz.ntmps58
 go_wp2_with (refine Qc bc 0 [] [_] [] [.int .i64 (wrap64 (c + 1))] 3 rfl 3 (.tmp 2) _ rfl rfl rfl rfl HC.out rfl (by kernel_rfl) (by intro v hv; rw [List.mem_singleton.1 hv]; rfl) ?_)
 intro W1 hb1 hg1 hs1
 have HB1 := Wd (Zm HB.out hg1 h1); have HC1 := Wd hb1
 clear hb1 hg1 hs1 HB HC b0
 have g0 := Cl HB1.out G0.out
 rcases (by omega : y.kind = 6 ∨ y.kind = 7 ∨ (y.kind ≠ 6 ∧ y.kind ≠ 7)) with hk | hk | ⟨hk, hk'⟩
 case' inl =>
  rw [hk] at g0
  have HV := Wd (show (if y.kind = 6 ∨ y.kind = 7 then y.names.length else 0) = y.names.length from if_pos (.inl hk))
  clear hk
 case' inr.inl =>
  rw [hk] at g0
  have HV := Wd (show (if y.kind = 6 ∨ y.kind = 7 then y.names.length else 0) = y.names.length from if_pos (.inr hk))
  clear hk
 case' inr.inr =>
  have q1 : (y.kind == 6) = false := by simpa using hk
  have q2 : (y.kind == 7) = false := by simpa using hk'
  have HV := Wd (show (if y.kind = 6 ∨ y.kind = 7 then y.names.length else 0) = 0 from if_neg (by omega))
  have q6 := Cl HB1.out G6.out
  go_wp2_with fail
  clear q6 g0 q1 q2 hk hk'
  obtain ⟨W2, rfl⟩ : ∃ W2 : World, W2 = W1 := ⟨_, rfl⟩
  obtain ⟨v, hv⟩ : ∃ v : Int, v = wrap64 (c + 1) := ⟨_, rfl⟩
  have HVV := Wd (show v = wrap64 ((cnt l : Int) + 1 + ((if y.kind = 6 ∨ y.kind = 7 then y.names.length else 0 : Nat) : Int)) from by rw [HV.out, hv, HCC.out, Gw]; simp)
  have HB2 := HB1; have HC2 := Wd (show Blk W2 bc 3 [.int .i64 v] from by rw [hv]; exact HC1.out)
  clear hv HB1 HC1
 case' inl =>
  obtain ⟨c1, hc1⟩ : ∃ c1, c1 = wrap64 (c + 1) := ⟨_, rfl⟩
  have HC1' := Wd (show Blk W1 bc 3 [.int .i64 c1] from by rw [hc1]; exact HC1.out)
  have HCC1 := Wd hc1
  clear hc1 HC1
  go_wp2_with fail
  have b0 := HC1'.out.cell (j := 0) rfl
  have f0 := HC1'.out.frozen 0
  have g4 := Cl HB1.out G4.out
  go_still_tail 7, (by kernel_rfl)
  change wpList _ _ _ _ _ W1.drew
  clear b0 f0 g4
  go_wp2_with (refine Qc bc 0 [] [_] [] [.int .i64 (IntKind.i64.wrap (c1 + y.names.length))] 3 rfl 3 (.tmp 2) _ rfl rfl rfl rfl HC1'.out rfl (by kernel_rfl) (by intro v hv; rw [List.mem_singleton.1 hv]; rfl) ?_)
  intro W2 hb2 hg2 hs2
  obtain ⟨v, hv⟩ : ∃ v : Int, v = IntKind.i64.wrap (c1 + y.names.length) := ⟨_, rfl⟩
  rw [← hv] at hb2
  have HVV := Wd (show v = wrap64 ((cnt l : Int) + 1 + ((if y.kind = 6 ∨ y.kind = 7 then y.names.length else 0 : Nat) : Int)) from by rw [HV.out, hv, HCC1.out, HCC.out, Ht, Gw, Int.add_assoc, Gw, ← Int.add_assoc])
  have HB2 := Wd (Zm HB1.out (Gv hg2) h1); have HC2 := Wd hb2
  have q6 := Cl HB2.out G6.out
  clear hb2 hv hg2 hs2 HB1 HC1' g0
  go_wp2_with fail
  clear q6
 case' inr.inl =>
  obtain ⟨c1, hc1⟩ : ∃ c1, c1 = wrap64 (c + 1) := ⟨_, rfl⟩
  have HC1' := Wd (show Blk W1 bc 3 [.int .i64 c1] from by rw [hc1]; exact HC1.out)
  have HCC1 := Wd hc1
  clear hc1 HC1
  go_wp2_with fail
  have b0 := HC1'.out.cell (j := 0) rfl
  have f0 := HC1'.out.frozen 0
  have g4 := Cl HB1.out G4.out
  go_still_tail 7, (by kernel_rfl)
  change wpList _ _ _ _ _ W1.drew
  clear b0 f0 g4
  go_wp2_with (refine Qc bc 0 [] [_] [] [.int .i64 (IntKind.i64.wrap (c1 + y.names.length))] 3 rfl 3 (.tmp 2) _ rfl rfl rfl rfl HC1'.out rfl (by kernel_rfl) (by intro v hv; rw [List.mem_singleton.1 hv]; rfl) ?_)
  intro W2 hb2 hg2 hs2
  obtain ⟨v, hv⟩ : ∃ v : Int, v = IntKind.i64.wrap (c1 + y.names.length) := ⟨_, rfl⟩
  rw [← hv] at hb2
  have HVV := Wd (show v = wrap64 ((cnt l : Int) + 1 + ((if y.kind = 6 ∨ y.kind = 7 then y.names.length else 0 : Nat) : Int)) from by rw [HV.out, hv, HCC1.out, HCC.out, Ht, Gw, Int.add_assoc, Gw, ← Int.add_assoc])
  have HB2 := Wd (Zm HB1.out (Gv hg2) h1); have HC2 := Wd hb2
  have q6 := Cl HB2.out G6.out
  clear hb2 hv hg2 hs2 HB1 HC1' g0
  go_wp2_with fail
  clear q6
 all_goals
  go_loopw [6, 33] (fun v6 i wr => ∃ (k : Nat) (v2 : Int), k ≤ y.alts.length ∧ i = .int .i64 k ∧ Hid (v2 = wrap64 ((cnt l : Int) + 1 + ((if y.kind = 6 ∨ y.kind = 7 then y.names.length else 0 : Nat) : Int) + ((Zp (y.alts.take k) : Nat) : Int))) ∧ Hid (Below S.heap.size S wr) ∧ Hid (Blk wr bc 3 [.int .i64 v2])) (fun _ i _ => y.alts.length - (intOf i).toNat)
  case atStart => exact ⟨0, v, Nat.zero_le _, rfl, Wd (by rw [HVV.out]; simp [Zp]), HB2, HC2⟩
  case round =>
   obtain ⟨k, v2, hk, rfl, HVK, HBr, HCr⟩ := hrel
   by_cases hlt : k < y.alts.length
   ·obtain ⟨ad, A1, c1, A3, c3, A4, c4, A5', c5', A6', c6', rfl, _, _, _, _, g0, g1, g2, g3, g4, g5, g6, g7, g8⟩ := Yd A6'.out HBr.out k hlt
    clear g0 g2 g3 g4 g5 g6 g7 g8
    have q6 := Cl HBr.out G6.out
    have b0 := HCr.out.cell (j := 0) rfl
    have f0 := HCr.out.frozen 0
    go_wp2_with fail
    go_still_tail 11, (by kernel_rfl)
    change wpList _ _ _ _ _ wr.drew
    clear b0 f0 g1 q6
    go_wp2_with (refine Qc bc 0 [] [_] [] [.int .i64 (IntKind.i64.wrap (v2 + y.alts[k].names.length))] 3 rfl 3 (.tmp 2) _ rfl rfl rfl rfl HCr.out rfl (by kernel_rfl) (by intro v hv; rw [List.mem_singleton.1 hv]; rfl) ?_)
    intro W3 hb3 hg3 hs3
    obtain ⟨v3, hv3⟩ : ∃ v : Int, v = IntKind.i64.wrap (v2 + y.alts[k].names.length) := ⟨_, rfl⟩
    rw [← hv3] at hb3
    have HV3 := Wd hv3
    have HB3 := Wd (Zm HBr.out (Gv hg3) h1); have HC3 := Wd hb3
    clear hb3 hg3 hs3 hv3
    go_wp2
    go_roundw
    case rel => exact ⟨k + 1, v3, by omega, by go_num, Wd (by rw [HV3.out, HVK.out, Ht, Gw, Qf hlt, Vz]; push_cast; rw [Int.add_assoc]), HB3, HC3⟩
    case measure => simp [intOf]; omega
   ·have hkk : k = y.alts.length := by omega
    have hnn := HVK.out
    rw [hkk, List.take_length] at hnn
    have HNN := Wd (show v2 = wrap64 (cnt (l ++ [(y, d)]) : Nat) from by
     rw [Hf, hnn]
     refine congrArg wrap64 ?_
     simp only [cnt, qzk]
     push_cast
     omega)
    clear hnn hkk
    go_wp2
    go_ret
    exact .inl ⟨rfl, HBr.out, by rw [← HNN.out]; exact HCr.out⟩
theorem qda (x : CoreT) (hs : Shapes x) (hbk : bulk x ≤ 274877906944) (ht : Qr x ≤ 1000000000000) (p : Addr) (w : World) (hat : At w x p) : Calls Tryz.prog 28 #[.pointer (some p)] w fun e w' => e = .returned (.int .i64 (Qr x)) ∧ Below w.heap.size w w' := by
 have hmf : ∀ (fn : Fn) (first cap : Array Value) (w : World), (Instr.makeFunc fn first cap).run Tryz.prog w = .ok (.func fn first cap) w := fun _ _ _ _ => rfl
 have ⟨HS, HBK, HT, HAT, HD⟩ := Wz hs hbk ht hat (qol x)
 clear hs hbk ht hat
 obtain ⟨W1, hW1, hp1, hB1, hs1⟩ := boxed w [.int .i64 0] 3
 have HP1 := Wd hp1; have HB1 := Wd hB1
 clear hp1 hB1 hs1
 rw [hW1] at HP1
 have HW1 := Wd hW1
 clear hW1
 go_enter Tryz.func28, Tryz.ntmps28
 go_wp2_with (refine Wv w.heap.size [.int .i64 0] HP1.out ?_)
 intro w3 hb3 hg3 hs3
 rw [← HW1.out] at hg3
 have HB3 := Wd (show Below w.heap.size w w3 from HB1.out.grown hg3 HB1.out.size (fun j hj => by injection hj with hj; omega))
 have HC3 := Wd hb3
 clear hb3 hg3 hs3
 go_wp2_with fail
 refine (qiz x HBK.out w w3 p 1 58 #[.pointer (some ⟨w.heap.size, 0, none⟩)] (TcI w w.heap.size) (fun _ _ => False) []
  (enters_of Tryz.func58 (by kernel_rfl) rfl) (by omega) (by have := HD.out; have := HBK.out; omega) HAT.out (fun l w h => h.1) (zax w _ (Nat.le_refl _))
  ⟨HB3.out, by rw [show wrap64 ((cnt ([] : List (CoreT × Int)) : Nat) : Int) = 0 from by simp [cnt, wrap64]]; exact HC3.out⟩).mono ?_
 rintro e w4 (⟨rfl, hI⟩ | ⟨rfl, l, hl, hQ⟩)
 case inr => exact hQ.elim
 have HB4 := Wd hI.1
 have hc := hI.2
 rw [List.nil_append, qkp x HS.out 1, qdy _ HT.out] at hc
 have b0 := hc.cell (j := 0) rfl
 clear hI hc
 go_wp2
 go_ret
 exact ⟨rfl, HB4.out⟩
theorem quq (nm : ByteArray) (x bt : CoreT) (hx : bulk x ≤ 1048576) (hb : bulk bt ≤ 1048576) (w : World) (cs ds : List Value) (hK : IC.K w x cs) (hL : IC.K w bt ds) :
  Calls Tryz.prog 5 #[.agg cs.toArray, .string nm, .agg ds.toArray] w (qbn 35 76 (Yq nm bt x) w) := by
 obtain ⟨A3, a3, A4, a4, A5, a5, A6, a6, rfl, -⟩ := Qk hK
 obtain ⟨B3, b3, B4, b4, B5, b5, B6, b6, rfl, -⟩ := Qk hL
 have ⟨HK, HL, HBX, HBB⟩ := Wj hK hL hx hb
 clear hK hL hx hb
 obtain ⟨W1, hW1, hp1, hB1, hs1⟩ := Wy w x A3 a3 A4 a4 A5 a5 A6 a6 35
 obtain ⟨W2, hW2, hp2, hB2, hs2⟩ := Wy W1 bt B3 b3 B4 b4 B5 b5 B6 b6 35
 obtain ⟨W3, hW3, hp3, hB3, hs3⟩ := Wh W2 35
 rw [hs1] at hp2 hs2
 rw [hs2] at hp3 hs3
 have ⟨HX3, HY3, HR3⟩ := Wq ((hp1.below hB2).below hB3) (hp2.below hB3) hp3
 have HB3 := Wd (Below.step (Below.step hB1 hB2) hB3); have HS3 := Wd hs3
 clear hp1 hp2 hp3 hB1 hB2 hB3 hs1 hs2 hs3
 rw [hW2, hW1] at hW3
 have HW3 := Wd hW3
 clear hW1 hW2 hW3
 simp only [Qb]
 go_enter Tryz.func5, Tryz.ntmps5
 go_wp2_with fail
 rw [← HW3.out]
 clear HW3 W1 W2
 have ⟨x0, x1, x2, x3, x4, x5, x6⟩ := Cz HX3.out
 have ⟨y0, y1, y2, y3, y4, y5, y6⟩ := Cz HY3.out
 have HBZ := Wd (show Below W3.heap.size W3 W3.drew from ⟨rfl, rfl, rfl, Nat.le_refl _, fun _ _ => rfl⟩)
 refine Qe [(true, 0), (false, 1), (true, 2), (true, 3), (true, 4), (false, 5), (true, 6), (true, 7), (true, 8), (true, 9), (true, 11), (true, 12), (true, 14), (false, 10), (false, 13), (false, 15), (true, 16), (true, 17), (true, 18), (true, 19), (true, 20)] [] (fun W' => Below W3.heap.size W3 W') (by kernel_rfl) (by kernel_rfl) (fun _ _ d _ _ h => by cases d <;> exact h) ⟨rfl, rfl, rfl, Nat.le_refl _, fun _ _ => rfl⟩ ?_
 refine Tb 8 (y := fun w' hSw => by
  have ⟨t0, t1, t2, t3, t4, t5, t6⟩ := Cb7 hSw x0 x1 x2 x3 x4 x5 x6
  go_simp
  try with_reducible rfl) (h := ?_)
 refine Run.step (some 9) (by rfl) (by rfl) ?_
 intro K hK
 go_simp
 refine (qgu x (by have := HBX.out; omega) _ _ ((Ja _ _).K_below (Qa HB3.out HBZ.out) HK.out)).mono ?_
 rintro e wf ⟨f, rfl, hgood, hb⟩
 replace HBZ := Wd (Qa HBZ.out hb)
 refine hK.out _ _ (fun _ => HBZ.out) ?_
 clear hK K hb
 try simp only [Act.put, heap_drew, Nat.reduceAdd, Jla, Jlb, Jlc]
 by_cases hg : Good x
 case' pos =>
  obtain rfl := hgood.2 hg
  have HGX := Wd hg
  clear hgood hg
  have hf1 : True := trivial
  refine Tb 8 (v := .bool false) (y := fun w' hSw => by
   go_simp
   all_goals first | (with_reducible rfl) | (simp; done) | (simp [hf1]; done) | (simp; omega)) (h := ?_)
  refine Tb 8 (v := .bool false) (y := fun w' hSw => by
   go_simp
   all_goals first | (with_reducible rfl) | (simp; done) | (simp [hf1]; done) | (simp; omega)) (h := ?_)
  refine Tb 8 (y := fun w' hSw => by
   have ⟨r0, r1, r2, r3, r4, r5, r6⟩ := Cb7 hSw y0 y1 y2 y3 y4 y5 y6
   go_simp
   try with_reducible rfl) (h := ?_)
  refine Run.step (some 13) (by rfl) (by rfl) ?_
  intro K hK
  go_simp
  refine (qgu bt (by have := HBB.out; omega) _ _ ((Ja _ _).K_below (Qa HB3.out HBZ.out) HL.out)).mono ?_
  rintro e wf ⟨f, rfl, hgood, hb⟩
  replace HBZ := Wd (Qa HBZ.out hb)
  refine hK.out _ _ (fun _ => HBZ.out) ?_
  clear hK K hb
  try simp only [Act.put, heap_drew, Nat.reduceAdd, Jla, Jlb, Jlc]
  by_cases hg : Good bt
  case' pos =>
   obtain rfl := hgood.2 hg
   have HGB := Wd hg
   clear hgood hg
   refine Tb 8 (v := .bool false) (y := fun w' hSw => by
    go_simp
    all_goals first | (with_reducible rfl) | (simp; done) | (simp [hf1]; done) | (simp; omega)) (h := ?_)
   refine Tb 8 (v := .bool false) (y := fun w' hSw => by
    go_simp
    all_goals first | (with_reducible rfl) | (simp; done) | (simp [hf1]; done) | (simp; omega)) (h := ?_)
   refine Tb 8 (v := .bool false) (y := fun w' hSw => by
    go_simp
    all_goals first | (with_reducible rfl) | (simp; done) | (simp [hf1]; done) | (simp; omega)) (h := ?_)
   iterate 3
    refine Tb 8 (y := fun w' hSw => by
     have ⟨t0, t1, t2, t3, t4, t5, t6⟩ := Cb7 hSw x0 x1 x2 x3 x4 x5 x6
     go_simp
     try with_reducible rfl) (h := ?_)
   refine Tb 8 (y := fun w' hSw => by
    have ⟨r0, r1, r2, r3, r4, r5, r6⟩ := Cb7 hSw y0 y1 y2 y3 y4 y5 y6
    go_simp
    try with_reducible rfl) (h := ?_)
   refine Run.step (some 18) (by rfl) (by rfl) ?_
   intro K hK
   go_simp
   refine (qio x HGX.out (by have := HBX.out; omega) _ _ ((Ja _ _).K_below (Qa HB3.out HBZ.out) HK.out)).mono ?_
   rintro e w6 ⟨rfl, hb⟩
   replace HBZ := Wd (Qa HBZ.out hb)
   refine hK.out _ _ (fun _ => HBZ.out) ?_
   clear hK K hb
   try simp only [Act.put, heap_drew, Nat.reduceAdd, Jla, Jlb, Jlc]
   refine Run.step (some 21) (by rfl) (by rfl) ?_
   intro K hK
   go_simp
   refine (quw nm x (by have := HBX.out; omega) (by have := qdb nm x HGX.out.sane; have := HGX.out.1; omega) _ _ ((Ja _ _).K_below (Qa HB3.out HBZ.out) HK.out)).mono ?_
   rintro e w7 ⟨rfl, hb⟩
   replace HBZ := Wd (Qa HBZ.out hb)
   refine hK.out _ _ (fun _ => HBZ.out) ?_
   clear hK K hb
   try simp only [Act.put, heap_drew, Nat.reduceAdd, Jla, Jlb, Jlc]
   refine Run.step (some 23) (by rfl) (by rfl) ?_
   intro K hK
   go_simp
   refine (qio bt HGB.out (by have := HBB.out; omega) _ _ ((Ja _ _).K_below (Qa HB3.out HBZ.out) HL.out)).mono ?_
   rintro e w8 ⟨rfl, hb⟩
   replace HBZ := Wd (Qa HBZ.out hb)
   refine hK.out _ _ (fun _ => HBZ.out) ?_
   clear hK K hb
   try simp only [Act.put, heap_drew, Nat.reduceAdd, Jla, Jlb, Jlc]
   have hT : Qt nm x ≤ 20000 := by have := qdb nm x HGX.out.sane; have := HGX.out.1; omega
   have hm : 0 ≤ (Qt nm x : Int) * ((Qr bt : Int) - 1) ∧ (Qt nm x : Int) * ((Qr bt : Int) - 1) ≤ 400000000 := by
    have h1 := qar bt; have h2 := HGB.out.1
    refine ⟨Int.mul_nonneg (by omega) (by omega), ?_⟩
    have := Int.mul_le_mul (show (Qt nm x : Int) ≤ 20000 by omega) (show ((Qr bt : Int) - 1) ≤ 20000 by omega) (by omega) (by omega)
    omega
   have e1 : wrap64 ((Qr bt : Int) - 1) = (Qr bt : Int) - 1 := by have := HGB.out.1; have := qar bt; unfold wrap64; omega
   obtain ⟨M, hM⟩ : ∃ M : Int, M = (Qt nm x : Int) * ((Qr bt : Int) - 1) := ⟨_, rfl⟩
   rw [← hM] at hm
   have e2 : wrap64 M = M := by unfold wrap64; omega
   have e3 : wrap64 ((Qr x : Int) + M) = (Qr x : Int) + M := by have := HGX.out.1; unfold wrap64; omega
   have ⟨HM, E1, E2, E3⟩ := Wj hM e1 e2 e3
   clear hM e1 e2 e3 hT hm
   refine Tb 8 (v := .int .i64 ((Qr bt : Int) - 1)) (y := fun w' hSw => by
    go_simp
    all_goals simp [Ht, E1.out]) (h := ?_)
   refine Tb 8 (v := .int .i64 M) (y := fun w' hSw => by
    go_simp
    all_goals simp [Ht, ← HM.out, E2.out]) (h := ?_)
   refine Tb 8 (v := .int .i64 ((Qr x : Int) + M)) (y := fun w' hSw => by
    go_simp
    all_goals simp [Ht, E3.out]) (h := ?_)
   by_cases hm : 20000 < (Qr x : Int) + M
   case' neg =>
    refine Tb 8 (v := .bool false) (y := fun w' hSw => by
     go_simp
     all_goals simp [hm]) (h := ?_)
    refine Tb 8 (v := .bool false) (y := fun w' hSw => by
     go_simp
     all_goals first | (with_reducible rfl) | (simp; done) | (simp [hf1]; done) | (simp; omega)) (h := ?_)
    have HF := Wd (show Fits2 nm x bt from ⟨HGX.out, HGB.out, by rw [← HM.out]; omega⟩)
    clear hm HM E1 E2 E3 HGX hf1
    refine Run.nil ?_
    have HZ3 := Wd (Qa HB3.out HBZ.out)
    have HRW := Wd (HR3.out.below HBZ.out)
    have ⟨x0, x1, x2, x3, x4, x5, x6⟩ := Cz (HX3.out.below HBZ.out)
    have ⟨y0, y1, y2, y3, y4, y5, y6⟩ := Cz (HY3.out.below HBZ.out)
    go_wp2_with fail
    clear x0 x1 x2 x3 x4 x5 x6 y0 y1 y2 y3 y4 y5 y6
    have hpre := HF.out.pre HBX.out HBB.out
    refine (qwp nm x bt hpre HGB.out HBB.out (by have := HBX.out; omega) _ _ _ ((Ja _ _).K_below HZ3.out HK.out) ((Ja _ _).K_below HZ3.out HL.out)).mono ?_
    rintro e w9 ⟨c9, F9, rfl, ho, hn, hf, hb⟩
    have HPO := Wd ((qcz (HGB.out.env HBB.out) (dep x) x hpre).fit hpre).bulk
    clear hpre
    obtain ⟨y, hy⟩ : ∃ y, y = Jb nm bt (qad bt) (qbk bt) (dep x) x := ⟨_, rfl⟩
    rw [← hy] at ho HPO
    obtain ⟨U3, u3, U4, u4, U5, u5, U6, u6, rfl⟩ := Zi ho
    have ⟨HY9, HO9, HN9, HF9⟩ := Wj hy ho hn hf
    have HB9 := Wd (Qa HZ3.out hb)
    have HR9 := Wd (HRW.out.below hb)
    have HS9 := Wd hb
    clear ho hn hf hb hy
    simp only [Qb]
    have hz := Wd (Jm w9 35 [.int .i64 0, .string ⟨#[]⟩, .bool false, .slice none 0 0, .slice none 0 0, .slice none 0 0, .slice none 0 0])
    go_wp2_with (refine Wv w9.heap.size [.int .i64 y.kind, .string y.name, .bool y.minus, .slice U3 y.limbs.length u3, .slice U4 y.names.length u4, .slice U5 y.kids.length u5, .slice U6 y.alts.length u6] hz.out ?_)
    intro wa hba hga hsa
    have hb9a : Below w9.heap.size w9 wa := ((Below.refl _ _).alloc (Nat.le_refl _) _).grown hga (by simp) (fun j hj => by injection hj with hj; omega)
    have ⟨HOA, HBA, HRA⟩ := Wq (qan HO9.out hb9a) (Qa HB9.out hb9a) (HR9.out.below hb9a)
    have HSA := Wd (Qa HS9.out hb9a)
    have HTA := Wd hba
    have ⟨q0, q1, q2, q3, q4, q5, q6⟩ := Cz hba
    clear hz hba hga hsa hb9a HO9 HB9 HR9 HS9
    go_wp2_with fail
    refine (qgu y HPO.out wa _ (Yo HOA.out)).mono ?_
    rintro e wf ⟨f, rfl, hgood, hb⟩
    have ⟨HOB, HBB2, HRB⟩ := Wq (qan HOA.out hb) (Qa HBA.out hb) (HRA.out.below hb)
    have HSB := Wd (Qa HSA.out hb)
    clear q0 q1 q2 q3 q4 q5 q6
    by_cases hg : Good y
    ·obtain rfl := hgood.2 hg
     have HR := Wd (show Yq nm bt x = y from by rw [HY9.out] at hg ⊢; exact qim HF.out hg)
     have ⟨q0, q1, q2, q3, q4, q5, q6⟩ := Cz (HTA.out.below hb)
     clear hgood hg HY9 hb HOA HBA HRA HSA HTA
     go_wp2_with (refine Wv (w.heap.size + 1 + 1) [.int .i64 y.kind, .string y.name, .bool y.minus, .slice U3 y.limbs.length u3, .slice U4 y.names.length u4, .slice U5 y.kids.length u5, .slice U6 y.alts.length u6] HRB.out ?_)
     intro w11 hblk hg hsz
     have ⟨q0, q1, q2, q3, q4, q5, q6⟩ := Cz hblk
     have HGG := Wd hg
     clear hblk hg
     go_wp2
     refine bodyPost_ret (v := .agg #[.int .i64 y.kind, .string y.name, .bool y.minus, .slice U3 y.limbs.length u3, .slice U4 y.names.length u4, .slice U5 y.kids.length u5, .slice U6 y.alts.length u6]) (by simp [results, Tryz.results5, go_sem, q0, q1, q2, q3, q4, q5, q6]) rfl ?_
     have hd := Ge HZ3.out HRW.out.lt (by omega) HSB.out HOB.out HF9.out HGG.out
     rw [HR.out]
     exact ⟨_, F9, rfl, hd.1, HN9.out, hd.2.1, hd.2.2⟩
    ·have hf0 : ¬ f = 0 := fun h => hg (hgood.1 h)
     have hf1 : (f == 0) = false := beq_eq_false_iff_ne.2 hf0
     have HR := Wd (show Yq nm bt x = x from by rw [HY9.out] at hg; exact Vi (fun _ => hg))
     have HXF := Wd (HX3.out.below (Qa HBZ.out HSB.out))
     have ⟨x0, x1, x2, x3, x4, x5, x6⟩ := Cz HXF.out
     clear hgood hg HY9 hb HOA HBA HRA HSA HTA
     go_wp2_with fail
     clear hf0 hf1 x0 x1 x2 x3 x4 x5 x6
     refine (Uk x (by have := HBX.out; omega) wf _ ((Ja _ _).K_below HBB2.out HK.out)).mono ?_
     rintro e w16 ⟨c16, F16, rfl, ho, hn, hf, hb⟩
     obtain ⟨E3, e3, E4, e4, E5, e5, E6, e6, rfl⟩ := Zi ho
     have ⟨HO16, HN16, HF16, HB16⟩ := Wj ho hn hf hb
     have HR16 := Wd (HRB.out.below hb)
     clear ho hn hf hb
     simp only [Qb]
     go_wp2_with (refine Wv (w.heap.size + 1 + 1) [.int .i64 x.kind, .string x.name, .bool x.minus, .slice E3 x.limbs.length e3, .slice E4 x.names.length e4, .slice E5 x.kids.length e5, .slice E6 x.alts.length e6] HR16.out ?_)
     intro w17 hblk hg hsz
     have ⟨q0, q1, q2, q3, q4, q5, q6⟩ := Cz hblk
     have HGG := Wd hg
     clear hblk hg
     go_wp2
     refine bodyPost_ret (v := .agg #[.int .i64 x.kind, .string x.name, .bool x.minus, .slice E3 x.limbs.length e3, .slice E4 x.names.length e4, .slice E5 x.kids.length e5, .slice E6 x.alts.length e6]) (by simp [results, Tryz.results5, go_sem, q0, q1, q2, q3, q4, q5, q6]) rfl ?_
     have hd := Ge HBB2.out HRB.out.lt (by omega) HB16.out HO16.out HF16.out HGG.out
     rw [HR.out]
     exact ⟨_, F16, rfl, hd.1, HN16.out, hd.2.1, hd.2.2⟩
   rotate_right
   case' pos =>
    have HR := Wd (show Yq nm bt x = x from Vi (fun h => absurd h.2.2 (by rw [← HM.out]; omega)))
    refine Tb 8 (v := .bool true) (y := fun w' hSw => by
     go_simp
     all_goals simp [hm]) (h := ?_)
    refine Tb 8 (v := .bool true) (y := fun w' hSw => by
     go_simp
     all_goals first | (with_reducible rfl) | (simp; done) | (simp [hf1]; done) | (simp; omega)) (h := ?_)
    clear hm HM E1 E2 E3 HGX HGB hf1
    refine Run.nil ?way3
  rotate_right
  case' neg =>
   have hf0 : ¬ f = 0 := fun h => hg (hgood.1 h)
   have hf1 : (f == 0) = false := beq_eq_false_iff_ne.2 hf0
   have HR := Wd (show Yq nm bt x = x from Vi (fun h => absurd h.2.1 hg))
   clear hgood hg
   refine Tb 8 (v := .bool true) (y := fun w' hSw => by
    go_simp
    all_goals first | (with_reducible rfl) | (simp; done) | (simp [hf1]; done) | (simp; omega)) (h := ?_)
   refine Tb 8 (v := .bool true) (y := fun w' hSw => by
    go_simp
    all_goals first | (with_reducible rfl) | (simp; done) | (simp [hf1]; done) | (simp; omega)) (h := ?_)
   refine Tb 8 (v := .bool true) (y := fun w' hSw => by
    go_simp
    all_goals first | (with_reducible rfl) | (simp; done) | (simp [hf1]; done) | (simp; omega)) (h := ?_)
   iterate 4
    refine Run.passB 8 (by rfl) (by rfl) (by rfl) ?_
    try simp only [Act.put, heap_drew, Nat.reduceAdd, Jla, Jlb, Jlc]
   refine Run.step (some 18) (by rfl) (by rfl) ?_
   intro K hK
   refine (if_neg (show ¬ _ = true from by rw [Bool.not_eq_true]; rfl)).mpr ?_
   refine hK.out _ _ (fun _ => HBZ.out) ?_
   clear hK K
   try simp only [Act.put, heap_drew, Nat.reduceAdd, Jla, Jlb, Jlc]
   refine Run.step (some 21) (by rfl) (by rfl) ?_
   intro K hK
   refine (if_neg (show ¬ _ = true from by rw [Bool.not_eq_true]; rfl)).mpr ?_
   refine hK.out _ _ (fun _ => HBZ.out) ?_
   clear hK K
   try simp only [Act.put, heap_drew, Nat.reduceAdd, Jla, Jlb, Jlc]
   refine Run.step (some 23) (by rfl) (by rfl) ?_
   intro K hK
   refine (if_neg (show ¬ _ = true from by rw [Bool.not_eq_true]; rfl)).mpr ?_
   refine hK.out _ _ (fun _ => HBZ.out) ?_
   clear hK K
   try simp only [Act.put, heap_drew, Nat.reduceAdd, Jla, Jlb, Jlc]
   iterate 4
    refine Run.passB 8 (by rfl) (by rfl) (by rfl) ?_
    try simp only [Act.put, heap_drew, Nat.reduceAdd, Jla, Jlb, Jlc]
   refine Tb 8 (v := .bool true) (y := fun w' hSw => by
    go_simp
    all_goals first | (with_reducible rfl) | (simp; done) | (simp [hf1]; done) | (simp; omega)) (h := ?_)
   clear hf0 hf1 HGX
   refine Run.nil ?way2
 rotate_right
 case' neg =>
  have hf0 : ¬ f = 0 := fun h => hg (hgood.1 h)
  have hf1 : (f == 0) = false := beq_eq_false_iff_ne.2 hf0
  have HR := Wd (show Yq nm bt x = x from Vi (fun h => absurd h.1 hg))
  clear hgood hg
  refine Tb 8 (v := .bool true) (y := fun w' hSw => by
   go_simp
   all_goals first | (with_reducible rfl) | (simp; done) | (simp [hf1]; done) | (simp; omega)) (h := ?_)
  refine Tb 8 (v := .bool true) (y := fun w' hSw => by
   go_simp
   all_goals first | (with_reducible rfl) | (simp; done) | (simp [hf1]; done) | (simp; omega)) (h := ?_)
  refine Run.passB 8 (by rfl) (by rfl) (by rfl) ?_
  try simp only [Act.put, heap_drew, Nat.reduceAdd, Jla, Jlb, Jlc]
  refine Run.step (some 13) (by rfl) (by rfl) ?_
  intro K hK
  refine (if_neg (show ¬ _ = true from by rw [Bool.not_eq_true]; rfl)).mpr ?_
  refine hK.out _ _ (fun _ => HBZ.out) ?_
  clear hK K
  try simp only [Act.put, heap_drew, Nat.reduceAdd, Jla, Jlb, Jlc]
  refine Run.passB 8 (by rfl) (by rfl) (by rfl) ?_
  try simp only [Act.put, heap_drew, Nat.reduceAdd, Jla, Jlb, Jlc]
  refine Tb 8 (v := .bool true) (y := fun w' hSw => by
   go_simp
   all_goals first | (with_reducible rfl) | (simp; done) | (simp [hf1]; done) | (simp; omega)) (h := ?_)
  refine Tb 8 (v := .bool true) (y := fun w' hSw => by
   go_simp
   all_goals first | (with_reducible rfl) | (simp; done) | (simp [hf1]; done) | (simp; omega)) (h := ?_)
  iterate 4
   refine Run.passB 8 (by rfl) (by rfl) (by rfl) ?_
   try simp only [Act.put, heap_drew, Nat.reduceAdd, Jla, Jlb, Jlc]
  refine Run.step (some 18) (by rfl) (by rfl) ?_
  intro K hK
  refine (if_neg (show ¬ _ = true from by rw [Bool.not_eq_true]; rfl)).mpr ?_
  refine hK.out _ _ (fun _ => HBZ.out) ?_
  clear hK K
  try simp only [Act.put, heap_drew, Nat.reduceAdd, Jla, Jlb, Jlc]
  refine Run.step (some 21) (by rfl) (by rfl) ?_
  intro K hK
  refine (if_neg (show ¬ _ = true from by rw [Bool.not_eq_true]; rfl)).mpr ?_
  refine hK.out _ _ (fun _ => HBZ.out) ?_
  clear hK K
  try simp only [Act.put, heap_drew, Nat.reduceAdd, Jla, Jlb, Jlc]
  refine Run.step (some 23) (by rfl) (by rfl) ?_
  intro K hK
  refine (if_neg (show ¬ _ = true from by rw [Bool.not_eq_true]; rfl)).mpr ?_
  refine hK.out _ _ (fun _ => HBZ.out) ?_
  clear hK K
  try simp only [Act.put, heap_drew, Nat.reduceAdd, Jla, Jlb, Jlc]
  iterate 4
   refine Run.passB 8 (by rfl) (by rfl) (by rfl) ?_
   try simp only [Act.put, heap_drew, Nat.reduceAdd, Jla, Jlb, Jlc]
  refine Tb 8 (v := .bool true) (y := fun w' hSw => by
   go_simp
   all_goals first | (with_reducible rfl) | (simp; done) | (simp [hf1]; done) | (simp; omega)) (h := ?_)
  clear hf0 hf1
  refine Run.nil ?way1
 all_goals
  have HZ3 := Wd (Qa HB3.out HBZ.out)
  have HRW := Wd (HR3.out.below HBZ.out)
  have ⟨x0, x1, x2, x3, x4, x5, x6⟩ := Cz (HX3.out.below HBZ.out)
  go_wp2_with fail
  clear x0 x1 x2 x3 x4 x5 x6
  refine (Uk x (by have := HBX.out; omega) _ _ ((Ja _ _).K_below HZ3.out HK.out)).mono ?_
  rintro e w16 ⟨c16, F16, rfl, ho, hn, hf, hb⟩
  obtain ⟨E3, e3, E4, e4, E5, e5, E6, e6, rfl⟩ := Zi ho
  have ⟨HO16, HN16, HF16, HB16⟩ := Wj ho hn hf hb
  have HR16 := Wd (HRW.out.below hb)
  clear ho hn hf hb
  simp only [Qb]
  go_wp2_with (refine Wv (w.heap.size + 1 + 1) [.int .i64 x.kind, .string x.name, .bool x.minus, .slice E3 x.limbs.length e3, .slice E4 x.names.length e4, .slice E5 x.kids.length e5, .slice E6 x.alts.length e6] HR16.out ?_)
  intro w18 hblk hg hsz
  have ⟨q0, q1, q2, q3, q4, q5, q6⟩ := Cz hblk
  have HGG := Wd hg
  clear hblk hg
  go_wp2
  refine bodyPost_ret (v := .agg #[.int .i64 x.kind, .string x.name, .bool x.minus, .slice E3 x.limbs.length e3, .slice E4 x.names.length e4, .slice E5 x.kids.length e5, .slice E6 x.alts.length e6]) (by simp [results, Tryz.results5, go_sem, q0, q1, q2, q3, q4, q5, q6]) rfl ?_
  have hd := Ge HZ3.out HRW.out.lt (by omega) HB16.out HO16.out HF16.out HGG.out
  rw [HR.out]
  exact ⟨_, F16, rfl, hd.1, HN16.out, hd.2.1, hd.2.2⟩
end Go.Proofs.YtnoammmohdmnjaaGreat.C13
