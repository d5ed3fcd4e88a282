import Derived.Test.YtnoammmohdmnjaaGreatU28
set_option maxRecDepth 100000
set_option maxHeartbeats 16000000
set_option linter.unusedVariables false
set_option linter.unusedSimpArgs false
namespace Go.Proofs.YtnoammmohdmnjaaGreat.C13
open Go.RowKit Go.Proofs.YtnoammmohdmnjaaGreatW.PrintWords
open List renaming setIfInBounds_toArray → Jla, set_cons_zero → Jlb, set_cons_succ → Jlc
theorem qdp (bd : List ByteArray) : ∀ (l : List CoreT) (k : Nat), (Zf bd (l.take k)).length ≤ (Zf bd l).length
 | [], k => by simp
 | a :: r, 0 => by simp [Zf]
 | a :: r, k + 1 => by rw [List.take_succ_cons, Zf, Zf, List.length_append, List.length_append]; have := qdp bd r k; omega
theorem qia (bd : List ByteArray) : ∀ (l : List AltT) (k : Nat), (Xu bd (l.take k)).length ≤ (Xu bd l).length
 | [], k => by simp
 | a :: r, 0 => by simp [Xu]
 | a :: r, k + 1 => by rw [List.take_succ_cons, Xu, Xu, List.length_append, List.length_append]; have := qia bd r k; omega
theorem Gt {c : CoreT} : ∀ {l : List CoreT}, c ∈ l → Qr c ≤ Zb l
 | a :: r, h => by
  rw [Zb]
  rcases List.mem_cons.1 h with rfl | h
  ·omega
  ·have := Gt h; omega
theorem qfq {a : AltT} : ∀ {l : List AltT}, a ∈ l → a.names.length + Qr a.body ≤ Zp l + Qy l
 | b :: r, h => by
  rw [Qy, Zp, Xr]
  rcases List.mem_cons.1 h with rfl | h
  ·omega
  ·have := qfq h; omega
theorem Grow.row {S w w' : World} {v v' : Value} {l : List ByteArray} (h : Grow S w v w' v' l) {e : TypeId} {vb : Value} {n : Nat} {cells : List Value} {F : List Nat} (hr : Row w e vb n cells F) (hn : ∀ k ∈ F, some k ≠ v.ownBlock) : Row w' e vb n cells F := hr.move (fun k hk => h.gr.block k (hr.lt k hk) (hn k hk))
theorem qsr {bd : List ByteArray} {l : List CoreT} (h : 0 < l.length) : Zf bd (l.take 1) = fvs bd l[0] := by
 cases l with
 | nil => simp at h
 | cons c r => simp [Zf]
theorem qss {bd : List ByteArray} {l : List CoreT} (h : 1 < l.length) (h2 : l.length ≤ 2) : Zf bd (l.drop 1) = fvs bd l[1] := by
 rcases l with _ | ⟨c, _ | ⟨d, _ | ⟨e, r⟩⟩⟩
 ·simp at h
 ·simp at h
 ·simp [Zf]
 ·simp at h2
theorem Row.c {w : World} {A : Option Addr} {n c : Nat} {l : List ByteArray} {F : List Nat} (h : Row w 9 (.slice A n c) l.length (Xa l) F) : n = l.length ∧ l.length ≤ c ∧ Kd.string.C w A l.length l := by
 obtain ⟨A', c', e, h1, h2⟩ := h.readsS
 injection e with e1 e2 e3
 subst e1; subst e2; subst e3
 exact ⟨rfl, h1, h2⟩
def Yy (x : CoreT) : Prop := Vn x → bulk x ≤ 274877906944 → ∀ (S w : World) (cs : List Value) (vb : Value) (Fb : List Nat) (bd : List ByteArray) (v : Value) (out : List ByteArray), bd.length + Qr x ≤ 1000000000 → out.length + (fvs bd x).length ≤ 1000000000 → IC.K S x cs → Below S.heap.size S w → Kd.R Kd.string 9 w S.heap.size (fun _ => True) v out →
 Row w 9 vb bd.length (Xa bd) Fb → (∀ k ∈ Fb, some k ≠ v.ownBlock) → Calls Tryz.prog 69 #[.agg cs.toArray, vb, v] w (qiq S w v ((fvs bd x).foldl Xx out))
theorem qwb (x : CoreT) (hk1 : x.kind = 1) : Yy x := by
 intro hsane hbk S w cs vb Fb bd v out hbd hlen hK hB hown hrow hne
 obtain ⟨A3, c3, A4, c4, A5, c5, A6, c6, rfl, l3, g3, l4, g4, l5, g5, l6, g6⟩ := Qk hK
 obtain ⟨Ab, cb, rfl, lb, hCb⟩ := hrow.readsS
 obtain ⟨b1, b2, b3, b4, b5⟩ := Qz hbk
 rw [Zz] at hsane
 have ⟨HBK, HBD, HLEN, HSAN⟩ := Wj hbk hbd hlen hsane
 have ⟨G4, G5, G6⟩ := Wq g4 g5 g6; clear g3 g4 g5 g6 hK hbk hbd hlen hsane
 simp only [Qb]
 obtain ⟨W1, hW1, hp1, hB1, hs1⟩ := Wy w x A3 c3 A4 c4 A5 c5 A6 c6 35
 have HNE := Wd (show some w.heap.size ≠ v.ownBlock from fun e => by have := Kd.R_lt hown _ e.symm; omega)
 have HNB := Wd hne
 have HRW := Wd (hrow.move (fun k hk => hB1.block k (hrow.lt k hk)))
 have HCB := Wd (Kd.C_below hCb hB1)
 have ⟨HB1, HBW, BP1, HLT⟩ := Wj (hB.trans (hB1.mono hB.size)) hB1 hp1 hp1.lt
 have HG1 := Wd (Grow.refl (Kd.R_below hown hB1) HB1.out)
 clear hs1 hB1 hB hown hCb hrow hne
 subst hW1
 have e1 : (x.kind == 1) = true := beq_iff_eq.2 hk1
 have HF := Wd (show fvs bd x = if x.name ∈ bd then [] else [x.name] from by rw [Uu, if_pos hk1])
 have p0 := hp1.cell (j := 0) rfl; have p1 := hp1.cell (j := 1) rfl
 clear hk1 hp1
 go_enter Tryz.func69, Tryz.ntmps69
 go_wp2_with fail
 refine (Jj bd x.name (by have := HBD.out; omega) Ab cb _ HCB.out lb).mono ?_
 rintro e w3 ⟨rfl, hb3⟩
 have HG3 := Wd (HG1.out.on hb3); have BP3 := Wd (BP1.out.below hb3)
 clear p0 p1 hb3
 by_cases hm : x.name ∈ bd
 ·rw [decide_eq_true hm]
  have HFF := Wd (show fvs bd x = [] from by rw [HF.out, if_pos hm])
  clear hm
  go_wp2
  go_ret
  exact ⟨_, rfl, by rw [HFF.out]; exact HG3.out.from HBW.out⟩
 ·rw [decide_eq_false hm]
  have HFF := Wd (show fvs bd x = [x.name] from by rw [HF.out, if_neg hm])
  clear hm
  have p1 := BP3.out.cell (j := 1) rfl
  go_wp2_with fail
  refine (qbc S _ _ out x.name (by have := HLEN.out; omega) HG3.out.any HG3.out.bl).mono ?_
  rintro e w4 ⟨v4, rfl, hg4⟩
  have HG4 := Wd (HG3.out.trans hg4)
  clear hg4 p1
  go_wp2
  go_ret
  exact ⟨_, rfl, by rw [HFF.out]; exact HG4.out.from HBW.out⟩
theorem qpw (x : CoreT) (hk1 : x.kind ≠ 1) (hk6 : x.kind ≠ 6) (hk7 : x.kind ≠ 7) (hk8 : x.kind ≠ 8) (ihk : ∀ y ∈ x.kids, Yy y) : Yy x := by
 intro hsane hbk S w cs vb Fb bd v out hbd hlen hK hB hown hrow hne
 obtain ⟨A3, c3, A4, c4, A5, c5, A6, c6, rfl, l3, g3, l4, g4, l5, g5, l6, g6⟩ := Qk hK
 obtain ⟨Ab, cb, rfl, lb, hCb⟩ := hrow.readsS
 obtain ⟨b1, b2, b3, b4, b5⟩ := Qz hbk
 rw [Zz] at hsane
 have ⟨HBK, HBD, HLEN, HSAN⟩ := Wj hbk hbd hlen hsane
 have ⟨G4, G5, G6⟩ := Wq g4 g5 g6; clear g3 g4 g5 g6 hK hbk hbd hlen hsane
 simp only [Qb]
 obtain ⟨W1, hW1, hp1, hB1, hs1⟩ := Wy w x A3 c3 A4 c4 A5 c5 A6 c6 35
 have HNE := Wd (show some w.heap.size ≠ v.ownBlock from fun e => by have := Kd.R_lt hown _ e.symm; omega)
 have HNB := Wd hne
 have HRW := Wd (hrow.move (fun k hk => hB1.block k (hrow.lt k hk)))
 have HCB := Wd (Kd.C_below hCb hB1)
 have ⟨HB1, HBW, BP1, HLT⟩ := Wj (hB.trans (hB1.mono hB.size)) hB1 hp1 hp1.lt
 have HG1 := Wd (Grow.refl (Kd.R_below hown hB1) HB1.out)
 clear hs1 hB1 hB hown hCb hrow hne
 subst hW1
 have e1 : (x.kind == 1) = false := beq_eq_false_iff_ne.2 hk1
 have e6 : (x.kind == 6) = false := beq_eq_false_iff_ne.2 hk6
 have e7 : (x.kind == 7) = false := beq_eq_false_iff_ne.2 hk7
 have e8 : (x.kind == 8) = false := beq_eq_false_iff_ne.2 hk8
 have HFV := Wd (show fvs bd x = Zf bd x.kids from by rw [Uu, if_neg hk1, if_neg (by omega), if_neg hk8])
 have IHK := Wd ihk
 have HBL := Wd (show bd.length ≤ bd.length + x.names.length from by omega)
 have p0 := hp1.cell (j := 0) rfl; have p5 := hp1.cell (j := 5) rfl
 clear hk1 hk6 hk7 hk8 ihk hp1
 go_enter Tryz.func69, Tryz.ntmps69
 go_wp2_with fail
 obtain ⟨W1, hW1⟩ : ∃ W1, W1 = w.alloc (.cells #[.int .i64 x.kind, .string x.name, .bool x.minus, .slice A3 x.limbs.length c3, .slice A4 x.names.length c4, .slice A5 x.kids.length c5, .slice A6 x.alts.length c6] 35) := ⟨_, rfl⟩
 rw [← hW1] at HG1 HB1 HBW HRW HCB BP1 HLT
 rw [← hW1]
 clear hW1 p0 p5 e1 e6 e7 e8
 have HLT2 := HLT
 go_loopw [2, 9] (fun vv i wr => ∃ k : Nat, k ≤ x.kids.length ∧ i = .int .i64 k ∧ Hid (Grow S W1 v wr vv ((Zf bd (x.kids.take k)).foldl Xx out)) ∧ Hid (Blk wr w.heap.size 35 [.int .i64 x.kind, .string x.name, .bool x.minus, .slice A3 x.limbs.length c3, .slice A4 x.names.length c4, .slice A5 x.kids.length c5, .slice A6 x.alts.length c6])) (fun _ i _ => x.kids.length - (intOf i).toNat)
 case atStart => exact ⟨0, Nat.zero_le _, rfl, by rw [List.take_zero, Zf]; exact HG1, BP1⟩
 case round =>
  obtain ⟨k, hk, rfl, HG, BP⟩ := hrel
  have p5 := BP.out.cell (j := 5) rfl
  by_cases hlt : k < x.kids.length
  ·obtain ⟨ad, A3', c3', A4', c4', B5, d5, B6, d6, rfl, hK, g0, g1, g2, g3, g4, g5, g6⟩ := Kp G5.out HG.out.bl k hlt
   have HKL := Wd (show (Zf bd (x.kids.take k)).length + (fvs bd x.kids[k]).length ≤ (Zf bd x.kids).length from by have := qdp bd x.kids (k + 1); rw [Qf hlt, Vw, List.length_append] at this; exact this)
   go_wp2_with fail
   refine (IHK.out _ (List.getElem_mem hlt) (HSAN.out.2.1 _ (List.getElem_mem hlt)) (by have := Qx (List.getElem_mem hlt); have := HBK.out; rw [Qg] at this; omega) S _ _ _ _ bd _ _ (by have := HBD.out; have := Zj x; have := Gt (List.getElem_mem hlt); have := HBL.out; omega) (by have := HLEN.out; have := HFV.out; have := Jx (Zf bd (x.kids.take k)) out; have := HKL.out; rw [HFV.out] at *; omega) hK HG.out.bl HG.out.any (HG.out.row HRW.out HNB.out) (fun i hi => HG.out.ne (HNB.out i hi) (HRW.out.lt i hi))).mono ?_
   rintro e w3 ⟨v3, rfl, hg3⟩
   have HG3 := Wd (show Grow S W1 v w3 v3 ((Zf bd (x.kids.take (k + 1))).foldl Xx out) from by rw [Qf hlt, Vw, List.foldl_append]; exact HG.out.trans hg3)
   have BP3 := Wd (hg3.blk BP.out (HG.out.ne HNE.out HLT2.out))
   clear hg3 p5 g0 g1 g2 g3 g4 g5 g6 hK
   go_wp2
   go_roundw
   case rel => exact ⟨k + 1, by omega, by go_num, HG3, BP3⟩
   case measure => simp [intOf]; omega
  ·have hkk : k = x.kids.length := by omega
   have hg := HG.out
   rw [hkk, List.take_length] at hg
   have HGK := Wd hg; clear hg hkk HG
   go_wp2
   go_ret
   refine ⟨_, rfl, ?_⟩
   rw [HFV.out]
   exact HGK.out.from HBW.out
theorem qkv (x : CoreT) (hk : x.kind = 6 ∨ x.kind = 7) (ihk : ∀ y ∈ x.kids, Yy y) : Yy x := by
 intro hsane hbk S w cs vb Fb bd v out hbd hlen hK hB hown hrow hne
 obtain ⟨A3, c3, A4, c4, A5, c5, A6, c6, rfl, l3, g3, l4, g4, l5, g5, l6, g6⟩ := Qk hK
 obtain ⟨Ab, cb, rfl, lb, hCb⟩ := hrow.readsS
 obtain ⟨b1, b2, b3, b4, b5⟩ := Qz hbk
 rw [Zz] at hsane
 have ⟨HBK, HBD, HLEN, HSAN⟩ := Wj hbk hbd hlen hsane
 have ⟨G4, G5, G6⟩ := Wq g4 g5 g6; clear g3 g4 g5 g6 hK hbk hbd hlen hsane
 simp only [Qb]
 obtain ⟨W1, hW1, hp1, hB1, hs1⟩ := Wy w x A3 c3 A4 c4 A5 c5 A6 c6 35
 have HNE := Wd (show some w.heap.size ≠ v.ownBlock from fun e => by have := Kd.R_lt hown _ e.symm; omega)
 have HNB := Wd hne
 have HRW := Wd (hrow.move (fun k hk => hB1.block k (hrow.lt k hk)))
 have HCB := Wd (Kd.C_below hCb hB1)
 have ⟨HB1, HBW, BP1, HLT⟩ := Wj (hB.trans (hB1.mono hB.size)) hB1 hp1 hp1.lt
 have HG1 := Wd (Grow.refl (Kd.R_below hown hB1) HB1.out)
 clear hs1 hB1 hB hown hCb hrow hne
 subst hW1
 have e1 : (x.kind == 1) = false := beq_eq_false_iff_ne.2 (by omega)
 have HFV := Wd (show fvs bd x = Zf (bd ++ x.names) x.kids from by rw [Uu, if_neg (by omega), if_pos hk])
 have IHK := Wd ihk
 have HBL := Wd (show (bd ++ x.names).length ≤ bd.length + x.names.length from by simp)
 have p0 := hp1.cell (j := 0) rfl; have p4 := hp1.cell (j := 4) rfl
 clear ihk hp1
 rcases hk with hk | hk
 case' inl => have e6 : (x.kind == 6) = true := beq_iff_eq.2 hk
 case' inr => have e6 : (x.kind == 6) = false := beq_eq_false_iff_ne.2 (by omega); have e7 : (x.kind == 7) = true := beq_iff_eq.2 hk
 all_goals
  clear hk
  go_enter Tryz.func69, Tryz.ntmps69
  go_wp2_with fail
  obtain ⟨W1, hW1⟩ : ∃ W1, W1 = w.alloc (.cells #[.int .i64 x.kind, .string x.name, .bool x.minus, .slice A3 x.limbs.length c3, .slice A4 x.names.length c4, .slice A5 x.kids.length c5, .slice A6 x.alts.length c6] 35) := ⟨_, rfl⟩
  rw [← hW1] at HG1 HB1 HBW HRW HCB BP1 HLT
  rw [← hW1] at p0 p4 ⊢
  clear hW1 p0 e1 e6
  try clear e7
  refine Qe [(true, 1), (true, 3), (true, 4), (false, 0), (false, 2), (false, 5), (true, 6)] [] (fun W' => Below W1.heap.size W1 W') (by kernel_rfl) (by kernel_rfl) (fun _ _ d _ _ h => by cases d <;> exact h) ⟨rfl, rfl, rfl, Nat.le_refl _, fun _ _ => rfl⟩ ?_
  iterate 3
   refine Tb 27 (y := fun w' hSw => by
    have t4 := Cb hSw p4
    go_simp
    try with_reducible rfl) (h := ?_)
  refine Run.new (some 27) (fun g => .slice (some ⟨g, 0, none⟩) 0 0) (.cells #[] 9) (by rfl) (by rfl) rfl (fun w' => by go_simp) ?_
  intro w2 hb2 hs2 hg2
  have HS2 := Wd (Qj hb2)
  refine ⟨HS2.out, ?_⟩
  simp only [Act.put, heap_drew, Nat.reduceAdd, Jla, Jlb, Jlc]
  refine Run.appS (some 29) W1.heap.size (by rfl) (by rfl) rfl (by rfl) (xs := []) (by rfl) (Ho hg2 (Nat.le_refl _)) HS2.out.size (by rfl) (Kd.C_below HCB.out HS2.out) (by have := HBD.out; simp only [List.length_nil]; omega) ?_
  intro v3 w3 ho3 hg3 hat3
  have HS3 := Wd (Ze HS2.out hg3 (Nat.le_refl _))
  simp only [List.nil_append] at ho3
  refine ⟨fun _ => HS3.out, ?_⟩
  clear hb2 hs2 hg2 hg3 hat3
  simp only [Act.put, heap_drew, Nat.reduceAdd, Jla, Jlb, Jlc]
  refine Run.appS (some 32) W1.heap.size (by rfl) (by rfl) rfl (by rfl) (by rfl) ho3 HS3.out.size (by rfl) (Kd.C_below G4.out (HB1.out.trans (HS3.out.mono HB1.out.size))) (by have := HBD.out; have := Zj x; omega) ?_
  intro v4 w4 ho4 hg4 hat4
  have HB4 := Wd (qax HS3.out hg4 (Zk (by decide) ho3).2.1)
  refine ⟨fun _ => HB4.out, ?_⟩
  simp only [Act.put, heap_drew, Nat.reduceAdd, Jla, Jlb, Jlc]
  refine Tk (some 1) (y := fun w' hSw => by
   go_simp
   try with_reducible rfl) (h := ?_)
  refine Run.nil ?_
  obtain ⟨bd2, hbd2⟩ : ∃ bd2, bd2 = bd ++ x.names := ⟨_, rfl⟩
  rw [← hbd2] at ho4 HFV HBL
  clear hbd2
  have HR4 := Wd (Zk (by decide) ho4).1
  have HNB4 := Wd (show ∀ k ∈ v4.ownBlock.toList, some k ≠ v.ownBlock from fun k hk e => by have := (Zk (by decide) ho4).2.1 k hk; have := Kd.R_lt HG1.out.any k e.symm; omega)
  have HG4 := Wd (Grow.refl (Kd.R_below HG1.out.any HB4.out) (HB1.out.trans (HB4.out.mono HB1.out.size)))
  have BP4 := Wd (BP1.out.below HB4.out)
  clear ho3 ho4 hg4 hat4 p4
  have p4 := BP4.out.cell (j := 5) rfl
  obtain ⟨An, cn, rfl, ln, hCn⟩ := HR4.out.readsS
  have HLT2 := Wd (Nat.lt_of_lt_of_le HLT.out HB4.out.size)
  go_wp2_with fail
  clear p4 hCn
  go_loopw [2, 9] (fun vv i wr => ∃ k : Nat, k ≤ x.kids.length ∧ i = .int .i64 k ∧ Hid (Grow S w4 v wr vv ((Zf bd2 (x.kids.take k)).foldl Xx out)) ∧ Hid (Blk wr w.heap.size 35 [.int .i64 x.kind, .string x.name, .bool x.minus, .slice A3 x.limbs.length c3, .slice A4 x.names.length c4, .slice A5 x.kids.length c5, .slice A6 x.alts.length c6])) (fun _ i _ => x.kids.length - (intOf i).toNat)
  case atStart => exact ⟨0, Nat.zero_le _, rfl, by rw [List.take_zero, Zf]; exact HG4, BP4⟩
  case round =>
   obtain ⟨k, hk, rfl, HG, BP⟩ := hrel
   have p5 := BP.out.cell (j := 5) rfl
   by_cases hlt : k < x.kids.length
   ·obtain ⟨ad, A3', c3', A4', c4', B5, d5, B6, d6, rfl, hK, g0, g1, g2, g3, g4, g5, g6⟩ := Kp G5.out HG.out.bl k hlt
    have HKL := Wd (show (Zf bd2 (x.kids.take k)).length + (fvs bd2 x.kids[k]).length ≤ (Zf bd2 x.kids).length from by have := qdp bd2 x.kids (k + 1); rw [Qf hlt, Vw, List.length_append] at this; exact this)
    go_wp2_with fail
    refine (IHK.out _ (List.getElem_mem hlt) (HSAN.out.2.1 _ (List.getElem_mem hlt)) (by have := Qx (List.getElem_mem hlt); have := HBK.out; rw [Qg] at this; omega) S _ _ _ _ bd2 _ _ (by have := HBD.out; have := Zj x; have := Gt (List.getElem_mem hlt); have := HBL.out; omega) (by have := HLEN.out; have := HFV.out; have := Jx (Zf bd2 (x.kids.take k)) out; have := HKL.out; rw [HFV.out] at *; omega) hK HG.out.bl HG.out.any (HG.out.row HR4.out HNB4.out) (fun i hi => HG.out.ne (HNB4.out i hi) (HR4.out.lt i hi))).mono ?_
    rintro e w3 ⟨v3, rfl, hg3⟩
    have HG3 := Wd (show Grow S w4 v w3 v3 ((Zf bd2 (x.kids.take (k + 1))).foldl Xx out) from by rw [Qf hlt, Vw, List.foldl_append]; exact HG.out.trans hg3)
    have BP3 := Wd (hg3.blk BP.out (HG.out.ne HNE.out HLT2.out))
    clear hg3 p5 g0 g1 g2 g3 g4 g5 g6 hK
    go_wp2
    go_roundw
    case rel => exact ⟨k + 1, by omega, by go_num, HG3, BP3⟩
    case measure => simp [intOf]; omega
   ·have hkk : k = x.kids.length := by omega
    have hg := HG.out
    rw [hkk, List.take_length] at hg
    have HGK := Wd hg; clear hg hkk HG
    go_wp2
    go_ret
    refine ⟨_, rfl, ?_⟩
    rw [HFV.out]
    exact (HGK.out.from HB4.out).from HBW.out
theorem qsj (x : CoreT) (hk8 : x.kind = 8) (ihk : ∀ y ∈ x.kids, Yy y) (iha : ∀ a ∈ x.alts, Yy a.body) : Yy x := by
 intro hsane hbk S w cs vb Fb bd v out hbd hlen hK hB hown hrow hne
 obtain ⟨A3, c3, A4, c4, A5, c5, A6, c6, rfl, l3, g3, l4, g4, l5, g5, l6, g6⟩ := Qk hK
 obtain ⟨Ab, cb, rfl, lb, hCb⟩ := hrow.readsS
 obtain ⟨b1, b2, b3, b4, b5⟩ := Qz hbk
 rw [Zz] at hsane
 have ⟨HBK, HBD, HLEN, HSAN⟩ := Wj hbk hbd hlen hsane
 have ⟨G4, G5, G6⟩ := Wq g4 g5 g6; clear g3 g4 g5 g6 hK hbk hbd hlen hsane
 simp only [Qb]
 obtain ⟨W1, hW1, hp1, hB1, hs1⟩ := Wy w x A3 c3 A4 c4 A5 c5 A6 c6 35
 have HNE := Wd (show some w.heap.size ≠ v.ownBlock from fun e => by have := Kd.R_lt hown _ e.symm; omega)
 have HNB := Wd hne
 have HRW := Wd (hrow.move (fun k hk => hB1.block k (hrow.lt k hk)))
 have HCB := Wd (Kd.C_below hCb hB1)
 have ⟨HB1, HBW, BP1, HLT⟩ := Wj (hB.trans (hB1.mono hB.size)) hB1 hp1 hp1.lt
 have HG1 := Wd (Grow.refl (Kd.R_below hown hB1) HB1.out)
 clear hs1 hB1 hB hown hCb hrow hne
 subst hW1
 have e1 : (x.kind == 1) = false := beq_eq_false_iff_ne.2 (by omega)
 have e6 : (x.kind == 6) = false := beq_eq_false_iff_ne.2 (by omega)
 have e7 : (x.kind == 7) = false := beq_eq_false_iff_ne.2 (by omega)
 have e8 : (x.kind == 8) = true := beq_iff_eq.2 hk8
 have hkl := HSAN.out.1.2.2 hk8
 have hkl0 : 0 < x.kids.length := by omega
 have HKL := Wd hkl
 obtain ⟨bi, hbi⟩ : ∃ bi, bi = inn bd x.name := ⟨_, rfl⟩
 have HBI := Wd hbi
 have HFV := Wd (show fvs bd x = fvs bd x.kids[0] ++ (Xu bi x.alts ++ Zf bi (x.kids.drop 1)) from by
  rw [Uu, if_neg (by omega), if_neg (by omega), if_pos hk8, Uf, Ug, hbi]
  rw [qsr hkl0])
 have HLN := Wd (show out.length + ((fvs bd x.kids[0]).length + ((Xu bi x.alts).length + (Zf bi (x.kids.drop 1)).length)) ≤ 1000000000 from by have := HLEN.out; rw [HFV.out, List.length_append, List.length_append] at this; exact this)
 have HBIL := Wd (show bi.length ≤ bd.length + 1 from by rw [hbi]; unfold inn; split <;> simp)
 have IHK := Wd ihk; have IHA := Wd iha
 have p0 := hp1.cell (j := 0) rfl; have p1 := hp1.cell (j := 1) rfl; have p5 := hp1.cell (j := 5) rfl
 clear hk8 ihk iha hp1 hkl hbi HLEN
 obtain ⟨ad, A3', c3', A4', c4', B5, d5, B6, d6, rfl, hK, g0, g1, g2, g3, g4, g5, g6⟩ := Kp G5.out HB1.out 0 hkl0
 have h0 : World.cell? _ ad = _ := g0; have h1 : World.cell? _ ⟨ad.block, ad.off + 1, none⟩ = _ := g1; have h2 : World.cell? _ ⟨ad.block, ad.off + 2, none⟩ = _ := g2; have h3 : World.cell? _ ⟨ad.block, ad.off + 3, none⟩ = _ := g3; have h4 : World.cell? _ ⟨ad.block, ad.off + 4, none⟩ = _ := g4; have h5 : World.cell? _ ⟨ad.block, ad.off + 5, none⟩ = _ := g5; have h6 : World.cell? _ ⟨ad.block, ad.off + 6, none⟩ = _ := g6
 clear g0 g1 g2 g3 g4 g5 g6
 go_enter Tryz.func69, Tryz.ntmps69
 go_wp2_with fail
 refine (IHK.out _ (List.getElem_mem hkl0) (HSAN.out.2.1 _ (List.getElem_mem hkl0)) (by have := Qx (List.getElem_mem hkl0); have := HBK.out; rw [Qg] at this; omega) S _ _ _ _ bd _ out (by have := HBD.out; have := Zj x; have := Gt (List.getElem_mem hkl0); omega) (by have := HLN.out; omega) hK HB1.out HG1.out.any HRW.out HNB.out).mono ?_
 rintro e w2 ⟨v2, rfl, hg2⟩
 have HG2 := Wd (show Grow S _ v w2 v2 ((fvs bd x.kids[0]).foldl Xx out) from HG1.out.trans hg2)
 have BP2 := Wd (hg2.blk BP1.out HNE.out)
 have HRW2 := Wd (hg2.row HRW.out HNB.out)
 have HNB2 := Wd (show ∀ k ∈ Fb, some k ≠ v2.ownBlock from fun k hk => hg2.ne (HNB.out k hk) (HRW.out.lt k hk))
 obtain ⟨W1, hW1⟩ : ∃ W1, W1 = w.alloc (.cells #[.int .i64 x.kind, .string x.name, .bool x.minus, .slice A3 x.limbs.length c3, .slice A4 x.names.length c4, .slice (some ad) x.kids.length c5, .slice A6 x.alts.length c6] 35) := ⟨_, rfl⟩
 rw [← hW1] at HG2 HBW HLT
 have HLT2 := Wd BP2.out.lt
 have HLZ := Wd (show ((fvs bd x.kids[0]).foldl Xx out).length ≤ out.length + (fvs bd x.kids[0]).length from Jx _ _)
 clear hg2 hW1 HG1 HB1 HRW HCB BP1 HNB p0 p1 p5 h0 h1 h2 h3 h4 h5 h6 hK e1 e6 e7 e8
 have p1 := BP2.out.cell (j := 1) rfl
 by_cases hn : x.name = ⟨#[]⟩
 case' pos =>
  have q1 : x.name.toList.isEmpty = true := by rw [hn, empty_toList]; rfl
  have q2 : x.name.toList = [] ↔ True := by rw [hn, empty_toList]; simp
  have HBI2 := Wd (show bi = bd from by rw [HBI.out]; exact if_pos hn)
  clear hn
  have p6 := BP2.out.cell (j := 6) rfl
  go_wp2_with fail
  clear p1 p6 q1 q2
  obtain ⟨w4, hw4⟩ : ∃ w4, w4 = w2 := ⟨_, rfl⟩
  have HB4 := Wd (show Below w2.heap.size w2 w4 from by rw [hw4]; exact ⟨rfl, rfl, rfl, Nat.le_refl _, fun _ _ => rfl⟩)
  have HRI := Wd (show Row w4 9 (.slice Ab bi.length cb) bi.length (Xa bi) Fb from by rw [hw4, HBI2.out]; exact HRW2.out)
  have HNI := Wd (show ∀ k ∈ Fb, some k ≠ v2.ownBlock from HNB2.out)
  rw [show bd.length = bi.length from by rw [HBI2.out]]
  rw [← hw4]
  clear hw4
  obtain ⟨Ai, hAi⟩ : ∃ Ai, Ai = Ab := ⟨_, rfl⟩
  obtain ⟨ci, hci⟩ : ∃ ci, ci = cb := ⟨_, rfl⟩
  obtain ⟨Fi, hFi⟩ : ∃ Fi, Fi = Fb := ⟨_, rfl⟩
  subst hAi; subst hci; subst hFi
 case' neg =>
  have ⟨q1, q2⟩ := Vc hn
  have HBI2 := Wd (show bi = bd ++ [x.name] from by rw [HBI.out]; exact if_neg hn)
  clear hn
  go_wp2_with fail
  clear q1 q2
  refine Jg [1, 3, 4] [] ([0, 2] ++ [5]) [6, 7] [50, 52, 55] (by kernel_rfl) (fun W' => Below w2.heap.size w2 W') (Both [52] [55] (fun vs w F => ∃ v, vs = [v] ∧ w.ownsRow w2.heap.size 9 1 v bd.length (Xa bd) ∧ F = v.ownBlock.toList) (fun vs w F => ∃ g, vs = [.slice (some ⟨g, 0, none⟩) 1 1] ∧ Blk w g 9 [.string x.name] ∧ F = [g])) (by kernel_rfl) (by kernel_rfl) (fun _ _ d _ _ h => by cases d <;> exact h) (fun w' hb => hb) ?_
  iterate 3
   refine Yb 50 (y := fun w' hSw => by
    have t1 := Cb hSw p1
    go_simp
    try with_reducible rfl) (h := ?_)
  refine YAll.nil (YAll.nil ⟨?ct, ?cu⟩)
  case ct =>
   refine Thr.par (T1 := [0, 2]) (T2 := [5]) 2 1 [52] [55] _ _ (by kernel_rfl) (Nat.le_refl _) ?_ ?_
   ·refine Thr.new (fun g => .slice (some ⟨g, 0, none⟩) 0 0) (.cells #[] 9) (some 50) (by rfl) rfl (by kernel_rfl) rfl (fun w' hb => by go_simp) ?_
    intro g w3 hg1 hg2 hg3 hb3
    simp only [Act.put, heap_drew, Nat.reduceAdd, Jla, Jlb, Jlc]
    refine Thr.appO (some 52) (by rfl) rfl (by kernel_rfl) rfl _ _ (by rfl) (.slice (some ⟨g, 0, none⟩) 0 0) [] (by rfl) (Ho hg3 hg1) Ab cb bd (by rfl) (fun w' hb _ => Kd.C_below HRW2.out.c.2.2 (Qj hb)) (by have := HBD.out; simp only [List.length_nil]; omega) ?_
    intro v5 w5 ho5 hb5
    exact Thr.done _ (fun w6 hb6 hk6 => ⟨v5, rfl, Xc ho5 hk6.2, rfl⟩)
   ·refine Thr.new (fun g => .slice (some ⟨g, 0, none⟩) 1 1) (.cells #[.string x.name] 9) (some 55) (by rfl) rfl (by kernel_rfl) rfl (fun w' hb => by go_simp) ?_
    intro g w3 hg1 hg2 hg3 hb3
    exact Thr.done _ (fun w6 hb6 hk6 => ⟨g, rfl, hk6.blk hg3 (by simp), rfl⟩)
  case' cu =>
   rintro u w3 F hb hnd hF ⟨F1, F2, rfl, ⟨v5, e1, ho5, rfl⟩, ⟨g, e2, hb6, rfl⟩⟩
   simp only [List.map_cons, List.map_nil, List.cons.injEq, and_true] at e1 e2
   simp only [qde, List.foldl_cons, List.foldl_nil, Act.put, Jla, Jlb, Jlc, qmf, List.map_cons, List.map_nil, List.getD_cons_succ, List.getD_cons_zero, e1, e2]
   have hb3 := Qj hb
   refine qby w2.heap.size rfl (by rfl) (by rfl) ho5 hb3.size (l := [x.name]) (by rfl) (qww hb6) (by have := HBD.out; simp only [List.length_singleton]; omega) ?_
   intro v4 w4 ho4 hg4 hat4
   have HB4 := Wd (qax hb3 hg4 (Zk (by decide) ho5).2.1)
   rw [← HBI2.out] at ho4
   obtain ⟨Ai, ci, rfl, li, hCi⟩ := (Zk (by decide) ho4).1.readsS
   have HRI := Wd (Zk (by decide) ho4).1
   have HNI := Wd (show ∀ k ∈ (Value.slice Ai bi.length ci).ownBlock.toList, some k ≠ v2.ownBlock from fun k hk e => by have := (Zk (by decide) ho4).2.1 k hk; have := Kd.R_lt HG2.out.any k e.symm; omega)
   generalize (Value.slice Ai bi.length ci).ownBlock.toList = Fi at HRI HNI
   clear hb hnd hF ho5 hb6 e1 e2 hb3 ho4 hg4 hat4 hCi p1
   have p6 := (BP2.out.below HB4.out).cell (j := 6) rfl
   go_wp2_with fail
   clear p6
 all_goals
  have HG4 := Wd (show Grow S w4 v2 w4 v2 ((fvs bd x.kids[0]).foldl Xx out) from Grow.refl (Kd.R_below HG2.out.any HB4.out) (HG2.out.bl.trans (HB4.out.mono HG2.out.bl.size)))
  have HGW := Wd (HG2.out.on HB4.out)
  have BP4 := Wd (BP2.out.below HB4.out)
  have HLT4 := Wd BP4.out.lt
  have HNE4 := Wd (HG2.out.ne HNE.out HLT.out)
  clear HBI2 HBI
  go_loopw [2, 8] (fun vv i wr => ∃ k : Nat, k ≤ x.alts.length ∧ i = .int .i64 k ∧ Hid (Grow S w4 v2 wr vv ((Xu bi (x.alts.take k)).foldl Xx ((fvs bd x.kids[0]).foldl Xx out))) ∧ Hid (Blk wr w.heap.size 35 [.int .i64 x.kind, .string x.name, .bool x.minus, .slice A3 x.limbs.length c3, .slice A4 x.names.length c4, .slice (some ad) x.kids.length c5, .slice A6 x.alts.length c6])) (fun _ i _ => x.alts.length - (intOf i).toNat)
  case atStart => exact ⟨0, Nat.zero_le _, rfl, by rw [List.take_zero, Xu]; exact HG4, BP4⟩
  case round =>
   obtain ⟨k, hk, rfl, HG, BP⟩ := hrel
   have p6 := BP.out.cell (j := 6) rfl
   by_cases hlt2 : k < x.alts.length
   ·obtain ⟨ad2, A1, c1, A3', c3', A4', c4', B5, d5, B6, d6, rfl, _, hK, hl1, hC1, g0, g1, g2, g3, g4, g5, g6, g7, g8⟩ := Xn G6.out k hlt2
    have HAL := Wd (show (Xu bi (x.alts.take k)).length + (fvs (bi ++ x.alts[k].names) x.alts[k].body).length ≤ (Xu bi x.alts).length from by have := qia bi x.alts (k + 1); rw [Qf hlt2, qdo, List.length_append] at this; exact this)
    have HNM := Wd (qfq (List.getElem_mem hlt2))
    have HK := Wd hK; have HC1 := Wd hC1
    have HQ := Wd (show _ ∧ _ ∧ _ ∧ _ ∧ _ ∧ _ ∧ _ ∧ _ from ⟨Cl HG.out.bl g1, Cl HG.out.bl g2, Cl HG.out.bl g3, Cl HG.out.bl g4, Cl HG.out.bl g5, Cl HG.out.bl g6, Cl HG.out.bl g7, Cl HG.out.bl g8⟩)
    clear hK hC1 g0 g1 g2 g3 g4 g5 g6 g7 g8
    have HCI := Wd (HG.out.row HRI.out HNI.out).c.2.2
    have qk0 : (0 : Int) ≤ (k : Int) := by omega
    have qk1 : (k : Int) < x.alts.length := by omega
    go_wp2_with fail
    refine Qe [(true, 0), (true, 1), (true, 2), (true, 3), (true, 4), (true, 5), (true, 7), (true, 9), (true, 10), (true, 11), (true, 12), (true, 13), (true, 14), (true, 16), (false, 6), (false, 8), (false, 15), (false, 17), (false, 18)] [17, 18] (fun W' => Below wr.heap.size wr W') (by kernel_rfl) (by kernel_rfl) (fun _ _ d _ _ h => by cases d <;> exact h) ⟨rfl, rfl, rfl, Nat.le_refl _, fun _ _ => rfl⟩ ?_
    iterate 14
     refine Tb 64 (y := fun w' hSw => by
      have t6 := Cb hSw p6; obtain ⟨u1, u2, u3, u4, u5, u6, u7, u8⟩ := HQ.out; replace u1 := Cb hSw u1; replace u2 := Cb hSw u2; replace u3 := Cb hSw u3; replace u4 := Cb hSw u4; replace u5 := Cb hSw u5; replace u6 := Cb hSw u6; replace u7 := Cb hSw u7; replace u8 := Cb hSw u8
      go_simp
      try with_reducible rfl) (h := ?_)
    refine Run.new (some 70) (fun g => .slice (some ⟨g, 0, none⟩) 0 0) (.cells #[] 9) (by rfl) (by rfl) rfl (fun w' => by go_simp) ?_
    intro w5 hb5 hs5 hg5
    have HS5 := Wd (Qj hb5)
    refine ⟨HS5.out, ?_⟩
    simp only [Act.put, heap_drew, Nat.reduceAdd, Jla, Jlb, Jlc]
    refine Run.appS (some 72) wr.heap.size (by rfl) (by rfl) rfl (by rfl) (xs := []) (by rfl) (Ho hg5 (Nat.le_refl _)) HS5.out.size (by rfl) (Kd.C_below HCI.out HS5.out) (by have := HBD.out; have := HBIL.out; simp only [List.length_nil]; omega) ?_
    intro v6 w6 ho6 hg6 hat6
    have HS6 := Wd (Ze HS5.out hg6 (Nat.le_refl _))
    simp only [List.nil_append] at ho6
    refine ⟨fun _ => HS6.out, ?_⟩
    clear hb5 hs5 hg5 hg6 hat6
    simp only [Act.put, heap_drew, Nat.reduceAdd, Jla, Jlb, Jlc]
    refine Run.appS (some 79) wr.heap.size (by rfl) (by rfl) rfl (by rfl) (by rfl) ho6 HS6.out.size (by rfl) (Kd.C_below HC1.out (HG.out.bl.trans (HS6.out.mono HG.out.bl.size))) (by have := HBD.out; have := HBIL.out; have := HNM.out; have := Zj x; omega) ?_
    intro v7 w7 ho7 hg7 hat7
    have HS7 := Wd (qax HS6.out hg7 (Zk (by decide) ho6).2.1)
    refine ⟨fun _ => HS7.out, ?_⟩
    have HBL7 := Wd (show (bi ++ x.alts[k].names).length ≤ bi.length + x.alts[k].names.length from by simp)
    obtain ⟨bd7, hbd7⟩ : ∃ bd7, bd7 = bi ++ x.alts[k].names := ⟨_, rfl⟩
    have HBE := Wd hbd7
    rw [← hbd7] at ho7 HBL7 HAL
    clear hbd7
    obtain ⟨A7, c7, rfl, l7, hC7⟩ := (Zk (by decide) ho7).1.readsS
    have HR7 := Wd (Zk (by decide) ho7)
    have HG7 := Wd (HG.out.on HS7.out)
    have HN7 := Wd (show ∀ i ∈ (Value.slice A7 bd7.length c7).ownBlock.toList, some i ≠ u2.ownBlock from fun i hi e => by have := HR7.out.2.1 i hi; have := Kd.R_lt HG.out.any i e.symm; omega)
    clear ho6 ho7 hg7 hat7 hC7
    simp only [Act.put, heap_drew, Nat.reduceAdd, Jla, Jlb, Jlc]
    refine Run.step (some 81) (by rfl) (by rfl) ?_
    intro K hK
    go_simp
    refine (IHA.out _ (List.getElem_mem hlt2) (HSAN.out.2.2 _ (List.getElem_mem hlt2)) (by have := Zu (List.getElem_mem hlt2); rw [Zo] at this; have := HBK.out; rw [Qg] at this; omega) S _ _ _ _ bd7 _ _ (by have := HBD.out; have := HBIL.out; have := HNM.out; have := HBL7.out; have := Zj x; have := HKL.out; omega) (by have := HLN.out; have := HLZ.out; have := Jx (Xu bi (x.alts.take k)) ((fvs bd x.kids[0]).foldl Xx out); have := HAL.out; omega) HK.out HG7.out.bl HG7.out.any HR7.out.1 HN7.out).mono ?_
    rintro e w8 ⟨v8, rfl, hg8⟩
    refine hK.out _ _ (fun h => absurd (by decide) h) ?_
    clear hK K
    have HG8 := Wd (show Grow S w4 v2 w8 v8 ((Xu bi (x.alts.take (k + 1))).foldl Xx ((fvs bd x.kids[0]).foldl Xx out)) from by rw [Qf hlt2, qdo, List.foldl_append, ← HBE.out]; exact HG7.out.trans hg8)
    have BP8 := Wd (hg8.blk (BP.out.below HS7.out) (HG7.out.ne HNE4.out HLT4.out))
    clear hg8 p6
    refine Run.step (some 2) (by rfl) (by rfl) ?_
    intro K hK
    go_simp
    refine hK.out _ _ (fun h => absurd (by decide) h) ?_
    clear hK K
    refine Run.nil ?_
    go_wp2
    go_roundw
    case rel => exact ⟨k + 1, by omega, by go_num, HG8, BP8⟩
    case measure => simp [intOf]; omega
   ·have hkk : k = x.alts.length := by omega
    have hg := HG.out
    rw [hkk, List.take_length] at hg
    have HGA := Wd hg; clear hg hkk HG
    have p5 := BP.out.cell (j := 5) rfl
    by_cases hk2 : 1 < x.kids.length
    ·obtain ⟨ad3, A3', c3', A4', c4', B5, d5, B6, d6, had, hK, g0, g1, g2, g3, g4, g5, g6⟩ := Kp G5.out HGA.out.bl 1 hk2
     obtain rfl := Option.some.inj had
     clear had
     have h0 : World.cell? _ (ad.add 7) = _ := g0; have h7 : World.cell? _ ⟨ad.block, ad.off + 7, none⟩ = _ := g0; have h1 : World.cell? _ ⟨ad.block, ad.off + 7 + 1, none⟩ = _ := g1; have h2 : World.cell? _ ⟨ad.block, ad.off + 7 + 2, none⟩ = _ := g2; have h3 : World.cell? _ ⟨ad.block, ad.off + 7 + 3, none⟩ = _ := g3; have h4 : World.cell? _ ⟨ad.block, ad.off + 7 + 4, none⟩ = _ := g4; have h5 : World.cell? _ ⟨ad.block, ad.off + 7 + 5, none⟩ = _ := g5; have h6 : World.cell? _ ⟨ad.block, ad.off + 7 + 6, none⟩ = _ := g6
     clear g0 g1 g2 g3 g4 g5 g6
     have HD1 := Wd (show Zf bi (x.kids.drop 1) = fvs bi x.kids[1] from qss hk2 (by have := HKL.out; omega))
     have HLA := Wd (show ((Xu bi x.alts).foldl Xx ((fvs bd x.kids[0]).foldl Xx out)).length ≤ ((fvs bd x.kids[0]).foldl Xx out).length + (Xu bi x.alts).length from Jx _ _)
     go_wp2_with fail
     refine (IHK.out _ (List.getElem_mem hk2) (HSAN.out.2.1 _ (List.getElem_mem hk2)) (by have := Qx (List.getElem_mem hk2); have := HBK.out; rw [Qg] at this; omega) S _ _ _ _ bi _ _ (by have := HBD.out; have := HBIL.out; have := Zj x; have := Gt (List.getElem_mem hk2); omega) (by have h := HLN.out; rw [HD1.out] at h; have := HLZ.out; have := HLA.out; omega) hK HGA.out.bl HGA.out.any (HGA.out.row HRI.out HNI.out) (fun i hi => HGA.out.ne (HNI.out i hi) (HRI.out.lt i hi))).mono ?_
     rintro e w9 ⟨v9, rfl, hg9⟩
     have HG9 := Wd (HGW.out.trans (HGA.out.trans hg9))
     clear hg9 p5 p6 h7 h0 h1 h2 h3 h4 h5 h6 hK
     go_wp2
     go_ret
     refine ⟨_, rfl, ?_⟩
     rw [HFV.out, List.foldl_append, List.foldl_append, HD1.out]
     exact HG9.out.from HBW.out
    ·have HD1 := Wd (show Zf bi (x.kids.drop 1) = [] from by rw [List.drop_eq_nil_of_le (by omega), Zf])
     go_wp2
     go_ret
     refine ⟨_, rfl, ?_⟩
     rw [HFV.out, List.foldl_append, List.foldl_append, HD1.out]
     exact (HGW.out.trans HGA.out).from HBW.out
theorem qwa (x : CoreT) : Yy x := by
 refine Za Yy (fun x hk ha => ?_) x
 by_cases h1 : x.kind = 1
 ·exact qwb x h1
 by_cases h6 : x.kind = 6
 ·exact qkv x (.inl h6) hk
 by_cases h7 : x.kind = 7
 ·exact qkv x (.inr h7) hk
 by_cases h8 : x.kind = 8
 ·exact qsj x h8 hk ha
 ·exact qpw x h1 h6 h7 h8 hk
end Go.Proofs.YtnoammmohdmnjaaGreat.C13
