import Derived.Test.YtnoammmohdmnjaaGreatU18
set_option maxRecDepth 100000
set_option maxHeartbeats 16000000
set_option linter.unusedVariables false
set_option linter.unusedSimpArgs false
namespace Go.Proofs.YtnoammmohdmnjaaGreat.C13
open Go.RowKit Go.Proofs.YtnoammmohdmnjaaGreatW.PrintWords
open List renaming setIfInBounds_toArray → Jla, set_cons_zero → Jlb, set_cons_succ → Jlc
def qbz (x : CoreT) : Prop := bulk x ≤ 274877906944 → ∀ (w : World) (cs : List Value), IC.K w x cs →
 Calls Tryz.prog 18 #[.agg cs.toArray] w (qbn 35 76 x w)
def CopyS (w W2 : World) (x : CoreT) (A3 : Option Addr) (c3 : Nat) (A4 : Option Addr) (c4 : Nat) (A5 : Option Addr) (c5 : Nat) (A6 : Option Addr) (c6 : Nat) (W' : World) : Prop :=
 W'.cell? ⟨w.heap.size, 0, none⟩ = some (.int .i64 x.kind) ∧ W'.cell? ⟨w.heap.size, 1, none⟩ = some (.string x.name) ∧ W'.cell? ⟨w.heap.size, 2, none⟩ = some (.bool x.minus) ∧ W'.cell? ⟨w.heap.size, 3, none⟩ = some (.slice A3 x.limbs.length c3) ∧ W'.cell? ⟨w.heap.size, 4, none⟩ = some (.slice A4 x.names.length c4) ∧ W'.cell? ⟨w.heap.size, 5, none⟩ = some (.slice A5 x.kids.length c5) ∧ W'.cell? ⟨w.heap.size, 6, none⟩ = some (.slice A6 x.alts.length c6) ∧ Below w.heap.size w W' ∧ W2.heap.size ≤ W'.heap.size
def qvh (x : CoreT) (l : List Value) (w : World) (F : List Nat) : Prop := ∃ B d, l = [.agg #[.bool x.minus, .slice B x.limbs.length d]] ∧ Row w 106 (.slice B x.limbs.length d) x.limbs.length (Gz .u32 x.limbs) F
def qkc (l : List ByteArray) (vs : List Value) (w : World) (F : List Nat) : Prop := ∃ B d, vs = [.slice B l.length d] ∧ Row w 9 (.slice B l.length d) l.length (Xa l) F
def qvi (l : List Value) (w : World) (F : List Nat) : Prop := ∃ g, l = [.pointer (some ⟨g, 0, none⟩)] ∧ F = [g] ∧ Blk w g 35 [.int .i64 0, .string ⟨#[]⟩, .bool false, .slice none 0 0, .slice none 0 0, .slice none 0 0, .slice none 0 0]
def CopyA (y : AltT) (v : Value) (w : World) (F : List Nat) : Prop := ∃ h A1 c1 A3 c3 A4 c4 A5 c5 A6 c6 Fy, v = .slice (some ⟨h, 0, none⟩) 1 1 ∧ Blk w h 76 (Yl y A1 c1 A3 c3 A4 c4 A5 c5 A6 c6) ∧ qet 35 76 w y (Yl y A1 c1 A3 c3 A4 c4 A5 c5 A6 c6) Fy ∧ F = Fy ++ [h]
def qvf (y : CoreT) (l : List Value) (w : World) (F : List Nat) : Prop := ∃ cs, l = [.agg cs.toArray] ∧ Ke 35 76 w y cs F
def qvg (x : CoreT) (l : List Value) (w : World) (F : List Nat) : Prop := ∃ B3 d3 B4 d4 F3 F4, l = [.agg #[.int .i64 x.kind, .string x.name, .bool x.minus, .slice B3 x.limbs.length d3, .slice B4 x.names.length d4, .slice none 0 0, .slice none 0 0]] ∧ F = F3 ++ F4 ∧
 Row w 106 (.slice B3 x.limbs.length d3) x.limbs.length (Gz .u32 x.limbs) F3 ∧ Row w 9 (.slice B4 x.names.length d4) x.names.length (Xa x.names) F4
theorem f121 {p : Prop} (h : p := by
 clear hb6 hg6 hsz6 BG5 O5 G5' AT5 HC OY
 go_wp2
 go_roundw
 case rel => exact ⟨_, k + 1, by omega, by go_num, Wd ⟨_, _, _, _, _, _, _, _, by rw [Qf hlt]; exact CK.out⟩⟩
 case measure => simp [intOf]; omega) : p := h
theorem f21 {p : Prop} (h : p := by
 go_wp2_with (at_builtin; go_must (refine qmd rfl _ _ rfl W2.heap.size v6 k c6' rfl (by have := HC.out.o6; rwa [HTK.out] at this) h _ rfl rfl (qpp _ _ _ _ _ _ _ _ _ _ _) hbl (by omega) (Nat.le_trans BW.out FY.out.2.2) ?_))
 intro v6' w5 ho5 hg5 hat5
 obtain ⟨V6, D6, rfl, -⟩ := (Zk (by omega) ho5).1.slice
 have O5 := Wd ho5; have G5' := Wd hg5; have AT5 := Wd hat5
 have BG5 := Wd (HC.out.blk.grownO hg5 (fun e => by have := (List.nodup_append.1 (List.nodup_append.1 HC.out.nd).2.1).2.2 g (by rw [HC.out.f6, ← e]; simp) g (by simp); exact this rfl))
 clear ho5 hg5 hat5 hbl
 go_wp2_with (refine Qc g 6 [.int .i64 x.kind, .string x.name, .bool x.minus, .slice B3 x.limbs.length d3, .slice B4 x.names.length d4, v5] [v6] [] [.slice V6 (k + 1) D6] 35 (by rfl) 33 _ _ (by rfl) (by rfl) rfl (by rfl) BG5.out rfl (by kernel_rfl) (by intro v hv; rw [List.mem_singleton.1 hv]; rfl) ?_)
 intro w6 hb6 hg6 hsz6
 have CK := Wd (HC.out.alt OY.out FY.out.2.1 FY.out.1 BW.out FY.out.2.2 G5'.out (by rw [HTK.out]; exact O5.out) AT5.out hg6 hsz6 (by simpa using hb6))
 exact f121) : p := h
theorem f22 {p : Prop} (h : p := by
 go_wp2_with (at_builtin; go_must (refine qme rfl _ _ rfl W2.heap.size v5 k c5' rfl (by have := HC.out.o5; rwa [HTK.out] at this) h _ rfl rfl (Xg _ _ _ _ _ _ _ _ _) hbl (by omega) (Nat.le_trans BW.out FY.out.2.2) ?_))
 intro v5' w5 ho5 hg5 hat5
 obtain ⟨V5, D5, rfl, -⟩ := (Zk (by omega) ho5).1.slice
 have O5 := Wd ho5; have G5' := Wd hg5; have AT5 := Wd hat5
 have BG5 := Wd (HC.out.blk.grownO hg5 (fun e => by have := (List.nodup_append.1 HC.out.nd).2.2 g (by rw [HC.out.f5, ← e]; simp) g (by simp); exact this rfl))
 clear ho5 hg5 hat5 hbl
 go_wp2_with (refine Qc g 5 [.int .i64 x.kind, .string x.name, .bool x.minus, .slice B3 x.limbs.length d3, .slice B4 x.names.length d4] [v5] [.slice none 0 0] [.slice V5 (k + 1) D5] 35 (by rfl) 32 _ _ (by rfl) (by rfl) rfl (by rfl) BG5.out rfl (by kernel_rfl) (by intro v hv; rw [List.mem_singleton.1 hv]; rfl) ?_)
 intro w6 hb6 hg6 hsz6
 have CK := Wd (HC.out.kid OY.out FY.out.2.1 FY.out.1 BW.out FY.out.2.2 G5'.out (by rw [HTK.out]; exact O5.out) AT5.out hg6 hsz6 (by simpa using hb6))
 exact f121) : p := h
theorem f24 {p : Prop} (h : p := by
 intro w3 hb3 hk3 K2 hKK2
 go_simp
 refine hKK2.out _ _ ((F1 ++ F2) ++ [w3.heap.size]) rfl (hb3.alloc hb3.size _) (qky hnd (fun k hk => Nat.lt_of_lt_of_le (hF k hk).2 (Nat.le_trans hk2.1 hk3.1))) ?_
 refine Thr.done _ (fun w4 hb4 hk4 => ⟨w3.heap.size, B, d, Y3, y3, Y4, y4, Y5, y5, Y6, y6, F1 ++ F2, rfl, hk4.blk (Jm w3 _ _) (by simp), ?_, rfl⟩)
 have hal : Keep (F1 ++ F2) w3 (w3.alloc (.cells (Yl x.alts[k] B d Y3 y3 Y4 y4 Y5 y5 Y6 y6).toArray 76)) := qib (fun k hk => Nat.lt_of_lt_of_le (hF k hk).2 (Nat.le_trans hk2.1 hk3.1))
 have hkk := ((hk2.trans hk3).trans hal).trans hk4.left
 rw [Xw]
 exact ⟨_, _, F1, F2, rfl, rfl, hkk.left.row hr (fun _ h => h), hkk.right.ownC ho (fun _ h => h)⟩) : p := h
theorem f35 {p : Prop} (h : p := by
 intro w3 hb3 hk3 K2 hKK2
 go_simp
 refine hKK2.out _ _ (Fy ++ [w3.heap.size]) rfl (hb3.alloc hb3.size _) (qky hn (fun k hk => Nat.lt_of_lt_of_le (Je _ _ _ ho k hk) hk3.1)) ?_
 exact Thr.done _ (fun w4 hb4 hk4 => ⟨w3.heap.size, Y3, e3, Y4, e4, Y5, e5, Y6, e6, Fy, rfl, hk4.blk (Jm w3 _ _) (by simp), hk4.left.ownC (qan (hk3.ownC ho (fun _ h => h)) ((Below.refl _ _).alloc (Nat.le_refl _) _)) (fun _ h => h), rfl⟩)) : p := h
theorem f43 {p : Prop} (h : p := by
 refine Thr.new (fun g => .pointer (some ⟨g, 0, none⟩)) (.cells #[.int .i64 0, .string ⟨#[]⟩, .bool false, .slice none 0 0, .slice none 0 0, .slice none 0 0, .slice none 0 0] 35) (some 3) (by rfl) rfl (by kernel_rfl) rfl (fun w' hb => by go_simp) ?_
 intro g w' hg1 hg2 hg3 hb
 exact Thr.done _ (fun w4 hb4 hk4 => ⟨g, rfl, rfl, hk4.blk hg3 (by simp)⟩)) : p := h
theorem f50 {p : Prop} (h : p := by
 intro B d w2 F hr hn hf hb2
 exact Thr.done _ (fun w4 hb4 hk4 => ⟨B, d, rfl, hk4.row hr (fun _ h => h)⟩)) : p := h
theorem f56 {p : Prop} (h : p := by
 rintro e w2 ⟨cy, Fy, rfl, ho, hn, hf, hb2⟩
 exact hKK.out _ _ Fy rfl (hb1.trans (hb2.mono hb1.size)) (Guar.of_below hb2 hn (fun k hk => ⟨hf k hk, Je _ _ _ ho k hk⟩)) (Thr.done _ (fun w4 hb4 hk4 => ⟨cy, rfl, hk4.ownC ho (fun _ h => h)⟩))) : p := h
theorem f67 {p : Prop} (h : p := by
 intro w3 hb3 hk3
 exact Thr.done _ (fun w4 hb4 hk4 => ⟨B3, d3, B4, d4, F1, F2, rfl, rfl, hk4.left.row (hk3.left.row hr1 (fun _ h => h)) (fun _ h => h), hk4.right.row (hk3.right.row hr2 (fun _ h => h)) (fun _ h => h)⟩)) : p := h
theorem qmx (x : CoreT) (ihk : ∀ y ∈ x.kids, qbz y) (iha : ∀ a ∈ x.alts, qbz a.body) : qbz x := by
 intro hbk w cs hK
 obtain ⟨A3, c3, A4, c4, A5, c5, A6, c6, rfl, l3, h3, l4, h4, l5, h5, l6, h6⟩ := Qk hK
 obtain ⟨b1, b2, b3, b4, b5⟩ := Qz hbk
 have ⟨IHK, IHA, HBK⟩ := Wq ihk iha hbk
 have ⟨H3, H4, H5, H6⟩ := Wj h3 h4 h5 h6
 clear h3 h4 h5 h6 hK ihk iha hbk
 simp only [Qb]
 obtain ⟨W1, hW1, hp1, hB1, hs1⟩ := Wy w x A3 c3 A4 c4 A5 c5 A6 c6 35
 obtain ⟨W2, hW2, hp2, hB2, hs2⟩ := Wh W1 35
 go_enter Tryz.func18, Tryz.ntmps18
 go_wp2_with fail
 rw [← hW1, ← hW2]
 have BP := Wd (hp1.below hB2)
 have BR := Wd (show Blk W2 (w.heap.size + 1) _ _ from by have h := hp2; rw [hs1] at h; exact h)
 have HB2 := Wd (Below.step hB1 hB2)
 clear hp1 hp2 hB1 hB2 hW1 hW2 hs1 hs2
 have SST : Hid (∀ W' : World, Below W2.heap.size W2 W' → W'.cell? ⟨w.heap.size, 0, none⟩ = some (.int .i64 x.kind) ∧ W'.cell? ⟨w.heap.size, 1, none⟩ = some (.string x.name) ∧ W'.cell? ⟨w.heap.size, 2, none⟩ = some (.bool x.minus) ∧ W'.cell? ⟨w.heap.size, 3, none⟩ = some (.slice A3 x.limbs.length c3) ∧ W'.cell? ⟨w.heap.size, 4, none⟩ = some (.slice A4 x.names.length c4) ∧ W'.cell? ⟨w.heap.size, 5, none⟩ = some (.slice A5 x.kids.length c5) ∧ W'.cell? ⟨w.heap.size, 6, none⟩ = some (.slice A6 x.alts.length c6) ∧ Below w.heap.size w W' ∧ W2.heap.size ≤ W'.heap.size) := Wd (fun W' hb => by
  have h1 := BP.out.below hb
  exact ⟨h1.cell (j := 0) rfl, h1.cell (j := 1) rfl, h1.cell (j := 2) rfl, h1.cell (j := 3) rfl, h1.cell (j := 4) rfl, h1.cell (j := 5) rfl, h1.cell (j := 6) rfl, Below.step HB2.out hb, hb.size⟩)
 have B0 : Below W2.heap.size W2 W2 := Below.refl _ _
 have BDR : Hid (∀ (W' : World), Below W2.heap.size W2 W' → Below W2.heap.size W2 W'.drew) := Wd (fun W' h => Zn h)
 have BAL : Hid (∀ (W' : World) (ob : Obj), Below W2.heap.size W2 W' → Below W2.heap.size W2 (W'.alloc ob)) := Wd (fun W' ob h => h.alloc h.size ob)
 have BGR : Hid (∀ (W' W'' : World) (b : Nat), Below W2.heap.size W2 W' → W'.grownBy W'' (some b) → W2.heap.size ≤ b → Below W2.heap.size W2 W'') := Wd (fun W' W'' b h hg hb => h.trans ⟨hg.os, hg.tape, hg.output, hg.size, fun i hi => hg.block i (Nat.lt_of_lt_of_le hi h.size) (fun e => by injection e with e; omega)⟩)
 have SS : Hid (∀ W' : World, Below W2.heap.size W2 W' → CopyS w W2 x A3 c3 A4 c4 A5 c5 A6 c6 W') := Wd (fun W' hb => SST.out W' hb)
 refine Jg [0, 1, 2, 3, 4, 5, 6, 8, 9, 10, 14, 15] [] ((([7, 11, 12] ++ [13, 16]) ++ [17]) ++ [18]) [19] [13, 17, 18, 19, 22, 23, 3] (by kernel_rfl) (CopyS w W2 x A3 c3 A4 c4 A5 c5 A6 c6) (Both [23] [3] (qvg x) qvi) (by kernel_rfl) (by kernel_rfl) (fun _ _ d _ _ h => by cases d <;> exact h) SS.out ?_
 iterate 12
  refine Yb 6 (y := fun w' hSw => by
   obtain ⟨p0, p1, p2, p3, p4, p5, p6, hSb, hSs⟩ := hSw
   go_simp
   try with_reducible rfl) (h := ?_)
 refine YAll.nil (YAll.nil ⟨?_, ?_⟩)
 ·refine Thr.par (T1 := ([7, 11, 12] ++ [13, 16]) ++ [17]) (T2 := [18]) 6 1 [23] [3] (qvg x) qvi (by kernel_rfl) (Nat.le_refl _) ?_ ?_
  ·refine Thr.seq (T := [7, 11, 12] ++ [13, 16]) (C := [17]) 5 1 [13, 17, 18, 19, 22] (by kernel_rfl) (Both [18] [22] (qvh x) (qkc x.names)) (by kernel_rfl) (by kernel_rfl) (Below.refl _ _) ?_ ?_
   ·refine Thr.par 3 2 [18] [22] (qvh x) (qkc x.names) (by kernel_rfl) (Nat.le_refl _) ?_ ?_
    ·refine Thr.new (fun g => .slice (some ⟨g, 0, none⟩) 0 0) (.cells #[] 106) (some 13) (by rfl) rfl (by kernel_rfl) rfl (fun w' hb => by go_simp) ?_
     intro g w' hg1 hg2 hg3 hb
     simp only [Act.put, Jla, Jlb, Jlc]
     refine Thr.copyU (some 17) (by rfl) rfl (by kernel_rfl) rfl _ _ (by rfl) g (by rfl) hg3 hg1 A3 c3 x.limbs (by rfl) (fun w' hb => Kd.C_below H3.out (SS.out w' ⟨hb.os, hb.tape, hb.output, hb.size, hb.block⟩).2.2.2.2.2.2.2.1) b2 ?_
     intro B d w2 F hr hn hf hb2
     simp only [Act.put, Jla, Jlb, Jlc]
     refine Thr.value (v := .agg #[.bool x.minus, .slice B x.limbs.length d]) (some 18) (by rfl) rfl (by kernel_rfl) rfl hn (fun k hk => (hf k hk).2) (fun w' _ _ => by go_simp) ?_
     intro w3 hb3 hk3
     exact Thr.done _ (fun w4 hb4 hk4 => ⟨B, d, rfl, hk4.row (hk3.row hr (fun _ h => h)) (fun _ h => h)⟩)
    ·refine Thr.new (fun g => .slice (some ⟨g, 0, none⟩) 0 0) (.cells #[] 9) (some 19) (by rfl) rfl (by kernel_rfl) rfl (fun w' hb => by go_simp) ?_
     intro g w' hg1 hg2 hg3 hb
     simp only [Act.put, Jla, Jlb, Jlc]
     refine Thr.copyS (some 22) (by rfl) rfl (by kernel_rfl) rfl _ _ (by rfl) g (by rfl) hg3 hg1 A4 c4 x.names (by rfl) (fun w' hb => Kd.C_below H4.out (SS.out w' ⟨hb.os, hb.tape, hb.output, hb.size, hb.block⟩).2.2.2.2.2.2.2.1) b4 ?_
     exact f50
   ·rintro u w' F hb hnd hF ⟨F1, F2, rfl, ⟨B3, d3, e1, hr1⟩, ⟨B4, d4, e2, hr2⟩⟩
    simp only [List.map_cons, List.map_nil, List.cons.injEq, and_true] at e1 e2
    simp only [qde, List.foldl_cons, List.foldl_nil, Act.put, Jla, Jlb, Jlc, e1, e2]
    refine Thr.value (v := .agg #[.int .i64 x.kind, .string x.name, .bool x.minus, .slice B3 x.limbs.length d3, .slice B4 x.names.length d4, .slice none 0 0, .slice none 0 0]) (some 23) (by rfl) rfl (by kernel_rfl) rfl hnd (fun k hk => (hF k hk).2) (fun w' _ _ => by go_simp) ?_
    exact f67
  ·exact f43
 ·rintro u w' F hb hnd hF ⟨F1, F2, rfl, ⟨B3, d3, B4, d4, F3, F4, e1, rfl, hr3, hr4⟩, ⟨g, e2, rfl, hz⟩⟩
  simp only [List.map_cons, List.map_nil, List.cons.injEq, and_true] at e1 e2
  simp only [qde, List.foldl_cons, List.foldl_nil, Act.put, Jla, Jlb, Jlc, qmf, List.map_cons, List.map_nil, List.getD_cons_succ, List.getD_cons_zero, e1, e2]
  go_wp2_with (refine Wv g [.int .i64 x.kind, .string x.name, .bool x.minus, .slice B3 x.limbs.length d3, .slice B4 x.names.length d4, .slice none 0 0, .slice none 0 0] hz ?_)
  intro w5 hblk5 hg5 hsz5
  have C0 := Wd (qkr hb hnd hF hr3 hr4 hblk5 hg5 hsz5)
  clear hblk5 hg5 hsz5 hz hr3 hr4 hF hnd hb e1 e2
  go_wp2_with fail
  have BPW := Wd (show ∀ (w' : World), Below W2.heap.size W2 w' → Blk w' w.heap.size 35 (Qb x A3 c3 A4 c4 A5 c5 A6 c6) from fun w' hb => BP.out.below hb)
  simp only [Qb] at BPW
  go_loopw [4] (fun s4 wr => ∃ (v5 : Value) (k : Nat), k ≤ x.kids.length ∧ s4 = .int .i64 k ∧ Hid (CpI x W2 wr.heap.size g (.slice B3 x.limbs.length d3) (.slice B4 x.names.length d4) v5 (.slice none 0 0) (x.kids.take k) [] wr)) (fun s4 _ => x.kids.length - (intOf s4).toNat)
  case atStart => exact ⟨.slice none 0 0, 0, Nat.zero_le _, rfl, C0⟩
  case round =>
   obtain ⟨v5, k, hk, rfl, HI⟩ := hrel
   obtain ⟨F3, F4, F5, F6, G5, G6, c5', c6', hE⟩ := HI.out
   have HBP := Wd (BPW.out wr hE.below)
   have q5 := HBP.out.cell (j := 5) rfl
   have HE := Wd hE
   clear hE HI
   by_cases hlt : k < x.kids.length
   ·have qk0 : (0 : Int) ≤ (k : Int) := by omega
    have qk1 : (k : Int) < x.kids.length := by omega
    obtain ⟨ad, A3', c3', A4', c4', B5, d5, B6, d6, rfl, hKk, g0, g1, g2, g3, g4, g5, g6⟩ := Kp H5.out (Below.step HB2.out HE.out.below) k hlt
    have qg := HE.out.blk.cell (j := 5) rfl
    have KK := Wd hKk; clear hKk
    go_wp2_with fail
    refine Jg [0, 1, 2, 3, 4, 5, 6] [] [7, 8] [9, 10, 11] [38, 39] (by kernel_rfl) (fun W' => Below wr.heap.size wr W') (fun u w' F => ∃ h A3 c3 A4 c4 A5 c5 A6 c6 Fy, u 39 = .slice (some ⟨h, 0, none⟩) 1 1 ∧ Blk w' h 35 (Qb x.kids[k] A3 c3 A4 c4 A5 c5 A6 c6) ∧ Ke 35 76 w' x.kids[k] (Qb x.kids[k] A3 c3 A4 c4 A5 c5 A6 c6) Fy ∧ F = Fy ++ [h]) (by kernel_rfl) (by kernel_rfl) (fun _ _ d _ _ h => by cases d <;> exact h) (fun _ h => h) ?_
    iterate 7
     refine Yb 31 (y := fun w' hSw => by
      have ⟨p5, r0, r1, r2, r3, r4, r5⟩ := Cb7 hSw q5 g0 g1 g2 g3 g4 g5; have r6 := Cb hSw g6; have rg := Cb hSw qg
      go_simp
      try with_reducible rfl) (h := ?_)
    refine YAll.nil (YAll.nil ⟨?_, ?_⟩)
    ·refine Thr.step (some 38) (by rfl) rfl (by kernel_rfl) ?_
     intro w1 hb1 hk1 K hKK
     go_simp
     refine (IHK.out _ (List.getElem_mem hlt) (by have := Qx (List.getElem_mem hlt); have := HBK.out; rw [Qg] at this; omega) w1 _ ((Ja _ _).K_below (Qa (Below.step HB2.out HE.out.below) (Qj hb1)) KK.out)).mono ?_
     rintro e w2 ⟨cy, Fy, rfl, ho, hn, hf, hb2⟩
     refine hKK.out _ _ Fy rfl (hb1.trans (hb2.mono hb1.size)) (Guar.of_below hb2 hn (fun k hk => ⟨hf k hk, Je _ _ _ ho k hk⟩)) ?_
     obtain ⟨Y3, e3, Y4, e4, Y5, e5, Y6, e6, rfl⟩ := Zi ho
     simp only [Qb] at ho ⊢
     refine Thr.step (some 39) (by rfl) rfl (by kernel_rfl) ?_
     exact f35
    ·rintro u w4 F hb4 hn4 hF4 ⟨h, Y3, e3, Y4, e4, Y5, e5, Y6, e6, Fy, e1, hbl, ho, rfl⟩
     simp only [qde, List.foldl_cons, List.foldl_nil, Act.put, Jla, Jlb, Jlc, qmf, List.map_cons, List.map_nil, List.getD_cons_succ, List.getD_cons_zero, e1]
     have HC := Wd (HE.out.fresh.to (Qj hb4))
     have HTK := Wd (show (x.kids.take k).length = k by rw [List.length_take]; omega)
     have FY := Wd (show (∀ k ∈ Fy, wr.heap.size ≤ k) ∧ Fy.Nodup ∧ wr.heap.size ≤ w4.heap.size from ⟨fun k hk => (hF4 k (List.mem_append_left _ hk)).1, (List.nodup_append.1 hn4).1, hb4.size⟩)
     have OY := Wd ho
     have BW := Wd (HE.out.below.size)
     clear ho hF4 hn4 hb4 HBP q5 g0 g1 g2 g3 g4 g5 g6 qg e1
     exact f22
   ·have hke : x.kids.take k = x.kids := List.take_of_length_le (by omega)
    have C1 := Wd (show CpI x W2 wr.heap.size g (.slice B3 x.limbs.length d3) (.slice B4 x.names.length d4) v5 (.slice none 0 0) x.kids (x.alts.take 0) wr from ⟨_, _, _, _, _, _, _, _, by rw [hke] at HE; exact HE.out⟩)
    clear hke HE
    go_wp2_with fail
    clear q5 HBP hk hlt
    go_loopw [5] (fun s5 wr => ∃ (v6 : Value) (k : Nat), k ≤ x.alts.length ∧ s5 = .int .i64 k ∧ Hid (CpI x W2 wr.heap.size g (.slice B3 x.limbs.length d3) (.slice B4 x.names.length d4) v5 v6 x.kids (x.alts.take k) wr)) (fun s5 _ => x.alts.length - (intOf s5).toNat)
    case atStart => exact ⟨.slice none 0 0, 0, Nat.zero_le _, rfl, C1⟩
    clear C1
    case round =>
     obtain ⟨v6, k, hk, rfl, HI⟩ := hrel
     obtain ⟨F3, F4, F5, F6, G5, G6, c5', c6', hE⟩ := HI.out
     have HBP := Wd (BPW.out wr hE.below)
     have q6 := HBP.out.cell (j := 6) rfl
     have HE := Wd hE
     clear hE HI
     by_cases hlt : k < x.alts.length
     ·have qk0 : (0 : Int) ≤ (k : Int) := by omega
      have qk1 : (k : Int) < x.alts.length := by omega
      obtain ⟨ad, A1', c1', A3', c3', A4', c4', B5, d5, B6, d6, rfl, hKa, hKb, l1n, gsn, g0, g1, g2, g3, g4, g5, g6, g7, g8⟩ := Yd H6.out (Below.step HB2.out HE.out.below) k hlt
      have qg := HE.out.blk.cell (j := 6) rfl
      have KK := Wd hKb; have GS := Wd gsn; clear hKa hKb gsn
      go_wp2_with fail
      refine Jg [0, 1, 2, 3, 4, 5, 6, 7, 9, 10, 11, 12, 13, 14, 16, 17, 18, 19, 20, 21] [] (([8, 15] ++ [22]) ++ [23, 24]) [25, 26, 27] [57, 64, 71, 72, 73] (by kernel_rfl) (fun W' => Below wr.heap.size wr W') (fun u w' F => CopyA x.alts[k] (u 73) w' F) (by kernel_rfl) (by kernel_rfl) (fun _ _ d _ _ h => by cases d <;> exact h) (fun _ h => h) ?_
      iterate 20
       refine Yb 49 (y := fun w' hSw => by
        have ⟨p5, r0, r1, r2, r3, r4, r5⟩ := Cb7 hSw q6 g0 g1 g2 g3 g4 g5; have ⟨r6, r7, r8, rg⟩ := Cb4 hSw g6 g7 g8 qg
        go_simp
        try with_reducible rfl) (h := ?_)
      refine YAll.nil (YAll.nil ⟨?_, ?_⟩)
      ·refine Thr.seq (T := [8, 15] ++ [22]) (C := [23, 24]) 3 2 [57, 64, 71] (by kernel_rfl) (Both [64] [71] (qkc x.alts[k].names) (qvf x.alts[k].body)) (by kernel_rfl) (by kernel_rfl) (Below.refl _ _) ?_ ?_
       ·refine Thr.par 2 1 [64] [71] (qkc x.alts[k].names) (qvf x.alts[k].body) (by kernel_rfl) (Nat.le_refl _) ?_ ?_
        ·refine Thr.new (fun g => .slice (some ⟨g, 0, none⟩) 0 0) (.cells #[] 9) (some 57) (by rfl) rfl (by kernel_rfl) rfl (fun w' hb => by go_simp) ?_
         intro g' w' hg1 hg2 hg3 hb
         simp only [Act.put, Jla, Jlb, Jlc]
         refine Thr.copyS (some 64) (by rfl) rfl (by kernel_rfl) rfl _ _ (by rfl) g' (by rfl) hg3 hg1 A1' c1' x.alts[k].names (by rfl) (fun w' hb => Kd.C_below GS.out (Qa (Below.step HB2.out HE.out.below) (Qj hb))) (Hd HBK.out (List.getElem_mem hlt)) ?_
         exact f50
        ·refine Thr.step (some 71) (by rfl) rfl (by kernel_rfl) ?_
         intro w1 hb1 hk1 K hKK
         go_simp
         refine (IHA.out _ (List.getElem_mem hlt) (Vp HBK.out (List.getElem_mem hlt)) w1 _ ((Ja _ _).K_below (Qa (Below.step HB2.out HE.out.below) (Qj hb1)) KK.out)).mono ?_
         exact f56
       ·rintro u w' F hb hnd hF ⟨F1, F2, rfl, ⟨B, d, e1, hr⟩, ⟨cy, e2, ho⟩⟩
        obtain ⟨Y3, y3, Y4, y4, Y5, y5, Y6, y6, rfl⟩ := Zi ho
        simp only [List.map_cons, List.map_nil, List.cons.injEq, and_true, Qb] at e1 e2
        simp only [qde, List.foldl_cons, List.foldl_nil, Act.put, Jla, Jlb, Jlc, e1, e2]
        refine Thr.value (v := .agg (Yl x.alts[k] B d Y3 y3 Y4 y4 Y5 y5 Y6 y6).toArray) (some 72) (by rfl) rfl (by kernel_rfl) rfl hnd (fun k hk => (hF k hk).2) (fun w' _ _ => by simp only [Yl]; go_simp) ?_
        intro w2 hb2 hk2
        simp only [Yl, Act.put, Jla, Jlb, Jlc]
        refine Thr.step (some 73) (by rfl) rfl (by kernel_rfl) ?_
        exact f24
      ·rintro u w4 F hb4 hn4 hF4 ⟨h, Y1, y1, Y3, y3, Y4, y4, Y5, y5, Y6, y6, Fy, e1, hbl, ho, rfl⟩
       simp only [qde, List.foldl_cons, List.foldl_nil, Act.put, Jla, Jlb, Jlc, qmf, List.map_cons, List.map_nil, List.getD_cons_succ, List.getD_cons_zero, e1]
       have HC := Wd (HE.out.fresh.to (Qj hb4))
       have HTK := Wd (show (x.alts.take k).length = k by rw [List.length_take]; omega)
       have FY := Wd (show (∀ k ∈ Fy, wr.heap.size ≤ k) ∧ Fy.Nodup ∧ wr.heap.size ≤ w4.heap.size from ⟨fun k hk => (hF4 k (List.mem_append_left _ hk)).1, (List.nodup_append.1 hn4).1, hb4.size⟩)
       have OY := Wd ho
       have BW := Wd (HE.out.below.size)
       clear ho hF4 hn4 hb4 HBP q6 g0 g1 g2 g3 g4 g5 g6 g7 g8 qg e1
       exact f21
     ·have hke : x.alts.take k = x.alts := List.take_of_length_le (by omega)
      have C2 := HE.out
      rw [hke] at C2
      have HC2 := Wd C2
      clear C2 hke HE
      obtain ⟨V5, D5, rfl, -⟩ := HC2.out.r5.slice
      obtain ⟨V6, D6, rfl, -⟩ := HC2.out.r6.slice
      have ⟨q0, q1, q2, q3, q4, q5, qq6⟩ := Cz HC2.out.blk
      have BR2 := Wd (BR.out.below HC2.out.below)
      go_wp2_with (refine Wv (w.heap.size + 1) [.int .i64 x.kind, .string x.name, .bool x.minus, .slice B3 x.limbs.length d3, .slice B4 x.names.length d4, .slice V5 x.kids.length D5, .slice V6 x.alts.length D6] BR2.out ?_)
      intro w5 hblk5 hg5 hsz5
      obtain ⟨F, ho, hn, hge, hne⟩ := HC2.out.own
      have HF := Wd (show Ke 35 76 w5 x [.int .i64 x.kind, .string x.name, .bool x.minus, .slice B3 x.limbs.length d3, .slice B4 x.names.length d4, .slice V5 x.kids.length D5, .slice V6 x.alts.length D6] F ∧ F.Nodup ∧ (∀ k ∈ F, w.heap.size ≤ k) ∧ Below w.heap.size w w5 from
       ⟨Xv ho hg5 (fun k hk => by have := hge k hk; have := BR.out.lt; omega), hn, (fun k hk => Nat.le_trans HB2.out.size (hge k hk)), Ze (Below.step HB2.out HC2.out.below) hg5 (by omega)⟩)
      clear q0 q1 q2 q3 q4 q5 qq6 q6 BR2 HC2 hg5 hsz5 ho hn hge hne HBP
      have ⟨q0, q1, q2, q3, q4, q5, q6⟩ := Cz hblk5
      clear hblk5
      go_wp2
      exact bodyPost_ret (v := .agg #[.int .i64 x.kind, .string x.name, .bool x.minus, .slice B3 x.limbs.length d3, .slice B4 x.names.length d4, .slice V5 x.kids.length D5, .slice V6 x.alts.length D6]) (by simp [results, Tryz.results18, go_sem, q0, q1, q2, q3, q4, q5, q6]) rfl ⟨_, F, rfl, HF.out.1, HF.out.2.1, HF.out.2.2.1, HF.out.2.2.2⟩
theorem Uk (x : CoreT) : qbz x := Za qbz (fun c hk ha => qmx c hk ha) x
end Go.Proofs.YtnoammmohdmnjaaGreat.C13
namespace Go.Proofs.YtnoammmohdmnjaaGreat.C13
open Go Go.RowKit Go.Proofs.YtnoammmohdmnjaaGreatW.PrintLast
open List renaming setIfInBounds_toArray → Jla, set_cons_zero → Jlb, set_cons_succ → Jlc
section
variable {P : Program} {ops : Array Oper} {Q : Exit → Act → World → Prop} {S : World → Prop} {ds : List Nat}
def Run (P : Program) (ops : Array Oper) (Q : Exit → Act → World → Prop) (S : World → Prop) (ds : List Nat) : List (Bool × Nat) → Act → World → Prop
 | [], a, w => Q .normal a w
 | (true, i) :: r, a, w => ∃ o v, ops[i]? = some o ∧ YieldsIf P ops S o v a ∧ Run P ops Q S ds r (a.put o.dst v) w
 | (false, t) :: r, a, w => ∃ o, ops[t]? = some o ∧ ∀ K : Act → World → Prop, (∀ a' w', (t ∉ ds → S w') → Run P ops Q S ds r a' w' → K a' w') → if Region.wanted o (yielded ops a.tmps) = true then Oper.wp P o a w K Q else K (a.put o.dst undef) w
def zaq (ops : Array Oper) (ds : List Nat) : List (Bool × Nat) → Array Bool → Bool
 | [], l => (Region.ready .any ops l).isEmpty
 | (true, i) :: r, l => Region.free .any ops l i && (Region.ready .any ops l).contains i && Region.closedB .any ops l && Region.lastB .any ops l ds i && zaq ops ds r (l.setIfInBounds i true)
 | (false, t) :: r, l => decide (Region.ready .any ops l = [t]) && (!ds.contains t || r.all (fun p => !p.1)) && zaq ops ds r (l.setIfInBounds t true)
theorem Run.take {i : Nat} {is : List (Bool × Nat)} {a : Act} {w : World} {o : Oper} {v : Value} {N : Option Tmp} (hi : ops[i]? = some o) (hN : o.dst = N) (hg : Region.wanted o (yielded ops a.tmps) = true) (hy : ∀ w, S w → (execOp a.eval o).run P w = .ok (.value v) w) (h : Run P ops Q S ds is (a.put N v) w) : Run P ops Q S ds ((true, i) :: is) a w := by
 subst hN; exact ⟨o, v, hi, .inl ⟨hg, hy⟩, h⟩
theorem Run.takeB (base : Nat) {i : Nat} {is : List (Bool × Nat)} {a : Act} {w : World} {o : Oper} {v : Value} (hi : ops[i]? = some o) (hN : o.dst = some (base + i)) (hg : Region.wanted o (yielded ops a.tmps) = true) (hy : ∀ w, S w → (execOp a.eval o).run P w = .ok (.value v) w) (h : Run P ops Q S ds is (a.put (some (base + i)) v) w) : Run P ops Q S ds ((true, i) :: is) a w := Run.take hi hN hg hy h
theorem Run.passB (base : Nat) {i : Nat} {is : List (Bool × Nat)} {a : Act} {w : World} {o : Oper} (hi : ops[i]? = some o) (hN : o.dst = some (base + i)) (hg : Region.wanted o (yielded ops a.tmps) = false) (h : Run P ops Q S ds is (a.put (some (base + i)) undef) w) : Run P ops Q S ds ((true, i) :: is) a w := by
 rw [← hN] at h; exact ⟨o, undef, hi, .inr ⟨hg, rfl⟩, h⟩
theorem Run.step {t : Nat} {ts : List (Bool × Nat)} {a : Act} {w : World} {o : Oper} (N : Option Tmp) (hi : ops[t]? = some o) (hN : o.dst = N)
  (h : ∀ K : Act → World → Prop, Shut (∀ a' w', (t ∉ ds → S w') → Run P ops Q S ds ts a' w' → K a' w') → if Region.wanted o (yielded ops a.tmps) = true then Oper.wp P o a w K Q else K (a.put N undef) w) : Run P ops Q S ds ((false, t) :: ts) a w := by
 subst hN
 exact ⟨o, hi, h⟩
theorem Run.new {t : Nat} {ts : List (Bool × Nat)} {a : Act} {w : World} {o : Oper} (N : Option Tmp) (vf : Nat → Value) (ob : Obj) (hi : ops[t]? = some o) (hN : o.dst = N) (hg : o.guard = none)
  (hrun : ∀ w', (execOp a.eval o).run P w' = .ok (.value (vf w'.heap.size)) (w'.alloc ob)) (h : ∀ w', Below w.heap.size w w' → w'.heap.size = w.heap.size + 1 → w'.heap[w.heap.size]? = some ob → S w' ∧ Run P ops Q S ds ts (a.put N (vf w.heap.size)) w') : Run P ops Q S ds ((false, t) :: ts) a w := by
 refine Run.step N hi hN fun K hK => ?_
 have hw : Region.wanted o (yielded ops a.tmps) = true := by simp [Region.wanted, hg]
 rw [if_pos hw]
 obtain ⟨h1, h2⟩ := h (w.alloc ob) ((Below.refl _ _).alloc (Nat.le_refl _) _) (by simp) (heap_alloc_new w ob)
 subst hN
 unfold Oper.wp
 rw [hrun]
 exact hK.out _ _ (fun _ => h1) h2
theorem Run.nil {a : Act} {w : World} (h : Q .normal a w) : Run P ops Q S ds [] a w := h
theorem qbw (hsel : Region.noSelect ops = true) (hQ : ∀ c (a : Act) d v w, Q (.panic c) (a.put d v) w → Q (.panic c) a w) : ∀ (sc : List (Bool × Nat)) (listed : Array Bool) (a : Act) (w : World), zaq ops ds sc listed = true → (S w ∨ sc.all (fun p => !p.1) = true) → Run P ops Q S ds sc a w → Zy P .any ops Q S ds sc.length listed a w
 | [], _, _, _, hB, _, h => ⟨by simpa [zaq] using hB, h⟩
 | (true, i) :: r, l, a, w, hB, hS, h => by
  simp only [zaq, Bool.and_eq_true] at hB
  obtain ⟨⟨⟨⟨h1, h2⟩, h3⟩, h4⟩, h5⟩ := hB
  obtain ⟨o, v, hi, hy, hr⟩ := h
  have hS' : S w := hS.resolve_right (by simp)
  exact qbp hi hsel h1 h2 h3 h4 (fun c a w => hQ c a o.dst v w) hy hS' (qbw hsel hQ r _ _ _ h5 (.inl hS') hr)
 | (false, t) :: r, listed, a, w, hB, hS, h => by
  obtain ⟨o, ho, hst⟩ := h
  simp only [zaq, Bool.and_eq_true, decide_eq_true_eq] at hB
  obtain ⟨⟨hB1, hB2⟩, hB3⟩ := hB
  refine ⟨fun h1 => (by rw [hB1] at h1; cases h1), fun i hi => ?_⟩
  rw [hB1] at hi
  have hik : i = t := by simpa using hi
  subst hik
  refine wpOp_step ho (fun K hK => hst K (fun a' w' hS' hr => hK a' w' ⟨fun hn _ => hS' hn, qbw hsel hQ r _ a' w' hB3 ?_ hr⟩))
  by_cases hd : i ∈ ds
  ·right
   rw [show (!ds.contains i) = false by simpa using hd, Bool.false_or] at hB2
   exact hB2
  ·exact .inl (hS' hd)
def runRB (ops : Array Oper) (sc : List (Bool × Nat)) (ds : List Nat) : Bool := Region.noSelect ops && zaq ops ds sc (Array.replicate ops.size false) && decide (sc.length = ops.size)
theorem Qe {id : Nat} {a : Act} {w : World} {l : List Oper} (sc : List (Bool × Nat)) (ds : List Nat) (S : World → Prop) (hm : P.follows .mixedOrders = true) (hB : runRB l.toArray sc ds = true)
  (hQ : ∀ c (a : Act) d v w, Q (.panic c) (a.put d v) w → Q (.panic c) a w) (hS : S w.drew) (h : Run P l.toArray Q S ds sc a w.drew) : (Code.region id l.toArray true).wp P Q a w := by
 simp only [runRB, Bool.and_eq_true, decide_eq_true_eq] at hB
 obtain ⟨⟨h1, h2⟩, h3⟩ := hB
 refine Gg (S := S) (ds := ds) hm ?_
 have := qbw h1 hQ sc _ a w.drew h2 (.inl hS) h
 rwa [h3] at this
end
section
variable {P : Program} {ops : Array Oper} {S : World → Prop} {Q : Exit → Act → World → Prop} {ds : List Nat}
theorem Tb (b : Nat) {i : Nat} {is : List (Bool × Nat)} {a a' : Act} {w : World} {o : Oper} {v : Value} (hi : ops[i]? = some o := by rfl) (hN : o.dst = some (b + i) := by rfl) (hg : Region.wanted o (yielded ops a.tmps) = true := by rfl) (y : ∀ w, S w → (execOp a.eval o).run P w = .ok (.value v) w) (ha : a.put (some (b + i)) v = a' := by simp only [Act.put, Nat.reduceAdd, List.setIfInBounds_toArray, List.set_cons_zero, List.set_cons_succ]; exact rfl) (h : Run P ops Q S ds is a' w) : Run P ops Q S ds ((true, i) :: is) a w := Run.take hi hN hg y (ha ▸ h)
theorem Tk (N : Option Tmp) {i : Nat} {is : List (Bool × Nat)} {a a' : Act} {w : World} {o : Oper} {v : Value} (hi : ops[i]? = some o := by rfl) (hN : o.dst = N := by rfl) (hg : Region.wanted o (yielded ops a.tmps) = true := by rfl) (y : ∀ w, S w → (execOp a.eval o).run P w = .ok (.value v) w) (ha : a.put (N) v = a' := by simp only [Act.put, Nat.reduceAdd, List.setIfInBounds_toArray, List.set_cons_zero, List.set_cons_succ]; exact rfl) (h : Run P ops Q S ds is a' w) : Run P ops Q S ds ((true, i) :: is) a w := Run.take hi hN hg y (ha ▸ h)
end
end Go.Proofs.YtnoammmohdmnjaaGreat.C13
