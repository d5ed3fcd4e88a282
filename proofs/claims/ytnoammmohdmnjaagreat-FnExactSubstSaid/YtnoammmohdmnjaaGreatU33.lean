import Derived.Test.YtnoammmohdmnjaaGreatU31
import Derived.Test.YtnoammmohdmnjaaGreatU32
set_option maxRecDepth 100000
set_option maxHeartbeats 16000000
set_option linter.unusedVariables false
set_option linter.unusedSimpArgs false
namespace Go.Proofs.YtnoammmohdmnjaaGreat.C13
open Go.RowKit Go.Proofs.YtnoammmohdmnjaaGreatW.PrintWords
open List renaming setIfInBounds_toArray → Jla, set_cons_zero → Jlb, set_cons_succ → Jlc
def qce (S : World) (bs : Nat) (nm : ByteArray) (bt : CoreT) (free all : List ByteArray) (n : Nat) : Prop := ∀ x : CoreT, Pre nm bt x → dep x ≤ n → ∀ (w : World) (v3 v4 v5 v6 : Value) (F : List Nat), Own7 w x v3 v4 v5 v6 F → Below S.heap.size S w → (∀ i ∈ F, S.heap.size ≤ i) →
 Calls Tryz.prog 49 #[.pointer (some ⟨bs, 0, none⟩), .agg #[.int .i64 x.kind, .string x.name, .bool x.minus, v3, v4, v5, v6]] w (Ut (Jb nm bt free all n x) F w)
def qoa (S : World) (bs : Nat) (nm : ByteArray) (bt : CoreT) (free all : List ByteArray) (n : Nat) : Prop := ∀ x : CoreT, x.kind = 8 → Pre nm bt x → dep x ≤ n + 1 → ∀ (w : World) (v3 v4 v5 v6 : Value) (F : List Nat), Own7 w x v3 v4 v5 v6 F → Below S.heap.size S w → (∀ i ∈ F, S.heap.size ≤ i) →
 Calls Tryz.prog 73 #[.pointer (some ⟨bs, 0, none⟩), .agg #[.int .i64 x.kind, .string x.name, .bool x.minus, v3, v4, v5, v6]] w (Ut (Jb nm bt free all (n + 1) x) F w)
theorem Inv.back {L L' : Nat} {F0 : List Nat} {w0 w2 wr : World} {y : CoreT} {v3 v4 v5 v6 : Value} (hb : Below w0.heap.size w0 w2) (hlt : ∀ i ∈ F0, i < w0.heap.size) (h : Inv L' F0 w2 y v3 v4 v5 v6 wr) (hL : L ≤ L') : Inv L F0 w0 y v3 v4 v5 v6 wr :=
 ⟨h.ex.imp fun F hF => ⟨hF.1, fun i hi => (hF.2 i hi).imp id (Nat.le_trans hL)⟩, ⟨h.but.os.trans hb.os, h.but.tape.trans hb.tape, h.but.output.trans hb.output, Nat.le_trans hb.size h.but.size, fun i hi hn => (h.but.block i (Nat.lt_of_lt_of_le hi hb.size) hn).trans (hb.block i hi)⟩, hlt, Nat.le_trans hL h.ls⟩
theorem f57 {p : Prop} (h : p := by
 rw [Xi] at h0 ⊢
 obtain ⟨_, _, _, _, F3, F4, F5, F6, G5, G6, c5, c6, he, hr⟩ := h0
 simp only [List.cons.injEq, true_and, and_true] at he
 obtain ⟨rfl, rfl, rfl, rfl⟩ := he
 exact ⟨_, _, _, _, F3, F4, F5, F6, G5, G6, c5, c6, rfl, hr⟩) : p := h
theorem Inv.named {L : Nat} {F0 : List Nat} {w0 wr : World} {y : CoreT} {v3 v4 v5 v6 : Value} (h : Inv L F0 w0 y v3 v4 v5 v6 wr) (t : ByteArray) : Inv L F0 w0 { y with name := t } v3 v4 v5 v6 wr := by
 obtain ⟨F, hF, hs⟩ := h.ex
 refine ⟨⟨F, ⟨?_, hF.nd⟩, hs⟩, h.but, h.lt0, h.ls⟩
 have h0 := hF.own
 exact f57
theorem Sb.K {S : World} {bs : Nat} {nm : ByteArray} {bt : CoreT} {free all : List ByteArray} {B3 : Option Addr} {b3 : Nat} {B4 : Option Addr} {b4 : Nat} {B5 : Option Addr} {b5 : Nat} {B6 : Option Addr} {b6 : Nat} {Af : Option Addr} {cf : Nat} {Aa : Option Addr} {ca : Nat} (hS : Sb S bs nm bt free all B3 b3 B4 b4 B5 b5 B6 b6 Af cf Aa ca) : IC.K S bt (Qb bt B3 b3 B4 b4 B5 b5 B6 b6) := hS.bt
theorem f12 {p : Prop} (h : p := by
 go_simp
 try first | (with_reducible rfl) | (simp; done) | (simp; omega)) : p := h
theorem f71 {p : Prop} (h : p := by
 exact ⟨_, _, _, _, rfl, HI9.out.weaken (L' := w.heap.size) (by omega)⟩) : p := h
theorem f75 {p : Prop} (h : p := by
 have t0 := Cb hSw s0; have t1 := Cb hSw p1
 go_simp
 try with_reducible rfl) : p := h
theorem qus {S : World} {bs : Nat} {nm : ByteArray} {bt : CoreT} {free all : List ByteArray} {B3 : Option Addr} {b3 : Nat} {B4 : Option Addr} {b4 : Nat} {B5 : Option Addr} {b5 : Nat} {B6 : Option Addr} {b6 : Nat} {Af : Option Addr} {cf : Nat} {Aa : Option Addr} {ca : Nat} (hS : Sb S bs nm bt free all B3 b3 B4 b4 B5 b5 B6 b6 Af cf Aa ca) (henv : Env free all bt) (n : Nat)  (x : CoreT) (hp : Pre nm bt x) (hk : x.kind = 1) (w : World) (v3 v4 v5 v6 : Value) (F : List Nat) (hO : Own7 w x v3 v4 v5 v6 F) (hB : Below S.heap.size S w) (hF : ∀ i ∈ F, S.heap.size ≤ i) :
  Calls Tryz.prog 49 #[.pointer (some ⟨bs, 0, none⟩), .agg #[.int .i64 x.kind, .string x.name, .bool x.minus, v3, v4, v5, v6]] w (Ut (Jb nm bt free all (n + 1) x) F w) := by
 have hlt := hO.lt
 obtain ⟨A3, c3, A4, c4, A5, c5, A6, c6, rfl, rfl, rfl, rfl, -, -, -⟩ := hO.form
 have ⟨HS, HE, HP, HFS, HB, HO⟩ := Wx hS henv hp hF hB hO
 obtain ⟨W1, hW1, hp1, hB1, hs1⟩ := Wy w x A3 c3 A4 c4 A5 c5 A6 c6 35
 obtain ⟨W2, hW2, hp2, hB2, hs2⟩ := Wh W1 35
 have HB2 := Wd (Below.step hB1 hB2)
 have BP := Wd (hp1.below hB2)
 have BR := Wd (show Blk W2 (w.heap.size + 1) _ _ from by have h := hp2; rw [hs1] at h; exact h)
 have HI0 := Wd (show Inv (w.heap.size + 2) F w x (.slice A3 x.limbs.length c3) (.slice A4 x.names.length c4) (.slice A5 x.kids.length c5) (.slice A6 x.alts.length c6) W2 from
  ⟨⟨F, hO.move (fun k hk => HB2.out.block k (hlt k hk)), fun i hi => .inl hi⟩, But.of_below HB2.out, hlt, by omega⟩)
 have HLT := Wd hlt
 have HBS := Wd (hB.trans (HB2.out.mono hB.size))
 obtain ⟨-, -, hbk3, -, -⟩ := Qz hp.fit.bulk
 clear hS henv hp hF hB hO hlt hp1 hp2 hB1 hB2 hs1 hs2
 have e1 : (x.kind == 1) = true := beq_iff_eq.2 hk
 have HK := Wd hk
 clear hk
 subst hW2; subst hW1
 have ⟨p0, p1, p2, p3, p4, p5, p6⟩ := Cz BP.out
 go_enter Tryz.func49, Tryz.ntmps49
 go_wp2_with fail
 clear p0 p1 p2 p3 p4 p5 p6 e1
 obtain ⟨W2, hW2'⟩ : ∃ W2, W2 = (w.alloc (.cells #[.int .i64 x.kind, .string x.name, .bool x.minus, .slice A3 x.limbs.length c3, .slice A4 x.names.length c4, .slice A5 x.kids.length c5, .slice A6 x.alts.length c6] 35)).alloc (.cells #[.int .i64 0, .string ⟨#[]⟩, .bool false, .slice none 0 0, .slice none 0 0, .slice none 0 0, .slice none 0 0] 35) := ⟨_, rfl⟩
 rw [← hW2'] at HB2 BP BR HI0 HBS ⊢
 clear hW2'
 have s0 := (HS.out.blk.below HBS.out).cell (j := 0) rfl; have p1 := BP.out.cell (j := 1) rfl
 by_cases hn : x.name = nm
 case pos =>
  have ⟨q1, q2⟩ := Kk hn
  have HN := Wd hn; clear hn
  refine Qe [(true, 0), (true, 1), (true, 2), (true, 3), (true, 4), (true, 5), (true, 6)] [] (fun W' => Below W2.heap.size W2 W') (by kernel_rfl) (by kernel_rfl) (fun _ _ d _ _ h => by cases d <;> exact h) ⟨rfl, rfl, rfl, Nat.le_refl _, fun _ _ => rfl⟩ ?_
  iterate 6
   refine Tb 10 (y := fun w' hSw => by
    exact f75) (h := ?_)
  refine Tb 10 (v := .bool true) (y := fun w' hSw => by
   exact f12) (h := ?_)
  refine Run.nil ?_
  have s1 := (HS.out.blk.below HBS.out).cell (j := 1) rfl; have s2 := (HS.out.blk.below HBS.out).cell (j := 2) rfl; have s3 := (HS.out.blk.below HBS.out).cell (j := 3) rfl; have s4 := (HS.out.blk.below HBS.out).cell (j := 4) rfl; have s5 := (HS.out.blk.below HBS.out).cell (j := 5) rfl; have s6 := (HS.out.blk.below HBS.out).cell (j := 6) rfl; have s7 := (HS.out.blk.below HBS.out).cell (j := 7) rfl
  clear p1 s0 q1 q2
  go_wp2_with fail
  refine (Uk bt HE.out.bt.bulk W2.drew _ (Kd.K_drew' ((Ja _ _).K_below HBS.out HS.out.bt))).mono ?_
  rintro e w3 ⟨cx, Fx, rfl, ho, hn, hf, hb⟩
  obtain ⟨Z3, z3, Z4, z4, Z5, z5, Z6, z6, rfl⟩ := Zi ho
  have HB3 := Wd (Qj hb)
  have HI3 := Wd (show Inv (w.heap.size + 2) F w bt (.slice Z3 bt.limbs.length z3) (.slice Z4 bt.names.length z4) (.slice Z5 bt.kids.length z5) (.slice Z6 bt.alts.length z6) w3 from
   ⟨⟨Fx, ⟨ho, hn⟩, fun i hi => .inr (Nat.le_trans HI0.out.ls (hf i hi))⟩, HI0.out.but.trans (But.of_below HB3.out), HLT.out, Nat.le_trans HI0.out.ls HB3.out.size⟩)
  have BR3 := Wd (BR.out.below HB3.out)
  clear ho hn hf hb s1 s2 s3 s4 s5 s6 s7
  go_wp2_with (refine Wv (w.heap.size + 1) [.int .i64 bt.kind, .string bt.name, .bool bt.minus, .slice Z3 bt.limbs.length z3, .slice Z4 bt.names.length z4, .slice Z5 bt.kids.length z5, .slice Z6 bt.alts.length z6] BR3.out ?_)
  intro w9 hblk9 hg9 hsz9
  have ⟨kk0, kk1, kk2, kk3, kk4, kk5, kk6⟩ := Cz hblk9
  have HI9 := Wd (HI3.out.grown (Nat.le_succ _) (by omega) hg9)
  clear hblk9 hg9
  go_wp2
  refine bodyPost_ret (v := .agg #[.int .i64 bt.kind, .string bt.name, .bool bt.minus, .slice Z3 bt.limbs.length z3, .slice Z4 bt.names.length z4, .slice Z5 bt.kids.length z5, .slice Z6 bt.alts.length z6]) (by simp [results, Tryz.results49, go_sem, kk0, kk1, kk2, kk3, kk4, kk5, kk6]) rfl ?_
  rw [show Jb nm bt free all (n + 1) x = bt from by rw [Jb, if_pos HK.out, if_pos HN.out]]
  exact f71
 case neg =>
  have ⟨q1, q2⟩ := Xt hn
  have HN := Wd hn; clear hn
  refine Qe [(true, 0), (true, 1), (true, 2), (true, 3), (true, 4), (true, 5), (true, 6)] [] (fun W' => Below W2.heap.size W2 W') (by kernel_rfl) (by kernel_rfl) (fun _ _ d _ _ h => by cases d <;> exact h) ⟨rfl, rfl, rfl, Nat.le_refl _, fun _ _ => rfl⟩ ?_
  iterate 6
   refine Tb 10 (y := fun w' hSw => by
    exact f75) (h := ?_)
  refine Tb 10 (v := .bool false) (y := fun w' hSw => by
   exact f12) (h := ?_)
  refine Run.nil ?_
  clear p1 s0 q1 q2
  have BPd := Wd (show Blk W2.drew w.heap.size _ _ from BP.out); have BRd := Wd (show Blk W2.drew (w.heap.size + 1) _ _ from BR.out)
  have HId := Wd (HI0.out.on (show Below W2.heap.size W2 W2.drew from ⟨rfl, rfl, rfl, Nat.le_refl _, fun _ _ => rfl⟩))
  have ⟨p0, p1, p2, p3, p4, p5, p6⟩ := Cz BP.out
  go_wp2_with (refine Wv (w.heap.size + 1) [.int .i64 x.kind, .string x.name, .bool x.minus, .slice A3 x.limbs.length c3, .slice A4 x.names.length c4, .slice A5 x.kids.length c5, .slice A6 x.alts.length c6] BRd.out ?_)
  intro w9 hblk9 hg9 hsz9
  have ⟨kk0, kk1, kk2, kk3, kk4, kk5, kk6⟩ := Cz hblk9
  have HI9 := Wd (HId.out.grown (Nat.le_succ _) (by omega) hg9)
  clear hblk9 hg9
  go_wp2
  refine bodyPost_ret (v := .agg #[.int .i64 x.kind, .string x.name, .bool x.minus, .slice A3 x.limbs.length c3, .slice A4 x.names.length c4, .slice A5 x.kids.length c5, .slice A6 x.alts.length c6]) (by simp [results, Tryz.results49, go_sem, kk0, kk1, kk2, kk3, kk4, kk5, kk6]) rfl ?_
  rw [show Jb nm bt free all (n + 1) x = x from by rw [Jb, if_pos HK.out, if_neg HN.out]]
  exact f71
theorem qrb {S : World} {bs : Nat} {nm : ByteArray} {bt : CoreT} {free all : List ByteArray} {B3 : Option Addr} {b3 : Nat} {B4 : Option Addr} {b4 : Nat} {B5 : Option Addr} {b5 : Nat} {B6 : Option Addr} {b6 : Nat} {Af : Option Addr} {cf : Nat} {Aa : Option Addr} {ca : Nat} (hS : Sb S bs nm bt free all B3 b3 B4 b4 B5 b5 B6 b6 Af cf Aa ca) (henv : Env free all bt) (n : Nat)  (x : CoreT) (hp : Pre nm bt x) (hk : x.kind = 6 ∨ x.kind = 7) (hh : Vg nm x = false) (w : World) (v3 v4 v5 v6 : Value) (F : List Nat) (hO : Own7 w x v3 v4 v5 v6 F) (hB : Below S.heap.size S w) (hF : ∀ i ∈ F, S.heap.size ≤ i) :
  Calls Tryz.prog 49 #[.pointer (some ⟨bs, 0, none⟩), .agg #[.int .i64 x.kind, .string x.name, .bool x.minus, v3, v4, v5, v6]] w (Ut (Jb nm bt free all (n + 1) x) F w) := by
 have hlt := hO.lt
 obtain ⟨A3, c3, A4, c4, A5, c5, A6, c6, rfl, rfl, rfl, rfl, -, -, -⟩ := hO.form
 have ⟨HS, HE, HP, HFS, HB, HO⟩ := Wx hS henv hp hF hB hO
 obtain ⟨W1, hW1, hp1, hB1, hs1⟩ := Wy w x A3 c3 A4 c4 A5 c5 A6 c6 35
 obtain ⟨W2, hW2, hp2, hB2, hs2⟩ := Wh W1 35
 have HB2 := Wd (Below.step hB1 hB2)
 have BP := Wd (hp1.below hB2)
 have BR := Wd (show Blk W2 (w.heap.size + 1) _ _ from by have h := hp2; rw [hs1] at h; exact h)
 have HI0 := Wd (show Inv (w.heap.size + 2) F w x (.slice A3 x.limbs.length c3) (.slice A4 x.names.length c4) (.slice A5 x.kids.length c5) (.slice A6 x.alts.length c6) W2 from
  ⟨⟨F, hO.move (fun k hk => HB2.out.block k (hlt k hk)), fun i hi => .inl hi⟩, But.of_below HB2.out, hlt, by omega⟩)
 have HLT := Wd hlt
 have HBS := Wd (hB.trans (HB2.out.mono hB.size))
 obtain ⟨-, -, hbk3, -, -⟩ := Qz hp.fit.bulk
 clear hS henv hp hF hB hO hlt hp1 hp2 hB1 hB2 hs1 hs2
 have e1 : (x.kind == 1) = false := beq_eq_false_iff_ne.2 (by omega)
 have HH := Wd hh; have HK67 := Wd hk
 clear hh
 subst hW2; subst hW1
 have ⟨p0, p1, p2, p3, p4, p5, p6⟩ := Cz BP.out
 rcases hk with hk | hk
 case' inl => have e6 : (x.kind == 6) = true := beq_iff_eq.2 hk
 case' inr => have e6 : (x.kind == 6) = false := beq_eq_false_iff_ne.2 (by omega); have e7 : (x.kind == 7) = true := beq_iff_eq.2 hk
 all_goals
  clear hk
  go_enter Tryz.func49, Tryz.ntmps49
  go_wp2_with fail
  clear p0 p1 p2 p3 p4 p5 p6 e1 e6
  try clear e7
  obtain ⟨W2, hW2'⟩ : ∃ W2, W2 = (w.alloc (.cells #[.int .i64 x.kind, .string x.name, .bool x.minus, .slice A3 x.limbs.length c3, .slice A4 x.names.length c4, .slice A5 x.kids.length c5, .slice A6 x.alts.length c6] 35)).alloc (.cells #[.int .i64 0, .string ⟨#[]⟩, .bool false, .slice none 0 0, .slice none 0 0, .slice none 0 0, .slice none 0 0] 35) := ⟨_, rfl⟩
  rw [← hW2'] at HB2 BP BR HI0 HBS ⊢
  clear hW2'
  have s0 := (HS.out.blk.below HBS.out).cell (j := 0) rfl
  have ⟨p0, p1, p2, p3, p4, p5, p6⟩ := Cz BP.out
  refine Qe [(true, 0), (true, 1), (true, 2), (true, 3), (true, 4), (false, 5), (true, 6)] [] (fun W' => Below W2.heap.size W2 W') (by kernel_rfl) (by kernel_rfl) (fun _ _ d _ _ h => by cases d <;> exact h) ⟨rfl, rfl, rfl, Nat.le_refl _, fun _ _ => rfl⟩ ?_
  iterate 5
   refine Tb 26 (y := fun w' hSw => by
    have ⟨t0, t1, t2, t3, t4, t5, t6⟩ := Cb7 hSw s0 p0 p1 p2 p3 p4 p5; have t7 := Cb hSw p6
    go_simp
    try with_reducible rfl) (h := ?_)
  refine Run.step (some 31) (by rfl) (by rfl) ?_
  intro K hK
  go_simp
  refine (qgc nm x HP.out.fit.bulk W2.drew _ (Kd.K_drew' HI0.out.K)).mono ?_
  rintro e w3 ⟨rfl, hb3⟩
  have HB3 := Wd (Qj hb3)
  rw [HH.out]
  refine hK.out _ _ (fun _ => HB3.out) ?_
  clear hK K hb3
  try simp only [Act.put, heap_drew, Nat.reduceAdd, Jla, Jlb, Jlc]
  refine Tk (some 32) (y := fun w' hSw => by
   go_simp
   try with_reducible rfl) (h := ?_)
  refine Run.nil ?_
  have HI3 := Wd (HI0.out.on HB3.out)
  have BP3 := Wd (BP.out.below HB3.out); have BR3 := Wd (BR.out.below HB3.out)
  have HBS3 := Wd (HBS.out.trans (HB3.out.mono HBS.out.size))
  clear s0 p0 p1 p2 p3 p4 p5 p6 HI0 BP BR
  have ⟨p0, p1, p2, p3, p4, p5, p6⟩ := Cz BP3.out
  go_wp2_with (refine Wv (w.heap.size + 1) [.int .i64 x.kind, .string x.name, .bool x.minus, .slice A3 x.limbs.length c3, .slice A4 x.names.length c4, .slice A5 x.kids.length c5, .slice A6 x.alts.length c6] BR3.out ?_)
  intro w9 hblk9 hg9 hsz9
  have ⟨kk0, kk1, kk2, kk3, kk4, kk5, kk6⟩ := Cz hblk9
  have HI9 := Wd (HI3.out.grown (Nat.le_succ _) (by omega) hg9)
  clear hblk9 hg9
  go_wp2
  refine bodyPost_ret (v := .agg #[.int .i64 x.kind, .string x.name, .bool x.minus, .slice A3 x.limbs.length c3, .slice A4 x.names.length c4, .slice A5 x.kids.length c5, .slice A6 x.alts.length c6]) (by simp [results, Tryz.results49, go_sem, kk0, kk1, kk2, kk3, kk4, kk5, kk6]) rfl ?_
  have hst : Jb nm bt free all (n + 1) x = x := sub_id nm bt free all (n + 1) x HH.out
  rw [hst]
  exact ⟨_, _, _, _, rfl, HI9.out.weaken (L' := w.heap.size) (by omega)⟩
theorem qnq {S : World} {bs : Nat} {nm : ByteArray} {bt : CoreT} {free all : List ByteArray} {B3 : Option Addr} {b3 : Nat} {B4 : Option Addr} {b4 : Nat} {B5 : Option Addr} {b5 : Nat} {B6 : Option Addr} {b6 : Nat} {Af : Option Addr} {cf : Nat} {Aa : Option Addr} {ca : Nat} (hS : Sb S bs nm bt free all B3 b3 B4 b4 B5 b5 B6 b6 Af cf Aa ca) (henv : Env free all bt) (n : Nat) (ih : qce S bs nm bt free all n) (x : CoreT) (hp : Pre nm bt x) (hk1 : x.kind ≠ 1) (hk6 : x.kind ≠ 6) (hk7 : x.kind ≠ 7) (hk8 : x.kind ≠ 8) (hd : dep x ≤ n + 1) (w : World) (v3 v4 v5 v6 : Value) (F : List Nat) (hO : Own7 w x v3 v4 v5 v6 F) (hB : Below S.heap.size S w) (hF : ∀ i ∈ F, S.heap.size ≤ i) :
  Calls Tryz.prog 49 #[.pointer (some ⟨bs, 0, none⟩), .agg #[.int .i64 x.kind, .string x.name, .bool x.minus, v3, v4, v5, v6]] w (Ut (Jb nm bt free all (n + 1) x) F w) := by
 have hlt := hO.lt
 obtain ⟨A3, c3, A4, c4, A5, c5, A6, c6, rfl, rfl, rfl, rfl, -, -, -⟩ := hO.form
 have ⟨HS, HE, HP, HFS, HB, HO⟩ := Wx hS henv hp hF hB hO
 obtain ⟨W1, hW1, hp1, hB1, hs1⟩ := Wy w x A3 c3 A4 c4 A5 c5 A6 c6 35
 obtain ⟨W2, hW2, hp2, hB2, hs2⟩ := Wh W1 35
 have HB2 := Wd (Below.step hB1 hB2)
 have BP := Wd (hp1.below hB2)
 have BR := Wd (show Blk W2 (w.heap.size + 1) _ _ from by have h := hp2; rw [hs1] at h; exact h)
 have HI0 := Wd (show Inv (w.heap.size + 2) F w x (.slice A3 x.limbs.length c3) (.slice A4 x.names.length c4) (.slice A5 x.kids.length c5) (.slice A6 x.alts.length c6) W2 from
  ⟨⟨F, hO.move (fun k hk => HB2.out.block k (hlt k hk)), fun i hi => .inl hi⟩, But.of_below HB2.out, hlt, by omega⟩)
 have HLT := Wd hlt
 have HBS := Wd (hB.trans (HB2.out.mono hB.size))
 obtain ⟨-, -, hbk3, -, -⟩ := Qz hp.fit.bulk
 clear hS henv hp hF hB hO hlt hp1 hp2 hB1 hB2 hs1 hs2
 have e1 : (x.kind == 1) = false := beq_eq_false_iff_ne.2 hk1
 have e6 : (x.kind == 6) = false := beq_eq_false_iff_ne.2 hk6
 have e7 : (x.kind == 7) = false := beq_eq_false_iff_ne.2 hk7
 have e8 : (x.kind == 8) = false := beq_eq_false_iff_ne.2 hk8
 have HST := Wd (show Jb nm bt free all (n + 1) x = { x with kids := x.kids.map (Jb nm bt free all n) } from by rw [Jb, if_neg hk1, if_neg (by omega), if_neg hk8])
 have HPK := Wd (show ∀ c ∈ x.kids, Pre nm bt c from fun c hc => HP.out.kid hc (by rw [Gs HP.out.s hk1 hk8 (by omega)]; exact Yj hc))
 have HDK := Wd (show ∀ c ∈ x.kids, dep c ≤ n from fun c hc => by have := Yz hc; rw [Yi] at hd; omega)
 have IH := Wd ih
 clear hk1 hk6 hk7 hk8 hd ih
 subst hW2; subst hW1
 have ⟨p0, p1, p2, p3, p4, p5, p6⟩ := Cz BP.out
 go_enter Tryz.func49, Tryz.ntmps49
 go_wp2_with fail
 clear p0 p1 p2 p3 p4 p5 p6 e1 e6 e7 e8
 obtain ⟨W2, hW2'⟩ : ∃ W2, W2 = (w.alloc (.cells #[.int .i64 x.kind, .string x.name, .bool x.minus, .slice A3 x.limbs.length c3, .slice A4 x.names.length c4, .slice A5 x.kids.length c5, .slice A6 x.alts.length c6] 35)).alloc (.cells #[.int .i64 0, .string ⟨#[]⟩, .bool false, .slice none 0 0, .slice none 0 0, .slice none 0 0, .slice none 0 0] 35) := ⟨_, rfl⟩
 rw [← hW2'] at HB2 BP BR HI0 HBS ⊢
 clear hW2'
 have HML := Wd (show (x.kids.map (Jb nm bt free all n)).length = x.kids.length by simp)
 go_loopw [5] (fun s5 wr => ∃ k : Nat, k ≤ x.kids.length ∧ s5 = .int .i64 k ∧ Hid (Inv (w.heap.size + 2) F w { x with kids := mix (x.kids.map (Jb nm bt free all n)) x.kids k } (.slice A3 x.limbs.length c3) (.slice A4 x.names.length c4) (.slice A5 x.kids.length c5) (.slice A6 x.alts.length c6) wr) ∧ Hid (Blk wr w.heap.size 35 [.int .i64 x.kind, .string x.name, .bool x.minus, .slice A3 x.limbs.length c3, .slice A4 x.names.length c4, .slice A5 x.kids.length c5, .slice A6 x.alts.length c6]) ∧ Hid (Blk wr (w.heap.size + 1) 35 [.int .i64 0, .string ⟨#[]⟩, .bool false, .slice none 0 0, .slice none 0 0, .slice none 0 0, .slice none 0 0])) (fun s5 _ => x.kids.length - (intOf s5).toNat)
 case atStart => exact ⟨0, Nat.zero_le _, rfl, Wd (by rw [Jc, Kv]; exact HI0.out), BP, BR⟩
 clear HI0 BP BR
 case round =>
  obtain ⟨k, hk, rfl, HI, BP, BR⟩ := hrel
  have p5 := BP.out.cell (j := 5) rfl
  by_cases hlk : k < x.kids.length
  ·obtain ⟨g5, cap5, e1, cx, post, hv5, hcap5, hl5, hb5, Gx, hox, hnx, hsx, hgx, hg5F, hltx, hcl5⟩ := HI.out.kid (by omega) (k := k) (by simp only; rw [Zg HML.out]; exact hlk)
   simp only [Zg HML.out] at hv5 hcap5
   simp only [Value.slice.injEq, true_and] at hv5
   obtain ⟨rfl, rfl⟩ := hv5
   simp only [Xf HML.out hlk] at hox
   obtain ⟨u3, u4, u5, u6, rfl, hO7⟩ := Own7.of hox hnx
   have HO7 := Wd hO7
   obtain ⟨g0, g1, g2, g3, g4', g5', g6⟩ := Blk.seven (show Blk wr g5 _ (e1 ++ ([_, _, _, _, _, _, _] ++ post)) from hb5) hl5
   have HB5' := Wd hb5; have ⟨HCL5, HG5, HL5⟩ := Wq hcl5 (show g5 ∉ Gx ∧ (g5 ∈ F ∨ w.heap.size + 2 ≤ g5) ∧ (∀ i ∈ Gx, i ∈ F ∨ w.heap.size + 2 ≤ i) from ⟨hgx, hg5F, hsx⟩) hl5
   clear hb5 hcl5 hgx hg5F hl5 hox hnx hsx hltx hO7
   have qk2 : (0 : Int) ≤ (k : Int) := by omega
   have qk3 : (k : Int) < x.kids.length := by omega
   have HBw := Wd (HI.out.below HB.out HFS.out)
   go_wp2_with fail
   refine Qe [(true, 0), (true, 1), (true, 2), (true, 3), (true, 4), (true, 5), (true, 6), (true, 7), (true, 8), (false, 9), (true, 10), (false, 11)] [11] (fun W' => W'.heap[w.heap.size]? = wr.heap[w.heap.size]? ∧ W'.heap[g5]? = wr.heap[g5]?) (by kernel_rfl) (by kernel_rfl) (fun _ _ d _ _ h => by cases d <;> exact h) ⟨rfl, rfl⟩ ?_
   iterate 9
    refine Tb 49 (y := fun w' hSw => by
     have t5 := Qp hSw.1 p5; have u0 := Qp hSw.2 g0; have u1 := Qp hSw.2 g1; have u2 := Qp hSw.2 g2; have u3 := Qp hSw.2 g3; have u4 := Qp hSw.2 g4'; have u5 := Qp hSw.2 g5'; have u6 := Qp hSw.2 g6
     go_simp
     try with_reducible rfl) (h := ?_)
   refine Run.step (some 58) (by rfl) (by rfl) ?_
   intro K hK
   go_simp
   refine (IH.out _ (HPK.out _ (List.getElem_mem hlk)) (HDK.out _ (List.getElem_mem hlk)) wr.drew u3 u4 u5 u6 Gx (HO7.out.move (fun _ _ => rfl)) (show Below S.heap.size S wr.drew from ⟨HBw.out.os, HBw.out.tape, HBw.out.output, HBw.out.size, HBw.out.block⟩) (fun i hi => (HG5.out.2.2 i hi).elim (HFS.out i) (fun h => by have := HB.out.size; omega))).mono ?_
   rintro e w4 ⟨z3, z4, z5, z6, rfl, hI4⟩
   have HI4 := Wd hI4
   have HBT4 := Wd (show But Gx wr w4 from ⟨hI4.but.os, hI4.but.tape, hI4.but.output, hI4.but.size, hI4.but.block⟩)
   clear hI4
   refine hK.out _ _ (fun _ => ⟨HBT4.out.block _ BP.out.lt (fun h => (HG5.out.2.2 _ h).elim (fun h => by have := HLT.out _ h; omega) (fun h => by omega)), HBT4.out.block _ HB5'.out.lt HG5.out.1⟩) ?_
   clear hK K
   try simp only [Act.put, heap_drew, Nat.reduceAdd, Jla, Jlb, Jlc]
   refine Tk (some 59) (y := fun w' hSw => by
    go_simp
    try with_reducible rfl) (h := ?_)
   refine Run.step none (by rfl) (by rfl) ?_
   intro K hK
   refine Qw g5 (k * 7) _ [.int .i64 x.kids[k].kind, .string x.kids[k].name, .bool x.kids[k].minus, u3, u4, u5, u6] post [.int .i64 ((Jb nm bt free all n) x.kids[k]).kind, .string ((Jb nm bt free all n) x.kids[k]).name, .bool ((Jb nm bt free all n) x.kids[k]).minus, z3, z4, z5, z6] 35 (by rfl) 35 _ _ (by rfl) (by rfl) HL5.out.symm (by rfl) (HBT4.out.blk HB5'.out HG5.out.1) rfl (by kernel_rfl) ?hone ?_
   case hone => obtain ⟨Z3, y3, Z4, y4, Z5, y5, Z6, y6, rfl, rfl, rfl, rfl, -⟩ := HI4.out.form; exact Xg _ _ _ _ _ _ _ _ _
   intro w5 hb5 hg5 hs5
   obtain ⟨G', hG', hGs⟩ := HI4.out.ex
   have HI5 := Wd (HCL5.out ((Jb nm bt free all n) x.kids[k]) _ G' w4 w5 hG'.own hG'.nd hGs HBT4.out hg5 hb5)
   have BP5 := Wd ((HBT4.out.blk BP.out (fun h => (HG5.out.2.2 _ h).elim (fun h => by have := HLT.out _ h; omega) (fun h => by omega))).grownO hg5 (fun e => HI.out.far HG5.out.2.1 (Nat.le_refl _) (by omega) (by injection e)))
   have BR5 := Wd ((HBT4.out.blk BR.out (fun h => (HG5.out.2.2 _ h).elim (fun h => by have := HLT.out _ h; omega) (fun h => by omega))).grownO hg5 (fun e => HI.out.far HG5.out.2.1 (Nat.le_succ _) (by omega) (by injection e)))
   refine hK.out _ _ (fun h => absurd (by decide) h) ?_
   clear hK K hb5 hg5 hs5 p5 g0 g1 g2 g3 g4' g5' g6 hG' hGs
   refine Run.nil ?_
   go_wp2
   go_roundw
   case rel => exact ⟨k + 1, by omega, by go_num, Wd (by have h := HI5.out; (try simp only at h); rw [Ki HML.out hlk (by simp)] at h; exact h), BP5, BR5⟩
   case measure => simp [intOf]; omega
  ·have hkk : k = x.kids.length := by omega
   have hin := HI.out
   rw [hkk, Xj HML.out] at hin
   have HIN := Wd hin
   clear hkk hin HI p5
   have ⟨p0, p1, p2, p3, p4, p5, p6⟩ := Cz BP.out
   go_wp2_with (refine Wv (w.heap.size + 1) [.int .i64 x.kind, .string x.name, .bool x.minus, .slice A3 x.limbs.length c3, .slice A4 x.names.length c4, .slice A5 x.kids.length c5, .slice A6 x.alts.length c6] BR.out ?_)
   intro w9 hblk9 hg9 hsz9
   have ⟨kk0, kk1, kk2, kk3, kk4, kk5, kk6⟩ := Cz hblk9
   have HI9 := Wd (HIN.out.grown (Nat.le_succ _) (by omega) hg9)
   clear hblk9 hg9
   go_wp2
   refine bodyPost_ret (v := .agg #[.int .i64 x.kind, .string x.name, .bool x.minus, .slice A3 x.limbs.length c3, .slice A4 x.names.length c4, .slice A5 x.kids.length c5, .slice A6 x.alts.length c6]) (by simp [results, Tryz.results49, go_sem, kk0, kk1, kk2, kk3, kk4, kk5, kk6]) rfl ?_
   rw [HST.out]
   exact f71
theorem qra {S : World} {bs : Nat} {nm : ByteArray} {bt : CoreT} {free all : List ByteArray} {B3 : Option Addr} {b3 : Nat} {B4 : Option Addr} {b4 : Nat} {B5 : Option Addr} {b5 : Nat} {B6 : Option Addr} {b6 : Nat} {Af : Option Addr} {cf : Nat} {Aa : Option Addr} {ca : Nat} (hS : Sb S bs nm bt free all B3 b3 B4 b4 B5 b5 B6 b6 Af cf Aa ca) (henv : Env free all bt) (n : Nat) (ihc : qoa S bs nm bt free all n) (x : CoreT) (hp : Pre nm bt x) (hk : x.kind = 8) (hd : dep x ≤ n + 1) (w : World) (v3 v4 v5 v6 : Value) (F : List Nat) (hO : Own7 w x v3 v4 v5 v6 F) (hB : Below S.heap.size S w) (hF : ∀ i ∈ F, S.heap.size ≤ i) :
  Calls Tryz.prog 49 #[.pointer (some ⟨bs, 0, none⟩), .agg #[.int .i64 x.kind, .string x.name, .bool x.minus, v3, v4, v5, v6]] w (Ut (Jb nm bt free all (n + 1) x) F w) := by
 have hlt := hO.lt
 obtain ⟨A3, c3, A4, c4, A5, c5, A6, c6, rfl, rfl, rfl, rfl, -, -, -⟩ := hO.form
 have ⟨HS, HE, HP, HFS, HB, HO⟩ := Wx hS henv hp hF hB hO
 obtain ⟨W1, hW1, hp1, hB1, hs1⟩ := Wy w x A3 c3 A4 c4 A5 c5 A6 c6 35
 obtain ⟨W2, hW2, hp2, hB2, hs2⟩ := Wh W1 35
 have HB2 := Wd (Below.step hB1 hB2)
 have BP := Wd (hp1.below hB2)
 have BR := Wd (show Blk W2 (w.heap.size + 1) _ _ from by have h := hp2; rw [hs1] at h; exact h)
 have HI0 := Wd (show Inv (w.heap.size + 2) F w x (.slice A3 x.limbs.length c3) (.slice A4 x.names.length c4) (.slice A5 x.kids.length c5) (.slice A6 x.alts.length c6) W2 from
  ⟨⟨F, hO.move (fun k hk => HB2.out.block k (hlt k hk)), fun i hi => .inl hi⟩, But.of_below HB2.out, hlt, by omega⟩)
 have HLT := Wd hlt
 have HBS := Wd (hB.trans (HB2.out.mono hB.size))
 obtain ⟨-, -, hbk3, -, -⟩ := Qz hp.fit.bulk
 clear hS henv hp hF hB hO hlt hp1 hp2 hB1 hB2 hs1 hs2
 have e1 : (x.kind == 1) = false := beq_eq_false_iff_ne.2 (by omega)
 have e6 : (x.kind == 6) = false := beq_eq_false_iff_ne.2 (by omega)
 have e7 : (x.kind == 7) = false := beq_eq_false_iff_ne.2 (by omega)
 have e8 : (x.kind == 8) = true := beq_iff_eq.2 hk
 have ⟨HK, HD, IH⟩ := Wq hk hd ihc
 clear hk hd ihc
 subst hW2; subst hW1
 have ⟨p0, p1, p2, p3, p4, p5, p6⟩ := Cz BP.out
 go_enter Tryz.func49, Tryz.ntmps49
 go_wp2_with fail
 clear p0 p1 p2 p3 p4 p5 p6 e1 e6 e7 e8
 obtain ⟨W2, hW2'⟩ : ∃ W2, W2 = (w.alloc (.cells #[.int .i64 x.kind, .string x.name, .bool x.minus, .slice A3 x.limbs.length c3, .slice A4 x.names.length c4, .slice A5 x.kids.length c5, .slice A6 x.alts.length c6] 35)).alloc (.cells #[.int .i64 0, .string ⟨#[]⟩, .bool false, .slice none 0 0, .slice none 0 0, .slice none 0 0, .slice none 0 0] 35) := ⟨_, rfl⟩
 rw [← hW2'] at HB2 BP BR HI0 HBS ⊢
 clear hW2'
 refine (IH.out x HK.out HP.out HD.out W2 (.slice A3 x.limbs.length c3) (.slice A4 x.names.length c4) (.slice A5 x.kids.length c5) (.slice A6 x.alts.length c6) F (HO.out.move (fun k hk => HB2.out.block k (HLT.out k hk))) HBS.out HFS.out).mono ?_
 obtain ⟨y, hy⟩ : ∃ y, y = Jb nm bt free all (n + 1) x := ⟨_, rfl⟩
 rw [← hy]
 rintro e w4 ⟨v3, v4, v5, v6, rfl, hI4⟩
 obtain ⟨D3, d3, D4, d4, D5, d5, D6, d6, rfl, rfl, rfl, rfl, -, -, -⟩ := hI4.form
 have hbt := hI4.but
 have HI4 := Wd (Inv.back HB2.out HLT.out hI4 (show w.heap.size + 2 ≤ W2.heap.size from HI0.out.ls))
 have BR4 := Wd (hbt.blk BR.out (fun h => by have := HLT.out _ h; omega))
 have HY := Wd hy
 clear hI4 hbt hy HI0
 go_wp2_with (refine Wv (w.heap.size + 1) [.int .i64 y.kind, .string y.name, .bool y.minus, .slice D3 y.limbs.length d3, .slice D4 y.names.length d4, .slice D5 y.kids.length d5, .slice D6 y.alts.length d6] BR4.out ?_)
 intro w9 hblk9 hg9 hsz9
 have ⟨kk0, kk1, kk2, kk3, kk4, kk5, kk6⟩ := Cz hblk9
 have HI9 := Wd (HI4.out.grown (Nat.le_succ _) (by omega) hg9)
 clear hblk9 hg9
 go_wp2
 refine bodyPost_ret (v := .agg #[.int .i64 y.kind, .string y.name, .bool y.minus, .slice D3 y.limbs.length d3, .slice D4 y.names.length d4, .slice D5 y.kids.length d5, .slice D6 y.alts.length d6]) (by simp [results, Tryz.results49, go_sem, kk0, kk1, kk2, kk3, kk4, kk5, kk6]) rfl ?_
 rw [← HY.out]
 exact f71
theorem qqz {S : World} {bs : Nat} {nm : ByteArray} {bt : CoreT} {free all : List ByteArray} {B3 : Option Addr} {b3 : Nat} {B4 : Option Addr} {b4 : Nat} {B5 : Option Addr} {b5 : Nat} {B6 : Option Addr} {b6 : Nat} {Af : Option Addr} {cf : Nat} {Aa : Option Addr} {ca : Nat} (hS : Sb S bs nm bt free all B3 b3 B4 b4 B5 b5 B6 b6 Af cf Aa ca) (henv : Env free all bt) (n : Nat) (ih : qce S bs nm bt free all n) (x : CoreT) (hp : Pre nm bt x) (hk : x.kind = 6 ∨ x.kind = 7) (hh : Vg nm x = true) (hd : dep x ≤ n + 1) (hfl : free.length ≤ 1000000000) (w : World) (v3 v4 v5 v6 : Value) (F : List Nat) (hO : Own7 w x v3 v4 v5 v6 F) (hB : Below S.heap.size S w) (hF : ∀ i ∈ F, S.heap.size ≤ i) :
  Calls Tryz.prog 49 #[.pointer (some ⟨bs, 0, none⟩), .agg #[.int .i64 x.kind, .string x.name, .bool x.minus, v3, v4, v5, v6]] w (Ut (Jb nm bt free all (n + 1) x) F w) := by
 have hlt := hO.lt
 obtain ⟨A3, c3, A4, c4, A5, c5, A6, c6, rfl, rfl, rfl, rfl, -, -, -⟩ := hO.form
 have ⟨HS, HE, HP, HFS, HB, HO⟩ := Wx hS henv hp hF hB hO
 obtain ⟨W1, hW1, hp1, hB1, hs1⟩ := Wy w x A3 c3 A4 c4 A5 c5 A6 c6 35
 obtain ⟨W2, hW2, hp2, hB2, hs2⟩ := Wh W1 35
 have HB2 := Wd (Below.step hB1 hB2)
 have BP := Wd (hp1.below hB2)
 have BR := Wd (show Blk W2 (w.heap.size + 1) _ _ from by have h := hp2; rw [hs1] at h; exact h)
 have HI0 := Wd (show Inv (w.heap.size + 2) F w x (.slice A3 x.limbs.length c3) (.slice A4 x.names.length c4) (.slice A5 x.kids.length c5) (.slice A6 x.alts.length c6) W2 from
  ⟨⟨F, hO.move (fun k hk => HB2.out.block k (hlt k hk)), fun i hi => .inl hi⟩, But.of_below HB2.out, hlt, by omega⟩)
 have HLT := Wd hlt
 have HBS := Wd (hB.trans (HB2.out.mono hB.size))
 obtain ⟨-, -, hbk3, -, -⟩ := Qz hp.fit.bulk
 clear hS henv hp hF hB hO hlt hp1 hp2 hB1 hB2 hs1 hs2
 have e1 : (x.kind == 1) = false := beq_eq_false_iff_ne.2 (by omega)
 have HH := Wd hh; have HK67 := Wd hk
 have ⟨HFL, HD, IH⟩ := Wq hfl hd ih
 clear hh hfl hd ih
 subst hW2; subst hW1
 have ⟨p0, p1, p2, p3, p4, p5, p6⟩ := Cz BP.out
 rcases hk with hk | hk
 case' inl => have e6 : (x.kind == 6) = true := beq_iff_eq.2 hk
 case' inr => have e6 : (x.kind == 6) = false := beq_eq_false_iff_ne.2 (by omega); have e7 : (x.kind == 7) = true := beq_iff_eq.2 hk
 all_goals
  clear hk
  go_enter Tryz.func49, Tryz.ntmps49
  go_wp2_with fail
  clear p0 p1 p2 p3 p4 p5 p6 e1 e6
  try clear e7
  obtain ⟨W2, hW2'⟩ : ∃ W2, W2 = (w.alloc (.cells #[.int .i64 x.kind, .string x.name, .bool x.minus, .slice A3 x.limbs.length c3, .slice A4 x.names.length c4, .slice A5 x.kids.length c5, .slice A6 x.alts.length c6] 35)).alloc (.cells #[.int .i64 0, .string ⟨#[]⟩, .bool false, .slice none 0 0, .slice none 0 0, .slice none 0 0, .slice none 0 0] 35) := ⟨_, rfl⟩
  rw [← hW2'] at HB2 BP BR HI0 HBS ⊢
  clear hW2'
  have s0 := (HS.out.blk.below HBS.out).cell (j := 0) rfl
  have ⟨p0, p1, p2, p3, p4, p5, p6⟩ := Cz BP.out
  refine Qe [(true, 0), (true, 1), (true, 2), (true, 3), (true, 4), (false, 5), (true, 6)] [] (fun W' => Below W2.heap.size W2 W') (by kernel_rfl) (by kernel_rfl) (fun _ _ d _ _ h => by cases d <;> exact h) ⟨rfl, rfl, rfl, Nat.le_refl _, fun _ _ => rfl⟩ ?_
  iterate 5
   refine Tb 26 (y := fun w' hSw => by
    have ⟨t0, t1, t2, t3, t4, t5, t6⟩ := Cb7 hSw s0 p0 p1 p2 p3 p4 p5; have t7 := Cb hSw p6
    go_simp
    try with_reducible rfl) (h := ?_)
  refine Run.step (some 31) (by rfl) (by rfl) ?_
  intro K hK
  go_simp
  refine (qgc nm x HP.out.fit.bulk W2.drew _ (Kd.K_drew' HI0.out.K)).mono ?_
  rintro e w3 ⟨rfl, hb3⟩
  have HB3 := Wd (Qj hb3)
  rw [HH.out]
  refine hK.out _ _ (fun _ => HB3.out) ?_
  clear hK K hb3
  try simp only [Act.put, heap_drew, Nat.reduceAdd, Jla, Jlb, Jlc]
  refine Tk (some 32) (y := fun w' hSw => by
   go_simp
   try with_reducible rfl) (h := ?_)
  refine Run.nil ?_
  have HI3 := Wd (HI0.out.on HB3.out)
  have BP3 := Wd (BP.out.below HB3.out); have BR3 := Wd (BR.out.below HB3.out)
  have HBS3 := Wd (HBS.out.trans (HB3.out.mono HBS.out.size))
  clear s0 p0 p1 p2 p3 p4 p5 p6 HI0 BP BR
  have hcl := HP.out.clear HE.out HK67.out (qmu HK67.out HH.out)
  obtain ⟨y, hy⟩ : ∃ y, y = Hu nm free all x := ⟨_, rfl⟩
  have HST := Wd (show Jb nm bt free all (n + 1) x = { y with kids := y.kids.map (Jb nm bt free all n) } from by rw [Jb, if_neg (by have := HK67.out; omega), if_pos HK67.out, if_pos HH.out, hy])
  rw [← hy] at hcl
  have HPK := Wd hcl.2.2.1
  have HDK := Wd (show ∀ c ∈ y.kids, dep c ≤ n from fun c hc => by have := Yz hc; have h1 := hcl.2.1.d; rw [Yi y] at h1; have := HD.out; omega)
  have hbk4 := (Qz hcl.1.fit.bulk).2.2.1
  clear hcl
  have ⟨p0, p1, p2, p3, p4, p5, p6⟩ := Cz BP3.out
  go_wp2_with fail
  refine (qlb HS.out HE.out HFL.out x HP.out.fit (by have := HK67.out; omega) (qmu HK67.out HH.out) w3 (.slice A3 x.limbs.length c3) (.slice A4 x.names.length c4) (.slice A5 x.kids.length c5) (.slice A6 x.alts.length c6) F (HO.out.move (fun k hk => (HB2.out.trans (HB3.out.mono HB2.out.size)).block k (HLT.out k hk))) HBS3.out HFS.out).mono ?_
  rw [← hy]
  rintro e w4 ⟨v3, v4, v5, v6, rfl, hI4⟩
  obtain ⟨D3, d3, D4, d4, D5, d5, D6, d6, rfl, rfl, rfl, rfl, -, -, -⟩ := hI4.form
  have hbt := hI4.but
  have HI4 := Wd (Inv.back (HB2.out.trans (HB3.out.mono HB2.out.size)) HLT.out hI4 (show w.heap.size + 2 ≤ w3.heap.size from Nat.le_trans HI3.out.ls (Nat.le_refl _)))
  have BP4 := Wd (hbt.blk BP3.out (fun h => by have := HLT.out _ h; omega)); have BR4 := Wd (hbt.blk BR3.out (fun h => by have := HLT.out _ h; omega))
  clear hI4 hbt hy p0 p1 p2 p3 p4 p5 p6 HI3 BP3 BR3
  go_wp2_with (refine Wv w.heap.size [.int .i64 y.kind, .string y.name, .bool y.minus, .slice D3 y.limbs.length d3, .slice D4 y.names.length d4, .slice D5 y.kids.length d5, .slice D6 y.alts.length d6] BP4.out ?_)
  intro w5 hb5 hg5 hs5
  have HI5 := Wd (HI4.out.grown (Nat.le_refl _) (by omega) hg5)
  have BP5 := Wd (show Blk w5 w.heap.size 35 [.int .i64 y.kind, .string y.name, .bool y.minus, .slice D3 y.limbs.length d3, .slice D4 y.names.length d4, .slice D5 y.kids.length d5, .slice D6 y.alts.length d6] from by simpa using hb5); have BR5 := Wd (BR4.out.grownO hg5 (by simp))
  clear hb5 hg5 hs5 HI4 BP4 BR4
  go_wp2_with fail
  have HML := Wd (show (y.kids.map (Jb nm bt free all n)).length = y.kids.length by simp)
  go_loopw [5] (fun s5 wr => ∃ k : Nat, k ≤ y.kids.length ∧ s5 = .int .i64 k ∧ Hid (Inv (w.heap.size + 2) F w { y with kids := mix (y.kids.map (Jb nm bt free all n)) y.kids k } (.slice D3 y.limbs.length d3) (.slice D4 y.names.length d4) (.slice D5 y.kids.length d5) (.slice D6 y.alts.length d6) wr) ∧ Hid (Blk wr w.heap.size 35 [.int .i64 y.kind, .string y.name, .bool y.minus, .slice D3 y.limbs.length d3, .slice D4 y.names.length d4, .slice D5 y.kids.length d5, .slice D6 y.alts.length d6]) ∧ Hid (Blk wr (w.heap.size + 1) 35 [.int .i64 0, .string ⟨#[]⟩, .bool false, .slice none 0 0, .slice none 0 0, .slice none 0 0, .slice none 0 0])) (fun s5 _ => y.kids.length - (intOf s5).toNat)
  case atStart => exact ⟨0, Nat.zero_le _, rfl, Wd (by rw [Jc, Kv]; exact HI5.out), BP5, BR5⟩
  clear HI5 BP5 BR5
  case round =>
   obtain ⟨k, hk, rfl, HI, BP, BR⟩ := hrel
   have p5 := BP.out.cell (j := 5) rfl
   by_cases hlk : k < y.kids.length
   ·obtain ⟨g5, cap5, e1, cx, post, hv5, hcap5, hl5, hb5, Gx, hox, hnx, hsx, hgx, hg5F, hltx, hcl5⟩ := HI.out.kid (by omega) (k := k) (by simp only; rw [Zg HML.out]; exact hlk)
    simp only [Zg HML.out] at hv5 hcap5
    simp only [Value.slice.injEq, true_and] at hv5
    obtain ⟨rfl, rfl⟩ := hv5
    simp only [Xf HML.out hlk] at hox
    obtain ⟨u3, u4, u5, u6, rfl, hO7⟩ := Own7.of hox hnx
    have HO7 := Wd hO7
    obtain ⟨g0, g1, g2, g3, g4', g5', g6⟩ := Blk.seven (show Blk wr g5 _ (e1 ++ ([_, _, _, _, _, _, _] ++ post)) from hb5) hl5
    have HB5' := Wd hb5; have ⟨HCL5, HG5, HL5⟩ := Wq hcl5 (show g5 ∉ Gx ∧ (g5 ∈ F ∨ w.heap.size + 2 ≤ g5) ∧ (∀ i ∈ Gx, i ∈ F ∨ w.heap.size + 2 ≤ i) from ⟨hgx, hg5F, hsx⟩) hl5
    clear hb5 hcl5 hgx hg5F hl5 hox hnx hsx hltx hO7
    have qk2 : (0 : Int) ≤ (k : Int) := by omega
    have qk3 : (k : Int) < y.kids.length := by omega
    have HBw := Wd (HI.out.below HB.out HFS.out)
    go_wp2_with fail
    refine Qe [(true, 0), (true, 1), (true, 2), (true, 3), (true, 4), (true, 5), (true, 6), (true, 7), (true, 8), (false, 9), (true, 10), (false, 11)] [11] (fun W' => W'.heap[w.heap.size]? = wr.heap[w.heap.size]? ∧ W'.heap[g5]? = wr.heap[g5]?) (by kernel_rfl) (by kernel_rfl) (fun _ _ d _ _ h => by cases d <;> exact h) ⟨rfl, rfl⟩ ?_
    iterate 9
     refine Tb 49 (y := fun w' hSw => by
      have t5 := Qp hSw.1 p5; have u0 := Qp hSw.2 g0; have u1 := Qp hSw.2 g1; have u2 := Qp hSw.2 g2; have u3 := Qp hSw.2 g3; have u4 := Qp hSw.2 g4'; have u5 := Qp hSw.2 g5'; have u6 := Qp hSw.2 g6
      go_simp
      try with_reducible rfl) (h := ?_)
    refine Run.step (some 58) (by rfl) (by rfl) ?_
    intro K hK
    go_simp
    refine (IH.out _ (HPK.out _ (List.getElem_mem hlk)) (HDK.out _ (List.getElem_mem hlk)) wr.drew u3 u4 u5 u6 Gx (HO7.out.move (fun _ _ => rfl)) (show Below S.heap.size S wr.drew from ⟨HBw.out.os, HBw.out.tape, HBw.out.output, HBw.out.size, HBw.out.block⟩) (fun i hi => (HG5.out.2.2 i hi).elim (HFS.out i) (fun h => by have := HB.out.size; omega))).mono ?_
    rintro e w4 ⟨z3, z4, z5, z6, rfl, hI4⟩
    have HI4 := Wd hI4
    have HBT4 := Wd (show But Gx wr w4 from ⟨hI4.but.os, hI4.but.tape, hI4.but.output, hI4.but.size, hI4.but.block⟩)
    clear hI4
    refine hK.out _ _ (fun _ => ⟨HBT4.out.block _ BP.out.lt (fun h => (HG5.out.2.2 _ h).elim (fun h => by have := HLT.out _ h; omega) (fun h => by omega)), HBT4.out.block _ HB5'.out.lt HG5.out.1⟩) ?_
    clear hK K
    try simp only [Act.put, heap_drew, Nat.reduceAdd, Jla, Jlb, Jlc]
    refine Tk (some 59) (y := fun w' hSw => by
     go_simp
     try with_reducible rfl) (h := ?_)
    refine Run.step none (by rfl) (by rfl) ?_
    intro K hK
    refine Qw g5 (k * 7) _ [.int .i64 y.kids[k].kind, .string y.kids[k].name, .bool y.kids[k].minus, u3, u4, u5, u6] post [.int .i64 ((Jb nm bt free all n) y.kids[k]).kind, .string ((Jb nm bt free all n) y.kids[k]).name, .bool ((Jb nm bt free all n) y.kids[k]).minus, z3, z4, z5, z6] 35 (by rfl) 35 _ _ (by rfl) (by rfl) HL5.out.symm (by rfl) (HBT4.out.blk HB5'.out HG5.out.1) rfl (by kernel_rfl) ?hone ?_
    case hone => obtain ⟨Z3, y3, Z4, y4, Z5, y5, Z6, y6, rfl, rfl, rfl, rfl, -⟩ := HI4.out.form; exact Xg _ _ _ _ _ _ _ _ _
    intro w5 hb5 hg5 hs5
    obtain ⟨G', hG', hGs⟩ := HI4.out.ex
    have HI5 := Wd (HCL5.out ((Jb nm bt free all n) y.kids[k]) _ G' w4 w5 hG'.own hG'.nd hGs HBT4.out hg5 hb5)
    have BP5 := Wd ((HBT4.out.blk BP.out (fun h => (HG5.out.2.2 _ h).elim (fun h => by have := HLT.out _ h; omega) (fun h => by omega))).grownO hg5 (fun e => HI.out.far HG5.out.2.1 (Nat.le_refl _) (by omega) (by injection e)))
    have BR5 := Wd ((HBT4.out.blk BR.out (fun h => (HG5.out.2.2 _ h).elim (fun h => by have := HLT.out _ h; omega) (fun h => by omega))).grownO hg5 (fun e => HI.out.far HG5.out.2.1 (Nat.le_succ _) (by omega) (by injection e)))
    refine hK.out _ _ (fun h => absurd (by decide) h) ?_
    clear hK K hb5 hg5 hs5 p5 g0 g1 g2 g3 g4' g5' g6 hG' hGs
    refine Run.nil ?_
    go_wp2
    go_roundw
    case rel => exact ⟨k + 1, by omega, by go_num, Wd (by have h := HI5.out; (try simp only at h); rw [Ki HML.out hlk (by simp)] at h; exact h), BP5, BR5⟩
    case measure => simp [intOf]; omega
   ·have hkk : k = y.kids.length := by omega
    have hin := HI.out
    rw [hkk, Xj HML.out] at hin
    have HIN := Wd hin
    clear hkk hin HI p5
    have ⟨p0, p1, p2, p3, p4, p5, p6⟩ := Cz BP.out
    go_wp2_with (refine Wv (w.heap.size + 1) [.int .i64 y.kind, .string y.name, .bool y.minus, .slice D3 y.limbs.length d3, .slice D4 y.names.length d4, .slice D5 y.kids.length d5, .slice D6 y.alts.length d6] BR.out ?_)
    intro w9 hblk9 hg9 hsz9
    have ⟨kk0, kk1, kk2, kk3, kk4, kk5, kk6⟩ := Cz hblk9
    have HI9 := Wd (HIN.out.grown (Nat.le_succ _) (by omega) hg9)
    clear hblk9 hg9
    go_wp2
    refine bodyPost_ret (v := .agg #[.int .i64 y.kind, .string y.name, .bool y.minus, .slice D3 y.limbs.length d3, .slice D4 y.names.length d4, .slice D5 y.kids.length d5, .slice D6 y.alts.length d6]) (by simp [results, Tryz.results49, go_sem, kk0, kk1, kk2, kk3, kk4, kk5, kk6]) rfl ?_
    rw [HST.out]
    exact ⟨_, _, _, _, rfl, HI9.out.weaken (L' := w.heap.size) (by omega)⟩
end Go.Proofs.YtnoammmohdmnjaaGreat.C13
