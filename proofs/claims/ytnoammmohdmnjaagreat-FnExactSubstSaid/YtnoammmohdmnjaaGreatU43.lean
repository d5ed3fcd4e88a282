import Derived.Test.YtnoammmohdmnjaaGreatU42
set_option maxRecDepth 100000
set_option maxHeartbeats 16000000
set_option linter.unusedVariables false
set_option linter.unusedSimpArgs false
namespace Go.Proofs.YtnoammmohdmnjaaGreat.C13
open Go.RowKit Go.Proofs.YtnoammmohdmnjaaGreatW.PrintWords
open List renaming setIfInBounds_toArray → Jla, set_cons_zero → Jlb, set_cons_succ → Jlc
theorem InP.named {L g : Nat} {F0 : List Nat} {w0 wr w5 : World} {y : CoreT} {v3 v4 v5 v6 : Value} (h : InP L g F0 w0 y v3 v4 v5 v6 wr) (t : ByteArray) (hg : wr.grownBy w5 (some g)) : InP L g F0 w0 { y with name := t } v3 v4 v5 v6 w5 := by
 obtain ⟨F, hF, hs⟩ := h.ex
 have h1 := hF.move (fun i hi => hg.block i (hF.lt i hi) (fun e => h.far (hs i hi) (by injection e with e; exact e.symm)))
 refine h.step hs (F' := F) ⟨?_, h1.nd⟩ (fun i hi => .inl hi) (But.of_grown hg) (fun i hi => .inr (List.mem_singleton.1 hi))
 have h0 := h1.own
 exact f57
theorem qmn (nm : ByteArray) (all : List ByteArray) (a : AltT) (s : ByteArray) : Zt ((all ++ [nm]) ++ (a.names ++ Zc a.body)) s = qwv nm all a s := by
 unfold qwv
 rw [show Um a = a.names ++ Zc a.body from qak a]
 exact qae (fun t => by simp only [List.mem_append]; exact ⟨fun h => h.elim (fun h => h.elim .inl (fun h => .inr (.inr h))) (fun h => .inr (.inl h)), fun h => h.elim (fun h => .inl (.inl h)) (fun h => h.elim .inr (fun h => .inl (.inr h)))⟩) s
theorem f26 {p : Prop} (h : p := by
 intro w9 hb9 hg9 hs9
 have HI9 := Wd (show InP W1.heap.size g F W1 (z) (.slice A3 x.limbs.length c3) (.slice A4 x.names.length c4) (.slice (some ⟨g5, 0, none⟩) x.kids.length c5) (.slice A6 x.alts.length c6) w9 from by
  rw [HZE.out]
  exact HI7.out.named t hg9)
 have HH9 := Wd (show Blk w9 g e (pre ++ ([.int .i64 x.kind, .string z.name, .bool x.minus, .slice A3 x.limbs.length c3, .slice A4 x.names.length c4, .slice (some ⟨g5, 0, none⟩) x.kids.length c5, .slice A6 x.alts.length c6] ++ post)) from by rw [HZE.out]; simpa [List.append_assoc] using hb9)
 clear hb9 hg9 hs9 b0 p0 p1 p2 p3 p4 p5 p6
 go_wp2_with fail
 go_meet
 case rel => exact ⟨HI9, HH9⟩) : p := h
theorem f88 {p : Prop} (h : p := by
 rw [Jb, if_neg (by have := HK.out; omega), if_neg (by have := HK.out; omega), if_pos HK.out]
 simp only
 rw [if_neg HN.out, ← HY0.out, ← HY.out, ← HZ.out, HFA.out]) : p := h
theorem f92 {p : Prop} (h : p := by
 obtain ⟨B3, e3, B4, e4, B5, e5, B6, e6, rfl, rfl, rfl, rfl, -, -, hK⟩ := hO5.form
 exact ⟨B3, e3, B4, e4, B5, e5, B6, e6, hK, d2, d3, d4, d5, d6, d7, d8⟩) : p := h
theorem qqc {S : World} {D : List Nat} {pb : Nat} {nm : ByteArray} {bt : CoreT} {free all : List ByteArray} {bp : Addr} {fi : List ByteArray} {Af : Option Addr} {cf pm pn : Nat} (hS : Pl S D pb nm bt free all bp fi Af cf pm pn) (henv : Env free all bt) (n : Nat) (ih : qoe S D pb nm bt free all n) (x : CoreT) (hk8 : x.kind = 8) (hp : Pre nm bt x) (hd : dep x ≤ n + 1) (w : World) (g off : Nat) (e : TypeId) (pre post : List Value) (v3 v4 v5 v6 : Value) (F : List Nat) (hA : Gk S D x w g off e pre post v3 v4 v5 v6 F) :
  Calls Tryz.prog 83 #[.pointer (some ⟨pb, 0, none⟩), .pointer (some ⟨g, off, none⟩)] w (qbm (Jb nm bt free all (n + 1) x) g e pre post F w) := by
 obtain ⟨hoff, hb, hO, hg, hB, hF, hgs⟩ := hA
 have hlt := hO.lt; have hgl := hb.lt
 obtain ⟨A3, c3, A4, c4, A5, c5, A6, c6, rfl, rfl, rfl, rfl, -, -, -⟩ := hO.form
 have ⟨HS, HE, HP, HFS, HB, HGS⟩ := Wx hS henv hp hF hB hgs; have ⟨HOFF, HLT, HGL⟩ := Wq hoff hlt hgl
 obtain ⟨W1, hW1, hp1, hB1, hs1⟩ := boxed w [.pointer (some ⟨g, off, none⟩)] 53
 have HI0 := Wd (show InP W1.heap.size g F W1 x (.slice A3 x.limbs.length c3) (.slice A4 x.names.length c4) (.slice A5 x.kids.length c5) (.slice A6 x.alts.length c6) W1 from ⟨⟨F, hO.move (fun k hk => hB1.block k (hlt k hk)), fun i hi => .inl hi⟩, But.refl _ _, fun i hi => Nat.lt_of_lt_of_le (hlt i hi) hB1.size, Nat.le_refl _, ⟨hg, Nat.lt_of_lt_of_le hgl hB1.size⟩, Nat.le_refl _⟩)
 have ⟨HH0, BX, HB1⟩ := Wq (hb.below hB1) hp1 hB1
 have HO0 := Wd (show Own7 W1 x (.slice A3 x.limbs.length c3) (.slice A4 x.names.length c4) (.slice A5 x.kids.length c5) (.slice A6 x.alts.length c6) F from hO.move (fun k hk => hB1.block k (hlt k hk))); have HGF := Wd hg
 have HNX := Wd (show w.heap.size ∉ g :: F from fun hh => by rcases List.mem_cons.1 hh with hh | hh; (omega); (have := hlt _ hh; omega))
 have HBS := Wd (hB.trans (But.of_below hB1))
 have HW1 := Wd hW1
 obtain ⟨n1, n2, n3, n4, n5⟩ := Qz hp.fit.bulk
 clear hS henv hp hF hB hgs hO hb hg hlt hgl hp1 hB1 hs1 hW1 hoff
 have ⟨HK, HD, IH⟩ := Wq hk8 hd ih
 have hl12 := (Zz.1 HP.out.s).1.2.2 hk8
 have hkl0 : 0 < x.kids.length := by omega
 have HKL := Wd (show x.kids.length ≤ 2 by omega)
 have HPK := Wd (HP.out.first hk8)
 obtain ⟨s0x, hs0x⟩ : ∃ s0x, s0x = Jb nm bt free all n x.kids[0] := ⟨_, rfl⟩
 have HSX := Wd hs0x
 have HY0 := Wd (show x.kids.set 0 s0x = (x.kids.take 1).map (Jb nm bt free all n) ++ x.kids.drop 1 from by rw [hs0x]; exact qlr hkl0)
 clear hk8 hd ih hl12 hs0x
 obtain ⟨g5, cap5, c1, u3, u4, u5, u6, post5, Gx, hv5, -, hl5, hb5, hO5, hs5, hgx, hg5, hcl⟩ := HI0.out.kid (m := x.kids.length) (k := 0) (c := x.kids[0]) rfl rfl hkl0 (fun _ => rfl)
 simp only [Value.slice.injEq, true_and] at hv5
 obtain ⟨rfl, rfl⟩ := hv5
 have HA5 := Wd (show Gk S D x.kids[0] W1 g5 0 _ c1 post5 u3 u4 u5 u6 Gx from ⟨by omega, hb5, hO5, hgx, HBS.out, fun i hi => (hs5 i hi).elim (HFS.out i) (fun h => .inr (by have := HBS.out.size; omega)), hg5.elim (HFS.out g5) (fun h => .inr (by have := HBS.out.size; omega))⟩)
 have HCL := Wd hcl
 clear hl5 hb5 hO5 hs5 hgx hg5 hcl
 obtain ⟨p0, p1, p2, p3, p4, p5, p6⟩ := Blk.seven HH0.out HOFF.out
 have b0 := (BX.out).cell (j := 0) rfl; have s0 := (HS.out.blkW HBS.out).cell (j := 0) rfl; have s1 := (HS.out.blkW HBS.out).cell (j := 1) rfl; have s2 := (HS.out.blkW HBS.out).cell (j := 2) rfl
 have qk1 : (0 : Int) < (x.kids.length : Int) := by omega
 go_enter Tryz.func83, Tryz.ntmps83
 go_upto_region 1 with (fail)
 rw [← HW1.out]
 go_wp2_with fail
 refine (IH.out x.kids[0] (HPK.out _ (by rw [List.mem_take_iff_getElem]; exact ⟨0, by omega, rfl⟩)) (by have := Yz (List.getElem_mem hkl0); have := HD.out; rw [Yi] at this; omega) W1 g5 0 _ c1 post5 u3 u4 u5 u6 Gx HA5.out).mono ?_
 rw [← HSX.out]
 rintro en w4 ⟨rfl, z3, z4, z5, z6, F', hO', hb', hs', hbt⟩
 obtain ⟨hi4, hh4⟩ := HCL.out _ _ F' w4 hO'.own hO'.nd hs' hbt hb'
 obtain ⟨y0, hy0⟩ : ∃ y0 : CoreT, y0 = { x with kids := x.kids.set 0 s0x } := ⟨_, rfl⟩
 have HY := Wd hy0
 rw [← hy0] at hi4
 have HI := Wd hi4
 have HH := Wd (show Blk w4 g e (pre ++ ([.int .i64 x.kind, .string x.name, .bool x.minus, .slice A3 x.limbs.length c3, .slice A4 x.names.length c4, .slice (some ⟨g5, 0, none⟩) x.kids.length c5, .slice A6 x.alts.length c6] ++ post)) from hh4 _ _ HH0.out)
 clear hO' hb' hs' hbt hi4 hh4 HCL HA5 hy0 b0 s0 s1 s2 p0 p1 p2 p3 p4 p5 p6
 have HFY := Wd (show Fit y0 from by
  have h := (qdu (f := Jb nm bt free all n) HP.out (by have := HK.out; omega) (qaq HP.out HK.out) (fun c hc => qcz HE.out n c (HPK.out c hc))).fit HP.out
  rw [HY.out, HY0.out]; exact h)
 have HYN := Wd (show y0.name = x.name ∧ y0.alts = x.alts ∧ y0.kids.length = x.kids.length ∧ y0.kind = x.kind ∧ y0.kids.drop 1 = x.kids.drop 1 ∧ y0.minus = x.minus from by rw [HY.out]; simp [List.drop_set])
 have HBi := Wd (HI.out.below HBS.out HFS.out HGS.out)
 have b0 := (HI.out.but.blk BX.out HNX.out).cell (j := 0) rfl; obtain ⟨p0, p1, p2, p3, p4, p5, p6⟩ := Blk.seven HH.out HOFF.out
 have s0 := (HS.out.blkW HBi.out).cell (j := 0) rfl
 go_wp2_with fail
 by_cases hn : x.name = nm
 case pos =>
  have ⟨q1, q2⟩ := Kk hn
  have HN := Wd hn; clear hn
  refine Qe [(true, 0), (true, 1), (true, 2), (true, 3), (true, 4), (true, 5), (true, 6), (true, 7), (true, 8)] [] (fun W' => Below w4.heap.size w4 W') (by kernel_rfl) (by kernel_rfl) (fun _ _ d _ _ h => by cases d <;> exact h) ⟨rfl, rfl, rfl, Nat.le_refl _, fun _ _ => rfl⟩ ?_
  iterate 8
   refine Tb 19 (y := fun w' hSw => by
    exact f78) (h := ?_)
  refine Tb 19 (v := .bool true) (y := fun w' hSw => by
   exact f12) (h := ?_)
  refine Run.nil ?_
  clear q1 q2 b0 s0 p0 p1 p2 p3 p4 p5 p6
  go_wp2
  go_end0
  have hst : Jb nm bt free all (n + 1) x = y0 := by
   rw [Jb, if_neg (by have := HK.out; omega), if_neg (by have := HK.out; omega), if_pos HK.out]
   simp only
   rw [if_pos HN.out, ← HY0.out, HY.out]
  rw [hst]
  have hbd : Below w4.heap.size w4 w4.drew := ⟨rfl, rfl, rfl, Nat.le_refl _, fun _ _ => rfl⟩
  refine InP.post (HI.out.on hbd) ?_ HB1.out
  have h := HH.out.below hbd
  rw [show c7 y0 (.slice A3 x.limbs.length c3) (.slice A4 x.names.length c4) (.slice (some ⟨g5, 0, none⟩) x.kids.length c5) (.slice A6 x.alts.length c6) = c7 x (.slice A3 x.limbs.length c3) (.slice A4 x.names.length c4) (.slice (some ⟨g5, 0, none⟩) x.kids.length c5) (.slice A6 x.alts.length c6) from by simp only [c7, HYN.out.1, HYN.out.2.2.2.1, HYN.out.2.2.2.2.2]]
  exact h
 case neg =>
  have ⟨q1, q2⟩ := Xt hn
  have HN := Wd hn; clear hn
  refine Qe [(true, 0), (true, 1), (true, 2), (true, 3), (true, 4), (true, 5), (true, 6), (true, 7), (true, 8)] [] (fun W' => Below w4.heap.size w4 W') (by kernel_rfl) (by kernel_rfl) (fun _ _ d _ _ h => by cases d <;> exact h) ⟨rfl, rfl, rfl, Nat.le_refl _, fun _ _ => rfl⟩ ?_
  iterate 8
   refine Tb 19 (y := fun w' hSw => by
    exact f78) (h := ?_)
  refine Tb 19 (v := .bool false) (y := fun w' hSw => by
   exact f12) (h := ?_)
  refine Run.nil ?_
  clear q1 q2 b0 s0 p0 p1 p2 p3 p4 p5 p6
  have hbd : Below w4.heap.size w4 w4.drew := ⟨rfl, rfl, rfl, Nat.le_refl _, fun _ _ => rfl⟩
  have HI1 := Wd (HI.out.on hbd); have HH1 := Wd (HH.out.below hbd)
  obtain ⟨wd, hwd⟩ : ∃ wd, wd = w4.drew := ⟨_, rfl⟩
  rw [← hwd] at HI1 HH1 ⊢
  clear hwd hbd HI HH HBi
  have HBd := Wd (HI1.out.below HBS.out HFS.out HGS.out)
  have HATd := Wd (show At wd y0 ⟨g, off, none⟩ from HI1.out.at (e := e) (pre := pre) (post := post) (by have h := HH1.out; rw [show c7 y0 (.slice A3 x.limbs.length c3) (.slice A4 x.names.length c4) (.slice (some ⟨g5, 0, none⟩) x.kids.length c5) (.slice A6 x.alts.length c6) = c7 x (.slice A3 x.limbs.length c3) (.slice A4 x.names.length c4) (.slice (some ⟨g5, 0, none⟩) x.kids.length c5) (.slice A6 x.alts.length c6) from by simp only [c7, HYN.out.1, HYN.out.2.2.2.1, HYN.out.2.2.2.2.2]]; exact h) HOFF.out)
  obtain ⟨cnd, hcnd⟩ : ∃ cnd : Bool, cnd = decide (x.name ≠ ⟨#[]⟩ ∧ x.name ∈ free ∧ Yp nm y0 = true) := ⟨_, rfl⟩
  have HCND := Wd hcnd
  clear hcnd
  go_upto_region 3 with (fail)
  go_cut [51] from 12 (fun s51 wr => s51 = .bool cnd ∧ Hid (Below wd.heap.size wd wr))
  case first =>
   as_aux_lemma =>
    have b0 := (HI1.out.but.blk BX.out HNX.out).cell (j := 0) rfl; obtain ⟨p0, p1, p2, p3, p4, p5, p6⟩ := Blk.seven HH1.out HOFF.out
    have s0 := (HS.out.blkW HBd.out).cell (j := 0) rfl; have s2 := (HS.out.blkW HBd.out).cell (j := 2) rfl
    by_cases hne : x.name = ⟨#[]⟩
    ·have q1 : x.name.toList.isEmpty = true := by rw [hne, empty_toList]; rfl
     have q2 : x.name.toList = [] ↔ True := by rw [hne, empty_toList]; simp
     have HC := Wd (show cnd = false from by rw [HCND.out]; exact decide_eq_false (fun h => h.1 hne))
     clear hne
     refine Qe [(true, 0), (true, 1), (true, 2), (true, 3), (true, 4), (true, 5), (true, 6), (true, 7), (true, 8), (true, 9), (true, 10), (true, 11), (true, 12), (true, 13), (false, 14), (true, 15), (true, 16), (true, 17), (true, 18), (true, 19), (true, 20), (true, 21), (false, 22), (true, 23)] [] (fun W' => Below wd.heap.size wd W') (by kernel_rfl) (by kernel_rfl) (fun _ _ d _ _ h => by cases d <;> exact h) ⟨rfl, rfl, rfl, Nat.le_refl _, fun _ _ => rfl⟩ ?_
     iterate 4
      refine Tb 28 (y := fun w' hSw => by
       have t0 := Cb hSw b0; have t1 := Cb hSw p1
       go_simp
       try with_reducible rfl) (h := ?_)
     refine Tb 28 (v := .bool false) (y := fun w' hSw => by
      exact f12) (h := ?_)
     iterate 1
      refine Tb 28 (y := fun w' hSw => by
       go_simp
       try with_reducible rfl) (h := ?_)
     iterate 8
      refine Run.passB 28 (by rfl) (by rfl) (by rfl) ?_
      simp only [Act.put, heap_drew, Nat.reduceAdd, Jla, Jlb, Jlc]
     refine Run.step (some 42) (by rfl) (by rfl) ?_
     intro K hK
     go_simp
     refine hK.out _ _ (fun _ => ⟨rfl, rfl, rfl, Nat.le_refl _, fun _ _ => rfl⟩) ?_
     clear hK K
     try simp only [Act.put, heap_drew, Nat.reduceAdd, Jla, Jlb, Jlc]
     refine Tb 28 (v := .bool false) (y := fun w' hSw => by
      exact f12) (h := ?_)
     iterate 1
      refine Tb 28 (y := fun w' hSw => by
       go_simp
       try with_reducible rfl) (h := ?_)
     iterate 5
      refine Run.passB 28 (by rfl) (by rfl) (by rfl) ?_
      simp only [Act.put, heap_drew, Nat.reduceAdd, Jla, Jlb, Jlc]
     refine Run.step (some 50) (by rfl) (by rfl) ?_
     intro K hK
     go_simp
     refine hK.out _ _ (fun _ => ⟨rfl, rfl, rfl, Nat.le_refl _, fun _ _ => rfl⟩) ?_
     clear hK K
     try simp only [Act.put, heap_drew, Nat.reduceAdd, Jla, Jlb, Jlc]
     refine Tb 28 (v := .bool false) (y := fun w' hSw => by
      exact f12) (h := ?_)
     refine Run.nil ?_
     clear b0 s0 s2 p0 p1 p2 p3 p4 p5 p6 q1 q2
     exact f109
    ·have ⟨q1, q2⟩ := Vc hne
     have HNE := Wd hne
     clear hne
     refine Qe [(true, 0), (true, 1), (true, 2), (true, 3), (true, 4), (true, 5), (true, 6), (true, 7), (true, 8), (true, 9), (true, 10), (true, 11), (true, 12), (true, 13), (false, 14), (true, 15), (true, 16), (true, 17), (true, 18), (true, 19), (true, 20), (true, 21), (false, 22), (true, 23)] [] (fun W' => Below wd.heap.size wd W') (by kernel_rfl) (by kernel_rfl) (fun _ _ d _ _ h => by cases d <;> exact h) ⟨rfl, rfl, rfl, Nat.le_refl _, fun _ _ => rfl⟩ ?_
     iterate 4
      refine Tb 28 (y := fun w' hSw => by
       have t0 := Cb hSw b0; have t1 := Cb hSw p1
       go_simp
       try with_reducible rfl) (h := ?_)
     refine Tb 28 (v := .bool true) (y := fun w' hSw => by
      exact f12) (h := ?_)
     iterate 9
      refine Tb 28 (y := fun w' hSw => by
       have ⟨t0, t1, t2⟩ := Cb3 hSw b0 p1 s2
       go_simp
       try with_reducible rfl) (h := ?_)
     refine Run.step (some 42) (by rfl) (by rfl) ?_
     intro K hK
     go_simp
     refine (Ye fi x.name (by have := HS.out.fm; omega) Af cf wd.drew (HS.out.fcW (show But D S wd.drew from ⟨HBd.out.os, HBd.out.tape, HBd.out.output, HBd.out.size, HBd.out.block⟩)) HS.out.fl).mono ?_
     rintro en w6 ⟨rfl, hb6⟩
     rw [show decide (x.name ∈ fi) = decide (x.name ∈ free) from decide_eq_decide.2 (HS.out.fe x.name)]
     have HB6 := Wd (Qj hb6)
     refine hK.out _ _ (fun _ => HB6.out) ?_
     clear hK K hb6
     try simp only [Act.put, heap_drew, Nat.reduceAdd, Jla, Jlb, Jlc]
     by_cases hm : x.name ∈ free
     ·rw [decide_eq_true hm]
      have HM := Wd hm
      clear hm
      refine Tb 28 (v := .bool true) (y := fun w' hSw => by
       exact f12) (h := ?_)
      iterate 6
       refine Tb 28 (y := fun w' hSw => by
        have t0 := Cb hSw b0; have t1 := Cb hSw s0
        go_simp
        try with_reducible rfl) (h := ?_)
      refine Run.step (some 50) (by rfl) (by rfl) ?_
      intro K hK
      go_simp
      refine (quz y0 HFY.out.s HFY.out.bulk (by rw [HYN.out.2.2.1]; exact HKL.out) nm ⟨g, off, none⟩ w6 (HATd.out.below HB6.out)).mono ?_
      rintro en w7 ⟨rfl, hb7⟩
      have HB7 := Wd (HB6.out.trans (hb7.mono HB6.out.size))
      have HC := Wd (show cnd = Yp nm y0 from by rw [HCND.out]; by_cases h : Yp nm y0 = true <;> simp [h, HNE.out, HM.out])
      rw [← HC.out]
      refine hK.out _ _ (fun _ => HB7.out) ?_
      clear hK K hb7
      try simp only [Act.put, heap_drew, Nat.reduceAdd, Jla, Jlb, Jlc]
      refine Tk (some 51) (y := fun w' hSw => by
       go_simp
       try with_reducible rfl) (h := ?_)
      refine Run.nil ?_
      clear b0 s0 s2 p0 p1 p2 p3 p4 p5 p6 q1 q2
      go_wp2_with fail
      go_meet
      case rel => exact ⟨rfl, HB7⟩
     ·rw [decide_eq_false hm]
      have HC := Wd (show cnd = false from by rw [HCND.out]; exact decide_eq_false (fun h => hm h.2.1))
      clear hm
      refine Tb 28 (v := .bool false) (y := fun w' hSw => by
       exact f12) (h := ?_)
      iterate 1
       refine Tb 28 (y := fun w' hSw => by
        go_simp
        try with_reducible rfl) (h := ?_)
      iterate 5
       refine Run.passB 28 (by rfl) (by rfl) (by rfl) ?_
       simp only [Act.put, heap_drew, Nat.reduceAdd, Jla, Jlb, Jlc]
      refine Run.step (some 50) (by rfl) (by rfl) ?_
      intro K hK
      go_simp
      refine hK.out _ _ (fun _ => HB6.out) ?_
      clear hK K
      try simp only [Act.put, heap_drew, Nat.reduceAdd, Jla, Jlb, Jlc]
      refine Tb 28 (v := .bool false) (y := fun w' hSw => by
       exact f12) (h := ?_)
      refine Run.nil ?_
      clear b0 s0 s2 p0 p1 p2 p3 p4 p5 p6 q1 q2
      go_wp2_with fail
      go_meet
      case rel => exact ⟨by rw [HC.out], HB6⟩
  case rest =>
   obtain ⟨rfl, HBC⟩ := hcut
   have ⟨HIc, HHc, HATc⟩ := Wq (HI1.out.on HBC.out) (HH1.out.below HBC.out) (HATd.out.below HBC.out)
   clear HI1 HH1 HATd HBC HBd
   obtain ⟨z, hz⟩ : ∃ z, z = Yk nm free all y0 := ⟨_, rfl⟩
   have HZ := Wd hz
   clear hz
   go_upto_if 51 with (fail)
   go_cut [] from 12 (fun wr => Hid (InP W1.heap.size g F W1 (z) (.slice A3 x.limbs.length c3) (.slice A4 x.names.length c4) (.slice (some ⟨g5, 0, none⟩) x.kids.length c5) (.slice A6 x.alts.length c6) wr) ∧ Hid (Blk wr g e (pre ++ ([.int .i64 x.kind, .string z.name, .bool x.minus, .slice A3 x.limbs.length c3, .slice A4 x.names.length c4, .slice (some ⟨g5, 0, none⟩) x.kids.length c5, .slice A6 x.alts.length c6] ++ post))))
   case first =>
    as_aux_lemma =>
     cases hb : cnd
     ·have HZE := Wd (show z = y0 from by
       exact f105)
      clear hb
      go_wp2_with fail
      go_meet
      case rel => exact ⟨Wd (by rw [HZE.out]; exact HIc.out), Wd (by rw [HZE.out, HYN.out.1]; exact HHc.out)⟩
     ·have hcc := HCND.out
      rw [hb] at hcc
      have HCC := Wd (of_decide_eq_true hcc.symm)
      clear hb hcc
      have b0 := (HIc.out.but.blk BX.out HNX.out).cell (j := 0) rfl; obtain ⟨p0, p1, p2, p3, p4, p5, p6⟩ := Blk.seven HHc.out HOFF.out
      have HBc := Wd (HIc.out.below HBS.out HFS.out HGS.out)
      have HBX3 := Wd (HIc.out.but.blk BX.out HNX.out)
      go_wp2_with fail
      refine (qbx pb _ _ nm _ _ pm pn _ (all ++ [nm]) (Zc y0) (fun s => rfl) (by have h1 := HE.out.al; have h2 := Jp y0; have h3 := HFY.out.t; simp only [List.length_append, List.length_singleton]; omega) x.name (by have := HE.out.fr x.name HCC.out.2.1; omega) wc HS.out.pn (HS.out.blkW HBc.out) (HS.out.nsW HBc.out) (fun args w => rfl) (qpj HBX3.out HATc.out HFY.out.bulk)).mono ?_
      rintro en w5 ⟨rfl, hb5⟩
      obtain ⟨t, ht⟩ : ∃ t, t = Zt ((all ++ [nm]) ++ Zc y0) x.name := ⟨_, rfl⟩
      have HT := Wd (show t = qew nm all y0 x.name from by rw [ht]; exact qhr nm all y0 x.name)
      rw [← ht]
      have HML := Wd (show (y0.alts.map (fun a : AltT => if x.name ∈ a.names then a else { a with body := rn x.name t a.body })).length = y0.alts.length by simp)
      have hyl : y0.alts.length = x.alts.length := by rw [HYN.out.2.1]
      have HYL := Wd hyl
      have HI5 := Wd (show InP W1.heap.size g F W1 ({ y0 with alts := mix (y0.alts.map (fun a : AltT => if x.name ∈ a.names then a else { a with body := rn x.name t a.body })) y0.alts 0 }) (.slice A3 x.limbs.length c3) (.slice A4 x.names.length c4) (.slice (some ⟨g5, 0, none⟩) x.kids.length c5) (.slice A6 x.alts.length c6) w5 from by rw [Jc, Kv]; exact HIc.out.on hb5); have HH5 := Wd (HHc.out.below hb5)
      clear hb5 ht hyl b0 p0 p1 p2 p3 p4 p5 p6 HIc HHc HATc HBc HBX3
      have b0 := (HI5.out.but.blk BX.out HNX.out).cell (j := 0) rfl; obtain ⟨p0, p1, p2, p3, p4, p5, p6⟩ := Blk.seven HH5.out HOFF.out
      go_wp2_with fail
      clear b0 p0 p1 p2 p3 p4 p5 p6
      go_loopw [65] (fun s wr => ∃ k : Nat, k ≤ x.alts.length ∧ s = .int .i64 k ∧ Hid (InP W1.heap.size g F W1 ({ y0 with alts := mix (y0.alts.map (fun a : AltT => if x.name ∈ a.names then a else { a with body := rn x.name t a.body })) y0.alts k }) (.slice A3 x.limbs.length c3) (.slice A4 x.names.length c4) (.slice (some ⟨g5, 0, none⟩) x.kids.length c5) (.slice A6 x.alts.length c6) wr) ∧ Hid (Blk wr g e (pre ++ ([.int .i64 x.kind, .string x.name, .bool x.minus, .slice A3 x.limbs.length c3, .slice A4 x.names.length c4, .slice (some ⟨g5, 0, none⟩) x.kids.length c5, .slice A6 x.alts.length c6] ++ post)))) (fun s _ => x.alts.length - (intOf s).toNat)
      case atStart => exact ⟨0, Nat.zero_le _, rfl, HI5, HH5⟩
      clear HI5 HH5
      case round =>
       obtain ⟨k, hk, rfl, HI, HH⟩ := hrel
       have b0 := (HI.out.but.blk BX.out HNX.out).cell (j := 0) rfl; obtain ⟨p0, p1, p2, p3, p4, p5, p6⟩ := Blk.seven HH.out HOFF.out
       by_cases hlk : k < x.alts.length
       ·have hky : k < y0.alts.length := by rw [HYL.out]; exact hlk
        obtain ⟨a, ha⟩ : ∃ a, a = y0.alts[k] := ⟨_, rfl⟩
        have HAE := Wd ha
        have HFA := Wd (HFY.out.alt (show a ∈ y0.alts from by rw [ha]; exact List.getElem_mem hky))
        obtain ⟨g6, cap6, c1, A1, cc1, u3, u4, u5, u6, post6, Gx, hv6, -, hl6, hb6, hcc, hC1, hg6, hO5, -, hgx, hcl, -⟩ := HI.out.alt (m := x.alts.length) (a := a) rfl ((Zg HML.out _).trans HYL.out) hlk (fun h => by rw [ha]; exact Xf HML.out hky)
        simp only [Value.slice.injEq, true_and] at hv6
        obtain ⟨rfl, rfl⟩ := hv6
        obtain ⟨-, d1, -⟩ := Blk.nine hb6 hl6
        have ⟨HC1, HCC1, HO5, HB6, HCL, HL6, HGX⟩ := Wk hC1 hcc hO5 hb6 hcl hl6 hgx
        clear hC1 hcc hO5 hb6 hcl hl6 hgx hg6 ha
        have qk0 : (0 : Int) ≤ (k : Int) := by omega
        have qk1 : (k : Int) < x.alts.length := by omega
        go_wp2_with fail
        refine (Ye a.names x.name (by have := HFA.out.2.1; omega) A1 cc1 wr HC1.out HCC1.out).mono ?_
        rintro en w6 ⟨rfl, hb6'⟩
        have HB6' := Wd hb6'
        clear hb6' d1 b0 p0 p1 p2 p3 p4 p5 p6
        have HI6 := Wd (HI.out.on HB6'.out); have HH6 := Wd (HH.out.below HB6'.out)
        by_cases hm : x.name ∈ a.names
        ·rw [decide_eq_true hm]
         have HGK := Wd (show (y0.alts.map (fun a : AltT => if x.name ∈ a.names then a else { a with body := rn x.name t a.body }))[k]'(by rw [HML.out]; exact hky) = y0.alts[k] from by simp [← HAE.out, hm])
         clear hm
         go_wp2
         go_roundw
         case rel => exact ⟨k + 1, by omega, by go_num, Wd (by rw [← Vq HML.out hky HGK.out]; exact HI6.out), HH6⟩
         case measure => simp [intOf]; omega
        ·rw [decide_eq_false hm]
         have HGK := Wd (show { a with body := rn x.name t a.body } = (y0.alts.map (fun a : AltT => if x.name ∈ a.names then a else { a with body := rn x.name t a.body }))[k]'(by rw [HML.out]; exact hky) from by simp [← HAE.out, hm])
         clear hm
         have b0 := (HI6.out.but.blk BX.out HNX.out).cell (j := 0) rfl; obtain ⟨p0, p1, p2, p3, p4, p5, p6⟩ := Blk.seven HH6.out HOFF.out
         obtain ⟨g6', cap6', c1, A1, cc1, u3, u4, u5, u6, post6, Gx, hv6, -, hl6, hb6, -, -, -, hO5, -, hgx, hcl, -⟩ := HI6.out.alt (m := x.alts.length) (a := a) rfl ((Zg HML.out _).trans HYL.out) hlk (fun h => by rw [HAE.out]; exact Xf HML.out hky)
         simp only [Value.slice.injEq, true_and, Option.some.injEq, Addr.mk.injEq, and_true] at hv6
         obtain ⟨rfl, -⟩ := hv6
         have ⟨HO5, HB6, HCL, HL6, HGX⟩ := Wz hO5 hb6 hcl (show (c1 ++ [Value.string a.con, .slice A1 a.names.length cc1]).length = k * 9 + 2 by simp [hl6]) hgx
         clear hO5 hb6 hcl hl6 hgx
         go_wp2_with fail
         refine (qbf x.name t a.body HFA.out.1.s HFA.out.1.bulk w6 g6 (k * 9 + 2) _ _ _ post6 Gx HL6.out HB6.out HO5.out.own HO5.out.nd HGX.out).mono ?_
         rintro en w7 ⟨rfl, cx', ho', hb', hbt⟩
         obtain ⟨hi7, hh7⟩ := HCL.out _ cx' Gx w7 ho' HO5.out.nd (fun i hi => .inl hi) hbt hb'
         have HI7 := Wd hi7; have HH7 := Wd (hh7 _ _ HH6.out)
         clear ho' hb' hbt hi7 hh7 HCL HB6 HO5 b0 p0 p1 p2 p3 p4 p5 p6
         go_wp2
         go_roundw
         case rel => exact ⟨k + 1, by omega, by go_num, Wd (by have h := HI7.out; (try simp only at h); rw [Ki HML.out hky HGK.out] at h; exact h), HH7⟩
         case measure => simp [intOf]; omega
       ·have hkk : k = y0.alts.length := by rw [HYL.out]; omega
        have hin := HI.out
        rw [hkk, Xj HML.out] at hin
        have HIN := Wd hin
        have HZE := Wd (show z = { y0 with name := t, kids := y0.kids.take 1 ++ (y0.kids.drop 1).map (rn x.name t), alts := y0.alts.map (fun a : AltT => if x.name ∈ a.names then a else { a with body := rn x.name t a.body }) } from by
         rw [HZ.out, Yk, if_pos (by rw [HYN.out.1]; exact HCC.out), HT.out, ← HYN.out.1]; rfl)
        clear hkk hin HI
        by_cases hk2 : x.kids.length = 2
        ·have hke : ((x.kids.length : Int) == 2) = true := beq_iff_eq.2 (by omega)
         have hk21 : 1 < x.kids.length := by omega
         clear hk2
         have hky1 : 1 < y0.kids.length := by rw [HYN.out.2.2.1]; omega
         obtain ⟨c, hc⟩ : ∃ c, c = y0.kids[1] := ⟨_, rfl⟩
         have HC := Wd hc
         have HFC := Wd (HFY.out.kid (show c ∈ y0.kids from by rw [hc]; exact List.getElem_mem hky1))
         obtain ⟨g5', cap5', c1, u3, u4, u5, u6, post5, Gx, hv5, -, hl5, hb5, hO5, -, hgx, -, hcl⟩ := HIN.out.kid (m := x.kids.length) (k := 1) (c := c) rfl HYN.out.2.2.1 (by omega) (fun h => by rw [hc])
         simp only [Value.slice.injEq, Option.some.injEq, Addr.mk.injEq, and_true, true_and] at hv5
         obtain ⟨rfl, rfl⟩ := hv5
         have ⟨HCL, HB5, HO5, HL5, HGX⟩ := Wz hcl hb5 hO5 (show c1.length = 7 by omega) hgx
         clear hcl hb5 hO5 hl5 hgx hc
         have hk3 : (1 : Int) < (x.kids.length : Int) := by omega
         go_wp2_with fail
         refine (qbf x.name t c HFC.out.s HFC.out.bulk wr g5 7 _ c1 _ post5 Gx HL5.out HB5.out HO5.out.own HO5.out.nd HGX.out).mono ?_
         rintro en w7 ⟨rfl, cx', ho', hb', hbt⟩
         obtain ⟨hi7, hh7⟩ := HCL.out _ cx' Gx w7 ho' HO5.out.nd (fun i hi => .inl hi) hbt hb'
         have HI7 := Wd (show InP W1.heap.size g F W1 ({ y0 with kids := y0.kids.take 1 ++ (y0.kids.drop 1).map (rn x.name t), alts := y0.alts.map (fun a : AltT => if x.name ∈ a.names then a else { a with body := rn x.name t a.body }) }) (.slice A3 x.limbs.length c3) (.slice A4 x.names.length c4) (.slice (some ⟨g5, 0, none⟩) x.kids.length c5) (.slice A6 x.alts.length c6) w7 from by
          have h := hi7
          rw [← qbg hky1 (by rw [HYN.out.2.2.1]; exact HKL.out), ← HC.out]
          exact h)
         have HH7 := Wd (hh7 _ _ HH.out)
         clear ho' hb' hbt hi7 hh7 HCL HB5 HO5 b0 p0 p1 p2 p3 p4 p5 p6
         have b0 := (HI7.out.but.blk BX.out HNX.out).cell (j := 0) rfl; obtain ⟨p0, p1, p2, p3, p4, p5, p6⟩ := Blk.seven HH7.out HOFF.out
         go_wp2_with (refine Qc g (off + 1) (pre ++ [.int .i64 x.kind]) [.string x.name] ([.bool x.minus, .slice A3 x.limbs.length c3, .slice A4 x.names.length c4, .slice (some ⟨g5, 0, none⟩) x.kids.length c5, .slice A6 x.alts.length c6] ++ post) [.string t] e (by rfl) 9 _ _ (by rfl) (by rfl) (by rw [List.length_append, HOFF.out]; rfl) (by rfl) (by have h := HH7.out; simpa [List.append_assoc] using h) rfl (by kernel_rfl) (by intro v hv; rw [List.mem_singleton.1 hv]; rfl) ?_)
         exact f26
        ·have hke : ((x.kids.length : Int) == 2) = false := beq_eq_false_iff_ne.2 (by omega)
         have HK2 := Wd hk2
         clear hk2
         have HI7 := Wd (show InP W1.heap.size g F W1 ({ y0 with kids := y0.kids.take 1 ++ (y0.kids.drop 1).map (rn x.name t), alts := y0.alts.map (fun a : AltT => if x.name ∈ a.names then a else { a with body := rn x.name t a.body }) }) (.slice A3 x.limbs.length c3) (.slice A4 x.names.length c4) (.slice (some ⟨g5, 0, none⟩) x.kids.length c5) (.slice A6 x.alts.length c6) wr from by
          rw [List.drop_eq_nil_of_le (by rw [HYN.out.2.2.1]; have := HKL.out; have := HK2.out; omega), List.map_nil, List.append_nil, List.take_of_length_le (by rw [HYN.out.2.2.1]; have := HKL.out; have := HK2.out; omega)]
          exact HIN.out)
         clear b0 p0 p1 p2 p3 p4 p5 p6
         have b0 := (HI7.out.but.blk BX.out HNX.out).cell (j := 0) rfl; obtain ⟨p0, p1, p2, p3, p4, p5, p6⟩ := Blk.seven HH.out HOFF.out
         go_wp2_with (refine Qc g (off + 1) (pre ++ [.int .i64 x.kind]) [.string x.name] ([.bool x.minus, .slice A3 x.limbs.length c3, .slice A4 x.names.length c4, .slice (some ⟨g5, 0, none⟩) x.kids.length c5, .slice A6 x.alts.length c6] ++ post) [.string t] e (by rfl) 9 _ _ (by rfl) (by rfl) (by rw [List.length_append, HOFF.out]; rfl) (by rfl) (by have h := HH.out; simpa [List.append_assoc] using h) rfl (by kernel_rfl) (by intro v hv; rw [List.mem_singleton.1 hv]; rfl) ?_)
         exact f26
   case rest =>
    obtain ⟨HIz, HHz⟩ := hcut
    clear HIc HHc HATc HCND
    have HCK := Wd (show CaseK nm y0 z from by rw [HZ.out]; exact Hz HE.out HFY.out (by rw [HYN.out.2.2.2.1]; exact HK.out) (by rw [HYN.out.1]; exact HN.out))
    have HPZ := Wd (show (∀ c ∈ z.kids.drop 1, Pre nm bt c) ∧ (∀ a ∈ z.alts, FitA a ∧ (nm ∉ a.names → Pre nm bt a.body)) from by have h := qdm HP.out HK.out HN.out HYN.out.2.2.2.2.1 HYN.out.2.1 HCK.out; exact ⟨h.1, h.2.1⟩)
    have HDZ := Wd (qkn HYN.out.2.2.2.2.1 HYN.out.2.1 HCK.out)
    have HZL := Wd (show z.kids.length = x.kids.length ∧ z.alts.length = x.alts.length ∧ z.kind = x.kind ∧ z.minus = x.minus from ⟨HCK.out.kl.trans HYN.out.2.2.1, HDZ.out.2.2, HCK.out.k.trans HYN.out.2.2.2.1, HCK.out.mi.trans HYN.out.2.2.2.2.2⟩)
    obtain ⟨fA, hfA⟩ : ∃ fA : AltT → AltT, fA = fun a => if nm ∈ a.names ∨ Vg nm a.body = false then a else { Xm nm free all a with body := Jb nm bt free all n (Xm nm free all a).body } := ⟨_, rfl⟩
    have HFA := Wd hfA
    clear hfA
    have HML := Wd (show (z.alts.map fA).length = z.alts.length by simp)
    have HI0' := Wd (show InP W1.heap.size g F W1 ({ z with alts := mix (z.alts.map fA) z.alts 0 }) (.slice A3 x.limbs.length c3) (.slice A4 x.names.length c4) (.slice (some ⟨g5, 0, none⟩) x.kids.length c5) (.slice A6 x.alts.length c6) wc from by rw [Jc, Kv]; exact HIz.out)
    have b0 := (HIz.out.but.blk BX.out HNX.out).cell (j := 0) rfl; obtain ⟨p0, p1, p2, p3, p4, p5, p6⟩ := Blk.seven HHz.out HOFF.out
    go_wp2_with fail
    clear b0 p0 p1 p2 p3 p4 p5 p6 HIz
    go_loopw [113] (fun s wr => ∃ k : Nat, k ≤ x.alts.length ∧ s = .int .i64 k ∧ Hid (InP W1.heap.size g F W1 ({ z with alts := mix (z.alts.map fA) z.alts k }) (.slice A3 x.limbs.length c3) (.slice A4 x.names.length c4) (.slice (some ⟨g5, 0, none⟩) x.kids.length c5) (.slice A6 x.alts.length c6) wr) ∧ Hid (Blk wr g e (pre ++ ([.int .i64 x.kind, .string z.name, .bool x.minus, .slice A3 x.limbs.length c3, .slice A4 x.names.length c4, .slice (some ⟨g5, 0, none⟩) x.kids.length c5, .slice A6 x.alts.length c6] ++ post)))) (fun s _ => x.alts.length - (intOf s).toNat)
    case atStart => exact ⟨0, Nat.zero_le _, rfl, HI0', HHz⟩
    clear HI0' HHz
    case round =>
     obtain ⟨k, hk, rfl, HI, HH⟩ := hrel
     have b0 := (HI.out.but.blk BX.out HNX.out).cell (j := 0) rfl; obtain ⟨p0, p1, p2, p3, p4, p5, p6⟩ := Blk.seven HH.out HOFF.out
     by_cases hlk : k < x.alts.length
     ·have hkz : k < z.alts.length := by rw [HZL.out.2.1]; exact hlk
      obtain ⟨a, ha⟩ : ∃ a, a = z.alts[k] := ⟨_, rfl⟩
      have HAE := Wd ha
      have hmz : a ∈ z.alts := by rw [ha]; exact List.getElem_mem hkz
      have HPA := Wd (HPZ.out.2 a hmz); have HDA := Wd (HDZ.out.2.1 a hmz)
      have hnl : a.names.length ≤ 60000 := by have := HPA.out.1.t; omega
      have hbn : Blk (wr.alloc (.cells #[.pointer none] 85)) wr.heap.size 85 [.pointer none] := Jm wr _ _
      have HBN := Wd hbn
      have HBA := Wd (show Below wr.heap.size wr (wr.alloc (.cells #[.pointer none] 85)) from (Below.refl _ _).alloc (Nat.le_refl _) _)
      obtain ⟨g6, cap6, c1, A1, cc1, u3, u4, u5, u6, post6, Gx, hv6, -⟩ := HI.out.alt (m := x.alts.length) (a := a) rfl ((Zg HML.out _).trans HZL.out.2.1) hlk (fun h => by rw [ha]; exact Xf HML.out hkz)
      simp only [Value.slice.injEq, true_and] at hv6
      obtain ⟨rfl, rfl⟩ := hv6
      clear ha hmz hbn
      have qk0 : (0 : Int) ≤ (k : Int) := by omega
      have qk1 : (k : Int) < x.alts.length := by omega
      go_wp2_with (refine Wv wr.heap.size [.pointer (some ⟨g6, k * 9, none⟩)] HBN.out ?_)
      intro w2 hb2 hg2 hs2
      have HNB := Wd (show Blk w2 wr.heap.size 85 [.pointer (some ⟨g6, k * 9, none⟩)] from by simpa using hb2)
      have HB2 := Wd (show Below wr.heap.size wr w2 from HBA.out.grown hg2 HBA.out.size (fun j hj => by injection hj with hj; omega))
      obtain ⟨Fc, hFc, hsc⟩ := HI.out.ex
      have HSC := Wd hsc
      have HNF := Wd (show wr.heap.size ∉ g :: Fc from fun hh => by
       rcases List.mem_cons.1 hh with hh | hh
       ·have := HI.out.g0.2; have := HI.out.but.size; omega
       ·have := hFc.lt _ hh; omega)
      have HIM := Wd (HI.out.on HB2.out); have HH2 := Wd (HH.out.below HB2.out)
      have HI2 := Wd (show InP w2.heap.size g Fc w2 ({ z with alts := mix (z.alts.map fA) z.alts k }) (.slice A3 x.limbs.length c3) (.slice A4 x.names.length c4) (.slice (some ⟨g5, 0, none⟩) x.kids.length c5) (.slice (some ⟨g6, 0, none⟩) x.alts.length c6) w2 from ⟨⟨Fc, hFc.move (fun k hk => HB2.out.block k (hFc.lt k hk)), fun i hi => .inl hi⟩, But.refl _ _, fun i hi => Nat.lt_of_lt_of_le (hFc.lt i hi) HB2.out.size, Nat.le_refl _, ⟨fun hh => HI.out.far (hsc g hh) rfl, Nat.lt_of_lt_of_le (Nat.lt_of_lt_of_le HI.out.g0.2 HI.out.but.size) HB2.out.size⟩, Nat.le_refl _⟩)
      obtain ⟨nb, hnb⟩ : ∃ nb, nb = wr.heap.size := ⟨_, rfl⟩
      rw [← hnb] at HNB HNF ⊢
      clear hb2 hg2 hs2 hFc hsc b0 p0 p1 p2 p3 p4 p5 p6 hnb HBN HBA HI HH
      obtain ⟨g6', cap6', c1, A1, cc1, u3, u4, u5, u6, post6, Gx, hv6, -, hl6, hb6, hcc, hC1, -, hO5, -, -, -, -⟩ := HI2.out.alt (m := x.alts.length) (a := a) rfl ((Zg HML.out _).trans HZL.out.2.1) hlk (fun h => by rw [HAE.out]; exact Xf HML.out hkz)
      simp only [Value.slice.injEq, true_and, Option.some.injEq, Addr.mk.injEq, and_true] at hv6
      obtain ⟨rfl, -⟩ := hv6
      obtain ⟨-, d1, d2, d3, d4, d5, d6, d7, d8⟩ := Blk.nine hb6 hl6
      have HC1 := Wd hC1; have HCC := Wd hcc
      have HABD := Wd (show At w2 a.body ⟨g6, k * 9 + 2, none⟩ from by
       exact f92)
      clear hC1 hcc hO5 hb6 hl6 d2 d3 d4 d5 d6 d7 d8
      have HD1 := Wd d1
      have HBi := Wd (HIM.out.below HBS.out HFS.out HGS.out)
      have s0 := (HS.out.blkW HBi.out).cell (j := 0) rfl
      have m0 := HNB.out.cell (j := 0) rfl
      go_wp2_with fail
      refine Qe [(true, 0), (true, 1), (true, 2), (true, 3), (true, 4), (true, 5), (true, 6), (true, 7), (false, 8), (true, 9), (true, 10), (true, 11), (true, 12), (true, 13), (true, 14), (true, 15), (true, 16), (false, 17), (true, 18), (true, 19)] [] (fun W' => Below w2.heap.size w2 W') (by kernel_rfl) (by kernel_rfl) (fun _ _ d _ _ h => by cases d <;> exact h) ⟨rfl, rfl, rfl, Nat.le_refl _, fun _ _ => rfl⟩ ?_
      iterate 8
       refine Tb 122 (y := fun w' hSw => by
        have ⟨t0, t1, t2⟩ := Cb3 hSw m0 d1 s0
        go_simp
        try with_reducible rfl) (h := ?_)
      refine Run.step (some 130) (by rfl) (by rfl) ?_
      intro K hK
      go_simp
      refine (Ye a.names nm (by omega) A1 cc1 w2.drew (Kd.C_below HC1.out ⟨rfl, rfl, rfl, Nat.le_refl _, fun _ _ => rfl⟩) HCC.out).mono ?_
      rintro en w3 ⟨rfl, hb3⟩
      have HB3 := Wd (Qj hb3)
      refine hK.out _ _ (fun _ => HB3.out) ?_
      clear hK K hb3
      try simp only [Act.put, heap_drew, Nat.reduceAdd, Jla, Jlb, Jlc]
      by_cases hm : nm ∈ a.names
      case pos =>
       rw [decide_eq_true hm]
       have HGK := Wd (show (z.alts.map fA)[k]'(by rw [HML.out]; exact hkz) = z.alts[k] from by rw [List.getElem_map, ← HAE.out, HFA.out]; simp only; rw [if_pos (.inl hm)])
       clear hm
       refine Tb 122 (v := .bool true) (y := fun w' hSw => by
        exact f12) (h := ?_)
       iterate 7
        refine Run.passB 122 (by rfl) (by rfl) (by rfl) ?_
        simp only [Act.put, heap_drew, Nat.reduceAdd, Jla, Jlb, Jlc]
       refine Run.step (some 139) (by rfl) (by rfl) ?_
       intro K hK
       go_simp
       refine hK.out _ _ (fun _ => HB3.out) ?_
       clear hK K
       try simp only [Act.put, heap_drew, Nat.reduceAdd, Jla, Jlb, Jlc]
       iterate 1
        refine Run.passB 122 (by rfl) (by rfl) (by rfl) ?_
        simp only [Act.put, heap_drew, Nat.reduceAdd, Jla, Jlb, Jlc]
       refine Tb 122 (v := .bool true) (y := fun w' hSw => by
        exact f12) (h := ?_)
       refine Run.nil ?_
       have HI3 := Wd (HIM.out.on HB3.out); have HH3 := Wd (HH2.out.below HB3.out)
       clear s0 m0 d1
       go_wp2
       go_roundw
       case rel => exact ⟨k + 1, by omega, by go_num, Wd (by rw [← Vq HML.out hkz HGK.out]; exact HI3.out), HH3⟩
       case measure => simp [intOf]; omega
      rw [decide_eq_false hm]
      have HNM := Wd hm
      clear hm
      refine Tb 122 (v := .bool false) (y := fun w' hSw => by
       exact f12) (h := ?_)
      iterate 7
       refine Tb 122 (y := fun w' hSw => by
        have ⟨t0, t1, t2⟩ := Cb3 hSw m0 d1 s0
        go_simp
        try with_reducible rfl) (h := ?_)
      refine Run.step (some 139) (by rfl) (by rfl) ?_
      intro K hK
      go_simp
      refine (qbh a.body HPA.out.1.fit.s HPA.out.1.fit.bulk nm ⟨g6, k * 9 + 2, none⟩ w3 (HABD.out.below HB3.out)).mono ?_
      rintro en w4 ⟨rfl, hb4⟩
      have HB4 := Wd (HB3.out.trans (hb4.mono HB3.out.size))
      refine hK.out _ _ (fun _ => HB4.out) ?_
      clear hK K hb4
      try simp only [Act.put, heap_drew, Nat.reduceAdd, Jla, Jlb, Jlc]
      have HH4 := Wd (HH2.out.below HB4.out)
      by_cases hh : Vg nm a.body = true
      case neg =>
       rw [Bool.not_eq_true] at hh
       have HGK := Wd (show (z.alts.map fA)[k]'(by rw [HML.out]; exact hkz) = z.alts[k] from by rw [List.getElem_map, ← HAE.out, HFA.out]; simp only; rw [if_pos (.inr hh)])
       rw [hh]
       clear hh
       refine Tb 122 (v := .bool true) (y := fun w' hSw => by
        exact f12) (h := ?_)
       refine Tb 122 (v := .bool true) (y := fun w' hSw => by
        exact f12) (h := ?_)
       refine Run.nil ?_
       have HI4 := Wd (HIM.out.on HB4.out)
       clear s0 m0 d1
       go_wp2
       go_roundw
       case rel => exact ⟨k + 1, by omega, by go_num, Wd (by rw [← Vq HML.out hkz HGK.out]; exact HI4.out), HH4⟩
       case measure => simp [intOf]; omega
      have HHAS := Wd hh
      rw [hh]
      clear hh
      refine Tb 122 (v := .bool false) (y := fun w' hSw => by
       exact f12) (h := ?_)
      refine Tb 122 (v := .bool false) (y := fun w' hSw => by
       exact f12) (h := ?_)
      refine Run.nil ?_
      clear s0 m0 d1
      have HI4 := Wd (show InP w2.heap.size g Fc w2 ({ z with alts := (mix (z.alts.map fA) z.alts k).set k (qko nm free all a 0) }) (.slice A3 x.limbs.length c3) (.slice A4 x.names.length c4) (.slice (some ⟨g5, 0, none⟩) x.kids.length c5) (.slice (some ⟨g6, 0, none⟩) x.alts.length c6) w4 from by
       have h := HI2.out.on HB4.out
       rw [show qko nm free all a 0 = (mix (z.alts.map fA) z.alts k)[k]'(by rw [Zg HML.out]; exact hkz) from by rw [Xf HML.out hkz, ← HAE.out]; rfl, List.set_getElem_self]; exact h)
      have HE4 := Wd (show w4.cell? ⟨g6, k * 9 + 1, none⟩ = some (.slice A1 a.names.length cc1) from Cb HB4.out HD1.out)
      have m0 := (HI4.out.but.blk HNB.out HNF.out).cell (j := 0) rfl
      have d1 := HE4.out
      clear HI2 HB3 HB4 HC1 HD1 HABD HH2
      go_wp2_with fail
      clear m0 d1
      go_loopw [147] (fun s wr => ∃ i : Nat, i ≤ a.names.length ∧ s = .int .i64 i ∧ Hid (InP w2.heap.size g Fc w2 ({ z with alts := (mix (z.alts.map fA) z.alts k).set k (qko nm free all a i) }) (.slice A3 x.limbs.length c3) (.slice A4 x.names.length c4) (.slice (some ⟨g5, 0, none⟩) x.kids.length c5) (.slice (some ⟨g6, 0, none⟩) x.alts.length c6) wr) ∧ Hid (Blk wr g e (pre ++ ([.int .i64 x.kind, .string z.name, .bool x.minus, .slice A3 x.limbs.length c3, .slice A4 x.names.length c4, .slice (some ⟨g5, 0, none⟩) x.kids.length c5, .slice (some ⟨g6, 0, none⟩) x.alts.length c6] ++ post))) ∧ Hid (wr.cell? ⟨g6, k * 9 + 1, none⟩ = some (.slice A1 a.names.length cc1))) (fun s _ => a.names.length - (intOf s).toNat)
      case atStart => exact ⟨0, Nat.zero_le _, rfl, HI4, HH4, HE4⟩
      clear HI4 HH4 HE4
      case round =>
       obtain ⟨i, hi, rfl, HI, HH, HE1⟩ := hrel
       obtain ⟨b, hb⟩ : ∃ b, b = qko nm free all a i := ⟨_, rfl⟩
       rw [← hb] at HI
       have HBE := Wd hb
       have HAK := Wd (show AltK nm a b from by rw [hb]; exact qey HE.out HPA.out.1 HNM.out i hi)
       clear hb
       have HBL := Wd HAK.out.nl
       have hbn : b.names.length ≤ 60000 := by have := HAK.out.fit.t; omega
       obtain ⟨g6', cap6', c1, A1', cc1', u3, u4, u5, u6, post6, Gx, hv6, -, hl6, hb6, hcc, hC1, hg6, hO5, hs5, hgx, hcl, hnam⟩ := HI.out.alt (m := x.alts.length) (a := b) rfl (show _ = x.alts.length from by rw [List.length_set, Zg HML.out]; exact HZL.out.2.1) hlk (fun h => by simp)
       simp only [Value.slice.injEq, true_and, Option.some.injEq, Addr.mk.injEq, and_true] at hv6
       obtain ⟨rfl, -⟩ := hv6
       obtain ⟨-, d1, d2, d3, d4, d5, d6, d7, d8⟩ := Blk.nine hb6 hl6
       have e1 := HE1.out
       rw [d1] at e1
       simp only [Option.some.injEq, Value.slice.injEq] at e1
       obtain ⟨rfl, -, rfl⟩ := e1
       have HC1 := Wd hC1; have HCC' := Wd hcc; have ⟨HO5, HB6, HCL, HGX, HNAM, HL6, HS5, HG6⟩ := Ww hO5 hb6 hcl hgx hnam hl6 hs5 hg6
       have HABD := Wd (show At wr b.body ⟨g6, k * 9 + 2, none⟩ from by
        exact f92)
       have HD1 := Wd d1
       clear hC1 hcc hO5 hb6 hcl hgx hnam hl6 hs5 hg6 d1 d2 d3 d4 d5 d6 d7 d8
       have HIb := Wd (HIM.out.back HSC.out HI.out)
       have HBi := Wd (HIb.out.below HBS.out HFS.out HGS.out)
       by_cases hli : i < a.names.length
       ·have hlb : i < b.names.length := by have := HBL.out; omega
        obtain ⟨s, hs⟩ : ∃ s, s = b.names[i] := ⟨_, rfl⟩
        have HSE := Wd hs
        obtain ⟨g1, dd, dp, rfl, hl1, hb1, -⟩ := HNAM.out i hlb
        rw [← hs] at hb1
        have n0 : wr.cell? ⟨g1, i, none⟩ = some (.string s) := hb1.cell (by rw [List.getElem?_append_right (by omega), hl1, Nat.sub_self]; rfl)
        have s2 := (HS.out.blkW HBi.out).cell (j := 2) rfl
        have qi0 : (0 : Int) ≤ (i : Int) := by omega
        have qi1 : (i : Int) < a.names.length := by omega
        clear hs hb1 hl1 HNAM
        go_wp2_with fail
        refine (Ye fi s (by have := HS.out.fm; omega) Af cf wr (HS.out.fcW HBi.out) HS.out.fl).mono ?_
        rintro en w5 ⟨rfl, hb5⟩
        rw [show decide (s ∈ fi) = decide (s ∈ free) from decide_eq_decide.2 (HS.out.fe s)]
        have HB5 := Wd hb5
        have HI5 := Wd (HI.out.on hb5); have HH5 := Wd (HH.out.below hb5)
        clear hb5 n0 s2
        by_cases hm : s ∈ free
        case neg =>
         rw [decide_eq_false hm]
         have HX := Wd (show qko nm free all a (i + 1) = b from by rw [qab, ← HBE.out]; exact Uz hlb (by rw [← HSE.out]; exact hm))
         have HE5 := Wd (Cb HB5.out HE1.out)
         clear hm
         go_wp2
         go_roundw
         case rel => exact ⟨i + 1, by omega, by go_num, Wd (by rw [HX.out]; exact HI5.out), HH5, HE5⟩
         case measure => simp [intOf]; omega
        rw [decide_eq_true hm]
        have HM := Wd hm
        clear hm
        have HBi5 := Wd (HBi.out.trans (But.of_below HB5.out))
        have HNB5 := Wd (HI5.out.but.blk HNB.out HNF.out)
        have m0 := HNB5.out.cell (j := 0) rfl
        go_wp2_with fail
        refine (qbx pb _ _ nm _ _ pm pn _ (all ++ [nm]) (b.names ++ Zc b.body) (fun s => rfl) (by have h1 := HE.out.al; have h2 := Jp b.body; have h3 := HAK.out.fit.t; simp only [List.length_append, List.length_singleton]; omega) s (by have := HE.out.fr s HM.out; omega) w5 HS.out.pn (HS.out.blkW HBi5.out) (HS.out.nsW HBi5.out) (fun args w => rfl) (qpk HNB5.out (Cb HB5.out HD1.out) (Kd.C_below HC1.out HB5.out) HCC'.out (fun s hs => by have := HAK.out.fit.n s hs; omega) (HABD.out.below HB5.out) HAK.out.fit.fit.bulk)).mono ?_
        rintro en w6 ⟨rfl, hb6⟩
        obtain ⟨t, ht⟩ : ∃ t, t = Zt ((all ++ [nm]) ++ (b.names ++ Zc b.body)) s := ⟨_, rfl⟩
        have HT := Wd (show t = qwv nm all b s from by rw [ht]; exact qmn nm all b s)
        rw [← ht]
        have HB56 := Wd (HB5.out.trans (hb6.mono HB5.out.size))
        have HI6 := Wd (HI5.out.on hb6); have HH6 := Wd (HH5.out.below hb6)
        have m1 := (HI6.out.but.blk HNB.out HNF.out).cell (j := 0) rfl
        clear hb6 ht m0 HI5 HH5 HCL HB6 HO5 HABD HIb HI
        obtain ⟨g6', cap6', c1, A1', cc1', u3, u4, u5, u6, post6, Gx, hv6, -, hl6, hb6, hcc, hC1, hg6, hO5, hs5, hgx, hcl, hnam⟩ := HI6.out.alt (m := x.alts.length) (a := b) rfl (show _ = x.alts.length from by rw [List.length_set, Zg HML.out]; exact HZL.out.2.1) hlk (fun h => by simp)
        simp only [Value.slice.injEq, true_and, Option.some.injEq, Addr.mk.injEq, and_true] at hv6
        obtain ⟨rfl, -⟩ := hv6
        obtain ⟨-, d1, d2, d3, d4, d5, d6, d7, d8⟩ := Blk.nine hb6 hl6
        have ⟨HO5, HB6, HCL, HGX⟩ := Wj hO5 hb6 hcl hgx; have HL6' := Wd (show (c1 ++ [Value.string b.con, .slice A1' b.names.length cc1']).length = k * 9 + 2 by simp [hl6]); have HL6 := Wd hl6
        have e1 := Cb HB56.out HE1.out
        rw [d1] at e1
        simp only [Option.some.injEq, Value.slice.injEq] at e1
        obtain ⟨rfl, -, rfl⟩ := e1
        clear hO5 hb6 hcl hgx hnam hl6 hs5 hg6 hC1 hcc d1 d2 d3 d4 d5 d6 d7 d8
        go_wp2_with fail
        refine (qbf s t b.body HAK.out.fit.fit.s HAK.out.fit.fit.bulk w6 g6 (k * 9 + 2) _ _ _ post6 Gx HL6'.out HB6.out HO5.out.own HO5.out.nd HGX.out).mono ?_
        rintro en w7 ⟨rfl, cx', ho', hb', hbt⟩
        obtain ⟨hi7, hh7⟩ := HCL.out _ cx' Gx w7 ho' HO5.out.nd (fun i hi => .inl hi) hbt hb'
        obtain ⟨b2, hb2⟩ : ∃ b2 : AltT, b2 = { b with body := rn s t b.body } := ⟨_, rfl⟩
        have HI7 := Wd (show InP w2.heap.size g Fc w2 ({ z with alts := (mix (z.alts.map fA) z.alts k).set k b2 }) (.slice A3 x.limbs.length c3) (.slice A4 x.names.length c4) (.slice (some ⟨g5, 0, none⟩) x.kids.length c5) (.slice (some ⟨g6, 0, none⟩) x.alts.length c6) w7 from by have h := hi7; (try simp only at h); rw [List.set_set, ← hb2] at h; exact h)
        have HH7 := Wd (hh7 _ _ HH6.out)
        have HE7 := Wd (show w7.cell? ⟨g6, k * 9 + 1, none⟩ = some (.slice (some ⟨g1, 0, none⟩) a.names.length cc1') from by
         have h : w7.cell? ⟨g6, k * 9 + 1, none⟩ = some (.slice (some ⟨g1, 0, none⟩) b.names.length cc1') := hb'.cell (by rw [List.getElem?_append_left (by simp [HL6.out]), List.getElem?_append_right (by rw [HL6.out]; omega), HL6.out, Nat.add_sub_cancel_left]; rfl)
         rw [h, HBL.out])
        have HB2 := Wd hb2
        clear ho' hb' hbt hi7 hh7 HCL HB6 HO5 hb2 m1 HI6 HH6
        have m0 := (HI7.out.but.blk HNB.out HNF.out).cell (j := 0) rfl
        have d1 := HE7.out
        obtain ⟨g6', cap6', c2, A1', cc2, v3', v4', v5', v6', post2, Gy, hv6, -, hl6, hb6, -, -, -, -, -, -, -, hnam⟩ := HI7.out.alt (m := x.alts.length) (a := b2) rfl (show _ = x.alts.length from by rw [List.length_set, Zg HML.out]; exact HZL.out.2.1) hlk (fun h => by simp)
        simp only [Value.slice.injEq, true_and, Option.some.injEq, Addr.mk.injEq, and_true] at hv6
        obtain ⟨rfl, -⟩ := hv6
        obtain ⟨-, e1, -⟩ := Blk.nine hb6 hl6
        rw [d1] at e1
        simp only [Option.some.injEq, Value.slice.injEq] at e1
        obtain ⟨rfl, -, -⟩ := e1
        obtain ⟨g1', dd2, dp2, he1, hl1, hb1, hcl1⟩ := hnam i (by rw [HB2.out]; exact hlb)
        simp only [Option.some.injEq, Addr.mk.injEq, and_true] at he1
        subst he1
        have ⟨HHL, HHB, HHC⟩ := Wq hl1 hb1 hcl1
        have HB6' := Wd hb6; have HL6' := Wd hl6
        have HG16 := Wd (show g1 ≠ g6 from fun e => by
         have h1 := hb6; have h2 := hb1
         rw [e] at h2
         unfold Blk at h1 h2
         rw [h1] at h2
         injection h2 with h2
         injection h2 with h3 h4
         exact absurd h4 (by decide))
        clear hl1 hb1 hcl1 hnam hb6 hl6
        go_wp2_with (refine Qc g1 i dd2 _ dp2 [.string t] 9 (by rfl) 9 _ _ (by rfl) (by rfl) HHL.out.symm (by rfl) HHB.out rfl (by kernel_rfl) (by intro v hv; rw [List.mem_singleton.1 hv]; rfl) ?_)
        intro wA hbA hgA hsA
        obtain ⟨hiA, hhA⟩ := HHC.out t wA hgA hbA
        have HIA := Wd hiA; have HHA := Wd (hhA _ _ HH7.out)
        have HEA := Wd (show wA.cell? ⟨g6, k * 9 + 1, none⟩ = some (.slice (some ⟨g1, 0, none⟩) a.names.length cc1') from hgA.cell_far _ (World.block_lt_of_cell? _ _ HE7.out) (fun e => HG16.out (by injection e with e; exact e.symm)) |>.trans HE7.out)
        clear hbA hgA hsA hiA hhA HHC HHB HI7 HH7 m0 d1
        have HX := Wd (show qko nm free all a (i + 1) = { b2 with names := b2.names.set i t } from by
         rw [qab, ← HBE.out, He hlb (by rw [← HSE.out]; exact HM.out), HB2.out, HT.out, HSE.out])
        go_wp2
        go_roundw
        case rel => exact ⟨i + 1, by omega, by go_num, Wd (by have h := HIA.out; (try simp only at h); rw [List.set_set] at h; rw [HX.out]; exact h), HHA, HEA⟩
        case measure => simp [intOf]; omega
       ·have hie : i = a.names.length := by omega
        have HBC := Wd (show b = Xm nm free all a from by rw [qbr, ← hie]; exact HBE.out)
        have HPB := Wd (show Pre nm bt b.body from by rw [HBC.out]; exact ((HPA.out.2 HNM.out).altBody HE.out HPA.out.1 HNM.out).2)
        obtain ⟨sb, hsb⟩ : ∃ sb, sb = Jb nm bt free all n b.body := ⟨_, rfl⟩
        have HGK := Wd (show { b with body := sb } = (z.alts.map fA)[k]'(by rw [HML.out]; exact hkz) from by
         exact f93)
        have HSB := Wd hsb
        clear hsb hie
        have HAR := Wd (show Gk S D b.body wr g6 (k * 9 + 2) _ (c1 ++ [.string b.con, .slice A1' b.names.length cc1']) post6 u3 u4 u5 u6 Gx from ⟨by simp [HL6.out], HB6.out, HO5.out, HGX.out, HBi.out, fun i hi => (HS5.out i hi).elim (fun h => (HSC.out i h).elim (HFS.out i) (fun h => .inr (by have := HBS.out.size; omega))) (fun h => .inr (by have := HBi.out.size; have := HBS.out.size; have := HIM.out.ls; omega)), HG6.out.elim (fun h => (HSC.out _ h).elim (HFS.out _) (fun h => .inr (by have := HBS.out.size; omega))) (fun h => .inr (by have := HBS.out.size; have := HIM.out.ls; omega))⟩)
        have m0 := (HI.out.but.blk HNB.out HNF.out).cell (j := 0) rfl
        go_wp2_with fail
        refine (IH.out b.body HPB.out (by have := HAK.out.bd.d; have := HDA.out; have := HD.out; omega) wr g6 (k * 9 + 2) _ _ post6 u3 u4 u5 u6 Gx HAR.out).mono ?_
        rw [← HSB.out]
        rintro en w4 ⟨rfl, z3, z4, z5, z6, F', hO', hb', hs', hbt⟩
        obtain ⟨hi4, hh4⟩ := HCL.out _ _ F' w4 hO'.own hO'.nd hs' hbt hb'
        have HI4 := Wd (HIM.out.back HSC.out hi4); have HH4 := Wd (hh4 _ _ HH.out)
        clear hO' hb' hs' hbt hi4 hh4 HCL HAR m0 HB6 HO5
        go_wp2
        go_roundw
        case rel => exact ⟨k + 1, by omega, by go_num, Wd (by have h := HI4.out; (try simp only at h); rw [List.set_set, Ki HML.out hkz HGK.out] at h; exact h), HH4⟩
        case measure => simp [intOf]; omega
     ·have hkk : k = z.alts.length := by rw [HZL.out.2.1]; omega
      have hin := HI.out
      rw [hkk, Xj HML.out] at hin
      have HIN := Wd hin
      clear hkk hin HI
      by_cases hk2 : x.kids.length = 2
      ·have hke : ((x.kids.length : Int) == 2) = true := beq_iff_eq.2 (by omega)
       have hk21 : 1 < x.kids.length := by omega
       clear hk2
       have hkz1 : 1 < z.kids.length := by rw [HZL.out.1]; omega
       obtain ⟨c, hc⟩ : ∃ c, c = z.kids[1] := ⟨_, rfl⟩
       have HC := Wd hc
       have HMC := Wd (show c ∈ z.kids.drop 1 from by rw [hc, qez hkz1 (by rw [HZL.out.1]; exact HKL.out)]; simp)
       obtain ⟨g5', cap5', c1, u3, u4, u5, u6, post5, Gx, hv5, -, hl5, hb5, hO5, hs5, hgx, hg5, hcl⟩ := HIN.out.kid (m := x.kids.length) (k := 1) (c := c) rfl HZL.out.1 (by omega) (fun h => by rw [hc])
       simp only [Value.slice.injEq, Option.some.injEq, Addr.mk.injEq, and_true, true_and] at hv5
       obtain ⟨rfl, rfl⟩ := hv5
       have HA5 := Wd (show Gk S D c wr g5 7 _ c1 post5 u3 u4 u5 u6 Gx from ⟨by omega, hb5, hO5, hgx, HIN.out.below HBS.out HFS.out HGS.out, fun i hi => (hs5 i hi).elim (HFS.out i) (fun h => .inr (by have := HBS.out.size; omega)), hg5.elim (HFS.out g5) (fun h => .inr (by have := HBS.out.size; omega))⟩)
       have HCL := Wd hcl
       clear hl5 hb5 hO5 hs5 hgx hg5 hcl hc
       have hk3 : (1 : Int) < (x.kids.length : Int) := by omega
       go_wp2_with fail
       refine (IH.out c (HPZ.out.1 c HMC.out) (by have := HDZ.out.1 c HMC.out; have := HD.out; omega) wr g5 7 _ c1 post5 u3 u4 u5 u6 Gx HA5.out).mono ?_
       rintro en w4 ⟨rfl, z3, z4, z5, z6, F', hO', hb', hs', hbt⟩
       obtain ⟨hi4, hh4⟩ := HCL.out _ _ F' w4 hO'.own hO'.nd hs' hbt hb'
       have HI4 := Wd (show InP W1.heap.size g F W1 ({ z with kids := z.kids.take 1 ++ (z.kids.drop 1).map (Jb nm bt free all n), alts := z.alts.map fA }) (.slice A3 x.limbs.length c3) (.slice A4 x.names.length c4) (.slice (some ⟨g5, 0, none⟩) x.kids.length c5) (.slice A6 x.alts.length c6) w4 from by
        have h := hi4
        rw [← qbg hkz1 (by rw [HZL.out.1]; exact HKL.out), ← HC.out]
        exact h)
       have HH4 := Wd (hh4 _ _ HH.out)
       clear hO' hb' hs' hbt hi4 hh4 HCL HA5 b0 p0 p1 p2 p3 p4 p5 p6
       go_wp2
       go_end0
       have hst : Jb nm bt free all (n + 1) x = { z with kids := z.kids.take 1 ++ (z.kids.drop 1).map (Jb nm bt free all n), alts := z.alts.map fA } := by
        exact f88
       rw [hst]
       refine InP.post (y := { z with kids := z.kids.take 1 ++ (z.kids.drop 1).map (Jb nm bt free all n), alts := z.alts.map fA }) HI4.out ?_ HB1.out
       have h := HH4.out
       simp only [c7, HZL.out.2.2.1, HZL.out.2.2.2]
       exact h
      ·have hke : ((x.kids.length : Int) == 2) = false := beq_eq_false_iff_ne.2 (by omega)
       have HK2 := Wd hk2
       clear hk2
       have HI4 := Wd (show InP W1.heap.size g F W1 ({ z with kids := z.kids.take 1 ++ (z.kids.drop 1).map (Jb nm bt free all n), alts := z.alts.map fA }) (.slice A3 x.limbs.length c3) (.slice A4 x.names.length c4) (.slice (some ⟨g5, 0, none⟩) x.kids.length c5) (.slice A6 x.alts.length c6) wr from by
        rw [List.drop_eq_nil_of_le (by rw [HZL.out.1]; have := HKL.out; have := HK2.out; omega), List.map_nil, List.append_nil, List.take_of_length_le (by rw [HZL.out.1]; have := HKL.out; have := HK2.out; omega)]
        exact HIN.out)
       clear p1 p2 p3 p4 p6
       go_wp2
       go_end0
       have hst : Jb nm bt free all (n + 1) x = { z with kids := z.kids.take 1 ++ (z.kids.drop 1).map (Jb nm bt free all n), alts := z.alts.map fA } := by
        exact f88
       rw [hst]
       refine InP.post (y := { z with kids := z.kids.take 1 ++ (z.kids.drop 1).map (Jb nm bt free all n), alts := z.alts.map fA }) HI4.out ?_ HB1.out
       have h := HH.out
       simp only [c7, HZL.out.2.2.1, HZL.out.2.2.2]
       exact h
end Go.Proofs.YtnoammmohdmnjaaGreat.C13
