import Derived.Test.YtnoammmohdmnjaaGreatU33
import Derived.Test.YtnoammmohdmnjaaGreatU34
set_option maxRecDepth 100000
set_option maxHeartbeats 16000000
set_option linter.unusedVariables false
set_option linter.unusedSimpArgs false
namespace Go.Proofs.YtnoammmohdmnjaaGreat.C13
open Go.RowKit Go.Proofs.YtnoammmohdmnjaaGreatW.PrintWords
open List renaming setIfInBounds_toArray → Jla, set_cons_zero → Jlb, set_cons_succ → Jlc
theorem Blk.nine {w : World} {g : Nat} {e : TypeId} {c1 post : List Value} {v0 v1 v2 v3 v4 v5 v6 v7 v8 : Value} {o : Nat} (h : Blk w g e ((c1 ++ [v0, v1]) ++ ([v2, v3, v4, v5, v6, v7, v8] ++ post))) (hl : c1.length = o) :
  w.cell? ⟨g, o, none⟩ = some v0 ∧ w.cell? ⟨g, o + 1, none⟩ = some v1 ∧ w.cell? ⟨g, o + 2, none⟩ = some v2 ∧ w.cell? ⟨g, o + 3, none⟩ = some v3 ∧ w.cell? ⟨g, o + 4, none⟩ = some v4 ∧ w.cell? ⟨g, o + 5, none⟩ = some v5 ∧ w.cell? ⟨g, o + 6, none⟩ = some v6 ∧ w.cell? ⟨g, o + 7, none⟩ = some v7 ∧ w.cell? ⟨g, o + 8, none⟩ = some v8 := by
 have h' : Blk w g e (c1 ++ ([v0, v1, v2, v3, v4, v5, v6, v7, v8] ++ post)) := by simpa [List.append_assoc] using h
 have d : ∀ j, j < 9 → ∀ v, ([v0, v1, v2, v3, v4, v5, v6, v7, v8] : List Value)[j]? = some v → w.cell? ⟨g, o + j, none⟩ = some v := fun j hj v hv => h'.cell (by rw [List.getElem?_append_right (by omega), hl, Nat.add_sub_cancel_left, List.getElem?_append_left (by simpa using hj)]; exact hv)
 exact ⟨d 0 (by omega) _ rfl, d 1 (by omega) _ rfl, d 2 (by omega) _ rfl, d 3 (by omega) _ rfl, d 4 (by omega) _ rfl, d 5 (by omega) _ rfl, d 6 (by omega) _ rfl, d 7 (by omega) _ rfl, d 8 (by omega) _ rfl⟩
theorem qlr {α : Type} {l : List α} {f : α → α} (h : 0 < l.length) : l.set 0 (f l[0]) = (l.take 1).map f ++ l.drop 1 := by
 cases l with
 | nil => simp at h
 | cons c r => simp
theorem qbg {α : Type} {l : List α} {f : α → α} (h : 1 < l.length) (h2 : l.length ≤ 2) : l.set 1 (f l[1]) = l.take 1 ++ (l.drop 1).map f := by
 rcases l with _ | ⟨c, _ | ⟨d, _ | ⟨e, r⟩⟩⟩
 ·simp at h
 ·simp at h
 ·simp
 ·simp at h2
theorem f93 {p : Prop} (h : p := by
 rw [List.getElem_map, ← HAE.out, HFA.out]; simp only; rw [if_neg (fun h => h.elim HNM.out (fun h => by rw [HHAS.out] at h; cases h)), ← HBC.out, ← hsb]) : p := h
theorem f105 {p : Prop} (h : p := by
 rw [HZ.out, Yk, if_neg]
 rw [HYN.out.1]
 intro h
 have := HCND.out
 rw [hb] at this
 exact absurd h (of_decide_eq_false this.symm)) : p := h
theorem f109 {p : Prop} (h : p := by
 go_wp2_with fail
 go_meet
 case rel => exact ⟨by rw [HC.out], Wd ⟨rfl, rfl, rfl, Nat.le_refl _, fun _ _ => rfl⟩⟩) : p := h
theorem qvt {S : World} {bs : Nat} {nm : ByteArray} {bt : CoreT} {free all : List ByteArray} {B3 : Option Addr} {b3 : Nat} {B4 : Option Addr} {b4 : Nat} {B5 : Option Addr} {b5 : Nat} {B6 : Option Addr} {b6 : Nat} {Af : Option Addr} {cf : Nat} {Aa : Option Addr} {ca : Nat} (hS : Sb S bs nm bt free all B3 b3 B4 b4 B5 b5 B6 b6 Af cf Aa ca) (henv : Env free all bt) (n : Nat) (ih : qce S bs nm bt free all n) (hfl : free.length ≤ 1000000000) : qoa S bs nm bt free all n := by
 intro x hk8 hp hd w v3 v4 v5 v6 F hO hB hF
 have hlt := hO.lt
 obtain ⟨A3, c3, A4, c4, A5, c5, A6, c6, rfl, rfl, rfl, rfl, -, -, -⟩ := hO.form
 have ⟨HS, HE, HP, HFS, HB, HO⟩ := Wx hS henv hp hF hB hO
 obtain ⟨W1, hW1, hp1, hB1, hs1⟩ := Wy w x A3 c3 A4 c4 A5 c5 A6 c6 35
 obtain ⟨W2, hW2, hp2, hB2, hs2⟩ := Wh W1 35
 have HB2 := Wd (Below.step hB1 hB2)
 have BP := Wd (hp1.below hB2)
 have BR := Wd (show Blk W2 (w.heap.size + 1) _ _ from by have h := hp2; rw [hs1] at h; exact h)
 have HI0 := Wd (show Inv (w.heap.size + 2) F w x (.slice A3 x.limbs.length c3) (.slice A4 x.names.length c4) (.slice A5 x.kids.length c5) (.slice A6 x.alts.length c6) W2 from
  ⟨⟨F, hO.move (fun k hk => HB2.out.block k (hlt k hk)), fun i hi => .inl hi⟩, But.of_below HB2.out, hlt, by omega⟩)
 have HLT := Wd hlt
 have HBS := Wd (hB.trans (HB2.out.mono hB.size))
 obtain ⟨-, -, hbk3, -, -⟩ := Qz hp.fit.bulk
 clear hS henv hp hF hB hO hlt hp1 hp2 hB1 hB2 hs1 hs2
 have hl12 := (Zz.1 HP.out.s).1.2.2 hk8
 have hkl0 : 0 < x.kids.length := by omega
 have HKL := Wd (show x.kids.length ≤ 2 by omega)
 have ⟨HK, HD, IH, HFL⟩ := Wj hk8 hd ih hfl
 have HPK := Wd (HP.out.first hk8)
 obtain ⟨s0x, hs0x⟩ : ∃ s0x, s0x = Jb nm bt free all n x.kids[0] := ⟨_, rfl⟩
 have HSX := Wd hs0x
 have HY0 := Wd (show x.kids.set 0 s0x = (x.kids.take 1).map (Jb nm bt free all n) ++ x.kids.drop 1 from by rw [hs0x]; exact qlr hkl0)
 clear hk8 hd ih hfl hl12 hs0x
 obtain ⟨g5, cap5, e1, cx, post, hv5, hcap5, hl5, hb5, Gx, hox, hnx, hsx, hgx, hg5F, hltx, hcl5⟩ := HI0.out.kid (by omega) (k := 0) hkl0
 simp only [Value.slice.injEq, true_and] at hv5
 obtain ⟨rfl, rfl⟩ := hv5
 obtain ⟨u3, u4, u5, u6, rfl, hO7⟩ := Own7.of hox hnx
 have HO7 := Wd hO7
 obtain ⟨g0, g1, g2, g3, g4', g5', g6⟩ := Blk.seven (show Blk _ g5 _ (e1 ++ ([_, _, _, _, _, _, _] ++ post)) from hb5) hl5
 have G07 := Wd (show _ ∧ _ ∧ _ ∧ _ ∧ _ ∧ _ ∧ _ from ⟨g0, g1, g2, g3, g4', g5', g6⟩)
 have HB5' := Wd hb5; have ⟨HCL5, HG5, HL5⟩ := Wq hcl5 (show g5 ∉ Gx ∧ (g5 ∈ F ∨ w.heap.size + 2 ≤ g5) ∧ (∀ i ∈ Gx, i ∈ F ∨ w.heap.size + 2 ≤ i) from ⟨hgx, hg5F, hsx⟩) hl5
 clear hb5 hcl5 hgx hg5F hl5 hox hnx hsx hltx hO7 g0 g1 g2 g3 g4' g5' g6
 subst hW2; subst hW1
 go_enter Tryz.func73, Tryz.ntmps73
 go_wp2_with fail
 obtain ⟨W2, hW2'⟩ : ∃ W2, W2 = (w.alloc (.cells #[.int .i64 x.kind, .string x.name, .bool x.minus, .slice A3 x.limbs.length c3, .slice A4 x.names.length c4, .slice (some ⟨g5, 0, none⟩) x.kids.length c5, .slice A6 x.alts.length c6] 35)).alloc (.cells #[.int .i64 0, .string ⟨#[]⟩, .bool false, .slice none 0 0, .slice none 0 0, .slice none 0 0, .slice none 0 0] 35) := ⟨_, rfl⟩
 rw [← hW2'] at HB2 BP BR HI0 HBS HO7 HB5' HCL5 G07 ⊢
 clear hW2'
 obtain ⟨g0, g1, g2, g3, g4', g5', g6⟩ := G07.out
 have k0 : W2.cell? ⟨g5, 0, none⟩ = _ := g0; have k1 : W2.cell? ⟨g5, 1, none⟩ = _ := g1; have k2 : W2.cell? ⟨g5, 2, none⟩ = _ := g2; have k3 : W2.cell? ⟨g5, 3, none⟩ = _ := g3; have k4 : W2.cell? ⟨g5, 4, none⟩ = _ := g4'; have k5 : W2.cell? ⟨g5, 5, none⟩ = _ := g5'; have k6 : W2.cell? ⟨g5, 6, none⟩ = _ := g6
 clear g0 g1 g2 g3 g4' g5' g6
 have p5 := BP.out.cell (j := 5) rfl
 refine Qe [(true, 0), (true, 1), (true, 2), (true, 3), (true, 4), (true, 5), (true, 6), (false, 7), (true, 8), (false, 9)] [9] (fun W' => W'.heap[w.heap.size]? = W2.heap[w.heap.size]? ∧ W'.heap[g5]? = W2.heap[g5]?) (by kernel_rfl) (by kernel_rfl) (fun _ _ d _ _ h => by cases d <;> exact h) ⟨rfl, rfl⟩ ?_
 iterate 7
  refine Tb 12 (y := fun w' hSw => by
   have hk3 : (0 : Int) < (x.kids.length : Int) := (by omega); have t5 := Qp hSw.1 p5; have q0 := Qp hSw.2 k0; have q1 := Qp hSw.2 k1; have q2 := Qp hSw.2 k2; have q3 := Qp hSw.2 k3; have q4 := Qp hSw.2 k4; have q5 := Qp hSw.2 k5; have q6 := Qp hSw.2 k6
   go_simp
   try with_reducible rfl) (h := ?_)
 refine Run.step (some 19) (by rfl) (by rfl) ?_
 intro K hK
 go_simp
 refine (IH.out _ (HPK.out _ (by rw [List.mem_take_iff_getElem]; exact ⟨0, by omega, rfl⟩)) (by have := Yz (List.getElem_mem hkl0); have := HD.out; rw [Yi] at this; omega) W2.drew u3 u4 u5 u6 Gx (HO7.out.move (fun _ _ => rfl)) (show Below S.heap.size S W2.drew from ⟨HBS.out.os, HBS.out.tape, HBS.out.output, HBS.out.size, HBS.out.block⟩) (fun i hi => (HG5.out.2.2 i hi).elim (HFS.out i) (fun h => by have := HB.out.size; omega))).mono ?_
 rw [← HSX.out]
 rintro e w4 ⟨z3, z4, z5, z6, rfl, hI4⟩
 have HI4 := Wd hI4
 have HBT4 := Wd (show But Gx W2 w4 from ⟨hI4.but.os, hI4.but.tape, hI4.but.output, hI4.but.size, hI4.but.block⟩)
 clear hI4
 refine hK.out _ _ (fun _ => ⟨HBT4.out.block _ BP.out.lt (fun h => (HG5.out.2.2 _ h).elim (fun h => by have := HLT.out _ h; omega) (fun h => by omega)), HBT4.out.block _ HB5'.out.lt HG5.out.1⟩) ?_
 clear hK K
 try simp only [Act.put, heap_drew, Nat.reduceAdd, Jla, Jlb, Jlc]
 refine Tk (some 20) (y := fun w' hSw => by
  go_simp
  try with_reducible rfl) (h := ?_)
 refine Run.step none (by rfl) (by rfl) ?_
 intro K hK
 refine Qw g5 0 e1 [.int .i64 x.kids[0].kind, .string x.kids[0].name, .bool x.kids[0].minus, u3, u4, u5, u6] post [.int .i64 s0x.kind, .string s0x.name, .bool s0x.minus, z3, z4, z5, z6] 35 (by rfl) 35 _ _ (by rfl) (by rfl) (by rw [HL5.out]) (by rfl) (HBT4.out.blk HB5'.out HG5.out.1) rfl (by kernel_rfl) ?hone ?_
 case hone => obtain ⟨Z3, y3, Z4, y4, Z5, y5, Z6, y6, rfl, rfl, rfl, rfl, -⟩ := HI4.out.form; exact Xg _ _ _ _ _ _ _ _ _
 intro w5 hb5 hg5 hs5
 obtain ⟨G', hG', hGs⟩ := HI4.out.ex
 have HI5 := Wd (HCL5.out s0x _ G' w4 w5 hG'.own hG'.nd hGs HBT4.out hg5 hb5)
 have BP5 := Wd ((HBT4.out.blk BP.out (fun h => (HG5.out.2.2 _ h).elim (fun h => by have := HLT.out _ h; omega) (fun h => by omega))).grownO hg5 (fun e => HI0.out.far HG5.out.2.1 (Nat.le_refl _) (by omega) (by injection e)))
 have BR5 := Wd ((HBT4.out.blk BR.out (fun h => (HG5.out.2.2 _ h).elim (fun h => by have := HLT.out _ h; omega) (fun h => by omega))).grownO hg5 (fun e => HI0.out.far HG5.out.2.1 (Nat.le_succ _) (by omega) (by injection e)))
 refine hK.out _ _ (fun h => absurd (by decide) h) ?_
 clear hK K hb5 hg5 hs5 p5 k0 k1 k2 k3 k4 k5 k6 hG' hGs HI4 HCL5 HB5' HBT4 HO7 G07
 refine Run.nil ?_
 go_simp
 have HBS5 := Wd (HI5.out.below HB.out HFS.out)
 have s0 := (HS.out.blk.below HBS5.out).cell (j := 0) rfl; have p1 := BP5.out.cell (j := 1) rfl
 go_wp2_with fail
 by_cases hn : x.name = nm
 case pos =>
  have ⟨q1, q2⟩ := Kk hn
  have HN := Wd hn; clear hn
  refine Qe [(true, 0), (true, 1), (true, 2), (true, 3), (true, 4), (true, 5), (true, 6)] [] (fun W' => Below w5.heap.size w5 W') (by kernel_rfl) (by kernel_rfl) (fun _ _ d _ _ h => by cases d <;> exact h) ⟨rfl, rfl, rfl, Nat.le_refl _, fun _ _ => rfl⟩ ?_
  iterate 6
   refine Tb 21 (y := fun w' hSw => by
    exact f75) (h := ?_)
  refine Tb 21 (v := .bool true) (y := fun w' hSw => by
   exact f12) (h := ?_)
  refine Run.nil ?_
  clear p1 s0 q1 q2
  have BRd := Wd (show Blk w5.drew (w.heap.size + 1) _ _ from BR5.out)
  have HId := Wd (HI5.out.on (show Below w5.heap.size w5 w5.drew from ⟨rfl, rfl, rfl, Nat.le_refl _, fun _ _ => rfl⟩))
  have ⟨p0, p1, p2, p3, p4, p5, p6⟩ := Cz BP5.out
  go_wp2_with (refine Wv (w.heap.size + 1) [.int .i64 x.kind, .string x.name, .bool x.minus, .slice A3 x.limbs.length c3, .slice A4 x.names.length c4, .slice (some ⟨g5, 0, none⟩) x.kids.length c5, .slice A6 x.alts.length c6] BRd.out ?_)
  intro w9 hblk9 hg9 hsz9
  have ⟨kk0, kk1, kk2, kk3, kk4, kk5, kk6⟩ := Cz hblk9
  have HI9 := Wd (HId.out.grown (Nat.le_succ _) (by omega) hg9)
  clear hblk9 hg9
  go_wp2
  refine bodyPost_ret (v := .agg #[.int .i64 x.kind, .string x.name, .bool x.minus, .slice A3 x.limbs.length c3, .slice A4 x.names.length c4, .slice (some ⟨g5, 0, none⟩) x.kids.length c5, .slice A6 x.alts.length c6]) (by simp [results, Tryz.results73, go_sem, kk0, kk1, kk2, kk3, kk4, kk5, kk6]) rfl ?_
  have hst : Jb nm bt free all (n + 1) x = { x with kids := x.kids.set 0 s0x } := by
   rw [Jb, if_neg (by have := HK.out; omega), if_neg (by have := HK.out; omega), if_pos HK.out]
   simp only
   rw [if_pos HN.out, HY0.out]
  rw [hst]
  exact ⟨_, _, _, _, rfl, by have h := HI9.out.weaken (L' := w.heap.size) (by omega); exact h⟩
 case neg =>
  have ⟨q1, q2⟩ := Xt hn
  have HN := Wd hn; clear hn
  refine Qe [(true, 0), (true, 1), (true, 2), (true, 3), (true, 4), (true, 5), (true, 6)] [] (fun W' => Below w5.heap.size w5 W') (by kernel_rfl) (by kernel_rfl) (fun _ _ d _ _ h => by cases d <;> exact h) ⟨rfl, rfl, rfl, Nat.le_refl _, fun _ _ => rfl⟩ ?_
  iterate 6
   refine Tb 21 (y := fun w' hSw => by
    exact f75) (h := ?_)
  refine Tb 21 (v := .bool false) (y := fun w' hSw => by
   exact f12) (h := ?_)
  refine Run.nil ?_
  clear p1 s0 q1 q2
  have HId := Wd (HI5.out.on (show Below w5.heap.size w5 w5.drew from ⟨rfl, rfl, rfl, Nat.le_refl _, fun _ _ => rfl⟩))
  have ⟨BPd, BRd, HBSd⟩ := Wq (show Blk w5.drew w.heap.size _ _ from BP5.out) (show Blk w5.drew (w.heap.size + 1) _ _ from BR5.out) (show Below S.heap.size S w5.drew from ⟨HBS5.out.os, HBS5.out.tape, HBS5.out.output, HBS5.out.size, HBS5.out.block⟩)
  clear HI5 BP5 BR5 HBS5
  obtain ⟨wd, hwd⟩ : ∃ wd, wd = w5.drew := ⟨_, rfl⟩
  rw [← hwd] at HId BPd BRd HBSd ⊢
  clear hwd
  go_upto_region 4 with (fail)
  obtain ⟨y0, hy0⟩ : ∃ y0 : CoreT, y0 = { x with kids := x.kids.set 0 s0x } := ⟨_, rfl⟩
  have HFY := Wd (show Fit y0 from by
   have h := (qdu (f := Jb nm bt free all n) HP.out (by have := HK.out; omega) (qaq HP.out HK.out) (fun c hc => qcz HE.out n c (HPK.out c hc))).fit HP.out
   rw [hy0, HY0.out]; exact h)
  have HY := Wd hy0
  have HKLY := Wd (show y0.kids.length ≤ 2 from by rw [hy0]; simpa using HKL.out)
  have HKY := Wd (show IC.K wd y0 [.int .i64 x.kind, .string x.name, .bool x.minus, .slice A3 x.limbs.length c3, .slice A4 x.names.length c4, .slice (some ⟨g5, 0, none⟩) x.kids.length c5, .slice A6 x.alts.length c6] from by rw [hy0]; exact HId.out.K)
  obtain ⟨cnd, hcnd⟩ : ∃ cnd : Bool, cnd = decide (x.name ≠ ⟨#[]⟩ ∧ x.name ∈ free ∧ Yp nm y0 = true) := ⟨_, rfl⟩
  have HCND := Wd hcnd
  clear hy0 hcnd
  go_cut [45] from 12 (fun s45 wr => s45 = .bool cnd ∧ Hid (Below wd.heap.size wd wr))
  case first =>
   as_aux_lemma =>
    have ⟨p0, p1, p2, p3, p4, p5, p6⟩ := Cz BPd.out
    have s0 := (HS.out.blk.below HBSd.out).cell (j := 8) rfl
    by_cases hne : x.name = ⟨#[]⟩
    ·have q1 : x.name.toList.isEmpty = true := by rw [hne, empty_toList]; rfl
     have q2 : x.name.toList = [] ↔ True := by rw [hne, empty_toList]; simp
     have HC := Wd (show cnd = false from by rw [HCND.out]; exact decide_eq_false (fun h => h.1 hne))
     clear hne
     refine Qe [(true, 0), (true, 1), (true, 2), (true, 3), (true, 4), (true, 5), (true, 6), (true, 7), (true, 8), (true, 9), (false, 10), (true, 11), (true, 12), (true, 13), (true, 14), (false, 15), (true, 16)] [] (fun W' => Below wd.heap.size wd W') (by kernel_rfl) (by kernel_rfl) (fun _ _ d _ _ h => by cases d <;> exact h) ⟨rfl, rfl, rfl, Nat.le_refl _, fun _ _ => rfl⟩ ?_
     iterate 2
      refine Tb 29 (y := fun w' hSw => by
       have t1 := Cb hSw p1
       go_simp
       try with_reducible rfl) (h := ?_)
     refine Tb 29 (v := .bool false) (y := fun w' hSw => by
      exact f12) (h := ?_)
     iterate 1
      refine Tb 29 (y := fun w' hSw => by
       go_simp
       try with_reducible rfl) (h := ?_)
     iterate 6
      refine Run.passB 29 (by rfl) (by rfl) (by rfl) ?_
      simp only [Act.put, heap_drew, Nat.reduceAdd, Jla, Jlb, Jlc]
     refine Run.step (some 39) (by rfl) (by rfl) ?_
     intro K hK
     go_simp
     refine hK.out _ _ (fun _ => ⟨rfl, rfl, rfl, Nat.le_refl _, fun _ _ => rfl⟩) ?_
     clear hK K
     try simp only [Act.put, heap_drew, Nat.reduceAdd, Jla, Jlb, Jlc]
     refine Tb 29 (v := .bool false) (y := fun w' hSw => by
      exact f12) (h := ?_)
     iterate 1
      refine Tb 29 (y := fun w' hSw => by
       go_simp
       try with_reducible rfl) (h := ?_)
     iterate 2
      refine Run.passB 29 (by rfl) (by rfl) (by rfl) ?_
      simp only [Act.put, heap_drew, Nat.reduceAdd, Jla, Jlb, Jlc]
     refine Run.step (some 44) (by rfl) (by rfl) ?_
     intro K hK
     go_simp
     refine hK.out _ _ (fun _ => ⟨rfl, rfl, rfl, Nat.le_refl _, fun _ _ => rfl⟩) ?_
     clear hK K
     try simp only [Act.put, heap_drew, Nat.reduceAdd, Jla, Jlb, Jlc]
     refine Tb 29 (v := .bool false) (y := fun w' hSw => by
      exact f12) (h := ?_)
     refine Run.nil ?_
     clear s0 p0 p1 p2 p3 p4 p5 p6 q1 q2
     exact f109
    ·have ⟨q1, q2⟩ := Vc hne
     have HNE := Wd hne
     clear hne
     refine Qe [(true, 0), (true, 1), (true, 2), (true, 3), (true, 4), (true, 5), (true, 6), (true, 7), (true, 8), (true, 9), (false, 10), (true, 11), (true, 12), (true, 13), (true, 14), (false, 15), (true, 16)] [] (fun W' => Below wd.heap.size wd W') (by kernel_rfl) (by kernel_rfl) (fun _ _ d _ _ h => by cases d <;> exact h) ⟨rfl, rfl, rfl, Nat.le_refl _, fun _ _ => rfl⟩ ?_
     iterate 2
      refine Tb 29 (y := fun w' hSw => by
       have t1 := Cb hSw p1
       go_simp
       try with_reducible rfl) (h := ?_)
     refine Tb 29 (v := .bool true) (y := fun w' hSw => by
      exact f12) (h := ?_)
     iterate 7
      refine Tb 29 (y := fun w' hSw => by
       have t1 := Cb hSw p1; have t0 := Cb hSw s0
       go_simp
       try with_reducible rfl) (h := ?_)
     refine Run.step (some 39) (by rfl) (by rfl) ?_
     intro K hK
     go_simp
     refine (Jj free x.name (by have := HFL.out; omega) Af cf _ (Kd.C_below HS.out.fc (show Below S.heap.size S wd.drew from ⟨HBSd.out.os, HBSd.out.tape, HBSd.out.output, HBSd.out.size, HBSd.out.block⟩)) HS.out.fl).mono ?_
     rintro e w6 ⟨rfl, hb6⟩
     have HB6 := Wd (Qj hb6)
     refine hK.out _ _ (fun _ => HB6.out) ?_
     clear hK K hb6
     try simp only [Act.put, heap_drew, Nat.reduceAdd, Jla, Jlb, Jlc]
     by_cases hm : x.name ∈ free
     ·rw [decide_eq_true hm]
      have HM := Wd hm
      clear hm
      refine Tb 29 (v := .bool true) (y := fun w' hSw => by
       exact f12) (h := ?_)
      iterate 3
       refine Tb 29 (y := fun w' hSw => by
        have ⟨r0, r1, r2, r3, r4, r5, r6⟩ := Cb7 hSw p0 p1 p2 p3 p4 p5 p6
        go_simp
        try with_reducible rfl) (h := ?_)
      refine Run.step (some 44) (by rfl) (by rfl) ?_
      intro K hK
      go_simp
      refine (qlc HS.out y0 HFY.out.bulk HKLY.out w6 _ (HBSd.out.trans (HB6.out.mono HBSd.out.size)) ((Ja _ _).K_below HB6.out HKY.out)).mono ?_
      rintro e w7 ⟨rfl, hb7⟩
      have HB7 := Wd (HB6.out.trans (hb7.mono HB6.out.size))
      have HC := Wd (show cnd = Yp nm y0 from by rw [HCND.out]; by_cases h : Yp nm y0 = true <;> simp [h, HNE.out, HM.out])
      rw [← HC.out]
      refine hK.out _ _ (fun _ => HB7.out) ?_
      clear hK K hb7
      try simp only [Act.put, heap_drew, Nat.reduceAdd, Jla, Jlb, Jlc]
      refine Tk (some 45) (y := fun w' hSw => by
       go_simp
       try with_reducible rfl) (h := ?_)
      refine Run.nil ?_
      clear s0 p0 p1 p2 p3 p4 p5 p6 q1 q2
      go_wp2_with fail
      go_meet
      case rel => exact ⟨rfl, HB7⟩
     ·rw [decide_eq_false hm]
      have HC := Wd (show cnd = false from by rw [HCND.out]; exact decide_eq_false (fun h => hm h.2.1))
      clear hm
      refine Tb 29 (v := .bool false) (y := fun w' hSw => by
       exact f12) (h := ?_)
      iterate 1
       refine Tb 29 (y := fun w' hSw => by
        go_simp
        try with_reducible rfl) (h := ?_)
      iterate 2
       refine Run.passB 29 (by rfl) (by rfl) (by rfl) ?_
       simp only [Act.put, heap_drew, Nat.reduceAdd, Jla, Jlb, Jlc]
      refine Run.step (some 44) (by rfl) (by rfl) ?_
      intro K hK
      go_simp
      refine hK.out _ _ (fun _ => HB6.out) ?_
      clear hK K
      try simp only [Act.put, heap_drew, Nat.reduceAdd, Jla, Jlb, Jlc]
      refine Tb 29 (v := .bool false) (y := fun w' hSw => by
       exact f12) (h := ?_)
      refine Run.nil ?_
      clear s0 p0 p1 p2 p3 p4 p5 p6 q1 q2
      go_wp2_with fail
      go_meet
      case rel => exact ⟨by rw [HC.out], HB6⟩
  case rest =>
   obtain ⟨rfl, HBC⟩ := hcut
   have HIc := Wd (HId.out.on HBC.out)
   have ⟨BPc, BRc, HBSc, HKYc⟩ := Wj (BPd.out.below HBC.out) (BRd.out.below HBC.out) (HBSd.out.trans (HBC.out.mono HBSd.out.size)) ((Ja _ _).K_below HBC.out HKY.out)
   clear HId BPd BRd HBSd HBC HKY
   obtain ⟨z, hz⟩ : ∃ z, z = Yk nm free all y0 := ⟨_, rfl⟩
   have HZ := Wd hz
   clear hz
   go_upto_if 45 with (fail)
   go_cut [] from 12 (fun wr => Hid (Inv (w.heap.size + 2) F w z (.slice A3 x.limbs.length c3) (.slice A4 x.names.length c4) (.slice (some ⟨g5, 0, none⟩) x.kids.length c5) (.slice A6 x.alts.length c6) wr) ∧ Hid (Blk wr w.heap.size 35 [.int .i64 x.kind, .string z.name, .bool x.minus, .slice A3 x.limbs.length c3, .slice A4 x.names.length c4, .slice (some ⟨g5, 0, none⟩) x.kids.length c5, .slice A6 x.alts.length c6]) ∧ Hid (Blk wr (w.heap.size + 1) 35 [.int .i64 0, .string ⟨#[]⟩, .bool false, .slice none 0 0, .slice none 0 0, .slice none 0 0, .slice none 0 0]))
   case first =>
    as_aux_lemma =>
     have HYN := Wd (show y0.name = x.name ∧ y0.alts = x.alts ∧ y0.kids.length = x.kids.length ∧ y0.kind = x.kind from by rw [HY.out]; simp)
     cases hb : cnd
     ·have HZE := Wd (show z = y0 from by
       exact f105)
      clear hb
      go_wp2_with fail
      go_meet
      case rel => exact ⟨Wd (by rw [HZE.out, HY.out]; exact HIc.out), Wd (by rw [HZE.out, HYN.out.1]; exact BPc.out), BRc⟩
     ·have hcc := HCND.out
      rw [hb] at hcc
      have HCC := Wd (of_decide_eq_true hcc.symm)
      clear hb hcc
      go_upto_region 5 with (fail)
      have ⟨r0, r1, r2, r3, r4, r5, r6⟩ := Cz BPc.out
      refine Qe [(true, 0), (true, 1), (true, 2), (true, 3), (false, 4), (false, 5), (true, 6)] [] (fun W' => Below wc.heap.size wc W') (by kernel_rfl) (by kernel_rfl) (fun _ _ d _ _ h => by cases d <;> exact h) ⟨rfl, rfl, rfl, Nat.le_refl _, fun _ _ => rfl⟩ ?_
      iterate 4
       refine Tb 46 (y := fun w' hSw => by
        have ⟨u0, u1, u2, u3, u4, u5, u6⟩ := Cb7 hSw r0 r1 r2 r3 r4 r5 r6
        go_simp
        try with_reducible rfl) (h := ?_)
      refine Run.step (some 50) (by rfl) (by rfl) ?_
      intro K hK
      go_simp
      refine (qag HS.out (by have := HE.out.al; omega) y0 HFY.out.bulk (by have := Jp y0; have := HFY.out.t; omega) wc.drew _ (show Below S.heap.size S wc.drew from ⟨HBSc.out.os, HBSc.out.tape, HBSc.out.output, HBSc.out.size, HBSc.out.block⟩) (Kd.K_drew' HKYc.out)).mono ?_
      rintro e w4 ⟨u4, rfl, ho4, hb4⟩
      have HB4 := Wd (Qj hb4)
      refine hK.out _ _ (fun _ => HB4.out) ?_
      clear hK K hb4
      obtain ⟨av, hav⟩ : ∃ av, av = all ++ (qbk y0 ++ [nm]) := ⟨_, rfl⟩
      have HAV := Wd (show av.length ≤ 1000000 from by
       rw [hav, List.length_append, List.length_append, List.length_singleton]
       have := HE.out.al; have := Jp y0; have := HFY.out.t; have := Jx (Zc y0) []
       unfold qbk; simp at this; omega)
      obtain ⟨t, ht⟩ : ∃ t, t = Zt av x.name := ⟨_, rfl⟩
      have HT := Wd (show t = qew nm all y0 x.name from by rw [ht, hav]; exact qfr nm all y0 x.name)
      rw [← hav] at ho4
      obtain ⟨A7, c7, rfl, l7, hC7⟩ := (Zk (by decide) ho4).1.readsS
      have HC7 := Wd hC7
      clear ho4 hC7 hav
      try simp only [Act.put, heap_drew, Nat.reduceAdd, Jla, Jlb, Jlc]
      refine Run.step (some 51) (by rfl) (by rfl) ?_
      intro K hK
      go_simp
      refine (qfl av (by have := HAV.out; omega) x.name (by have := HE.out.fr x.name HCC.out.2.1; omega) A7 c7 _ HC7.out l7).mono ?_
      rintro e w5' ⟨rfl, hb5⟩
      rw [← ht]
      have HB5 := Wd (HB4.out.trans (hb5.mono HB4.out.size))
      refine hK.out _ _ (fun _ => HB5.out) ?_
      clear hK K hb5 ht
      try simp only [Act.put, heap_drew, Nat.reduceAdd, Jla, Jlb, Jlc]
      refine Tk (some 5) (y := fun w' hSw => by
       go_simp
       try with_reducible rfl) (h := ?_)
      refine Run.nil ?_
      clear r0 r1 r2 r3 r4 r5 r6
      have HI5 := Wd (show Inv (w.heap.size + 2) F w { y0 with alts := mix (y0.alts.map (fun a : AltT => if x.name ∈ a.names then a else { a with body := rn x.name t a.body })) y0.alts 0 } (.slice A3 x.limbs.length c3) (.slice A4 x.names.length c4) (.slice (some ⟨g5, 0, none⟩) x.kids.length c5) (.slice A6 x.alts.length c6) w5' from by rw [Jc, Kv, HY.out]; exact HIc.out.on HB5.out)
      have BP5 := Wd (BPc.out.below HB5.out); have BR5 := Wd (BRc.out.below HB5.out)
      have HML := Wd (show (y0.alts.map (fun a : AltT => if x.name ∈ a.names then a else { a with body := rn x.name t a.body })).length = y0.alts.length by simp)
      have hbk5 := (Qz HP.out.fit.bulk).2.2.2.2
      have hya := HYN.out.2.1
      have hyl : y0.alts.length = x.alts.length := by rw [hya]
      clear hya
      have p6 := BP5.out.cell (j := 6) rfl
      go_wp2_with fail
      clear p6
      go_loopw [6] (fun s6 wr => ∃ k : Nat, k ≤ x.alts.length ∧ s6 = .int .i64 k ∧ Hid (Inv (w.heap.size + 2) F w { y0 with alts := mix (y0.alts.map (fun a : AltT => if x.name ∈ a.names then a else { a with body := rn x.name t a.body })) y0.alts k } (.slice A3 x.limbs.length c3) (.slice A4 x.names.length c4) (.slice (some ⟨g5, 0, none⟩) x.kids.length c5) (.slice A6 x.alts.length c6) wr) ∧ Hid (Blk wr w.heap.size 35 [.int .i64 x.kind, .string x.name, .bool x.minus, .slice A3 x.limbs.length c3, .slice A4 x.names.length c4, .slice (some ⟨g5, 0, none⟩) x.kids.length c5, .slice A6 x.alts.length c6]) ∧ Hid (Blk wr (w.heap.size + 1) 35 [.int .i64 0, .string ⟨#[]⟩, .bool false, .slice none 0 0, .slice none 0 0, .slice none 0 0, .slice none 0 0])) (fun s6 _ => x.alts.length - (intOf s6).toNat)
      case atStart => exact ⟨0, Nat.zero_le _, rfl, HI5, BP5, BR5⟩
      clear HI5 BP5 BR5
      case round =>
       obtain ⟨k, hk, rfl, HI, BP, BR⟩ := hrel
       have p6 := BP.out.cell (j := 6) rfl; have p1 := BP.out.cell (j := 1) rfl
       by_cases hlk : k < x.alts.length
       ·have hky : k < y0.alts.length := by omega
        obtain ⟨g6, cap6, c1, cx, post, hv6, hcap6, hl6, hb6, Gx, hox, hnx, hsx, hgx, hg6F, hltx, hcl6⟩ := HI.out.alt (by omega) (k := k) (by simp only; rw [Zg HML.out]; exact hky)
        simp only [Zg HML.out, hyl] at hv6 hcap6
        simp only [Value.slice.injEq, true_and] at hv6
        obtain ⟨rfl, rfl⟩ := hv6
        simp only [Xf HML.out hky] at hox
        rw [Xw] at hox
        obtain ⟨v1, cb, F1, Gb, rfl, rfl, hr1, hob⟩ := hox
        obtain ⟨A1, cc1, rfl, l1, hC1⟩ := hr1.readsS
        obtain ⟨u3, u4, u5, u6, rfl, hO7⟩ := Own7.of hob (List.nodup_append.1 hnx).2.1
        have d : ∀ j, j < 9 → ∀ v, ([.string y0.alts[k].con, .slice A1 y0.alts[k].names.length cc1, .int .i64 y0.alts[k].body.kind, .string y0.alts[k].body.name, .bool y0.alts[k].body.minus, u3, u4, u5, u6] : List Value)[j]? = some v → wr.cell? ⟨g6, k * 9 + j, none⟩ = some v := fun j hj v hv => hb6.cell (by rw [List.getElem?_append_right (by omega), hl6, Nat.add_sub_cancel_left, List.getElem?_append_left (by simp; omega)]; exact hv)
        have d1 := d 1 (by omega) _ rfl; have d2 := d 2 (by omega) _ rfl; have d3 := d 3 (by omega) _ rfl; have d4 := d 4 (by omega) _ rfl; have d5 := d 5 (by omega) _ rfl; have d6 := d 6 (by omega) _ rfl; have d7 := d 7 (by omega) _ rfl; have d8 := d 8 (by omega) _ rfl
        clear d
        have ⟨HC1, HL1, HR1, HO7, HB6, HCL6, HG6, HL6⟩ := Ww hC1 l1 hr1 hO7 hb6 hcl6 (show g6 ∉ F1 ++ Gb ∧ (g6 ∈ F ∨ w.heap.size + 2 ≤ g6) ∧ (∀ i ∈ F1 ++ Gb, i ∈ F ∨ w.heap.size + 2 ≤ i) ∧ (F1 ++ Gb).Nodup ∧ (∀ i ∈ F1 ++ Gb, i < wr.heap.size) from ⟨hgx, hg6F, hsx, hnx, hltx⟩) hl6
        have hnl : y0.alts[k].names.length ≤ 274877906944 := Vy HFY.out.bulk (List.getElem_mem hky)
        have HFB := Wd (HFY.out.alt (List.getElem_mem hky)).1
        clear hC1 l1 hr1 hO7 hb6 hcl6 hgx hg6F hsx hnx hltx hl6 hob
        have qk0 : (0 : Int) ≤ (k : Int) := by omega
        have qk1 : (k : Int) < x.alts.length := by omega
        go_wp2_with fail
        refine Qe [(true, 0), (true, 1), (true, 2), (true, 3), (true, 4), (true, 5), (true, 6), (true, 7), (false, 8), (true, 9)] [] (fun W' => Below wr.heap.size wr W') (by kernel_rfl) (by kernel_rfl) (fun _ _ d _ _ h => by cases d <;> exact h) ⟨rfl, rfl, rfl, Nat.le_refl _, fun _ _ => rfl⟩ ?_
        iterate 8
         refine Tb 59 (y := fun w' hSw => by
          have ⟨t6, t1, t2⟩ := Cb3 hSw p6 p1 d1
          go_simp
          try with_reducible rfl) (h := ?_)
        refine Run.step (some 67) (by rfl) (by rfl) ?_
        intro K hK
        go_simp
        refine (Jj y0.alts[k].names x.name hnl A1 cc1 wr.drew (Kd.C_below HC1.out ⟨rfl, rfl, rfl, Nat.le_refl _, fun _ _ => rfl⟩) HL1.out).mono ?_
        rintro e w6 ⟨rfl, hb6'⟩
        have HB6' := Wd (Qj hb6')
        refine hK.out _ _ (fun _ => HB6'.out) ?_
        clear hK K hb6'
        try simp only [Act.put, heap_drew, Nat.reduceAdd, Jla, Jlb, Jlc]
        by_cases hm : x.name ∈ y0.alts[k].names
        ·rw [decide_eq_true hm]
         have HGK := Wd (show (y0.alts.map (fun a : AltT => if x.name ∈ a.names then a else { a with body := rn x.name t a.body }))[k]'(by rw [HML.out]; exact hky) = y0.alts[k] from by simp [hm])
         have HI7 := Wd (HI.out.on HB6'.out)
         have BP7 := Wd (BP.out.below HB6'.out); have BR7 := Wd (BR.out.below HB6'.out)
         clear hm p6 p1 d1 d2 d3 d4 d5 d6 d7 d8
         refine Tk (some 68) (y := fun w' hSw => by
          go_simp
          try with_reducible rfl) (h := ?_)
         refine Run.nil ?_
         go_wp2
         go_roundw
         case rel => exact ⟨k + 1, by omega, by go_num, Wd (by rw [← Vq HML.out hky HGK.out]; exact HI7.out), BP7, BR7⟩
         case measure => simp [intOf]; omega
        ·rw [decide_eq_false hm]
         have HGK := Wd (show { y0.alts[k] with body := rn x.name t y0.alts[k].body } = (y0.alts.map (fun a : AltT => if x.name ∈ a.names then a else { a with body := rn x.name t a.body }))[k]'(by rw [HML.out]; exact hky) from by simp [hm])
         clear hm
         refine Tk (some 68) (y := fun w' hSw => by
          go_simp
          try with_reducible rfl) (h := ?_)
         refine Run.nil ?_
         have HI7 := Wd (HI.out.on HB6'.out)
         have BP7 := Wd (BP.out.below HB6'.out); have BR7 := Wd (BR.out.below HB6'.out)
         have HKB := Wd ((Ja _ _).K_below HB6'.out (Yo HO7.out.own))
         replace p6 := Cb HB6'.out p6; replace p1 := Cb HB6'.out p1; replace d2 := Cb HB6'.out d2; replace d3 := Cb HB6'.out d3; replace d4 := Cb HB6'.out d4; replace d5 := Cb HB6'.out d5; replace d6 := Cb HB6'.out d6; replace d7 := Cb HB6'.out d7; replace d8 := Cb HB6'.out d8
         clear d1
         go_wp2_with fail
         refine Qe [(true, 0), (true, 1), (true, 2), (true, 3), (true, 4), (true, 5), (true, 6), (true, 7), (true, 8), (true, 9), (true, 10), (true, 11), (false, 12), (true, 13), (true, 14), (false, 15)] [15] (fun W' => Below w6.heap.size w6 W') (by kernel_rfl) (by kernel_rfl) (fun _ _ d _ _ h => by cases d <;> exact h) ⟨rfl, rfl, rfl, Nat.le_refl _, fun _ _ => rfl⟩ ?_
         iterate 12
          refine Tb 69 (y := fun w' hSw => by
           have ⟨t6, t1, r2, r3, r4, r5, r6⟩ := Cb7 hSw p6 p1 d2 d3 d4 d5 d6; have r7 := Cb hSw d7; have r8 := Cb hSw d8
           go_simp
           try with_reducible rfl) (h := ?_)
         refine Run.step (some 81) (by rfl) (by rfl) ?_
         intro K hK
         go_simp
         refine (qpc x.name t y0.alts[k].body HFB.out.bulk w6.drew _ (Kd.K_drew' HKB.out)).mono ?_
         rintro e w7 ⟨cx', Gx', rfl, ho7, hn7, hf7, hb7⟩
         obtain ⟨Z3, z3, Z4, z4, Z5, z5, Z6, z6, rfl⟩ := Zi ho7
         have HB7 := Wd (Qj hb7); have HO7' := Wd ho7
         have HN7 := Wd (show Gx'.Nodup ∧ ∀ j ∈ Gx', w6.heap.size ≤ j from ⟨hn7, hf7⟩)
         refine hK.out _ _ (fun _ => HB7.out) ?_
         clear hK K ho7 hn7 hf7 hb7
         try simp only [Act.put, heap_drew, Nat.reduceAdd, Jla, Jlb, Jlc]
         iterate 2
          refine Tb 69 (y := fun w' hSw => by
           go_simp
           try with_reducible rfl) (h := ?_)
         refine Run.step none (by rfl) (by rfl) ?_
         intro K hK
         refine Qw g6 (k * 9 + 2) (c1 ++ [.string y0.alts[k].con, .slice A1 y0.alts[k].names.length cc1]) [.int .i64 y0.alts[k].body.kind, .string y0.alts[k].body.name, .bool y0.alts[k].body.minus, u3, u4, u5, u6] post (Qb (rn x.name t y0.alts[k].body) Z3 z3 Z4 z4 Z5 z5 Z6 z6) 76 (by rfl) 35 _ _ (by rfl) (by rfl) (by simp [HL6.out]) (by rfl) (by have h := (HB6.out.below HB6'.out).below HB7.out; simpa [List.append_assoc] using h) rfl (by kernel_rfl) (Xg _ _ _ _ _ _ _ _ _) ?_
         intro w8 hb8 hg8 hs8
         have hne6 : ∀ j ∈ F1, j ≠ g6 := fun j hj e => HG6.out.1 (by rw [← e]; simp [hj])
         have HI8 := Wd (HCL6.out { y0.alts[k] with body := rn x.name t y0.alts[k].body } (.string y0.alts[k].con :: .slice A1 y0.alts[k].names.length cc1 :: (Qb (rn x.name t y0.alts[k].body) Z3 z3 Z4 z4 Z5 z5 Z6 z6)) (F1 ++ Gx') w8
          (by
           rw [Xw]
           refine ⟨_, _, F1, Gx', rfl, rfl, ((HR1.out.move (fun j hj => HB6'.out.block j (HR1.out.lt j hj))).move (fun j hj => HB7.out.block j (Nat.lt_of_lt_of_le (HR1.out.lt j hj) HB6'.out.size))).move (fun j hj => hg8.block j (Nat.lt_of_lt_of_le (HR1.out.lt j hj) (Nat.le_trans HB6'.out.size HB7.out.size)) (fun e => hne6 j hj (by injection e))), Xv HO7'.out hg8 (fun j hj e => by have := HN7.out.2 j hj; have := HB6.out.lt; have := HB6'.out.size; omega)⟩)
          (List.nodup_append.2 ⟨(List.nodup_append.1 HG6.out.2.2.2.1).1, HN7.out.1, fun a ha b hb e => by have := HG6.out.2.2.2.2 a (by simp [ha]); have := HN7.out.2 b hb; have := HB6'.out.size; omega⟩)
          (fun j hj => (List.mem_append.1 hj).imp (fun h => by simp [h]) (fun h => Nat.le_trans HB6'.out.size (HN7.out.2 j h)))
          (((But.of_below HB6'.out).trans (But.of_below HB7.out)).trans ((But.of_grown hg8).mono (fun j hj => by rw [List.mem_singleton.1 hj]; simp)))
          (by simpa [List.append_assoc] using hb8))
         have BP8 := Wd ((BP7.out.below HB7.out).grownO hg8 (fun e => HI.out.far HG6.out.2.1 (Nat.le_refl _) (by omega) (by injection e)))
         have BR8 := Wd ((BR7.out.below HB7.out).grownO hg8 (fun e => HI.out.far HG6.out.2.1 (Nat.le_succ _) (by omega) (by injection e)))
         refine hK.out _ _ (fun h => absurd (by decide) h) ?_
         clear hK K hb8 hg8 hs8 hne6 p6 p1 d2 d3 d4 d5 d6 d7 d8 HI7 BP7 BR7
         refine Run.nil ?_
         go_wp2
         go_roundw
         case rel => exact ⟨k + 1, by omega, by go_num, Wd (by have h := HI8.out; (try simp only at h); rw [Ki HML.out hky HGK.out] at h; exact h), BP8, BR8⟩
         case measure => simp [intOf]; omega
       ·have hkk : k = y0.alts.length := by omega
        have hin := HI.out
        rw [hkk, Xj HML.out] at hin
        have HIN := Wd hin
        have HZE := Wd (show z = { y0 with name := t, kids := y0.kids.take 1 ++ (y0.kids.drop 1).map (rn x.name t), alts := y0.alts.map (fun a : AltT => if x.name ∈ a.names then a else { a with body := rn x.name t a.body }) } from by
         rw [HZ.out, Yk, if_pos (by rw [HYN.out.1]; exact HCC.out), HT.out, ← HYN.out.1]; rfl)
        clear hkk hin HI
        have hkl1 := HYN.out.2.2.1
        have p5 := BP.out.cell (j := 5) rfl
        by_cases hk2 : 1 < x.kids.length
        ·obtain ⟨g7, cap7, e7, cx, post, hv7, hcap7, hl7, hb7, Gx, hox, hnx, hsx, hgx, hg7F, hltx, hcl7⟩ := HIN.out.kid (by omega) (k := 1) (by simp only; omega)
         simp only [hkl1] at hv7 hcap7
         simp only [Value.slice.injEq, Option.some.injEq, Addr.mk.injEq, and_true, true_and] at hv7
         obtain ⟨rfl, rfl⟩ := hv7
         obtain ⟨u3, u4, u5, u6, rfl, hO7⟩ := Own7.of hox hnx
         obtain ⟨g0, g1, g2, g3, g4', g5', g6⟩ := Blk.seven (show Blk _ g5 _ (e7 ++ ([_, _, _, _, _, _, _] ++ post)) from hb7) hl7
         have k0 : wr.cell? ⟨g5, 7, none⟩ = _ := g0; have k1 : wr.cell? ⟨g5, 8, none⟩ = _ := g1; have k2 : wr.cell? ⟨g5, 9, none⟩ = _ := g2; have k3 : wr.cell? ⟨g5, 10, none⟩ = _ := g3; have k4 : wr.cell? ⟨g5, 11, none⟩ = _ := g4'; have k5 : wr.cell? ⟨g5, 12, none⟩ = _ := g5'; have k6 : wr.cell? ⟨g5, 13, none⟩ = _ := g6
         have ⟨HKB, HB7, HCL7, HL7, HG7⟩ := Wz (Yo hO7.own) hb7 hcl7 hl7 hg7F
         have HF7 := Wd (HFY.out.kid (List.getElem_mem (show 1 < y0.kids.length by omega)))
         have hk3 : (1 : Int) < (x.kids.length : Int) := by omega
         clear g0 g1 g2 g3 g4' g5' g6 hb7 hcl7 hl7 hg7F hO7 hox hnx hsx hgx hltx
         go_wp2_with fail
         refine Qe [(true, 0), (true, 1), (true, 2), (true, 3), (true, 4), (true, 5), (true, 6), (true, 7), (true, 8), (false, 9), (true, 10), (false, 11)] [11] (fun W' => Below wr.heap.size wr W') (by kernel_rfl) (by kernel_rfl) (fun _ _ d _ _ h => by cases d <;> exact h) ⟨rfl, rfl, rfl, Nat.le_refl _, fun _ _ => rfl⟩ ?_
         iterate 9
          refine Tb 88 (y := fun w' hSw => by
           have ⟨t5, t1, r0, r1, r2, r3, r4⟩ := Cb7 hSw p5 p1 k0 k1 k2 k3 k4; have r5 := Cb hSw k5; have r6 := Cb hSw k6
           go_simp
           try with_reducible rfl) (h := ?_)
         refine Run.step (some 97) (by rfl) (by rfl) ?_
         intro K hK
         go_simp
         refine (qpc x.name t _ HF7.out.bulk wr.drew _ (Kd.K_drew' HKB.out)).mono ?_
         rintro e w7 ⟨cx', Gx', rfl, ho7, hn7, hf7, hb7⟩
         obtain ⟨Z3, z3, Z4, z4, Z5, z5, Z6, z6, rfl⟩ := Zi ho7
         have HB8 := Wd (Qj hb7); have HO8 := Wd ho7
         have HN8 := Wd (show Gx'.Nodup ∧ ∀ j ∈ Gx', wr.heap.size ≤ j from ⟨hn7, hf7⟩)
         refine hK.out _ _ (fun _ => HB8.out) ?_
         clear hK K ho7 hn7 hf7 hb7
         try simp only [Act.put, heap_drew, Nat.reduceAdd, Jla, Jlb, Jlc]
         refine Tk (some 98) (y := fun w' hSw => by
          go_simp
          try with_reducible rfl) (h := ?_)
         refine Run.step none (by rfl) (by rfl) ?_
         intro K hK
         refine Qw g5 7 e7 [.int .i64 y0.kids[1].kind, .string y0.kids[1].name, .bool y0.kids[1].minus, u3, u4, u5, u6] post (Qb (rn x.name t y0.kids[1]) Z3 z3 Z4 z4 Z5 z5 Z6 z6) 35 (by rfl) 35 _ _ (by rfl) (by rfl) (by rw [HL7.out]) (by rfl) (HB7.out.below HB8.out) rfl (by kernel_rfl) (Xg _ _ _ _ _ _ _ _ _) ?_
         intro w8 hb8 hg8 hs8
         have HI8 := Wd (HCL7.out (rn x.name t y0.kids[1]) _ Gx' w7 w8 HO8.out HN8.out.1 (fun j hj => .inr (HN8.out.2 j hj)) (But.of_below HB8.out) hg8 hb8)
         have BP8 := Wd ((BP.out.below HB8.out).grownO hg8 (fun e => HIN.out.far HG7.out (Nat.le_refl _) (by omega) (by injection e)))
         have BR8 := Wd ((BR.out.below HB8.out).grownO hg8 (fun e => HIN.out.far HG7.out (Nat.le_succ _) (by omega) (by injection e)))
         refine hK.out _ _ (fun h => absurd (by decide) h) ?_
         clear hK K hb8 hg8 hs8 p5 p1 k0 k1 k2 k3 k4 k5 k6
         refine Run.nil ?_
         go_simp
         go_wp2_with (refine Qc w.heap.size 1 [.int .i64 x.kind] [.string x.name] [.bool x.minus, .slice A3 x.limbs.length c3, .slice A4 x.names.length c4, .slice (some ⟨g5, 0, none⟩) x.kids.length c5, .slice A6 x.alts.length c6] [.string t] 35 (by rfl) 9 _ _ (by rfl) (by rfl) rfl (by rfl) BP8.out rfl (by kernel_rfl) (by intro v hv; rw [List.mem_singleton.1 hv]; rfl) ?_)
         intro w9 hb9 hg9 hs9
         have HI9 := Wd ((HI8.out.named t).grown (Nat.le_refl _) (by omega) hg9)
         have BP9 := Wd hb9; have BR9 := Wd (BR8.out.grownO hg9 (by simp))
         clear hb9 hg9 hs9
         go_wp2_with fail
         go_meet
         case rel => exact ⟨Wd (by have h := HI9.out; (try simp only at h); rw [HZE.out]; rw [← qbg (show 1 < y0.kids.length by omega) HKLY.out]; exact h), Wd (by have h := BP9.out; rw [HZE.out]; simpa using h), BR9⟩
        ·go_wp2_with (refine Qc w.heap.size 1 [.int .i64 x.kind] [.string x.name] [.bool x.minus, .slice A3 x.limbs.length c3, .slice A4 x.names.length c4, .slice (some ⟨g5, 0, none⟩) x.kids.length c5, .slice A6 x.alts.length c6] [.string t] 35 (by rfl) 9 _ _ (by rfl) (by rfl) rfl (by rfl) BP.out rfl (by kernel_rfl) (by intro v hv; rw [List.mem_singleton.1 hv]; rfl) ?_)
         intro w9 hb9 hg9 hs9
         have HI9 := Wd ((HIN.out.named t).grown (Nat.le_refl _) (by omega) hg9)
         have BP9 := Wd hb9; have BR9 := Wd (BR.out.grownO hg9 (by simp))
         clear hb9 hg9 hs9
         go_wp2_with fail
         go_meet
         case rel => exact ⟨Wd (by have h := HI9.out; (try simp only at h); rw [HZE.out]; rw [List.drop_eq_nil_of_le (show y0.kids.length ≤ 1 by omega), List.map_nil, List.append_nil, List.take_of_length_le (show y0.kids.length ≤ 1 by omega)]; exact h), Wd (by have h := BP9.out; rw [HZE.out]; simpa using h), BR9⟩
   case rest =>
    obtain ⟨HIz, BPz, BRz⟩ := hcut
    clear HIc BPc BRc HBSc HKYc HCND
    have HYN := Wd (show y0.name = x.name ∧ y0.alts = x.alts ∧ y0.kids.length = x.kids.length ∧ y0.kind = x.kind ∧ y0.kids.drop 1 = x.kids.drop 1 from by rw [HY.out]; simp [List.drop_set])
    have HCK := Wd (show CaseK nm y0 z from by rw [HZ.out]; exact Hz HE.out HFY.out (by rw [HYN.out.2.2.2.1]; exact HK.out) (by rw [HYN.out.1]; exact HN.out))
    have HPZ := Wd (show (∀ c ∈ z.kids.drop 1, Pre nm bt c) ∧ (∀ a ∈ z.alts, FitA a ∧ (nm ∉ a.names → Pre nm bt a.body)) from by have h := qdm HP.out HK.out HN.out HYN.out.2.2.2.2 HYN.out.2.1 HCK.out; exact ⟨h.1, h.2.1⟩)
    have HDZ := Wd (qkn HYN.out.2.2.2.2 HYN.out.2.1 HCK.out)
    have HZL := Wd (show z.kids.length = x.kids.length ∧ z.alts.length = x.alts.length ∧ z.kind = x.kind ∧ z.minus = x.minus from ⟨HCK.out.kl.trans HYN.out.2.2.1, HDZ.out.2.2, HCK.out.k.trans HYN.out.2.2.2.1, HCK.out.mi.trans (by rw [HY.out])⟩)
    obtain ⟨z1, hz1⟩ : ∃ z1, z1 = { z with kids := z.kids.take 1 ++ (z.kids.drop 1).map (Jb nm bt free all n) } := ⟨_, rfl⟩
    have HZ1 := Wd hz1
    clear hz1
    have hbk6 := (Qz HP.out.fit.bulk).2.2.2.2
    have p5 := BPz.out.cell (j := 5) rfl
    go_upto_if 104 with (fail)
    go_cut [] from 12 (fun wr => Hid (Inv (w.heap.size + 2) F w z1 (.slice A3 x.limbs.length c3) (.slice A4 x.names.length c4) (.slice (some ⟨g5, 0, none⟩) x.kids.length c5) (.slice A6 x.alts.length c6) wr) ∧ Hid (Blk wr w.heap.size 35 [.int .i64 x.kind, .string z.name, .bool x.minus, .slice A3 x.limbs.length c3, .slice A4 x.names.length c4, .slice (some ⟨g5, 0, none⟩) x.kids.length c5, .slice A6 x.alts.length c6]) ∧ Hid (Blk wr (w.heap.size + 1) 35 [.int .i64 0, .string ⟨#[]⟩, .bool false, .slice none 0 0, .slice none 0 0, .slice none 0 0, .slice none 0 0]))
    case first =>
     as_aux_lemma =>
      by_cases hk2 : 1 < x.kids.length
      ·obtain ⟨g7, cap7, e7, cx, post, hv7, hcap7, hl7, hb7, Gx, hox, hnx, hsx, hgx, hg7F, hltx, hcl7⟩ := HIz.out.kid (by omega) (k := 1) (by rw [HZL.out.1]; exact hk2)
       simp only [HZL.out.1] at hv7 hcap7
       simp only [Value.slice.injEq, Option.some.injEq, Addr.mk.injEq, and_true, true_and] at hv7
       obtain ⟨rfl, rfl⟩ := hv7
       obtain ⟨u3, u4, u5, u6, rfl, hO7⟩ := Own7.of hox hnx
       obtain ⟨g0, g1, g2, g3, g4', g5', g6⟩ := Blk.seven (show Blk _ g5 _ (e7 ++ ([_, _, _, _, _, _, _] ++ post)) from hb7) hl7
       have k0 : wc.cell? ⟨g5, 7, none⟩ = _ := g0; have k1 : wc.cell? ⟨g5, 8, none⟩ = _ := g1; have k2 : wc.cell? ⟨g5, 9, none⟩ = _ := g2; have k3 : wc.cell? ⟨g5, 10, none⟩ = _ := g3; have k4 : wc.cell? ⟨g5, 11, none⟩ = _ := g4'; have k5 : wc.cell? ⟨g5, 12, none⟩ = _ := g5'; have k6 : wc.cell? ⟨g5, 13, none⟩ = _ := g6
       have hkz : 1 < z.kids.length := by rw [HZL.out.1]; exact hk2
       obtain ⟨zk, hzk⟩ : ∃ zk, zk = z.kids[1] := ⟨_, rfl⟩
       rw [← hzk] at k0 k1 k2 hO7 hb7
       have hmz : zk ∈ z.kids.drop 1 := by rw [hzk, qez hkz (by rw [HZL.out.1]; exact HKL.out)]; simp
       have ⟨HMZ, HO7, HB7, HCL7, HL7, HG7, HGX⟩ := Wk hmz hO7 hb7 hcl7 hl7 hg7F (show g5 ∉ Gx ∧ (∀ i ∈ Gx, i ∈ F ∨ w.heap.size + 2 ≤ i) from ⟨hgx, hsx⟩)
       obtain ⟨s1, hs1⟩ : ∃ s1, s1 = Jb nm bt free all n zk := ⟨_, rfl⟩
       have HZE := Wd (show z1 = { z with kids := z.kids.set 1 s1 } from by rw [HZ1.out, hs1, hzk, qbg hkz (by rw [HZL.out.1]; exact HKL.out)])
       have HS1 := Wd hs1
       have HWS := Wd (show w.heap.size + 2 ≤ wc.heap.size from HIz.out.ls)
       clear g0 g1 g2 g3 g4' g5' g6 hb7 hcl7 hl7 hg7F hO7 hox hnx hsx hgx hltx hmz hs1 hkz hzk
       have hk3 : (1 : Int) < (x.kids.length : Int) := by omega
       go_wp2_with fail
       refine Qe [(true, 0), (true, 1), (true, 2), (true, 3), (true, 4), (true, 5), (true, 6), (false, 7), (true, 8), (false, 9)] [9] (fun W' => W'.heap[w.heap.size]? = wc.heap[w.heap.size]? ∧ W'.heap[g5]? = wc.heap[g5]?) (by kernel_rfl) (by kernel_rfl) (fun _ _ d _ _ h => by cases d <;> exact h) ⟨rfl, rfl⟩ ?_
       iterate 7
        refine Tb 105 (y := fun w' hSw => by
         have t5 := Qp hSw.1 p5; have q0 := Qp hSw.2 k0; have q1 := Qp hSw.2 k1; have q2 := Qp hSw.2 k2; have q3 := Qp hSw.2 k3; have q4 := Qp hSw.2 k4; have q5 := Qp hSw.2 k5; have q6 := Qp hSw.2 k6
         go_simp
         try with_reducible rfl) (h := ?_)
       refine Run.step (some 112) (by rfl) (by rfl) ?_
       intro K hK
       go_simp
       refine (IH.out zk (HPZ.out.1 _ HMZ.out) (by have := HDZ.out.1 _ HMZ.out; have := HD.out; omega) wc.drew u3 u4 u5 u6 Gx (HO7.out.move (fun _ _ => rfl)) (by have h := HIz.out.below HB.out HFS.out; exact ⟨h.os, h.tape, h.output, h.size, h.block⟩) (fun i hi => (HGX.out.2 i hi).elim (HFS.out i) (fun h => by have := HB.out.size; omega))).mono ?_
       rw [← HS1.out]
       rintro e w4 ⟨z3, z4, z5, z6, rfl, hI4⟩
       have HI4 := Wd hI4
       have HBT4 := Wd (show But Gx wc w4 from ⟨hI4.but.os, hI4.but.tape, hI4.but.output, hI4.but.size, hI4.but.block⟩)
       clear hI4
       refine hK.out _ _ (fun _ => ⟨HBT4.out.block _ BPz.out.lt (fun h => (HGX.out.2 _ h).elim (fun h => by have := HLT.out _ h; omega) (fun h => by omega)), HBT4.out.block _ HB7.out.lt HGX.out.1⟩) ?_
       clear hK K
       try simp only [Act.put, heap_drew, Nat.reduceAdd, Jla, Jlb, Jlc]
       refine Tk (some 113) (y := fun w' hSw => by
        go_simp
        try with_reducible rfl) (h := ?_)
       refine Run.step none (by rfl) (by rfl) ?_
       intro K hK
       refine Qw g5 7 e7 [.int .i64 zk.kind, .string zk.name, .bool zk.minus, u3, u4, u5, u6] post [.int .i64 s1.kind, .string s1.name, .bool s1.minus, z3, z4, z5, z6] 35 (by rfl) 35 _ _ (by rfl) (by rfl) (by rw [HL7.out]) (by rfl) (HBT4.out.blk HB7.out HGX.out.1) rfl (by kernel_rfl) ?hone ?_
       case hone => obtain ⟨Z3, y3, Z4, y4, Z5, y5, Z6, y6, rfl, rfl, rfl, rfl, -⟩ := HI4.out.form; exact Xg _ _ _ _ _ _ _ _ _
       intro w5 hb5 hg5 hs5
       obtain ⟨G', hG', hGs⟩ := HI4.out.ex
       have HI5 := Wd (HCL7.out s1 _ G' w4 w5 hG'.own hG'.nd hGs HBT4.out hg5 hb5)
       have BP5 := Wd ((HBT4.out.blk BPz.out (fun h => (HGX.out.2 _ h).elim (fun h => by have := HLT.out _ h; omega) (fun h => by omega))).grownO hg5 (fun e => HIz.out.far HG7.out (Nat.le_refl _) (by omega) (by injection e)))
       have BR5 := Wd ((HBT4.out.blk BRz.out (fun h => (HGX.out.2 _ h).elim (fun h => by have := HLT.out _ h; omega) (fun h => by omega))).grownO hg5 (fun e => HIz.out.far HG7.out (Nat.le_succ _) (by omega) (by injection e)))
       refine hK.out _ _ (fun h => absurd (by decide) h) ?_
       clear hK K hb5 hg5 hs5 p5 k0 k1 k2 k3 k4 k5 k6 hG' hGs HI4 HCL7 HB7 HBT4 HO7
       refine Run.nil ?_
       go_simp
       go_wp2_with fail
       go_meet
       case rel => exact ⟨Wd (by rw [HZE.out]; exact HI5.out), BP5, BR5⟩
      ·have HZE := Wd (show z1 = z from by rw [HZ1.out, List.drop_eq_nil_of_le (by rw [HZL.out.1]; omega), List.map_nil, List.append_nil, List.take_of_length_le (by rw [HZL.out.1]; omega)]; exact Kv z)
       have hk3 : ¬ (1 : Int) < (x.kids.length : Int) := by omega
       go_wp2_with fail
       go_meet
       case rel => exact ⟨Wd (by rw [HZE.out]; exact HIz.out), BPz, BRz⟩
    case rest =>
     clear p5 HIz BPz BRz
     obtain ⟨HI1, BP1, BR1⟩ := hcut
     obtain ⟨fA, hfA⟩ : ∃ fA : AltT → AltT, fA = fun a => if nm ∈ a.names ∨ Vg nm a.body = false then a else { Xm nm free all a with body := Jb nm bt free all n (Xm nm free all a).body } := ⟨_, rfl⟩
     have HFA := Wd hfA
     clear hfA
     have HZA := Wd (show z1.alts = z.alts ∧ z1.alts.length = x.alts.length from by rw [HZ1.out]; exact ⟨rfl, HZL.out.2.1⟩)
     have HML := Wd (show (z1.alts.map fA).length = z1.alts.length by simp)
     have HI0' := Wd (show Inv (w.heap.size + 2) F w { z1 with alts := mix (z1.alts.map fA) z1.alts 0 } (.slice A3 x.limbs.length c3) (.slice A4 x.names.length c4) (.slice (some ⟨g5, 0, none⟩) x.kids.length c5) (.slice A6 x.alts.length c6) wc from by rw [Jc, Kv]; exact HI1.out)
     clear HI1
     have p6 := BP1.out.cell (j := 6) rfl
     go_wp2_with fail
     clear p6
     go_loopw [7] (fun s7 wr => ∃ k : Nat, k ≤ x.alts.length ∧ s7 = .int .i64 k ∧ Hid (Inv (w.heap.size + 2) F w { z1 with alts := mix (z1.alts.map fA) z1.alts k } (.slice A3 x.limbs.length c3) (.slice A4 x.names.length c4) (.slice (some ⟨g5, 0, none⟩) x.kids.length c5) (.slice A6 x.alts.length c6) wr) ∧ Hid (Blk wr w.heap.size 35 [.int .i64 x.kind, .string z.name, .bool x.minus, .slice A3 x.limbs.length c3, .slice A4 x.names.length c4, .slice (some ⟨g5, 0, none⟩) x.kids.length c5, .slice A6 x.alts.length c6]) ∧ Hid (Blk wr (w.heap.size + 1) 35 [.int .i64 0, .string ⟨#[]⟩, .bool false, .slice none 0 0, .slice none 0 0, .slice none 0 0, .slice none 0 0])) (fun s7 _ => x.alts.length - (intOf s7).toNat)
     case atStart => exact ⟨0, Nat.zero_le _, rfl, HI0', BP1, BR1⟩
     clear HI0' BP1 BR1
     case round =>
      obtain ⟨k, hk, rfl, HI, BP, BR⟩ := hrel
      have p6 := BP.out.cell (j := 6) rfl
      by_cases hlk : k < x.alts.length
      ·have hkz : k < z1.alts.length := by rw [HZA.out.2]; exact hlk
       obtain ⟨a, ha⟩ : ∃ a, a = z1.alts[k] := ⟨_, rfl⟩
       have HAE := Wd ha
       have hmz : a ∈ z.alts := by rw [ha, ← HZA.out.1]; exact List.getElem_mem hkz
       have HPA := Wd (HPZ.out.2 a hmz); have HDA := Wd (HDZ.out.2.1 a hmz)
       have hnl : a.names.length ≤ 60000 := by have := HPA.out.1.t; omega
       obtain ⟨g6, cap6, c1, A1, cc1, cx, post, hv6, hcap6, hl6, hb6, hcc, hC1, hg6F, ⟨Gx, hox, hnx, hsx, hgx, hltx, -⟩, -⟩ := HI.out.altAt (by omega) rfl (show _ = x.alts.length from by rw [Zg HML.out]; exact HZA.out.2) hlk (a := a) (fun h => by rw [ha]; exact Xf HML.out hkz)
       simp only [Value.slice.injEq, true_and] at hv6
       obtain ⟨rfl, rfl⟩ := hv6
       obtain ⟨u3, u4, u5, u6, rfl, hO7⟩ := Own7.of hox hnx
       obtain ⟨-, d1, d2, d3, d4, d5, d6, d7, d8⟩ := Blk.nine hb6 hl6
       have ⟨HC1, HCC, HO7⟩ := Wq hC1 hcc hO7
       clear hC1 hcc hO7 hb6 hl6 hgx hg6F hsx hltx hox hnx ha hmz
       have HBSi := Wd (HI.out.below HB.out HFS.out)
       have s0 := (HS.out.blk.below HBSi.out).cell (j := 0) rfl
       have qk0 : (0 : Int) ≤ (k : Int) := by omega
       have qk1 : (k : Int) < x.alts.length := by omega
       go_wp2_with fail
       refine Qe [(true, 0), (true, 1), (true, 2), (true, 3), (true, 4), (true, 5), (true, 6), (true, 7), (false, 8), (true, 9), (true, 10), (true, 11), (true, 12), (true, 13), (true, 14), (true, 15), (true, 16), (true, 17), (false, 18), (true, 19), (true, 20)] [] (fun W' => Below wr.heap.size wr W') (by kernel_rfl) (by kernel_rfl) (fun _ _ d _ _ h => by cases d <;> exact h) ⟨rfl, rfl, rfl, Nat.le_refl _, fun _ _ => rfl⟩ ?_
       iterate 8
        refine Tb 125 (y := fun w' hSw => by
         have t0 := Cb hSw s0; have t1 := Cb hSw d1
         go_simp
         try with_reducible rfl) (h := ?_)
       refine Run.step (some 133) (by rfl) (by rfl) ?_
       intro K hK
       go_simp
       refine (Jj a.names nm (by omega) A1 cc1 wr.drew (Kd.C_below HC1.out ⟨rfl, rfl, rfl, Nat.le_refl _, fun _ _ => rfl⟩) HCC.out).mono ?_
       rintro e w3 ⟨rfl, hb3⟩
       have HB3 := Wd (Qj hb3)
       refine hK.out _ _ (fun _ => HB3.out) ?_
       clear hK K hb3
       try simp only [Act.put, heap_drew, Nat.reduceAdd, Jla, Jlb, Jlc]
       by_cases hm : nm ∈ a.names
       case pos =>
        rw [decide_eq_true hm]
        have HGK := Wd (show (z1.alts.map fA)[k]'(by rw [HML.out]; exact hkz) = z1.alts[k] from by rw [List.getElem_map, ← HAE.out, HFA.out]; simp only; rw [if_pos (.inl hm)])
        clear hm
        refine Tb 125 (v := .bool true) (y := fun w' hSw => by
         exact f12) (h := ?_)
        iterate 8
         refine Run.passB 125 (by rfl) (by rfl) (by rfl) ?_
         simp only [Act.put, heap_drew, Nat.reduceAdd, Jla, Jlb, Jlc]
        refine Run.step (some 143) (by rfl) (by rfl) ?_
        intro K hK
        go_simp
        refine hK.out _ _ (fun _ => HB3.out) ?_
        clear hK K
        try simp only [Act.put, heap_drew, Nat.reduceAdd, Jla, Jlb, Jlc]
        iterate 1
         refine Run.passB 125 (by rfl) (by rfl) (by rfl) ?_
         simp only [Act.put, heap_drew, Nat.reduceAdd, Jla, Jlb, Jlc]
        refine Tb 125 (v := .bool true) (y := fun w' hSw => by
         exact f12) (h := ?_)
        refine Run.nil ?_
        have ⟨HI3, BP3, BR3⟩ := Wq (HI.out.on HB3.out) (BP.out.below HB3.out) (BR.out.below HB3.out)
        clear p6 s0 d1 d2 d3 d4 d5 d6 d7 d8
        go_wp2
        go_roundw
        case rel => exact ⟨k + 1, by omega, by go_num, Wd (by rw [← Vq HML.out hkz HGK.out]; exact HI3.out), BP3, BR3⟩
        case measure => simp [intOf]; omega
       rw [decide_eq_false hm]
       have HNM := Wd hm
       clear hm
       refine Tb 125 (v := .bool false) (y := fun w' hSw => by
        exact f12) (h := ?_)
       iterate 8
        refine Tb 125 (y := fun w' hSw => by
         have ⟨t0, t2, t3, t4, t5, t6, t7⟩ := Cb7 hSw s0 d2 d3 d4 d5 d6 d7; have t8 := Cb hSw d8
         go_simp
         try with_reducible rfl) (h := ?_)
       refine Run.step (some 143) (by rfl) (by rfl) ?_
       intro K hK
       go_simp
       refine (qgc nm a.body HPA.out.1.fit.bulk w3 _ ((Ja _ _).K_below HB3.out (Yo HO7.out.own))).mono ?_
       rintro e w4 ⟨rfl, hb4⟩
       have HB4 := Wd (HB3.out.trans (hb4.mono HB3.out.size))
       refine hK.out _ _ (fun _ => HB4.out) ?_
       clear hK K hb4
       try simp only [Act.put, heap_drew, Nat.reduceAdd, Jla, Jlb, Jlc]
       have ⟨HI4, BP4, BR4⟩ := Wq (HI.out.on HB4.out) (BP.out.below HB4.out) (BR.out.below HB4.out)
       by_cases hh : Vg nm a.body = true
       case neg =>
        rw [Bool.not_eq_true] at hh
        have HGK := Wd (show (z1.alts.map fA)[k]'(by rw [HML.out]; exact hkz) = z1.alts[k] from by rw [List.getElem_map, ← HAE.out, HFA.out]; simp only; rw [if_pos (.inr hh)])
        rw [hh]
        clear hh
        refine Tb 125 (v := .bool true) (y := fun w' hSw => by
         exact f12) (h := ?_)
        refine Tb 125 (v := .bool true) (y := fun w' hSw => by
         exact f12) (h := ?_)
        refine Run.nil ?_
        clear p6 s0 d1 d2 d3 d4 d5 d6 d7 d8
        go_wp2
        go_roundw
        case rel => exact ⟨k + 1, by omega, by go_num, Wd (by rw [← Vq HML.out hkz HGK.out]; exact HI4.out), BP4, BR4⟩
        case measure => simp [intOf]; omega
       have HHAS := Wd hh
       rw [hh]
       clear hh
       refine Tb 125 (v := .bool false) (y := fun w' hSw => by
        exact f12) (h := ?_)
       refine Tb 125 (v := .bool false) (y := fun w' hSw => by
        exact f12) (h := ?_)
       refine Run.nil ?_
       have HI4' := Wd (show Inv (w.heap.size + 2) F w { z1 with alts := (mix (z1.alts.map fA) z1.alts k).set k (qko nm free all a 0) } (.slice A3 x.limbs.length c3) (.slice A4 x.names.length c4) (.slice (some ⟨g5, 0, none⟩) x.kids.length c5) (.slice (some ⟨g6, 0, none⟩) x.alts.length c6) w4 from by
        have h := HI4.out
        rw [show qko nm free all a 0 = (mix (z1.alts.map fA) z1.alts k)[k]'(by rw [Zg HML.out]; exact hkz) from by rw [Xf HML.out hkz, ← HAE.out]; rfl, List.set_getElem_self]; exact h)
       clear p6 s0 d1 d2 d3 d4 d5 d6 d7 d8 HI HI4 BP BR HC1 HCC HO7 HB3 HB4
       go_wp2_with fail
       go_loopw [9] (fun s9 wr => ∃ i : Nat, i ≤ a.names.length ∧ s9 = .int .i64 i ∧ Hid (Inv (w.heap.size + 2) F w { z1 with alts := (mix (z1.alts.map fA) z1.alts k).set k (qko nm free all a i) } (.slice A3 x.limbs.length c3) (.slice A4 x.names.length c4) (.slice (some ⟨g5, 0, none⟩) x.kids.length c5) (.slice (some ⟨g6, 0, none⟩) x.alts.length c6) wr) ∧ Hid (Blk wr w.heap.size 35 [.int .i64 x.kind, .string z.name, .bool x.minus, .slice A3 x.limbs.length c3, .slice A4 x.names.length c4, .slice (some ⟨g5, 0, none⟩) x.kids.length c5, .slice (some ⟨g6, 0, none⟩) x.alts.length c6]) ∧ Hid (Blk wr (w.heap.size + 1) 35 [.int .i64 0, .string ⟨#[]⟩, .bool false, .slice none 0 0, .slice none 0 0, .slice none 0 0, .slice none 0 0])) (fun s9 _ => a.names.length - (intOf s9).toNat)
       case atStart => exact ⟨0, Nat.zero_le _, rfl, HI4', BP4, BR4⟩
       clear HI4' BP4 BR4
       case round =>
        obtain ⟨i, hi, rfl, HI, BP, BR⟩ := hrel
        obtain ⟨b, hb⟩ : ∃ b, b = qko nm free all a i := ⟨_, rfl⟩
        rw [← hb] at HI
        have HBE := Wd hb
        have HAK := Wd (show AltK nm a b from by rw [hb]; exact qey HE.out HPA.out.1 HNM.out i hi)
        clear hb
        have HBL := Wd HAK.out.nl
        have hbn : b.names.length ≤ 60000 := by have := HAK.out.fit.t; omega
        obtain ⟨g6', cap6', c1', A1, cc1, cx, post', hv6, hcap6, hl6, hb6, hcc, hC1, hg6F, ⟨Gx, hox, hnx, hsx, hgx, hltx, hcl⟩, hnam⟩ := HI.out.altAt (by omega) rfl (show _ = x.alts.length from by rw [List.length_set, Zg HML.out]; exact HZA.out.2) hlk (a := b) (fun h => by simp)
        simp only [Value.slice.injEq, true_and, Option.some.injEq, Addr.mk.injEq, and_true] at hv6
        obtain ⟨rfl, rfl⟩ := hv6
        obtain ⟨u3, u4, u5, u6, rfl, hO7⟩ := Own7.of hox hnx
        obtain ⟨-, d1, d2, d3, d4, d5, d6, d7, d8⟩ := Blk.nine hb6 hl6
        have ⟨HC1, HCC, HO7, HBLK6, HCL6, HL6, HNAM⟩ := Wk hC1 hcc hO7 hb6 hcl hl6 hnam
        have HG6 := Wd (show g6 ∉ Gx ∧ (g6 ∈ F ∨ w.heap.size + 2 ≤ g6) ∧ (∀ i ∈ Gx, i ∈ F ∨ w.heap.size + 2 ≤ i) from ⟨hgx, hg6F, hsx⟩)
        clear hC1 hcc hO7 hb6 hcl hl6 hnam hgx hg6F hsx hltx hox hnx
        by_cases hli : i < b.names.length
        ·obtain ⟨s, hs⟩ : ∃ s, s = b.names[i] := ⟨_, rfl⟩
         obtain ⟨g1, dd, dp, rfl, hl1, hb1, hg1F, hg1, hcl1⟩ := HNAM.out i hli
         rw [← hs] at hb1
         have n0 : wr.cell? ⟨g1, i, none⟩ = some (.string s) := hb1.cell (by rw [List.getElem?_append_right (by omega), hl1, Nat.sub_self]; rfl)
         have ⟨HSE, HB1, HCL1, HG1, HL1⟩ := Wz hs hb1 hcl1 (show g1 ≠ g6 from hg1) hl1
         clear hs hb1 hcl1 hg1F hl1 hg1
         have HBSi := Wd (HI.out.below HB.out HFS.out)
         have s8 := (HS.out.blk.below HBSi.out).cell (j := 8) rfl
         have qi0 : (0 : Int) ≤ (i : Int) := by omega
         have qi1 : (i : Int) < b.names.length := by omega
         go_wp2_with fail
         refine Qe [(true, 0), (true, 1), (true, 2), (true, 3), (true, 4), (true, 5), (true, 6), (true, 7), (true, 8), (true, 9), (true, 10), (false, 11)] [] (fun W' => Below wr.heap.size wr W') (by kernel_rfl) (by kernel_rfl) (fun _ _ d _ _ h => by cases d <;> exact h) ⟨rfl, rfl, rfl, Nat.le_refl _, fun _ _ => rfl⟩ ?_
         iterate 11
          refine Tb 155 (y := fun w' hSw => by
           have ⟨t8, t1, t0⟩ := Cb3 hSw s8 d1 n0
           go_simp
           try with_reducible rfl) (h := ?_)
         refine Run.step (some 166) (by rfl) (by rfl) ?_
         intro K hK
         go_simp
         refine (Jj free s (by have := HFL.out; omega) Af cf _ (Kd.C_below HS.out.fc (show Below S.heap.size S wr.drew from ⟨HBSi.out.os, HBSi.out.tape, HBSi.out.output, HBSi.out.size, HBSi.out.block⟩)) HS.out.fl).mono ?_
         rintro e w3 ⟨rfl, hb3⟩
         have HB3 := Wd (Qj hb3)
         refine hK.out _ _ (fun _ => HB3.out) ?_
         clear hK K hb3
         refine Run.nil ?_
         have ⟨HI3, BP3, BR3⟩ := Wq (HI.out.on HB3.out) (BP.out.below HB3.out) (BR.out.below HB3.out)
         by_cases hm : s ∈ free
         case neg =>
          rw [decide_eq_false hm]
          have HX := Wd (show qko nm free all a (i + 1) = b from by rw [qab, ← HBE.out]; exact Uz hli (by rw [← HSE.out]; exact hm))
          clear hm n0 s8 d1 d2 d3 d4 d5 d6 d7 d8
          go_wp2
          go_roundw
          case rel => exact ⟨i + 1, (by have := HBL.out; omega), by go_num, Wd (by rw [HX.out]; exact HI3.out), BP3, BR3⟩
          case measure => simp [intOf]; have := HBL.out; omega
         rw [decide_eq_true hm]
         have HM := Wd hm
         clear hm
         replace d1 := Cb HB3.out d1; replace d2 := Cb HB3.out d2; replace d3 := Cb HB3.out d3; replace d4 := Cb HB3.out d4; replace d5 := Cb HB3.out d5; replace d6 := Cb HB3.out d6; replace d7 := Cb HB3.out d7; replace d8 := Cb HB3.out d8; replace n0 := Cb HB3.out n0
         have HO3 := Wd (HO7.out.move (fun i hi => HB3.out.block i (HO7.out.lt i hi)))
         clear s8
         go_wp2_with fail
         refine Jg [0, 1, 2, 3, 4, 5, 6, 7] [] ([8, 9] ++ [10]) [11] [175, 176, 10] (by kernel_rfl) (fun W' => Below w3.heap.size w3 W') (Both [176] [10] (fun vs wt Ft => ∃ q1, vs = [.agg #[.int .i64 6, .string ⟨#[]⟩, .bool false, .slice none 0 0, .slice (some ⟨g1, 0, none⟩) b.names.length cc1, .slice (some ⟨q1, 0, none⟩) 1 1, .slice none 0 0]] ∧ Blk wt q1 35 [.int .i64 b.body.kind, .string b.body.name, .bool b.body.minus, u3, u4, u5, u6] ∧ Ft = [q1]) (fun vs wt Ft => ∃ q2, vs = [.pointer (some ⟨q2, 0, none⟩)] ∧ Blk wt q2 35 [.int .i64 0, .string ⟨#[]⟩, .bool false, .slice none 0 0, .slice none 0 0, .slice none 0 0, .slice none 0 0] ∧ Ft = [q2])) (by kernel_rfl) (by kernel_rfl) (fun _ _ d _ _ h => by cases d <;> exact h) (fun w' hb => hb) ?_
         iterate 8
          refine Yb 167 (y := fun w' hSw => by
           have ⟨t1, t2, t3, t4, t5, t6, t7⟩ := Cb7 hSw d1 d2 d3 d4 d5 d6 d7; have t8 := Cb hSw d8
           go_simp
           try with_reducible rfl) (h := ?_)
         refine YAll.nil (YAll.nil ⟨?ct, ?cu⟩)
         case ct =>
          refine Thr.par (T1 := [8, 9]) (T2 := [10]) 2 1 [176] [10] _ _ (by kernel_rfl) (Nat.le_refl _) ?_ ?_
          ·refine Thr.new (fun g => .slice (some ⟨g, 0, none⟩) 1 1) (.cells #[.int .i64 b.body.kind, .string b.body.name, .bool b.body.minus, u3, u4, u5, u6] 35) (some 175) (by rfl) rfl (by kernel_rfl) rfl (fun w' hb => by go_simp) ?_
           intro g w4 hg1 hg2 hg3 hb4
           simp only [Act.put, heap_drew, Nat.reduceAdd, Jla, Jlb, Jlc]
           refine Thr.value (v := .agg #[.int .i64 6, .string ⟨#[]⟩, .bool false, .slice none 0 0, .slice (some ⟨g1, 0, none⟩) b.names.length cc1, .slice (some ⟨g, 0, none⟩) 1 1, .slice none 0 0]) (some 176) (by rfl) rfl (by kernel_rfl) rfl (by simp) (by simpa using hg2) (fun w' hb hk => by go_simp) ?_
           intro w5 hb5 hk5
           exact Thr.done _ (fun w6 hb6 hk6 => ⟨g, rfl, hk6.blk (hk5.blk hg3 (by simp)) (by simp), rfl⟩)
          ·refine Thr.new (fun g => .pointer (some ⟨g, 0, none⟩)) (.cells #[.int .i64 0, .string ⟨#[]⟩, .bool false, .slice none 0 0, .slice none 0 0, .slice none 0 0, .slice none 0 0] 35) (some 10) (by rfl) rfl (by kernel_rfl) rfl (fun w' hb => by go_simp) ?_
           intro g w4 hg1 hg2 hg3 hb4
           exact Thr.done _ (fun w6 hb6 hk6 => ⟨g, rfl, hk6.blk hg3 (by simp), rfl⟩)
         case cu =>
          rintro u w4 Fu hb hnd hFu ⟨F1, F2, rfl, ⟨q1, e1, hb1, rfl⟩, ⟨q2, e2, hb2, rfl⟩⟩
          simp only [List.map_cons, List.map_nil, List.cons.injEq, and_true] at e1 e2
          simp only [qde, List.foldl_cons, List.foldl_nil, Act.put, Jla, Jlb, Jlc, qmf, List.map_cons, List.map_nil, List.getD_cons_succ, List.getD_cons_zero, e1, e2]
          have hb4 := Qj hb
          have hq2 : w3.heap.size ≤ q2 := (hFu q2 (by simp)).1
          have hq12 : q1 ≠ q2 := by simp at hnd; exact hnd
          refine Qc q2 0 [] [.int .i64 0, .string ⟨#[]⟩, .bool false, .slice none 0 0, .slice none 0 0, .slice none 0 0, .slice none 0 0] [] [.int .i64 6, .string ⟨#[]⟩, .bool false, .slice none 0 0, .slice (some ⟨g1, 0, none⟩) b.names.length cc1, .slice (some ⟨q1, 0, none⟩) 1 1, .slice none 0 0] 35 (by rfl) 35 _ _ (by rfl) (by rfl) rfl (by rfl) hb2 rfl (by kernel_rfl) ?honez ?_
          case honez => intro v hv; simp at hv; rcases hv with rfl | rfl | rfl | rfl | rfl | rfl | rfl <;> rfl
          intro w5 hb5 hg5 hs5
          have HB5 := Wd (qax hb4 hg5 (by intro k hk; simp at hk; omega))
          have HQ2 := Wd hb5
          have HQ1 := Wd (show Blk w5 q1 35 [.int .i64 b.body.kind, .string b.body.name, .bool b.body.minus, u3, u4, u5, u6] from hb1.grownO hg5 (fun e => hq12 (by injection e)))
          clear hb hnd hFu e1 e2 hb1 hb2 hb4 hq2 hq12 hb5 hg5 hs5
          have ⟨HI5, BP5, BR5⟩ := Wq (HI3.out.on HB5.out) (BP3.out.below HB5.out) (BR3.out.below HB5.out)
          have HO5 := Wd (HO3.out.move (fun i hi => HB5.out.block i (HO3.out.lt i hi)))
          have HK5 := Wd (one_K (Yo HO5.out.own) rfl (Kd.C_below HC1.out (HB3.out.trans (HB5.out.mono HB3.out.size))) HCC.out HQ1.out)
          replace d1 := Cb HB5.out d1; replace d2 := Cb HB5.out d2; replace d3 := Cb HB5.out d3; replace d4 := Cb HB5.out d4; replace d5 := Cb HB5.out d5; replace d6 := Cb HB5.out d6; replace d7 := Cb HB5.out d7; replace d8 := Cb HB5.out d8; replace n0 := Cb HB5.out n0
          have ⟨o0, o1, o2, o3, o4, o5, o6⟩ := Cz HQ2.out
          go_wp2_with fail
          refine Qe [(true, 0), (true, 1), (true, 2), (true, 3), (true, 4), (true, 5), (true, 6), (true, 7), (true, 8), (false, 9), (false, 10), (true, 11)] [] (fun W' => Below w5.heap.size w5 W') (by kernel_rfl) (by kernel_rfl) (fun _ _ d _ _ h => by cases d <;> exact h) ⟨rfl, rfl, rfl, Nat.le_refl _, fun _ _ => rfl⟩ ?_
          iterate 9
           refine Tb 177 (y := fun w' hSw => by
            have ⟨t1, t0, r0, r1, r2, r3, r4⟩ := Cb7 hSw d1 n0 o0 o1 o2 o3 o4; have r5 := Cb hSw o5; have r6 := Cb hSw o6
            go_simp
            try with_reducible rfl) (h := ?_)
          refine Run.step (some 186) (by rfl) (by rfl) ?_
          intro K hK
          go_simp
          refine (qag HS.out (by have := HE.out.al; omega) (qlg b) (qnd HAK.out.fit).1 (by have := (qnd HAK.out.fit).2; omega) w5.drew _ (by have h := HI5.out.below HB.out HFS.out; exact ⟨h.os, h.tape, h.output, h.size, h.block⟩) (Kd.K_drew' HK5.out)).mono ?_
          rintro e w6 ⟨u, rfl, ho6, hb6⟩
          have HB6 := Wd (Qj hb6)
          refine hK.out _ _ (fun _ => HB6.out) ?_
          clear hK K hb6
          obtain ⟨av, hav⟩ : ∃ av, av = all ++ (qbk (qlg b) ++ [nm]) := ⟨_, rfl⟩
          have HAV := Wd (show av.length ≤ 3000000 from by
           rw [hav, List.length_append, List.length_append, List.length_singleton]
           have := HE.out.al; have := (qnd HAK.out.fit).2; have := Jx (Zc (qlg b)) []
           unfold qbk; simp at this; omega)
          obtain ⟨t, ht⟩ : ∃ t, t = Zt av s := ⟨_, rfl⟩
          have HT := Wd (show t = qwv nm all b s from by rw [ht, hav, qfr nm all (qlg b) s, qwv, Uc, qtf])
          rw [← hav] at ho6
          obtain ⟨A7, c7, rfl, l7, hC7⟩ := (Zk (by decide) ho6).1.readsS
          have HC7 := Wd hC7
          clear ho6 hC7 hav
          try simp only [Act.put, heap_drew, Nat.reduceAdd, Jla, Jlb, Jlc]
          refine Run.step (some 187) (by rfl) (by rfl) ?_
          intro K hK
          go_simp
          refine (qfl av (by have := HAV.out; omega) s (by have := HE.out.fr s HM.out; omega) A7 c7 _ HC7.out l7).mono ?_
          rintro e w7 ⟨rfl, hb7⟩
          rw [← ht]
          have HB7 := Wd (HB6.out.trans (hb7.mono HB6.out.size))
          refine hK.out _ _ (fun _ => HB7.out) ?_
          clear hK K hb7 ht
          try simp only [Act.put, heap_drew, Nat.reduceAdd, Jla, Jlb, Jlc]
          refine Tk (some 11) (y := fun w' hSw => by
           go_simp
           try with_reducible rfl) (h := ?_)
          refine Run.nil ?_
          have ⟨HI7, BP7, BR7⟩ := Wq (HI5.out.on HB7.out) (BP5.out.below HB7.out) (BR5.out.below HB7.out)
          have HO7' := Wd (HO5.out.move (fun i hi => HB7.out.block i (HO5.out.lt i hi)))
          have HB37 := Wd (show Below wr.heap.size wr w7 from (HB3.out.trans (HB5.out.mono HB3.out.size)).trans (HB7.out.mono (Nat.le_trans HB3.out.size HB5.out.size)))
          replace d1 := Cb HB7.out d1; replace d2 := Cb HB7.out d2; replace d3 := Cb HB7.out d3; replace d4 := Cb HB7.out d4; replace d5 := Cb HB7.out d5; replace d6 := Cb HB7.out d6; replace d7 := Cb HB7.out d7; replace d8 := Cb HB7.out d8; replace n0 := Cb HB7.out n0
          clear o0 o1 o2 o3 o4 o5 o6 HI5 BP5 BR5 HI3 BP3 BR3 HO5 HO3 HK5 HQ1 HQ2
          go_wp2_with fail
          refine Qe [(true, 0), (true, 1), (true, 2), (true, 3), (true, 4), (true, 5), (true, 6), (true, 7), (true, 8), (true, 9), (true, 10), (true, 11), (true, 12), (false, 13), (true, 14), (true, 15), (false, 16)] [16] (fun W' => Below w7.heap.size w7 W') (by kernel_rfl) (by kernel_rfl) (fun _ _ d _ _ h => by cases d <;> exact h) ⟨rfl, rfl, rfl, Nat.le_refl _, fun _ _ => rfl⟩ ?_
          iterate 13
           refine Tb 188 (y := fun w' hSw => by
            have ⟨t1, t2, t3, t4, t5, t6, t7⟩ := Cb7 hSw d1 d2 d3 d4 d5 d6 d7; have t8 := Cb hSw d8; have t0 := Cb hSw n0
            go_simp
            try with_reducible rfl) (h := ?_)
          refine Run.step (some 201) (by rfl) (by rfl) ?_
          intro K hK
          go_simp
          refine (qpc s t b.body HAK.out.fit.fit.bulk w7.drew _ (Kd.K_drew' (Yo HO7'.out.own))).mono ?_
          rintro e w8 ⟨cx', Gx', rfl, ho8, hn8, hf8, hb8⟩
          obtain ⟨Z3, z3, Z4, z4, Z5, z5, Z6, z6, rfl⟩ := Zi ho8
          have HB8 := Wd (Qj hb8); have HO8 := Wd ho8
          have HN8 := Wd (show Gx'.Nodup ∧ ∀ j ∈ Gx', w7.heap.size ≤ j from ⟨hn8, hf8⟩)
          refine hK.out _ _ (fun _ => HB8.out) ?_
          clear hK K ho8 hn8 hf8 hb8
          try simp only [Act.put, heap_drew, Nat.reduceAdd, Jla, Jlb, Jlc]
          iterate 2
           refine Tb 188 (y := fun w' hSw => by
            go_simp
            try with_reducible rfl) (h := ?_)
          refine Run.step none (by rfl) (by rfl) ?_
          intro K hK
          have HB48 := Wd (HB37.out.trans (HB8.out.mono HB37.out.size))
          refine Qw g6 (k * 9 + 2) (c1' ++ [.string b.con, .slice (some ⟨g1, 0, none⟩) b.names.length cc1]) [.int .i64 b.body.kind, .string b.body.name, .bool b.body.minus, u3, u4, u5, u6] post' (Qb (rn s t b.body) Z3 z3 Z4 z4 Z5 z5 Z6 z6) 76 (by rfl) 35 _ _ (by rfl) (by rfl) (by simp [HL6.out]) (by rfl) (HBLK6.out.below HB48.out) rfl (by kernel_rfl) (Xg _ _ _ _ _ _ _ _ _) ?_
          intro w9 hb9 hg9 hs9
          have HI9 := Wd (HCL6.out (rn s t b.body) _ Gx' w8 w9 HO8.out HN8.out.1 (fun j hj => .inr (Nat.le_trans HB37.out.size (HN8.out.2 j hj))) (But.of_below HB48.out) hg9 (by simpa [List.append_assoc] using hb9))
          have BP9 := Wd ((BP7.out.below HB8.out).grownO hg9 (fun e => HI.out.far HG6.out.2.1 (Nat.le_refl _) (by omega) (by injection e)))
          have BR9 := Wd ((BR7.out.below HB8.out).grownO hg9 (fun e => HI.out.far HG6.out.2.1 (Nat.le_succ _) (by omega) (by injection e)))
          have HN9 := Wd (show Blk w9 g1 9 (dd ++ ([.string s] ++ dp)) from (HB1.out.below HB48.out).grownO hg9 (fun e => HG1.out (by injection e)))
          refine hK.out _ _ (fun h => absurd (by decide) h) ?_
          have e1 : w9.cell? ⟨g6, k * 9 + 1, none⟩ = some (.slice (some ⟨g1, 0, none⟩) b.names.length cc1) := hb9.cell (by rw [List.getElem?_append_left (by simp [HL6.out]), List.getElem?_append_right (by rw [HL6.out]; omega), HL6.out, Nat.add_sub_cancel_left]; rfl)
          clear hK K hb9 hg9 hs9 d1 d2 d3 d4 d5 d6 d7 d8 n0 HI7 BP7 BR7 HCL6 HO8 HO7'
          refine Run.nil ?_
          go_simp
          obtain ⟨b2, hb2⟩ : ∃ b2 : AltT, b2 = { b with body := rn s t b.body } := ⟨_, rfl⟩
          have HI9' := Wd (show Inv (w.heap.size + 2) F w { z1 with alts := (mix (z1.alts.map fA) z1.alts k).set k b2 } (.slice A3 x.limbs.length c3) (.slice A4 x.names.length c4) (.slice (some ⟨g5, 0, none⟩) x.kids.length c5) (.slice (some ⟨g6, 0, none⟩) x.alts.length c6) w9 from by have h := HI9.out; (try simp only at h); rw [List.set_set, ← hb2] at h; exact h)
          have HB2 := Wd hb2
          clear hb2 HI9
          obtain ⟨g6', cap6', c2', A1', cc2, cx, post2, hv6, -, hl6, hb6, -, -, -, -, hnam⟩ := HI9'.out.altAt (by omega) rfl (show _ = x.alts.length from by rw [List.length_set, Zg HML.out]; exact HZA.out.2) hlk (a := b2) (fun h => by simp)
          simp only [Value.slice.injEq, true_and, Option.some.injEq, Addr.mk.injEq, and_true] at hv6
          obtain ⟨rfl, -⟩ := hv6
          have e1' : w9.cell? ⟨g6, k * 9 + 1, none⟩ = some (.slice A1' b2.names.length cc2) := hb6.cell (by rw [List.getElem?_append_left (by simp [hl6]), List.getElem?_append_right (by rw [hl6]; omega), hl6, Nat.add_sub_cancel_left]; rfl)
          rw [e1] at e1'
          simp only [Option.some.injEq, Value.slice.injEq] at e1'
          obtain ⟨rfl, -, -⟩ := e1'
          obtain ⟨g1', dd2, dp2, he1, hl1, hb1, hg1F, -, hcl1⟩ := hnam i (by rw [HB2.out]; exact hli)
          simp only [Option.some.injEq, Addr.mk.injEq, and_true] at he1
          subst he1
          have ⟨HHL, HHB, HHC, HHF⟩ := Wj hl1 hb1 hcl1 hg1F
          clear hl1 hb1 hcl1 hg1F hnam hb6 hl6
          go_wp2_with (refine Qc g1 i dd2 _ dp2 [.string t] 9 (by rfl) 9 _ _ (by rfl) (by rfl) HHL.out.symm (by rfl) HHB.out rfl (by kernel_rfl) (by intro v hv; rw [List.mem_singleton.1 hv]; rfl) ?_)
          intro wA hbA hgA hsA
          have HIA := Wd (HHC.out t wA hgA hbA)
          have BPA := Wd (BP9.out.grownO hgA (fun e => HI9'.out.far HHF.out (Nat.le_refl _) (by omega) (by injection e)))
          have BRA := Wd (BR9.out.grownO hgA (fun e => HI9'.out.far HHF.out (Nat.le_succ _) (by omega) (by injection e)))
          clear hbA hgA hsA HHC HHB HI9' BP9 BR9 e1
          have HX := Wd (show qko nm free all a (i + 1) = { b2 with names := b2.names.set i t } from by
           rw [qab, ← HBE.out, He hli (by rw [← HSE.out]; exact HM.out), HB2.out, HT.out, HSE.out])
          go_wp2
          go_roundw
          case rel => exact ⟨i + 1, (by have := HBL.out; omega), by go_num, Wd (by have h := HIA.out; (try simp only at h); rw [List.set_set] at h; rw [HX.out]; exact h), BPA, BRA⟩
          case measure => simp [intOf]; have := HBL.out; omega
        ·have hie : i = a.names.length := by have := HBL.out; omega
         have HBC := Wd (show b = Xm nm free all a from by rw [qbr, ← hie]; exact HBE.out)
         have HPB := Wd (show Pre nm bt b.body from by rw [HBC.out]; exact ((HPA.out.2 HNM.out).altBody HE.out HPA.out.1 HNM.out).2)
         obtain ⟨sb, hsb⟩ : ∃ sb, sb = Jb nm bt free all n b.body := ⟨_, rfl⟩
         have HGK := Wd (show { b with body := sb } = (z1.alts.map fA)[k]'(by rw [HML.out]; exact hkz) from by
          exact f93)
         have HSB := Wd hsb
         clear hsb hie
         go_wp2_with fail
         refine (IH.out b.body HPB.out (by have := HAK.out.bd.d; have := HDA.out; have := HD.out; omega) _ u3 u4 u5 u6 Gx HO7.out (HI.out.below HB.out HFS.out) (fun i hi => (HG6.out.2.2 i hi).elim (HFS.out i) (fun h => by have := HB.out.size; omega))).mono ?_
         rw [← HSB.out]
         rintro e w4 ⟨z3, z4, z5, z6, rfl, hI4⟩
         have HI4 := Wd hI4
         have HBT4 := Wd (show But Gx wr w4 from hI4.but)
         clear hI4 d1 d2 d3 d4 d5 d6 d7 d8
         have HWS := Wd (show w.heap.size + 2 ≤ wr.heap.size from HI.out.ls)
         go_wp2_with (refine Qc g6 (k * 9 + 2) (c1' ++ [.string b.con, .slice A1 b.names.length cc1]) [.int .i64 b.body.kind, .string b.body.name, .bool b.body.minus, u3, u4, u5, u6] post' [.int .i64 sb.kind, .string sb.name, .bool sb.minus, z3, z4, z5, z6] 76 (by rfl) 35 _ _ (by rfl) (by rfl) (by simp [HL6.out]) (by rfl) (HBT4.out.blk HBLK6.out HG6.out.1) rfl (by kernel_rfl) ?hone ?_)
         case hone => obtain ⟨Z3, y3, Z4, y4, Z5, y5, Z6, y6, rfl, rfl, rfl, rfl, -⟩ := HI4.out.form; exact Xg _ _ _ _ _ _ _ _ _
         intro w5 hb5 hg5 hs5
         obtain ⟨G', hG', hGs⟩ := HI4.out.ex
         have HI5 := Wd (HCL6.out sb _ G' w4 w5 hG'.own hG'.nd hGs HBT4.out hg5 (by simpa [List.append_assoc] using hb5))
         have BP5 := Wd ((HBT4.out.blk BP.out (fun h => (HG6.out.2.2 _ h).elim (fun h => by have := HLT.out _ h; omega) (fun h => by omega))).grownO hg5 (fun e => HI.out.far HG6.out.2.1 (Nat.le_refl _) (by omega) (by injection e)))
         have BR5 := Wd ((HBT4.out.blk BR.out (fun h => (HG6.out.2.2 _ h).elim (fun h => by have := HLT.out _ h; omega) (fun h => by omega))).grownO hg5 (fun e => HI.out.far HG6.out.2.1 (Nat.le_succ _) (by omega) (by injection e)))
         clear hb5 hg5 hs5 hG' hGs HI4 HCL6 HBLK6 HBT4 HO7
         go_wp2
         go_roundw
         case rel => exact ⟨k + 1, by omega, by go_num, Wd (by have h := HI5.out; (try simp only at h); rw [List.set_set, Ki HML.out hkz HGK.out] at h; exact h), BP5, BR5⟩
         case measure => simp [intOf]; have := HBL.out; omega
      ·have hkk : k = z1.alts.length := by rw [HZA.out.2]; omega
       have hin := HI.out
       rw [hkk, Xj HML.out] at hin
       have HIN := Wd hin
       clear hkk hin HI
       have p0 := BP.out.cell (j := 0) rfl; have p1 := BP.out.cell (j := 1) rfl; have p2 := BP.out.cell (j := 2) rfl; have p3 := BP.out.cell (j := 3) rfl; have p4 := BP.out.cell (j := 4) rfl; have p5 := BP.out.cell (j := 5) rfl
       go_wp2_with (refine Wv (w.heap.size + 1) [.int .i64 x.kind, .string z.name, .bool x.minus, .slice A3 x.limbs.length c3, .slice A4 x.names.length c4, .slice (some ⟨g5, 0, none⟩) x.kids.length c5, .slice A6 x.alts.length c6] BR.out ?_)
       intro w9 hblk9 hg9 hsz9
       have ⟨kk0, kk1, kk2, kk3, kk4, kk5, kk6⟩ := Cz hblk9
       have HI9 := Wd (HIN.out.grown (Nat.le_succ _) (by omega) hg9)
       clear hblk9 hg9
       go_wp2
       refine bodyPost_ret (v := .agg #[.int .i64 x.kind, .string z.name, .bool x.minus, .slice A3 x.limbs.length c3, .slice A4 x.names.length c4, .slice (some ⟨g5, 0, none⟩) x.kids.length c5, .slice A6 x.alts.length c6]) (by simp [results, Tryz.results73, go_sem, kk0, kk1, kk2, kk3, kk4, kk5, kk6]) rfl ?_
       have hst : Jb nm bt free all (n + 1) x = { z1 with alts := z1.alts.map fA } := by
        rw [Jb, if_neg (by have := HK.out; omega), if_neg (by have := HK.out; omega), if_pos HK.out]
        simp only
        rw [if_neg HN.out, ← HY0.out, ← HY.out, ← HZ.out, HFA.out, HZ1.out]
       rw [hst, HZ1.out]
       refine ⟨_, _, _, _, ?_, by have h := HI9.out.weaken (L' := w.heap.size) (by omega); rw [HZ1.out] at h; exact h⟩
       simp only
       rw [HZL.out.2.2.1, HZL.out.2.2.2]
end Go.Proofs.YtnoammmohdmnjaaGreat.C13
