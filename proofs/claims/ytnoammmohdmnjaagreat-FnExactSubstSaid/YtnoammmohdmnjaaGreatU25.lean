import Derived.Test.YtnoammmohdmnjaaGreatU24
set_option maxRecDepth 100000
set_option maxHeartbeats 16000000
set_option linter.unusedVariables false
set_option linter.unusedSimpArgs false
namespace Go.Proofs.YtnoammmohdmnjaaGreat.C13
open Go.RowKit Go.Proofs.YtnoammmohdmnjaaGreatW.PrintWords
open List renaming setIfInBounds_toArray → Jla, set_cons_zero → Jlb, set_cons_succ → Jlc
theorem Kq (fr tn : ByteArray) (h h2 : Bool) (l : List CoreT) : (fvC fr tn h h2 l).length = l.length := by
 rw [qkx]; cases l <;> simp
theorem qom (fr tn : ByteArray) (h h2 : Bool) (l : List CoreT) (hl : 0 < l.length) : (fvC fr tn h h2 l)[0]'(by rw [Kq]; exact hl) = fv fr tn h l[0] := by
 cases l with
 | nil => cases hl
 | cons c r => simp only [qkx, List.getElem_cons_zero]
theorem qwc (fr tn : ByteArray) (h h2 : Bool) (l : List CoreT) (j : Nat) (hl : j + 1 < l.length) : (fvC fr tn h h2 l)[j + 1]'(by rw [Kq]; exact hl) = fv fr tn h2 l[j + 1] := by
 cases l with
 | nil => cases hl
 | cons c r => simp only [qkx, List.getElem_cons_succ, List.getElem_map]
theorem qfn : ∀ (l : List AltT) (x : AltT), Qq (l ++ [x]) = Qq l + (1 + Us x)
 | [], x => by simp [Qq]
 | c :: r, x => by rw [List.cons_append, Qq, Qq, qfn r x]; omega
theorem Hc (l : List AltT) (k : Nat) (hk : k < l.length) : Qq (l.take (k + 1)) = Qq (l.take k) + (1 + Us l[k]) := by rw [Qf hk, qfn]
theorem Kw : ∀ (l : List AltT) (k : Nat), Qq (l.take k) ≤ Qq l
 | [], k => by simp
 | c :: r, 0 => by simp [Qq]
 | c :: r, k + 1 => by rw [List.take_succ_cons, Qq, Qq]; have := Kw r k; omega
theorem qdr {w : World} {nb : Nat} {s : ByteArray} (h : Blk w nb 9 [.string s]) : Kd.string.C w (some ⟨nb, 0, none⟩) 1 [s] := by
 have hr : Row w 9 (.slice (some ⟨nb, 0, none⟩) 1 1) [s].length (Xa [s]) [nb] := .inr ⟨nb, 1, [], rfl, Nat.le_refl _, by decide, by simpa [Xa] using h, rfl⟩
 obtain ⟨A, c, e, _, hC⟩ := hr.readsS
 injection e with e1 e2 e3
 subst e1
 exact hC
theorem qex {x : CoreT} {v3 v4 v5 v6 : Value} {F3 F4 F5 F6 G5 G6 : List Nat} {n m : Nat} {ks : List CoreT} {ls : List AltT} {w : World} (h : RnX x v3 v4 v5 v6 F3 F4 F5 F6 G5 G6 n m ks ls w) {k : Nat} (hk : k < ls.length) :
  ∃ g cap A1 c1, v6 = .slice (some ⟨g, 0, none⟩) m cap ∧ ls[k].names.length ≤ c1 ∧ Kd.string.C w A1 ls[k].names.length ls[k].names ∧ w.cell? ⟨g, k * 9 + 1, none⟩ = some (.slice A1 ls[k].names.length c1) := by
 obtain ⟨g, cap, c1, v1, cx, post, Gx, hv6, hcap, hl, hblk, ⟨F1, hrow, _⟩, _⟩ := h.alt hk
 obtain ⟨A1, cc1, rfl, l1, hC1⟩ := hrow.readsS
 exact ⟨g, cap, A1, cc1, hv6, l1, hC1, Blk.at (pre := c1 ++ [.string ls[k].con]) (c := .slice A1 ls[k].names.length cc1) (post := cx ++ post) (by simpa using hblk) (by rw [List.length_append, hl]; rfl)⟩
theorem qyz {w : World} {b nb g : Nat} {F G : List Nat} (hb : b < w.heap.size) (hlt : ∀ i ∈ F, i < w.heap.size) (hn : w.heap.size ≤ nb) (hg : g ∈ F) (hG : ∀ i ∈ G, i ∈ F) : nb ∉ b :: g :: G := fun h => by
 rcases List.mem_cons.1 h with h | h
 ·omega
 ·rcases List.mem_cons.1 h with h | h
  ·have := hlt g hg; omega
  ·have := hlt nb (hG _ h); omega
theorem Jw (fr tn : ByteArray) (h : Bool) (l : List AltT) : (Hv fr tn h l).length = l.length := by rw [Hk, List.length_map]
theorem Xd {s : ByteArray} (h : s ≠ ⟨#[]⟩) : 0 < s.size := Nat.pos_of_ne_zero (fun h0 => h (Kj.1 h0))
theorem qon {g b b1 b2 : Nat} {e : TypeId} {cs : List Value} {w wr w' : World} {N : Nat} {H : ByteArray → Int} {c1 c2 : List Value} {x : CoreT} {v3 v4 v5 v6 : Value} {F3 F4 F5 F6 G5 G6 : List Nat} {n m : Nat} {ks : List CoreT} {ls : List AltT} (hX : RnX x v3 v4 v5 v6 F3 F4 F5 F6 G5 G6 n m ks ls wr) (hb : Blk wr g e cs) (hm : CountM wr b N H) (hB : But (b :: g :: (F3 ++ (F4 ++ ((F5 ++ G5) ++ (F6 ++ G6))))) w wr) (h1 : Blk wr b1 9 c1) (h2 : Blk wr b2 9 c2) (hlt : ∀ i ∈ F3 ++ (F4 ++ ((F5 ++ G5) ++ (F6 ++ G6))), i < w.heap.size) (hal : Below wr.heap.size wr w') :
  RnX x v3 v4 v5 v6 F3 F4 F5 F6 G5 G6 n m ks ls w' ∧ Blk w' g e cs ∧ CountM w' b N H ∧ But (b :: g :: (F3 ++ (F4 ++ ((F5 ++ G5) ++ (F6 ++ G6))))) w w' ∧ Blk w' b1 9 c1 ∧ Blk w' b2 9 c2 :=
 ⟨hX.move (fun i hi => hal.block i (Nat.lt_of_lt_of_le (hlt i hi) hB.size)), hb.below hal, hm.move (hal.block b hm.lt), hB.trans (But.of_below hal), h1.below hal, h2.below hal⟩
theorem f42 {p : Prop} (h : p := by
 have hrn : fv fr tn (Jn H fr) x = ⟨x.kind, x.name, x.minus, x.limbs, x.names, (fvC fr tn (Jn H fr) (Jn H fr || decide (x.name ≠ ⟨#[]⟩ ∧ x.name = fr)) x.kids), (Hv fr tn (Jn H fr || decide (x.name ≠ ⟨#[]⟩ ∧ x.name = fr)) x.alts)⟩ := by
  have hk := HK.out
  rw [qjc, if_neg (by omega), if_neg (by omega), if_pos hk]
 rw [hrn]
 exact qct (h3.1.own _ _ _) HK.out) : p := h
theorem f47 {p : Prop} (h : p := by
 clear p0 p1 p2 p3 p4 p5 p6 hm6 hg6 HI5 HE5 HX5 HC2 gn2 l2
 go_wp2
 go_roundw
 case rel => exact ⟨k + 1, by omega, by go_num, Wd (by
  have h := HI6.out
  rw [Vf] at h
  exact ⟨h.1, h.2.1, h.2.2.1.mono (by have h3 := HAB.out; have h5 := Qn x.alts[k].names; omega), h.2.2.2⟩), HE6⟩
 case measure => simp [intOf]; omega) : p := h
theorem f79 {p : Prop} (h : p := by
 clear p0 p1 p2 p3 p4 p5 p6 ho7 hb7 hm7 hbt7 HI HE HI7 HBK7 HOX HNX HSUB HGF HCL HL
 go_wp2
 go_roundw
 case rel => exact ⟨j + 1, by omega, by go_num, HI8, HE7⟩
 case measure => simp [intOf]; omega) : p := h
theorem f83 {p : Prop} (h : p := by
 simp only [Hk, List.getElem_map, qkw]
 rw [qjf (HI4.out.2.2.1.2 fr |> fun h => by have h1 := h.1; simp only [Xh] at h1 ⊢; have h0 := (HM.out.2 fr).1; omega), ← HH2.out]) : p := h
theorem f84 {p : Prop} (h : p := by
 have h := HI7.out
 rw [Ki (Kq _ _ _ _ _) hlt (by rw [qwc _ _ _ _ _ j hlt, ← HH2.out])] at h
 exact ⟨h.1, h.2.1, h.2.2.1.mono (by have := HLK.out; omega), h.2.2.2⟩) : p := h
theorem qwg (fr tn : ByteArray) (x : CoreT) (hk : x.kind = 8) (hnm : x.name ≠ ⟨#[]⟩) (ihk : ∀ y ∈ x.kids, Vx fr tn y) (iha : ∀ a ∈ x.alts, Vx fr tn a.body) : Vx fr tn x := by
 intro hsh hbk w g off e pre cx post F b b1 b2 n H hoff hblk hO hnd hS hb1 hb2 hm hn
 obtain ⟨v3, v4, v5, v6, F3, F4, F5, F6, G5, G6, rfl, rfl, hX⟩ := RnX.open hO hnd
 obtain ⟨A3, c3, rfl, l3⟩ := hX.r3.slice; obtain ⟨A4, c4, rfl, l4⟩ := hX.r4.slice
 obtain ⟨_, h5, -⟩ := hX.r5; obtain ⟨_, h6, -⟩ := hX.r6
 obtain ⟨A5, c5, rfl, l5⟩ := h5.slice; obtain ⟨A6, c6, rfl, l6⟩ := h6.slice
 obtain ⟨n1, n2, n3, n4, n5⟩ := Qz hbk
 rw [Kn] at hsh
 obtain ⟨hs1, hs2, hs3⟩ := hsh
 have ⟨HSH, HKS, HLS⟩ := Wq hs1 (Js.1 hs2) (Jr.1 hs3)
 have ⟨HX, HBK, HN, HM, HS, HB1⟩ := Wx hX hbk hn hm hS hb1; have ⟨HB2, HOFF, HB⟩ := Wq hb2 hoff hblk
 clear hX h5 h6 hO hnd hbk hn hm hS hb1 hb2 hs1 hs2 hs3
 obtain ⟨p0, p1, p2, p3, p4, p5, p6⟩ := Blk.seven hblk hoff
 clear hblk hoff
 rw [hk] at p0
 have HK := Wd hk
 have IHK := Wd ihk; have IHA := Wd iha; clear ihk iha
 have hkl : 0 < x.kids.length := by have h := HSH.out; unfold qit at h; omega
 have HH2 := Wd (show Jn (Xh H 1 [x.name]) fr = (Jn H fr || decide (x.name ≠ ⟨#[]⟩ ∧ x.name = fr)) from by rw [qjf (HM.out.2 fr).1]; refine congrArg _ ?_; rw [decide_eq_decide]; simp only [List.mem_singleton]; exact ⟨fun h => ⟨hnm, h.symm⟩, fun h => h.2.symm⟩)
 rw [hk] at HB
 clear hk
 obtain ⟨qn1, qn2⟩ := Vc hnm
 have HNM := Wd hnm; clear hnm
 go_enter_defers Tryz.func26, Tryz.ntmps26
 have HI := Wd (show RnX x (.slice A3 x.limbs.length c3) (.slice A4 x.names.length c4) (.slice A5 x.kids.length c5) (.slice A6 x.alts.length c6) F3 F4 F5 F6 G5 G6 x.kids.length x.alts.length (mix (fvC fr tn (Jn H fr) (Jn H fr || decide (x.name ≠ ⟨#[]⟩ ∧ x.name = fr)) x.kids) x.kids 0) (mix (Hv fr tn (Jn H fr || decide (x.name ≠ ⟨#[]⟩ ∧ x.name = fr)) x.alts) x.alts 0) w ∧ Blk w g e (pre ++ ([.int .i64 8, .string x.name, .bool x.minus, .slice A3 x.limbs.length c3, .slice A4 x.names.length c4, .slice A5 x.kids.length c5, .slice A6 x.alts.length c6] ++ post)) ∧ CountM w b (n) (H) ∧ But (b :: g :: (F3 ++ (F4 ++ ((F5 ++ G5) ++ (F6 ++ G6))))) w w ∧ Blk w b1 9 [.string fr] ∧ Blk w b2 9 [.string tn] from by
  rw [Jc, Jc]
  exact ⟨HX.out, HB.out, HM.out, But.refl _ _, HB1.out, HB2.out⟩)
 obtain ⟨gk, cap, c1, cx, pk, Gx, hv5, hcap, hl, hblk, hox, hnx, hsub, hgF, hgx, hcl⟩ := HI.out.1.kid (k := 0) (by rw [Zg (Kq _ _ _ _ _)]; exact hkl)
 simp only [Value.slice.injEq, true_and] at hv5
 obtain ⟨rfl, rfl⟩ := hv5
 rw [Xf (Kq _ _ _ _ _) hkl] at hox
 have ⟨HBK7, HOX, HNX, HSUB, HGF, HCL, HL⟩ := Wk hblk hox (show Gx.Nodup ∧ gk ∉ Gx from ⟨hnx, hgx⟩) hsub hgF hcl hl
 clear hblk hox hnx hgx hsub hgF hcl hl
 have qk1 : (0 : Int) < x.kids.length := by omega
 have HLE := Wd (show Qo (x.kids.take 1) = Qo (x.kids.take 0) + (1 + bulk x.kids[0]) ∧ Qo (x.kids.take 1) ≤ Qo x.kids from ⟨Xp _ _ hkl, Zq _ _⟩)
 go_wp2_with fail
 refine (IHK.out _ (List.getElem_mem hkl) (HKS.out _ (List.getElem_mem hkl)) (by have := Qx (List.getElem_mem hkl); have := HBK.out; rw [Qg] at this; omega) _ gk 0 _ c1 cx pk Gx b b1 b2 n H HL.out HBK7.out HOX.out HNX.out.1 (HS.out.sub HGF.out HSUB.out HNX.out.2) HB1.out HB2.out HM.out (by have := HN.out; have := HLE.out; rw [Qg] at *; omega)).mono ?_
 rintro en w3 ⟨rfl, cx', ho3, hb3, hm3, hbt3⟩
 have HI3 := Wd (qaf HS.out HX.out.lt HGF.out HSUB.out HI.out.2.1 HI.out.2.2.2.1 HI.out.2.2.2.2.1 HI.out.2.2.2.2.2 ho3 hb3 hm3 hbt3 HCL.out)
 have HI4 := Wd (show RnX x (.slice A3 x.limbs.length c3) (.slice A4 x.names.length c4) (.slice (some ⟨gk, 0, none⟩) x.kids.length c5) (.slice A6 x.alts.length c6) F3 F4 F5 F6 G5 G6 x.kids.length x.alts.length (mix (fvC fr tn (Jn H fr) (Jn H fr || decide (x.name ≠ ⟨#[]⟩ ∧ x.name = fr)) x.kids) x.kids 1) (mix (Hv fr tn (Jn H fr || decide (x.name ≠ ⟨#[]⟩ ∧ x.name = fr)) x.alts) x.alts 0) w3 ∧ Blk w3 g e (pre ++ ([.int .i64 8, .string x.name, .bool x.minus, .slice A3 x.limbs.length c3, .slice A4 x.names.length c4, .slice (some ⟨gk, 0, none⟩) x.kids.length c5, .slice A6 x.alts.length c6] ++ post)) ∧ CountM w3 b (n + 2 * Qo (x.kids.take 1)) (H) ∧ But (b :: g :: (F3 ++ (F4 ++ ((F5 ++ G5) ++ (F6 ++ G6))))) w w3 ∧ Blk w3 b1 9 [.string fr] ∧ Blk w3 b2 9 [.string tn] from by
  have h := HI3.out
  rw [Ki (Kq _ _ _ _ _) hkl (qom _ _ _ _ _ hkl).symm] at h
  exact f53)
 clear ho3 hb3 hm3 hbt3 p0 p1 p2 p3 p4 p5 p6 HI HBK7 HOX HNX HSUB HGF HCL HL HI3
 obtain ⟨p0, p1, p2, p3, p4, p5, p6⟩ := Blk.seven HI4.out.2.1 HOFF.out
 go_wp2_with (refine Yx _ x.name (by rfl) ?_)
 intro w4 hnb hal hsz4
 have HI5 := Wd (qon HI4.out.1 HI4.out.2.1 HI4.out.2.2.1 HI4.out.2.2.2.1 HI4.out.2.2.2.2.1 HI4.out.2.2.2.2.2 HX.out.lt hal)
 have hnm1 : ∀ s ∈ [x.name], s.size ≤ 274877906944 := fun s hs => by rw [List.mem_singleton.1 hs]; exact n1
 have HNM1 := Wd hnm1; have HNB := Wd hnb
 clear hnm1 hnb hal hsz4 p0 p1 p2 p3 p4 p5 p6
 go_wp2_with fail
 refine (Yw [x.name] HNM1.out 1 (by omega) b _ H (by have := HN.out; have := HLE.out; rw [Qg] at *; have := Xd HNM.out; simp only [List.length_singleton]; omega) (fun s => by have h0 := (HM.out.2 s).1; exact ⟨by omega, fun k => by omega⟩) (some ⟨w3.heap.size, 0, none⟩) 1 _ (qdr HNB.out) (Nat.le_refl _) HI5.out.2.2.1).mono ?_
 rintro en w5 ⟨rfl, hm5, hg5⟩
 have HI6 := Wd (qbo (Sub := RnX x (.slice A3 x.limbs.length c3) (.slice A4 x.names.length c4) (.slice (some ⟨gk, 0, none⟩) x.kids.length c5) (.slice A6 x.alts.length c6) F3 F4 F5 F6 G5 G6 x.kids.length x.alts.length (mix (fvC fr tn (Jn H fr) (Jn H fr || decide (x.name ≠ ⟨#[]⟩ ∧ x.name = fr)) x.kids) x.kids 1) (mix (Hv fr tn (Jn H fr || decide (x.name ≠ ⟨#[]⟩ ∧ x.name = fr)) x.alts) x.alts 0)) HS.out HX.out.lt HI5.out.2.1 HI5.out.2.2.2.1 HI5.out.2.2.2.2.1 HI5.out.2.2.2.2.2 hg5 hm5 (fun hm => HI5.out.1.move hm))
 clear HI4 HI5 hm5 hg5 HNB
 obtain ⟨p0, p1, p2, p3, p4, p5, p6⟩ := Blk.seven HI6.out.2.1 HOFF.out
 go_wp2_with (refine Yx _ x.name (by rfl) ?_)
 intro w6 hnb hal hsz6
 have HI0 := Wd (show (RnX x (.slice A3 x.limbs.length c3) (.slice A4 x.names.length c4) (.slice (some ⟨gk, 0, none⟩) x.kids.length c5) (.slice A6 x.alts.length c6) F3 F4 F5 F6 G5 G6 x.kids.length x.alts.length (mix (fvC fr tn (Jn H fr) (Jn H fr || decide (x.name ≠ ⟨#[]⟩ ∧ x.name = fr)) x.kids) x.kids 1) (mix (Hv fr tn (Jn H fr || decide (x.name ≠ ⟨#[]⟩ ∧ x.name = fr)) x.alts) x.alts 0) w6 ∧ Blk w6 g e (pre ++ ([.int .i64 8, .string x.name, .bool x.minus, .slice A3 x.limbs.length c3, .slice A4 x.names.length c4, .slice (some ⟨gk, 0, none⟩) x.kids.length c5, .slice A6 x.alts.length c6] ++ post)) ∧ CountM w6 b (n + 2 * Qo (x.kids.take 1) + 1) (Xh H 1 [x.name]) ∧ But (b :: g :: (F3 ++ (F4 ++ ((F5 ++ G5) ++ (F6 ++ G6))))) w w6 ∧ Blk w6 b1 9 [.string fr] ∧ Blk w6 b2 9 [.string tn]) ∧ Blk w6 w5.heap.size 9 [.string x.name] from ⟨qon HI6.out.1 HI6.out.2.1 (HI6.out.2.2.1.mono (by simp only [List.length_singleton]; omega)) HI6.out.2.2.2.1 HI6.out.2.2.2.2.1 HI6.out.2.2.2.2.2 HX.out.lt hal, hnb⟩)
 have HNB := Wd (show w.heap.size ≤ w5.heap.size from HI6.out.2.2.2.1.size)
 obtain ⟨nb, hnbe⟩ : ∃ nb, nb = w5.heap.size := ⟨_, rfl⟩
 rw [← hnbe] at HI0 HNB
 rw [← hnbe]
 clear HI6 hnb hal hsz6 p0 p1 p2 p3 p4 p5 p6 hnbe
 obtain ⟨p0, p1, p2, p3, p4, p5, p6⟩ := Blk.seven HI0.out.1.2.1 HOFF.out
 go_wp2_with fail
 clear p0 p1 p2 p3 p4 p5 p6
 have NBF := HNB
 have HE0 := Wd HI0.out.2
 have HI00 := Wd HI0.out.1
 clear HI0
 have HI0 := HI00
 clear HI00
 go_loopw [72] (fun s wr => ∃ k : Nat, k ≤ x.alts.length ∧ s = .int .i64 k ∧ Hid (RnX x (.slice A3 x.limbs.length c3) (.slice A4 x.names.length c4) (.slice (some ⟨gk, 0, none⟩) x.kids.length c5) (.slice A6 x.alts.length c6) F3 F4 F5 F6 G5 G6 x.kids.length x.alts.length (mix (fvC fr tn (Jn H fr) (Jn H fr || decide (x.name ≠ ⟨#[]⟩ ∧ x.name = fr)) x.kids) x.kids 1) (mix (Hv fr tn (Jn H fr || decide (x.name ≠ ⟨#[]⟩ ∧ x.name = fr)) x.alts) x.alts k) wr ∧ Blk wr g e (pre ++ ([.int .i64 8, .string x.name, .bool x.minus, .slice A3 x.limbs.length c3, .slice A4 x.names.length c4, .slice (some ⟨gk, 0, none⟩) x.kids.length c5, .slice A6 x.alts.length c6] ++ post)) ∧ CountM wr b (n + 2 * Qo (x.kids.take 1) + 1 + 2 * Qq (x.alts.take k)) (Xh H 1 [x.name]) ∧ But (b :: g :: (F3 ++ (F4 ++ ((F5 ++ G5) ++ (F6 ++ G6))))) w wr ∧ Blk wr b1 9 [.string fr] ∧ Blk wr b2 9 [.string tn]) ∧ Hid (Blk wr nb 9 [.string x.name])) (fun s _ => x.alts.length - (intOf s).toNat)
 case atStart => exact ⟨0, Nat.zero_le _, rfl, Wd (by have h := HI0.out; exact ⟨h.1, h.2.1, h.2.2.1.mono (by omega), h.2.2.2⟩), HE0⟩
 clear HI0 HE0
 case round =>
  obtain ⟨k, hk, rfl, HI, HE⟩ := hrel
  obtain ⟨p0, p1, p2, p3, p4, p5, p6⟩ := Blk.seven HI.out.2.1 HOFF.out
  by_cases hlt : k < x.alts.length
  ·obtain ⟨ga, capa, A1, cc1, hv6, l1, hC1, gn⟩ := qex HI.out.1 (k := k) (by rw [Zg (Jw _ _ _ _)]; exact hlt)
   simp only [Value.slice.injEq, true_and] at hv6
   obtain ⟨rfl, rfl⟩ := hv6
   have hmg := Xf (Jw fr tn (Jn H fr || decide (x.name ≠ ⟨#[]⟩ ∧ x.name = fr)) x.alts) hlt
   rw [hmg] at l1 hC1 gn
   have HMG := Wd hmg; clear hmg
   have HAB := Wd (show Qq (x.alts.take (k + 1)) = Qq (x.alts.take k) + (1 + Us x.alts[k]) ∧ Qq (x.alts.take (k + 1)) ≤ Qq x.alts ∧ Us x.alts[k] = x.alts[k].con.size + (Uo x.alts[k].names + bulk x.alts[k].body) from ⟨Hc _ _ hlt, Kw _ _, Zo _⟩)
   have HNS := Wd (show ∀ s ∈ x.alts[k].names, s.size ≤ 274877906944 from fun s hs => by have h := HBK.out; rw [Qg] at h; have h2 := HAB.out; have := Ka hs; omega)
   have qk0 : (0 : Int) ≤ (k : Int) := by omega
   have qk1 : (k : Int) < x.alts.length := by omega
   have HC1 := Wd hC1; clear hC1
   go_wp2_with fail
   refine (Yw x.alts[k].names HNS.out 1 (by omega) b _ (Xh H 1 [x.name]) (by have h1 := HN.out; have h2 := HLE.out; have h3 := HAB.out; rw [Qg] at h1; have h4 := Xd HNM.out; have h5 := Qn x.alts[k].names; omega) (fun s => by have h0 := (HI.out.2.2.1.2 s).1; exact ⟨by omega, fun k => by omega⟩) A1 cc1 _ HC1.out l1 HI.out.2.2.1).mono ?_
   rintro en w4 ⟨rfl, hm4, hg4⟩
   have HI4 := Wd (qbo (Sub := RnX x (.slice A3 x.limbs.length c3) (.slice A4 x.names.length c4) (.slice (some ⟨gk, 0, none⟩) x.kids.length c5) (.slice (some ⟨ga, 0, none⟩) x.alts.length c6) F3 F4 F5 F6 G5 G6 x.kids.length x.alts.length (mix (fvC fr tn (Jn H fr) (Jn H fr || decide (x.name ≠ ⟨#[]⟩ ∧ x.name = fr)) x.kids) x.kids 1) (mix (Hv fr tn (Jn H fr || decide (x.name ≠ ⟨#[]⟩ ∧ x.name = fr)) x.alts) x.alts k)) HS.out HX.out.lt HI.out.2.1 HI.out.2.2.2.1 HI.out.2.2.2.2.1 HI.out.2.2.2.2.2 hg4 hm4 (fun hm => HI.out.1.move hm))
   have HE4 := Wd (show Blk w4 nb 9 [.string x.name] from HE.out.grownO hg4 (fun h => by injection h with h; have h1 := NBF.out; have h2 := HM.out.lt; omega))
   clear p0 p1 p2 p3 p4 p5 p6 hm4 hg4 HI HE HC1 gn l1
   obtain ⟨p0, p1, p2, p3, p4, p5, p6⟩ := Blk.seven HI4.out.2.1 HOFF.out
   obtain ⟨ga', cap, c1, v1, cx, pk, Gx, hv6, hcap, hl, hblk, hF1, hox, hnx, hsub, hgF, hgx, hcl⟩ := HI4.out.1.alt (k := k) (by rw [Zg (Jw _ _ _ _)]; exact hlt)
   simp only [Value.slice.injEq, Option.some.injEq, Addr.mk.injEq, and_true, true_and] at hv6
   obtain ⟨rfl, rfl⟩ := hv6
   rw [HMG.out] at hblk hox hcl
   have hl2 : (c1 ++ [Value.string x.alts[k].con, v1]).length = k * 9 + 2 := by rw [List.length_append, hl]; rfl
   have ⟨HBK7, HOX, HNX, HSUB, HGF, HCL, HL⟩ := Wk hblk hox (show Gx.Nodup ∧ ga ∉ Gx from ⟨hnx, hgx⟩) hsub hgF hcl hl2
   clear hblk hox hnx hgx hsub hgF hcl hl hl2 hF1
   have hset : ({ x.alts[k] with body := fv fr tn (Jn (Xh (Xh H 1 [x.name]) 1 x.alts[k].names) fr) x.alts[k].body } : AltT) = ((Hv fr tn (Jn H fr || decide (x.name ≠ ⟨#[]⟩ ∧ x.name = fr)) x.alts))[k]'(by rw [Jw]; exact hlt) := by
    exact f83
   have HSET := Wd hset; clear hset
   go_wp2_with fail
   refine (IHA.out _ (List.getElem_mem hlt) (HLS.out _ (List.getElem_mem hlt)) (Vp HBK.out (List.getElem_mem hlt)) _ ga (k * 9 + 2) _ _ cx pk Gx b b1 b2 _ (Xh (Xh H 1 [x.name]) 1 x.alts[k].names) HL.out HBK7.out HOX.out HNX.out.1 (HS.out.sub HGF.out HSUB.out HNX.out.2) HI4.out.2.2.2.2.1 HI4.out.2.2.2.2.2 HI4.out.2.2.1 (by have h1 := HN.out; have h2 := HLE.out; have h3 := HAB.out; rw [Qg] at h1; have h4 := Xd HNM.out; have h5 := Qn x.alts[k].names; omega)).mono ?_
   rintro en w5 ⟨rfl, cx', ho5, hb5, hm5, hbt5⟩
   have HI5 := Wd (qaf HS.out HX.out.lt HGF.out HSUB.out HI4.out.2.1 HI4.out.2.2.2.1 HI4.out.2.2.2.2.1 HI4.out.2.2.2.2.2 ho5 hb5 hm5 hbt5 HCL.out)
   have HE5 := Wd (show Blk w5 nb 9 [.string x.name] from hbt5.blk HE4.out (qyz HM.out.lt HX.out.lt NBF.out HGF.out HSUB.out))
   have hx5 := HI5.out.1
   rw [Ki (Jw _ _ _ _) hlt HSET.out] at hx5
   obtain ⟨gb, capb, A2, cc2, hv6, l2, hC2, gn2⟩ := qex hx5 (k := k) (by rw [Zg (Jw _ _ _ _)]; exact hlt)
   have hdone : (mix (Hv fr tn (Jn H fr || decide (x.name ≠ ⟨#[]⟩ ∧ x.name = fr)) x.alts) x.alts (k + 1))[k]'(by rw [Zg (Jw _ _ _ _)]; exact hlt) = { x.alts[k] with body := fv fr tn (Jn (Xh (Xh H 1 [x.name]) 1 x.alts[k].names) fr) x.alts[k].body } := by rw [qor (Jw _ _ _ _) hlt, HSET.out]
   rw [hdone] at l2 hC2 gn2
   simp only [Value.slice.injEq, Option.some.injEq, Addr.mk.injEq, and_true, true_and] at hv6
   obtain ⟨rfl, rfl⟩ := hv6
   have HX5 := Wd hx5; have HC2 := Wd hC2
   clear p0 p1 p2 p3 p4 p5 p6 ho5 hb5 hm5 hbt5 hx5 hC2 hdone HI4 HE4 HBK7 HOX HNX HSUB HGF HCL HL
   obtain ⟨p0, p1, p2, p3, p4, p5, p6⟩ := Blk.seven HI5.out.2.1 HOFF.out
   go_wp2_with fail
   refine (Yw x.alts[k].names HNS.out (-1) (by omega) b _ (Xh (Xh H 1 [x.name]) 1 x.alts[k].names) (by have h1 := HN.out; have h2 := HLE.out; have h3 := HAB.out; rw [Qg] at h1; have h4 := Xd HNM.out; have h5 := Qn x.alts[k].names; omega) (fun s => by have h0 := (HM.out.2 s).1; have h1 := Vb x.alts[k].names s; simp only [Xh]; exact ⟨by omega, fun k => by have := h1 k; omega⟩) A2 cc2 _ HC2.out l2 HI5.out.2.2.1).mono ?_
   rintro en w6 ⟨rfl, hm6, hg6⟩
   have HI6 := Wd (qbo (Sub := RnX x (.slice A3 x.limbs.length c3) (.slice A4 x.names.length c4) (.slice (some ⟨gk, 0, none⟩) x.kids.length c5) (.slice (some ⟨ga, 0, none⟩) x.alts.length c6) F3 F4 F5 F6 G5 G6 x.kids.length x.alts.length (mix (fvC fr tn (Jn H fr) (Jn H fr || decide (x.name ≠ ⟨#[]⟩ ∧ x.name = fr)) x.kids) x.kids 1) (mix (Hv fr tn (Jn H fr || decide (x.name ≠ ⟨#[]⟩ ∧ x.name = fr)) x.alts) x.alts (k + 1))) HS.out HX.out.lt HI5.out.2.1 HI5.out.2.2.2.1 HI5.out.2.2.2.2.1 HI5.out.2.2.2.2.2 hg6 hm6 (fun hm => HX5.out.move hm))
   have HE6 := Wd (show Blk w6 nb 9 [.string x.name] from HE5.out.grownO hg6 (fun h => by injection h with h; have h1 := NBF.out; have h2 := HM.out.lt; omega))
   exact f47
  ·have hkk : k = x.alts.length := by omega
   have HI1 := Wd (show RnX x (.slice A3 x.limbs.length c3) (.slice A4 x.names.length c4) (.slice (some ⟨gk, 0, none⟩) x.kids.length c5) (.slice A6 x.alts.length c6) F3 F4 F5 F6 G5 G6 x.kids.length x.alts.length (mix (fvC fr tn (Jn H fr) (Jn H fr || decide (x.name ≠ ⟨#[]⟩ ∧ x.name = fr)) x.kids) x.kids 1) (mix (Hv fr tn (Jn H fr || decide (x.name ≠ ⟨#[]⟩ ∧ x.name = fr)) x.alts) x.alts x.alts.length) wr ∧ Blk wr g e (pre ++ ([.int .i64 8, .string x.name, .bool x.minus, .slice A3 x.limbs.length c3, .slice A4 x.names.length c4, .slice (some ⟨gk, 0, none⟩) x.kids.length c5, .slice A6 x.alts.length c6] ++ post)) ∧ CountM wr b (n + 2 * Qo (x.kids.take 1) + 1 + 2 * Qq x.alts) (Xh H 1 [x.name]) ∧ But (b :: g :: (F3 ++ (F4 ++ ((F5 ++ G5) ++ (F6 ++ G6))))) w wr ∧ Blk wr b1 9 [.string fr] ∧ Blk wr b2 9 [.string tn] from by have h := HI.out; rw [hkk, List.take_length] at h; exact h)
   have hke : 1 ≤ x.kids.length := hkl
   clear HI hkk
   go_wp2_with fail
   ·subst h
    clear p0 p1 p2 p3 p4 p5 p6
    go_loopw [112] (fun s wr => ∃ j : Nat, j + 1 ≤ x.kids.length ∧ s = .int .i64 j ∧ Hid (RnX x (.slice A3 x.limbs.length c3) (.slice A4 x.names.length c4) (.slice (some ⟨gk, 0, none⟩) x.kids.length 1) (.slice A6 x.alts.length c6) F3 F4 F5 F6 G5 G6 x.kids.length x.alts.length (mix (fvC fr tn (Jn H fr) (Jn H fr || decide (x.name ≠ ⟨#[]⟩ ∧ x.name = fr)) x.kids) x.kids (j + 1)) (mix (Hv fr tn (Jn H fr || decide (x.name ≠ ⟨#[]⟩ ∧ x.name = fr)) x.alts) x.alts x.alts.length) wr ∧ Blk wr g e (pre ++ ([.int .i64 8, .string x.name, .bool x.minus, .slice A3 x.limbs.length c3, .slice A4 x.names.length c4, .slice (some ⟨gk, 0, none⟩) x.kids.length 1, .slice A6 x.alts.length c6] ++ post)) ∧ CountM wr b (n + 1 + 2 * Qq x.alts + 2 * Qo (x.kids.take (j + 1))) (Xh H 1 [x.name]) ∧ But (b :: g :: (F3 ++ (F4 ++ ((F5 ++ G5) ++ (F6 ++ G6))))) w wr ∧ Blk wr b1 9 [.string fr] ∧ Blk wr b2 9 [.string tn]) ∧ Hid (Blk wr nb 9 [.string x.name])) (fun s _ => x.kids.length - (intOf s).toNat)
    case atStart => exact ⟨0, hke, rfl, Wd (by have h := HI1.out; exact ⟨h.1, h.2.1, h.2.2.1.mono (by simp only [Nat.zero_add]; omega), h.2.2.2⟩), HE⟩
    clear HI1 HE
    case round =>
     obtain ⟨j, hj, rfl, HI, HE⟩ := hrel
     obtain ⟨p0, p1, p2, p3, p4, p5, p6⟩ := Blk.seven HI.out.2.1 HOFF.out
     by_cases hlt : j + 1 < x.kids.length
     ·exfalso; omega
     ·have hjj : j + 1 = x.kids.length := by omega
      have h3 := HI.out
      rw [hjj, List.take_length, Xj (Kq _ _ _ _ _), Xj (Jw _ _ _ _)] at h3
      have H3 := Wd h3; clear h3 HI hjj
      go_wp2_with fail
      clear p0 p1 p2 p3 p4 p5 p6
      refine leaves_cons (f := 57) (args := #[.map (some b), .int .i64 (-1), .slice (some ⟨nb, 0, none⟩) 1 1]) (by simp) (by simp [go_sem]) ?_
      refine (Yg [x.name] HNM1.out (-1) (by omega) b _ (Xh H 1 [x.name]) (by have h1 := HN.out; rw [Qg] at h1; have h2 := Xd HNM.out; simp only [List.length_singleton]; omega) (fun s => by have h0 := (HM.out.2 s).1; have h1 := Vb [x.name] s; simp only [Xh]; exact ⟨by omega, fun k => by have := h1 k; omega⟩) (some ⟨nb, 0, none⟩) 1 .returning wr (qdr HE.out) (Nat.le_refl _) H3.out.2.2.1).mono ?_
      rintro en u' w9 ⟨rfl, rfl, hm9, hg9⟩
      have h3 := qbo (Sub := RnX x (.slice A3 x.limbs.length c3) (.slice A4 x.names.length c4) (.slice (some ⟨gk, 0, none⟩) x.kids.length 1) (.slice A6 x.alts.length c6) F3 F4 F5 F6 G5 G6 x.kids.length x.alts.length (fvC fr tn (Jn H fr) (Jn H fr || decide (x.name ≠ ⟨#[]⟩ ∧ x.name = fr)) x.kids) (Hv fr tn (Jn H fr || decide (x.name ≠ ⟨#[]⟩ ∧ x.name = fr)) x.alts)) HS.out HX.out.lt H3.out.2.1 H3.out.2.2.2.1 H3.out.2.2.2.2.1 H3.out.2.2.2.2.2 hg9 hm9 (fun hm => H3.out.1.move hm)
      rw [Vf] at h3
      refine ⟨_, results_none rfl _ _ _, rfl, [.int .i64 8, .string x.name, .bool x.minus, .slice A3 x.limbs.length c3, .slice A4 x.names.length c4, .slice (some ⟨gk, 0, none⟩) x.kids.length 1, .slice A6 x.alts.length c6], ?_, h3.2.1, h3.2.2.1.mono (by rw [Qg]; have h2 := Xd HNM.out; simp only [List.length_singleton]; omega), h3.2.2.2.1⟩
      exact f42
   ·clear h
    clear p0 p1 p2 p3 p4 p5 p6
    go_loopw [112] (fun s wr => ∃ j : Nat, j + 1 ≤ x.kids.length ∧ s = .int .i64 j ∧ Hid (RnX x (.slice A3 x.limbs.length c3) (.slice A4 x.names.length c4) (.slice (some ⟨gk, 0, none⟩) x.kids.length c5) (.slice A6 x.alts.length c6) F3 F4 F5 F6 G5 G6 x.kids.length x.alts.length (mix (fvC fr tn (Jn H fr) (Jn H fr || decide (x.name ≠ ⟨#[]⟩ ∧ x.name = fr)) x.kids) x.kids (j + 1)) (mix (Hv fr tn (Jn H fr || decide (x.name ≠ ⟨#[]⟩ ∧ x.name = fr)) x.alts) x.alts x.alts.length) wr ∧ Blk wr g e (pre ++ ([.int .i64 8, .string x.name, .bool x.minus, .slice A3 x.limbs.length c3, .slice A4 x.names.length c4, .slice (some ⟨gk, 0, none⟩) x.kids.length c5, .slice A6 x.alts.length c6] ++ post)) ∧ CountM wr b (n + 1 + 2 * Qq x.alts + 2 * Qo (x.kids.take (j + 1))) (Xh H 1 [x.name]) ∧ But (b :: g :: (F3 ++ (F4 ++ ((F5 ++ G5) ++ (F6 ++ G6))))) w wr ∧ Blk wr b1 9 [.string fr] ∧ Blk wr b2 9 [.string tn]) ∧ Hid (Blk wr nb 9 [.string x.name])) (fun s _ => x.kids.length - (intOf s).toNat)
    case atStart => exact ⟨0, hke, rfl, Wd (by have h := HI1.out; exact ⟨h.1, h.2.1, h.2.2.1.mono (by simp only [Nat.zero_add]; omega), h.2.2.2⟩), HE⟩
    clear HI1 HE
    case round =>
     obtain ⟨j, hj, rfl, HI, HE⟩ := hrel
     obtain ⟨p0, p1, p2, p3, p4, p5, p6⟩ := Blk.seven HI.out.2.1 HOFF.out
     by_cases hlt : j + 1 < x.kids.length
     ·obtain ⟨gk', cap', c1, cx, pk, Gx, hv5, hcap', hl, hblk, hox, hnx, hsub, hgF, hgx, hcl⟩ := HI.out.1.kid (k := j + 1) (by rw [Zg (Kq _ _ _ _ _)]; exact hlt)
      simp only [Value.slice.injEq, Option.some.injEq, Addr.mk.injEq, and_true, true_and] at hv5
      obtain ⟨rfl, rfl⟩ := hv5
      rw [Xf (Kq _ _ _ _ _) hlt] at hox
      have ⟨HBK7, HOX, HNX, HSUB, HGF, HCL, HL⟩ := Wk hblk hox (show Gx.Nodup ∧ gk ∉ Gx from ⟨hnx, hgx⟩) hsub hgF hcl hl
      clear hblk hox hnx hgx hsub hgF hcl hl hcap'
      have qk0 : (0 : Int) ≤ (j : Int) := by omega
      have qk2 : 1 + (j : Int) < x.kids.length := by omega
      have HLK := Wd (show Qo (x.kids.take (j + 1 + 1)) = Qo (x.kids.take (j + 1)) + (1 + bulk x.kids[j + 1]) ∧ Qo (x.kids.take (j + 1 + 1)) ≤ Qo x.kids from ⟨Xp _ _ hlt, Zq _ _⟩)
      go_wp2_with fail
      refine (IHK.out _ (List.getElem_mem hlt) (HKS.out _ (List.getElem_mem hlt)) (by have := Qx (List.getElem_mem hlt); have := HBK.out; rw [Qg] at this; omega) _ gk ((1 + j) * 7) _ c1 cx pk Gx b b1 b2 _ (Xh H 1 [x.name]) (by have := HL.out; omega) HBK7.out HOX.out HNX.out.1 (HS.out.sub HGF.out HSUB.out HNX.out.2) HI.out.2.2.2.2.1 HI.out.2.2.2.2.2 HI.out.2.2.1 (by have h1 := HN.out; have h2 := HLK.out; rw [Qg] at h1; have h4 := Xd HNM.out; omega)).mono ?_
      rintro en w7 ⟨rfl, cx', ho7, hb7, hm7, hbt7⟩
      have HI7 := Wd (qaf HS.out HX.out.lt HGF.out HSUB.out HI.out.2.1 HI.out.2.2.2.1 HI.out.2.2.2.2.1 HI.out.2.2.2.2.2 ho7 hb7 hm7 hbt7 HCL.out)
      have HE7 := Wd (show Blk w7 nb 9 [.string x.name] from hbt7.blk HE.out (qyz HM.out.lt HX.out.lt NBF.out HGF.out HSUB.out))
      have HI8 := Wd (show RnX x (.slice A3 x.limbs.length c3) (.slice A4 x.names.length c4) (.slice (some ⟨gk, 0, none⟩) x.kids.length c5) (.slice A6 x.alts.length c6) F3 F4 F5 F6 G5 G6 x.kids.length x.alts.length (mix (fvC fr tn (Jn H fr) (Jn H fr || decide (x.name ≠ ⟨#[]⟩ ∧ x.name = fr)) x.kids) x.kids (j + 1 + 1)) (mix (Hv fr tn (Jn H fr || decide (x.name ≠ ⟨#[]⟩ ∧ x.name = fr)) x.alts) x.alts x.alts.length) w7 ∧ Blk w7 g e (pre ++ ([.int .i64 8, .string x.name, .bool x.minus, .slice A3 x.limbs.length c3, .slice A4 x.names.length c4, .slice (some ⟨gk, 0, none⟩) x.kids.length c5, .slice A6 x.alts.length c6] ++ post)) ∧ CountM w7 b (n + 1 + 2 * Qq x.alts + 2 * Qo (x.kids.take (j + 1 + 1))) (Xh H 1 [x.name]) ∧ But (b :: g :: (F3 ++ (F4 ++ ((F5 ++ G5) ++ (F6 ++ G6))))) w w7 ∧ Blk w7 b1 9 [.string fr] ∧ Blk w7 b2 9 [.string tn] from by
       exact f84)
      exact f79
     ·have hjj : j + 1 = x.kids.length := by omega
      have h3 := HI.out
      rw [hjj, List.take_length, Xj (Kq _ _ _ _ _), Xj (Jw _ _ _ _)] at h3
      have H3 := Wd h3; clear h3 HI hjj
      go_wp2_with fail
      clear p0 p1 p2 p3 p4 p5 p6
      refine leaves_cons (f := 57) (args := #[.map (some b), .int .i64 (-1), .slice (some ⟨nb, 0, none⟩) 1 1]) (by simp) (by simp [go_sem]) ?_
      refine (Yg [x.name] HNM1.out (-1) (by omega) b _ (Xh H 1 [x.name]) (by have h1 := HN.out; rw [Qg] at h1; have h2 := Xd HNM.out; simp only [List.length_singleton]; omega) (fun s => by have h0 := (HM.out.2 s).1; have h1 := Vb [x.name] s; simp only [Xh]; exact ⟨by omega, fun k => by have := h1 k; omega⟩) (some ⟨nb, 0, none⟩) 1 .returning wr (qdr HE.out) (Nat.le_refl _) H3.out.2.2.1).mono ?_
      rintro en u' w9 ⟨rfl, rfl, hm9, hg9⟩
      have h3 := qbo (Sub := RnX x (.slice A3 x.limbs.length c3) (.slice A4 x.names.length c4) (.slice (some ⟨gk, 0, none⟩) x.kids.length c5) (.slice A6 x.alts.length c6) F3 F4 F5 F6 G5 G6 x.kids.length x.alts.length (fvC fr tn (Jn H fr) (Jn H fr || decide (x.name ≠ ⟨#[]⟩ ∧ x.name = fr)) x.kids) (Hv fr tn (Jn H fr || decide (x.name ≠ ⟨#[]⟩ ∧ x.name = fr)) x.alts)) HS.out HX.out.lt H3.out.2.1 H3.out.2.2.2.1 H3.out.2.2.2.2.1 H3.out.2.2.2.2.2 hg9 hm9 (fun hm => H3.out.1.move hm)
      rw [Vf] at h3
      refine ⟨_, results_none rfl _ _ _, rfl, [.int .i64 8, .string x.name, .bool x.minus, .slice A3 x.limbs.length c3, .slice A4 x.names.length c4, .slice (some ⟨gk, 0, none⟩) x.kids.length c5, .slice A6 x.alts.length c6], ?_, h3.2.1, h3.2.2.1.mono (by rw [Qg]; have h2 := Xd HNM.out; simp only [List.length_singleton]; omega), h3.2.2.2.1⟩
      exact f42
theorem f41 {p : Prop} (h : p := by
 have hrn : fv fr tn (Jn H fr) x = ⟨x.kind, x.name, x.minus, x.limbs, x.names, (fvC fr tn (Jn H fr) (Jn H fr || decide (x.name ≠ ⟨#[]⟩ ∧ x.name = fr)) x.kids), (Hv fr tn (Jn H fr || decide (x.name ≠ ⟨#[]⟩ ∧ x.name = fr)) x.alts)⟩ := by
  have hk := HK.out
  rw [qjc, if_neg (by omega), if_neg (by omega), if_pos hk]
 rw [hrn]
 exact qct (H3.out.1.own _ _ _) HK.out) : p := h
theorem qwh (fr tn : ByteArray) (x : CoreT) (hk : x.kind = 8) (hnm : x.name = ⟨#[]⟩) (ihk : ∀ y ∈ x.kids, Vx fr tn y) (iha : ∀ a ∈ x.alts, Vx fr tn a.body) : Vx fr tn x := by
 intro hsh hbk w g off e pre cx post F b b1 b2 n H hoff hblk hO hnd hS hb1 hb2 hm hn
 obtain ⟨v3, v4, v5, v6, F3, F4, F5, F6, G5, G6, rfl, rfl, hX⟩ := RnX.open hO hnd
 obtain ⟨A3, c3, rfl, l3⟩ := hX.r3.slice; obtain ⟨A4, c4, rfl, l4⟩ := hX.r4.slice
 obtain ⟨_, h5, -⟩ := hX.r5; obtain ⟨_, h6, -⟩ := hX.r6
 obtain ⟨A5, c5, rfl, l5⟩ := h5.slice; obtain ⟨A6, c6, rfl, l6⟩ := h6.slice
 obtain ⟨n1, n2, n3, n4, n5⟩ := Qz hbk
 rw [Kn] at hsh
 obtain ⟨hs1, hs2, hs3⟩ := hsh
 have ⟨HSH, HKS, HLS⟩ := Wq hs1 (Js.1 hs2) (Jr.1 hs3)
 have ⟨HX, HBK, HN, HM, HS, HB1⟩ := Wx hX hbk hn hm hS hb1; have ⟨HB2, HOFF, HB⟩ := Wq hb2 hoff hblk
 clear hX h5 h6 hO hnd hbk hn hm hS hb1 hb2 hs1 hs2 hs3
 obtain ⟨p0, p1, p2, p3, p4, p5, p6⟩ := Blk.seven hblk hoff
 clear hblk hoff
 rw [hk] at p0
 have HK := Wd hk
 have IHK := Wd ihk; have IHA := Wd iha; clear ihk iha
 have hkl : 0 < x.kids.length := by have h := HSH.out; unfold qit at h; omega
 have HH2 := Wd (show Jn (H) fr = (Jn H fr || decide (x.name ≠ ⟨#[]⟩ ∧ x.name = fr)) from by rw [decide_eq_false (show ¬ (x.name ≠ ⟨#[]⟩ ∧ x.name = fr) from fun h => h.1 hnm), Bool.or_false])
 rw [hk] at HB
 clear hk
 have HNM := Wd hnm
 rw [hnm] at p1
 clear hnm
 go_enter_defers Tryz.func26, Tryz.ntmps26
 have HI := Wd (show RnX x (.slice A3 x.limbs.length c3) (.slice A4 x.names.length c4) (.slice A5 x.kids.length c5) (.slice A6 x.alts.length c6) F3 F4 F5 F6 G5 G6 x.kids.length x.alts.length (mix (fvC fr tn (Jn H fr) (Jn H fr || decide (x.name ≠ ⟨#[]⟩ ∧ x.name = fr)) x.kids) x.kids 0) (mix (Hv fr tn (Jn H fr || decide (x.name ≠ ⟨#[]⟩ ∧ x.name = fr)) x.alts) x.alts 0) w ∧ Blk w g e (pre ++ ([.int .i64 8, .string x.name, .bool x.minus, .slice A3 x.limbs.length c3, .slice A4 x.names.length c4, .slice A5 x.kids.length c5, .slice A6 x.alts.length c6] ++ post)) ∧ CountM w b (n) (H) ∧ But (b :: g :: (F3 ++ (F4 ++ ((F5 ++ G5) ++ (F6 ++ G6))))) w w ∧ Blk w b1 9 [.string fr] ∧ Blk w b2 9 [.string tn] from by
  rw [Jc, Jc]
  exact ⟨HX.out, HB.out, HM.out, But.refl _ _, HB1.out, HB2.out⟩)
 obtain ⟨gk, cap, c1, cx, pk, Gx, hv5, hcap, hl, hblk, hox, hnx, hsub, hgF, hgx, hcl⟩ := HI.out.1.kid (k := 0) (by rw [Zg (Kq _ _ _ _ _)]; exact hkl)
 simp only [Value.slice.injEq, true_and] at hv5
 obtain ⟨rfl, rfl⟩ := hv5
 rw [Xf (Kq _ _ _ _ _) hkl] at hox
 have ⟨HBK7, HOX, HNX, HSUB, HGF, HCL, HL⟩ := Wk hblk hox (show Gx.Nodup ∧ gk ∉ Gx from ⟨hnx, hgx⟩) hsub hgF hcl hl
 clear hblk hox hnx hgx hsub hgF hcl hl
 have qk1 : (0 : Int) < x.kids.length := by omega
 have HLE := Wd (show Qo (x.kids.take 1) = Qo (x.kids.take 0) + (1 + bulk x.kids[0]) ∧ Qo (x.kids.take 1) ≤ Qo x.kids from ⟨Xp _ _ hkl, Zq _ _⟩)
 go_wp2_with fail
 refine (IHK.out _ (List.getElem_mem hkl) (HKS.out _ (List.getElem_mem hkl)) (by have := Qx (List.getElem_mem hkl); have := HBK.out; rw [Qg] at this; omega) _ gk 0 _ c1 cx pk Gx b b1 b2 n H HL.out HBK7.out HOX.out HNX.out.1 (HS.out.sub HGF.out HSUB.out HNX.out.2) HB1.out HB2.out HM.out (by have := HN.out; have := HLE.out; rw [Qg] at *; omega)).mono ?_
 rintro en w3 ⟨rfl, cx', ho3, hb3, hm3, hbt3⟩
 have HI3 := Wd (qaf HS.out HX.out.lt HGF.out HSUB.out HI.out.2.1 HI.out.2.2.2.1 HI.out.2.2.2.2.1 HI.out.2.2.2.2.2 ho3 hb3 hm3 hbt3 HCL.out)
 have HI4 := Wd (show RnX x (.slice A3 x.limbs.length c3) (.slice A4 x.names.length c4) (.slice (some ⟨gk, 0, none⟩) x.kids.length c5) (.slice A6 x.alts.length c6) F3 F4 F5 F6 G5 G6 x.kids.length x.alts.length (mix (fvC fr tn (Jn H fr) (Jn H fr || decide (x.name ≠ ⟨#[]⟩ ∧ x.name = fr)) x.kids) x.kids 1) (mix (Hv fr tn (Jn H fr || decide (x.name ≠ ⟨#[]⟩ ∧ x.name = fr)) x.alts) x.alts 0) w3 ∧ Blk w3 g e (pre ++ ([.int .i64 8, .string x.name, .bool x.minus, .slice A3 x.limbs.length c3, .slice A4 x.names.length c4, .slice (some ⟨gk, 0, none⟩) x.kids.length c5, .slice A6 x.alts.length c6] ++ post)) ∧ CountM w3 b (n + 2 * Qo (x.kids.take 1)) (H) ∧ But (b :: g :: (F3 ++ (F4 ++ ((F5 ++ G5) ++ (F6 ++ G6))))) w w3 ∧ Blk w3 b1 9 [.string fr] ∧ Blk w3 b2 9 [.string tn] from by
  have h := HI3.out
  rw [Ki (Kq _ _ _ _ _) hkl (qom _ _ _ _ _ hkl).symm] at h
  exact f53)
 clear ho3 hb3 hm3 hbt3 p0 p1 p2 p3 p4 p5 p6 HI HBK7 HOX HNX HSUB HGF HCL HL HI3
 obtain ⟨p0, p1, p2, p3, p4, p5, p6⟩ := Blk.seven HI4.out.2.1 HOFF.out
 rw [HNM.out] at p1
 go_wp2_with fail
 clear p0 p1 p2 p3 p4 p5 p6
 have HI0 := Wd (show RnX x (.slice A3 x.limbs.length c3) (.slice A4 x.names.length c4) (.slice (some ⟨gk, 0, none⟩) x.kids.length c5) (.slice A6 x.alts.length c6) F3 F4 F5 F6 G5 G6 x.kids.length x.alts.length (mix (fvC fr tn (Jn H fr) (Jn H fr || decide (x.name ≠ ⟨#[]⟩ ∧ x.name = fr)) x.kids) x.kids 1) (mix (Hv fr tn (Jn H fr || decide (x.name ≠ ⟨#[]⟩ ∧ x.name = fr)) x.alts) x.alts 0) w3 ∧ Blk w3 g e (pre ++ ([.int .i64 8, .string x.name, .bool x.minus, .slice A3 x.limbs.length c3, .slice A4 x.names.length c4, .slice (some ⟨gk, 0, none⟩) x.kids.length c5, .slice A6 x.alts.length c6] ++ post)) ∧ CountM w3 b (n + 2 * Qo (x.kids.take 1)) (H) ∧ But (b :: g :: (F3 ++ (F4 ++ ((F5 ++ G5) ++ (F6 ++ G6))))) w w3 ∧ Blk w3 b1 9 [.string fr] ∧ Blk w3 b2 9 [.string tn] from HI4.out)
 clear HI4
 have HE0 := Wd trivial
 go_loopw [72] (fun s wr => ∃ k : Nat, k ≤ x.alts.length ∧ s = .int .i64 k ∧ Hid (RnX x (.slice A3 x.limbs.length c3) (.slice A4 x.names.length c4) (.slice (some ⟨gk, 0, none⟩) x.kids.length c5) (.slice A6 x.alts.length c6) F3 F4 F5 F6 G5 G6 x.kids.length x.alts.length (mix (fvC fr tn (Jn H fr) (Jn H fr || decide (x.name ≠ ⟨#[]⟩ ∧ x.name = fr)) x.kids) x.kids 1) (mix (Hv fr tn (Jn H fr || decide (x.name ≠ ⟨#[]⟩ ∧ x.name = fr)) x.alts) x.alts k) wr ∧ Blk wr g e (pre ++ ([.int .i64 8, .string x.name, .bool x.minus, .slice A3 x.limbs.length c3, .slice A4 x.names.length c4, .slice (some ⟨gk, 0, none⟩) x.kids.length c5, .slice A6 x.alts.length c6] ++ post)) ∧ CountM wr b (n + 2 * Qo (x.kids.take 1) + 2 * Qq (x.alts.take k)) (H) ∧ But (b :: g :: (F3 ++ (F4 ++ ((F5 ++ G5) ++ (F6 ++ G6))))) w wr ∧ Blk wr b1 9 [.string fr] ∧ Blk wr b2 9 [.string tn]) ∧ Hid (True)) (fun s _ => x.alts.length - (intOf s).toNat)
 case atStart => exact ⟨0, Nat.zero_le _, rfl, Wd (by have h := HI0.out; exact ⟨h.1, h.2.1, h.2.2.1.mono (by omega), h.2.2.2⟩), HE0⟩
 clear HI0 HE0
 case round =>
  obtain ⟨k, hk, rfl, HI, HE⟩ := hrel
  obtain ⟨p0, p1, p2, p3, p4, p5, p6⟩ := Blk.seven HI.out.2.1 HOFF.out
  by_cases hlt : k < x.alts.length
  ·obtain ⟨ga, capa, A1, cc1, hv6, l1, hC1, gn⟩ := qex HI.out.1 (k := k) (by rw [Zg (Jw _ _ _ _)]; exact hlt)
   simp only [Value.slice.injEq, true_and] at hv6
   obtain ⟨rfl, rfl⟩ := hv6
   have hmg := Xf (Jw fr tn (Jn H fr || decide (x.name ≠ ⟨#[]⟩ ∧ x.name = fr)) x.alts) hlt
   rw [hmg] at l1 hC1 gn
   have HMG := Wd hmg; clear hmg
   have HAB := Wd (show Qq (x.alts.take (k + 1)) = Qq (x.alts.take k) + (1 + Us x.alts[k]) ∧ Qq (x.alts.take (k + 1)) ≤ Qq x.alts ∧ Us x.alts[k] = x.alts[k].con.size + (Uo x.alts[k].names + bulk x.alts[k].body) from ⟨Hc _ _ hlt, Kw _ _, Zo _⟩)
   have HNS := Wd (show ∀ s ∈ x.alts[k].names, s.size ≤ 274877906944 from fun s hs => by have h := HBK.out; rw [Qg] at h; have h2 := HAB.out; have := Ka hs; omega)
   have qk0 : (0 : Int) ≤ (k : Int) := by omega
   have qk1 : (k : Int) < x.alts.length := by omega
   have HC1 := Wd hC1; clear hC1
   go_wp2_with fail
   refine (Yw x.alts[k].names HNS.out 1 (by omega) b _ (H) (by have h1 := HN.out; have h2 := HLE.out; have h3 := HAB.out; rw [Qg] at h1; have h5 := Qn x.alts[k].names; omega) (fun s => by have h0 := (HI.out.2.2.1.2 s).1; exact ⟨by omega, fun k => by omega⟩) A1 cc1 _ HC1.out l1 HI.out.2.2.1).mono ?_
   rintro en w4 ⟨rfl, hm4, hg4⟩
   have HI4 := Wd (qbo (Sub := RnX x (.slice A3 x.limbs.length c3) (.slice A4 x.names.length c4) (.slice (some ⟨gk, 0, none⟩) x.kids.length c5) (.slice (some ⟨ga, 0, none⟩) x.alts.length c6) F3 F4 F5 F6 G5 G6 x.kids.length x.alts.length (mix (fvC fr tn (Jn H fr) (Jn H fr || decide (x.name ≠ ⟨#[]⟩ ∧ x.name = fr)) x.kids) x.kids 1) (mix (Hv fr tn (Jn H fr || decide (x.name ≠ ⟨#[]⟩ ∧ x.name = fr)) x.alts) x.alts k)) HS.out HX.out.lt HI.out.2.1 HI.out.2.2.2.1 HI.out.2.2.2.2.1 HI.out.2.2.2.2.2 hg4 hm4 (fun hm => HI.out.1.move hm))
   have HE4 := Wd (show True from trivial)
   clear p0 p1 p2 p3 p4 p5 p6 hm4 hg4 HI HE HC1 gn l1
   obtain ⟨p0, p1, p2, p3, p4, p5, p6⟩ := Blk.seven HI4.out.2.1 HOFF.out
   obtain ⟨ga', cap, c1, v1, cx, pk, Gx, hv6, hcap, hl, hblk, hF1, hox, hnx, hsub, hgF, hgx, hcl⟩ := HI4.out.1.alt (k := k) (by rw [Zg (Jw _ _ _ _)]; exact hlt)
   simp only [Value.slice.injEq, Option.some.injEq, Addr.mk.injEq, and_true, true_and] at hv6
   obtain ⟨rfl, rfl⟩ := hv6
   rw [HMG.out] at hblk hox hcl
   have hl2 : (c1 ++ [Value.string x.alts[k].con, v1]).length = k * 9 + 2 := by rw [List.length_append, hl]; rfl
   have ⟨HBK7, HOX, HNX, HSUB, HGF, HCL, HL⟩ := Wk hblk hox (show Gx.Nodup ∧ ga ∉ Gx from ⟨hnx, hgx⟩) hsub hgF hcl hl2
   clear hblk hox hnx hgx hsub hgF hcl hl hl2 hF1
   have hset : ({ x.alts[k] with body := fv fr tn (Jn (Xh (H) 1 x.alts[k].names) fr) x.alts[k].body } : AltT) = ((Hv fr tn (Jn H fr || decide (x.name ≠ ⟨#[]⟩ ∧ x.name = fr)) x.alts))[k]'(by rw [Jw]; exact hlt) := by
    exact f83
   have HSET := Wd hset; clear hset
   go_wp2_with fail
   refine (IHA.out _ (List.getElem_mem hlt) (HLS.out _ (List.getElem_mem hlt)) (Vp HBK.out (List.getElem_mem hlt)) _ ga (k * 9 + 2) _ _ cx pk Gx b b1 b2 _ (Xh (H) 1 x.alts[k].names) HL.out HBK7.out HOX.out HNX.out.1 (HS.out.sub HGF.out HSUB.out HNX.out.2) HI4.out.2.2.2.2.1 HI4.out.2.2.2.2.2 HI4.out.2.2.1 (by have h1 := HN.out; have h2 := HLE.out; have h3 := HAB.out; rw [Qg] at h1; have h5 := Qn x.alts[k].names; omega)).mono ?_
   rintro en w5 ⟨rfl, cx', ho5, hb5, hm5, hbt5⟩
   have HI5 := Wd (qaf HS.out HX.out.lt HGF.out HSUB.out HI4.out.2.1 HI4.out.2.2.2.1 HI4.out.2.2.2.2.1 HI4.out.2.2.2.2.2 ho5 hb5 hm5 hbt5 HCL.out)
   have HE5 := Wd (show True from trivial)
   have hx5 := HI5.out.1
   rw [Ki (Jw _ _ _ _) hlt HSET.out] at hx5
   obtain ⟨gb, capb, A2, cc2, hv6, l2, hC2, gn2⟩ := qex hx5 (k := k) (by rw [Zg (Jw _ _ _ _)]; exact hlt)
   have hdone : (mix (Hv fr tn (Jn H fr || decide (x.name ≠ ⟨#[]⟩ ∧ x.name = fr)) x.alts) x.alts (k + 1))[k]'(by rw [Zg (Jw _ _ _ _)]; exact hlt) = { x.alts[k] with body := fv fr tn (Jn (Xh (H) 1 x.alts[k].names) fr) x.alts[k].body } := by rw [qor (Jw _ _ _ _) hlt, HSET.out]
   rw [hdone] at l2 hC2 gn2
   simp only [Value.slice.injEq, Option.some.injEq, Addr.mk.injEq, and_true, true_and] at hv6
   obtain ⟨rfl, rfl⟩ := hv6
   have HX5 := Wd hx5; have HC2 := Wd hC2
   clear p0 p1 p2 p3 p4 p5 p6 ho5 hb5 hm5 hbt5 hx5 hC2 hdone HI4 HE4 HBK7 HOX HNX HSUB HGF HCL HL
   obtain ⟨p0, p1, p2, p3, p4, p5, p6⟩ := Blk.seven HI5.out.2.1 HOFF.out
   go_wp2_with fail
   refine (Yw x.alts[k].names HNS.out (-1) (by omega) b _ (Xh (H) 1 x.alts[k].names) (by have h1 := HN.out; have h2 := HLE.out; have h3 := HAB.out; rw [Qg] at h1; have h5 := Qn x.alts[k].names; omega) (fun s => by have h0 := (HM.out.2 s).1; have h1 := Vb x.alts[k].names s; simp only [Xh]; exact ⟨by omega, fun k => by have := h1 k; omega⟩) A2 cc2 _ HC2.out l2 HI5.out.2.2.1).mono ?_
   rintro en w6 ⟨rfl, hm6, hg6⟩
   have HI6 := Wd (qbo (Sub := RnX x (.slice A3 x.limbs.length c3) (.slice A4 x.names.length c4) (.slice (some ⟨gk, 0, none⟩) x.kids.length c5) (.slice (some ⟨ga, 0, none⟩) x.alts.length c6) F3 F4 F5 F6 G5 G6 x.kids.length x.alts.length (mix (fvC fr tn (Jn H fr) (Jn H fr || decide (x.name ≠ ⟨#[]⟩ ∧ x.name = fr)) x.kids) x.kids 1) (mix (Hv fr tn (Jn H fr || decide (x.name ≠ ⟨#[]⟩ ∧ x.name = fr)) x.alts) x.alts (k + 1))) HS.out HX.out.lt HI5.out.2.1 HI5.out.2.2.2.1 HI5.out.2.2.2.2.1 HI5.out.2.2.2.2.2 hg6 hm6 (fun hm => HX5.out.move hm))
   have HE6 := Wd (show True from trivial)
   exact f47
  ·have hkk : k = x.alts.length := by omega
   have HI1 := Wd (show RnX x (.slice A3 x.limbs.length c3) (.slice A4 x.names.length c4) (.slice (some ⟨gk, 0, none⟩) x.kids.length c5) (.slice A6 x.alts.length c6) F3 F4 F5 F6 G5 G6 x.kids.length x.alts.length (mix (fvC fr tn (Jn H fr) (Jn H fr || decide (x.name ≠ ⟨#[]⟩ ∧ x.name = fr)) x.kids) x.kids 1) (mix (Hv fr tn (Jn H fr || decide (x.name ≠ ⟨#[]⟩ ∧ x.name = fr)) x.alts) x.alts x.alts.length) wr ∧ Blk wr g e (pre ++ ([.int .i64 8, .string x.name, .bool x.minus, .slice A3 x.limbs.length c3, .slice A4 x.names.length c4, .slice (some ⟨gk, 0, none⟩) x.kids.length c5, .slice A6 x.alts.length c6] ++ post)) ∧ CountM wr b (n + 2 * Qo (x.kids.take 1) + 2 * Qq x.alts) (H) ∧ But (b :: g :: (F3 ++ (F4 ++ ((F5 ++ G5) ++ (F6 ++ G6))))) w wr ∧ Blk wr b1 9 [.string fr] ∧ Blk wr b2 9 [.string tn] from by have h := HI.out; rw [hkk, List.take_length] at h; exact h)
   have hke : 1 ≤ x.kids.length := hkl
   clear HI hkk
   go_wp2_with fail
   ·subst h
    clear p0 p1 p2 p3 p4 p5 p6
    go_loopw [112] (fun s wr => ∃ j : Nat, j + 1 ≤ x.kids.length ∧ s = .int .i64 j ∧ Hid (RnX x (.slice A3 x.limbs.length c3) (.slice A4 x.names.length c4) (.slice (some ⟨gk, 0, none⟩) x.kids.length 1) (.slice A6 x.alts.length c6) F3 F4 F5 F6 G5 G6 x.kids.length x.alts.length (mix (fvC fr tn (Jn H fr) (Jn H fr || decide (x.name ≠ ⟨#[]⟩ ∧ x.name = fr)) x.kids) x.kids (j + 1)) (mix (Hv fr tn (Jn H fr || decide (x.name ≠ ⟨#[]⟩ ∧ x.name = fr)) x.alts) x.alts x.alts.length) wr ∧ Blk wr g e (pre ++ ([.int .i64 8, .string x.name, .bool x.minus, .slice A3 x.limbs.length c3, .slice A4 x.names.length c4, .slice (some ⟨gk, 0, none⟩) x.kids.length 1, .slice A6 x.alts.length c6] ++ post)) ∧ CountM wr b (n + 2 * Qq x.alts + 2 * Qo (x.kids.take (j + 1))) (H) ∧ But (b :: g :: (F3 ++ (F4 ++ ((F5 ++ G5) ++ (F6 ++ G6))))) w wr ∧ Blk wr b1 9 [.string fr] ∧ Blk wr b2 9 [.string tn]) ∧ Hid (True)) (fun s _ => x.kids.length - (intOf s).toNat)
    case atStart => exact ⟨0, hke, rfl, Wd (by have h := HI1.out; exact ⟨h.1, h.2.1, h.2.2.1.mono (by simp only [Nat.zero_add]; omega), h.2.2.2⟩), HE⟩
    clear HI1 HE
    case round =>
     obtain ⟨j, hj, rfl, HI, HE⟩ := hrel
     obtain ⟨p0, p1, p2, p3, p4, p5, p6⟩ := Blk.seven HI.out.2.1 HOFF.out
     by_cases hlt : j + 1 < x.kids.length
     ·exfalso; omega
     ·have hjj : j + 1 = x.kids.length := by omega
      have h3 := HI.out
      rw [hjj, List.take_length, Xj (Kq _ _ _ _ _), Xj (Jw _ _ _ _)] at h3
      have H3 := Wd h3; clear h3 HI hjj
      go_wp2_with fail
      clear p0 p1 p2 p3 p4 p5 p6
      refine ⟨_, results_none rfl _ _ _, rfl, [.int .i64 8, .string x.name, .bool x.minus, .slice A3 x.limbs.length c3, .slice A4 x.names.length c4, .slice (some ⟨gk, 0, none⟩) x.kids.length 1, .slice A6 x.alts.length c6], ?_, H3.out.2.1, H3.out.2.2.1.mono (by rw [Qg]; omega), H3.out.2.2.2.1⟩
      exact f41
   ·clear h
    clear p0 p1 p2 p3 p4 p5 p6
    go_loopw [112] (fun s wr => ∃ j : Nat, j + 1 ≤ x.kids.length ∧ s = .int .i64 j ∧ Hid (RnX x (.slice A3 x.limbs.length c3) (.slice A4 x.names.length c4) (.slice (some ⟨gk, 0, none⟩) x.kids.length c5) (.slice A6 x.alts.length c6) F3 F4 F5 F6 G5 G6 x.kids.length x.alts.length (mix (fvC fr tn (Jn H fr) (Jn H fr || decide (x.name ≠ ⟨#[]⟩ ∧ x.name = fr)) x.kids) x.kids (j + 1)) (mix (Hv fr tn (Jn H fr || decide (x.name ≠ ⟨#[]⟩ ∧ x.name = fr)) x.alts) x.alts x.alts.length) wr ∧ Blk wr g e (pre ++ ([.int .i64 8, .string x.name, .bool x.minus, .slice A3 x.limbs.length c3, .slice A4 x.names.length c4, .slice (some ⟨gk, 0, none⟩) x.kids.length c5, .slice A6 x.alts.length c6] ++ post)) ∧ CountM wr b (n + 2 * Qq x.alts + 2 * Qo (x.kids.take (j + 1))) (H) ∧ But (b :: g :: (F3 ++ (F4 ++ ((F5 ++ G5) ++ (F6 ++ G6))))) w wr ∧ Blk wr b1 9 [.string fr] ∧ Blk wr b2 9 [.string tn]) ∧ Hid (True)) (fun s _ => x.kids.length - (intOf s).toNat)
    case atStart => exact ⟨0, hke, rfl, Wd (by have h := HI1.out; exact ⟨h.1, h.2.1, h.2.2.1.mono (by simp only [Nat.zero_add]; omega), h.2.2.2⟩), HE⟩
    clear HI1 HE
    case round =>
     obtain ⟨j, hj, rfl, HI, HE⟩ := hrel
     obtain ⟨p0, p1, p2, p3, p4, p5, p6⟩ := Blk.seven HI.out.2.1 HOFF.out
     by_cases hlt : j + 1 < x.kids.length
     ·obtain ⟨gk', cap', c1, cx, pk, Gx, hv5, hcap', hl, hblk, hox, hnx, hsub, hgF, hgx, hcl⟩ := HI.out.1.kid (k := j + 1) (by rw [Zg (Kq _ _ _ _ _)]; exact hlt)
      simp only [Value.slice.injEq, Option.some.injEq, Addr.mk.injEq, and_true, true_and] at hv5
      obtain ⟨rfl, rfl⟩ := hv5
      rw [Xf (Kq _ _ _ _ _) hlt] at hox
      have ⟨HBK7, HOX, HNX, HSUB, HGF, HCL, HL⟩ := Wk hblk hox (show Gx.Nodup ∧ gk ∉ Gx from ⟨hnx, hgx⟩) hsub hgF hcl hl
      clear hblk hox hnx hgx hsub hgF hcl hl hcap'
      have qk0 : (0 : Int) ≤ (j : Int) := by omega
      have qk2 : 1 + (j : Int) < x.kids.length := by omega
      have HLK := Wd (show Qo (x.kids.take (j + 1 + 1)) = Qo (x.kids.take (j + 1)) + (1 + bulk x.kids[j + 1]) ∧ Qo (x.kids.take (j + 1 + 1)) ≤ Qo x.kids from ⟨Xp _ _ hlt, Zq _ _⟩)
      go_wp2_with fail
      refine (IHK.out _ (List.getElem_mem hlt) (HKS.out _ (List.getElem_mem hlt)) (by have := Qx (List.getElem_mem hlt); have := HBK.out; rw [Qg] at this; omega) _ gk ((1 + j) * 7) _ c1 cx pk Gx b b1 b2 _ (H) (by have := HL.out; omega) HBK7.out HOX.out HNX.out.1 (HS.out.sub HGF.out HSUB.out HNX.out.2) HI.out.2.2.2.2.1 HI.out.2.2.2.2.2 HI.out.2.2.1 (by have h1 := HN.out; have h2 := HLK.out; rw [Qg] at h1; omega)).mono ?_
      rintro en w7 ⟨rfl, cx', ho7, hb7, hm7, hbt7⟩
      have HI7 := Wd (qaf HS.out HX.out.lt HGF.out HSUB.out HI.out.2.1 HI.out.2.2.2.1 HI.out.2.2.2.2.1 HI.out.2.2.2.2.2 ho7 hb7 hm7 hbt7 HCL.out)
      have HE7 := Wd (show True from trivial)
      have HI8 := Wd (show RnX x (.slice A3 x.limbs.length c3) (.slice A4 x.names.length c4) (.slice (some ⟨gk, 0, none⟩) x.kids.length c5) (.slice A6 x.alts.length c6) F3 F4 F5 F6 G5 G6 x.kids.length x.alts.length (mix (fvC fr tn (Jn H fr) (Jn H fr || decide (x.name ≠ ⟨#[]⟩ ∧ x.name = fr)) x.kids) x.kids (j + 1 + 1)) (mix (Hv fr tn (Jn H fr || decide (x.name ≠ ⟨#[]⟩ ∧ x.name = fr)) x.alts) x.alts x.alts.length) w7 ∧ Blk w7 g e (pre ++ ([.int .i64 8, .string x.name, .bool x.minus, .slice A3 x.limbs.length c3, .slice A4 x.names.length c4, .slice (some ⟨gk, 0, none⟩) x.kids.length c5, .slice A6 x.alts.length c6] ++ post)) ∧ CountM w7 b (n + 2 * Qq x.alts + 2 * Qo (x.kids.take (j + 1 + 1))) (H) ∧ But (b :: g :: (F3 ++ (F4 ++ ((F5 ++ G5) ++ (F6 ++ G6))))) w w7 ∧ Blk w7 b1 9 [.string fr] ∧ Blk w7 b2 9 [.string tn] from by
       exact f84)
      exact f79
     ·have hjj : j + 1 = x.kids.length := by omega
      have h3 := HI.out
      rw [hjj, List.take_length, Xj (Kq _ _ _ _ _), Xj (Jw _ _ _ _)] at h3
      have H3 := Wd h3; clear h3 HI hjj
      go_wp2_with fail
      clear p0 p1 p2 p3 p4 p5 p6
      refine ⟨_, results_none rfl _ _ _, rfl, [.int .i64 8, .string x.name, .bool x.minus, .slice A3 x.limbs.length c3, .slice A4 x.names.length c4, .slice (some ⟨gk, 0, none⟩) x.kids.length c5, .slice A6 x.alts.length c6], ?_, H3.out.2.1, H3.out.2.2.1.mono (by rw [Qg]; omega), H3.out.2.2.2.1⟩
      exact f41
theorem fv_all (fr tn : ByteArray) (x : CoreT) : Vx fr tn x := by
 refine Za (Vx fr tn) (fun x ihk iha => ?_) x
 by_cases h1 : x.kind = 1
 ·exact fv_var fr tn x h1
 by_cases h6 : x.kind = 6
 ·exact qwe fr tn x h6 ihk
 by_cases h7 : x.kind = 7
 ·exact qwf fr tn x h7 ihk
 by_cases h8 : x.kind = 8
 ·by_cases hn : x.name = ⟨#[]⟩
  ·exact qwh fr tn x h8 hn ihk iha
  ·exact qwg fr tn x h8 hn ihk iha
 exact qwi fr tn x h1 h6 h7 h8 ihk
end Go.Proofs.YtnoammmohdmnjaaGreat.C13
