import Derived.Test.YtnoammmohdmnjaaGreatU29
set_option maxRecDepth 100000
set_option maxHeartbeats 16000000
set_option linter.unusedVariables false
set_option linter.unusedSimpArgs false
namespace Go.Proofs.YtnoammmohdmnjaaGreat.C13
open Go.RowKit Go.Proofs.YtnoammmohdmnjaaGreatW.PrintWords
open List renaming setIfInBounds_toArray → Jla, set_cons_zero → Jlb, set_cons_succ → Jlc
def qbk (x : CoreT) : List ByteArray := (Zc x).foldl Xx []
def qad (x : CoreT) : List ByteArray := (fvs [] x).foldl Xx []
def qir (l : List ByteArray) (w : World) (e : Ending) (w' : World) : Prop := ∃ v, e = .returned v ∧ w'.ownsRow w.heap.size 9 1 v l.length (Xa l) ∧ Below w.heap.size w w'
theorem R_emp {w : World} {g base : Nat} (hb : Blk w g 9 []) (h : base ≤ g) : Kd.R Kd.string 9 w base (fun _ => True) (.slice (some ⟨g, 0, none⟩) 0 0) [] :=
 Kd.R_of_own (xs := []) (Ho hb h) (fun _ _ => trivial)
theorem f91 {p : Prop} (h : p := by
 rintro e w3 ⟨v, rfl, hg⟩
 have HG := Wd hg
 clear hg p0 p1 p2 p3 p4 p5 p6 q0 q1 q2 q3 q4 q5 q6
 go_wp2
 go_ret
 exact ⟨v, rfl, qff HG.out.any, HG.out.bl⟩) : p := h
theorem qee (x : CoreT) (hbk : bulk x ≤ 274877906944) (hlen : (Zc x).length ≤ 1000000000) (w : World) (cs : List Value) (hK : IC.K w x cs) : Calls Tryz.prog 48 #[.agg cs.toArray] w (qir (qbk x) w) := by
 obtain ⟨A3, c3, A4, c4, A5, c5, A6, c6, rfl, -⟩ := Qk hK
 have ⟨HK, HBK, HLEN⟩ := Wq hK hbk hlen
 clear hK hbk hlen
 obtain ⟨W1, hW1, hp1, hB1, hs1⟩ := Wy w x A3 c3 A4 c4 A5 c5 A6 c6 35
 obtain ⟨W2, hW2, hp2, hB2, hs2⟩ := boxed W1 [] 9
 have HB2 := Wd (Below.step hB1 hB2)
 have ⟨p0, p1, p2, p3, p4, p5, p6⟩ := Cz (hp1.below hB2)
 have ⟨q0, q1, q2, q3, q4, q5, q6⟩ := Cz hp1
 have HE := Wd (R_emp (base := w.heap.size) hp2 (by omega))
 rw [hs1] at HE
 clear hp1 hp2 hB1 hB2 hs1 hs2
 subst hW2; subst hW1
 simp only [Qb]
 go_enter Tryz.func48, Tryz.ntmps48
 go_wp2_with fail
 refine (qzo x HBK.out w _ _ _ [] (by have := HLEN.out; simpa using this) HK.out HB2.out HE.out).mono ?_
 exact f91
theorem qjh (x : CoreT) (hsane : Vn x) (hbk : bulk x ≤ 274877906944) (hlen : Qr x ≤ 1000000000) (hlen2 : (fvs [] x).length ≤ 1000000000) (w : World) (cs : List Value) (hK : IC.K w x cs) : Calls Tryz.prog 47 #[.agg cs.toArray] w (qir (qad x) w) := by
 obtain ⟨A3, c3, A4, c4, A5, c5, A6, c6, rfl, -⟩ := Qk hK
 have ⟨HK, HBK, HLEN, HSA, HL2⟩ := Wz hK hbk hlen hsane hlen2
 clear hK hbk hlen hsane hlen2
 obtain ⟨W1, hW1, hp1, hB1, hs1⟩ := Wy w x A3 c3 A4 c4 A5 c5 A6 c6 35
 obtain ⟨W2, hW2, hp2, hB2, hs2⟩ := boxed W1 [] 9
 have HB2 := Wd (Below.step hB1 hB2)
 have ⟨p0, p1, p2, p3, p4, p5, p6⟩ := Cz (hp1.below hB2)
 have ⟨q0, q1, q2, q3, q4, q5, q6⟩ := Cz hp1
 have HE := Wd (R_emp (base := w.heap.size) hp2 (by omega))
 rw [hs1] at HE
 clear hp1 hp2 hB1 hB2 hs1 hs2
 subst hW2; subst hW1
 simp only [Qb]
 go_enter Tryz.func47, Tryz.ntmps47
 go_wp2_with fail
 refine (qwa x HSA.out HBK.out w _ _ _ [] [] _ [] (by have := HLEN.out; simpa using this) (by have := HL2.out; simpa using this) HK.out HB2.out HE.out (.inl ⟨rfl, rfl, rfl, rfl⟩) (by simp)).mono ?_
 exact f91
theorem qfl (av : List ByteArray) (hav : av.length ≤ 1000000000) (s : ByteArray) (hs : s.size ≤ 1000000000000) (A : Option Addr) (c : Nat) (w : World) (hr : Kd.string.C w A av.length av) (hc : av.length ≤ c) :
  Calls Tryz.prog 89 #[.string s, .slice A av.length c] w fun e w' => e = .returned (.string (Zt av s)) ∧ Below w.heap.size w w' := by
 have HR := Wd hr; clear hr
 have HAV := Wd (show av.length ≤ 274877906944 by omega)
 go_enter Tryz.func89, Tryz.ntmps89
 go_wp2_with fail
 go_loopw [5] (fun s0 wr => ∃ t : ByteArray, s0 = .string (t ++ ⟨#[39]⟩) ∧ Zt av t = Zt av s ∧ t.size + Ur av t.size ≤ s.size + av.length ∧ Hid (Below w.heap.size w wr)) (fun s0 _ => match s0 with | .string u => Ur av (u.size - 1) | _ => 0)
 case atStart => exact ⟨s, rfl, rfl, by have := Vo av s.size; omega, Wd (Below.refl _ _)⟩
 case round =>
  obtain ⟨t, rfl, he, hb, HB⟩ := hrel
  have hts := Kb t
  have HE := Wd he
  clear he
  go_wp2_with fail
  refine (Jj av _ HAV.out A c wr (Kd.C_below HR.out HB.out) hc).mono ?_
  rintro e w2 ⟨rfl, hb2⟩
  have HB2 := Wd (HB.out.trans (hb2.mono HB.out.size))
  clear hb2
  by_cases hmm : t ++ ⟨#[39]⟩ ∈ av
  ·rw [decide_eq_true hmm]
   have hlt := qcf hmm hts
   have HF := Wd (show Zt av (t ++ ⟨#[39]⟩) = Zt av s from by rw [← HE.out, Hj av t, if_pos hmm])
   clear hmm
   go_wp2
   go_roundw
   case rel => exact ⟨t ++ ⟨#[39]⟩, rfl, HF.out, by rw [hts]; omega, HB2⟩
   case measure => show Ur av ((t ++ ⟨#[39]⟩ ++ ⟨#[39]⟩).size - 1) < Ur av ((t ++ ⟨#[39]⟩).size - 1); rw [Kb (t ++ _), Nat.add_sub_cancel, hts, Nat.add_sub_cancel]; exact hlt
  ·rw [decide_eq_false hmm]
   have HF := Wd (show Zt av s = t ++ ⟨#[39]⟩ from by rw [← HE.out, Hj av t, if_neg hmm])
   clear hmm
   go_wp2
   go_ret
   exact ⟨by rw [HF.out]; rfl, HB2.out⟩
structure Sb (S : World) (bs : Nat) (nm : ByteArray) (bt : CoreT) (free all : List ByteArray) (B3 : Option Addr) (b3 : Nat) (B4 : Option Addr) (b4 : Nat) (B5 : Option Addr) (b5 : Nat) (B6 : Option Addr) (b6 : Nat) (Af : Option Addr) (cf : Nat) (Aa : Option Addr) (ca : Nat) : Prop where
 blk : Blk S bs 80 [.string nm, .int .i64 bt.kind, .string bt.name, .bool bt.minus, .slice B3 bt.limbs.length b3, .slice B4 bt.names.length b4, .slice B5 bt.kids.length b5, .slice B6 bt.alts.length b6, .slice Af free.length cf, .slice Aa all.length ca]
 bt : IC.K S bt (Qb bt B3 b3 B4 b4 B5 b5 B6 b6)
 fl : free.length ≤ cf
 fc : Kd.string.C S Af free.length free
 al : all.length ≤ ca
 ac : Kd.string.C S Aa all.length all
theorem qfr (nm : ByteArray) (all : List ByteArray) (x : CoreT) (s : ByteArray) : Zt (all ++ (qbk x ++ [nm])) s = Zt (Uc nm all x) s :=
 qae (fun t => by simp only [Uc, List.mem_append, qbk, qfa, List.not_mem_nil, false_or]) s
theorem qne {w : World} {base base' : Nat} {e : TypeId} {size : Nat} {v : Value} {n : Nat} {xs : List Value} (h : w.ownsRow base e size v n xs) (hb : base' ≤ base) : w.ownsRow base' e size v n xs := by
 obtain ⟨h1, h2⟩ := h
 refine ⟨h1, h2.imp id ?_⟩
 rintro ⟨g, cap, cur, a, b, c, d⟩
 exact ⟨g, cap, cur, a, Nat.le_trans hb b, c, d⟩
theorem qag {S : World} {bs : Nat} {nm : ByteArray} {bt : CoreT} {free all : List ByteArray} {B3 : Option Addr} {b3 : Nat} {B4 : Option Addr} {b4 : Nat} {B5 : Option Addr} {b5 : Nat} {B6 : Option Addr} {b6 : Nat} {Af : Option Addr} {cf : Nat} {Aa : Option Addr} {ca : Nat}
  (hS : Sb S bs nm bt free all B3 b3 B4 b4 B5 b5 B6 b6 Af cf Aa ca) (hal : all.length ≤ 1000000000) (x : CoreT) (hbk : bulk x ≤ 274877906944) (hlen : (Zc x).length ≤ 1000000000) (w : World) (cs : List Value) (hB : Below S.heap.size S w) (hK : IC.K w x cs) :
  Calls Tryz.prog 90 #[.pointer (some ⟨bs, 0, none⟩), .agg cs.toArray] w (qir (all ++ (qbk x ++ [nm])) w) := by
 obtain ⟨A3, c3, A4, c4, A5, c5, A6, c6, rfl, -⟩ := Qk hK
 have ⟨HK, HBK, HLEN, HSB, HAL⟩ := Wz hK hbk hlen hS hal
 clear hK hbk hlen hS hal
 obtain ⟨W1, hW1, hp1, hB1, hs1⟩ := Wy w x A3 c3 A4 c4 A5 c5 A6 c6 35
 have HB1 := Wd hB1; have BP1 := Wd hp1
 have HBS := Wd (hB.trans (hB1.mono hB.size))
 clear hp1 hB1 hs1 hB
 subst hW1
 simp only [Qb]
 go_enter Tryz.func90, Tryz.ntmps90
 go_wp2_with fail
 obtain ⟨W1, hW1⟩ : ∃ W1, W1 = w.alloc (.cells #[.int .i64 x.kind, .string x.name, .bool x.minus, .slice A3 x.limbs.length c3, .slice A4 x.names.length c4, .slice A5 x.kids.length c5, .slice A6 x.alts.length c6] 35) := ⟨_, rfl⟩
 rw [← hW1] at HB1 BP1 HBS ⊢
 clear hW1
 have s0 := (HSB.out.blk.below HBS.out).cell (j := 0) rfl; have s9 := (HSB.out.blk.below HBS.out).cell (j := 9) rfl
 have HAC := Wd (Kd.C_below HSB.out.ac HBS.out)
 have HKW := Wd ((Ja _ _).K_below HB1.out HK.out)
 have ⟨p0, p1, p2, p3, p4, p5, p6⟩ := Cz BP1.out
 refine Jg [1, 2, 3, 4, 6, 9, 10, 11, 12] [] ([0, 5, 7, 8] ++ [13]) [14, 15] [5, 10, 12, 13, 18] (by kernel_rfl) (fun W' => Below W1.heap.size W1 W') (Both [13] [18] (fun vs w F => ∃ v, vs = [v] ∧ w.ownsRow W1.heap.size 9 1 v (all ++ qbk x).length (Xa (all ++ qbk x)) ∧ F = v.ownBlock.toList) (fun vs w F => ∃ g, vs = [.slice (some ⟨g, 0, none⟩) 1 1] ∧ Blk w g 9 [.string nm] ∧ F = [g])) (by kernel_rfl) (by kernel_rfl) (fun _ _ d _ _ h => by cases d <;> exact h) (fun w' hb => hb) ?_
 iterate 9
  refine Yb 5 (y := fun w' hSw => by
   have ⟨t0, t9, r0, r1, r2, r3, r4⟩ := Cb7 hSw s0 s9 p0 p1 p2 p3 p4; have r5 := Cb hSw p5; have r6 := Cb hSw p6
   go_simp
   try with_reducible rfl) (h := ?_)
 refine YAll.nil (YAll.nil ⟨?ct, ?cu⟩)
 case ct =>
  refine Thr.par (T1 := [0, 5, 7, 8]) (T2 := [13]) 4 1 [13] [18] _ _ (by kernel_rfl) (Nat.le_refl _) ?_ ?_
  ·refine Thr.new (fun g => .slice (some ⟨g, 0, none⟩) 0 0) (.cells #[] 9) (some 5) (by rfl) rfl (by kernel_rfl) rfl (fun w' hb => by go_simp) ?_
   intro g w3 hg1 hg2 hg3 hb3
   simp only [Act.put, heap_drew, Nat.reduceAdd, Jla, Jlb, Jlc]
   refine Thr.appO (some 10) (by rfl) rfl (by kernel_rfl) rfl _ _ (by rfl) (.slice (some ⟨g, 0, none⟩) 0 0) [] (by rfl) (Ho hg3 hg1) Aa ca all (by rfl) (fun w' hb _ => Kd.C_below HAC.out (Qj hb)) (by have := HAL.out; simp only [List.length_nil]; omega) ?_
   intro v5 w5 ho5 hb5
   simp only [List.nil_append] at ho5
   simp only [Act.put, heap_drew, Nat.reduceAdd, Jla, Jlb, Jlc]
   refine Thr.step (some 12) (by rfl) rfl (by kernel_rfl) ?_
   intro w6 hb6 hk6 K hKK
   go_simp
   refine (qee x HBK.out HLEN.out w6 _ ((Ja _ _).K_below (Qj hb6) HKW.out)).mono ?_
   rintro e w7 ⟨v7, rfl, ho7, hb7⟩
   have ho6 := Xc ho5 hk6.2
   have r5 := Zk (by decide) ho6; have r7 := Zk (by decide) ho7
   refine hKK.out _ _ (v5.ownBlock.toList ++ v7.ownBlock.toList) rfl (hb6.trans (hb7.mono hb6.size)) ⟨But.of_below hb7, fun k hk => (List.mem_append.1 hk).imp id (r7.2.1 k), fun k hk => (List.mem_append.1 hk).elim (fun h => Nat.lt_of_lt_of_le (r5.1.lt k h) hb7.size) (r7.1.lt k), List.nodup_append.2 ⟨r5.2.2, r7.2.2, fun a ha b hb e => by have := r5.1.lt a ha; have := r7.2.1 b hb; omega⟩⟩ ?_
   obtain ⟨A7, c7, rfl, l7, hC7⟩ := r7.1.readsS
   obtain ⟨ax, hax⟩ : ∃ ax, ax = qbk x := ⟨_, rfl⟩
   have HAXL := Wd (show ax.length ≤ 1000000000 from by rw [hax]; have := HLEN.out; have := Jx (Zc x) []; unfold qbk; simp at this; omega)
   rw [← hax] at hC7 l7 r7 ⊢
   try simp only [Act.put, heap_drew, Nat.reduceAdd, Jla, Jlb, Jlc]
   refine Thr.appO2 (some 13) (by rfl) rfl (by kernel_rfl) rfl _ _ (by rfl) v5 _ all (by rfl) (Xc ho6 (fun k hk => hb7.block k (r5.1.lt k hk))) A7 c7 ax (by rfl) (fun w' hb hk8 => (hk8.right.row r7.1 (fun _ h => h)).c.2.2) (by have := HAL.out; have := HAXL.out; omega) ?_
   intro v8 w8 ho8 hb8
   exact Thr.done _ (fun w9 hb9 hk9 => ⟨v8, rfl, Xc ho8 hk9.2, rfl⟩)
  ·refine Thr.new (fun g => .slice (some ⟨g, 0, none⟩) 1 1) (.cells #[.string nm] 9) (some 18) (by rfl) rfl (by kernel_rfl) rfl (fun w' hb => by go_simp) ?_
   intro g w3 hg1 hg2 hg3 hb3
   exact Thr.done _ (fun w6 hb6 hk6 => ⟨g, rfl, hk6.blk hg3 (by simp), rfl⟩)
 case cu =>
  rintro u w3 F hb hnd hF ⟨F1, F2, rfl, ⟨v5, e1, ho5, rfl⟩, ⟨g, e2, hb6, rfl⟩⟩
  simp only [List.map_cons, List.map_nil, List.cons.injEq, and_true] at e1 e2
  simp only [qde, List.foldl_cons, List.foldl_nil, Act.put, Jla, Jlb, Jlc, qmf, List.map_cons, List.map_nil, List.getD_cons_succ, List.getD_cons_zero, e1, e2]
  have hb3 := Qj hb
  have HLL := Wd (show (all ++ qbk x).length ≤ 3000000000 from by have := HAL.out; have := HLEN.out; have := Jx (Zc x) []; rw [List.length_append]; unfold qbk; simp at this; omega)
  refine qby W1.heap.size rfl (by rfl) (by rfl) ho5 hb3.size (l := [nm]) (by rfl) (qww hb6) (by have := HLL.out; simp only [List.length_singleton]; omega) ?_
  intro v4 w4 ho4 hg4 hat4
  have HB4 := Wd (qax hb3 hg4 (Zk (by decide) ho5).2.1)
  have HO4 := Wd ho4
  clear hb hnd hF ho5 hb6 e1 e2 hb3 ho4 hg4 hat4 s0 s9 p0 p1 p2 p3 p4 p5 p6
  go_wp2
  go_ret
  refine ⟨_, rfl, ?_, Qa HB1.out HB4.out⟩
  have h := qne HO4.out HB1.out.size
  rw [List.append_assoc] at h
  exact h
section
variable {e ea : TypeId} {w : World}
theorem qel : ∀ (l : List CoreT) (cells : List Value) (G : List Nat) (k : Nat) (hk : k < l.length), Ju e ea w l cells G →
  ∃ c1 cx c2 G1 Gx G2, cells = c1 ++ (cx ++ c2) ∧ G = G1 ++ (Gx ++ G2) ∧ c1.length = k * 7 ∧ Ke e ea w l[k] cx Gx ∧
   ∀ w' y cx' Gx', Ke e ea w' y cx' Gx' → (∀ i ∈ G1 ++ G2, w'.heap[i]? = w.heap[i]?) → Ju e ea w' (l.set k y) (c1 ++ (cx' ++ c2)) (G1 ++ (Gx' ++ G2))
 | [], _, _, k, hk, _ => by cases hk
 | c :: r, cells, G, k, hk, h => by
  rw [Ju] at h
  obtain ⟨d1, d2, F1, F2, rfl, rfl, hc, hr⟩ := h
  cases k with
  | zero =>
   refine ⟨[], d1, d2, [], F1, F2, rfl, rfl, rfl, hc, fun w' y cx' Gx' hy hm => ?_⟩
   rw [List.set_cons_zero, Ju]
   exact ⟨cx', d2, Gx', F2, rfl, rfl, hy, Zs hr (fun i hi => hm i (by simpa using hi))⟩
  | succ k =>
   obtain ⟨c1, cx, c2, G1, Gx, G2, rfl, rfl, hl, hx, hcl⟩ := qel r d2 F2 k (by simpa using hk) hr
   refine ⟨d1 ++ c1, cx, c2, F1 ++ G1, Gx, G2, by simp, by simp, ?_, hx, fun w' y cx' Gx' hy hm => ?_⟩
   ·rw [List.length_append, hl, qgp hc]; omega
   ·rw [List.set_cons_succ, Ju]
    exact ⟨d1, c1 ++ (cx' ++ c2), F1, G1 ++ (Gx' ++ G2), by simp, by simp, Jy _ _ _ hc (fun i hi => hm i (by simp [hi])), hcl w' y cx' Gx' hy (fun i hi => hm i (by rcases List.mem_append.1 hi with h | h <;> simp [h]))⟩
theorem qek : ∀ (l : List AltT) (cells : List Value) (G : List Nat) (k : Nat) (hk : k < l.length), Jt e ea w l cells G →
  ∃ c1 cx c2 G1 Gx G2, cells = c1 ++ (cx ++ c2) ∧ G = G1 ++ (Gx ++ G2) ∧ c1.length = k * 9 ∧ qet e ea w l[k] cx Gx ∧
   ∀ w' y cx' Gx', qet e ea w' y cx' Gx' → (∀ i ∈ G1 ++ G2, w'.heap[i]? = w.heap[i]?) → Jt e ea w' (l.set k y) (c1 ++ (cx' ++ c2)) (G1 ++ (Gx' ++ G2))
 | [], _, _, k, hk, _ => by cases hk
 | c :: r, cells, G, k, hk, h => by
  rw [Jt] at h
  obtain ⟨d1, d2, F1, F2, rfl, rfl, hc, hr⟩ := h
  cases k with
  | zero =>
   refine ⟨[], d1, d2, [], F1, F2, rfl, rfl, rfl, hc, fun w' y cx' Gx' hy hm => ?_⟩
   rw [List.set_cons_zero, Jt]
   exact ⟨cx', d2, Gx', F2, rfl, rfl, hy, Jd hr (fun i hi => hm i (by simpa using hi))⟩
  | succ k =>
   obtain ⟨c1, cx, c2, G1, Gx, G2, rfl, rfl, hl, hx, hcl⟩ := qek r d2 F2 k (by simpa using hk) hr
   refine ⟨d1 ++ c1, cx, c2, F1 ++ G1, Gx, G2, by simp, by simp, ?_, hx, fun w' y cx' Gx' hy hm => ?_⟩
   ·rw [List.length_append, hl, qfd hc]; omega
   ·rw [List.set_cons_succ, Jt]
    exact ⟨d1, c1 ++ (cx' ++ c2), F1, G1 ++ (Gx' ++ G2), by simp, by simp, qam _ _ _ hc (fun i hi => hm i (by simp [hi])), hcl w' y cx' Gx' hy (fun i hi => hm i (by rcases List.mem_append.1 hi with h | h <;> simp [h]))⟩
end
structure Own7 (w : World) (x : CoreT) (v3 v4 v5 v6 : Value) (F : List Nat) : Prop where
 own : Ke 35 76 w x [.int .i64 x.kind, .string x.name, .bool x.minus, v3, v4, v5, v6] F
 nd : F.Nodup
theorem qig {g : Nat} {Gx Gx' R F F' : List Nat} {B : Nat} (hp : F.Perm (g :: (Gx ++ R))) (hp' : F'.Perm (g :: (Gx' ++ R))) (hF : F.Nodup) (hlt : ∀ i ∈ F, i < B) (hn : Gx'.Nodup) (hs : ∀ i ∈ Gx', i ∈ Gx ∨ B ≤ i) : F'.Nodup ∧ (∀ i ∈ F', i ∈ F ∨ B ≤ i) := by
 rw [hp.nodup_iff, List.nodup_cons, List.nodup_append] at hF
 obtain ⟨h1, h2, h3, h4⟩ := hF
 have hgB : g < B := hlt g (hp.mem_iff.2 (by simp))
 have hRB : ∀ i ∈ R, i < B := fun i hi => hlt i (hp.mem_iff.2 (by simp [hi]))
 refine ⟨?_, fun i hi => ?_⟩
 ·rw [hp'.nodup_iff, List.nodup_cons, List.nodup_append]
  refine ⟨fun h => ?_, hn, h3, fun a ha b hb e => ?_⟩
  ·rcases List.mem_append.1 h with h | h
   ·rcases hs g h with h | h
    ·exact h1 (List.mem_append_left _ h)
    ·omega
   ·exact h1 (List.mem_append_right _ h)
  ·rcases hs a ha with h | h
   ·exact h4 a h b hb e
   ·have := hRB b hb; omega
 ·rcases List.mem_cons.1 (hp'.mem_iff.1 hi) with rfl | h
  ·exact .inl (hp.mem_iff.2 (by simp))
  ·rcases List.mem_append.1 h with h | h
   ·rcases hs i h with h | h
    ·exact .inl (hp.mem_iff.2 (by simp [h]))
    ·exact .inr h
   ·exact .inl (hp.mem_iff.2 (by simp [h]))
section
variable {x : CoreT} {v3 v4 v5 v6 : Value} {F : List Nat} {w : World}
theorem Own7.lt (h : Own7 w x v3 v4 v5 v6 F) : ∀ k ∈ F, k < w.heap.size := Je _ _ _ h.own
theorem Own7.move {w' : World} (h : Own7 w x v3 v4 v5 v6 F) (hm : ∀ k ∈ F, w'.heap[k]? = w.heap[k]?) : Own7 w' x v3 v4 v5 v6 F := ⟨Jy _ _ _ h.own hm, h.nd⟩
theorem Own7.of {cs : List Value} (hO : Ke 35 76 w x cs F) (hnd : F.Nodup) : ∃ v3 v4 v5 v6, cs = [.int .i64 x.kind, .string x.name, .bool x.minus, v3, v4, v5, v6] ∧ Own7 w x v3 v4 v5 v6 F := by
 have h := hO
 rw [Xi] at h
 obtain ⟨v3, v4, v5, v6, F3, F4, F5, F6, G5, G6, c5, c6, rfl, -⟩ := h
 exact ⟨v3, v4, v5, v6, rfl, hO, hnd⟩
theorem Own7.form (h : Own7 w x v3 v4 v5 v6 F) : ∃ A3 c3 A4 c4 A5 c5 A6 c6, v3 = .slice A3 x.limbs.length c3 ∧ v4 = .slice A4 x.names.length c4 ∧ v5 = .slice A5 x.kids.length c5 ∧ v6 = .slice A6 x.alts.length c6 ∧ x.names.length ≤ c4 ∧ Kd.string.C w A4 x.names.length x.names ∧ IC.K w x (Qb x A3 c3 A4 c4 A5 c5 A6 c6) := by
 have h0 := h.own
 rw [Xi] at h0
 obtain ⟨_, _, _, _, F3, F4, F5, F6, G5, G6, c5, c6, he, rfl, h3, h4, ⟨h5, k5⟩, ⟨h6, k6⟩⟩ := h0
 simp only [List.cons.injEq, true_and, and_true] at he
 obtain ⟨rfl, rfl, rfl, rfl⟩ := he
 obtain ⟨A3, c3, rfl, -⟩ := h3.slice
 obtain ⟨A4, c4, rfl, l4, hC⟩ := h4.readsS
 obtain ⟨A5, c5', rfl, -⟩ := h5.slice
 obtain ⟨A6, c6', rfl, -⟩ := h6.slice
 exact ⟨A3, c3, A4, c4, A5, c5', A6, c6', rfl, rfl, rfl, rfl, l4, hC, Yo h.own⟩
theorem Own7.kid (h : Own7 w x v3 v4 v5 v6 F) {k : Nat} (hk : k < x.kids.length) :
  ∃ g cap c1 cx post Gx, v5 = .slice (some ⟨g, 0, none⟩) x.kids.length cap ∧ x.kids.length ≤ cap ∧ c1.length = k * 7 ∧ Blk w g 35 (c1 ++ (cx ++ post)) ∧ Ke 35 76 w x.kids[k] cx Gx ∧ Gx.Nodup ∧
   (∀ i ∈ Gx, i ∈ F) ∧ g ∈ F ∧ g ∉ Gx ∧
   ∀ y cx' Gx' w', Ke 35 76 w' y cx' Gx' → Gx'.Nodup → (∀ i ∈ Gx', i ∈ Gx ∨ w.heap.size ≤ i) → Blk w' g 35 (c1 ++ (cx' ++ post)) → (∀ i ∈ F, i ≠ g → i ∉ Gx → w'.heap[i]? = w.heap[i]?) →
    ∃ F', Own7 w' { x with kids := x.kids.set k y } v3 v4 v5 v6 F' ∧ ∀ i ∈ F', i ∈ F ∨ w.heap.size ≤ i := by
 have hlt := h.lt
 have hnd := h.nd
 have h0 := h.own
 rw [Xi] at h0
 obtain ⟨_, _, _, _, F3, F4, F5, F6, G5, G6, c5, c6, he, rfl, h3, h4, ⟨h5, k5⟩, ⟨h6, k6⟩⟩ := h0
 simp only [List.cons.injEq, true_and, and_true] at he
 obtain ⟨rfl, rfl, rfl, rfl⟩ := he
 rcases h5 with ⟨_, h0, _, _⟩ | ⟨g, cap, spare, rfl, hcap, hcap2, hb, rfl⟩
 ·omega
 obtain ⟨c1, cx, c2, G1, Gx, G2, rfl, rfl, hl, hx, hcl⟩ := qel x.kids _ _ k hk k5
 have hperm : ∀ G : List Nat, (F3 ++ (F4 ++ (([g] ++ (G1 ++ (G ++ G2))) ++ (F6 ++ G6)))).Perm (g :: (G ++ (F3 ++ (F4 ++ (G1 ++ (G2 ++ (F6 ++ G6))))))) := fun G => by
  rw [List.perm_iff_count]; intro a; simp only [List.count_append, List.count_cons, List.count_nil]; omega
 have hnd' := hnd
 rw [(hperm Gx).nodup_iff, List.nodup_cons, List.nodup_append] at hnd'
 obtain ⟨hg, hGx, hR, hdis⟩ := hnd'
 refine ⟨g, cap, c1, cx, c2 ++ spare, Gx, rfl, hcap, hl, by simpa [List.append_assoc] using hb, hx, hGx, fun i hi => by simp [hi], by simp, fun hh => hg (List.mem_append_left _ hh), fun y cx' Gx' w' hy hn' hs' hb' hm => ?_⟩
 have key : ∀ i ∈ F3 ++ (F4 ++ (G1 ++ (G2 ++ (F6 ++ G6)))), w'.heap[i]? = w.heap[i]? := fun i hi => hm i ((hperm Gx).mem_iff.2 (List.mem_cons_of_mem _ (List.mem_append_right _ hi))) (fun e => hg (List.mem_append_right _ (e ▸ hi))) (fun hx' => hdis i hx' i hi rfl)
 have ht := qig (hperm Gx) (hperm Gx') hnd hlt hn' hs'
 refine ⟨_, ⟨?_, ht.1⟩, ht.2⟩
 rw [Xi]
 exact ⟨_, _, _, _, F3, F4, [g], F6, G1 ++ (Gx' ++ G2), G6, _, c6, rfl, rfl, h3.move (fun i hi => key i (by simp [hi])), h4.move (fun i hi => key i (by simp [hi])), ⟨.inr ⟨g, cap, spare, by simp, by simpa using hcap, hcap2, by simpa [List.append_assoc] using hb', rfl⟩, hcl w' y cx' Gx' hy (fun i hi => key i (by simp only [List.mem_append] at hi ⊢; rcases hi with hi | hi <;> simp [hi]))⟩,
  ⟨h6.move (fun i hi => key i (by simp [hi])), Jd k6 (fun i hi => key i (by simp [hi]))⟩⟩
theorem Own7.nam (h : Own7 w x v3 v4 v5 v6 F) {k : Nat} (hk : k < x.names.length) :
  ∃ g cap c1 post, v4 = .slice (some ⟨g, 0, none⟩) x.names.length cap ∧ x.names.length ≤ cap ∧ c1.length = k ∧ Blk w g 9 (c1 ++ ([.string x.names[k]] ++ post)) ∧ g ∈ F ∧
   ∀ t w', Blk w' g 9 (c1 ++ ([.string t] ++ post)) → (∀ i ∈ F, i ≠ g → w'.heap[i]? = w.heap[i]?) → Own7 w' { x with names := x.names.set k t } v3 v4 v5 v6 F := by
 have hnd := h.nd
 have h0 := h.own
 rw [Xi] at h0
 obtain ⟨_, _, _, _, F3, F4, F5, F6, G5, G6, c5, c6, he, rfl, h3, h4, ⟨h5, k5⟩, ⟨h6, k6⟩⟩ := h0
 simp only [List.cons.injEq, true_and, and_true] at he
 obtain ⟨rfl, rfl, rfl, rfl⟩ := he
 rcases h4 with ⟨_, h0, _, _⟩ | ⟨g, cap, spare, rfl, hcap, hcap2, hb, rfl⟩
 ·omega
 have hsp : ∀ l : List ByteArray, k < l.length → ∀ t, Xa (l.set k t) = Xa (l.take k) ++ ([.string t] ++ Xa (l.drop (k + 1))) := fun l hl t => by
  rw [List.set_eq_take_append_cons_drop, if_pos hl]; simp [Xa]
 have hsp0 : Xa x.names = Xa (x.names.take k) ++ ([.string x.names[k]] ++ Xa (x.names.drop (k + 1))) := by
  have := hsp x.names hk x.names[k]
  rwa [List.set_getElem_self] at this
 have hperm : (F3 ++ ([g] ++ ((F5 ++ G5) ++ (F6 ++ G6)))).Perm (g :: (F3 ++ ((F5 ++ G5) ++ (F6 ++ G6)))) := by
  exact f77
 have hnd' := hnd
 rw [hperm.nodup_iff, List.nodup_cons] at hnd'
 refine ⟨g, cap, Xa (x.names.take k), Xa (x.names.drop (k + 1)) ++ spare, rfl, hcap, by simp [Xa]; omega, by rw [hsp0] at hb; simpa [List.append_assoc] using hb, by simp, fun t w' hb' hm => ?_⟩
 have key : ∀ i ∈ F3 ++ ((F5 ++ G5) ++ (F6 ++ G6)), w'.heap[i]? = w.heap[i]? := fun i hi => hm i (hperm.mem_iff.2 (List.mem_cons_of_mem _ hi)) (fun e => hnd'.1 (e ▸ hi))
 refine ⟨?_, hnd⟩
 rw [Xi]
 exact ⟨_, _, _, _, F3, [g], F5, F6, G5, G6, c5, c6, rfl, rfl, h3.move (fun i hi => key i (by simp [hi])), .inr ⟨g, cap, spare, by simp, by simpa using hcap, hcap2, by simp only; rw [hsp _ hk]; simpa [List.append_assoc] using hb', rfl⟩, ⟨h5.move (fun i hi => key i (by simp [hi])), Zs k5 (fun i hi => key i (by simp [hi]))⟩,
  ⟨h6.move (fun i hi => key i (by simp [hi])), Jd k6 (fun i hi => key i (by simp [hi]))⟩⟩
theorem Own7.alt (h : Own7 w x v3 v4 v5 v6 F) {k : Nat} (hk : k < x.alts.length) :
  ∃ g cap c1 cx post Gx, v6 = .slice (some ⟨g, 0, none⟩) x.alts.length cap ∧ x.alts.length ≤ cap ∧ c1.length = k * 9 ∧ Blk w g 76 (c1 ++ (cx ++ post)) ∧ qet 35 76 w x.alts[k] cx Gx ∧ Gx.Nodup ∧
   (∀ i ∈ Gx, i ∈ F) ∧ g ∈ F ∧ g ∉ Gx ∧
   ∀ y cx' Gx' w', qet 35 76 w' y cx' Gx' → Gx'.Nodup → (∀ i ∈ Gx', i ∈ Gx ∨ w.heap.size ≤ i) → Blk w' g 76 (c1 ++ (cx' ++ post)) → (∀ i ∈ F, i ≠ g → i ∉ Gx → w'.heap[i]? = w.heap[i]?) →
    ∃ F', Own7 w' { x with alts := x.alts.set k y } v3 v4 v5 v6 F' ∧ ∀ i ∈ F', i ∈ F ∨ w.heap.size ≤ i := by
 have hlt := h.lt
 have hnd := h.nd
 have h0 := h.own
 rw [Xi] at h0
 obtain ⟨_, _, _, _, F3, F4, F5, F6, G5, G6, c5, c6, he, rfl, h3, h4, ⟨h5, k5⟩, ⟨h6, k6⟩⟩ := h0
 simp only [List.cons.injEq, true_and, and_true] at he
 obtain ⟨rfl, rfl, rfl, rfl⟩ := he
 rcases h6 with ⟨_, h0, _, _⟩ | ⟨g, cap, spare, rfl, hcap, hcap2, hb, rfl⟩
 ·omega
 obtain ⟨c1, cx, c2, G1, Gx, G2, rfl, rfl, hl, hx, hcl⟩ := qek x.alts _ _ k hk k6
 have hperm : ∀ G : List Nat, (F3 ++ (F4 ++ ((F5 ++ G5) ++ ([g] ++ (G1 ++ (G ++ G2)))))).Perm (g :: (G ++ (F3 ++ (F4 ++ (F5 ++ (G5 ++ (G1 ++ G2))))))) := fun G => by
  rw [List.perm_iff_count]; intro a; simp only [List.count_append, List.count_cons, List.count_nil]; omega
 have hnd' := hnd
 rw [(hperm Gx).nodup_iff, List.nodup_cons, List.nodup_append] at hnd'
 obtain ⟨hg, hGx, hR, hdis⟩ := hnd'
 refine ⟨g, cap, c1, cx, c2 ++ spare, Gx, rfl, hcap, hl, by simpa [List.append_assoc] using hb, hx, hGx, fun i hi => by simp [hi], by simp, fun hh => hg (List.mem_append_left _ hh), fun y cx' Gx' w' hy hn' hs' hb' hm => ?_⟩
 have key : ∀ i ∈ F3 ++ (F4 ++ (F5 ++ (G5 ++ (G1 ++ G2)))), w'.heap[i]? = w.heap[i]? := fun i hi => hm i ((hperm Gx).mem_iff.2 (List.mem_cons_of_mem _ (List.mem_append_right _ hi))) (fun e => hg (List.mem_append_right _ (e ▸ hi))) (fun hx' => hdis i hx' i hi rfl)
 have ht := qig (hperm Gx) (hperm Gx') hnd hlt hn' hs'
 refine ⟨_, ⟨?_, ht.1⟩, ht.2⟩
 rw [Xi]
 exact ⟨_, _, _, _, F3, F4, F5, [g], G5, G1 ++ (Gx' ++ G2), c5, _, rfl, rfl, h3.move (fun i hi => key i (by simp [hi])), h4.move (fun i hi => key i (by simp [hi])), ⟨h5.move (fun i hi => key i (by simp [hi])), Zs k5 (fun i hi => key i (by simp [hi]))⟩,
  ⟨.inr ⟨g, cap, spare, by simp, by simpa using hcap, hcap2, by simpa [List.append_assoc] using hb', rfl⟩, hcl w' y cx' Gx' hy (fun i hi => key i (by simp only [List.mem_append] at hi ⊢; rcases hi with hi | hi <;> simp [hi]))⟩⟩
end
structure Env (free all : List ByteArray) (bt : CoreT) : Prop where
 fr : ∀ s ∈ free, s.size ≤ 1048576
 al : all.length ≤ 20000
 bt : Fit bt
section
variable {nm : ByteArray} {free all : List ByteArray} {bt : CoreT}
def clI (nm : ByteArray) (free all : List ByteArray) (x : CoreT) (i : Nat) : CoreT := (List.range i).foldl (Vk nm free all) x
theorem qck (x : CoreT) (i : Nat) : clI nm free all x (i + 1) = Vk nm free all (clI nm free all x i) i := by
 unfold clI; rw [List.range_succ, List.foldl_append]; rfl
theorem Ud (x : CoreT) : Hu nm free all x = clI nm free all x x.names.length := rfl
def qew (nm : ByteArray) (all : List ByteArray) (x : CoreT) (s : ByteArray) : ByteArray := Zt (Uc nm all x) s
theorem qdn {x : CoreT} {i : Nat} (hi : i < x.names.length) (hm : x.names[i] ∈ free) : Vk nm free all x i = { x with kids := x.kids.map (rn x.names[i] (qew nm all x x.names[i])), names := x.names.set i (qew nm all x x.names[i]) } := by
 unfold Vk
 rw [List.getElem?_eq_getElem hi]
 simp only
 rw [if_pos hm]; rfl
theorem qbs {x : CoreT} {i : Nat} (hi : i < x.names.length) (hm : x.names[i] ∉ free) : Vk nm free all x i = x := by
 unfold Vk
 rw [List.getElem?_eq_getElem hi]
 simp only
 rw [if_neg hm]
theorem qtd (x : CoreT) (s : ByteArray) : qew nm all x s ≠ nm ∧ 0 < (qew nm all x s).size := by
 refine ⟨fun e => qhz (Uc nm all x) s ?_, (qbv _ _).2⟩
 have : qew nm all x s = Zt (Uc nm all x) s := rfl
 rw [← this, e]
 simp [Uc]
theorem qtc (he : Env free all bt) {x : CoreT} (hx : Qr x ≤ 60000) {s : ByteArray} (hs : s ∈ free) : (qew nm all x s).size ≤ 2097152 := by
 have := (qbv (Uc nm all x) s).1
 have h1 := he.fr s hs
 have h2 := he.al
 have h3 := Jp x
 have : (Uc nm all x).length = all.length + ((Zc x).length + 1) := by simp [Uc]
 show (Zt (Uc nm all x) s).size ≤ _
 omega
structure Kept7 (x y : CoreT) : Prop where
 k : y.kind = x.kind
 n : y.name = x.name
 m : y.minus = x.minus
 l : y.limbs = x.limbs
 a : y.alts = x.alts
 nl : y.names.length = x.names.length
 kl : y.kids.length = x.kids.length
theorem Kept7.refl (x : CoreT) : Kept7 x x := ⟨rfl, rfl, rfl, rfl, rfl, rfl, rfl⟩
theorem Kept7.trans {x y z : CoreT} (h : Kept7 x y) (k : Kept7 y z) : Kept7 x z := ⟨k.k.trans h.k, k.n.trans h.n, k.m.trans h.m, k.l.trans h.l, k.a.trans h.a, k.nl.trans h.nl, k.kl.trans h.kl⟩
theorem qmp (he : Env free all bt) {x : CoreT} (hf : Fit x) (h1 : x.kind ≠ 1) (hnm : nm ∉ x.names) {i : Nat} (hi : i < x.names.length) :
  Kept7 x (Vk nm free all x i) ∧ Same nm x (Vk nm free all x i) ∧ nm ∉ (Vk nm free all x i).names ∧ Fit (Vk nm free all x i) ∧ All2 (Same nm) x.kids (Vk nm free all x i).kids := by
 by_cases hm : x.names[i] ∈ free
 ·rw [qdn hi hm]
  obtain ⟨hne, hpos⟩ := qtd (nm := nm) (all := all) x x.names[i]
  have hle := qtc (nm := nm) he hf.t hm
  have hs : x.names[i] ≠ nm := fun e => hnm (e ▸ List.getElem_mem hi)
  have hK : All2 (Same nm) x.kids (x.kids.map (rn x.names[i] (qew nm all x x.names[i]))) := All2.map (fun c _ => qfh hs hne hpos c)
  have hmem : nm ∈ x.names.set i (qew nm all x x.names[i]) ↔ nm ∈ x.names := by
   constructor
   ·intro h
    rcases List.mem_or_eq_of_mem_set h with h | h
    ·exact h
    ·exact absurd h.symm hne
   ·intro h; exact absurd h hnm
  have hS : Same nm x { x with kids := x.kids.map (rn x.names[i] (qew nm all x x.names[i])), names := x.names.set i (qew nm all x x.names[i]) } :=
   qnh rfl Iff.rfl h1 rfl (by simp) hmem hK (All2.refl (SameA.refl nm) _)
  refine ⟨⟨rfl, rfl, rfl, rfl, rfl, by simp, by simp⟩, hS, fun h => hnm (hmem.1 h), ⟨by rw [hS.t]; exact hf.t, by rw [hS.m]; exact hf.m, ?_, hS.s hf.s⟩, hK⟩
  have hn := Zd.1 hf.n
  rw [Zd]
  refine ⟨⟨hn.1.1, fun s hs' => ?_⟩, fun c hc => ?_, hn.2.2⟩
  ·rcases List.mem_or_eq_of_mem_set hs' with h | h
   ·exact hn.1.2 s h
   ·rw [h]; exact hle
  ·obtain ⟨d, hd, rfl⟩ := List.mem_map.1 hc
   exact qcv hle d (hn.2.1 d hd)
 ·rw [qbs hi hm]
  exact ⟨Kept7.refl _, Same.refl _ _, hnm, hf, All2.refl (Same.refl nm) _⟩
theorem All2.trans {α : Type} {R : α → α → Prop} (ht : ∀ a b c, R a b → R b c → R a c) : ∀ {l m n : List α}, All2 R l m → All2 R m n → All2 R l n
 | _, _, _, .nil, .nil => .nil
 | _, _, _, .cons h t, .cons k u => .cons (ht _ _ _ h k) (All2.trans ht t u)
theorem qaa (he : Env free all bt) {x : CoreT} (hf : Fit x) (h1 : x.kind ≠ 1) (hnm : nm ∉ x.names) : ∀ (i : Nat), i ≤ x.names.length →
  Kept7 x (clI nm free all x i) ∧ Same nm x (clI nm free all x i) ∧ nm ∉ (clI nm free all x i).names ∧ Fit (clI nm free all x i) ∧ All2 (Same nm) x.kids (clI nm free all x i).kids
 | 0, _ => ⟨Kept7.refl _, Same.refl _ _, hnm, hf, All2.refl (Same.refl nm) _⟩
 | i + 1, hi => by
  obtain ⟨k1, k2, k3, k4, k5⟩ := qaa he hf h1 hnm i (by omega)
  obtain ⟨j1, j2, j3, j4, j5⟩ := qmp he k4 (by rw [k1.k]; exact h1) k3 (i := i) (by rw [k1.nl]; omega)
  rw [qck]
  exact ⟨k1.trans j1, k2.trans j2, j3, j4, All2.trans (R := Same nm) (fun a b c h k => h.trans k) k5 j5⟩
end
structure Inv (L : Nat) (F0 : List Nat) (w0 : World) (y : CoreT) (v3 v4 v5 v6 : Value) (wr : World) : Prop where
 ex : ∃ F, Own7 wr y v3 v4 v5 v6 F ∧ ∀ i ∈ F, i ∈ F0 ∨ L ≤ i
 but : But F0 w0 wr
 lt0 : ∀ i ∈ F0, i < w0.heap.size
 ls : L ≤ wr.heap.size
section
variable {L : Nat} {F0 : List Nat} {w0 wr : World} {y : CoreT} {v3 v4 v5 v6 : Value}
theorem Inv.below {S : World} (h : Inv L F0 w0 y v3 v4 v5 v6 wr) (hB : Below S.heap.size S w0) (hF : ∀ i ∈ F0, S.heap.size ≤ i) : Below S.heap.size S wr := hB.trans (h.but.below hF hB.size)
theorem Inv.blk (h : Inv L F0 w0 y v3 v4 v5 v6 wr) {g : Nat} {e : TypeId} {cs : List Value} (hb : Blk w0 g e cs) (hg : g ∉ F0) : Blk wr g e cs := h.but.blk hb hg
theorem Inv.on (h : Inv L F0 w0 y v3 v4 v5 v6 wr) {w3 : World} (hb : Below wr.heap.size wr w3) : Inv L F0 w0 y v3 v4 v5 v6 w3 := by
 obtain ⟨F, hF, hs⟩ := h.ex
 exact ⟨⟨F, hF.move (fun k hk => hb.block k (hF.lt k hk)), hs⟩, h.but.trans (But.of_below hb), h.lt0, Nat.le_trans h.ls hb.size⟩
theorem Inv.form (h : Inv L F0 w0 y v3 v4 v5 v6 wr) : ∃ A3 c3 A4 c4 A5 c5 A6 c6, v3 = .slice A3 y.limbs.length c3 ∧ v4 = .slice A4 y.names.length c4 ∧ v5 = .slice A5 y.kids.length c5 ∧ v6 = .slice A6 y.alts.length c6 ∧ y.names.length ≤ c4 ∧ Kd.string.C wr A4 y.names.length y.names ∧ IC.K wr y (Qb y A3 c3 A4 c4 A5 c5 A6 c6) := by
 obtain ⟨F, hF, _⟩ := h.ex
 exact hF.form
theorem Inv.step (h : Inv L F0 w0 y v3 v4 v5 v6 wr) {F G : List Nat} (hFs : ∀ i ∈ F, i ∈ F0 ∨ L ≤ i) (hw : w0.heap.size ≤ L) {w5 : World} {y' : CoreT} {F' : List Nat} (ho : Own7 w5 y' v3 v4 v5 v6 F') (hs : ∀ i ∈ F', i ∈ F ∨ wr.heap.size ≤ i) (hb : But G wr w5) (hG : ∀ i ∈ G, i ∈ F) : Inv L F0 w0 y' v3 v4 v5 v6 w5 := by
 refine ⟨⟨F', ho, fun i hi => (hs i hi).elim (hFs i) (fun h' => .inr (Nat.le_trans h.ls h'))⟩, ⟨hb.os.trans h.but.os, hb.tape.trans h.but.tape, hb.output.trans h.but.output, Nat.le_trans h.but.size hb.size, fun i hi hn => ?_⟩, h.lt0, Nat.le_trans h.ls hb.size⟩
 rw [hb.block i (Nat.lt_of_lt_of_le hi h.but.size) (fun hg => (hFs i (hG i hg)).elim hn (fun h' => by omega)), h.but.block i hi hn]
theorem Inv.kid (h : Inv L F0 w0 y v3 v4 v5 v6 wr) (hw : w0.heap.size ≤ L) {k : Nat} (hk : k < y.kids.length) :
  ∃ g cap c1 cx post, v5 = .slice (some ⟨g, 0, none⟩) y.kids.length cap ∧ y.kids.length ≤ cap ∧ c1.length = k * 7 ∧ Blk wr g 35 (c1 ++ (cx ++ post)) ∧ (∃ Gx, Ke 35 76 wr y.kids[k] cx Gx ∧ Gx.Nodup ∧ (∀ i ∈ Gx, i ∈ F0 ∨ L ≤ i) ∧ g ∉ Gx ∧ (g ∈ F0 ∨ L ≤ g) ∧ (∀ i ∈ Gx, i < wr.heap.size) ∧
   ∀ z cx' Gx' w4 w5, Ke 35 76 w4 z cx' Gx' → Gx'.Nodup → (∀ i ∈ Gx', i ∈ Gx ∨ wr.heap.size ≤ i) → But Gx wr w4 → w4.grownBy w5 (some g) → Blk w5 g 35 (c1 ++ (cx' ++ post)) → Inv L F0 w0 { y with kids := y.kids.set k z } v3 v4 v5 v6 w5) := by
 obtain ⟨F, hF, hs⟩ := h.ex
 obtain ⟨g, cap, c1, cx, post, Gx, e, hc, hl, hb, ho, hn, hsub, hgF, hgx, hcl⟩ := hF.kid hk
 refine ⟨g, cap, c1, cx, post, e, hc, hl, hb, Gx, ho, hn, fun i hi => hs i (hsub i hi), hgx, hs g hgF, Je _ _ _ ho, fun z cx' Gx' w4 w5 hz hn' hs' h4 h5 hb5 => ?_⟩
 have hgg : g ∉ Gx' := fun hh => (hs' g hh).elim hgx (fun h' => by have := hb.lt; omega)
 have hbt : But (g :: Gx) wr w5 := ⟨h5.os.trans h4.os, h5.tape.trans h4.tape, h5.output.trans h4.output, Nat.le_trans h4.size h5.size, fun i hi hn => by
  rw [h5.block i (Nat.lt_of_lt_of_le hi h4.size) (fun e => hn (by injection e with e; simp [e])), h4.block i hi (fun hh => hn (by simp [hh]))]⟩
 obtain ⟨F', ho', hs''⟩ := hcl z cx' Gx' w5 (Xv hz h5 (fun i hi e => hgg (e ▸ hi))) hn' hs' hb5 (fun i hi h1 h2 => hbt.block i (hF.lt i hi) (fun hh => (List.mem_cons.1 hh).elim h1 h2))
 exact h.step hs hw ho' hs'' hbt (fun i hi => (List.mem_cons.1 hi).elim (fun e => e ▸ hgF) (hsub i))
theorem Inv.nam (h : Inv L F0 w0 y v3 v4 v5 v6 wr) (hw : w0.heap.size ≤ L) {k : Nat} (hk : k < y.names.length) :
  ∃ g cap c1 post, v4 = .slice (some ⟨g, 0, none⟩) y.names.length cap ∧ y.names.length ≤ cap ∧ c1.length = k ∧ Blk wr g 9 (c1 ++ ([.string y.names[k]] ++ post)) ∧ (g ∈ F0 ∨ L ≤ g) ∧
   ∀ t w5, wr.grownBy w5 (some g) → Blk w5 g 9 (c1 ++ ([.string t] ++ post)) → Inv L F0 w0 { y with names := y.names.set k t } v3 v4 v5 v6 w5 := by
 obtain ⟨F, hF, hs⟩ := h.ex
 obtain ⟨g, cap, c1, post, e, hc, hl, hb, hgF, hcl⟩ := hF.nam hk
 refine ⟨g, cap, c1, post, e, hc, hl, hb, hs g hgF, fun t w5 h5 hb5 => ?_⟩
 exact h.step hs hw (hcl t w5 hb5 (fun i hi hne => h5.block i (hF.lt i hi) (fun e => hne (by injection e)))) (fun i hi => .inl hi) (But.of_grown h5) (fun i hi => by rw [List.mem_singleton.1 hi]; exact hgF)
theorem Inv.alt (h : Inv L F0 w0 y v3 v4 v5 v6 wr) (hw : w0.heap.size ≤ L) {k : Nat} (hk : k < y.alts.length) :
  ∃ g cap c1 cx post, v6 = .slice (some ⟨g, 0, none⟩) y.alts.length cap ∧ y.alts.length ≤ cap ∧ c1.length = k * 9 ∧ Blk wr g 76 (c1 ++ (cx ++ post)) ∧ (∃ Gx, qet 35 76 wr y.alts[k] cx Gx ∧ Gx.Nodup ∧ (∀ i ∈ Gx, i ∈ F0 ∨ L ≤ i) ∧ g ∉ Gx ∧ (g ∈ F0 ∨ L ≤ g) ∧ (∀ i ∈ Gx, i < wr.heap.size) ∧
   ∀ z cx' Gx' w5, qet 35 76 w5 z cx' Gx' → Gx'.Nodup → (∀ i ∈ Gx', i ∈ Gx ∨ wr.heap.size ≤ i) → But (g :: Gx) wr w5 → Blk w5 g 76 (c1 ++ (cx' ++ post)) → Inv L F0 w0 { y with alts := y.alts.set k z } v3 v4 v5 v6 w5) := by
 obtain ⟨F, hF, hs⟩ := h.ex
 obtain ⟨g, cap, c1, cx, post, Gx, e, hc, hl, hb, ho, hn, hsub, hgF, hgx, hcl⟩ := hF.alt hk
 refine ⟨g, cap, c1, cx, post, e, hc, hl, hb, Gx, ho, hn, fun i hi => hs i (hsub i hi), hgx, hs g hgF, qgl _ _ _ ho, fun z cx' Gx' w5 hz hn' hs' hbt hb5 => ?_⟩
 obtain ⟨F', ho', hs''⟩ := hcl z cx' Gx' w5 hz hn' hs' hb5 (fun i hi h1 h2 => hbt.block i (hF.lt i hi) (fun hh => (List.mem_cons.1 hh).elim h1 h2))
 exact h.step hs hw ho' hs'' hbt (fun i hi => (List.mem_cons.1 hi).elim (fun e => e ▸ hgF) (hsub i))
end
def Ut (y : CoreT) (F : List Nat) (w : World) (e : Ending) (w' : World) : Prop := ∃ v3 v4 v5 v6, e = .returned (.agg #[.int .i64 y.kind, .string y.name, .bool y.minus, v3, v4, v5, v6]) ∧ Inv w.heap.size F w y v3 v4 v5 v6 w'
end Go.Proofs.YtnoammmohdmnjaaGreat.C13
