import Derived.Test.YtnoammmohdmnjaaGreatU38
import Derived.Test.YtnoammmohdmnjaaGreatU41
set_option maxRecDepth 100000
set_option maxHeartbeats 16000000
set_option linter.unusedVariables false
set_option linter.unusedSimpArgs false
namespace Go.Proofs.YtnoammmohdmnjaaGreat.C13
open Go.RowKit Go.Proofs.YtnoammmohdmnjaaGreatW.PrintWords
open List renaming setIfInBounds_toArray → Jla, set_cons_zero → Jlb, set_cons_succ → Jlc
structure Pl (S : World) (D : List Nat) (pb : Nat) (nm : ByteArray) (bt : CoreT) (free all : List ByteArray) (bp : Addr) (fi : List ByteArray) (Af : Option Addr) (cf pm pn : Nat) : Prop where
 blk : Blk S pb 98 [.string nm, .pointer (some bp), .slice Af fi.length cf, .map (some pm)]
 pd : pb ∉ D
 bt : ∃ S0, At S0 bt bp ∧ ∀ wr, But D S wr → Below S0.heap.size S0 wr
 fr : ∃ Gf, Row S 9 (.slice Af fi.length cf) fi.length (Xa fi) Gf ∧ ∀ i ∈ Gf, i ∉ D
 fe : ∀ s, s ∈ fi ↔ s ∈ free
 fm : fi.length ≤ 1000000000
 ns : NamM S pm pn (fun s => decide (s ∈ all ++ [nm]))
 nd : pm ∉ D
 pn : pn ≤ 100000000000
section
variable {S wr : World} {D : List Nat} {pb : Nat} {nm : ByteArray} {bt : CoreT} {free all : List ByteArray} {bp : Addr} {fi : List ByteArray} {Af : Option Addr} {cf pm pn : Nat}
theorem Pl.blkW (h : Pl S D pb nm bt free all bp fi Af cf pm pn) (k : But D S wr) : Blk wr pb 98 [.string nm, .pointer (some bp), .slice Af fi.length cf, .map (some pm)] := k.blk h.blk h.pd
theorem Pl.btW (h : Pl S D pb nm bt free all bp fi Af cf pm pn) (k : But D S wr) : At wr bt bp := by
 obtain ⟨S0, h1, h2⟩ := h.bt
 exact h1.below (h2 wr k)
theorem Pl.rowW (h : Pl S D pb nm bt free all bp fi Af cf pm pn) (k : But D S wr) : Kd.string.C wr Af fi.length fi ∧ fi.length ≤ cf := by
 obtain ⟨Gf, h1, h2⟩ := h.fr
 obtain ⟨A, c, e, hc, hC⟩ := (h1.move (fun i hi => k.block i (h1.lt i hi) (h2 i hi))).readsS
 injection e with e1 e2 e3
 subst e1; subst e3
 exact ⟨hC, hc⟩
theorem Pl.fcW (h : Pl S D pb nm bt free all bp fi Af cf pm pn) (k : But D S wr) : Kd.string.C wr Af fi.length fi := (h.rowW k).1
theorem Pl.fl (h : Pl S D pb nm bt free all bp fi Af cf pm pn) : fi.length ≤ cf := (h.rowW (But.refl _ _)).2
theorem Pl.nsW (h : Pl S D pb nm bt free all bp fi Af cf pm pn) (k : But D S wr) : NamM wr pm pn (fun s => decide (s ∈ all ++ [nm])) := h.ns.move (k.block pm h.ns.lt h.nd)
end
def qbm (y : CoreT) (g : Nat) (e : TypeId) (pre post : List Value) (F : List Nat) (w : World) (en : Ending) (w' : World) : Prop :=
 en = .returned (.tuple #[]) ∧ ∃ v3 v4 v5 v6 F', Own7 w' y v3 v4 v5 v6 F' ∧ Blk w' g e (pre ++ (c7 y v3 v4 v5 v6 ++ post)) ∧ (∀ i ∈ F', i ∈ F ∨ w.heap.size ≤ i) ∧ But (g :: F) w w'
def Gk (S : World) (D : List Nat) (x : CoreT) (w : World) (g off : Nat) (e : TypeId) (pre post : List Value) (v3 v4 v5 v6 : Value) (F : List Nat) : Prop :=
 pre.length = off ∧ Blk w g e (pre ++ (c7 x v3 v4 v5 v6 ++ post)) ∧ Own7 w x v3 v4 v5 v6 F ∧ g ∉ F ∧ But D S w ∧ (∀ i ∈ F, i ∈ D ∨ S.heap.size ≤ i) ∧ (g ∈ D ∨ S.heap.size ≤ g)
def qoe (S : World) (D : List Nat) (pb : Nat) (nm : ByteArray) (bt : CoreT) (free all : List ByteArray) (n : Nat) : Prop := ∀ x : CoreT, Pre nm bt x → dep x ≤ n → ∀ (w : World) (g off : Nat) (e : TypeId) (pre post : List Value) (v3 v4 v5 v6 : Value) (F : List Nat), Gk S D x w g off e pre post v3 v4 v5 v6 F →
 Calls Tryz.prog 62 #[.pointer (some ⟨pb, 0, none⟩), .pointer (some ⟨g, off, none⟩)] w (qbm (Jb nm bt free all n x) g e pre post F w)
def qzc (S : World) (D : List Nat) (pb : Nat) (nm : ByteArray) (bt : CoreT) (free all : List ByteArray) (n : Nat) : Prop := ∀ x : CoreT, x.kind = 8 → Pre nm bt x → dep x ≤ n + 1 → ∀ (w : World) (g off : Nat) (e : TypeId) (pre post : List Value) (v3 v4 v5 v6 : Value) (F : List Nat), Gk S D x w g off e pre post v3 v4 v5 v6 F →
 Calls Tryz.prog 83 #[.pointer (some ⟨pb, 0, none⟩), .pointer (some ⟨g, off, none⟩)] w (qbm (Jb nm bt free all (n + 1) x) g e pre post F w)
section
variable {g : Nat} {F : List Nat} {w w1 wr : World} {y : CoreT} {v3 v4 v5 v6 : Value} {e : TypeId} {pre pst : List Value}
theorem InP.post (h : InP w1.heap.size g F w1 y v3 v4 v5 v6 wr) (hb : Blk wr g e (pre ++ (c7 y v3 v4 v5 v6 ++ pst))) (hw : Below w.heap.size w w1) : qbm y g e pre pst F w (.returned (.tuple #[])) wr := by
 obtain ⟨F', hF, hs⟩ := h.ex
 exact ⟨rfl, v3, v4, v5, v6, F', hF, hb, fun i hi => (hs i hi).imp id (Nat.le_trans hw.size), ⟨h.but.os.trans hw.os, h.but.tape.trans hw.tape, h.but.output.trans hw.output, Nat.le_trans hw.size h.but.size, fun i hi hn => (h.but.block i (Nat.lt_of_lt_of_le hi hw.size) hn).trans (hw.block i hi)⟩⟩
theorem InP.back {L : Nat} {F0 Fc : List Nat} {w0 : World} {y' : CoreT} {u3 u4 u5 u6 : Value} (h : InP L g F0 w0 y v3 v4 v5 v6 w1) (hF : ∀ i ∈ Fc, i ∈ F0 ∨ L ≤ i) (k : InP w1.heap.size g Fc w1 y' u3 u4 u5 u6 wr) : InP L g F0 w0 y' u3 u4 u5 u6 wr := by
 obtain ⟨F', hF', hs⟩ := k.ex
 refine ⟨⟨F', hF', fun i hi => (hs i hi).elim (hF i) (fun hh => .inr (Nat.le_trans h.ls hh))⟩, ⟨k.but.os.trans h.but.os, k.but.tape.trans h.but.tape, k.but.output.trans h.but.output, Nat.le_trans h.but.size k.but.size, fun i hi hn => ?_⟩, h.lt0, Nat.le_trans h.ls k.ls, h.g0, h.lw⟩
 rw [k.but.block i (Nat.lt_of_lt_of_le hi h.but.size) (fun hh => ?_), h.but.block i hi hn]
 rcases List.mem_cons.1 hh with hh | hh
 ·exact hn (by simp [hh])
 ·exact (hF i hh).elim (fun h2 => hn (by simp [h2])) (fun h2 => by have := h.lw; omega)
end
theorem qru (g k : Nat) : Addr.add ⟨g, 0, none⟩ k = ⟨g, k, none⟩ := by simp [Addr.add]; exact fun h => h.symm
theorem qhr (nm : ByteArray) (all : List ByteArray) (x : CoreT) (s : ByteArray) : Zt ((all ++ [nm]) ++ Zc x) s = Zt (Uc nm all x) s :=
 qae (fun t => by simp only [Uc, List.mem_append]; exact ⟨fun h => h.elim (fun h => h.elim .inl (fun h => .inr (.inr h))) (fun h => .inr (.inl h)), fun h => h.elim (fun h => .inl (.inl h)) (fun h => h.elim .inr (fun h => .inl (.inr h)))⟩) s
theorem f78 {p : Prop} (h : p := by
 have ⟨t0, t1, t2⟩ := Cb3 hSw b0 p1 s0
 go_simp
 try with_reducible rfl) : p := h
theorem in_var {S : World} {D : List Nat} {pb : Nat} {nm : ByteArray} {bt : CoreT} {free all : List ByteArray} {bp : Addr} {fi : List ByteArray} {Af : Option Addr} {cf pm pn : Nat} (hS : Pl S D pb nm bt free all bp fi Af cf pm pn) (henv : Env free all bt) (n : Nat) (x : CoreT) (hp : Pre nm bt x) (hk : x.kind = 1) (w : World) (g off : Nat) (e : TypeId) (pre post : List Value) (v3 v4 v5 v6 : Value) (F : List Nat) (hA : Gk S D x w g off e pre post v3 v4 v5 v6 F) :
  Calls Tryz.prog 62 #[.pointer (some ⟨pb, 0, none⟩), .pointer (some ⟨g, off, none⟩)] w (qbm (Jb nm bt free all (n + 1) x) g e pre post F w) := by
 obtain ⟨hoff, hb, hO, hg, hB, hF, hgs⟩ := hA
 have hlt := hO.lt; have hgl := hb.lt
 obtain ⟨A3, c3, A4, c4, A5, c5, A6, c6, rfl, rfl, rfl, rfl, -, -, -⟩ := hO.form
 have ⟨HS, HE, HP, HFS, HB, HGS⟩ := Wx hS henv hp hF hB hgs; have ⟨HOFF, HLT, HGL⟩ := Wq hoff hlt hgl
 obtain ⟨W1, hW1, hp1, hB1, hs1⟩ := boxed w [.pointer (some ⟨g, off, none⟩)] 53
 have HI0 := Wd (show InP W1.heap.size g F W1 x (.slice A3 x.limbs.length c3) (.slice A4 x.names.length c4) (.slice A5 x.kids.length c5) (.slice A6 x.alts.length c6) W1 from ⟨⟨F, hO.move (fun k hk => hB1.block k (hlt k hk)), fun i hi => .inl hi⟩, But.refl _ _, fun i hi => Nat.lt_of_lt_of_le (hlt i hi) hB1.size, Nat.le_refl _, ⟨hg, Nat.lt_of_lt_of_le hgl hB1.size⟩, Nat.le_refl _⟩)
 have ⟨HH0, BX, HB1⟩ := Wq (hb.below hB1) hp1 hB1
 have HO0 := Wd (show Own7 W1 x (.slice A3 x.limbs.length c3) (.slice A4 x.names.length c4) (.slice A5 x.kids.length c5) (.slice A6 x.alts.length c6) F from hO.move (fun k hk => hB1.block k (hlt k hk))); have HGF := Wd hg
 have HNX := Wd (show w.heap.size ∉ g :: F from fun hh => by rcases List.mem_cons.1 hh with hh | hh; (omega); (have := hlt _ hh; omega))
 have HBS := Wd (hB.trans (But.of_below hB1))
 have HW1 := Wd hW1
 obtain ⟨n1, n2, n3, n4, n5⟩ := Qz hp.fit.bulk
 clear hS henv hp hF hB hgs hO hb hg hlt hgl hp1 hB1 hs1 hW1 hoff
 have HK := Wd hk
 obtain ⟨p0, p1, p2, p3, p4, p5, p6⟩ := Blk.seven HH0.out HOFF.out
 rw [hk] at p0
 clear hk
 have b0 := (BX.out).cell (j := 0) rfl; have s0 := (HS.out.blkW HBS.out).cell (j := 0) rfl; have s1 := (HS.out.blkW HBS.out).cell (j := 1) rfl; have s2 := (HS.out.blkW HBS.out).cell (j := 2) rfl
 go_enter Tryz.func62, Tryz.ntmps62
 go_upto_region 1 with (fail)
 rw [← HW1.out]
 go_wp2_with fail
 by_cases hn : x.name = nm
 ·have ⟨q1, q2⟩ := Kk hn
  have HN := Wd hn; clear hn
  refine Qe [(true, 0), (true, 1), (true, 2), (true, 3), (true, 4), (true, 5), (true, 6), (true, 7), (true, 8)] [] (fun W' => Below W1.heap.size W1 W') (by kernel_rfl) (by kernel_rfl) (fun _ _ d _ _ h => by cases d <;> exact h) ⟨rfl, rfl, rfl, Nat.le_refl _, fun _ _ => rfl⟩ ?_
  iterate 8
   refine Tb 16 (y := fun w' hSw => by
    exact f78) (h := ?_)
  refine Tb 16 (v := .bool true) (y := fun w' hSw => by
   exact f12) (h := ?_)
  refine Run.nil ?_
  clear q1 q2 p0 p1 s0
  have b0' : W1.drew.cell? _ = _ := b0; have s1' : W1.drew.cell? _ = _ := s1
  go_wp2_with fail
  refine Qe [(true, 0), (true, 1), (true, 2), (true, 3), (true, 4), (false, 5), (true, 6), (false, 7)] [7] (fun W' => Below W1.heap.size W1 W') (by kernel_rfl) (by kernel_rfl) (fun _ _ d _ _ h => by cases d <;> exact h) ⟨rfl, rfl, rfl, Nat.le_refl _, fun _ _ => rfl⟩ ?_
  iterate 5
   refine Tb 25 (y := fun w' hSw => by
    have t0 := Cb hSw b0'; have t1 := Cb hSw s1'
    go_simp
    try with_reducible rfl) (h := ?_)
  refine Run.step (some 30) (by rfl) (by rfl) ?_
  intro K hK
  go_simp
  refine (qac bt HE.out.bt.bulk W1.drew.drew bp (HS.out.btW (show But D S W1.drew.drew from ⟨HBS.out.os, HBS.out.tape, HBS.out.output, HBS.out.size, HBS.out.block⟩))).mono ?_
  rintro en w3 ⟨cx', Gx', rfl, ho, hnd, hf, hb3⟩
  obtain ⟨Z3, z3, Z4, z4, Z5, z5, Z6, z6, rfl⟩ := Zi ho
  have HB3 := Wd (show Below W1.heap.size W1 w3 from ⟨hb3.os, hb3.tape, hb3.output, hb3.size, hb3.block⟩)
  have HO := Wd ho; have HN3 := Wd (show Gx'.Nodup ∧ ∀ j ∈ Gx', W1.heap.size ≤ j from ⟨hnd, hf⟩)
  refine hK.out _ _ (fun _ => HB3.out) ?_
  clear hK K ho hnd hf hb3
  try simp only [Act.put, heap_drew, Nat.reduceAdd, Jla, Jlb, Jlc]
  refine Tk (some 31) (y := fun w' hSw => by
   go_simp
   try with_reducible rfl) (h := ?_)
  refine Run.step none (by rfl) (by rfl) ?_
  intro K hK
  refine Qw g off pre (c7 x (.slice A3 x.limbs.length c3) (.slice A4 x.names.length c4) (.slice A5 x.kids.length c5) (.slice A6 x.alts.length c6)) post (Qb bt Z3 z3 Z4 z4 Z5 z5 Z6 z6) e (by rfl) 35 _ _ (by rfl) (by rfl) HOFF.out.symm (by rfl) (HH0.out.below HB3.out) rfl (by kernel_rfl) (Xg _ _ _ _ _ _ _ _ _) ?_
  intro w5 hb5 hg5 hs5
  have HI5 := Wd (show InP W1.heap.size g F W1 bt (.slice Z3 bt.limbs.length z3) (.slice Z4 bt.names.length z4) (.slice Z5 bt.kids.length z5) (.slice Z6 bt.alts.length z6) w5 from by
   obtain ⟨Fi, hFi, hsi⟩ := HI0.out.ex
   exact HI0.out.step hsi (G := [g]) ⟨Xv HO.out hg5 (fun i hi e => by have := HN3.out.2 i hi; have := HI0.out.g0.2; omega), HN3.out.1⟩ (fun i hi => .inr (HN3.out.2 i hi)) ((But.of_below HB3.out).trans (But.of_grown hg5)) (fun i hi => .inr (List.mem_singleton.1 hi)))
  have HH5 := Wd hb5
  refine hK.out _ _ (fun h => absurd (by decide) h) ?_
  clear hK K hb5 hg5 hs5 b0 b0' s1 s1' s2 p2 p3 p4 p5 p6
  refine Run.nil ?_
  go_wp2
  go_end0
  have hst : Jb nm bt free all (n + 1) x = bt := by rw [Jb, if_pos HK.out, if_pos HN.out]
  rw [hst]
  exact HI5.out.post HH5.out HB1.out
 ·have ⟨q1, q2⟩ := Xt hn
  have HN := Wd hn; clear hn
  refine Qe [(true, 0), (true, 1), (true, 2), (true, 3), (true, 4), (true, 5), (true, 6), (true, 7), (true, 8)] [] (fun W' => Below W1.heap.size W1 W') (by kernel_rfl) (by kernel_rfl) (fun _ _ d _ _ h => by cases d <;> exact h) ⟨rfl, rfl, rfl, Nat.le_refl _, fun _ _ => rfl⟩ ?_
  iterate 8
   refine Tb 16 (y := fun w' hSw => by
    exact f78) (h := ?_)
  refine Tb 16 (v := .bool false) (y := fun w' hSw => by
   exact f12) (h := ?_)
  refine Run.nil ?_
  clear q1 q2 p0 p1 s0
  go_wp2
  go_end0
  have hst : Jb nm bt free all (n + 1) x = x := by rw [Jb, if_pos HK.out, if_neg HN.out]
  rw [hst]
  have hbd : Below W1.heap.size W1 W1.drew := ⟨rfl, rfl, rfl, Nat.le_refl _, fun _ _ => rfl⟩
  exact (HI0.out.on hbd).post (HH0.out.below hbd) HB1.out
theorem f19 {p : Prop} (h : p := by
 have HC := Wd hc
 have HPC := Wd (HPK.out c (by rw [hc]; exact List.getElem_mem hky))
 obtain ⟨g5, cap, c1, u3, u4, u5, u6, post5, Gx, hv5, -, hl5, hb5, hO5, hs5, hgx, hg5, hcl⟩ := HI.out.kid (m := x.kids.length) (c := c) rfl ((Zg (by simp) _).trans HKL.out) hlt (fun h => by rw [hc]; exact Xf (by simp) hky)
 simp only [Value.slice.injEq, true_and] at hv5
 obtain ⟨rfl, rfl⟩ := hv5
 have HA5 := Wd (show Gk S D c wr g5 (k * 7) _ c1 post5 u3 u4 u5 u6 Gx from ⟨hl5, hb5, hO5, hgx, HI.out.below HBS.out HFS.out HGS.out, fun i hi => (hs5 i hi).elim (HFS.out i) (fun h => .inr (by have := HBS.out.size; omega)), hg5.elim (HFS.out g5) (fun h => .inr (by have := HBS.out.size; omega))⟩)
 have HCL := Wd hcl
 clear hl5 hb5 hO5 hs5 hgx hg5 hcl hc
 have qk0 : (0 : Int) ≤ (k : Int) := by omega
 have qk1 : (k : Int) < x.kids.length := by omega
 go_wp2_with fail
 refine (IH.out c HPC.out.1 HPC.out.2 wr g5 (k * 7) _ c1 post5 u3 u4 u5 u6 Gx HA5.out).mono ?_
 rintro en w4 ⟨rfl, z3, z4, z5, z6, F', hO', hb', hs', hbt⟩
 obtain ⟨hi4, hh4⟩ := HCL.out _ _ F' w4 hO'.own hO'.nd hs' hbt hb'
 have HI4 := Wd hi4; have HH4 := Wd (hh4 _ _ HH.out)
 clear hO' hb' hs' hbt hi4 hh4 HCL HA5 b0 p0 p1 p2 p3 p4 p5 p6
 go_wp2
 go_roundw
 case rel => exact ⟨k + 1, by omega, by go_num, Wd (by have h := HI4.out; (try simp only at h); rw [Ki (by simp) hky (by simp [← HC.out])] at h; exact h), HH4⟩
 case measure => simp [intOf]; omega) : p := h
theorem qwm {S : World} {D : List Nat} {pb : Nat} {nm : ByteArray} {bt : CoreT} {free all : List ByteArray} {bp : Addr} {fi : List ByteArray} {Af : Option Addr} {cf pm pn : Nat} (hS : Pl S D pb nm bt free all bp fi Af cf pm pn) (henv : Env free all bt) (n : Nat) (ih : qoe S D pb nm bt free all n) (x : CoreT) (hp : Pre nm bt x) (hd : dep x ≤ n + 1) (hk1 : x.kind ≠ 1) (hk6 : x.kind ≠ 6) (hk7 : x.kind ≠ 7) (hk8 : x.kind ≠ 8) (w : World) (g off : Nat) (e : TypeId) (pre post : List Value) (v3 v4 v5 v6 : Value) (F : List Nat) (hA : Gk S D x w g off e pre post v3 v4 v5 v6 F) :
  Calls Tryz.prog 62 #[.pointer (some ⟨pb, 0, none⟩), .pointer (some ⟨g, off, none⟩)] w (qbm (Jb nm bt free all (n + 1) x) g e pre post F w) := by
 obtain ⟨hoff, hb, hO, hg, hB, hF, hgs⟩ := hA
 have hlt := hO.lt; have hgl := hb.lt
 obtain ⟨A3, c3, A4, c4, A5, c5, A6, c6, rfl, rfl, rfl, rfl, -, -, -⟩ := hO.form
 have ⟨HS, HE, HP, HFS, HB, HGS⟩ := Wx hS henv hp hF hB hgs; have ⟨HOFF, HLT, HGL⟩ := Wq hoff hlt hgl
 obtain ⟨W1, hW1, hp1, hB1, hs1⟩ := boxed w [.pointer (some ⟨g, off, none⟩)] 53
 have HI0 := Wd (show InP W1.heap.size g F W1 x (.slice A3 x.limbs.length c3) (.slice A4 x.names.length c4) (.slice A5 x.kids.length c5) (.slice A6 x.alts.length c6) W1 from ⟨⟨F, hO.move (fun k hk => hB1.block k (hlt k hk)), fun i hi => .inl hi⟩, But.refl _ _, fun i hi => Nat.lt_of_lt_of_le (hlt i hi) hB1.size, Nat.le_refl _, ⟨hg, Nat.lt_of_lt_of_le hgl hB1.size⟩, Nat.le_refl _⟩)
 have ⟨HH0, BX, HB1⟩ := Wq (hb.below hB1) hp1 hB1
 have HO0 := Wd (show Own7 W1 x (.slice A3 x.limbs.length c3) (.slice A4 x.names.length c4) (.slice A5 x.kids.length c5) (.slice A6 x.alts.length c6) F from hO.move (fun k hk => hB1.block k (hlt k hk))); have HGF := Wd hg
 have HNX := Wd (show w.heap.size ∉ g :: F from fun hh => by rcases List.mem_cons.1 hh with hh | hh; (omega); (have := hlt _ hh; omega))
 have HBS := Wd (hB.trans (But.of_below hB1))
 have HW1 := Wd hW1
 obtain ⟨n1, n2, n3, n4, n5⟩ := Qz hp.fit.bulk
 clear hS henv hp hF hB hgs hO hb hg hlt hgl hp1 hB1 hs1 hW1 hoff
 have HK := Wd (show x.kind ≠ 1 ∧ x.kind ≠ 6 ∧ x.kind ≠ 7 ∧ x.kind ≠ 8 from ⟨hk1, hk6, hk7, hk8⟩)
 have e1 : (x.kind == 1) = false := beq_eq_false_iff_ne.2 hk1
 have e6 : (x.kind == 6) = false := beq_eq_false_iff_ne.2 hk6
 have e7 : (x.kind == 7) = false := beq_eq_false_iff_ne.2 hk7
 have e8 : (x.kind == 8) = false := beq_eq_false_iff_ne.2 hk8
 have IH := Wd ih; have HD := Wd hd
 have HKL := Wd (show x.kids.length = x.kids.length + 0 from rfl)
 have HPK := Wd (show ∀ c ∈ x.kids, Pre nm bt c ∧ dep c ≤ n from fun c hc => ⟨HP.out.kid hc (by rw [Gs HP.out.s hk1 hk8 (fun h => h.1.elim hk6 hk7)]; exact Yj hc), by have := Yz hc; have := HD.out; rw [Yi] at this; omega⟩)
 clear hk1 hk6 hk7 hk8 ih hd
 obtain ⟨p0, p1, p2, p3, p4, p5, p6⟩ := Blk.seven HH0.out HOFF.out
 have b0 := (BX.out).cell (j := 0) rfl; have s0 := (HS.out.blkW HBS.out).cell (j := 0) rfl; have s1 := (HS.out.blkW HBS.out).cell (j := 1) rfl; have s2 := (HS.out.blkW HBS.out).cell (j := 2) rfl
 go_enter Tryz.func62, Tryz.ntmps62
 go_upto_region 1 with (fail)
 rw [← HW1.out]
 go_wp2_with fail
 clear p0 p1 p2 p3 p4 p5 p6 b0 s0 s1 s2 e1 e6 e7 e8
 have HI := HI0; have HH := HH0
 go_loopw [101] (fun s wr => ∃ k : Nat, k ≤ x.kids.length ∧ s = .int .i64 k ∧ Hid (InP W1.heap.size g F W1 { x with kids := mix (x.kids.map (Jb nm bt free all n)) x.kids k } (.slice A3 x.limbs.length c3) (.slice A4 x.names.length c4) (.slice A5 x.kids.length c5) (.slice A6 x.alts.length c6) wr) ∧ Hid (Blk wr g e (pre ++ (c7 x (.slice A3 x.limbs.length c3) (.slice A4 x.names.length c4) (.slice A5 x.kids.length c5) (.slice A6 x.alts.length c6) ++ post)))) (fun s _ => x.kids.length - (intOf s).toNat)
 case atStart => exact ⟨0, Nat.zero_le _, rfl, Wd (by rw [Jc, Kv]; exact HI.out), HH⟩
 clear HI HH
 case round =>
  obtain ⟨k, hk, rfl, HI, HH⟩ := hrel
  have b0 := (HI.out.but.blk BX.out HNX.out).cell (j := 0) rfl
  obtain ⟨p0, p1, p2, p3, p4, p5, p6⟩ := Blk.seven HH.out HOFF.out
  by_cases hlt : k < x.kids.length
  ·have hky : k < x.kids.length := by rw [HKL.out]; exact hlt
   obtain ⟨c, hc⟩ : ∃ c, c = x.kids[k] := ⟨_, rfl⟩
   exact f19
  ·have hkk : k = x.kids.length := by rw [HKL.out]; omega
   have hin := HI.out
   rw [hkk, Xj (by simp)] at hin
   have HIN := Wd hin
   clear hkk hin HI b0 p0 p1 p2 p3 p4 p5 p6
   go_wp2
   go_end0
   have hst : Jb nm bt free all (n + 1) x = { x with kids := x.kids.map (Jb nm bt free all n) } := by
    have h := HK.out
    rw [Jb, if_neg h.1, if_neg (by omega), if_neg h.2.2.2]
   rw [hst]
   exact HIN.out.post HH.out HB1.out
theorem zai {S : World} {D : List Nat} {pb : Nat} {nm : ByteArray} {bt : CoreT} {free all : List ByteArray} {bp : Addr} {fi : List ByteArray} {Af : Option Addr} {cf pm pn : Nat} (hS : Pl S D pb nm bt free all bp fi Af cf pm pn) (henv : Env free all bt) (n : Nat) (ihc : qzc S D pb nm bt free all n) (x : CoreT) (hp : Pre nm bt x) (hd : dep x ≤ n + 1) (hk : x.kind = 8) (w : World) (g off : Nat) (e : TypeId) (pre post : List Value) (v3 v4 v5 v6 : Value) (F : List Nat) (hA : Gk S D x w g off e pre post v3 v4 v5 v6 F) :
  Calls Tryz.prog 62 #[.pointer (some ⟨pb, 0, none⟩), .pointer (some ⟨g, off, none⟩)] w (qbm (Jb nm bt free all (n + 1) x) g e pre post F w) := by
 obtain ⟨hoff, hb, hO, hg, hB, hF, hgs⟩ := hA
 have hlt := hO.lt; have hgl := hb.lt
 obtain ⟨A3, c3, A4, c4, A5, c5, A6, c6, rfl, rfl, rfl, rfl, -, -, -⟩ := hO.form
 have ⟨HS, HE, HP, HFS, HB, HGS⟩ := Wx hS henv hp hF hB hgs; have ⟨HOFF, HLT, HGL⟩ := Wq hoff hlt hgl
 obtain ⟨W1, hW1, hp1, hB1, hs1⟩ := boxed w [.pointer (some ⟨g, off, none⟩)] 53
 have HI0 := Wd (show InP W1.heap.size g F W1 x (.slice A3 x.limbs.length c3) (.slice A4 x.names.length c4) (.slice A5 x.kids.length c5) (.slice A6 x.alts.length c6) W1 from ⟨⟨F, hO.move (fun k hk => hB1.block k (hlt k hk)), fun i hi => .inl hi⟩, But.refl _ _, fun i hi => Nat.lt_of_lt_of_le (hlt i hi) hB1.size, Nat.le_refl _, ⟨hg, Nat.lt_of_lt_of_le hgl hB1.size⟩, Nat.le_refl _⟩)
 have ⟨HH0, BX, HB1⟩ := Wq (hb.below hB1) hp1 hB1
 have HO0 := Wd (show Own7 W1 x (.slice A3 x.limbs.length c3) (.slice A4 x.names.length c4) (.slice A5 x.kids.length c5) (.slice A6 x.alts.length c6) F from hO.move (fun k hk => hB1.block k (hlt k hk))); have HGF := Wd hg
 have HNX := Wd (show w.heap.size ∉ g :: F from fun hh => by rcases List.mem_cons.1 hh with hh | hh; (omega); (have := hlt _ hh; omega))
 have HBS := Wd (hB.trans (But.of_below hB1))
 have HW1 := Wd hW1
 obtain ⟨n1, n2, n3, n4, n5⟩ := Qz hp.fit.bulk
 clear hS henv hp hF hB hgs hO hb hg hlt hgl hp1 hB1 hs1 hW1 hoff
 have HK := Wd hk
 have IHC := Wd ihc; have HD := Wd hd
 clear ihc hd
 obtain ⟨p0, p1, p2, p3, p4, p5, p6⟩ := Blk.seven HH0.out HOFF.out
 rw [hk] at p0
 clear hk
 have b0 := BX.out.cell (j := 0) rfl
 have HA1 := Wd (show Gk S D x W1 g off e pre post (.slice A3 x.limbs.length c3) (.slice A4 x.names.length c4) (.slice A5 x.kids.length c5) (.slice A6 x.alts.length c6) F from ⟨HOFF.out, HH0.out, HO0.out, HGF.out, HBS.out, HFS.out, HGS.out⟩)
 go_enter Tryz.func62, Tryz.ntmps62
 go_upto_region 1 with (fail)
 rw [← HW1.out]
 go_wp2_with fail
 refine (IHC.out x HK.out HP.out HD.out W1 g off e pre post _ _ _ _ F HA1.out).mono ?_
 rintro en w4 ⟨rfl, z3, z4, z5, z6, F', hO', hb', hs', hbt⟩
 have H4 := Wd (show qbm (Jb nm bt free all (n + 1) x) g e pre post F w (.returned (.tuple #[])) w4 from ⟨rfl, z3, z4, z5, z6, F', hO', hb', fun i hi => (hs' i hi).imp id (Nat.le_trans HB1.out.size), ⟨hbt.os.trans HB1.out.os, hbt.tape.trans HB1.out.tape, hbt.output.trans HB1.out.output, Nat.le_trans HB1.out.size hbt.size, fun i hi hn => (hbt.block i (Nat.lt_of_lt_of_le hi HB1.out.size) hn).trans (HB1.out.block i hi)⟩⟩)
 clear hO' hb' hs' hbt p0 p1 p2 p3 p4 p5 p6 b0
 go_wp2
 go_end0
 exact H4.out
theorem qwk {nm : ByteArray} {x : CoreT} (hs : Vn x) (hk : x.kind = 6 ∨ x.kind = 7) (hn : nm ∉ x.names) : Vg nm x = x.kids.any (Vg nm) := by
 rw [Gc, if_neg (by omega), if_neg (fun h => hn h.2), show decide (x.kind = 8 ∧ x.name = nm) = false from decide_eq_false (fun h => by omega), qcn, qoh hs (by omega), Gm]
 simp
theorem qsu {S : World} {D : List Nat} {pb : Nat} {nm : ByteArray} {bt : CoreT} {free all : List ByteArray} {bp : Addr} {fi : List ByteArray} {Af : Option Addr} {cf pm pn : Nat} (hS : Pl S D pb nm bt free all bp fi Af cf pm pn) (henv : Env free all bt) (n : Nat) (ih : qoe S D pb nm bt free all n) (x : CoreT) (hp : Pre nm bt x) (hd : dep x ≤ n + 1) (hk : x.kind = 6 ∨ x.kind = 7) (w : World) (g off : Nat) (e : TypeId) (pre post : List Value) (v3 v4 v5 v6 : Value) (F : List Nat) (hA : Gk S D x w g off e pre post v3 v4 v5 v6 F) :
  Calls Tryz.prog 62 #[.pointer (some ⟨pb, 0, none⟩), .pointer (some ⟨g, off, none⟩)] w (qbm (Jb nm bt free all (n + 1) x) g e pre post F w) := by
 obtain ⟨hoff, hb, hO, hg, hB, hF, hgs⟩ := hA
 have hlt := hO.lt; have hgl := hb.lt
 obtain ⟨A3, c3, A4, c4, A5, c5, A6, c6, rfl, rfl, rfl, rfl, -, -, -⟩ := hO.form
 have ⟨HS, HE, HP, HFS, HB, HGS⟩ := Wx hS henv hp hF hB hgs; have ⟨HOFF, HLT, HGL⟩ := Wq hoff hlt hgl
 obtain ⟨W1, hW1, hp1, hB1, hs1⟩ := boxed w [.pointer (some ⟨g, off, none⟩)] 53
 have HI0 := Wd (show InP W1.heap.size g F W1 x (.slice A3 x.limbs.length c3) (.slice A4 x.names.length c4) (.slice A5 x.kids.length c5) (.slice A6 x.alts.length c6) W1 from ⟨⟨F, hO.move (fun k hk => hB1.block k (hlt k hk)), fun i hi => .inl hi⟩, But.refl _ _, fun i hi => Nat.lt_of_lt_of_le (hlt i hi) hB1.size, Nat.le_refl _, ⟨hg, Nat.lt_of_lt_of_le hgl hB1.size⟩, Nat.le_refl _⟩)
 have ⟨HH0, BX, HB1⟩ := Wq (hb.below hB1) hp1 hB1
 have HO0 := Wd (show Own7 W1 x (.slice A3 x.limbs.length c3) (.slice A4 x.names.length c4) (.slice A5 x.kids.length c5) (.slice A6 x.alts.length c6) F from hO.move (fun k hk => hB1.block k (hlt k hk))); have HGF := Wd hg
 have HNX := Wd (show w.heap.size ∉ g :: F from fun hh => by rcases List.mem_cons.1 hh with hh | hh; (omega); (have := hlt _ hh; omega))
 have HBS := Wd (hB.trans (But.of_below hB1))
 have HW1 := Wd hW1
 obtain ⟨n1, n2, n3, n4, n5⟩ := Qz hp.fit.bulk
 clear hS henv hp hF hB hgs hO hb hg hlt hgl hp1 hB1 hs1 hW1 hoff
 have ⟨IH, HD, HK67⟩ := Wq ih hd hk
 have e1 : (x.kind == 1) = false := beq_eq_false_iff_ne.2 (by omega)
 have HK1 := Wd (show x.kind ≠ 1 by omega); have HK8 := Wd (show x.kind ≠ 8 by omega)
 clear ih hd
 obtain ⟨y, hy⟩ : ∃ y, y = if x.kids.any (Vg nm) = true then Hu nm free all x else x := ⟨_, rfl⟩
 have HY := Wd hy
 clear hy
 have HA5 := Wd (show 0 < x.kids.length → ∃ ad, A5 = some ad from fun h => by
  obtain ⟨g5, cap, c1, u3, u4, u5, u6, post5, Gx, hv5, -⟩ := HI0.out.kid (k := 0) (c := x.kids[0]) rfl rfl h (fun _ => rfl)
  injection hv5 with h1
  exact ⟨_, h1⟩)
 have HKC := Wd (show IC.C W1 A5 x.kids.length x.kids from by
  obtain ⟨_, _, _, _, B5, d5, _, _, h3, h4, h5, h6, -, -, hK⟩ := HI0.out.form
  injection h5 with h5a h5b h5c
  subst h5a
  obtain ⟨_, _, _, _, _, _, _, _, he, l3, g3, l4, g4, l5, g5, l6, g6⟩ := Qk hK
  simp only [Qb, List.cons.injEq, Value.slice.injEq, true_and, and_true] at he
  obtain ⟨⟨rfl, rfl⟩, ⟨rfl, rfl⟩, ⟨rfl, rfl⟩, ⟨rfl, rfl⟩⟩ := he
  exact g5)
 have HNC := Wd (show x.names.length ≤ c4 ∧ Kd.string.C W1 A4 x.names.length x.names from by
  obtain ⟨_, _, B4, d4, _, _, _, _, h3, h4, h5, h6, l4, hC, hK⟩ := HI0.out.form
  injection h4 with h4a h4b h4c
  subst h4a; subst h4c
  exact ⟨l4, hC⟩)
 obtain ⟨p0, p1, p2, p3, p4, p5, p6⟩ := Blk.seven HH0.out HOFF.out
 have b0 := (BX.out).cell (j := 0) rfl; have s0 := (HS.out.blkW HBS.out).cell (j := 0) rfl; have s1 := (HS.out.blkW HBS.out).cell (j := 1) rfl; have s2 := (HS.out.blkW HBS.out).cell (j := 2) rfl
 go_enter Tryz.func62, Tryz.ntmps62
 go_upto_region 1 with (fail)
 rw [← HW1.out]
 go_upto_block 0 with (fail)
 go_cut [] from 10 (fun wr => Hid (nm ∉ x.names) ∧ Hid (InP W1.heap.size g F W1 y (.slice A3 x.limbs.length c3) (.slice A4 x.names.length c4) (.slice A5 x.kids.length c5) (.slice A6 x.alts.length c6) wr) ∧ Hid (Blk wr g e (pre ++ (c7 x (.slice A3 x.limbs.length c3) (.slice A4 x.names.length c4) (.slice A5 x.kids.length c5) (.slice A6 x.alts.length c6) ++ post))))
 case first =>
  go_upto_if 32 with (fail)
  go_cut [32] from 14 (fun s32 wr => s32 = .bool true ∧ wr = W1)
  case first =>
   rcases hk with hk | hk
   ·have e6 : (x.kind == 6) = true := beq_iff_eq.2 hk
    clear hk
    go_wp2
    go_meet
    case rel => exact ⟨by first | rfl | rw [e6], rfl⟩
   ·have e6 : (x.kind == 6) = false := beq_eq_false_iff_ne.2 (by omega)
    have e7 : (x.kind == 7) = true := beq_iff_eq.2 hk
    clear hk
    go_wp2
    go_meet
    case rel => exact ⟨by first | rfl | rw [e7], rfl⟩
  case rest =>
   obtain ⟨rfl, hwc⟩ := hcut
   replace hwc := hwc.symm
   subst hwc
   clear hk
   go_wp2_with fail
   refine Qe [(true, 0), (true, 1), (true, 2), (true, 3), (true, 4), (true, 5), (true, 6), (true, 7), (false, 8)] [] (fun W' => Below W1.heap.size W1 W') (by kernel_rfl) (by kernel_rfl) (fun _ _ d _ _ h => by cases d <;> exact h) ⟨rfl, rfl, rfl, Nat.le_refl _, fun _ _ => rfl⟩ ?_
   iterate 8
    refine Tb 35 (y := fun w' hSw => by
     have ⟨t0, t1, t2⟩ := Cb3 hSw b0 p4 s0
     go_simp
     try with_reducible rfl) (h := ?_)
   refine Run.step (some 43) (by rfl) (by rfl) ?_
   intro K hK
   go_simp
   refine (Ye x.names nm n4 A4 c4 W1.drew (Kd.C_below HNC.out.2 ⟨rfl, rfl, rfl, Nat.le_refl _, fun _ _ => rfl⟩) HNC.out.1).mono ?_
   rintro en w3 ⟨rfl, hb3⟩
   have HB3 := Wd (Qj hb3)
   refine hK.out _ _ (fun _ => HB3.out) ?_
   clear hK K hb3
   try simp only [Act.put, heap_drew, Nat.reduceAdd, Jla, Jlb, Jlc]
   refine Run.nil ?_
   have HI3 := Wd (HI0.out.on HB3.out); have HH3 := Wd (HH0.out.below HB3.out)
   clear b0 s0 s1 s2 p0 p1 p2 p3 p4 p5 p6
   by_cases hm : nm ∈ x.names
   case pos =>
    rw [decide_eq_true hm]
    have HST := Wd (show Jb nm bt free all (n + 1) x = x from by
     have h := HK67.out
     rw [Jb, if_neg (by omega), if_pos h, if_neg (by rw [Gc, if_neg (by omega), if_pos ⟨h, hm⟩]; simp)])
    clear hm
    go_wp2
    go_end0
    rw [HST.out]
    exact HI3.out.post HH3.out HB1.out
   rw [decide_eq_false hm]
   have HNM := Wd hm
   clear hm
   have HB13 := Wd (HI3.out.below HBS.out HFS.out HGS.out)
   obtain ⟨p0, p1, p2, p3, p4, p5, p6⟩ := Blk.seven HH3.out HOFF.out
   have b0 := (HI3.out.but.blk BX.out HNX.out).cell (j := 0) rfl; have s0 := (HS.out.blkW HB13.out).cell (j := 0) rfl
   go_wp2_with fail
   refine Qe [(true, 0), (true, 2), (true, 3), (true, 4), (true, 5), (false, 1), (false, 6)] [] (fun W' => Below w3.heap.size w3 W') (by kernel_rfl) (by kernel_rfl) (fun _ _ d _ _ h => by cases d <;> exact h) ⟨rfl, rfl, rfl, Nat.le_refl _, fun _ _ => rfl⟩ ?_
   iterate 5
    refine Tb 44 (y := fun w' hSw => by
     have t0 := Cb hSw b0; have t1 := Cb hSw s0
     go_simp
     try with_reducible rfl) (h := ?_)
   refine Run.step (some 45) (by rfl) (by rfl) ?_
   intro K hK
   go_simp
   refine (qln x.kind HK8.out ⟨g, off, none⟩ A5 x.kids.length c5 n3 w3.drew p0 p5 HA5.out).mono ?_
   rintro en w4 ⟨A7, c7', G7, rfl, hr7, -, hb4⟩
   have HB4 := Wd (Qj hb4)
   refine hK.out _ _ (fun _ => HB4.out) ?_
   clear hK K hb4
   have HR7 := Wd hr7
   clear hr7
   try simp only [Act.put, heap_drew, Nat.reduceAdd, Jla, Jlb, Jlc]
   refine Run.step (some 50) (by rfl) (by rfl) ?_
   intro K hK
   go_simp
   refine (qml nm x.kids (fun c hc => (Zz.1 HP.out.s).2.1 c hc) (fun c hc => (HP.out.fit.kid hc).bulk) n3 (qow A5 x.kids.length) (Hp _ _) A7 c7' w4 (qtq (Hp _ _) HR7.out) (fun i h h' => by
    obtain ⟨ad, rfl, hA⟩ := Ub (Kd.C_below HKC.out (HB3.out.trans (HB4.out.mono HB3.out.size))) i h
    rw [qox]; exact hA)).mono ?_
   rintro en w5 ⟨rfl, hb5⟩
   have HB5 := Wd (HB4.out.trans (hb5.mono HB4.out.size))
   refine hK.out _ _ (fun _ => HB5.out) ?_
   clear hK K hb5 b0 s0 p0 p1 p2 p3 p4 p5 p6
   try simp only [Act.put, heap_drew, Nat.reduceAdd, Jla, Jlb, Jlc]
   refine Run.nil ?_
   have HI4 := Wd (HI3.out.on HB5.out); have HH4 := Wd (HH3.out.below HB5.out)
   by_cases hcc : x.kids.any (Vg nm) = true
   case neg =>
    have HYX := Wd (show y = x from by rw [HY.out, if_neg hcc])
    rw [Bool.not_eq_true] at hcc
    rw [hcc]
    clear hcc
    go_wp2_with fail
    go_meet
    case rel => exact ⟨HNM, Wd (by rw [HYX.out]; exact HI4.out), HH4⟩
   have HYC := Wd (show y = Hu nm free all x from by rw [HY.out, if_pos hcc])
   rw [hcc]
   clear hcc
   have b0 := (HI4.out.but.blk BX.out HNX.out).cell (j := 0) rfl
   obtain ⟨p0, p1, p2, p3, p4, p5, p6⟩ := Blk.seven HH4.out HOFF.out
   go_wp2_with fail
   clear b0 p0 p1 p2 p3 p4 p5 p6
   go_loopw [56] (fun s wr => ∃ i : Nat, i ≤ x.names.length ∧ s = .int .i64 i ∧ Hid (InP W1.heap.size g F W1 (clI nm free all x i) (.slice A3 x.limbs.length c3) (.slice A4 x.names.length c4) (.slice A5 x.kids.length c5) (.slice A6 x.alts.length c6) wr) ∧ Hid (Blk wr g e (pre ++ (c7 x (.slice A3 x.limbs.length c3) (.slice A4 x.names.length c4) (.slice A5 x.kids.length c5) (.slice A6 x.alts.length c6) ++ post)))) (fun s _ => x.names.length - (intOf s).toNat)
   case atStart => exact ⟨0, Nat.zero_le _, rfl, Wd HI4.out, HH4⟩
   clear HI4 HH4
   case round =>
    obtain ⟨i, hi, rfl, HI, HH⟩ := hrel
    by_cases hli : i < x.names.length
    ·obtain ⟨y1, hy1⟩ : ∃ y1, y1 = clI nm free all x i := ⟨_, rfl⟩
     rw [← hy1] at HI
     have HY1 := Wd hy1
     have hall := qaa HE.out HP.out.fit HK1.out HNM.out i hi
     rw [← hy1] at hall
     have HAL := Wd hall
     have hiy : i < y1.names.length := by rw [HAL.out.1.nl]; exact hli
     obtain ⟨s, hs⟩ : ∃ s, s = y1.names[i] := ⟨_, rfl⟩
     have HSE := Wd hs
     obtain ⟨g4, cap4, dp0, dpn, hv4, -, hln, hbn, -, -⟩ := HI.out.nam (k := i) hiy
     rw [HAL.out.1.nl] at hv4
     simp only [Value.slice.injEq, true_and] at hv4
     obtain ⟨rfl, rfl⟩ := hv4
     rw [← hs] at hbn
     have n0 : wr.cell? ⟨g4, i, none⟩ = some (.string s) := hbn.cell (by rw [List.getElem?_append_right (by omega), hln, Nat.sub_self]; rfl)
     have HBi := Wd (HI.out.below HBS.out HFS.out HGS.out)
     have s2 := (HS.out.blkW HBi.out).cell (j := 2) rfl
     have qi0 : (0 : Int) ≤ (i : Int) := by omega
     have qi1 : (i : Int) < x.names.length := by omega
     clear hy1 hall hs hln hbn
     go_wp2_with fail
     refine (Ye fi s (by have := HS.out.fm; omega) Af cf wr (HS.out.fcW HBi.out) HS.out.fl).mono ?_
     rintro en w3 ⟨rfl, hb3⟩
     rw [show decide (s ∈ fi) = decide (s ∈ free) from decide_eq_decide.2 (HS.out.fe s)]
     have HB3 := Wd hb3
     have HI3 := Wd (HI.out.on hb3); have HH3 := Wd (HH.out.below hb3)
     clear hb3 n0 s2
     by_cases hm : s ∈ free
     case neg =>
      rw [decide_eq_false hm]
      have HX := Wd (show clI nm free all x (i + 1) = y1 from by rw [qck, ← HY1.out]; exact qbs hiy (by rw [← HSE.out]; exact hm))
      clear hm
      go_wp2
      go_roundw
      case rel => exact ⟨i + 1, by omega, by go_num, Wd (by rw [HX.out]; exact HI3.out), HH3⟩
      case measure => simp [intOf]; omega
     rw [decide_eq_true hm]
     have HM := Wd hm
     clear hm
     have HB3' := Wd (HI3.out.below HBS.out HFS.out HGS.out)
     have HAT3 := Wd (show At w3 y1 ⟨g, off, none⟩ from HI3.out.at (e := e) (pre := pre) (post := post) (by have h := HH3.out; rw [show c7 y1 (.slice A3 x.limbs.length c3) (.slice (some ⟨g4, 0, none⟩) x.names.length c4) (.slice A5 x.kids.length c5) (.slice A6 x.alts.length c6) = c7 x (.slice A3 x.limbs.length c3) (.slice (some ⟨g4, 0, none⟩) x.names.length c4) (.slice A5 x.kids.length c5) (.slice A6 x.alts.length c6) from by simp only [c7, HAL.out.1.k, HAL.out.1.n, HAL.out.1.m]]; exact h) HOFF.out)
     have HBX3 := Wd (HI3.out.but.blk BX.out HNX.out)
     have hb0 := HBX3.out.cell (j := 0) rfl
     go_wp2_with fail
     refine (qbx pb _ _ nm _ _ pm pn _ (all ++ [nm]) (Zc y1) (fun s => rfl) (by have h1 := HE.out.al; have h2 := Jp y1; have h3 := HAL.out.2.2.2.1.t; simp only [List.length_append, List.length_singleton]; omega) s (by have := HE.out.fr s HM.out; omega) w3 HS.out.pn (HS.out.blkW HB3'.out) (HS.out.nsW HB3'.out) (fun args w => rfl) (qzm HBX3.out HAT3.out HAL.out.2.2.2.1.bulk)).mono ?_
     rintro en w4 ⟨rfl, hb4⟩
     obtain ⟨t, ht⟩ : ∃ t, t = Zt ((all ++ [nm]) ++ Zc y1) s := ⟨_, rfl⟩
     have HT := Wd (show t = qew nm all y1 s from by rw [ht]; exact qhr nm all y1 s)
     rw [← ht]
     have HI5 := Wd (HI3.out.on hb4); have HH5 := Wd (HH3.out.below hb4)
     clear hb4 ht hb0
     have b0 := (HI5.out.but.blk BX.out HNX.out).cell (j := 0) rfl
     obtain ⟨p0, p1, p2, p3, p4, p5, p6⟩ := Blk.seven HH5.out HOFF.out
     go_wp2_with fail
     refine (qln x.kind HK8.out ⟨g, off, none⟩ A5 x.kids.length c5 n3 w4 p0 p5 HA5.out).mono ?_
     rintro en w5 ⟨A7, c7', G7, rfl, hr7, hg7, hb5⟩
     obtain ⟨Fc, hFc, hsc⟩ := HI5.out.ex
     have HI6 := Wd (HI5.out.on hb5); have HH6 := Wd (HH5.out.below hb5)
     have HR7 := Wd hr7; have HSC := Wd hsc
     have HG7 := Wd (show ∀ j ∈ G7, j ∉ g :: Fc from fun j hj hh => by
      have h1 := hg7 j hj
      rcases List.mem_cons.1 hh with hh | hh
      ·have := HI5.out.g0.2; have := HI5.out.but.size; omega
      ·have := hFc.lt j hh; omega)
     have HK6 := Wd (show InP w5.heap.size g Fc w5 y1 (.slice A3 x.limbs.length c3) (.slice (some ⟨g4, 0, none⟩) x.names.length c4) (.slice A5 x.kids.length c5) (.slice A6 x.alts.length c6) w5 from ⟨⟨Fc, hFc.move (fun k hk => hb5.block k (hFc.lt k hk)), fun i hi => .inl hi⟩, But.refl _ _, fun i hi => Nat.lt_of_lt_of_le (hFc.lt i hi) hb5.size, Nat.le_refl _, ⟨fun hh => HI5.out.far (hsc g hh) rfl, Nat.lt_of_lt_of_le (Nat.lt_of_lt_of_le HI5.out.g0.2 HI5.out.but.size) hb5.size⟩, Nat.le_refl _⟩)
     clear hr7 hg7 hb5 hFc hsc b0 p0 p1 p2 p3 p4 p5 p6
     go_wp2_with fail
     go_loopw [74] (fun s74 wr => ∃ j : Nat, j ≤ x.kids.length ∧ s74 = .int .i64 j ∧ Hid (InP w5.heap.size g Fc w5 { y1 with kids := mix (y1.kids.map (rn s t)) y1.kids j } (.slice A3 x.limbs.length c3) (.slice (some ⟨g4, 0, none⟩) x.names.length c4) (.slice A5 x.kids.length c5) (.slice A6 x.alts.length c6) wr) ∧ Hid (Blk wr g e (pre ++ (c7 x (.slice A3 x.limbs.length c3) (.slice (some ⟨g4, 0, none⟩) x.names.length c4) (.slice A5 x.kids.length c5) (.slice A6 x.alts.length c6) ++ post)))) (fun s74 _ => x.kids.length - (intOf s74).toNat)
     case atStart => exact ⟨0, Nat.zero_le _, rfl, Wd (by rw [Jc, Kv]; exact HK6.out), HH6⟩
     clear HK6 HH6 HH5 HI5 HI HH HI3 HH3
     case round =>
      obtain ⟨j, hj, rfl, HI, HH⟩ := hrel
      have hrw := HR7.out.move (fun i hi => HI.out.but.block i (HR7.out.lt i hi) (HG7.out i hi))
      by_cases hlj : j < x.kids.length
      ·have hjy : j < y1.kids.length := by rw [HAL.out.1.kl]; exact hlj
       obtain ⟨c, hc⟩ : ∃ c, c = y1.kids[j] := ⟨_, rfl⟩
       have HC := Wd hc
       have HFC := Wd (HAL.out.2.2.2.1.kid (show c ∈ y1.kids from by rw [hc]; exact List.getElem_mem hjy))
       obtain ⟨g5, cap, c1, u3, u4, u5, u6, post5, Gx, hv5, -, hl5, hb5, hO5, -, hgx, -, hcl⟩ := HI.out.kid (m := x.kids.length) (c := c) rfl ((Zg (by simp) _).trans HAL.out.1.kl) hlj (fun h => by rw [hc]; exact Xf (by simp) hjy)
       simp only [Value.slice.injEq, true_and] at hv5
       obtain ⟨rfl, rfl⟩ := hv5
       obtain ⟨ar, hra, g0⟩ := qov (qtq (Hp _ _) hrw) j (by rw [Hp]; exact hlj)
       rw [qox, qru] at g0
       subst hra
       have ⟨HCL, HB5, HO5, HL5, HGX⟩ := Wz hcl hb5 hO5 hl5 hgx
       clear hcl hb5 hO5 hl5 hgx hc hrw
       have qk0 : (0 : Int) ≤ (j : Int) := by omega
       have qk1 : (j : Int) < x.kids.length := by omega
       go_wp2_with fail
       refine (qbf s t c HFC.out.s HFC.out.bulk wr g5 (j * 7) _ c1 _ post5 Gx HL5.out HB5.out HO5.out.own HO5.out.nd HGX.out).mono ?_
       rintro en w7 ⟨rfl, cx', ho', hb', hbt⟩
       obtain ⟨hi7, hh7⟩ := HCL.out _ cx' Gx w7 ho' HO5.out.nd (fun i hi => .inl hi) hbt hb'
       have HI7 := Wd hi7; have HH7 := Wd (hh7 _ _ HH.out)
       clear ho' hb' hbt hi7 hh7 HCL HB5 HO5 g0
       go_wp2
       go_roundw
       case rel => exact ⟨j + 1, by omega, by go_num, Wd (by have h := HI7.out; (try simp only at h); rw [Ki (by simp) hjy (by simp [← HC.out])] at h; exact h), HH7⟩
       case measure => simp [intOf]; omega
      ·have hjj : j = y1.kids.length := by rw [HAL.out.1.kl]; omega
       have hin := HI.out
       rw [hjj, Xj (by simp)] at hin
       have HIN := Wd hin
       clear hjj hin HI hrw
       obtain ⟨g4', cap4', dp0', dpn', hv4, -, hln, hbn, hg4, hcn⟩ := HIN.out.nam (k := i) hiy
       simp only [HAL.out.1.nl, Value.slice.injEq, Option.some.injEq, Addr.mk.injEq, and_true, true_and] at hv4
       obtain ⟨rfl, rfl⟩ := hv4
       have ⟨HLN, HBN, HCN⟩ := Wq hln hbn hcn
       clear hln hbn hcn hg4
       have b0 := ((HI6.out.back HSC.out HIN.out).but.blk BX.out HNX.out).cell (j := 0) rfl
       obtain ⟨p0, p1, p2, p3, p4, p5, p6⟩ := Blk.seven HH.out HOFF.out
       go_wp2_with (refine Qc g4 i dp0' _ dpn' [.string t] 9 (by rfl) 9 _ _ (by rfl) (by rfl) HLN.out.symm (by rfl) HBN.out rfl (by kernel_rfl) (by intro v hv; rw [List.mem_singleton.1 hv]; rfl) ?_)
       intro w8 hb8 hg8 hs8
       obtain ⟨hi8, hh8⟩ := HCN.out t w8 hg8 hb8
       have HI8 := Wd (HI6.out.back HSC.out hi8); have HH8 := Wd (hh8 _ _ HH.out)
       clear hb8 hg8 hs8 hi8 hh8 HCN HBN b0 p0 p1 p2 p3 p4 p5 p6 HIN HH
       have HX := Wd (show clI nm free all x (i + 1) = { y1 with kids := y1.kids.map (rn s t), names := y1.names.set i t } from by
        rw [qck, ← HY1.out, qdn hiy (by rw [← HSE.out]; exact HM.out), HT.out, HSE.out])
       go_wp2
       go_roundw
       case rel => exact ⟨i + 1, by omega, by go_num, Wd (by rw [HX.out]; exact HI8.out), HH8⟩
       case measure => simp [intOf]; omega
    ·have hii : i = x.names.length := by omega
     have hin := HI.out
     rw [hii, ← Ud, ← HYC.out] at hin
     have HIN := Wd hin
     clear hii hin HI
     go_wp2_with fail
     go_meet
     case rel => exact ⟨HNM, HIN, HH⟩
 case rest =>
  obtain ⟨HNM, HI, HH⟩ := hcut
  clear p0 p1 p2 p3 p4 p5 p6 b0 s0 s1 s2
  have HHAS := Wd (qwk HP.out.s HK67.out HNM.out)
  have HYK := Wd (show y.kind = x.kind ∧ y.name = x.name ∧ y.minus = x.minus from by
   rw [HY.out]
   split
   ·have h := (qaa (nm := nm) HE.out HP.out.fit HK1.out HNM.out x.names.length (Nat.le_refl _)).1
    rw [← Ud] at h
    exact ⟨h.k, h.n, h.m⟩
   ·exact ⟨rfl, rfl, rfl⟩)
  have HKL := Wd (show y.kids.length = x.kids.length from by
   rw [HY.out]
   split
   ·have h := (qaa (nm := nm) HE.out HP.out.fit HK1.out HNM.out x.names.length (Nat.le_refl _)).1
    rw [← Ud] at h
    exact h.kl
   ·rfl)
  have HPK := Wd (show ∀ c ∈ y.kids, Pre nm bt c ∧ dep c ≤ n from by
   rw [HY.out]
   split
   ·obtain ⟨-, -, h1, -, -⟩ := HP.out.clear HE.out HK67.out HNM.out
    have h := (qaa (nm := nm) HE.out HP.out.fit HK1.out HNM.out x.names.length (Nat.le_refl _)).2.2.2.2
    rw [← Ud] at h
    exact fun c hc => ⟨h1 c hc, by
     obtain ⟨d, hd, hs⟩ := qaw h c hc
     rw [hs.d]; have := Yz hd; have := HD.out; rw [Yi] at this; omega⟩
   ·exact fun c hc => ⟨HP.out.kid hc (by rw [Gs HP.out.s HK1.out HK8.out (fun h => HNM.out h.2)]; exact Yj hc), by have := Yz hc; have := HD.out; rw [Yi] at this; omega⟩)
  have b0 := (HI.out.but.blk BX.out HNX.out).cell (j := 0) rfl
  obtain ⟨p0, p1, p2, p3, p4, p5, p6⟩ := Blk.seven HH.out HOFF.out
  go_wp2_with fail
  clear b0 p0 p1 p2 p3 p4 p5 p6
  go_loopw [101] (fun s wr => ∃ k : Nat, k ≤ x.kids.length ∧ s = .int .i64 k ∧ Hid (InP W1.heap.size g F W1 { y with kids := mix (y.kids.map (Jb nm bt free all n)) y.kids k } (.slice A3 x.limbs.length c3) (.slice A4 x.names.length c4) (.slice A5 x.kids.length c5) (.slice A6 x.alts.length c6) wr) ∧ Hid (Blk wr g e (pre ++ (c7 x (.slice A3 x.limbs.length c3) (.slice A4 x.names.length c4) (.slice A5 x.kids.length c5) (.slice A6 x.alts.length c6) ++ post)))) (fun s _ => x.kids.length - (intOf s).toNat)
  case atStart => exact ⟨0, Nat.zero_le _, rfl, Wd (by rw [Jc, Kv]; exact HI.out), HH⟩
  clear HI HH
  case round =>
   obtain ⟨k, hk, rfl, HI, HH⟩ := hrel
   have b0 := (HI.out.but.blk BX.out HNX.out).cell (j := 0) rfl
   obtain ⟨p0, p1, p2, p3, p4, p5, p6⟩ := Blk.seven HH.out HOFF.out
   by_cases hlt : k < x.kids.length
   ·have hky : k < y.kids.length := by rw [HKL.out]; exact hlt
    obtain ⟨c, hc⟩ : ∃ c, c = y.kids[k] := ⟨_, rfl⟩
    exact f19
   ·have hkk : k = y.kids.length := by rw [HKL.out]; omega
    have hin := HI.out
    rw [hkk, Xj (by simp)] at hin
    have HIN := Wd hin
    clear hkk hin HI b0 p0 p1 p2 p3 p4 p5 p6
    go_wp2
    go_end0
    have hst : Jb nm bt free all (n + 1) x = { y with kids := y.kids.map (Jb nm bt free all n) } := by
     have h := HK67.out
     rw [Jb, if_neg (by omega), if_pos h, HHAS.out]
     by_cases hcc : x.kids.any (Vg nm) = true
     ·rw [if_pos hcc, HY.out, if_pos hcc]
     ·rw [if_neg hcc, HY.out, if_neg hcc, qgi (fun c hc => sub_id nm bt free all n c (by have h := List.any_eq_false.1 (by simpa using hcc) c hc; simpa using h)), Kv]
    rw [hst]
    refine InP.post HIN.out ?_ HB1.out
    have h := HH.out
    rw [show c7 { y with kids := y.kids.map (Jb nm bt free all n) } (.slice A3 x.limbs.length c3) (.slice A4 x.names.length c4) (.slice A5 x.kids.length c5) (.slice A6 x.alts.length c6) = c7 x (.slice A3 x.limbs.length c3) (.slice A4 x.names.length c4) (.slice A5 x.kids.length c5) (.slice A6 x.alts.length c6) from by simp only [c7, HYK.out.1, HYK.out.2.1, HYK.out.2.2]]
    exact h
end Go.Proofs.YtnoammmohdmnjaaGreat.C13
