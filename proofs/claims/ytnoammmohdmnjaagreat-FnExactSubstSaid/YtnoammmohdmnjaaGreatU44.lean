import Derived.Test.YtnoammmohdmnjaaGreatU36
import Derived.Test.YtnoammmohdmnjaaGreatU43
set_option maxRecDepth 100000
set_option maxHeartbeats 16000000
set_option linter.unusedVariables false
set_option linter.unusedSimpArgs false
namespace Go.Proofs.YtnoammmohdmnjaaGreat.C13
open Go.RowKit Go.Proofs.YtnoammmohdmnjaaGreatW.PrintWords
open List renaming setIfInBounds_toArray → Jla, set_cons_zero → Jlb, set_cons_succ → Jlc
theorem qyw {S : World} {D : List Nat} {pb : Nat} {nm : ByteArray} {bt : CoreT} {free all : List ByteArray} {bp : Addr} {fi : List ByteArray} {Af : Option Addr} {cf pm pn : Nat} (hS : Pl S D pb nm bt free all bp fi Af cf pm pn) (henv : Env free all bt) : ∀ n, qoe S D pb nm bt free all n
 | 0 => fun x _ hd => absurd hd (by have := qsd x; omega)
 | n + 1 => fun x hp hd w g off e pre post v3 v4 v5 v6 F hA => by
  have ih := qyw hS henv n
  by_cases h1 : x.kind = 1
  ·exact in_var hS henv n x hp h1 w g off e pre post v3 v4 v5 v6 F hA
  by_cases h6 : x.kind = 6
  ·exact qsu hS henv n ih x hp hd (.inl h6) w g off e pre post v3 v4 v5 v6 F hA
  by_cases h7 : x.kind = 7
  ·exact qsu hS henv n ih x hp hd (.inr h7) w g off e pre post v3 v4 v5 v6 F hA
  by_cases h8 : x.kind = 8
  ·exact zai hS henv n (fun y hy hq hd' => qqc hS henv n ih y hy hq hd') x hp hd h8 w g off e pre post v3 v4 v5 v6 F hA
  exact qwm hS henv n ih x hp hd h1 h6 h7 h8 w g off e pre post v3 v4 v5 v6 F hA
end Go.Proofs.YtnoammmohdmnjaaGreat.C13
namespace Go.Proofs.YtnoammmohdmnjaaGreat.C13
open Go.RowKit Go.Proofs.YtnoammmohdmnjaaGreatW.PrintWords Go.WideMaps Go.Maps
open List renaming setIfInBounds_toArray → Jla, set_cons_zero → Jlb, set_cons_succ → Jlc
section
variable {ops : Array Oper} {o : Oper} {a : Act} {Q : Exit → Act → World → Prop}
theorem qur {K : Act → World → Prop} {E : Prop} {w : World} (hgd : o.guard = none) (m x : Operand) (hop : o.op = Op.mapUpdate 95 m x (.const (.bool true))) (b : Nat) (hm : a.eval m = .map (some b)) (s : ByteArray) (hx : a.eval x = .string s) (hs : s.size ≤ maxLen) (l : List ByteArray) (hM : SetM w b l) (hl : l.length < maxLen)
  (h : ∀ w', SetM w' b (l ++ [s]) → w.grownBy w' (some b) → K (a.put o.dst undef) w') : if Region.wanted o (yielded ops a.tmps) = true then Oper.wp Tryz.prog o a w K Q else E := by
 have hw : Region.wanted o (yielded ops a.tmps) = true := by simp [Region.wanted, hgd]
 rw [if_pos hw]
 obtain ⟨w', hrun, r1, r2⟩ := World.ownsMap.update hM keyS Tryz.underlying95 hl (Uj hs) (plainElem_bool Tryz.underlying4 true)
 have he : a.eval (.const (.bool true)) = .bool true := rfl
 unfold Oper.wp
 simp [execOp, hop, hm, hx, he, hrun, Result.andThen]
 exact h w' (by unfold SetM; rw [qgt, List.length_append]; exact r1) r2
end
theorem qma (bc bn : Nat) (c : Int) (p : Addr) (s nm : ByteArray) (w : World) (hp : w.cell? ⟨p.block, p.off + 1, none⟩ = some (.string s)) (h1 : Blk w bc 3 [.int .i64 c]) (h2 : Blk w bn 9 [.string nm]) :
  Calls Tryz.prog 27 #[.pointer (some p), .pointer (some ⟨bn, 0, none⟩), .pointer (some ⟨bc, 0, none⟩)] w fun e w' => e = .returned (.tuple #[]) ∧ Blk w' bc 3 [.int .i64 (if s = nm then wrap64 (c + 1) else c)] ∧ But [bc] w w' := by
 have c0 := hp; have c1 := h1.cell (j := 0) rfl; have c2 := h2.cell (j := 0) rfl
 have H1 := Wd h1
 clear hp h1 h2
 go_enter Tryz.func27, Tryz.ntmps27
 go_wp2_with fail
 refine Qe [(true, 0), (true, 1), (true, 2), (true, 3), (true, 4), (true, 5)] [] (fun W' => Below w.heap.size w W') (by kernel_rfl) (by kernel_rfl) (fun _ _ d _ _ h => by cases d <;> exact h) ⟨rfl, rfl, rfl, Nat.le_refl _, fun _ _ => rfl⟩ ?_
 iterate 5
  refine Tb 4 (y := fun w' hSw => by
   have ⟨t0, t1, t2⟩ := Cb3 hSw c0 c1 c2
   go_simp
   try with_reducible rfl) (h := ?_)
 by_cases he : s = nm
 ·have ⟨q1, q2⟩ := Kk he
  have HE := Wd he
  refine Tb 4 (v := .bool true) (y := fun w' hSw => by
   exact f12) (h := ?_)
  refine Run.nil ?_
  clear he
  have c1' : w.drew.cell? _ = _ := c1
  go_wp2_with (refine Qc bc 0 [] [_] [] [.int .i64 (wrap64 (c + 1))] 3 rfl 3 _ _ rfl rfl rfl rfl (show Blk w.drew bc _ _ from H1.out) rfl (by kernel_rfl) (by intro v hv; rw [List.mem_singleton.1 hv]; rfl) ?_)
  intro w3 hb3 hg3 hs3
  have HB3 := Wd hb3; have HG3 := Wd hg3
  clear hb3 hg3 hs3 c0 c1 c2 c1'
  go_wp2
  exact f116
 ·have ⟨q1, q2⟩ := Xt he
  have HE := Wd he
  refine Tb 4 (v := .bool false) (y := fun w' hSw => by
   exact f12) (h := ?_)
  refine Run.nil ?_
  clear he
  go_wp2
  go_end0
  exact ⟨rfl, H1.out, But.of_below (Zn (Below.refl _ _))⟩
theorem qxg (bo b2 bs base : Nat) (v : Value) (out : List ByteArray) (p : Addr) (s : ByteArray) (hsz : s.size ≤ 274877906944) (hos : ∀ s ∈ out, s.size ≤ maxLen) (hol : out.length < 549755813888) (w : World) (hbase : base ≤ w.heap.size) (hp : w.cell? ⟨p.block, p.off + 1, none⟩ = some (.string s)) (h1 : Blk w bo 25 [v]) (h2 : Blk w bs 95 [.map (some b2)]) (hm : SetM w b2 out) (ho : w.ownsRow base 9 1 v out.length (Xa out)) (hne : bo ≠ bs ∧ bo ≠ b2 ∧ bs ≠ b2 ∧ (∀ k, v.ownBlock = some k → k ≠ bo ∧ k ≠ bs ∧ k ≠ b2)) (hpf : p.block ≠ bo ∧ p.block ≠ bs ∧ p.block ≠ b2 ∧ ∀ k, v.ownBlock = some k → p.block ≠ k) :
  Calls Tryz.prog 74 #[.pointer (some p), .pointer (some ⟨bs, 0, none⟩), .pointer (some ⟨bo, 0, none⟩)] w fun e w' => e = .returned (.tuple #[]) ∧ ∃ v' out', (∀ t, t ∈ out' ↔ t ∈ out ∨ t = s) ∧ out'.length ≤ out.length + 1 ∧ (∀ t ∈ out', t.size ≤ maxLen) ∧ Blk w' bo 25 [v'] ∧ Blk w' bs 95 [.map (some b2)] ∧ SetM w' b2 out' ∧ w'.ownsRow base 9 1 v' out'.length (Xa out') ∧ (∀ k, v'.ownBlock = some k → v.ownBlock = some k ∨ w.heap.size ≤ k) ∧ But (bo :: b2 :: v.ownBlock.toList) w w' := by
 have hsl : s.size ≤ maxLen := by unfold maxLen; omega
 have hrun := fun (w' : World) (hb : Below w.heap.size w w') => SetM.look (w := w') (show SetM w' b2 out from by obtain ⟨es, clock, h1, h2⟩ := hm; exact ⟨es, clock, (hb.block b2 (Array.getElem?_eq_some_iff.1 h1).1).trans h1, h2⟩) hos hsl
 have c0 := hp; have c1 := h1.cell (j := 0) rfl; have c2 := h2.cell (j := 0) rfl
 have ⟨HRUN, H1, H2, HM, HO, HNE⟩ := Wx hrun h1 h2 hm ho hne; have ⟨HOS, HSL, HPF⟩ := Wq hos hsl hpf
 clear hrun hp h1 h2 hm ho hne hos hsl hpf
 go_enter Tryz.func74, Tryz.ntmps74
 go_wp2_with fail
 refine Qe [(true, 0), (true, 1), (true, 2), (true, 3), (true, 4), (true, 5), (true, 6)] [] (fun W' => Below w.heap.size w W') (by kernel_rfl) (by kernel_rfl) (fun _ _ d _ _ h => by cases d <;> exact h) ⟨rfl, rfl, rfl, Nat.le_refl _, fun _ _ => rfl⟩ ?_
 iterate 5
  refine Tb 4 (y := fun w' hSw => by
   have t0 := Cb hSw c0; have t2 := Cb hSw c2
   go_simp
   try with_reducible rfl) (h := ?_)
 by_cases hin : s ∈ out
 ·have HIN := Wd hin
  refine Tb 4 (v := .bool true) (y := fun w' hSw => by
   have hq := HRUN.out _ hSw; rw [Qm HIN.out] at hq
   exact f12) (h := ?_)
  refine Tb 4 (v := .bool false) (y := fun w' hSw => by
   exact f12) (h := ?_)
  refine Run.nil ?_
  clear hin c0 c1 c2
  go_wp2
  go_end0
  have hbd : Below w.heap.size w w.drew := ⟨rfl, rfl, rfl, Nat.le_refl _, fun _ _ => rfl⟩
  exact ⟨rfl, v, out, fun t => ⟨.inl, fun h => h.elim id (fun e => e ▸ HIN.out)⟩, by omega, HOS.out, H1.out, H2.out, HM.out, HO.out, fun k hk => .inl hk, But.of_below hbd⟩
 ·have HIN := Wd hin
  refine Tb 4 (v := .bool false) (y := fun w' hSw => by
   have hq := HRUN.out _ hSw; rw [Qd HIN.out] at hq
   exact f12) (h := ?_)
  refine Tb 4 (v := .bool true) (y := fun w' hSw => by
   exact f12) (h := ?_)
  refine Run.nil ?_
  clear hin
  have c0' : w.drew.cell? _ = _ := c0; have c2' : w.drew.cell? _ = _ := c2
  go_wp2_with fail
  refine Qe [(true, 0), (true, 1), (true, 2), (true, 3), (true, 4), (false, 5)] [5] (fun W' => Below w.heap.size w W') (by kernel_rfl) (by kernel_rfl) (fun _ _ d _ _ h => by cases d <;> exact h) ⟨rfl, rfl, rfl, Nat.le_refl _, fun _ _ => rfl⟩ ?_
  iterate 5
   refine Tb 11 (y := fun w' hSw => by
    have t0 := Cb hSw c0; have t2 := Cb hSw c2
    go_simp
    try with_reducible rfl) (h := ?_)
  refine Run.step none (by rfl) (by rfl) ?_
  intro K hK
  refine qur rfl _ _ (by rfl) b2 (by rfl) s (by rfl) HSL.out out (show SetM w.drew.drew b2 out from HM.out) (by unfold maxLen; omega) ?_
  intro w3 hm3 hg3
  refine hK.out _ _ (fun h => absurd (by decide) h) ?_
  clear hK K
  refine Run.nil ?_
  obtain ⟨h01, h02, h03, h04⟩ := HNE.out
  obtain ⟨h11, h12, h13, h14⟩ := HPF.out
  have hg3' : w.grownBy w3 (some b2) := ⟨hg3.os, hg3.tape, hg3.output, hg3.size, hg3.block⟩
  have H13 := Wd (H1.out.grownO hg3' (fun e => h02 (by injection e)))
  have H23 := Wd (H2.out.grownO hg3' (fun e => h03 (by injection e)))
  have HM3 := Wd hm3
  have HO3 := Wd (show w3.ownsRow base 9 1 v out.length (Xa out) from HO.out.kept hg3' (.inr (fun e => (h04 b2 e).2.2 rfl)))
  have HG3 := Wd hg3'
  have hp3 : w3.cell? ⟨p.block, p.off + 1, none⟩ = some (.string s) := (hg3'.cell_far _ (World.block_lt_of_cell? w _ c0) (fun e => h13 (by injection e))).trans c0
  have c1' := H13.out.cell (j := 0) rfl
  clear hm3 hg3 hg3' c0 c1 c2 c0' c2'
  go_simp
  go_wp2_with fail
  refine Qe [(true, 0), (true, 1), (true, 2), (true, 3), (true, 4), (false, 5), (false, 6), (false, 7)] [7] (fun W' => W'.cell? ⟨bo, 0, none⟩ = some v ∧ W'.cell? ⟨p.block, p.off + 1, none⟩ = some (.string s)) (by kernel_rfl) (by kernel_rfl) (fun _ _ d _ _ h => by cases d <;> exact h) ⟨c1', hp3⟩ ?_
  iterate 5
   refine Tb 16 (y := fun w' hSw => by
    have t0 := hSw.2; have t1 := hSw.1
    go_simp
    try with_reducible rfl) (h := ?_)
  refine Run.new (some 21) (fun g => .slice (some ⟨g, 0, none⟩) 1 1) (.cells #[.string s] 9) (by rfl) (by rfl) (by rfl) (fun w' => by go_simp) ?_
  intro w4 hb4 hs4 hn4
  refine ⟨⟨Cb hb4 c1', Cb hb4 hp3⟩, ?_⟩
  try simp only [Act.put, heap_drew, Nat.reduceAdd, Jla, Jlb, Jlc]
  have HB4 := Wd (show Below w3.heap.size w3 w4 from ⟨hb4.os, hb4.tape, hb4.output, hb4.size, hb4.block⟩)
  have HS4 := Wd (show w4.heap.size = w3.heap.size + 1 from hs4)
  have HN4 := Wd (show Blk w4 w3.heap.size 9 [.string s] from hn4)
  have hbk : ∀ k, v.ownBlock = some k → k < w3.heap.size := fun k hk => (Zk (by decide) HO3.out).1.lt k (by rw [hk]; simp)
  clear hb4 hs4 hn4
  refine Run.appS (some 22) base (by rfl) (by rfl) (by rfl) (by rfl) (by rfl) (Vs HO3.out HB4.out) (Nat.le_trans hbase (Nat.le_trans HG3.out.size HB4.out.size)) (l := [s]) (by rfl) (qww HN4.out) (by simp only [List.length_singleton]; omega) ?_
  intro v5 w5 ho5 hg5 hat5
  refine ⟨fun _ => ⟨(hg5.cell_far _ (World.block_lt_of_cell? _ _ (Cb HB4.out c1')) (fun e => (h04 bo e.symm).1 rfl)).trans (Cb HB4.out c1'), (hg5.cell_far _ (World.block_lt_of_cell? _ _ (Cb HB4.out hp3)) (fun e => h14 _ e.symm rfl)).trans (Cb HB4.out hp3)⟩, ?_⟩
  try simp only [Act.put, heap_drew, Nat.reduceAdd, Jla, Jlb, Jlc]
  obtain ⟨A7, c7, rfl, -⟩ := (Zk (by decide) ho5).1.slice
  have HO5 := Wd ho5
  have HAT5 := Wd (show ∀ k, (Value.slice A7 (out ++ [s]).length c7).ownBlock = some k → v.ownBlock = some k ∨ w3.heap.size ≤ k from fun k hk => hat5.elim (fun h => .inl (by rw [← h]; exact hk)) (fun ⟨b', h1, h2⟩ => .inr (by rw [h1] at hk; injection hk with hk; have := HB4.out.size; omega)))
  have H15 := Wd ((H13.out.below HB4.out).grownO hg5 (fun e => (h04 bo e.symm).1 rfl))
  have H25 := Wd ((H23.out.below HB4.out).grownO hg5 (fun e => (h04 bs e.symm).2.1 rfl))
  have HM5 := Wd (show SetM w5 b2 (out ++ [s]) from World.ownsMap.kept (World.ownsMap.kept HM3.out ⟨HB4.out.os, HB4.out.tape, HB4.out.output, HB4.out.size, fun i hi _ => HB4.out.block i hi⟩ (row := none) (by simp)) hg5 (fun e => (h04 b2 e.symm).2.2 rfl))
  have HB5 := Wd (show But (bo :: b2 :: v.ownBlock.toList) w w5 from ((But.of_grown HG3.out).mono (by simp)).trans ((But.of_below HB4.out).trans ⟨hg5.os, hg5.tape, hg5.output, hg5.size, fun i hi hn => hg5.block i hi (fun e => hn (by rw [← e]; simp))⟩))
  clear ho5 hg5 hat5
  refine Run.step none (by rfl) (by rfl) ?_
  intro K hK
  refine Qw bo 0 [] [v] [] [.slice A7 (out ++ [s]).length c7] 25 (by rfl) 25 _ _ (by rfl) (by rfl) rfl (by rfl) H15.out rfl (by kernel_rfl) (by intro v hv; rw [List.mem_singleton.1 hv]; rfl) ?_
  intro w6 hb6 hg6 hs6
  refine hK.out _ _ (fun h => absurd (by decide) h) ?_
  clear hK K
  have hne5 : ∀ k, (Value.slice A7 (out ++ [s]).length c7).ownBlock = some k → k ≠ bo := fun k hk e => (HAT5.out k hk).elim (fun h => (h04 k h).1 e) (fun h => by have := H13.out.lt; omega)
  have H6 := Wd hb6; have HG6 := Wd hg6
  have HO6 := Wd (HO5.out.kept hg6 (.inr (fun e => hne5 bo e rfl)))
  have H26 := Wd (H25.out.grownO hg6 (fun e => h01 (by injection e with e; exact e.symm)))
  have HM6 := Wd (show SetM w6 b2 (out ++ [s]) from World.ownsMap.kept HM5.out hg6 (fun e => h02 (by injection e with e; exact e.symm)))
  clear hb6 hg6 hs6 hp3 c1'
  refine Run.nil ?_
  go_simp
  go_end0
  exact ⟨rfl, _, out ++ [s], fun t => by simp, by simp, fun t ht => by rcases List.mem_append.1 ht with h | h; (exact HOS.out t h); (rw [List.mem_singleton.1 h]; exact HSL.out), H6.out, H26.out, HM6.out, HO6.out, fun k hk => (HAT5.out k hk).imp id (fun h => Nat.le_trans HG3.out.size h), HB5.out.trans ((But.of_grown HG6.out).mono (by simp))⟩
def qyt (S : World) (bc : Nat) (nm : ByteArray) (l : List ByteArray) (G : List Nat) (wr : World) : Prop := G = [bc] ∧ Below S.heap.size S wr ∧ Blk wr bc 3 [.int .i64 (wrap64 (nIn l nm : Nat))]
theorem qrj {S : World} {bc bn b : Nat} {nm : ByteArray} (hbn : Blk S bn 9 [.string nm]) (h1 : S.heap.size ≤ bc) (h2 : S.heap.size ≤ b) (hne : bc ≠ b) : Look S b 27 #[.pointer (some ⟨bn, 0, none⟩), .pointer (some ⟨bc, 0, none⟩)] (qyt S bc nm) := by
 refine ⟨?_, fun l G wr h => h.2.1, ?_, h2, fun args w => rfl, ?_⟩
 ·rintro l G wr ⟨rfl, h3, h4⟩ i hi
  rw [List.mem_singleton.1 hi]
  exact ⟨h4.lt, hne⟩
 ·rintro l G wr w' ⟨rfl, h3, h4⟩ hk hb
  exact ⟨rfl, hb, by unfold Blk at h4 ⊢; rw [hk _ (by simp)]; exact h4⟩
 ·rintro l G y q wr ⟨rfl, h3, h4⟩ _ hbl hat hsz
  obtain ⟨A3, c3, A4, c4, A5, c5, A6, c6, -, -, q1, -⟩ := hat
  refine (qma bc bn _ q y.name nm wr (Cl h3 q1) h4 (hbn.below h3)).mono ?_
  rintro e w' ⟨rfl, h5, h6⟩
  refine ⟨rfl, [bc], ⟨rfl, ?_, ?_⟩, fun i hi => .inl hi, h6⟩
  ·exact h3.trans (h6.below (by intro i hi; rw [List.mem_singleton.1 hi]; exact h1) h3.size)
  ·rw [qjn]
   by_cases he : y.name = nm
   ·rw [if_pos he] at h5 ⊢
    rw [show wrap64 (wrap64 ((nIn l nm : Nat) : Int) + 1) = wrap64 ((nIn l nm + 1 : Nat) : Int) from by push_cast; unfold wrap64; omega] at h5
    exact h5
   ·rw [if_neg he] at h5 ⊢
    exact h5
def SeenQ (S : World) (bo b2 bs b : Nat) (l : List ByteArray) (G : List Nat) (wr : World) : Prop := Below S.heap.size S wr ∧ ∃ v out, (∀ t, t ∈ out ↔ t ∈ l) ∧ out.length ≤ l.length ∧ (∀ t ∈ out, t.size ≤ maxLen) ∧ Blk wr bo 25 [v] ∧ Blk wr bs 95 [.map (some b2)] ∧ SetM wr b2 out ∧ wr.ownsRow S.heap.size 9 1 v out.length (Xa out) ∧ (∀ k, v.ownBlock = some k → k ≠ bo ∧ k ≠ bs ∧ k ≠ b2 ∧ k ≠ b) ∧ G = bo :: b2 :: bs :: v.ownBlock.toList
theorem SetM.lt' {w : World} {b : Nat} {l : List ByteArray} (h : SetM w b l) : b < w.heap.size := World.ownsMap.lt h
theorem qtz {S : World} {bo b2 bs b : Nat} (h : S.heap.size ≤ bo ∧ S.heap.size ≤ b2 ∧ S.heap.size ≤ bs ∧ S.heap.size ≤ b) (hne : bo ≠ bs ∧ bo ≠ b2 ∧ bs ≠ b2) (hb : bo ≠ b ∧ b2 ≠ b ∧ bs ≠ b) : Look S b 74 #[.pointer (some ⟨bs, 0, none⟩), .pointer (some ⟨bo, 0, none⟩)] (SeenQ S bo b2 bs b) := by
 obtain ⟨h1, h2, h3, h4⟩ := h
 have inG : ∀ {v : Value} {i : Nat}, i ∈ bo :: b2 :: bs :: v.ownBlock.toList → i = bo ∨ i = b2 ∨ i = bs ∨ v.ownBlock = some i := fun hi => by
  simp only [List.mem_cons, Option.mem_toList] at hi
  exact hi
 refine ⟨?_, fun l G wr h => h.1, ?_, h4, fun args w => rfl, ?_⟩
 ·rintro l G wr ⟨hB, v, out, -, -, -, k1, k2, k3, k4, k5, rfl⟩ i hi
  rcases inG hi with rfl | rfl | rfl | hv
  ·exact ⟨k1.lt, hb.1⟩
  ·exact ⟨k3.lt', hb.2.1⟩
  ·exact ⟨k2.lt, hb.2.2⟩
  ·exact ⟨(Zk (by decide) k4).1.lt i (by rw [hv]; simp), (k5 i hv).2.2.2⟩
 ·rintro l G wr w' ⟨hB, v, out, e1, e2, e3, k1, k2, k3, k4, k5, rfl⟩ hk hb'
  refine ⟨hb', v, out, e1, e2, e3, ?_, ?_, ?_, Xc k4 (fun i hi => hk i (by simp [hi])), k5, rfl⟩
  ·unfold Blk at k1 ⊢; rw [hk bo (by simp)]; exact k1
  ·unfold Blk at k2 ⊢; rw [hk bs (by simp)]; exact k2
  ·obtain ⟨es, clock, j1, j2⟩ := k3
   exact ⟨es, clock, (hk b2 (by simp)).trans j1, j2⟩
 ·rintro l G y q wr ⟨hB, v, out, e1, e2, e3, k1, k2, k3, k4, k5, rfl⟩ hll hbl hat hsz
  obtain ⟨A3, c3, A4, c4, A5, c5, A6, c6, -, -, q1, -⟩ := hat
  have hq : q.block < S.heap.size := by have h := World.block_lt_of_cell? S _ q1; exact h
  have hbase := (Zk (by decide) k4).2.1
  refine (qxg bo b2 bs S.heap.size v out q y.name hsz e3 (by omega) wr hB.size (Cl hB q1) k1 k2 k3 k4 ⟨hne.1, hne.2.1, hne.2.2, fun k hk => ⟨(k5 k hk).1, (k5 k hk).2.1, (k5 k hk).2.2.1⟩⟩ ⟨by omega, by omega, by omega, fun k hk => by have := hbase k (by rw [hk]; simp); omega⟩).mono ?_
  rintro e w' ⟨rfl, v', out', f1, f2, f3, j1, j2, j3, j4, j5, j6⟩
  refine ⟨rfl, _, ⟨?_, v', out', fun t => by rw [f1, e1, List.mem_append, List.mem_singleton], by rw [List.length_append, List.length_singleton]; omega, f3, j1, j2, j3, j4, fun k hk => ?_, rfl⟩, fun i hi => ?_, j6.mono (fun i hi => ?_)⟩
  ·refine hB.trans (j6.below (fun i hi => ?_) hB.size)
   simp only [List.mem_cons, Option.mem_toList] at hi
   rcases hi with rfl | rfl | hv
   ·exact h1
   ·exact h2
   ·exact hbase i (by rw [hv]; simp)
  ·rcases j5 k hk with h | h
   ·exact k5 k h
   ·have := k1.lt; have := k2.lt; have := k3.lt'
    exact ⟨by omega, by omega, by omega, by omega⟩
  ·rcases inG hi with rfl | rfl | rfl | hv
   ·exact .inl (by simp)
   ·exact .inl (by simp)
   ·exact .inl (by simp)
   ·exact (j5 i hv).imp (fun h => by simp [h]) id
  ·simp only [List.mem_cons, Option.mem_toList] at hi ⊢
   rcases hi with h | h | h
   ·exact .inl h
   ·exact .inr (.inl h)
   ·exact .inr (.inr (.inr h))
theorem qjb (x : CoreT) (hs : Vn x) (hbk : bulk x ≤ 274877906944) (p : Addr) (w : World) (hat : At w x p) :
  Calls Tryz.prog 59 #[.pointer (some p)] w fun e w' => ∃ A c out G, e = .returned (.slice A out.length c) ∧ (∀ t, t ∈ out ↔ t ∈ fvs [] x) ∧ out.length ≤ (fvs [] x).length ∧ Row w' 9 (.slice A out.length c) out.length (Xa out) G ∧ (∀ i ∈ G, w.heap.size ≤ i) ∧ Below w.heap.size w w' := by
 have ⟨HS, HBK, HAT⟩ := Wq hs hbk hat
 have hmm := @run_makeMap Tryz.prog
 have hmf : ∀ (fn : Fn) (first cap : Array Value) (w : World), (Instr.makeFunc fn first cap).run Tryz.prog w = .ok (.func fn first cap) w := fun _ _ _ _ => rfl
 clear hs hbk hat
 obtain ⟨W1, hW1, hp1, hB1, hs1⟩ := boxed w [] 9
 obtain ⟨W2, hW2, hp2, hB2, hs2⟩ := boxed W1 [.slice none 0 0] 25
 have HP1 := Wd (hp1.below hB2); have HB2 := Wd (Below.step hB1 hB2)
 rw [hs1] at hp2 hs2
 have HP2 := Wd hp2; have HZ2 := Wd hs2
 clear hp1 hp2 hB1 hB2 hs1 hs2
 have HW2 := Wd hW2
 rw [hW2, hW1] at HP2
 rw [hW1] at HW2
 clear hW2 hW1
 go_enter Tryz.func59, Tryz.ntmps59
 go_wp2_with (refine Wv (w.heap.size + 1) [.slice (some ⟨w.heap.size, 0, none⟩) 0 0] HP2.out ?_)
 intro w3 hb3 hg3 hs3
 rw [← HW2.out] at hg3
 have hz3 : w3.heap.size = w.heap.size + 1 + 1 := by omega
 have HB3 := Wd (show Below w.heap.size w w3 from HB2.out.grown hg3 HB2.out.size (fun j hj => by injection hj with hj; omega))
 have H13 := Wd hb3
 have H03 := Wd (show Blk w3 w.heap.size 9 [] from HP1.out.grownO hg3 (fun e => by injection e with e; omega))
 have hbm : Below w3.heap.size w3 (w3.alloc (.map #[] 0)) := (Below.refl _ _).alloc (Nat.le_refl _) _
 obtain ⟨W5, hW5, hp5, hB5, hs5⟩ := boxed (w3.alloc (.map #[] 0)) [.map none] 95
 have hz4 : (w3.alloc (.map #[] 0)).heap.size = w.heap.size + 1 + 1 + 1 := by simp; omega
 rw [hz4] at hp5 hs5
 have HB35 := Wd (Qa hbm hB5)
 have HM5 := Wd (show SetM W5 (w.heap.size + 1 + 1) [] from by
  have h : SetM (w3.alloc (.map #[] 0)) w3.heap.size [] := World.ownsMap_made w3 _ _ _
  rw [hz3] at h
  exact World.ownsMap.kept h ⟨hB5.os, hB5.tape, hB5.output, hB5.size, fun i hi _ => hB5.block i hi⟩ (row := none) (by simp))
 have HP5 := Wd hp5
 have HZ5 := Wd hs5
 have HW5 := Wd hW5
 rw [hW5] at HP5
 clear hb3 hg3 hs3 hbm hp5 hB5 hs5 hW5 hz4
 go_wp2_with (refine Wv (w.heap.size + 1 + 1 + 1) [.map (some (w.heap.size + 1 + 1))] HP5.out ?_)
 intro w6 hb6 hg6 hs6
 rw [← HW5.out] at hg6
 have hz6 : w6.heap.size = w.heap.size + 1 + 1 + 1 + 1 := by omega
 have hg36 : Below w3.heap.size w3 w6 := HB35.out.grown hg6 HB35.out.size (fun j hj => by injection hj with hj; omega)
 have HQ := Wd (show SeenQ w (w.heap.size + 1) (w.heap.size + 1 + 1) (w.heap.size + 1 + 1 + 1) (w.heap.size + 1 + 1 + 1 + 1) [] ((w.heap.size + 1) :: (w.heap.size + 1 + 1) :: (w.heap.size + 1 + 1 + 1) :: (Value.slice (some ⟨w.heap.size, 0, none⟩) 0 0).ownBlock.toList) (w6.alloc (.map #[] 0)) from by
  have hal : Below w6.heap.size w6 (w6.alloc (.map #[] 0)) := (Below.refl _ _).alloc (Nat.le_refl _) _
  have hB := Qa HB3.out (Qa hg36 hal)
  refine ⟨hB, _, [], fun t => Iff.rfl, Nat.le_refl _, fun t h => (by cases h), (H13.out.below hg36).below hal, hb6.below hal, ?_, Ho ((H03.out.below hg36).below hal) (Nat.le_refl _), fun k hk => ?_, rfl⟩
  ·exact World.ownsMap.kept (World.ownsMap.kept HM5.out hg6 (fun e => by injection e with e; omega)) ⟨hal.os, hal.tape, hal.output, hal.size, fun i hi _ => hal.block i hi⟩ (row := none) (by simp)
  ·have : k = w.heap.size := by simpa [Value.ownBlock] using hk.symm
   subst this
   exact ⟨by omega, by omega, by omega, by omega⟩)
 have HM := Wd (show CountM (w6.alloc (.map #[] 0)) (w.heap.size + 1 + 1 + 1 + 1) 0 (fun _ => 0) from by have h := CountM.made w6; rw [hz6] at h; exact h)
 have HL := Wd (qtz (S := w) (bo := w.heap.size + 1) (b2 := w.heap.size + 1 + 1) (bs := w.heap.size + 1 + 1 + 1) (b := w.heap.size + 1 + 1 + 1 + 1) ⟨by omega, by omega, by omega, by omega⟩ ⟨by omega, by omega, by omega⟩ ⟨by omega, by omega, by omega⟩)
 clear hb6 hg6 hg36
 go_wp2_with fail
 refine (qmt x HS.out HBK.out w _ p (w.heap.size + 1 + 1 + 1 + 1) 0 _ _ _ (fun _ => 0) [] [] _ HL.out HAT.out (fun s => by simp) HM.out (by have := HBK.out; omega) HQ.out (Nat.le_refl _)).mono ?_
 rintro en w7 ⟨rfl, h7⟩
 obtain ⟨G7, ⟨hb7, v, out, f1, f2, f3, k1, -, -, k4, -⟩, -⟩ := h7.ex
 rw [List.nil_append] at f1 f2
 obtain ⟨A7, c7, rfl, -, -⟩ := (Zk (by decide) k4).1.readsS
 have HR7 := Wd (Zk (by decide) k4)
 have c1 := k1.cell (j := 0) rfl
 have HB7 := Wd hb7; have F1 := Wd f1
 clear h7 hb7 k1 k4 f1 f3
 go_wp2
 go_ret
 exact ⟨A7, c7, out, _, rfl, F1.out, f2, HR7.out.1, HR7.out.2.1, HB7.out⟩
end Go.Proofs.YtnoammmohdmnjaaGreat.C13
namespace Go.Proofs.YtnoammmohdmnjaaGreat.C13
open Go.RowKit Go.Proofs.YtnoammmohdmnjaaGreatW.PrintWords
open List renaming setIfInBounds_toArray → Jla, set_cons_zero → Jlb, set_cons_succ → Jlc
theorem qqx (nm : ByteArray) (x bt : CoreT) (hnm : nm.size ≤ 274877906944) (hp : Pre nm bt x) (hgt : Good bt) (hbb : bulk bt ≤ 1048576) (w S0 : World) (g off : Nat) (e : TypeId) (pre post : List Value) (v3 v4 v5 v6 : Value) (F : List Nat) (bp : Addr) (hat : At S0 bt bp) (hS0 : Below S0.heap.size S0 w) (hoff : pre.length = off) (hblk : Blk w g e (pre ++ (c7 x v3 v4 v5 v6 ++ post))) (hO : Own7 w x v3 v4 v5 v6 F) (hg : g ∉ F) (hF : ∀ i ∈ g :: F, S0.heap.size ≤ i) :
  Calls Tryz.prog 29 #[.pointer (some ⟨g, off, none⟩), .string nm, .pointer (some bp)] w (qbm (Jb nm bt (qad bt) (qbk bt) (dep x) x) g e pre post F w) := by
 have ⟨HNM, HP, HGT, HBB, HAT, HS0, HOFF, HBLK⟩ := Ww hnm hp hgt hbb hat hS0 hoff hblk; have ⟨HO, HG, HF⟩ := Wq hO hg hF
 have HLT := Wd hO.lt; have HGL := Wd hblk.lt
 have hmm := @run_makeMap Tryz.prog
 clear hnm hp hgt hbb hat hS0 hoff hblk hO hg hF
 go_enter Tryz.func29, Tryz.ntmps29
 go_wp2_with fail
 refine (qjb bt HGT.out.sane (by have := HBB.out; omega) bp w (HAT.out.below HS0.out)).mono ?_
 rintro en w1 ⟨A, c, fi, Gf, rfl, hfe, hfl, hfr, hGf, hb1⟩
 have ⟨HFE, HFL, HFR, HGF, HB1⟩ := Wz hfe hfl hfr hGf hb1
 clear hfe hfl hfr hGf hb1
 have hbm : Below w1.heap.size w1 (w1.alloc (.map #[] 0)) := (Below.refl _ _).alloc (Nat.le_refl _) _
 obtain ⟨W3, hW3, hp3, hB3, hs3⟩ := boxed (w1.alloc (.map #[] 0)) [.string nm, .pointer (some bp), .slice A fi.length c, .map (some w1.heap.size)] 98
 have hz2 : (w1.alloc (.map #[] 0)).heap.size = w1.heap.size + 1 := by simp
 rw [hz2] at hp3 hs3
 have HB13 := Wd (Qa hbm hB3)
 have HM3 := Wd (show NamM W3 w1.heap.size 0 (fun _ => false) from (NamM.made w1).move (hB3.block _ (by omega)))
 have HP3 := Wd hp3; have HS3 := Wd hs3
 clear hbm hB3 hp3 hs3
 have HZ1 := Wd (show w.heap.size ≤ w1.heap.size from HB1.out.size)
 have c3 := HP3.out.cell (j := 3) rfl
 subst hW3
 go_wp2_with fail
 refine (qbq bt (by have := HBB.out; omega) S0 _ bp w1.heap.size 0 (fun _ => false) HAT.out (Qa HS0.out (Qa HB1.out HB13.out)) (Nat.le_trans HS0.out.size HZ1.out) HM3.out (by have h1 := Jp bt; have h2 := HGT.out.1; omega)).mono ?_
 rintro en w4 ⟨rfl, hm4, hg4⟩
 have HM4 := Wd hm4; have HG4 := Wd hg4
 have HP4 := Wd (HP3.out.grownO hg4 (fun e => by injection e with e; omega))
 clear hm4 hg4 c3
 have c3 := HP4.out.cell (j := 3) rfl
 go_wp2_with (refine Yx _ nm (by rfl) ?_)
 intro w5 hb5 hB5 hs5
 have ⟨HB5, H5, HS5⟩ := Wq hB5 hb5 hs5
 have HM5 := Wd (HM4.out.move (hB5.block _ HM4.out.lt))
 have HP5 := Wd (HP4.out.below hB5)
 clear hb5 hB5 hs5 c3
 go_wp2_with fail
 refine (qij [nm] (fun s hs => by rw [List.mem_singleton.1 hs]; exact HNM.out) w1.heap.size _ _ (by have h1 := Jp bt; have h2 := HGT.out.1; simp only [List.length_singleton]; omega) (some ⟨w4.heap.size, 0, none⟩) 1 w5 (qdr H5.out) (Nat.le_refl _) HM5.out).mono ?_
 rintro en w6 ⟨rfl, hm6, hg6⟩
 have HM6 := Wd hm6; have HG6 := Wd hg6
 have HP6 := Wd (HP5.out.grownO hg6 (fun e => by injection e with e; omega))
 clear hm6 hg6
 have HB16 := Wd (show Below w1.heap.size w1 w6 from by
  have h4 : Below w1.heap.size w1 w4 := HB13.out.grown HG4.out HB13.out.size (fun j hj => by injection hj with hj; omega)
  exact (Qa h4 HB5.out).grown HG6.out (Nat.le_trans h4.size HB5.out.size) (fun j hj => by injection hj with hj; omega))
 have HB06 := Wd (show Below w.heap.size w w6 from Qa HB1.out HB16.out)
 have hFlt : ∀ i ∈ g :: F, i < w.heap.size := fun i hi => by
  rcases List.mem_cons.1 hi with h | h
  ·rw [h]; exact HGL.out
  ·exact HLT.out i h
 have HPL := Wd (show Pl w6 (g :: F) (w1.heap.size + 1) nm bt (qad bt) (qbk bt) bp fi A c w1.heap.size (0 + (Zc bt).length + [nm].length) from by
  refine ⟨HP6.out, fun h => by have := hFlt _ h; have := HZ1.out; omega, ⟨S0, HAT.out, fun wr hk => (Qa HS0.out HB06.out).trans (hk.below HF.out (Nat.le_trans HS0.out.size HB06.out.size))⟩, ⟨Gf, HFR.out.below HB16.out, fun i hi h => by have := hFlt _ h; have := HGF.out i hi; omega⟩, fun s => ?_, ?_, HM6.out.congr (fun s => ?_), fun h => by have := hFlt _ h; have := HZ1.out; omega, ?_⟩
  ·rw [HFE.out s, qad, qfa]; simp
  ·have h1 := HFL.out; have h2 := qjd bt []; have h3 := HGT.out.1; omega
  ·have : (s ∈ qbk bt ++ [nm]) ↔ (s ∈ Zc bt ∨ s ∈ [nm]) := by rw [List.mem_append, qbk, qfa]; simp
   rw [Bool.eq_iff_iff]; simp only [qdk, Bool.false_or, Bool.or_eq_true, decide_eq_true_eq]; exact this.symm
  ·have h1 := Jp bt; have h2 := HGT.out.1; simp only [List.length_singleton]; omega)
 have HIA := Wd (show Gk w6 (g :: F) x w6 g off e pre post v3 v4 v5 v6 F from
  ⟨HOFF.out, HBLK.out.below HB06.out, HO.out.move (fun k hk => HB06.out.block k (HLT.out k hk)), HG.out, But.refl _ _, fun i hi => .inl (by simp [hi]), .inl (by simp)⟩)
 clear hFlt
 go_wp2_with fail
 refine (qyw HPL.out (HGT.out.env HBB.out) (dep x) x HP.out (Nat.le_refl _) w6 g off e pre post v3 v4 v5 v6 F HIA.out).mono ?_
 rintro en w7 ⟨rfl, u3, u4, u5, u6, F', h1, h2, h3, h4⟩
 have ⟨H1, H2, H3, H4⟩ := Wj h1 h2 h3 h4
 clear h1 h2 h3 h4
 go_wp2
 go_end0
 exact ⟨rfl, u3, u4, u5, u6, F', H1.out, H2.out, fun i hi => (H3.out i hi).imp id (Nat.le_trans HB06.out.size), (But.of_below HB06.out).trans H4.out⟩
end Go.Proofs.YtnoammmohdmnjaaGreat.C13
