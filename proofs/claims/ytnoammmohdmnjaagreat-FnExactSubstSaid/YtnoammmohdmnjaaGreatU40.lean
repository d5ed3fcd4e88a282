import Derived.Test.YtnoammmohdmnjaaGreatU35
import Derived.Test.YtnoammmohdmnjaaGreatU39
set_option maxRecDepth 100000
set_option maxHeartbeats 16000000
set_option linter.unusedVariables false
set_option linter.unusedSimpArgs false
namespace Go.Proofs.YtnoammmohdmnjaaGreat.C13
open Go.RowKit Go.Proofs.YtnoammmohdmnjaaGreatW.PrintWords
open List renaming setIfInBounds_toArray → Jla, set_cons_zero → Jlb, set_cons_succ → Jlc
theorem f116 {p : Prop} (h : p := by
 go_end0
 exact ⟨rfl, HB3.out, (But.of_below (Zn (Below.refl _ _))).trans (But.of_grown HG3.out)⟩) : p := h
theorem qsi (bf bn : Nat) (f : Bool) (p : Addr) (s nm : ByteArray) (w : World) (hp : w.cell? ⟨p.block, p.off + 1, none⟩ = some (.string s)) (h1 : Blk w bf 4 [.bool f]) (h2 : Blk w bn 9 [.string nm]) :
  Calls Tryz.prog 100 #[.pointer (some p), .pointer (some ⟨bf, 0, none⟩), .pointer (some ⟨bn, 0, none⟩)] w fun e w' => e = .returned (.tuple #[]) ∧ Blk w' bf 4 [.bool (f || decide (s = nm))] ∧ But [bf] w w' := by
 have c0 := hp; have c1 := h1.cell (j := 0) rfl; have c2 := h2.cell (j := 0) rfl
 have HF := Wd h1
 clear hp h1 h2
 cases hf : f
 ·rw [hf] at c1
  go_enter Tryz.func100, Tryz.ntmps100
  go_wp2_with fail
  refine Qe [(true, 0), (true, 1), (true, 2), (true, 3), (true, 4), (true, 5), (true, 6), (true, 7), (true, 8), (false, 9)] [9] (fun W' => Below w.heap.size w W') (by kernel_rfl) (by kernel_rfl) (fun _ _ d _ _ h => by cases d <;> exact h) ⟨rfl, rfl, rfl, Nat.le_refl _, fun _ _ => rfl⟩ ?_
  iterate 8
   refine Tb 4 (y := fun w' hSw => by
    have ⟨t0, t1, t2⟩ := Cb3 hSw c0 c1 c2
    go_simp
    try with_reducible rfl) (h := ?_)
  by_cases he : s = nm
  ·have ⟨q1, q2⟩ := Kk he
   refine Tb 4 (v := .bool true) (y := fun w' hSw => by
    exact f12) (h := ?_)
   refine Run.step none (by rfl) (by rfl) ?_
   intro K hK
   refine Qw bf 0 [] [.bool false] [] [.bool true] 4 (by rfl) 4 _ _ (by rfl) (by rfl) rfl (by rfl) (show Blk w.drew bf _ _ from by rw [← hf]; exact HF.out) rfl (by kernel_rfl) (by intro v hv; rw [List.mem_singleton.1 hv]; rfl) ?_
   intro w3 hb3 hg3 hs3
   refine hK.out _ _ (fun h => absurd (by decide) h) ?_
   have HB3 := Wd hb3; have HG3 := Wd hg3
   clear hK K hb3 hg3 hs3 c0 c1 c2
   refine Run.nil ?_
   go_simp
   go_end0
   exact ⟨rfl, by rw [decide_eq_true he]; exact HB3.out, (But.of_below (Zn (Below.refl _ _))).trans (But.of_grown HG3.out)⟩
  ·have ⟨q1, q2⟩ := Xt he
   refine Tb 4 (v := .bool false) (y := fun w' hSw => by
    exact f12) (h := ?_)
   refine Run.step none (by rfl) (by rfl) ?_
   intro K hK
   refine Qw bf 0 [] [.bool false] [] [.bool false] 4 (by rfl) 4 _ _ (by rfl) (by rfl) rfl (by rfl) (show Blk w.drew bf _ _ from by rw [← hf]; exact HF.out) rfl (by kernel_rfl) (by intro v hv; rw [List.mem_singleton.1 hv]; rfl) ?_
   intro w3 hb3 hg3 hs3
   refine hK.out _ _ (fun h => absurd (by decide) h) ?_
   have HB3 := Wd hb3; have HG3 := Wd hg3
   clear hK K hb3 hg3 hs3 c0 c1 c2
   refine Run.nil ?_
   go_simp
   go_end0
   exact ⟨rfl, by rw [decide_eq_false he]; exact HB3.out, (But.of_below (Zn (Below.refl _ _))).trans (But.of_grown HG3.out)⟩
 ·rw [hf] at c1
  go_enter Tryz.func100, Tryz.ntmps100
  go_wp2_with fail
  refine Qe [(true, 0), (true, 1), (true, 2), (true, 3), (true, 4), (true, 5), (true, 6), (true, 7), (true, 8), (false, 9)] [9] (fun W' => Below w.heap.size w W') (by kernel_rfl) (by kernel_rfl) (fun _ _ d _ _ h => by cases d <;> exact h) ⟨rfl, rfl, rfl, Nat.le_refl _, fun _ _ => rfl⟩ ?_
  iterate 2
   refine Tb 4 (y := fun w' hSw => by
    have ⟨t0, t1, t2⟩ := Cb3 hSw c0 c1 c2
    go_simp
    try with_reducible rfl) (h := ?_)
  iterate 6
   refine Run.passB 4 (by rfl) (by rfl) (by rfl) ?_
   simp only [Act.put, heap_drew, Nat.reduceAdd, Jla, Jlb, Jlc]
  refine Tb 4 (v := .bool true) (y := fun w' hSw => by
   exact f12) (h := ?_)
  refine Run.step none (by rfl) (by rfl) ?_
  intro K hK
  refine Qw bf 0 [] [.bool true] [] [.bool true] 4 (by rfl) 4 _ _ (by rfl) (by rfl) rfl (by rfl) (show Blk w.drew bf _ _ from by rw [← hf]; exact HF.out) rfl (by kernel_rfl) (by intro v hv; rw [List.mem_singleton.1 hv]; rfl) ?_
  intro w3 hb3 hg3 hs3
  refine hK.out _ _ (fun h => absurd (by decide) h) ?_
  have HB3 := Wd hb3; have HG3 := Wd hg3
  clear hK K hb3 hg3 hs3 c0 c1 c2
  refine Run.nil ?_
  go_simp
  exact f116
theorem qbh (x : CoreT) (hs : Vn x) (hbk : bulk x ≤ 274877906944) (nm : ByteArray) (p : Addr) (w : World) (hat : At w x p) :
  Calls Tryz.prog 93 #[.pointer (some p), .string nm] w fun e w' => e = .returned (.bool (Vg nm x)) ∧ Below w.heap.size w w' := by
 have ⟨HS, HBK, HAT⟩ := Wq hs hbk hat
 clear hs hbk hat
 obtain ⟨W1, hW1, hp1, hB1, hs1⟩ := boxed w [.string nm] 9
 obtain ⟨W2, hW2, hp2, hB2, hs2⟩ := boxed W1 [.bool false] 4
 have HA1 := Wd (HAT.out.below hB1)
 have HP1 := Wd hp1; have HP2 := Wd (show Blk W2 (w.heap.size + 1) 4 [.bool false] from by rw [hs1] at hp2; exact hp2)
 have ⟨HB1, HB2, HZ⟩ := Wq hB1 hB2 (show W1.heap.size = w.heap.size + 1 ∧ W2.heap.size = w.heap.size + 2 from ⟨hs1, by omega⟩)
 clear hp1 hp2 hB1 hB2 hs1 hs2
 subst hW2
 have HW1 := Wd hW1
 rw [hW1] at HP2
 clear hW1
 go_enter Tryz.func93, Tryz.ntmps93
 go_wp2_with (refine Wv (w.heap.size + 1) [.bool false] HP2.out ?_)
 intro w3 hb3 hg3 hs3
 rw [← HW1.out] at hg3
 have HB3 := Wd hb3
 have hz3 : w3.heap.size = w.heap.size + 2 := by omega
 have HB13 := Wd (show Below W1.heap.size W1 w3 from HB2.out.grown hg3 HB2.out.size (fun j hj => by injection hj with hj; have := HZ.out.1; omega))
 have HM := Wd (show CountM (w3.alloc (.map #[] 0)) (w.heap.size + 1 + 1) 0 (fun _ => 0) from by have h := CountM.made w3; rw [show w3.heap.size = w.heap.size + 1 + 1 from hz3] at h; exact h)
 have hB34 : Below w3.heap.size w3 (w3.alloc (.map #[] 0)) := (Below.refl _ _).alloc (Nat.le_refl _) _
 have HQ := Wd (show Below W1.heap.size W1 (w3.alloc (.map #[] 0)) ∧ Blk (w3.alloc (.map #[] 0)) (w.heap.size + 1) 4 [.bool false] from ⟨Qa HB13.out hB34, hb3.below hB34⟩)
 have HL := Wd (show Look W1 (w.heap.size + 1 + 1) 100 #[.pointer (some ⟨w.heap.size + 1, 0, none⟩), .pointer (some ⟨w.heap.size, 0, none⟩)] (fun l G wr => G = [w.heap.size + 1] ∧ Below W1.heap.size W1 wr ∧ Blk wr (w.heap.size + 1) 4 [.bool (decide (nm ∈ l))]) from by
  refine ⟨?_, fun l G wr h => h.2.1, ?_, by have := HZ.out.1; omega, fun args w => rfl, ?_⟩
  ·rintro l G wr ⟨rfl, h1, h2⟩ i hi
   rw [List.mem_singleton.1 hi]
   exact ⟨h2.lt, by omega⟩
  ·rintro l G wr w' ⟨rfl, h1, h2⟩ hk hb
   exact ⟨rfl, hb, by unfold Blk at h2 ⊢; rw [hk _ (by simp)]; exact h2⟩
  ·rintro l G y q wr ⟨rfl, h1, h2⟩ _ hbl hat hsz
   obtain ⟨A3, c3, A4, c4, A5, c5, A6, c6, -, -, q1, -⟩ := hat
   refine (qsi (w.heap.size + 1) w.heap.size _ q y.name nm wr (Cl h1 q1) h2 (HP1.out.below h1)).mono ?_
   rintro e w' ⟨rfl, h3, h4⟩
   refine ⟨rfl, [w.heap.size + 1], ⟨rfl, ?_, ?_⟩, fun i hi => .inl hi, h4⟩
   ·exact h1.trans (h4.below (by intro i hi; rw [List.mem_singleton.1 hi]; have := HZ.out.1; omega) h1.size)
   ·rw [show decide (nm ∈ l ++ [y.name]) = (decide (nm ∈ l) || decide (y.name = nm)) from by rw [← Bool.decide_or, decide_eq_decide, List.mem_append, List.mem_singleton]; exact or_congr Iff.rfl eq_comm]
    exact h3)
 clear hb3 hg3 hB34
 have hmm := @run_makeMap Tryz.prog
 go_wp2_with fail
 refine (qmt x HS.out HBK.out W1 _ p (w.heap.size + 1 + 1) 0 _ _ _ (fun _ => 0) [] [] [w.heap.size + 1] HL.out HA1.out (fun s => by simp) HM.out (by have := HBK.out; omega) ⟨rfl, HQ.out.1, by simpa using HQ.out.2⟩ (Nat.le_refl _)).mono ?_
 rintro en w5 ⟨rfl, h5⟩
 obtain ⟨G5, ⟨rfl, hb5, hf5⟩, -⟩ := h5.ex
 have HB5 := Wd hb5
 rw [List.nil_append, ← zaf x HS.out] at hf5
 have c1 := hf5.cell (j := 0) rfl
 clear h5 hb5 hf5
 go_wp2
 go_ret
 exact ⟨rfl, Qa HB1.out HB5.out⟩
end Go.Proofs.YtnoammmohdmnjaaGreat.C13
namespace Go.Proofs.YtnoammmohdmnjaaGreat.C13
open Go.RowKit Go.Proofs.YtnoammmohdmnjaaGreatW.PrintWords Go.WideMaps Go.Maps
open List renaming setIfInBounds_toArray → Jla, set_cons_zero → Jlb, set_cons_succ → Jlc
structure SetD (D : DataW Unit) (X : ByteArray → Bool) : Prop where
 m : IsMap D
 a : ∀ s : ByteArray, s.size ≤ maxLen → ∀ z, D.atKey (qhe s) z = if X s = true then .lit (.bool true) else z
 h : ∀ s : ByteArray, s.size ≤ maxLen → Maps.has D (qhe s) = X s
def NamM (w : World) (b n : Nat) (X : ByteArray → Bool) : Prop := ∃ D, w.ownsMap Tryz.prog 9 (plainElem (H := Unit) Tryz.prog 4) b n D ∧ SetD D X
def qdk (X : ByteArray → Bool) (l : List ByteArray) : ByteArray → Bool := fun s => X s || decide (s ∈ l)
theorem qog (X : ByteArray → Bool) : qdk X [] = X := by funext s; simp [qdk]
theorem qiu (X : ByteArray → Bool) (l m : List ByteArray) : qdk (qdk X l) m = qdk X (l ++ m) := by funext s; simp [qdk, Bool.or_assoc, Bool.decide_or]
theorem SetD.put {D : DataW Unit} {X : ByteArray → Bool} (h : SetD D X) {s : ByteArray} (hs : s.size ≤ maxLen) : SetD (D.put (qhe s) (.lit (.bool true))) (qdk X [s]) := by
 refine ⟨?_, fun t ht z => ?_, fun t ht => ?_⟩
 ·obtain ⟨es, rfl⟩ := h.m
  exact ⟨_, rfl⟩
 ·by_cases e : s = t
  ·subst e
   rw [atKey_put_same h.m (keyS.key (Uj ht)), if_pos (by simp [qdk])]
  ·rw [atKey_put_other (qjk e), h.a t ht]
   simp [qdk, show ¬ t = s from fun e' => e e'.symm]
 ·by_cases e : s = t
  ·subst e
   rw [has_put_same h.m (keyS.key (Uj ht))]; simp [qdk]
  ·rw [has_put_other (qjk e), h.h t ht]
   simp [qdk, show ¬ t = s from fun e' => e e'.symm]
section
variable {w w' : World} {b n n' : Nat} {X : ByteArray → Bool}
theorem NamM.look (h : NamM w b n X) {s : ByteArray} (hs : s.size ≤ maxLen) : (Instr.lookup 96 (.map (some b)) (.string s) false).run Tryz.prog w = .ok (.bool (X s)) w := by
 obtain ⟨D, hm, hD⟩ := h
 obtain ⟨v, ps, hrun, hv⟩ := hm.lookup keyS Tryz.underlying96 (zeroB w) (plainElem_bool Tryz.underlying4 false) (Uj hs)
 rw [hrun]
 rw [hD.a s hs] at hv
 unfold plainElem at hv
 rw [Tryz.underlying4] at hv
 cases v <;> simp at hv
 obtain ⟨hv, -⟩ := hv
 rename_i c
 have : c = X s := by cases hX : X s <;> simp [hX] at hv <;> exact hv
 rw [this]
theorem NamM.mono (h : NamM w b n X) (hn : n ≤ n') : NamM w b n' X := by obtain ⟨D, hm, hD⟩ := h; exact ⟨D, hm.mono hn, hD⟩
theorem NamM.lt (h : NamM w b n X) : b < w.heap.size := by obtain ⟨D, hm, _⟩ := h; exact hm.lt
theorem NamM.move (h : NamM w b n X) (hb : w'.heap[b]? = w.heap[b]?) : NamM w' b n X := by
 obtain ⟨D, ⟨es, clock, h1, h2⟩, hD⟩ := h
 exact ⟨D, ⟨es, clock, hb.trans h1, h2⟩, hD⟩
theorem NamM.congr (h : NamM w b n X) {Y : ByteArray → Bool} (e : ∀ s, X s = Y s) : NamM w b n Y := by rw [show Y = X from (funext e).symm]; exact h
theorem NamM.far (h : NamM w b n X) {a : Addr} {v : Value} (ha : w.cell? a = some v) : a.block ≠ b := by
 obtain ⟨D, ⟨es, clock, h1, _⟩, _⟩ := h
 intro e
 subst e
 simp [World.cell?, h1] at ha
theorem NamM.farB (h : NamM w b n X) {g : Nat} {e : TypeId} {cs : List Value} (hb : Blk w g e cs) : g ≠ b := by
 obtain ⟨D, ⟨es, clock, h1, _⟩, _⟩ := h
 rintro rfl
 unfold Blk at hb
 rw [h1] at hb
 cases hb
theorem NamM.made (w : World) : NamM (w.alloc (.map #[] 0)) w.heap.size 0 (fun _ => false) :=
 ⟨_, World.ownsMap_made w _ _ _, ⟨_, rfl⟩, fun s _ z => rfl, fun s _ => rfl⟩
end
theorem qij (l : List ByteArray) (hl : ∀ s ∈ l, s.size ≤ 274877906944) (b n : Nat) (X : ByteArray → Bool) (hn : n + l.length ≤ 1000000000000) (A : Option Addr) (c : Nat) (w : World) (hr : Kd.string.C w A l.length l) (hc : l.length ≤ c) (hm : NamM w b n X) :
  Calls Tryz.prog 61 #[.map (some b), .slice A l.length c] w fun e w' => e = .returned (.tuple #[]) ∧ NamM w' b (n + l.length) (qdk X l) ∧ w.grownBy w' (some b) := by
 have ⟨HR, HL, HM0⟩ := Wq hr hl hm
 clear hr hl hm
 go_enter Tryz.func61, Tryz.ntmps61
 go_wp2_with fail
 go_loopw [8] (fun s8 wr => ∃ k : Nat, k ≤ l.length ∧ s8 = .int .i64 k ∧ Hid (NamM wr b (n + k) (qdk X (l.take k))) ∧ Hid (w.grownBy wr (some b))) (fun s8 _ => l.length - (intOf s8).toNat)
 case atStart => exact ⟨0, Nat.zero_le _, rfl, Wd (by rw [List.take_zero, qog]; exact HM0.out), Wd ⟨rfl, rfl, rfl, Nat.le_refl _, fun _ _ _ => rfl⟩⟩
 case round =>
  obtain ⟨k, hk, rfl, HM, HG⟩ := hrel
  by_cases hlt : k < l.length
  ·obtain ⟨ad, rfl, g0'⟩ := Xy HR.out k hlt
   have g0 := HG.out.cell_far _ (World.block_lt_of_cell? w _ g0') (fun e => HM0.out.far g0' (by injection e)) |>.trans g0'
   have hsz : l[k].size ≤ maxLen := by have := HL.out _ (List.getElem_mem hlt); unfold maxLen; omega
   have hkey := Wd (Uj hsz)
   obtain ⟨D, hD0, hD1⟩ := HM.out
   have ⟨HD0, HD1, HSZ⟩ := Wq hD0 hD1 hsz
   clear hD0 hD1 g0' hsz
   go_wp2_with (at_mapUpdate; refine wpList_mapUpdate_own _ rfl _ _ _ 96 rfl 9 4 keyS Tryz.underlying96 _ b (n + k) D rfl HD0.out (by unfold maxLen; omega) _ (.bool true) _ rfl rfl hkey.out _ [] (plainElem_bool Tryz.underlying4 true) ?_)
   intro w1 hown1 hg1
   have HM1 := Wd (show NamM w1 b (n + (k + 1)) (qdk X (l.take (k + 1))) from ⟨_, hown1, by rw [Qf hlt, ← qiu]; exact HD1.out.put HSZ.out⟩)
   have HG1 := Wd (HG.out.trans hg1)
   clear hown1 hg1 g0 HD0 HD1
   exact f125
  ·exact f124
theorem qsk (av : List ByteArray) (hav : av.length ≤ 1000000000) (X : ByteArray → Bool) (hX : ∀ s, X s = decide (s ∈ av)) (s : ByteArray) (hs : s.size ≤ 1000000000000) (b n : Nat) (w : World) (hm : NamM w b n X) :
  Calls Tryz.prog 94 #[.string s, .map (some b)] w fun e w' => e = .returned (.string (Zt av s)) ∧ Below w.heap.size w w' := by
 have HM := Wd hm; have HX := Wd hX
 clear hm hX
 go_enter Tryz.func94, Tryz.ntmps94
 go_wp2_with fail
 go_loopw [0] (fun s0 wr => ∃ t : ByteArray, s0 = .string (t ++ ⟨#[39]⟩) ∧ Zt av t = Zt av s ∧ t.size + Ur av t.size ≤ s.size + av.length ∧ Hid (Below w.heap.size w wr)) (fun s0 _ => match s0 with | .string u => Ur av (u.size - 1) | _ => 0)
 case atStart => exact ⟨s, rfl, rfl, by have := Vo av s.size; omega, Wd (Below.refl _ _)⟩
 case round =>
  obtain ⟨t, rfl, he, hb, HB⟩ := hrel
  have hts := Kb t
  have hrun := (HM.out.move (HB.out.block b HM.out.lt)).look (s := t ++ ⟨#[39]⟩) (by unfold maxLen; omega)
  rw [HX.out] at hrun
  have HE := Wd he
  clear he
  by_cases hmm : t ++ ⟨#[39]⟩ ∈ av
  ·rw [decide_eq_true hmm] at hrun
   have hlt := qcf hmm hts
   have HF := Wd (show Zt av (t ++ ⟨#[39]⟩) = Zt av s from by rw [← HE.out, Hj av t, if_pos hmm])
   clear hmm
   go_wp2
   go_roundw
   case rel => exact ⟨t ++ ⟨#[39]⟩, rfl, HF.out, by rw [hts]; omega, HB⟩
   case measure => show Ur av ((t ++ ⟨#[39]⟩ ++ ⟨#[39]⟩).size - 1) < Ur av ((t ++ ⟨#[39]⟩).size - 1); rw [Kb (t ++ _), Nat.add_sub_cancel, hts, Nat.add_sub_cancel]; exact hlt
  ·rw [decide_eq_false hmm] at hrun
   have HF := Wd (show Zt av s = t ++ ⟨#[39]⟩ from by rw [← HE.out, Hj av t, if_neg hmm])
   clear hmm
   go_wp2
   go_ret
   exact ⟨by rw [HF.out]; rfl, HB.out⟩
theorem qql (l : List CoreT) (c : CoreT) : Qs (l ++ [c]) = Qs l ++ Zc c := by
 exact f110
theorem qqk (l : List AltT) (a : AltT) : Qv (l ++ [a]) = Qv l ++ (a.names ++ Zc a.body) := by
 induction l with
 | nil => cases a; simp [Qv, Um]
 | cons b r ih => simp only [List.cons_append, Qv, ih, List.append_assoc]
theorem qie : ∀ (l : List CoreT) (k : Nat), (Qs (l.take k)).length ≤ (Qs l).length
 | [], k => by simp
 | c :: r, 0 => by simp [Qs]
 | c :: r, k + 1 => by rw [List.take_succ_cons, Qs, Qs, List.length_append, List.length_append]; have := qie r k; omega
theorem qid : ∀ (l : List AltT) (k : Nat), (Qv (l.take k)).length ≤ (Qv l).length
 | [], k => by simp
 | c :: r, 0 => by simp [Qv]
 | c :: r, k + 1 => by rw [List.take_succ_cons, Qv, Qv, List.length_append, List.length_append]; have := qid r k; omega
theorem qdj (s : ByteArray) (hs : s.size ≤ 274877906944) (b bx n : Nat) (X : ByteArray → Bool) (hn : n ≤ 1000000000000) (w : World) (hb : Blk w bx 96 [.map (some b)]) (hm : NamM w b n X) :
  Calls Tryz.prog 76 #[.string s, .pointer (some ⟨bx, 0, none⟩)] w fun e w' => e = .returned (.tuple #[]) ∧ NamM w' b (n + 1) (qdk X [s]) ∧ w.grownBy w' (some b) := by
 have c0 := hb.cell (j := 0) rfl
 have hsz : s.size ≤ maxLen := by unfold maxLen; omega
 have hkey := Wd (Uj hsz)
 obtain ⟨D, hD0, hD1⟩ := hm
 have ⟨HD0, HD1, HSZ⟩ := Wq hD0 hD1 hsz
 clear hb hD0 hD1 hsz
 go_enter Tryz.func76, Tryz.ntmps76
 go_wp2_with (at_mapUpdate; refine wpList_mapUpdate_own _ rfl _ _ _ 96 rfl 9 4 keyS Tryz.underlying96 _ b n D rfl HD0.out (by unfold maxLen; omega) _ (.bool true) _ rfl rfl hkey.out _ [] (plainElem_bool Tryz.underlying4 true) ?_)
 intro w1 hown1 hg1
 have HM1 := Wd (show NamM w1 b (n + 1) (qdk X [s]) from ⟨_, hown1, HD1.out.put HSZ.out⟩)
 have HG1 := Wd hg1
 clear hown1 hg1 c0 HD0 HD1
 go_wp2
 go_end0
 exact ⟨rfl, HM1.out, HG1.out⟩
def qkd (x : CoreT) : Prop := bulk x ≤ 274877906944 → ∀ (S w : World) (p : Addr) (b bx n : Nat) (X : ByteArray → Bool), At S x p → Below S.heap.size S w → S.heap.size ≤ b → Blk w bx 96 [.map (some b)] → NamM w b n X → n + (Zc x).length ≤ 1000000000000 →
 Calls Tryz.prog 75 #[.pointer (some p), .func (.func 76) #[] #[.pointer (some ⟨bx, 0, none⟩)]] w fun e w' => e = .returned (.tuple #[]) ∧ NamM w' b (n + (Zc x).length) (qdk X (Zc x)) ∧ w.grownBy w' (some b)
structure En (S w : World) (b bx n : Nat) (X : ByteArray → Bool) (l : List ByteArray) (wr : World) : Prop where
 m : NamM wr b (n + l.length) (qdk X l)
 g : w.grownBy wr (some b)
 bl : Below S.heap.size S wr
 bx : Blk wr bx 96 [.map (some b)]
theorem En.next {S w : World} {b bx n : Nat} {X : ByteArray → Bool} {l m : List ByteArray} {wr w' : World} (h : En S w b bx n X l wr) (hS : S.heap.size ≤ b) (hm : NamM w' b (n + l.length + m.length) (qdk (qdk X l) m)) (hg : wr.grownBy w' (some b)) : En S w b bx n X (l ++ m) w' :=
 ⟨by rw [qiu] at hm; rw [List.length_append, ← Nat.add_assoc]; exact hm, h.g.trans hg, h.bl.grown hg h.bl.size (fun j hj => by injection hj with hj; omega), h.bx.grownO hg (fun e => h.m.farB h.bx (by injection e))⟩
theorem f55 {p : Prop} (h : p := by
 go_wp2
 go_meet
 case rel => exact ⟨by rw [HCF.out], rfl⟩) : p := h
theorem f72 {p : Prop} (h : p := by
 clear hm3 hg3 g0 hsz
 go_wp2
 go_roundw
 case rel => exact ⟨j + 1, by omega, by go_num, Wd (by have h := HI3.out; rw [List.append_assoc, ← HSN.out] at h; exact h)⟩
 case measure => simp [intOf]; omega) : p := h
theorem qkt (x : CoreT) (ihk : ∀ y ∈ x.kids, qkd y) (iha : ∀ a ∈ x.alts, qkd a.body) : qkd x := by
 intro hbk S w p b bx n X hat hB hS hbx hm hn
 obtain ⟨A3, c3, A4, c4, A5, c5, A6, c6, hK, q0, q1, -, -, q4, q5, q6⟩ := hat
 obtain ⟨_, _, _, _, _, _, _, _, he, l3, g3, l4, g4, l5, g5, l6, g6⟩ := Qk hK
 simp only [Qb, List.cons.injEq, Value.slice.injEq, true_and, and_true] at he
 obtain ⟨⟨rfl, rfl⟩, ⟨rfl, rfl⟩, ⟨rfl, rfl⟩, ⟨rfl, rfl⟩⟩ := he
 obtain ⟨n1, n2, n3, n4, n5⟩ := Qz hbk
 have ⟨HBK, HN, HS⟩ := Wq hbk hn hS
 have ⟨G4, G5, G6, L4⟩ := Wj g4 g5 g6 l4
 have ⟨Q0, Q1, Q4, Q5, Q6⟩ := Wz q0 q1 q4 q5 q6
 have IHK := Wd ihk; have IHA := Wd iha; clear ihk iha
 have HI := Wd (show En S w b bx n X [] w from ⟨by rw [qog]; exact hm, ⟨rfl, rfl, rfl, Nat.le_refl _, fun _ _ _ => rfl⟩, hB, hbx⟩)
 clear hK hbk hn hS hbx hm hB g3 g4 g5 g6 q0 q1 q4 q5 q6 l3 l6
 have HNS := Wd (show ∀ s ∈ x.names, s.size ≤ 274877906944 from fun s hs => by have h := HBK.out; rw [Qg] at h; have := Ka hs; omega)
 obtain ⟨hd, hhd⟩ : ∃ hd : List ByteArray, hd = (if x.name ≠ ⟨#[]⟩ ∧ (x.kind = 1 ∨ x.kind = 8) then [x.name] else []) := ⟨_, rfl⟩
 have HHD := Wd hhd
 obtain ⟨c, hc⟩ : ∃ c : Bool, c = decide (x.name ≠ ⟨#[]⟩ ∧ (x.kind = 1 ∨ x.kind = 8)) := ⟨_, rfl⟩
 have HC := Wd hc
 clear hhd hc
 go_enter Tryz.func75, Tryz.ntmps75
 go_upto_region 0 with (fail)
 go_cut [28] from 10 (fun s28 wr => s28 = .bool c ∧ wr = w)
 case first =>
  have q0 := Cl HI.out.bl Q0.out; have q1 := Cl HI.out.bl Q1.out
  by_cases hne : x.name = ⟨#[]⟩
  ·have HCF := Wd (show c = false from by rw [HC.out]; exact decide_eq_false (fun h => h.1 hne))
   rw [hne] at q1
   clear hne
   by_cases h1 : x.kind = 1
   ·have e1 : (x.kind == 1) = true := beq_iff_eq.2 h1
    clear h1
    exact f55
   ·have e1 : (x.kind == 1) = false := beq_eq_false_iff_ne.2 h1
    by_cases h8 : x.kind = 8
    ·have e8 : (x.kind == 8) = true := beq_iff_eq.2 h8
     clear h1 h8
     exact f55
    ·have e8 : (x.kind == 8) = false := beq_eq_false_iff_ne.2 h8
     clear h1 h8
     exact f55
  ·obtain ⟨qn1, qn2⟩ := Vc hne
   by_cases h1 : x.kind = 1
   ·have HCF := Wd (show c = true from by rw [HC.out]; exact decide_eq_true ⟨hne, .inl h1⟩)
    have e1 : (x.kind == 1) = true := beq_iff_eq.2 h1
    clear h1 hne
    exact f55
   ·have e1 : (x.kind == 1) = false := beq_eq_false_iff_ne.2 h1
    by_cases h8 : x.kind = 8
    ·have HCF := Wd (show c = true from by rw [HC.out]; exact decide_eq_true ⟨hne, .inr h8⟩)
     have e8 : (x.kind == 8) = true := beq_iff_eq.2 h8
     clear h1 h8 hne
     exact f55
    ·have HCF := Wd (show c = false from by rw [HC.out]; exact decide_eq_false (fun h => h.2.elim h1 h8))
     have e8 : (x.kind == 8) = false := beq_eq_false_iff_ne.2 h8
     clear h1 h8 hne
     exact f55
 case rest =>
  obtain ⟨rfl, hwc⟩ := hcut
  replace hwc := hwc.symm
  subst hwc
  go_upto_if 28 with (fail)
  go_cut [] from 10 (fun wr => Hid (En S w b bx n X hd wr))
  case first =>
   have q1 := Cl HI.out.bl Q1.out
   cases hcc : c
   ·have HH := Wd (show hd = [] from by rw [HHD.out]; rw [HC.out] at hcc; exact if_neg (of_decide_eq_false hcc))
    clear hcc
    go_wp2
    go_meet
    case rel => exact Wd (by rw [HH.out]; exact HI.out)
   ·have HH := Wd (show hd = [x.name] from by rw [HHD.out]; rw [HC.out] at hcc; exact if_pos (of_decide_eq_true hcc))
    clear hcc
    go_wp2_with fail
    refine (qdj x.name n1 b bx _ _ (by have h1 := HN.out; simp only [List.length_nil]; omega) _ HI.out.bx HI.out.m).mono ?_
    rintro en w3 ⟨rfl, hm3, hg3⟩
    have HI3 := Wd (HI.out.next (m := [x.name]) HS.out hm3 hg3)
    clear hm3 hg3 q1
    go_wp2
    go_meet
    case rel => exact Wd (by rw [HH.out]; have h := HI3.out; rwa [List.nil_append] at h)
  case rest =>
   clear HI
   have HI := hcut
   clear hcut
   have q4 := Cl HI.out.bl Q4.out
   go_wp2_with fail
   clear q4
   go_loopw [40] (fun s wr => ∃ j : Nat, j ≤ x.names.length ∧ s = .int .i64 j ∧ Hid (En S w b bx n X (hd ++ x.names.take j) wr)) (fun s _ => x.names.length - (intOf s).toNat)
   case atStart => exact ⟨0, Nat.zero_le _, rfl, Wd (by rw [List.take_zero, List.append_nil]; exact HI.out)⟩
   clear HI
   case round =>
    obtain ⟨j, hj, rfl, HI⟩ := hrel
    by_cases hlt : j < x.names.length
    ·obtain ⟨ac, rfl, g0'⟩ := Xy G4.out j hlt
     have g0 := Cl HI.out.bl g0'
     have hsz : x.names[j].size ≤ 274877906944 := HNS.out _ (List.getElem_mem hlt)
     have HSN := Wd (Qf hlt)
     clear g0'
     go_wp2_with fail
     refine (qdj x.names[j] hsz b bx _ _ (by have h1 := HN.out; rw [Vh] at h1; simp only [List.length_append, List.length_take] at h1 ⊢; have h3 := HHD.out; rw [← h3] at h1; omega) _ HI.out.bx HI.out.m).mono ?_
     rintro en w3 ⟨rfl, hm3, hg3⟩
     have HI3 := Wd (HI.out.next (m := [x.names[j]]) HS.out hm3 hg3)
     exact f72
    ·have hjj : j = x.names.length := by omega
     have h1 := HI.out
     rw [hjj, List.take_length] at h1
     have HI1 := Wd h1
     clear HI hjj h1
     have HBr := Wd HI1.out.bl
     have q5 := Cl HBr.out Q5.out
     go_wp2_with fail
     clear q5
     go_loopw [53] (fun s wr => ∃ k : Nat, k ≤ x.kids.length ∧ s = .int .i64 k ∧ Hid (En S w b bx n X (hd ++ x.names ++ Qs (x.kids.take k)) wr)) (fun s _ => x.kids.length - (intOf s).toNat)
     case atStart => exact ⟨0, Nat.zero_le _, rfl, Wd (by rw [List.take_zero, Qs, List.append_nil]; exact HI1.out)⟩
     clear HI1
     case round =>
      obtain ⟨k, hk, rfl, HI⟩ := hrel
      have HBr := Wd HI.out.bl
      have q5 := Cl HBr.out Q5.out
      by_cases hlt : k < x.kids.length
      ·obtain ⟨ad, rfl, hA⟩ := Ub G5.out k hlt
       have HA := Wd hA; clear hA
       have HTK := Wd (show Qs (x.kids.take (k + 1)) = Qs (x.kids.take k) ++ Zc x.kids[k] from by rw [Qf hlt, qql])
       have HTL := Wd (show (Qs (x.kids.take k)).length + (Zc x.kids[k]).length ≤ (Qs x.kids).length from by have h := qie x.kids (k + 1); rw [HTK.out] at h; simpa using h)
       have qk0 : (0 : Int) ≤ (k : Int) := by omega
       have qk1 : (k : Int) < x.kids.length := by omega
       go_wp2_with fail
       refine (IHK.out _ (List.getElem_mem hlt) (by have := Qx (List.getElem_mem hlt); have := HBK.out; rw [Qg] at this; omega) S wr _ b bx _ _ HA.out HI.out.bl HS.out HI.out.bx HI.out.m (by have h1 := HN.out; rw [Vh] at h1; simp only [List.length_append] at h1 ⊢; have h2 := HTL.out; have h3 := HHD.out; rw [← h3] at h1; omega)).mono ?_
       rintro en w3 ⟨rfl, hm3, hg3⟩
       have HI3 := Wd (HI.out.next (m := Zc x.kids[k]) HS.out hm3 hg3)
       clear hm3 hg3 q5
       go_wp2
       go_roundw
       case rel => exact ⟨k + 1, by omega, by go_num, Wd (by have h := HI3.out; rw [HTK.out]; simpa only [List.append_assoc] using h)⟩
       case measure => simp [intOf]; omega
      ·have hkk : k = x.kids.length := by omega
       have h1 := HI.out
       rw [hkk, List.take_length] at h1
       have HI1 := Wd h1
       clear HI hkk h1 q5 HBr
       have HBr := Wd HI1.out.bl
       have q6 := Cl HBr.out Q6.out
       go_wp2_with fail
       clear q6
       go_loopw [70] (fun s wr => ∃ k : Nat, k ≤ x.alts.length ∧ s = .int .i64 k ∧ Hid (En S w b bx n X (hd ++ x.names ++ Qs x.kids ++ Qv (x.alts.take k)) wr)) (fun s _ => x.alts.length - (intOf s).toNat)
       case atStart => exact ⟨0, Nat.zero_le _, rfl, Wd (by rw [List.take_zero, Qv, List.append_nil]; exact HI1.out)⟩
       clear HI1
       case round =>
        obtain ⟨k, hk, rfl, HI⟩ := hrel
        have HBr := Wd HI.out.bl
        have q6 := Cl HBr.out Q6.out
        by_cases hlt : k < x.alts.length
        ·obtain ⟨ae, A1, cc1, B3, d3, B4, d4, B5, d5, B6, d6, rfl, -, hK, hl1, hC1, -, g1, g2, g3, g4, g5, g6, g7, g8⟩ := Xn G6.out k hlt
         have HA2 := Wd (show At S x.alts[k].body ⟨(ae.add (k * 9)).block, (ae.add (k * 9)).off + 2, none⟩ from ⟨B3, d3, B4, d4, B5, d5, B6, d6, hK, g2, g3, g4, g5, g6, g7, g8⟩)
         have ⟨HE1, HC1, HL1⟩ := Wq g1 hC1 hl1
         clear g1 g2 g3 g4 g5 g6 g7 g8 hK hC1 hl1
         have e1 := Cl HBr.out HE1.out
         have HNS := Wd (show ∀ s ∈ x.alts[k].names, s.size ≤ 274877906944 from fun s hs => by have h := HBK.out; rw [Qg] at h; have h1 := Zu (List.getElem_mem hlt); rw [Zo] at h1; have := Ka hs; omega)
         have HTK := Wd (show Qv (x.alts.take (k + 1)) = Qv (x.alts.take k) ++ (x.alts[k].names ++ Zc x.alts[k].body) from by rw [Qf hlt, qqk])
         have HTL := Wd (show (Qv (x.alts.take k)).length + (x.alts[k].names.length + (Zc x.alts[k].body).length) ≤ (Qv x.alts).length from by have h := qid x.alts (k + 1); rw [HTK.out] at h; simpa using h)
         have hnl : x.alts[k].names.length ≤ 274877906944 := Vy HBK.out (List.getElem_mem hlt)
         have qk0 : (0 : Int) ≤ (k : Int) := by omega
         have qk1 : (k : Int) < x.alts.length := by omega
         go_wp2_with fail
         clear q6 e1 HBr
         go_loopw [82] (fun s wr => ∃ j : Nat, j ≤ x.alts[k].names.length ∧ s = .int .i64 j ∧ Hid (En S w b bx n X ((hd ++ x.names ++ Qs x.kids ++ Qv (x.alts.take k)) ++ x.alts[k].names.take j) wr)) (fun s _ => x.alts[k].names.length - (intOf s).toNat)
         case atStart => exact ⟨0, Nat.zero_le _, rfl, Wd (by rw [List.take_zero, List.append_nil]; exact HI.out)⟩
         clear HI
         case round =>
          obtain ⟨j, hj, rfl, HI⟩ := hrel
          by_cases hltn : j < x.alts[k].names.length
          ·obtain ⟨ac, rfl, g0'⟩ := Xy HC1.out j hltn
           have g0 := Cl HI.out.bl g0'
           have hsz : x.alts[k].names[j].size ≤ 274877906944 := HNS.out _ (List.getElem_mem hltn)
           have HSN := Wd (Qf hltn)
           clear g0'
           go_wp2_with fail
           refine (qdj x.alts[k].names[j] hsz b bx _ _ (by have h1 := HN.out; rw [Vh] at h1; simp only [List.length_append, List.length_take] at h1 ⊢; have h2 := HTL.out; have h3 := HHD.out; rw [← h3] at h1; omega) _ HI.out.bx HI.out.m).mono ?_
           rintro en w3 ⟨rfl, hm3, hg3⟩
           have HI3 := Wd (HI.out.next (m := [x.alts[k].names[j]]) HS.out hm3 hg3)
           exact f72
          ·have hjj : j = x.alts[k].names.length := by omega
           have h1 := HI.out
           rw [hjj, List.take_length] at h1
           have HI1 := Wd h1
           clear HI hjj h1
           have HBr := Wd HI1.out.bl
           have q6 := Cl HBr.out Q6.out
           go_wp2_with fail
           refine (IHA.out _ (List.getElem_mem hlt) (Vp HBK.out (List.getElem_mem hlt)) S wr _ b bx _ _ HA2.out HI1.out.bl HS.out HI1.out.bx HI1.out.m (by have h1 := HN.out; rw [Vh] at h1; simp only [List.length_append] at h1 ⊢; have h2 := HTL.out; have h3 := HHD.out; rw [← h3] at h1; omega)).mono ?_
           rintro en w4 ⟨rfl, hm4, hg4⟩
           have HI4 := Wd (HI1.out.next (m := Zc x.alts[k].body) HS.out hm4 hg4)
           clear hm4 hg4 q6
           go_wp2
           go_roundw
           case rel => exact ⟨k + 1, by omega, by go_num, Wd (by have h := HI4.out; rw [HTK.out]; simpa only [List.append_assoc] using h)⟩
           case measure => simp [intOf]; omega
        ·have hkk : k = x.alts.length := by omega
         have h1 := HI.out
         rw [hkk, List.take_length] at h1
         have HI1 := Wd h1
         clear HI hkk h1 q6
         have HF := Wd (show Zc x = hd ++ x.names ++ Qs x.kids ++ Qv x.alts from by rw [Vh, ← HHD.out]; simp only [List.append_assoc])
         go_wp2
         go_end0
         rw [HF.out]
         exact ⟨rfl, HI1.out.m, HI1.out.g⟩
theorem en_all (x : CoreT) : qkd x := Za qkd (fun x ihk iha => qkt x ihk iha) x
theorem qbq (x : CoreT) (hbk : bulk x ≤ 274877906944) (S w : World) (p : Addr) (b n : Nat) (X : ByteArray → Bool) (hat : At S x p) (hB : Below S.heap.size S w) (hS : S.heap.size ≤ b) (hm : NamM w b n X) (hn : n + (Zc x).length ≤ 1000000000000) :
  Calls Tryz.prog 60 #[.map (some b), .pointer (some p)] w fun e w' => e = .returned (.tuple #[]) ∧ NamM w' b (n + (Zc x).length) (qdk X (Zc x)) ∧ w.grownBy w' (some b) := by
 have ⟨HBK, HAT, HN, HS⟩ := Wj hbk hat hn hS
 obtain ⟨W1, hW1, hp1, hB1, hs1⟩ := boxed w [.map (some b)] 96
 have ⟨HM, HP1, HB1, HB⟩ := Wj (hm.move (hB1.block b hm.lt)) hp1 hB1 (hB.trans (hB1.mono hB.size))
 have HG := Wd (show w.grownBy W1 (some b) from ⟨hB1.os, hB1.tape, hB1.output, hB1.size, fun i hi _ => hB1.block i hi⟩)
 clear hbk hat hn hS hm hp1 hB1 hB hs1
 subst hW1
 go_enter Tryz.func60, Tryz.ntmps60
 go_wp2_with fail
 refine (en_all x HBK.out S _ p b w.heap.size n X HAT.out HB.out HS.out HP1.out HM.out HN.out).mono ?_
 rintro en w3 ⟨rfl, hm3, hg3⟩
 have HM3 := Wd hm3; have HG3 := Wd hg3
 clear hm3 hg3
 go_wp2
 go_end0
 exact ⟨rfl, HM3.out, HG.out.trans HG3.out⟩
end Go.Proofs.YtnoammmohdmnjaaGreat.C13
