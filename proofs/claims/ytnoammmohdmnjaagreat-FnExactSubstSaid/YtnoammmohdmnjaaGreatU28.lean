import Derived.Test.YtnoammmohdmnjaaGreatU27
set_option maxRecDepth 100000
set_option maxHeartbeats 16000000
set_option linter.unusedVariables false
set_option linter.unusedSimpArgs false
namespace Go.Proofs.YtnoammmohdmnjaaGreat.C13
open Go.RowKit Go.Proofs.YtnoammmohdmnjaaGreatW.PrintWords
set_option maxRecDepth 100000
open List renaming setIfInBounds_toArray → Jla, set_cons_zero → Jlb, set_cons_succ → Jlc
section
variable {ops : Array Oper} {o : Oper} {a : Act} {Q : Exit → Act → World → Prop}
theorem qcx {K : Act → World → Prop} {E : Prop} {w : World} (base : Nat) (hgd : o.guard = none) (sl x : Operand)
  (ho : o.op = .call { callee := .builtin .append, args := #[sl, x], argTypes := #[25, 25] }) (u : Value) (xs : List ByteArray) (hs : a.eval sl = u)
  (hown : w.ownsRow base 9 1 u xs.length (Xa xs)) (hbase : base ≤ w.heap.size) (A : Option Addr) (c : Nat) (l : List ByteArray) (hx : a.eval x = .slice A l.length c) (hC : Kd.string.C w A l.length l) (hl : xs.length + l.length ≤ 549755813888)
  (k : ∀ v w', w'.ownsRow base 9 1 v (xs ++ l).length (Xa (xs ++ l)) → w.grownBy w' u.ownBlock → (v.ownBlock = u.ownBlock ∨ ∃ b', v.ownBlock = some b' ∧ w.heap.size ≤ b') → K (a.put o.dst v) w') : if Region.wanted o (yielded ops a.tmps) = true then Oper.wp Tryz.prog o a w K Q else E := by
 have hw : Region.wanted o (yielded ops a.tmps) = true := by simp [Region.wanted, hgd]
 rw [if_pos hw]
 have := Kd.R_append_rows_step (P := Tryz.prog) (ops := ops) (Q := Q) (Kc := K) (d := Kd.string) (w0 := w) base hw sl x 25 9 (.string ⟨#[]⟩) 16 ho Tryz.underlying25 qsv rfl (by decide) (by omega) _ xs l A l.length c (fun _ => True) (fun _ => False) hs hx
  (Kd.R_of_own hown (fun _ _ => trivial)) hC (fun x cs h => h) (fun _ h => h.elim) (fun _ _ => trivial) (Below.refl _ _) hbase (by omega)
  (fun v1 w1 hr _ hg hat => k v1 w1 (qff hr) hg hat)
 rwa [if_pos hw] at this
end
section
variable {ops : Array Oper} {Q : Exit → Act → World → Prop} {S : World → Prop} {ds : List Nat}
theorem qby {rest : List Oper} {o : Oper} {a : Act} {w : World} (base : Nat) (hgd : o.guard = none) {sl x : Operand}
  (ho : o.op = .call { callee := .builtin .append, args := #[sl, x], argTypes := #[25, 25] }) {u : Value} {xs : List ByteArray} (hs : a.eval sl = u)
  (hown : w.ownsRow base 9 1 u xs.length (Xa xs)) (hbase : base ≤ w.heap.size) {A : Option Addr} {c : Nat} {l : List ByteArray} (hx : a.eval x = .slice A l.length c) (hC : Kd.string.C w A l.length l) (hl : xs.length + l.length ≤ 549755813888)
  (h : ∀ v w', w'.ownsRow base 9 1 v (xs ++ l).length (Xa (xs ++ l)) → w.grownBy w' u.ownBlock → (v.ownBlock = u.ownBlock ∨ ∃ b', v.ownBlock = some b' ∧ w.heap.size ≤ b') → wpList Tryz.prog ops Q rest (a.put o.dst v) w') : wpList Tryz.prog ops Q (o :: rest) a w := by
 refine wpList_plain hgd fun K hK => ?_
 have hw : Region.wanted o (yielded ops a.tmps) = true := by simp [Region.wanted, hgd]
 have := qcx (K := K) (Q := Q) (ops := ops) (E := True) base hgd sl x ho u xs hs hown hbase A c l hx hC hl (fun v w' h1 h2 h3 => hK _ _ (h v w' h1 h2 h3))
 rwa [if_pos hw] at this
theorem qww {w : World} {g : Nat} {s : ByteArray} (hb : Blk w g 9 [.string s]) : Kd.string.C w (some ⟨g, 0, none⟩) 1 [s] :=
 (Row.readsS (w := w) (v := .slice (some ⟨g, 0, none⟩) 1 1) (F := [g]) (l := [s]) (.inr ⟨g, 1, [], rfl, Nat.le_refl _, by omega, hb, rfl⟩)).elim fun A h => h.elim fun c h => by
  obtain ⟨e, _, h⟩ := h
  injection e with e1 e2 e3
  subst e1
  exact h
theorem Run.appS {t : Nat} {ts : List (Bool × Nat)} {a : Act} {w : World} {o : Oper} (N : Option Tmp) (base : Nat) (hi : ops[t]? = some o) (hN : o.dst = N) (hgd : o.guard = none) {sl x : Operand}
  (ho : o.op = .call { callee := .builtin .append, args := #[sl, x], argTypes := #[25, 25] }) {u : Value} {xs : List ByteArray} (hs : a.eval sl = u)
  (hown : w.ownsRow base 9 1 u xs.length (Xa xs)) (hbase : base ≤ w.heap.size) {A : Option Addr} {c : Nat} {l : List ByteArray} (hx : a.eval x = .slice A l.length c) (hC : Kd.string.C w A l.length l) (hl : xs.length + l.length ≤ 549755813888)
  (h : ∀ v w', w'.ownsRow base 9 1 v (xs ++ l).length (Xa (xs ++ l)) → w.grownBy w' u.ownBlock → (v.ownBlock = u.ownBlock ∨ ∃ b', v.ownBlock = some b' ∧ w.heap.size ≤ b') → (t ∉ ds → S w') ∧ Run Tryz.prog ops Q S ds ts (a.put N v) w') : Run Tryz.prog ops Q S ds ((false, t) :: ts) a w := by
 refine Run.step N hi hN fun K hK => ?_
 refine qcx base hgd sl x ho u xs hs hown hbase A c l hx hC hl fun v w' h1 h2 h3 => ?_
 obtain ⟨k1, k2⟩ := h v w' h1 h2 h3
 rw [hN]
 exact hK.out _ _ k1 k2
end
section
variable {ops : Array Oper} {Lo : Prop} {w0 : World} {Post : (Tmp → Value) → World → List Nat → Prop}
theorem Thr.appO {n i : Nat} {rest : List Nat} {a : Act} {w : World} {o : Oper} (N : Option Tmp) (hi : ops[i]? = some o) (hN : o.dst = N) (hB : rest.all (fun j => !qhf ops (i :: rest) j) = true) (hg : o.guard = none) (sl x : Operand)
  (ho : o.op = .call { callee := .builtin .append, args := #[sl, x], argTypes := #[25, 25] }) (u : Value) (xs : List ByteArray) (hs : a.eval sl = u) (hown : w.ownsRow w0.heap.size 9 1 u xs.length (Xa xs))
  (A : Option Addr) (c : Nat) (l : List ByteArray) (hx : a.eval x = .slice A l.length c) (hC : ∀ w', Below w0.heap.size w0 w' → Keep u.ownBlock.toList w w' → Kd.string.C w' A l.length l) (hl : xs.length + l.length ≤ 549755813888)
  (h : ∀ v w', w'.ownsRow w0.heap.size 9 1 v (xs ++ l).length (Xa (xs ++ l)) → Below w0.heap.size w0 w' → Thr Tryz.prog ops Lo w0 Post n rest (a.put N v) w' v.ownBlock.toList) : Thr Tryz.prog ops Lo w0 Post (n + 1) (i :: rest) a w u.ownBlock.toList := by
 refine Thr.step N hi hN hB fun w' hbl hk K hK => ?_
 have hown' := Xc hown hk.2
 have := qcx (K := K) (Q := NP Lo) (ops := ops) (E := K (a.put N undef) w') (w := w') (a := a) (o := o) w0.heap.size hg sl x ho u xs hs hown' hbl.size A c l hx (hC w' hbl hk) hl (fun v w3 ho3 hg3 hat => by
  have hr := Zk (by decide) ho3
  have hG : Guar u.ownBlock.toList w' w3 v.ownBlock.toList := by
   refine ⟨⟨hg3.os, hg3.tape, hg3.output, hg3.size, fun i hi hn => hg3.block i hi (fun e => hn (by rw [← e]; simp))⟩, fun k hk => ?_, hr.1.lt, hr.2.2⟩
   rcases hat with hat | ⟨b', hat, hb'⟩
   ·exact .inl (by rw [← hat]; exact hk)
   ·rw [hat] at hk
    simp at hk
    exact .inr (by omega)
  have hb3 := hG.below hbl (Zk (by decide) hown').2.1 (Nat.le_refl _)
  rw [hN]
  exact hK.out _ _ _ (Ji _ _ _) hb3 hG (h v w3 ho3 hb3))
 exact this
theorem Thr.appO2 {n i : Nat} {rest : List Nat} {a : Act} {w : World} {o : Oper} (N : Option Tmp) (hi : ops[i]? = some o) (hN : o.dst = N) (hB : rest.all (fun j => !qhf ops (i :: rest) j) = true) (hg : o.guard = none) (sl x : Operand)
  (ho : o.op = .call { callee := .builtin .append, args := #[sl, x], argTypes := #[25, 25] }) (u : Value) (F2 : List Nat) (xs : List ByteArray) (hs : a.eval sl = u) (hown : w.ownsRow w0.heap.size 9 1 u xs.length (Xa xs))
  (A : Option Addr) (c : Nat) (l : List ByteArray) (hx : a.eval x = .slice A l.length c) (hC : ∀ w', Below w0.heap.size w0 w' → Keep (u.ownBlock.toList ++ F2) w w' → Kd.string.C w' A l.length l) (hl : xs.length + l.length ≤ 549755813888)
  (h : ∀ v w', w'.ownsRow w0.heap.size 9 1 v (xs ++ l).length (Xa (xs ++ l)) → Below w0.heap.size w0 w' → Thr Tryz.prog ops Lo w0 Post n rest (a.put N v) w' v.ownBlock.toList) : Thr Tryz.prog ops Lo w0 Post (n + 1) (i :: rest) a w (u.ownBlock.toList ++ F2) := by
 refine Thr.step N hi hN hB fun w' hbl hk K hK => ?_
 have hown' := Xc hown hk.left.2
 have := qcx (K := K) (Q := NP Lo) (ops := ops) (E := K (a.put N undef) w') (w := w') (a := a) (o := o) w0.heap.size hg sl x ho u xs hs hown' hbl.size A c l hx (hC w' hbl hk) hl (fun v w3 ho3 hg3 hat => by
  have hr := Zk (by decide) ho3
  have hG : Guar (u.ownBlock.toList ++ F2) w' w3 v.ownBlock.toList := by
   refine ⟨⟨hg3.os, hg3.tape, hg3.output, hg3.size, fun i hi hn => hg3.block i hi (fun e => hn (by rw [← e]; simp))⟩, fun k hk => ?_, hr.1.lt, hr.2.2⟩
   rcases hat with hat | ⟨b', hat, hb'⟩
   ·exact .inl (List.mem_append_left _ (by rw [← hat]; exact hk))
   ·rw [hat] at hk
    simp at hk
    exact .inr (by omega)
  have hb3 : Below w0.heap.size w0 w3 := hbl.trans (Below.mono ⟨hg3.os, hg3.tape, hg3.output, hg3.size, fun i hi => hg3.block i (Nat.lt_of_lt_of_le hi hbl.size) (fun e => by have := (Zk (by decide) hown').2.1 i (by rw [← e]; simp); omega)⟩ (Nat.le_refl _))
  rw [hN]
  exact hK.out _ _ _ (Ji _ _ _) hb3 hG (h v w3 ho3 hb3))
 exact this
end
structure Grow (S w : World) (v : Value) (w' : World) (v' : Value) (l : List ByteArray) : Prop where
 own : Kd.R Kd.string 9 w' S.heap.size (fun k => some k = v.ownBlock ∨ w.heap.size ≤ k) v' l
 gr : w.grownBy w' v.ownBlock
 bl : Below S.heap.size S w'
theorem Grow.refl {S w : World} {v : Value} {l : List ByteArray} (h : Kd.R Kd.string 9 w S.heap.size (fun _ => True) v l) (hB : Below S.heap.size S w) : Grow S w v w v l :=
 ⟨⟨fun k hk => .inl hk.symm, (Kd.R_mono (ok' := fun k => True) h (fun _ _ => trivial)).2.imp_ (fun _ _ hp => hp)⟩, ⟨rfl, rfl, rfl, Nat.le_refl _, fun _ _ _ => rfl⟩, hB⟩
theorem Grow.any {S w w' : World} {v v' : Value} {l : List ByteArray} (h : Grow S w v w' v' l) : Kd.R Kd.string 9 w' S.heap.size (fun _ => True) v' l := Kd.R_mono h.own (fun _ _ => trivial)
theorem Grow.trans {S w w1 w2 : World} {v v1 v2 : Value} {l l1 : List ByteArray} (h : Grow S w v w1 v1 l1) (k : Grow S w1 v1 w2 v2 l) : Grow S w v w2 v2 l := by
 refine ⟨Kd.R_mono k.own (fun b hb => ?_), ⟨k.gr.os.trans h.gr.os, k.gr.tape.trans h.gr.tape, k.gr.output.trans h.gr.output, Nat.le_trans h.gr.size k.gr.size, fun i hi hn => ?_⟩, k.bl⟩
 ·rcases hb with hb | hb
  ·exact h.own.1 b hb.symm
  ·exact .inr (Nat.le_trans h.gr.size hb)
 ·rw [k.gr.block i (Nat.lt_of_lt_of_le hi h.gr.size) (fun e => ?_), h.gr.block i hi hn]
  rcases h.own.1 i e.symm with h1 | h1
  ·exact hn h1
  ·omega
theorem Grow.blk {S w w' : World} {v v' : Value} {l : List ByteArray} (h : Grow S w v w' v' l) {g : Nat} {e : TypeId} {cs : List Value} (hb : Blk w g e cs) (hg : some g ≠ v.ownBlock) : Blk w' g e cs := hb.move (h.gr.block g hb.lt hg)
theorem Grow.ne {S w w' : World} {v v' : Value} {l : List ByteArray} (h : Grow S w v w' v' l) {g : Nat} (hn : some g ≠ v.ownBlock) (hl : g < w.heap.size) : some g ≠ v'.ownBlock := fun e => (h.own.1 g e.symm).elim hn (fun h => by omega)
theorem Grow.on {S w w1 w2 : World} {v v1 : Value} {l : List ByteArray} (h : Grow S w v w1 v1 l) (k : Below w1.heap.size w1 w2) : Grow S w v w2 v1 l :=
 ⟨Kd.R_below h.own k, ⟨k.os.trans h.gr.os, k.tape.trans h.gr.tape, k.output.trans h.gr.output, Nat.le_trans h.gr.size k.size, fun i hi hn => (k.block i (Nat.lt_of_lt_of_le hi h.gr.size)).trans (h.gr.block i hi hn)⟩, h.bl.trans (k.mono h.bl.size)⟩
theorem Grow.from {S w0 w w' : World} {v v' : Value} {l : List ByteArray} (hb : Below w0.heap.size w0 w) (h : Grow S w v w' v' l) : Grow S w0 v w' v' l :=
 ⟨Kd.R_mono h.own (fun b hb' => hb'.imp id (Nat.le_trans hb.size)), ⟨h.gr.os.trans hb.os, h.gr.tape.trans hb.tape, h.gr.output.trans hb.output, Nat.le_trans hb.size h.gr.size, fun i hi hn => (h.gr.block i (Nat.lt_of_lt_of_le hi hb.size) hn).trans (hb.block i hi)⟩, h.bl⟩
def qiq (S w : World) (v : Value) (l : List ByteArray) (e : Ending) (w' : World) : Prop := ∃ v', e = .returned v' ∧ Grow S w v w' v' l
theorem qax {W w w' : World} (h : Below W.heap.size W w) {r : Option Nat} (hg : w.grownBy w' r) (hr : ∀ k ∈ r.toList, W.heap.size ≤ k) : Below W.heap.size W w' :=
 Below.grown h hg h.size (fun k hk => hr k (by rw [hk]; simp))
theorem qbc (S w : World) (v : Value) (out : List ByteArray) (s : ByteArray) (hl : out.length ≤ 274877906944) (hr : Kd.R Kd.string 9 w S.heap.size (fun _ => True) v out) (hB : Below S.heap.size S w) :
  Calls Tryz.prog 88 #[v, .string s] w (qiq S w v (Xx out s)) := by
 have ho := qff hr
 obtain ⟨A, c, rfl, hc, hC⟩ := (Zk (by decide) ho).1.readsS
 have ⟨HR, HO, HC, HB, HL⟩ := Wz hr ho hC hB hl
 clear hr ho hC hB hl
 go_enter Tryz.func88, Tryz.ntmps88
 go_wp2_with fail
 refine (Jj out s HL.out A c w HC.out hc).mono ?_
 rintro e w2 ⟨rfl, hb2⟩
 have HB2 := Wd hb2; clear hb2
 by_cases hm : s ∈ out
 ·rw [decide_eq_true hm]
  have HM := Wd (show Xx out s = out from if_pos hm); clear hm
  go_wp2
  go_ret
  rw [HM.out]
  exact ⟨_, rfl, (Grow.refl HR.out HB.out).on HB2.out⟩
 ·rw [decide_eq_false hm]
  have HM := Wd (show Xx out s = out ++ [s] from if_neg hm); clear hm
  go_wp2_with (refine Yx _ s (by rfl) ?_)
  intro w3 hb3 hB3 hs3
  have HB3 := Wd (Qa HB2.out hB3)
  have HO3 := Wd (Xc HO.out (fun k hk => HB3.out.block k ((Zk (by decide) HO.out).1.lt k hk)))
  have H3 := Wd hb3
  clear hb3 hB3 hs3
  go_wp2_with (refine qby S.heap.size rfl (by rfl) (by rfl) HO3.out (Nat.le_trans HB.out.size HB3.out.size) (l := [s]) (by rfl) (qww H3.out) (by have := HL.out; simp only [List.length_singleton]; omega) ?_)
  intro v4 w4 ho4 hg4 hat4
  have HG := Wd (show Grow S w (.slice A out.length c) w4 v4 (Xx out s) from by
   rw [HM.out]
   refine ⟨Kd.R_of_own (xs := out ++ [s]) (show w4.ownsRow S.heap.size 9 1 v4 (out ++ [s]).length (Xa (out ++ [s])) from by rw [List.length_append]; exact ho4) (fun k hk => hat4.elim (fun h => .inl (by rw [← h]; exact hk.symm)) (fun ⟨b', h1, h2⟩ => .inr (by rw [h1] at hk; injection hk with hk; have := HB3.out.size; omega))), ⟨hg4.os.trans HB3.out.os, hg4.tape.trans HB3.out.tape, hg4.output.trans HB3.out.output, Nat.le_trans HB3.out.size hg4.size, fun i hi hn => (hg4.block i (Nat.lt_of_lt_of_le hi HB3.out.size) hn).trans (HB3.out.block i hi)⟩, ?_⟩
   exact qax (Qa HB.out HB3.out) hg4 (Zk (by decide) HO3.out).2.1)
  clear ho4 hg4 hat4
  go_wp2
  go_ret
  exact ⟨_, rfl, HG.out⟩
theorem f110 {p : Prop} (h : p := by
 induction l with
 | nil => simp [Qs]
 | cons a r ih => simp only [List.cons_append, Qs, ih, List.append_assoc]) : p := h
theorem qei (l : List CoreT) (c : CoreT) : Qs (l ++ [c]) = Qs l ++ Zc c := by
 exact f110
theorem qeg (l : List AltT) (a : AltT) : Qv (l ++ [a]) = Qv l ++ Um a := by
 induction l with
 | nil => simp [Qv]
 | cons b r ih => simp only [List.cons_append, Qv, ih, List.append_assoc]
theorem qej : ∀ (l : List CoreT) (k : Nat), (Qs (l.take k)).length ≤ (Qs l).length
 | [], k => by simp
 | a :: r, 0 => by simp [Qs]
 | a :: r, k + 1 => by rw [List.take_succ_cons, Qs, Qs, List.length_append, List.length_append]; have := qej r k; omega
theorem qeh : ∀ (l : List AltT) (k : Nat), (Qv (l.take k)).length ≤ (Qv l).length
 | [], k => by simp
 | a :: r, 0 => by simp [Qv]
 | a :: r, k + 1 => by rw [List.take_succ_cons, Qv, Qv, List.length_append, List.length_append]; have := qeh r k; omega
def Xo (x : CoreT) : List ByteArray := if x.name ≠ ⟨#[]⟩ ∧ (x.kind = 1 ∨ x.kind = 8) then [x.name] else []
def qfk (x : CoreT) : Prop := bulk x ≤ 274877906944 → ∀ (S w : World) (cs : List Value) (v : Value) (out : List ByteArray), out.length + (Zc x).length ≤ 1000000000 → IC.K S x cs → Below S.heap.size S w → Kd.R Kd.string 9 w S.heap.size (fun _ => True) v out →
 Calls Tryz.prog 70 #[.agg cs.toArray, v] w (qiq S w v ((Zc x).foldl Xx out))
theorem qqg (x : CoreT) (ihk : ∀ y ∈ x.kids, qfk y) (iha : ∀ a ∈ x.alts, qfk a.body) : qfk x := by
 intro hbk S w cs v out hlen hK hB hown
 obtain ⟨A3, c3, A4, c4, A5, c5, A6, c6, rfl, l3, g3, l4, g4, l5, g5, l6, g6⟩ := Qk hK
 obtain ⟨b1, b2, b3, b4, b5⟩ := Qz hbk
 have HBK := Wd hbk
 have IHK := Wd ihk; have IHA := Wd iha; clear ihk iha
 have ⟨G4, G5, G6⟩ := Wq g4 g5 g6; clear g3 g4 g5 g6 hK hbk
 rw [Vh, List.length_append, List.length_append, List.length_append] at hlen
 have HLEN := Wd (show out.length + ((Xo x).length + (x.names.length + ((Qs x.kids).length + (Qv x.alts).length))) ≤ 1000000000 from hlen)
 clear hlen
 simp only [Qb]
 obtain ⟨W1, hW1, hp1, hB1, hs1⟩ := Wy w x A3 c3 A4 c4 A5 c5 A6 c6 35
 have HG0 := Wd (Grow.refl hown hB)
 have HNE := Wd (show some w.heap.size ≠ v.ownBlock from fun e => by have := Kd.R_lt hown _ e.symm; omega)
 have ⟨HB1, HBW, BP1⟩ := Wq (hB.trans (hB1.mono hB.size)) hB1 hp1
 have HG1 := Wd (Grow.refl (Kd.R_below hown hB1) HB1.out)
 clear hs1 hB1 hB hown
 have HLT := Wd hp1.lt
 subst hW1
 have p0 := hp1.cell (j := 0) rfl; have p1 := hp1.cell (j := 1) rfl
 clear hp1
 refine Or.elim (show (x.name = ⟨#[]⟩) ∨ (x.name ≠ ⟨#[]⟩ ∧ x.kind = 1) ∨ (x.name ≠ ⟨#[]⟩ ∧ x.kind = 8) ∨ (x.name ≠ ⟨#[]⟩ ∧ x.kind ≠ 1 ∧ x.kind ≠ 8) from by
  by_cases h : x.name = ⟨#[]⟩
  ·exact .inl h
  ·simp only [h, ne_eq, not_false_eq_true, true_and, false_or]; omega) ?ca (fun h => h.elim ?cb (fun h => h.elim ?cc ?cd))
 case' ca =>
  intro hn
  have q1 : x.name.toList.isEmpty = true := by rw [hn, empty_toList]; rfl
  have q2 : x.name.toList = [] ↔ True := by rw [hn, empty_toList]; simp
  have HF := Wd (show Xo x = [] from if_neg (fun h => h.1 hn))
  clear hn
 case' cb =>
  rintro ⟨hn, hk⟩
  have ⟨q1, q2⟩ := Vc hn
  have e1 : (x.kind == 1) = true := beq_iff_eq.2 hk
  have HF := Wd (show Xo x = [x.name] from if_pos ⟨hn, .inl hk⟩)
  clear hn hk
 case' cc =>
  rintro ⟨hn, hk⟩
  have ⟨q1, q2⟩ := Vc hn
  have e1 : (x.kind == 1) = false := beq_eq_false_iff_ne.2 (by omega)
  have e8 : (x.kind == 8) = true := beq_iff_eq.2 hk
  have HF := Wd (show Xo x = [x.name] from if_pos ⟨hn, .inr hk⟩)
  clear hn hk
 case' cd =>
  rintro ⟨hn, hk, hk'⟩
  have ⟨q1, q2⟩ := Vc hn
  have e1 : (x.kind == 1) = false := beq_eq_false_iff_ne.2 hk
  have e8 : (x.kind == 8) = false := beq_eq_false_iff_ne.2 hk'
  have HF := Wd (show Xo x = [] from if_neg (fun h => by have := h.2; omega))
  clear hn hk hk'
 all_goals
  go_enter Tryz.func70, Tryz.ntmps70
  go_wp2_with fail
  first
   | (
    refine (qbc S _ v out x.name (by have := HLEN.out; omega) HG1.out.any HB1.out).mono ?_
    rintro e W2 ⟨v2, rfl, hg2⟩
    have HG := Wd (show Grow S _ v W2 v2 ((Xo x).foldl Xx out) from by rw [HF.out]; exact HG1.out.trans hg2)
    have BP := Wd (hg2.blk BP1.out HNE.out)
    clear hg2 p0 p1
    have p4 := BP.out.cell (j := 4) rfl
    go_wp2_with fail
    clear p4)
   | (
    obtain ⟨W2, hW2⟩ : ∃ W2, W2 = w.alloc (.cells #[.int .i64 x.kind, .string x.name, .bool x.minus, .slice A3 x.limbs.length c3, .slice A4 x.names.length c4, .slice A5 x.kids.length c5, .slice A6 x.alts.length c6] 35) := ⟨_, rfl⟩
    obtain ⟨v2, hv2⟩ : ∃ v2, v2 = v := ⟨_, rfl⟩
    have HG := Wd (show Grow S _ v W2 v2 ((Xo x).foldl Xx out) from by rw [HF.out, hW2, hv2]; exact HG1.out)
    have BP := BP1
    rw [← hW2] at BP ⊢
    rw [← hv2]
    clear hW2 hv2 p0 p1)
  obtain ⟨W1, hW1⟩ : ∃ W1, W1 = w.alloc (.cells #[.int .i64 x.kind, .string x.name, .bool x.minus, .slice A3 x.limbs.length c3, .slice A4 x.names.length c4, .slice A5 x.kids.length c5, .slice A6 x.alts.length c6] 35) := ⟨_, rfl⟩
  rw [← hW1] at HG HBW HLT
  clear hW1 HG1 HB1 BP1
  have HLa := Wd (show ((Xo x).foldl Xx out).length ≤ out.length + (Xo x).length from Jx _ _)
  go_loopw [1, 5] (fun vv i wr => ∃ k : Nat, k ≤ x.names.length ∧ i = .int .i64 k ∧ Hid (Grow S W1 v wr vv ((x.names.take k).foldl Xx ((Xo x).foldl Xx out))) ∧ Hid (Blk wr w.heap.size 35 [.int .i64 x.kind, .string x.name, .bool x.minus, .slice A3 x.limbs.length c3, .slice A4 x.names.length c4, .slice A5 x.kids.length c5, .slice A6 x.alts.length c6])) (fun _ i _ => x.names.length - (intOf i).toNat)
  case atStart => exact ⟨0, Nat.zero_le _, rfl, by rw [List.take_zero]; exact HG, BP⟩
  case round =>
   obtain ⟨k, hk, rfl, HG, BP⟩ := hrel
   have p4 := BP.out.cell (j := 4) rfl
   by_cases hlt : k < x.names.length
   ·obtain ⟨ad, rfl, g0⟩ := Xy (Kd.C_below G4.out HG.out.bl) k hlt
    go_wp2_with fail
    refine (qbc S _ _ _ x.names[k] (by have := HLEN.out; have := HLa.out; have := Jx (x.names.take k) ((Xo x).foldl Xx out); rw [List.length_take] at this; omega) HG.out.any HG.out.bl).mono ?_
    rintro e w3 ⟨v3, rfl, hg3⟩
    have HG3 := Wd (show Grow S W1 v w3 v3 ((x.names.take (k + 1)).foldl Xx ((Xo x).foldl Xx out)) from by rw [Qf hlt, List.foldl_append]; exact HG.out.trans hg3)
    have BP3 := Wd (hg3.blk BP.out (HG.out.ne HNE.out HLT.out))
    clear hg3 p4 g0
    go_wp2
    go_roundw
    case rel => exact ⟨k + 1, by omega, by go_num, HG3, BP3⟩
    case measure => simp [intOf]; omega
   ·have hkk : k = x.names.length := by omega
    have hg := HG.out
    rw [hkk, List.take_length] at hg
    have HG2 := Wd hg; clear hg hkk HG
    have HLb := Wd (show (x.names.foldl Xx ((Xo x).foldl Xx out)).length ≤ out.length + (Xo x).length + x.names.length from by have := HLa.out; have := Jx x.names ((Xo x).foldl Xx out); omega)
    have P5 := BP.out.cell (j := 5) rfl
    go_wp2_with fail
    clear p4 P5
    go_loopw [1, 6] (fun vv i wr => ∃ k : Nat, k ≤ x.kids.length ∧ i = .int .i64 k ∧ Hid (Grow S W1 v wr vv ((Qs (x.kids.take k)).foldl Xx (x.names.foldl Xx ((Xo x).foldl Xx out)))) ∧ Hid (Blk wr w.heap.size 35 [.int .i64 x.kind, .string x.name, .bool x.minus, .slice A3 x.limbs.length c3, .slice A4 x.names.length c4, .slice A5 x.kids.length c5, .slice A6 x.alts.length c6])) (fun _ i _ => x.kids.length - (intOf i).toNat)
    case atStart => exact ⟨0, Nat.zero_le _, rfl, by rw [List.take_zero, Qs]; exact HG2, BP⟩
    case round =>
     obtain ⟨k, hk, rfl, HG, BP⟩ := hrel
     have p5 := BP.out.cell (j := 5) rfl
     by_cases hlt : k < x.kids.length
     ·obtain ⟨ad, A3', c3', A4', c4', B5, d5, B6, d6, rfl, hK, g0, g1, g2, g3, g4, g5, g6⟩ := Kp G5.out HG.out.bl k hlt
      have HKL := Wd (show (Qs (x.kids.take k)).length + (Zc x.kids[k]).length ≤ (Qs x.kids).length from by have := qej x.kids (k + 1); rw [Qf hlt, qei, List.length_append] at this; exact this)
      go_wp2_with fail
      refine (IHK.out _ (List.getElem_mem hlt) (by have := Qx (List.getElem_mem hlt); have := HBK.out; rw [Qg] at this; omega) S _ _ _ _ (by have := HLEN.out; have := HLb.out; have := Jx (Qs (x.kids.take k)) (x.names.foldl Xx ((Xo x).foldl Xx out)); have := HKL.out; omega) hK HG.out.bl HG.out.any).mono ?_
      rintro e w3 ⟨v3, rfl, hg3⟩
      have HG3 := Wd (show Grow S W1 v w3 v3 ((Qs (x.kids.take (k + 1))).foldl Xx (x.names.foldl Xx ((Xo x).foldl Xx out))) from by rw [Qf hlt, qei, List.foldl_append]; exact HG.out.trans hg3)
      have BP3 := Wd (hg3.blk BP.out (HG.out.ne HNE.out HLT.out))
      clear hg3 p5 g0 g1 g2 g3 g4 g5 g6 hK
      go_wp2
      go_roundw
      case rel => exact ⟨k + 1, by omega, by go_num, HG3, BP3⟩
      case measure => simp [intOf]; omega
     ·have hkk : k = x.kids.length := by omega
      have hg := HG.out
      rw [hkk, List.take_length] at hg
      have HG2 := Wd hg; clear hg hkk HG
      have HLc := Wd (show ((Qs x.kids).foldl Xx (x.names.foldl Xx ((Xo x).foldl Xx out))).length ≤ out.length + (Xo x).length + x.names.length + (Qs x.kids).length from by have := HLb.out; have := Jx (Qs x.kids) (x.names.foldl Xx ((Xo x).foldl Xx out)); omega)
      have P6 := BP.out.cell (j := 6) rfl
      go_wp2_with fail
      clear p5 P6
      go_loopw [1, 7] (fun vv i wr => ∃ k : Nat, k ≤ x.alts.length ∧ i = .int .i64 k ∧ Hid (Grow S W1 v wr vv ((Qv (x.alts.take k)).foldl Xx ((Qs x.kids).foldl Xx (x.names.foldl Xx ((Xo x).foldl Xx out))))) ∧ Hid (Blk wr w.heap.size 35 [.int .i64 x.kind, .string x.name, .bool x.minus, .slice A3 x.limbs.length c3, .slice A4 x.names.length c4, .slice A5 x.kids.length c5, .slice A6 x.alts.length c6])) (fun _ i _ => x.alts.length - (intOf i).toNat)
      case atStart => exact ⟨0, Nat.zero_le _, rfl, by rw [List.take_zero, Qv]; exact HG2, BP⟩
      case round =>
       obtain ⟨k, hk, rfl, HG, BP⟩ := hrel
       have p6 := BP.out.cell (j := 6) rfl
       by_cases hlt2 : k < x.alts.length
       ·obtain ⟨ad, A1, c1, A3', c3', A4', c4', B5, d5, B6, d6, rfl, _, hK, hl1, hC1, g0, g1, g2, g3, g4, g5, g6, g7, g8⟩ := Xn G6.out k hlt2
        have hnl : x.alts[k].names.length ≤ 274877906944 := Vy HBK.out (List.getElem_mem hlt2)
        have HAL := Wd (show (Qv (x.alts.take k)).length + (x.alts[k].names.length + (Zc x.alts[k].body).length) ≤ (Qv x.alts).length from by have := qeh x.alts (k + 1); rw [Qf hlt2, qeg, qak, List.length_append, List.length_append] at this; exact this)
        have ⟨HK, HC1, Q⟩ := Wq hK hC1 (show _ ∧ _ ∧ _ ∧ _ ∧ _ ∧ _ ∧ _ ∧ _ from ⟨g1, g2, g3, g4, g5, g6, g7, g8⟩)
        clear hK hC1 g0 g1 g2 g3 g4 g5 g6 g7 g8
        have HM := Wd (show ((Qv (x.alts.take k)).foldl Xx ((Qs x.kids).foldl Xx (x.names.foldl Xx ((Xo x).foldl Xx out)))).length ≤ out.length + (Xo x).length + x.names.length + (Qs x.kids).length + (Qv (x.alts.take k)).length from by have := HLc.out; have := Jx (Qv (x.alts.take k)) ((Qs x.kids).foldl Xx (x.names.foldl Xx ((Xo x).foldl Xx out))); omega)
        have g1 := Cl HG.out.bl Q.out.1
        go_wp2_with fail
        clear p6 g1
        go_loopw [1, 8] (fun vv i wr => ∃ m : Nat, m ≤ x.alts[k].names.length ∧ i = .int .i64 m ∧ Hid (Grow S W1 v wr vv ((x.alts[k].names.take m).foldl Xx ((Qv (x.alts.take k)).foldl Xx ((Qs x.kids).foldl Xx (x.names.foldl Xx ((Xo x).foldl Xx out)))))) ∧ Hid (Blk wr w.heap.size 35 [.int .i64 x.kind, .string x.name, .bool x.minus, .slice A3 x.limbs.length c3, .slice A4 x.names.length c4, .slice A5 x.kids.length c5, .slice (some ad) x.alts.length c6])) (fun _ i _ => x.alts[k].names.length - (intOf i).toNat)
        case atStart => exact ⟨0, Nat.zero_le _, rfl, by rw [List.take_zero]; exact HG, BP⟩
        case round =>
         obtain ⟨m, hm, rfl, HG, BP⟩ := hrel
         have p6 := BP.out.cell (j := 6) rfl
         have g1 := Cl HG.out.bl Q.out.1
         by_cases hlt3 : m < x.alts[k].names.length
         ·obtain ⟨ad2, rfl, g0⟩ := Xy (Kd.C_below HC1.out HG.out.bl) m hlt3
          go_wp2_with fail
          refine (qbc S _ _ _ x.alts[k].names[m] (by have := HLEN.out; have := HM.out; have := HAL.out; have := Jx (x.alts[k].names.take m) ((Qv (x.alts.take k)).foldl Xx ((Qs x.kids).foldl Xx (x.names.foldl Xx ((Xo x).foldl Xx out)))); rw [List.length_take] at this; omega) HG.out.any HG.out.bl).mono ?_
          rintro e w3 ⟨v3, rfl, hg3⟩
          have HG3 := Wd (show Grow S W1 v w3 v3 ((x.alts[k].names.take (m + 1)).foldl Xx ((Qv (x.alts.take k)).foldl Xx ((Qs x.kids).foldl Xx (x.names.foldl Xx ((Xo x).foldl Xx out))))) from by rw [Qf hlt3, List.foldl_append]; exact HG.out.trans hg3)
          have BP3 := Wd (hg3.blk BP.out (HG.out.ne HNE.out HLT.out))
          clear hg3 p6 g0 g1
          go_wp2
          go_roundw
          case rel => exact ⟨m + 1, by omega, by go_num, HG3, BP3⟩
          case measure => simp [intOf]; omega
         ·have hkk : m = x.alts[k].names.length := by omega
          have hg := HG.out
          rw [hkk, List.take_length] at hg
          have HG2 := Wd hg
          have ⟨g2, g3, g4, g5, g6, g7, g8⟩ := Cl7 hg.bl Q.out.2.1 Q.out.2.2.1 Q.out.2.2.2.1 Q.out.2.2.2.2.1 Q.out.2.2.2.2.2.1 Q.out.2.2.2.2.2.2.1 Q.out.2.2.2.2.2.2.2
          clear hg hkk HG
          go_wp2_with fail
          refine (IHA.out _ (List.getElem_mem hlt2) (by have := Zu (List.getElem_mem hlt2); rw [Zo] at this; have := HBK.out; rw [Qg] at this; omega) S _ _ _ _ (by have := HLEN.out; have := HM.out; have := HAL.out; have := Jx x.alts[k].names ((Qv (x.alts.take k)).foldl Xx ((Qs x.kids).foldl Xx (x.names.foldl Xx ((Xo x).foldl Xx out)))); omega) HK.out HG2.out.bl HG2.out.any).mono ?_
          rintro e w3 ⟨v3, rfl, hg3⟩
          have HG3 := Wd (show Grow S W1 v w3 v3 ((Qv (x.alts.take (k + 1))).foldl Xx ((Qs x.kids).foldl Xx (x.names.foldl Xx ((Xo x).foldl Xx out)))) from by rw [Qf hlt2, qeg, qak, List.foldl_append, List.foldl_append]; exact HG2.out.trans hg3)
          have BP3 := Wd (hg3.blk BP.out (HG2.out.ne HNE.out HLT.out))
          clear hg3 p6 g1 g2 g3 g4 g5 g6 g7 g8
          go_wp2
          go_roundw
          case rel => exact ⟨k + 1, by omega, by go_num, HG3, BP3⟩
          case measure => simp [intOf]; omega
       ·have hkk : k = x.alts.length := by omega
        have hg := HG.out
        rw [hkk, List.take_length] at hg
        have HG2 := Wd hg; clear hg hkk HG
        go_wp2
        go_ret
        refine ⟨_, rfl, ?_⟩
        rw [Vh, List.foldl_append, List.foldl_append, List.foldl_append]
        exact HG2.out.from HBW.out
theorem qzo (x : CoreT) : qfk x := Za qfk (fun c hk ha => qqg c hk ha) x
end Go.Proofs.YtnoammmohdmnjaaGreat.C13
