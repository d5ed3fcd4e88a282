import Derived.Test.YtnoammmohdmnjaaGreatU25
import Derived.Test.YtnoammmohdmnjaaGreatU26
set_option maxRecDepth 100000
set_option maxHeartbeats 16000000
set_option linter.unusedVariables false
set_option linter.unusedSimpArgs false
namespace Go.Proofs.YtnoammmohdmnjaaGreat.C13
open Go.RowKit Go.Proofs.YtnoammmohdmnjaaGreatW.PrintWords
open List renaming setIfInBounds_toArray → Jla, set_cons_zero → Jlb, set_cons_succ → Jlc
structure Look (S : World) (b fn : Nat) (caps : Array Value) (Q : List ByteArray → List Nat → World → Prop) : Prop where
 lt : ∀ l G w, Q l G w → ∀ i ∈ G, i < w.heap.size ∧ i ≠ b
 bl : ∀ l G w, Q l G w → Below S.heap.size S w
 keep : ∀ l G w w', Q l G w → (∀ i ∈ G, w'.heap[i]? = w.heap[i]?) → Below S.heap.size S w' → Q l G w'
 sb : S.heap.size ≤ b
 en : ∀ args w, (callFunc fn args).run Tryz.prog w = .ok (.enter fn args) w
 see : ∀ l G (y : CoreT) (p : Addr) w, Q l G w → l.length < 549755813888 → b < w.heap.size → At S y p → y.name.size ≤ 274877906944 → Calls Tryz.prog fn (#[.pointer (some p)] ++ caps) w fun e w' => e = .returned (.tuple #[]) ∧ ∃ G', Q (l ++ [y.name]) G' w' ∧ (∀ i ∈ G', i ∈ G ∨ w.heap.size ≤ i) ∧ But G w w'
structure Lk (L b : Nat) (Q : List ByteArray → List Nat → World → Prop) (G0 : List Nat) (w0 : World) (l : List ByteArray) (n : Nat) (H : ByteArray → Int) (wr : World) : Prop where
 ex : ∃ G, Q l G wr ∧ ∀ i ∈ G, i ∈ G0 ∨ L ≤ i
 cm : CountM wr b n H
 but : But (b :: G0) w0 wr
 ls : L ≤ wr.heap.size
 ll : l.length ≤ n
def LkPost (Q : List ByteArray → List Nat → World → Prop) (b : Nat) (l : List ByteArray) (G : List Nat) (n : Nat) (H : ByteArray → Int) (w : World) (e : Ending) (w' : World) : Prop := e = .returned (.tuple #[]) ∧ Lk w.heap.size b Q G w l n H w'
def Ya (x : CoreT) : Prop := Vn x → bulk x ≤ 274877906944 → ∀ (S w : World) (p : Addr) (b n fn : Nat) (caps : Array Value) (Q : List ByteArray → List Nat → World → Prop) (H : ByteArray → Int) (bd l : List ByteArray) (G : List Nat),
 Look S b fn caps Q → At S x p → (∀ s, s ∈ bd ↔ H s ≠ 0) → CountM w b n H → n + 2 * bulk x ≤ 549755813888 → Q l G w → l.length ≤ n →
 Calls Tryz.prog 26 #[.pointer (some p), .map (some b), .func (.func fn) #[] caps] w (LkPost Q b (l ++ fvs bd x) G (n + 2 * bulk x) H w)
section
variable {S w w0 wr : World} {L b fn n : Nat} {caps : Array Value} {Q : List ByteArray → List Nat → World → Prop} {G0 G : List Nat} {l : List ByteArray} {H : ByteArray → Int}
theorem Lk.bl (h : Lk L b Q G0 w0 l n H wr) (hQ : Look S b fn caps Q) : Below S.heap.size S wr := by obtain ⟨G, h1, _⟩ := h.ex; exact hQ.bl _ _ _ h1
theorem Lk.start (hQ : Look S b fn caps Q) (hq : Q l G w) (hm : CountM w b n H) (hl : l.length ≤ n) : Lk w.heap.size b Q G w l n H w := ⟨⟨G, hq, fun i hi => .inl hi⟩, hm, But.refl _ _, Nat.le_refl _, hl⟩
theorem Lk.mono {n' : Nat} (h : Lk L b Q G0 w0 l n H wr) (hn : n ≤ n') : Lk L b Q G0 w0 l n' H wr := ⟨h.ex, h.cm.mono hn, h.but, h.ls, Nat.le_trans h.ll hn⟩
theorem Lk.map (h : Lk L b Q G0 w0 l n H wr) (hQ : Look S b fn caps Q) {n' : Nat} {H' : ByteArray → Int} {w' : World} (hg : wr.grownBy w' (some b)) (hm : CountM w' b n' H') (hn : n ≤ n') : Lk L b Q G0 w0 l n' H' w' := by
 obtain ⟨G, h1, h2⟩ := h.ex
 refine ⟨⟨G, hQ.keep _ _ _ _ h1 (fun i hi => hg.block i (hQ.lt _ _ _ h1 i hi).1 (fun e => (hQ.lt _ _ _ h1 i hi).2 (by injection e))) ?_, h2⟩, hm, h.but.trans ((But.of_grown hg).mono (by simp)), Nat.le_trans h.ls hg.size, Nat.le_trans h.ll hn⟩
 exact (hQ.bl _ _ _ h1).grown hg (by have := h.cm.lt; have := (hQ.bl _ _ _ h1).size; omega) (fun j hj => by injection hj with hj; have := hQ.sb; omega)
theorem Lk.below (h : Lk L b Q G0 w0 l n H wr) (hQ : Look S b fn caps Q) {w' : World} (hb : Below wr.heap.size wr w') : Lk L b Q G0 w0 l n H w' := by
 obtain ⟨G, h1, h2⟩ := h.ex
 exact ⟨⟨G, hQ.keep _ _ _ _ h1 (fun i hi => hb.block i (hQ.lt _ _ _ h1 i hi).1) ((hQ.bl _ _ _ h1).trans (hb.mono (hQ.bl _ _ _ h1).size)), h2⟩, h.cm.move (hb.block b h.cm.lt), h.but.trans (But.of_below hb), Nat.le_trans h.ls hb.size, h.ll⟩
theorem Lk.from {w1 : World} (hl : w0.heap.size ≤ L) (h : Lk L b Q G0 w0 l n H w1) {l' : List ByteArray} {n' : Nat} {H' : ByteArray → Int} {G1 : List Nat} (hG : ∀ i ∈ G1, i ∈ G0 ∨ L ≤ i) (k : Lk w1.heap.size b Q G1 w1 l' n' H' wr) : Lk L b Q G0 w0 l' n' H' wr := by
 obtain ⟨G, h1, h2⟩ := k.ex
 refine ⟨⟨G, h1, fun i hi => (h2 i hi).elim (hG i) (fun h' => .inr (Nat.le_trans h.ls h'))⟩, k.cm, ⟨k.but.os.trans h.but.os, k.but.tape.trans h.but.tape, k.but.output.trans h.but.output, Nat.le_trans h.but.size k.but.size, fun i hi hn => ?_⟩, Nat.le_trans h.ls k.ls, k.ll⟩
 rw [k.but.block i (Nat.lt_of_lt_of_le hi h.but.size) (fun hh => ?_), h.but.block i hi hn]
 rcases List.mem_cons.1 hh with e | e
 ·exact hn (by simp [e])
 ·exact (hG i e).elim (fun h' => hn (by simp [h'])) (fun h' => by omega)
theorem Lk.blk (h : Lk L b Q G0 w0 l n H wr) {g : Nat} {e : TypeId} {cs : List Value} (hb : Blk w0 g e cs) (hg : g ∉ b :: G0) : Blk wr g e cs := h.but.blk hb hg
end
theorem qjg {bd : List ByteArray} {H : ByteArray → Int} (hb : ∀ s, s ∈ bd ↔ H s ≠ 0) (h0 : ∀ s, 0 ≤ H s) (l : List ByteArray) : ∀ s, s ∈ bd ++ l ↔ Xh H 1 l s ≠ 0 := fun s => by
 have e : Xh H 1 l s = H s + (nIn l s : Int) := by simp [Xh]
 have hp := qnc (l := l) (s := s)
 have := h0 s
 rw [List.mem_append, hb s, e, ← hp]
 omega
theorem zae (x : CoreT) (hk : x.kind = 1) : Ya x := by
 intro hsh hbk S w p b n fn caps Q H bd l G hQ hat hbd hm hn hq hll
 have HLL := Wd hll
 clear hll
 have AT := Wd hat
 obtain ⟨A3, c3, A4, c4, A5, c5, A6, c6, hK, q0, q1, -, -, q4, q5, q6⟩ := hat
 obtain ⟨_, _, _, _, _, _, _, _, he, l3, g3, l4, g4, l5, g5, l6, g6⟩ := Qk hK
 simp only [Qb, List.cons.injEq, Value.slice.injEq, true_and, and_true] at he
 obtain ⟨⟨rfl, rfl⟩, ⟨rfl, rfl⟩, ⟨rfl, rfl⟩, ⟨rfl, rfl⟩⟩ := he
 obtain ⟨n1, n2, n3, n4, n5⟩ := Qz hbk
 rw [Kn] at hsh
 obtain ⟨hs1, hs2, hs3⟩ := hsh
 have ⟨HSH, HKS, HLS⟩ := Wq hs1 (Js.1 hs2) (Jr.1 hs3)
 have ⟨HBK, HN, HM, HQ, HBD, HQ0⟩ := Wx hbk hn hm hQ hbd hq
 have ⟨G4, G5, G6, L4⟩ := Wj g4 g5 g6 l4
 have ⟨Q0, Q1, Q4, Q5, Q6⟩ := Wz q0 q1 q4 q5 q6
 clear hK hs1 hs2 hs3 hbk hn hm hQ hbd hq g3 g4 g5 g6 q0 q1 q4 q5 q6 l3 l6
 have HB0 := Wd (HQ.out.bl _ _ _ HQ0.out)
 have hrun := HM.out.look (s := x.name) (by unfold maxLen; omega)
 have q0 := Cl HB0.out Q0.out; have q1 := Cl HB0.out Q1.out
 rw [hk] at q0
 have HBP := Wd (show 0 < bulk x from by have h := HSH.out.1 hk; rw [Qg]; omega)
 have HK := Wd hk; clear hk
 by_cases hc : H x.name = 0
 ·have HC := Wd hc
  rw [hc] at hrun
  clear hc
  go_enter_defers Tryz.func26, Tryz.ntmps26
  go_wp2_with fail
  rw [HQ.out.en]
  go_wp2_with fail
  refine (HQ.out.see l G x p w HQ0.out (by have h1 := HLL.out; have h2 := HN.out; have h3 := HBP.out; omega) HM.out.lt AT.out (by omega)).mono ?_
  rintro en w3 ⟨rfl, G', h1, h2, h3⟩
  have ⟨H1, H2, H3⟩ := Wq h1 h2 h3
  clear h1 h2 h3 q0 q1 hrun
  go_wp2
  refine ⟨_, results_none rfl _ _ _, rfl, ?_⟩
  have hf : fvs bd x = [x.name] := by rw [Uu, if_pos HK.out, if_neg (fun h => (HBD.out x.name).1 h HC.out)]
  rw [hf]
  exact ⟨⟨G', H1.out, H2.out⟩, (HM.out.move (H3.out.block b HM.out.lt (fun h => (HQ.out.lt _ _ _ HQ0.out b h).2 rfl))).mono (by omega), H3.out.mono (by intro k hk; simp [hk]), H3.out.size, by rw [List.length_append]; have h1 := HLL.out; have h3 := HBP.out; simp only [List.length_singleton]; omega⟩
 ·have HC := Wd hc
  have hc1 : (H x.name == 0) = false := beq_eq_false_iff_ne.2 hc
  go_enter_defers Tryz.func26, Tryz.ntmps26
  go_wp2
  refine ⟨_, results_none rfl _ _ _, rfl, ?_⟩
  have hf : fvs bd x = [] := by rw [Uu, if_pos HK.out, if_pos ((HBD.out x.name).2 HC.out)]
  rw [hf, List.append_nil]
  exact (Lk.start HQ.out HQ0.out HM.out HLL.out).mono (by omega)
theorem f118 {p : Prop} (h : p := by
 rintro en w3 ⟨rfl, h3⟩
 have HI3 := Wd (Lk.from (Nat.le_refl _) HI.out HGI.out h3)
 clear h3 hqi hgi q5
 go_wp2
 go_roundw
 case rel => exact ⟨k + 1, by omega, by go_num, Wd (by
  have h := HI3.out
  rw [Qf hlt, Vw, ← Qf hlt]
  simp only [List.append_assoc] at h ⊢
  exact h.mono (by have := HLE.out; omega))⟩
 case measure => simp [intOf]; omega) : p := h
theorem f9 {p : Prop} (h : p := by
 intro hsh hbk S w p b n fn caps Q H bd l G hQ hat hbd hm hn hq hll
 have HLL := Wd hll
 clear hll
 have AT := Wd hat
 obtain ⟨A3, c3, A4, c4, A5, c5, A6, c6, hK, q0, q1, -, -, q4, q5, q6⟩ := hat
 obtain ⟨_, _, _, _, _, _, _, _, he, l3, g3, l4, g4, l5, g5, l6, g6⟩ := Qk hK
 simp only [Qb, List.cons.injEq, Value.slice.injEq, true_and, and_true] at he
 obtain ⟨⟨rfl, rfl⟩, ⟨rfl, rfl⟩, ⟨rfl, rfl⟩, ⟨rfl, rfl⟩⟩ := he
 obtain ⟨n1, n2, n3, n4, n5⟩ := Qz hbk
 rw [Kn] at hsh
 obtain ⟨hs1, hs2, hs3⟩ := hsh
 have ⟨HSH, HKS, HLS⟩ := Wq hs1 (Js.1 hs2) (Jr.1 hs3)
 have ⟨HBK, HN, HM, HQ, HBD, HQ0⟩ := Wx hbk hn hm hQ hbd hq
 have ⟨G4, G5, G6, L4⟩ := Wj g4 g5 g6 l4
 have ⟨Q0, Q1, Q4, Q5, Q6⟩ := Wz q0 q1 q4 q5 q6
 clear hK hs1 hs2 hs3 hbk hn hm hQ hbd hq g3 g4 g5 g6 q0 q1 q4 q5 q6 l3 l6
 have HB0 := Wd (HQ.out.bl _ _ _ HQ0.out)
 have HK := Wd hk
 have IHK := Wd ihk; clear ihk
 have HNM := Wd (show ∀ s ∈ x.names, s.size ≤ 274877906944 from fun s hs => by have h := HBK.out; rw [Qg] at h; have := Ka hs; omega)
 have HBD1 := Wd (qjg HBD.out (fun s => (HM.out.2 s).1) x.names)
 have ⟨q0, q4, q5⟩ := Cl3 HB0.out Q0.out Q4.out Q5.out
 rw [hk] at q0
 clear hk
 go_enter_defers Tryz.func26, Tryz.ntmps26
 go_wp2_with fail
 refine (Yw x.names HNM.out 1 (by omega) b n H (by have := HN.out; rw [Qg] at this; have := Qn x.names; omega) (fun s => by have h0 := (HM.out.2 s).1; exact ⟨by omega, fun k => by omega⟩) A4 c4 _ (Kd.C_below G4.out HB0.out) L4.out HM.out).mono ?_
 rintro en w1 ⟨rfl, hm1, hg1⟩
 have HI0 := Wd (show Lk w.heap.size b Q G w (l ++ Zf (bd ++ x.names) (x.kids.take 0)) (n + x.names.length + 2 * Qo (x.kids.take 0)) (Xh H 1 x.names) w1 from by
  have h := (Lk.start HQ.out HQ0.out HM.out HLL.out).map HQ.out hg1 hm1 (by omega)
  simpa [Zf, Qo] using h)
 clear hm1 hg1 q0 q4 q5
 have HB1 := Wd (HI0.out.bl HQ.out)
 have ⟨q0, q4, q5⟩ := Cl3 HB1.out Q0.out Q4.out Q5.out
 rw [HK.out] at q0
 go_wp2_with fail
 clear q0 q4
 clear q5
 go_loopw [131] (fun s wr => ∃ k : Nat, k ≤ x.kids.length ∧ s = .int .i64 k ∧ Hid (Lk w.heap.size b Q G w (l ++ Zf (bd ++ x.names) (x.kids.take k)) (n + x.names.length + 2 * Qo (x.kids.take k)) (Xh H 1 x.names) wr)) (fun s _ => x.kids.length - (intOf s).toNat)
 case atStart => exact ⟨0, Nat.zero_le _, rfl, HI0⟩
 clear HI0
 case round =>
  obtain ⟨k, hk, rfl, HI⟩ := hrel
  have HBr := Wd (HI.out.bl HQ.out)
  have q5 := Cl HBr.out Q5.out
  by_cases hlt : k < x.kids.length
  ·obtain ⟨ad, rfl, hA⟩ := Ub G5.out k hlt
   have HA := Wd hA; clear hA
   have qk0 : (0 : Int) ≤ (k : Int) := by omega
   have qk1 : (k : Int) < x.kids.length := by omega
   have HLE := Wd (show Qo (x.kids.take (k + 1)) = Qo (x.kids.take k) + (1 + bulk x.kids[k]) ∧ Qo (x.kids.take (k + 1)) ≤ Qo x.kids from ⟨Xp _ _ hlt, Zq _ _⟩)
   obtain ⟨Gi, hqi, hgi⟩ := HI.out.ex
   have HGI := Wd hgi
   go_wp2_with fail
   refine (IHK.out _ (List.getElem_mem hlt) (HKS.out _ (List.getElem_mem hlt)) (by have := Qx (List.getElem_mem hlt); have := HBK.out; rw [Qg] at this; omega) S wr _ b (n + x.names.length + 2 * Qo (x.kids.take k)) fn caps Q (Xh H 1 x.names) (bd ++ x.names) _ Gi HQ.out HA.out HBD1.out HI.out.cm (by have h1 := HN.out; rw [Qg] at h1; have := HLE.out; have := Qn x.names; omega) hqi HI.out.ll).mono ?_
   exact f118
  ·have hkk : k = x.kids.length := by omega
   have h1 := HI.out
   rw [hkk, List.take_length] at h1
   have HI1 := Wd h1
   clear HI hkk h1
   go_wp2_with fail
   clear q5
   refine leaves_cons (f := 57) (args := #[.map (some b), .int .i64 (-1), .slice A4 x.names.length c4]) (by simp) (by simp [go_sem]) ?_
   refine (Yg x.names HNM.out (-1) (by omega) b _ (Xh H 1 x.names) (by have := HN.out; rw [Qg] at this; have := Qn x.names; omega) (fun s => by have h0 := (HM.out.2 s).1; have h1 := Vb x.names s; simp only [Xh]; exact ⟨by omega, fun k => by have := h1 k; omega⟩) A4 c4 .returning wr (Kd.C_below G4.out HBr.out) L4.out HI1.out.cm).mono ?_
   rintro en u' w3 ⟨rfl, rfl, hm3, hg3⟩
   have h3 := HI1.out.map HQ.out hg3 hm3 (by omega)
   rw [Vf] at h3
   refine ⟨_, results_none rfl _ _ _, rfl, ?_⟩
   have hf : fvs bd x = Zf (bd ++ x.names) x.kids := by
    have hk := HK.out
    rw [Uu, if_neg (by omega), if_pos (by omega)]
   rw [hf]
   exact h3.mono (by rw [Qg]; have := Qn x.names; omega)) : p := h
theorem qsm (x : CoreT) (hk : x.kind = 6) (ihk : ∀ y ∈ x.kids, Ya y) : Ya x := by
 exact f9
theorem qsn (x : CoreT) (hk : x.kind = 7) (ihk : ∀ y ∈ x.kids, Ya y) : Ya x := by
 exact f9
theorem qsq (x : CoreT) (hk1 : x.kind ≠ 1) (hk6 : x.kind ≠ 6) (hk7 : x.kind ≠ 7) (hk8 : x.kind ≠ 8) (ihk : ∀ y ∈ x.kids, Ya y) : Ya x := by
 intro hsh hbk S w p b n fn caps Q H bd l G hQ hat hbd hm hn hq hll
 have HLL := Wd hll
 clear hll
 have AT := Wd hat
 obtain ⟨A3, c3, A4, c4, A5, c5, A6, c6, hK, q0, q1, -, -, q4, q5, q6⟩ := hat
 obtain ⟨_, _, _, _, _, _, _, _, he, l3, g3, l4, g4, l5, g5, l6, g6⟩ := Qk hK
 simp only [Qb, List.cons.injEq, Value.slice.injEq, true_and, and_true] at he
 obtain ⟨⟨rfl, rfl⟩, ⟨rfl, rfl⟩, ⟨rfl, rfl⟩, ⟨rfl, rfl⟩⟩ := he
 obtain ⟨n1, n2, n3, n4, n5⟩ := Qz hbk
 rw [Kn] at hsh
 obtain ⟨hs1, hs2, hs3⟩ := hsh
 have ⟨HSH, HKS, HLS⟩ := Wq hs1 (Js.1 hs2) (Jr.1 hs3)
 have ⟨HBK, HN, HM, HQ, HBD, HQ0⟩ := Wx hbk hn hm hQ hbd hq
 have ⟨G4, G5, G6, L4⟩ := Wj g4 g5 g6 l4
 have ⟨Q0, Q1, Q4, Q5, Q6⟩ := Wz q0 q1 q4 q5 q6
 clear hK hs1 hs2 hs3 hbk hn hm hQ hbd hq g3 g4 g5 g6 q0 q1 q4 q5 q6 l3 l6
 have HB0 := Wd (HQ.out.bl _ _ _ HQ0.out)
 have HK := Wd (show x.kind ≠ 1 ∧ x.kind ≠ 6 ∧ x.kind ≠ 7 ∧ x.kind ≠ 8 from ⟨hk1, hk6, hk7, hk8⟩)
 have e1 : (x.kind == 1) = false := beq_eq_false_iff_ne.2 hk1
 have e6 : (x.kind == 6) = false := beq_eq_false_iff_ne.2 hk6
 have e7 : (x.kind == 7) = false := beq_eq_false_iff_ne.2 hk7
 have e8 : (x.kind == 8) = false := beq_eq_false_iff_ne.2 hk8
 have IHK := Wd ihk
 have HBD1 := HBD
 clear hk1 hk6 hk7 hk8 ihk
 have q0 := Cl HB0.out Q0.out; have q5 := Cl HB0.out Q5.out
 go_enter_defers Tryz.func26, Tryz.ntmps26
 have HI0 := Wd (show Lk w.heap.size b Q G w (l ++ Zf bd (x.kids.take 0)) (n + 2 * Qo (x.kids.take 0)) H w from by
  have h := Lk.start HQ.out HQ0.out HM.out HLL.out
  simpa [Zf, Qo] using h)
 go_wp2_with fail
 clear q0
 clear q5
 go_loopw [131] (fun s wr => ∃ k : Nat, k ≤ x.kids.length ∧ s = .int .i64 k ∧ Hid (Lk w.heap.size b Q G w (l ++ Zf (bd) (x.kids.take k)) (n + 2 * Qo (x.kids.take k)) (H) wr)) (fun s _ => x.kids.length - (intOf s).toNat)
 case atStart => exact ⟨0, Nat.zero_le _, rfl, HI0⟩
 clear HI0
 case round =>
  obtain ⟨k, hk, rfl, HI⟩ := hrel
  have HBr := Wd (HI.out.bl HQ.out)
  have q5 := Cl HBr.out Q5.out
  by_cases hlt : k < x.kids.length
  ·obtain ⟨ad, rfl, hA⟩ := Ub G5.out k hlt
   have HA := Wd hA; clear hA
   have qk0 : (0 : Int) ≤ (k : Int) := by omega
   have qk1 : (k : Int) < x.kids.length := by omega
   have HLE := Wd (show Qo (x.kids.take (k + 1)) = Qo (x.kids.take k) + (1 + bulk x.kids[k]) ∧ Qo (x.kids.take (k + 1)) ≤ Qo x.kids from ⟨Xp _ _ hlt, Zq _ _⟩)
   obtain ⟨Gi, hqi, hgi⟩ := HI.out.ex
   have HGI := Wd hgi
   go_wp2_with fail
   refine (IHK.out _ (List.getElem_mem hlt) (HKS.out _ (List.getElem_mem hlt)) (by have := Qx (List.getElem_mem hlt); have := HBK.out; rw [Qg] at this; omega) S wr _ b (n + 2 * Qo (x.kids.take k)) fn caps Q (H) (bd) _ Gi HQ.out HA.out HBD1.out HI.out.cm (by have h1 := HN.out; rw [Qg] at h1; have := HLE.out; have := Qn x.names; omega) hqi HI.out.ll).mono ?_
   exact f118
  ·have hkk : k = x.kids.length := by omega
   have h1 := HI.out
   rw [hkk, List.take_length] at h1
   have HI1 := Wd h1
   clear HI hkk h1
   go_wp2_with fail
   clear q5
   refine ⟨_, results_none rfl _ _ _, rfl, ?_⟩
   have hf : fvs bd x = Zf bd x.kids := by rw [Uu, if_neg HK.out.1, if_neg (by have := HK.out; omega), if_neg HK.out.2.2.2]
   rw [hf]
   exact HI1.out.mono (by rw [Qg]; omega)
theorem f20 {p : Prop} (h : p := by
 have hjj : j + 1 = x.kids.length := by omega
 have h3 := HI.out
 rw [hjj, List.take_length] at h3
 have H3 := Wd h3; clear h3 HI hjj
 go_wp2_with fail
 clear q5
 refine leaves_cons (f := 57) (args := #[.map (some b), .int .i64 (-1), .slice (some ⟨nb, 0, none⟩) 1 1]) (by simp) (by simp [go_sem]) ?_
 refine (Yg [x.name] HNM1.out (-1) (by omega) b _ (Xh H 1 [x.name]) (by have h1 := HN.out; rw [Qg] at h1; have h2 := Xd HNM.out; simp only [List.length_singleton]; omega) (fun s => by have h0 := (HM.out.2 s).1; have h1 := Vb [x.name] s; simp only [Xh]; exact ⟨by omega, fun k => by have := h1 k; omega⟩) (some ⟨nb, 0, none⟩) 1 .returning wr (qdr (H3.out.blk HNB.out HNF.out)) (Nat.le_refl _) H3.out.cm).mono ?_
 rintro en u' w9 ⟨rfl, rfl, hm9, hg9⟩
 have h3 := H3.out.map HQ.out hg9 hm9 (by omega)
 rw [Vf] at h3
 refine ⟨_, results_none rfl _ _ _, rfl, ?_⟩
 have hf : l ++ fvs bd x = l ++ Zf bd (x.kids.take 1) ++ Xu (bd ++ [x.name]) x.alts ++ Zf (bd ++ [x.name]) (x.kids.drop 1) := by
  have hk := HK.out
  rw [Uu, if_neg (by omega), if_neg (by omega), if_pos hk, Uf, Ug, inn, if_neg HNM.out]
  simp only [List.append_assoc]
 rw [hf]
 exact (Lk.from (Nat.le_refl _) HIB.out HGB.out h3).mono (by rw [Qg]; have h2 := Xd HNM.out; simp only [List.length_singleton]; omega)) : p := h
theorem f29 {p : Prop} (h : p := by
 have h := HI1.out
 rw [show (x.kids.take (0 + 1)).drop 1 = [] from List.drop_eq_nil_of_le (by simp; omega), Zf, List.append_nil]
 exact h.mono (by simp only [Nat.zero_add]; omega)) : p := h
theorem f31 {p : Prop} (h : p := by
 rintro en w7 ⟨rfl, h7⟩
 have HI7 := Wd (Lk.from (Nat.le_refl _) HI.out HGI.out h7)
 clear q5 h7 hqi hgi hzk hmz HI
 go_wp2
 go_roundw
 case rel => exact ⟨j + 1, by omega, by go_num, Wd (by
  have h := HI7.out
  rw [show (x.kids.take (j + 1 + 1)).drop 1 = (x.kids.take (j + 1)).drop 1 ++ [zk] from by rw [Qf hlt, List.drop_append_of_le_length (by simp; omega), HZK.out], Vw]
  simp only [List.append_assoc] at h ⊢
  exact h.mono (by have := HLK.out; omega))⟩
 case measure => simp [intOf]; omega) : p := h
theorem f33 {p : Prop} (h : p := by
 rintro en w6 ⟨rfl, hm6, hg6⟩
 have h6 := HI5.out.map HQ.out hg6 hm6 (by omega)
 rw [Vf] at h6
 have HI6 := Wd h6
 clear hm6 hg6 q6 e1 h6 HI5 HI
 go_wp2
 go_roundw
 case rel => exact ⟨k + 1, by omega, by go_num, Wd (by
  have h := HI6.out
  rw [Qf hlt, qdo, ← Qf hlt]
  simp only [List.append_assoc] at h ⊢
  exact h.mono (by have h3 := HAB.out; have h5 := Qn x.alts[k].names; omega))⟩
 case measure => simp [intOf]; omega) : p := h
theorem f94 {p : Prop} (h : p := by
 have h := h1
 rw [show fvs bd x.kids[0] = Zf bd (x.kids.take 1) from by rw [Qf hkl]; simp [Zf]] at h
 exact h.mono (by have := HLE.out; omega)) : p := h
theorem qso (x : CoreT) (hk : x.kind = 8) (hnm : x.name ≠ ⟨#[]⟩) (ihk : ∀ y ∈ x.kids, Ya y) (iha : ∀ a ∈ x.alts, Ya a.body) : Ya x := by
 intro hsh hbk S w p b n fn caps Q H bd l G hQ hat hbd hm hn hq hll
 have HLL := Wd hll
 clear hll
 have AT := Wd hat
 obtain ⟨A3, c3, A4, c4, A5, c5, A6, c6, hK, q0, q1, -, -, q4, q5, q6⟩ := hat
 obtain ⟨_, _, _, _, _, _, _, _, he, l3, g3, l4, g4, l5, g5, l6, g6⟩ := Qk hK
 simp only [Qb, List.cons.injEq, Value.slice.injEq, true_and, and_true] at he
 obtain ⟨⟨rfl, rfl⟩, ⟨rfl, rfl⟩, ⟨rfl, rfl⟩, ⟨rfl, rfl⟩⟩ := he
 obtain ⟨n1, n2, n3, n4, n5⟩ := Qz hbk
 rw [Kn] at hsh
 obtain ⟨hs1, hs2, hs3⟩ := hsh
 have ⟨HSH, HKS, HLS⟩ := Wq hs1 (Js.1 hs2) (Jr.1 hs3)
 have ⟨HBK, HN, HM, HQ, HBD, HQ0⟩ := Wx hbk hn hm hQ hbd hq
 have ⟨G4, G5, G6, L4⟩ := Wj g4 g5 g6 l4
 have ⟨Q0, Q1, Q4, Q5, Q6⟩ := Wz q0 q1 q4 q5 q6
 clear hK hs1 hs2 hs3 hbk hn hm hQ hbd hq g3 g4 g5 g6 q0 q1 q4 q5 q6 l3 l6
 have HB0 := Wd (HQ.out.bl _ _ _ HQ0.out)
 have HK := Wd hk
 have IHK := Wd ihk; have IHA := Wd iha; clear ihk iha
 have hkl : 0 < x.kids.length := by have h := HSH.out; unfold qit at h; omega
 have q0 := Cl HB0.out Q0.out; have q5 := Cl HB0.out Q5.out
 rw [hk] at q0
 clear hk
 obtain ⟨qn1, qn2⟩ := Vc hnm
 have HNM := Wd hnm; clear hnm
 have HBD1 := Wd (show ∀ s, s ∈ bd ++ [x.name] ↔ Xh H 1 [x.name] s ≠ 0 from qjg HBD.out (fun s => (HM.out.2 s).1) [x.name])
 go_enter_defers Tryz.func26, Tryz.ntmps26
 obtain ⟨ad, rfl, hA⟩ := Ub G5.out 0 hkl
 have HA := Wd hA; clear hA
 have qk1 : (0 : Int) < x.kids.length := by omega
 have HLE := Wd (show Qo (x.kids.take 1) = Qo (x.kids.take 0) + (1 + bulk x.kids[0]) ∧ Qo (x.kids.take 1) ≤ Qo x.kids from ⟨Xp _ _ hkl, Zq _ _⟩)
 go_wp2_with fail
 refine (IHK.out _ (List.getElem_mem hkl) (HKS.out _ (List.getElem_mem hkl)) (by have := Qx (List.getElem_mem hkl); have := HBK.out; rw [Qg] at this; omega) S w _ b n fn caps Q H bd l G HQ.out HA.out HBD.out HM.out (by have h1 := HN.out; rw [Qg] at h1; have := HLE.out; omega) HQ0.out HLL.out).mono ?_
 rintro en w1 ⟨rfl, h1⟩
 have HI1 := Wd (show Lk w.heap.size b Q G w (l ++ Zf bd (x.kids.take 1)) (n + 2 * Qo (x.kids.take 1)) H w1 from by
  exact f94)
 clear h1 q0 q5
 have HB1 := Wd (HI1.out.bl HQ.out)
 have q1 := Cl HB1.out Q1.out
 go_wp2_with (refine Yx _ x.name (by rfl) ?_)
 intro w2 hnb hal hsz2
 have HI2 := Wd (HI1.out.below HQ.out hal)
 have hnm1 : ∀ s ∈ [x.name], s.size ≤ 274877906944 := fun s hs => by rw [List.mem_singleton.1 hs]; exact n1
 have HNM1 := Wd hnm1; have HNB1 := Wd hnb
 clear hnm1 hnb hal hsz2 q1
 go_wp2_with fail
 refine (Yw [x.name] HNM1.out 1 (by omega) b _ H (by have h1 := HN.out; have h2 := HLE.out; rw [Qg] at h1; have := Xd HNM.out; simp only [List.length_singleton]; omega) (fun s => by have h0 := (HM.out.2 s).1; exact ⟨by omega, fun k => by omega⟩) (some ⟨w1.heap.size, 0, none⟩) 1 _ (qdr HNB1.out) (Nat.le_refl _) HI2.out.cm).mono ?_
 rintro en w3 ⟨rfl, hm3, hg3⟩
 have HI3 := Wd (HI2.out.map HQ.out hg3 hm3 (by omega))
 clear HI1 HI2 hm3 hg3 HNB1
 have HB3 := Wd (HI3.out.bl HQ.out)
 have q1 := Cl HB3.out Q1.out
 go_wp2_with (refine Yx _ x.name (by rfl) ?_)
 intro wb hnb hal hszb
 have HIB := Wd (show Lk w.heap.size b Q G w (l ++ Zf bd (x.kids.take 1)) (n + 2 * Qo (x.kids.take 1) + 1) (Xh H 1 [x.name]) wb from (HI3.out.below HQ.out hal).mono (by simp only [List.length_singleton]; omega))
 obtain ⟨Gb, hqb, hgb⟩ := HI3.out.ex
 have HGB := Wd hgb
 have hqb' := hqb
 have hl3 := HQ.out.lt _ _ _ hqb
 have HL0 := Wd (Lk.start HQ.out (HQ.out.keep _ _ _ _ hqb (fun i hi => hal.block i (hl3 i hi).1) (HIB.out.bl HQ.out)) HIB.out.cm HIB.out.ll)
 obtain ⟨nb, hnbe⟩ : ∃ nb, nb = w3.heap.size := ⟨_, rfl⟩
 have HNF := Wd (show nb ∉ b :: Gb from fun hh => by rcases List.mem_cons.1 hh with e | e; (have := HI3.out.cm.lt; omega); (have := (hl3 nb e).1; omega))
 have HNB := Wd (show Blk wb nb 9 [.string x.name] from by rw [hnbe]; exact hnb)
 rw [← hnbe]
 clear HI3 hnb hal hszb hqb hqb' hgb hl3 hnbe q1
 have HBb := Wd (HIB.out.bl HQ.out)
 have q6 := Cl HBb.out Q6.out
 go_wp2_with fail
 clear q6
 go_loopw [72] (fun s wr => ∃ k : Nat, k ≤ x.alts.length ∧ s = .int .i64 k ∧ Hid (Lk wb.heap.size b Q Gb wb (l ++ Zf bd (x.kids.take 1) ++ Xu (bd ++ [x.name]) (x.alts.take k)) (n + 2 * Qo (x.kids.take 1) + 1 + 2 * Qq (x.alts.take k)) (Xh H 1 [x.name]) wr)) (fun s _ => x.alts.length - (intOf s).toNat)
 case atStart => exact ⟨0, Nat.zero_le _, rfl, Wd (by have h := HL0.out; simpa [Xu, Qq] using h)⟩
 clear HL0
 case round =>
  obtain ⟨k, hk, rfl, HI⟩ := hrel
  have HBr := Wd (HI.out.bl HQ.out)
  have q6 := Cl HBr.out Q6.out
  by_cases hlt : k < x.alts.length
  ·obtain ⟨ae, A1, cc1, B3, d3, B4, d4, B5, d5, B6, d6, rfl, -, hK, hl1, hC1, -, g1, g2, g3, g4, g5, g6, g7, g8⟩ := Xn G6.out k hlt
   have HA2 := Wd (show At S x.alts[k].body ⟨(ae.add (k * 9)).block, (ae.add (k * 9)).off + 2, none⟩ from ⟨B3, d3, B4, d4, B5, d5, B6, d6, hK, g2, g3, g4, g5, g6, g7, g8⟩)
   have ⟨HE1, HC1, HL1⟩ := Wq g1 hC1 hl1
   clear g1 g2 g3 g4 g5 g6 g7 g8 hK hC1 hl1
   have e1 := Cl HBr.out HE1.out
   have HAB := Wd (show Qq (x.alts.take (k + 1)) = Qq (x.alts.take k) + (1 + Us x.alts[k]) ∧ Qq (x.alts.take (k + 1)) ≤ Qq x.alts ∧ Us x.alts[k] = x.alts[k].con.size + (Uo x.alts[k].names + bulk x.alts[k].body) from ⟨Hc _ _ hlt, Kw _ _, Zo _⟩)
   have HNS := Wd (show ∀ s ∈ x.alts[k].names, s.size ≤ 274877906944 from fun s hs => by have h := HBK.out; rw [Qg] at h; have h2 := HAB.out; have := Ka hs; omega)
   have qk0 : (0 : Int) ≤ (k : Int) := by omega
   have qk1 : (k : Int) < x.alts.length := by omega
   go_wp2_with fail
   refine (Yw x.alts[k].names HNS.out 1 (by omega) b _ (Xh H 1 [x.name]) (by have h1 := HN.out; have h2 := HLE.out; have h3 := HAB.out; rw [Qg] at h1; have h4 := Xd HNM.out; have h5 := Qn x.alts[k].names; omega) (fun s => by have h0 := (HI.out.cm.2 s).1; exact ⟨by omega, fun k => by omega⟩) A1 cc1 _ (Kd.C_below HC1.out HBr.out) HL1.out HI.out.cm).mono ?_
   rintro en w4 ⟨rfl, hm4, hg4⟩
   have HI4 := Wd (HI.out.map HQ.out hg4 hm4 (by omega))
   clear hm4 hg4 q6 e1
   have HB4 := Wd (HI4.out.bl HQ.out)
   have q6 := Cl HB4.out Q6.out
   go_wp2_with fail
   obtain ⟨Gi, hqi, hgi⟩ := HI4.out.ex
   have HGI := Wd hgi
   have HBDA := Wd (qjg HBD1.out (fun s => (HI.out.cm.2 s).1) x.alts[k].names)
   refine (IHA.out _ (List.getElem_mem hlt) (HLS.out _ (List.getElem_mem hlt)) (Vp HBK.out (List.getElem_mem hlt)) S w4 _ b _ fn caps Q (Xh (Xh H 1 [x.name]) 1 x.alts[k].names) ((bd ++ [x.name]) ++ x.alts[k].names) _ Gi HQ.out HA2.out HBDA.out HI4.out.cm (by have h1 := HN.out; have h2 := HLE.out; have h3 := HAB.out; rw [Qg] at h1; have h4 := Xd HNM.out; have h5 := Qn x.alts[k].names; omega) hqi HI4.out.ll).mono ?_
   rintro en w5 ⟨rfl, h5⟩
   have HI5 := Wd (Lk.from (Nat.le_refl _) HI4.out HGI.out h5)
   clear h5 hqi hgi q6 HI4
   have HB5 := Wd (HI5.out.bl HQ.out)
   have q6 := Cl HB5.out Q6.out
   have e1 := Cl HB5.out HE1.out
   go_wp2_with fail
   refine (Yw x.alts[k].names HNS.out (-1) (by omega) b _ (Xh (Xh H 1 [x.name]) 1 x.alts[k].names) (by have h1 := HN.out; have h2 := HLE.out; have h3 := HAB.out; rw [Qg] at h1; have h4 := Xd HNM.out; have h5 := Qn x.alts[k].names; omega) (fun s => by have h0 := (HI.out.cm.2 s).1; have h1 := Vb x.alts[k].names s; simp only [Xh] at h0 ⊢; exact ⟨by omega, fun k => by have := h1 k; omega⟩) A1 cc1 _ (Kd.C_below HC1.out HB5.out) HL1.out HI5.out.cm).mono ?_
   exact f33
  ·have hkk : k = x.alts.length := by omega
   have h1 := HI.out
   rw [hkk, List.take_length] at h1
   have HI1 := Wd h1
   clear HI hkk h1
   have q5 := Cl HBr.out Q5.out
   have hke : 1 ≤ x.kids.length := hkl
   go_wp2_with fail
   ·subst h
    clear q5 q6
    go_loopw [112] (fun s wr => ∃ j : Nat, j + 1 ≤ x.kids.length ∧ s = .int .i64 j ∧ Hid (Lk wb.heap.size b Q Gb wb (l ++ Zf bd (x.kids.take 1) ++ Xu (bd ++ [x.name]) x.alts ++ Zf (bd ++ [x.name]) ((x.kids.take (j + 1)).drop 1)) (n + 1 + 2 * Qq x.alts + 2 * Qo (x.kids.take (j + 1))) (Xh H 1 [x.name]) wr)) (fun s _ => x.kids.length - (intOf s).toNat)
    case atStart => exact ⟨0, hke, rfl, Wd (by
     exact f29)⟩
    clear HI1
    case round =>
     obtain ⟨j, hj, rfl, HI⟩ := hrel
     have HBr := Wd (HI.out.bl HQ.out)
     have q5 := Cl HBr.out Q5.out
     by_cases hlt : j + 1 < x.kids.length
     ·exfalso; omega
     ·exact f20
   ·clear h
    clear q5 q6
    go_loopw [112] (fun s wr => ∃ j : Nat, j + 1 ≤ x.kids.length ∧ s = .int .i64 j ∧ Hid (Lk wb.heap.size b Q Gb wb (l ++ Zf bd (x.kids.take 1) ++ Xu (bd ++ [x.name]) x.alts ++ Zf (bd ++ [x.name]) ((x.kids.take (j + 1)).drop 1)) (n + 1 + 2 * Qq x.alts + 2 * Qo (x.kids.take (j + 1))) (Xh H 1 [x.name]) wr)) (fun s _ => x.kids.length - (intOf s).toNat)
    case atStart => exact ⟨0, hke, rfl, Wd (by
     exact f29)⟩
    clear HI1
    case round =>
     obtain ⟨j, hj, rfl, HI⟩ := hrel
     have HBr := Wd (HI.out.bl HQ.out)
     have q5 := Cl HBr.out Q5.out
     by_cases hlt : j + 1 < x.kids.length
     ·obtain ⟨af, hae, hA⟩ := Ub G5.out (1 + j) (by omega)
      injection hae with hae
      subst hae
      have HA3 := Wd hA; clear hA
      have qk0 : (0 : Int) ≤ (j : Int) := by omega
      have qk2 : 1 + (j : Int) < x.kids.length := by omega
      have HLK := Wd (show Qo (x.kids.take (j + 1 + 1)) = Qo (x.kids.take (j + 1)) + (1 + bulk x.kids[j + 1]) ∧ Qo (x.kids.take (j + 1 + 1)) ≤ Qo x.kids from ⟨Xp _ _ hlt, Zq _ _⟩)
      obtain ⟨zk, hzk⟩ : ∃ zk, zk = x.kids[j + 1] := ⟨_, rfl⟩
      have HZK := Wd hzk
      have HZ1 := Wd (show x.kids[1 + j]'(by omega) = zk from by rw [hzk]; simp only [Nat.add_comm])
      have hmz : zk ∈ x.kids := by rw [hzk]; exact List.getElem_mem hlt
      rw [HZ1.out] at HA3
      rw [← hzk] at HLK
      obtain ⟨Gi, hqi, hgi⟩ := HI.out.ex
      have HGI := Wd hgi
      go_wp2_with fail
      refine (IHK.out _ hmz (HKS.out _ hmz) (by have := Qx hmz; have := HBK.out; rw [Qg] at this; omega) S wr _ b _ fn caps Q (Xh H 1 [x.name]) (bd ++ [x.name]) _ Gi HQ.out HA3.out HBD1.out HI.out.cm (by have h1 := HN.out; have h2 := HLK.out; rw [Qg] at h1; have h4 := Xd HNM.out; omega) hqi HI.out.ll).mono ?_
      exact f31
     ·exact f20
theorem f27 {p : Prop} (h : p := by
 have hjj : j + 1 = x.kids.length := by omega
 have h3 := HI.out
 rw [hjj, List.take_length] at h3
 have H3 := Wd h3; clear h3 HI hjj
 go_wp2_with fail
 clear q5
 refine ⟨_, results_none rfl _ _ _, rfl, ?_⟩
 have hf : l ++ fvs bd x = l ++ Zf bd (x.kids.take 1) ++ Xu (bd) x.alts ++ Zf (bd) (x.kids.drop 1) := by
  have hk := HK.out
  rw [Uu, if_neg (by omega), if_neg (by omega), if_pos hk, Uf, Ug, inn, if_pos HNM.out]
  simp only [List.append_assoc]
 rw [hf]
 exact (Lk.from (Nat.le_refl _) HIB.out HGB.out H3.out).mono (by rw [Qg]; omega)) : p := h
theorem qsp (x : CoreT) (hk : x.kind = 8) (hnm : x.name = ⟨#[]⟩) (ihk : ∀ y ∈ x.kids, Ya y) (iha : ∀ a ∈ x.alts, Ya a.body) : Ya x := by
 intro hsh hbk S w p b n fn caps Q H bd l G hQ hat hbd hm hn hq hll
 have HLL := Wd hll
 clear hll
 have AT := Wd hat
 obtain ⟨A3, c3, A4, c4, A5, c5, A6, c6, hK, q0, q1, -, -, q4, q5, q6⟩ := hat
 obtain ⟨_, _, _, _, _, _, _, _, he, l3, g3, l4, g4, l5, g5, l6, g6⟩ := Qk hK
 simp only [Qb, List.cons.injEq, Value.slice.injEq, true_and, and_true] at he
 obtain ⟨⟨rfl, rfl⟩, ⟨rfl, rfl⟩, ⟨rfl, rfl⟩, ⟨rfl, rfl⟩⟩ := he
 obtain ⟨n1, n2, n3, n4, n5⟩ := Qz hbk
 rw [Kn] at hsh
 obtain ⟨hs1, hs2, hs3⟩ := hsh
 have ⟨HSH, HKS, HLS⟩ := Wq hs1 (Js.1 hs2) (Jr.1 hs3)
 have ⟨HBK, HN, HM, HQ, HBD, HQ0⟩ := Wx hbk hn hm hQ hbd hq
 have ⟨G4, G5, G6, L4⟩ := Wj g4 g5 g6 l4
 have ⟨Q0, Q1, Q4, Q5, Q6⟩ := Wz q0 q1 q4 q5 q6
 clear hK hs1 hs2 hs3 hbk hn hm hQ hbd hq g3 g4 g5 g6 q0 q1 q4 q5 q6 l3 l6
 have HB0 := Wd (HQ.out.bl _ _ _ HQ0.out)
 have HK := Wd hk
 have IHK := Wd ihk; have IHA := Wd iha; clear ihk iha
 have hkl : 0 < x.kids.length := by have h := HSH.out; unfold qit at h; omega
 have q0 := Cl HB0.out Q0.out; have q5 := Cl HB0.out Q5.out
 rw [hk] at q0
 clear hk
 have HNM := Wd hnm; clear hnm
 have HBD1 := Wd (show ∀ s, s ∈ bd ↔ H s ≠ 0 from HBD.out)
 go_enter_defers Tryz.func26, Tryz.ntmps26
 obtain ⟨ad, rfl, hA⟩ := Ub G5.out 0 hkl
 have HA := Wd hA; clear hA
 have qk1 : (0 : Int) < x.kids.length := by omega
 have HLE := Wd (show Qo (x.kids.take 1) = Qo (x.kids.take 0) + (1 + bulk x.kids[0]) ∧ Qo (x.kids.take 1) ≤ Qo x.kids from ⟨Xp _ _ hkl, Zq _ _⟩)
 go_wp2_with fail
 refine (IHK.out _ (List.getElem_mem hkl) (HKS.out _ (List.getElem_mem hkl)) (by have := Qx (List.getElem_mem hkl); have := HBK.out; rw [Qg] at this; omega) S w _ b n fn caps Q H bd l G HQ.out HA.out HBD.out HM.out (by have h1 := HN.out; rw [Qg] at h1; have := HLE.out; omega) HQ0.out HLL.out).mono ?_
 rintro en w1 ⟨rfl, h1⟩
 have HI1 := Wd (show Lk w.heap.size b Q G w (l ++ Zf bd (x.kids.take 1)) (n + 2 * Qo (x.kids.take 1)) H w1 from by
  exact f94)
 clear h1 q0 q5
 have HB1 := Wd (HI1.out.bl HQ.out)
 have q1 := Cl HB1.out Q1.out
 rw [HNM.out] at q1
 have q6 := Cl HB1.out Q6.out
 go_wp2_with fail
 clear q1 q6
 obtain ⟨Gb, hqb, hgb⟩ := HI1.out.ex
 have HGB := Wd hgb
 have HL0 := Wd (Lk.start HQ.out hqb HI1.out.cm HI1.out.ll)
 have HIB := HI1
 clear hqb hgb
 obtain ⟨wb, rfl⟩ : ∃ wb, wb = w1 := ⟨_, rfl⟩
 go_loopw [72] (fun s wr => ∃ k : Nat, k ≤ x.alts.length ∧ s = .int .i64 k ∧ Hid (Lk wb.heap.size b Q Gb wb (l ++ Zf bd (x.kids.take 1) ++ Xu (bd) (x.alts.take k)) (n + 2 * Qo (x.kids.take 1) + 2 * Qq (x.alts.take k)) (H) wr)) (fun s _ => x.alts.length - (intOf s).toNat)
 case atStart => exact ⟨0, Nat.zero_le _, rfl, Wd (by have h := HL0.out; simpa [Xu, Qq] using h)⟩
 clear HL0
 case round =>
  obtain ⟨k, hk, rfl, HI⟩ := hrel
  have HBr := Wd (HI.out.bl HQ.out)
  have q6 := Cl HBr.out Q6.out
  by_cases hlt : k < x.alts.length
  ·obtain ⟨ae, A1, cc1, B3, d3, B4, d4, B5, d5, B6, d6, rfl, -, hK, hl1, hC1, -, g1, g2, g3, g4, g5, g6, g7, g8⟩ := Xn G6.out k hlt
   have HA2 := Wd (show At S x.alts[k].body ⟨(ae.add (k * 9)).block, (ae.add (k * 9)).off + 2, none⟩ from ⟨B3, d3, B4, d4, B5, d5, B6, d6, hK, g2, g3, g4, g5, g6, g7, g8⟩)
   have ⟨HE1, HC1, HL1⟩ := Wq g1 hC1 hl1
   clear g1 g2 g3 g4 g5 g6 g7 g8 hK hC1 hl1
   have e1 := Cl HBr.out HE1.out
   have HAB := Wd (show Qq (x.alts.take (k + 1)) = Qq (x.alts.take k) + (1 + Us x.alts[k]) ∧ Qq (x.alts.take (k + 1)) ≤ Qq x.alts ∧ Us x.alts[k] = x.alts[k].con.size + (Uo x.alts[k].names + bulk x.alts[k].body) from ⟨Hc _ _ hlt, Kw _ _, Zo _⟩)
   have HNS := Wd (show ∀ s ∈ x.alts[k].names, s.size ≤ 274877906944 from fun s hs => by have h := HBK.out; rw [Qg] at h; have h2 := HAB.out; have := Ka hs; omega)
   have qk0 : (0 : Int) ≤ (k : Int) := by omega
   have qk1 : (k : Int) < x.alts.length := by omega
   go_wp2_with fail
   refine (Yw x.alts[k].names HNS.out 1 (by omega) b _ (H) (by have h1 := HN.out; have h2 := HLE.out; have h3 := HAB.out; rw [Qg] at h1; have h5 := Qn x.alts[k].names; omega) (fun s => by have h0 := (HI.out.cm.2 s).1; exact ⟨by omega, fun k => by omega⟩) A1 cc1 _ (Kd.C_below HC1.out HBr.out) HL1.out HI.out.cm).mono ?_
   rintro en w4 ⟨rfl, hm4, hg4⟩
   have HI4 := Wd (HI.out.map HQ.out hg4 hm4 (by omega))
   clear hm4 hg4 q6 e1
   have HB4 := Wd (HI4.out.bl HQ.out)
   have q6 := Cl HB4.out Q6.out
   go_wp2_with fail
   obtain ⟨Gi, hqi, hgi⟩ := HI4.out.ex
   have HGI := Wd hgi
   have HBDA := Wd (qjg HBD1.out (fun s => (HI.out.cm.2 s).1) x.alts[k].names)
   refine (IHA.out _ (List.getElem_mem hlt) (HLS.out _ (List.getElem_mem hlt)) (Vp HBK.out (List.getElem_mem hlt)) S w4 _ b _ fn caps Q (Xh (H) 1 x.alts[k].names) ((bd) ++ x.alts[k].names) _ Gi HQ.out HA2.out HBDA.out HI4.out.cm (by have h1 := HN.out; have h2 := HLE.out; have h3 := HAB.out; rw [Qg] at h1; have h5 := Qn x.alts[k].names; omega) hqi HI4.out.ll).mono ?_
   rintro en w5 ⟨rfl, h5⟩
   have HI5 := Wd (Lk.from (Nat.le_refl _) HI4.out HGI.out h5)
   clear h5 hqi hgi q6 HI4
   have HB5 := Wd (HI5.out.bl HQ.out)
   have q6 := Cl HB5.out Q6.out
   have e1 := Cl HB5.out HE1.out
   go_wp2_with fail
   refine (Yw x.alts[k].names HNS.out (-1) (by omega) b _ (Xh (H) 1 x.alts[k].names) (by have h1 := HN.out; have h2 := HLE.out; have h3 := HAB.out; rw [Qg] at h1; have h5 := Qn x.alts[k].names; omega) (fun s => by have h0 := (HI.out.cm.2 s).1; have h1 := Vb x.alts[k].names s; simp only [Xh] at h0 ⊢; exact ⟨by omega, fun k => by have := h1 k; omega⟩) A1 cc1 _ (Kd.C_below HC1.out HB5.out) HL1.out HI5.out.cm).mono ?_
   exact f33
  ·have hkk : k = x.alts.length := by omega
   have h1 := HI.out
   rw [hkk, List.take_length] at h1
   have HI1 := Wd h1
   clear HI hkk h1
   have q5 := Cl HBr.out Q5.out
   have hke : 1 ≤ x.kids.length := hkl
   go_wp2_with fail
   ·subst h
    clear q5 q6
    go_loopw [112] (fun s wr => ∃ j : Nat, j + 1 ≤ x.kids.length ∧ s = .int .i64 j ∧ Hid (Lk wb.heap.size b Q Gb wb (l ++ Zf bd (x.kids.take 1) ++ Xu (bd) x.alts ++ Zf (bd) ((x.kids.take (j + 1)).drop 1)) (n + 2 * Qq x.alts + 2 * Qo (x.kids.take (j + 1))) (H) wr)) (fun s _ => x.kids.length - (intOf s).toNat)
    case atStart => exact ⟨0, hke, rfl, Wd (by
     exact f29)⟩
    clear HI1
    case round =>
     obtain ⟨j, hj, rfl, HI⟩ := hrel
     have HBr := Wd (HI.out.bl HQ.out)
     have q5 := Cl HBr.out Q5.out
     by_cases hlt : j + 1 < x.kids.length
     ·exfalso; omega
     ·exact f27
   ·clear h
    clear q5 q6
    go_loopw [112] (fun s wr => ∃ j : Nat, j + 1 ≤ x.kids.length ∧ s = .int .i64 j ∧ Hid (Lk wb.heap.size b Q Gb wb (l ++ Zf bd (x.kids.take 1) ++ Xu (bd) x.alts ++ Zf (bd) ((x.kids.take (j + 1)).drop 1)) (n + 2 * Qq x.alts + 2 * Qo (x.kids.take (j + 1))) (H) wr)) (fun s _ => x.kids.length - (intOf s).toNat)
    case atStart => exact ⟨0, hke, rfl, Wd (by
     exact f29)⟩
    clear HI1
    case round =>
     obtain ⟨j, hj, rfl, HI⟩ := hrel
     have HBr := Wd (HI.out.bl HQ.out)
     have q5 := Cl HBr.out Q5.out
     by_cases hlt : j + 1 < x.kids.length
     ·obtain ⟨af, hae, hA⟩ := Ub G5.out (1 + j) (by omega)
      injection hae with hae
      subst hae
      have HA3 := Wd hA; clear hA
      have qk0 : (0 : Int) ≤ (j : Int) := by omega
      have qk2 : 1 + (j : Int) < x.kids.length := by omega
      have HLK := Wd (show Qo (x.kids.take (j + 1 + 1)) = Qo (x.kids.take (j + 1)) + (1 + bulk x.kids[j + 1]) ∧ Qo (x.kids.take (j + 1 + 1)) ≤ Qo x.kids from ⟨Xp _ _ hlt, Zq _ _⟩)
      obtain ⟨zk, hzk⟩ : ∃ zk, zk = x.kids[j + 1] := ⟨_, rfl⟩
      have HZK := Wd hzk
      have HZ1 := Wd (show x.kids[1 + j]'(by omega) = zk from by rw [hzk]; simp only [Nat.add_comm])
      have hmz : zk ∈ x.kids := by rw [hzk]; exact List.getElem_mem hlt
      rw [HZ1.out] at HA3
      rw [← hzk] at HLK
      obtain ⟨Gi, hqi, hgi⟩ := HI.out.ex
      have HGI := Wd hgi
      go_wp2_with fail
      refine (IHK.out _ hmz (HKS.out _ hmz) (by have := Qx hmz; have := HBK.out; rw [Qg] at this; omega) S wr _ b _ fn caps Q (H) (bd) _ Gi HQ.out HA3.out HBD1.out HI.out.cm (by have h1 := HN.out; have h2 := HLK.out; rw [Qg] at h1; omega) hqi HI.out.ll).mono ?_
      exact f31
     ·exact f27
theorem qmt (x : CoreT) : Ya x := by
 refine Za Ya (fun x ihk iha => ?_) x
 by_cases h1 : x.kind = 1
 ·exact zae x h1
 by_cases h6 : x.kind = 6
 ·exact qsm x h6 ihk
 by_cases h7 : x.kind = 7
 ·exact qsn x h7 ihk
 by_cases h8 : x.kind = 8
 ·by_cases hn : x.name = ⟨#[]⟩
  ·exact qsp x h8 hn ihk iha
  ·exact qso x h8 hn ihk iha
 exact qsq x h1 h6 h7 h8 ihk
end Go.Proofs.YtnoammmohdmnjaaGreat.C13
