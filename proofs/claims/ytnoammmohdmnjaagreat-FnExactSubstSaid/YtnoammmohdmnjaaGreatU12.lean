import Derived.Test.YtnoammmohdmnjaaGreatU11
set_option maxRecDepth 100000
set_option maxHeartbeats 16000000
set_option linter.unusedVariables false
set_option linter.unusedSimpArgs false
namespace Go.Proofs.YtnoammmohdmnjaaGreat.C13
open Go
open List renaming setIfInBounds_toArray → Jla, set_cons_zero → Jlb, set_cons_succ → Jlc
section
variable {P : Program} {ops : Array Oper} {md : Region.Mode}
def midQ (M : Act → World → Prop) (Q : Exit → Act → World → Prop) : Exit → Act → World → Prop
 | .normal, a, w => M a w
 | e, a, w => Q e a w
theorem Gp {M : Act → World → Prop} {Q : Exit → Act → World → Prop} {a : Act} {w : World} (h : M a w) : midQ M Q .normal a w := h
theorem qna {M : Act → World → Prop} {Q : Exit → Act → World → Prop} (h : LetsOut (midQ M Q)) : LetsOut Q := h
theorem qva {o : Oper} {a : Act} {w : World} {K : Act → World → Prop} {M : Act → World → Prop} {Q : Exit → Act → World → Prop} (hh : o.wp P a w K (midQ M Q)) : o.wp P a w K Q := by
 unfold Oper.wp at *
 generalize (execOp a.eval o).run P w = r at *
 cases r with
 | ok n w' =>
  cases n <;> simp only [Oper.upon] at hh ⊢ <;>
   first
    | exact hh
    | exact Calls.mono hh (fun e w'' he => by cases e <;> exact he)
 | halt x w' => cases x <;> simp only [Oper.upon] at hh ⊢ <;> exact hh
def qlq (listed : Array Bool) (k : Nat) : Nat → Array Bool
 | 0 => listed
 | n + 1 => qlq (listed.setIfInBounds k true) (k + 1) n
def preB (md : Region.Mode) (ops : Array Oper) : Nat → Nat → Array Bool → Bool
 | 0, _, _ => true
 | g + 1, k, listed => decide (Region.ready md ops listed = [k]) && preB md ops g (k + 1) (listed.setIfInBounds k true)
theorem qes {n g : Nat} {M : Act → World → Prop} {Q : Exit → Act → World → Prop} : ∀ (l : List Oper) (k : Nat) (listed : Array Bool) (a : Act) (w : World), (∀ j, j < l.length → l[j]? = ops[k + j]?) →
  k + l.length ≤ n → HeadInv md ops n listed → preB md ops l.length k listed = true →
  (∀ a' w', HeadInv md ops n (qlq listed k l.length) → M a' w' → wpAny P md ops Q g (qlq listed k l.length) a' w') →
  wpList P ops (midQ M Q) l a w → wpAny P md ops Q (l.length + g) listed a w
 | [], k, listed, a, w, _, _, inv, _, hM, h => by
  simp only [List.length_nil, Nat.zero_add]
  exact hM a w inv h
 | o :: l, k, listed, a, w, hl, hkn, inv, hB, hM, h => by
  have h0 : ops[k]? = some o := by simpa using (hl 0 (by simp)).symm
  simp only [List.length_cons, preB, Bool.and_eq_true, decide_eq_true_eq] at hB
  have hkr : k ∈ Region.ready md ops listed := by rw [hB.1]; simp
  have inv' := inv.set hkr (by simp only [List.length_cons] at hkn; omega)
  rw [show (o :: l).length + g = (l.length + g) + 1 by simp only [List.length_cons]; omega]
  refine ⟨fun h1 => (by rw [hB.1] at h1; cases h1), fun i hi => ?_⟩
  rw [hB.1] at hi
  have hik : i = k := by simpa using hi
  subst hik
  have hw : wpOp P ops Q i (wpList P ops (midQ M Q) l) a w := by
   unfold wpOp; simp only [h0]
   unfold wpList at h
   split
   ·rename_i hw
    rw [if_pos hw] at h
    rcases h with h | h
    ·exact .inl (qva h)
    ·exact .inr ⟨h.1, qna h.2⟩
   ·rename_i hw
    rw [if_neg hw] at h
    exact h
  exact wpOp_mono (fun a' w' h' => qes l (i + 1) _ a' w' (fun j hj => by have := hl (j + 1) (by simp; omega); simpa [Nat.add_assoc, Nat.add_comm 1 j] using this)
   (by simp only [List.length_cons] at hkn; omega) inv' hB.2 hM h') hw
structure StillW (P : Program) (ops : Array Oper) (w : World) (Q : Act → Prop) (l : List Oper) (a : Act) : Prop where
 out : wpStill P ops w Q l a
theorem StillW.pass {w : World} {Q : Act → Prop} {a : Act} {o : Oper} {rest : List Oper} (hw : Region.wanted o (yielded ops a.tmps) = false) (hp : a.put o.dst undef = a) (h : StillW P ops w Q rest a) : StillW P ops w Q (o :: rest) a := by
 refine ⟨?_⟩
 unfold wpStill; rw [if_neg (by rw [hw]; decide), hp]; exact h.out
theorem StillW.step {w : World} {Q : Act → Prop} {a : Act} {o : Oper} {rest : List Oper} (hw : Region.wanted o (yielded ops a.tmps) = true) (h : ∀ K : Act → Prop, (∀ a, StillW P ops w Q rest a → K a) → o.still P a w K) : StillW P ops w Q (o :: rest) a := by
 refine ⟨?_⟩
 unfold wpStill; rw [if_pos hw]; exact h _ (fun _ h => h.out)
theorem StillW.done {w : World} {Q : Act → Prop} {a : Act} (h : Q a) : StillW P ops w Q [] a := ⟨h⟩
def midB (md : Region.Mode) (ops : Array Oper) (m n : Nat) : Bool :=
 Region.noSelect ops && decide (n < ops.size) && decide (m ≤ n) && Region.sinkB md ops n && Region.chainB md ops n && preB md ops m 0 (Array.replicate ops.size false) &&
  Region.lexHead md ops (ops.size - n) (n - m) m (qlq (Array.replicate ops.size false) 0 m)
theorem qkb {id : Nat} {Q : Exit → Act → World → Prop} {a : Act} {w : World} {l : List Oper} (m n : Nat) (hm : P.follows .mixedOrders = true) (hB : midB .any l.toArray m n = true)
  (h : wpList P l.toArray (midQ (fun a' w' => StillW P l.toArray w' (fun a'' => wpList P l.toArray Q (l.drop n) a'' w') ((l.take n).drop m) a') Q) (l.take m) a w.drew) : (Code.region id l.toArray true).wp P Q a w := by
 simp only [midB, Bool.and_eq_true, decide_eq_true_eq] at hB
 obtain ⟨⟨⟨⟨⟨⟨hsel, hn⟩, hmn⟩, hs⟩, hc⟩, hpre⟩, hlex⟩ := hB
 have hn' : n < l.length := by simpa using hn
 have htl : (l.take m).length = m := by simp; omega
 have hml : ((l.take n).drop m).length = n - m := by simp; omega
 have hdl : (l.drop n).length = l.toArray.size - n := by simp
 have inv0 : HeadInv .any l.toArray n (Array.replicate l.toArray.size false) :=
  ⟨by simp, fun j oj _ hl => (by rw [getD_replicate_false] at hl; cases hl), fun t _ ht => getD_in (by simpa using ht) (getD_replicate_false _ _)⟩
 refine wp_region_any hm ?_
 have := qes (md := .any) (n := n) (g := l.toArray.size - m) (Q := Q) (l.take m) 0 (Array.replicate l.toArray.size false) a { w with drawn := w.drawn + 1 }
  (fun j hj => by
   have hj' : j < m := by rw [htl] at hj; exact hj
   simp [hj']) (by rw [htl]; omega) inv0 (by rw [htl]; exact hpre) (fun a' w' inv hM => by
   rw [htl] at inv ⊢
   have H := wpAnyL_lex (md := .any) (g := l.toArray.size - n) hsel hs hc hn ((l.take n).drop m) m (qlq (Array.replicate l.toArray.size false) 0 m) a' (fun j hj => by
    rw [hml] at hj
    simp [List.getElem?_drop, List.getElem?_take, show m + j < n by omega]) (by rw [hml]; omega) inv (by rw [hml]; exact hlex) hM.out
   have H2 := wpAny_of_head (Q' := Q) (g := l.toArray.size - n) (fun listed a' hL => by
    have := wpAny_of_seq (md := .any) (Q' := Q) (l.drop n) n listed a' w' (fun j => by simp [List.getElem?_drop]) (by rw [hdl]; exact hL.1) hL.2
    rwa [hdl] at this) _ _ _ H
   rw [hml, show n - m + (l.toArray.size - n) = l.toArray.size - m by omega] at H2
   exact H2) h
 rw [htl, show m + (l.toArray.size - m) = l.toArray.size by omega] at this
 exact this
theorem Uq {id : Nat} {Q : Exit → Act → World → Prop} {a : Act} {w : World} {l : List Oper} (n : Nat) (hm : P.follows .mixedOrders = true) (hB : Region.lexTailB .any l.toArray n = true)
  (h : StillW P l.toArray w.drew (fun a' => wpList P l.toArray Q (l.drop n) a' w.drew) (l.take n) a) : (Code.region id l.toArray true).wp P Q a w :=
 wp_region_still_tail n hm hB h.out
end
end Go.Proofs.YtnoammmohdmnjaaGreat.C13
namespace Go.Proofs.YtnoammmohdmnjaaGreat.C13
open Go.RowKit Go.Proofs.YtnoammmohdmnjaaGreatW.PrintWords
open List renaming setIfInBounds_toArray → Jla, set_cons_zero → Jlb, set_cons_succ → Jlc
section
variable {S w : World} {x : CoreT} {p : Addr}
theorem Zv (w : World) (o : Obj) : Below w.heap.size w (w.alloc o) := Below.alloc (Below.refl _ _) (Nat.le_refl _) o
theorem At.later {S w : World} {x : CoreT} {p : Addr} (h : At S x p) (hB : Below S.heap.size S w) : At w x p := by
 obtain ⟨A3, c3, A4, c4, A5, c5, A6, c6, hK, g0, g1, g2, g3, g4, g5, g6⟩ := h
 exact ⟨A3, c3, A4, c4, A5, c5, A6, c6, (Ja _ _).K_below hB hK, Cl hB g0, Cl hB g1, Cl hB g2, Cl hB g3, Cl hB g4, Cl hB g5, Cl hB g6⟩
theorem Qz (hbk : bulk x ≤ 274877906944) : x.name.size ≤ 274877906944 ∧ x.limbs.length ≤ 274877906944 ∧ x.kids.length ≤ 274877906944 ∧ x.names.length ≤ 274877906944 ∧ x.alts.length ≤ 274877906944 := by
 rw [Qg] at hbk
 have := Qn x.names; have := qah x.kids; have := Ks x.alts
 omega
theorem Ka {l : List ByteArray} {s : ByteArray} (h : s ∈ l) : s.size ≤ Uo l := by
 induction l with
 | nil => cases h
 | cons c r ih =>
  rw [Uo]
  exact f82
theorem qil (hbk : bulk x ≤ 274877906944) : ∀ s ∈ x.names, s.size ≤ 274877906944 := by
 intro s hs
 rw [Qg] at hbk
 have := Ka hs
 omega
theorem Kt {A3 c3 A4 c4 A5 c5 A6 c6} (hK : IC.K w x (Qb x A3 c3 A4 c4 A5 c5 A6 c6)) : x.names.length ≤ c4 ∧ Kd.string.C w A4 x.names.length x.names := by
 obtain ⟨_, _, _, _, _, _, _, _, he, -, -, l4, g4, -⟩ := Qk hK
 simp only [Qb, List.cons.injEq, Value.slice.injEq, true_and, and_true] at he
 obtain ⟨⟨rfl, rfl⟩, ⟨rfl, rfl⟩, ⟨rfl, rfl⟩, ⟨rfl, rfl⟩⟩ := he
 exact ⟨l4, g4⟩
theorem Kz {A3 c3 A4 c4 A5 c5 A6 c6} (hK : IC.K w x (Qb x A3 c3 A4 c4 A5 c5 A6 c6)) : x.limbs.length ≤ c3 ∧ (Kd.int .u32).C w A3 x.limbs.length x.limbs := by
 obtain ⟨_, _, _, _, _, _, _, _, he, l3, g3, -⟩ := Qk hK
 simp only [Qb, List.cons.injEq, Value.slice.injEq, true_and, and_true] at he
 obtain ⟨⟨rfl, rfl⟩, ⟨rfl, rfl⟩, ⟨rfl, rfl⟩, ⟨rfl, rfl⟩⟩ := he
 exact ⟨l3, g3⟩
def Ql (x : CoreT) : Prop := x.minus = false ∧ x.limbs.length = 0
def qdh (x : CoreT) : Prop := x.names.length = 0 ∧ x.alts.length = 0 ∧ x.kids.length = 0
theorem f25 {p : Prop} (h : p := by
 go_wp2
 go_ret
 exact ⟨by rw [HRR.out, Qd (fun h => N0.out h.1)]; first | done | rfl, HB.out⟩) : p := h
theorem Kf (hat : At w x p) (hbk : bulk x ≤ 274877906944) : Qh 119 #[.agg #[.pointer (some p)]] w (dec ((x.minus = false) ∧ (x.limbs.length = 0))) := by
 obtain ⟨b1, b2, b3, b4, b5⟩ := Qz hbk
 have HBK := Wd hbk; clear hbk
 have HAT := Wd hat
 obtain ⟨A3, c3, A4, c4, A5, c5, A6, c6, hK, g0, g1, g2, g3, g4, g5, g6⟩ := hat
 have NM := Wd (Kt hK); have LM := Wd (Kz hK)
 clear hK
 have HB := Wd (Zv w (.cells #[.pointer (some p)] 108))
 have G0 := Wd g0
 have G1 := Wd g1
 have G2 := Wd g2
 have G3 := Wd g3
 have G4 := Wd g4
 have G5 := Wd g5
 have G6 := Wd g6
 clear g0 g1 g2 g3 g4 g5 g6
 unfold Qh
 obtain ⟨r, hrr⟩ : ∃ r, r = dec ((x.minus = false) ∧ (x.limbs.length = 0)) := ⟨_, rfl⟩
 rw [← hrr]
 have HRR := Wd hrr; clear hrr
 by_cases c0 : x.minus = false
 case pos =>
  have e2 := c0
  by_cases c1 : x.limbs.length = 0
  case pos =>
   have qlimbs : ((x.limbs.length : Int) == 0) = true := beq_iff_eq.2 (by omega)
   have g2 := Cl HB.out G2.out
   have g3 := Cl HB.out G3.out
   rw [e2] at g2
   go_enter Tryz.func119, Tryz.ntmps119
   go_wp2
   go_ret
   exact ⟨by rw [HRR.out, Qm ⟨c0, c1⟩]; first | done | rfl, HB.out⟩
  case neg =>
   have N1 := Wd c1
   have qlimbs : ((x.limbs.length : Int) == 0) = false := beq_eq_false_iff_ne.2 (by omega)
   have g2 := Cl HB.out G2.out
   have g3 := Cl HB.out G3.out
   rw [e2] at g2
   go_enter Tryz.func119, Tryz.ntmps119
   go_wp2
   go_ret
   exact ⟨by rw [HRR.out, Qd (fun h => N1.out h.2)]; first | done | rfl, HB.out⟩
 case neg =>
  have N0 := Wd c0
  have e2 : x.minus = true := by simpa using c0
  have g2 := Cl HB.out G2.out
  rw [e2] at g2
  go_enter Tryz.func119, Tryz.ntmps119
  exact f25
theorem Ua (hat : At w x p) (hbk : bulk x ≤ 274877906944) : Qh 120 #[.agg #[.pointer (some p)]] w (dec ((x.names.length = 0))) := by
 obtain ⟨b1, b2, b3, b4, b5⟩ := Qz hbk
 have HBK := Wd hbk; clear hbk
 have HAT := Wd hat
 obtain ⟨A3, c3, A4, c4, A5, c5, A6, c6, hK, g0, g1, g2, g3, g4, g5, g6⟩ := hat
 have NM := Wd (Kt hK); have LM := Wd (Kz hK)
 clear hK
 have HB := Wd (Zv w (.cells #[.pointer (some p)] 108))
 have G0 := Wd g0
 have G1 := Wd g1
 have G2 := Wd g2
 have G3 := Wd g3
 have G4 := Wd g4
 have G5 := Wd g5
 have G6 := Wd g6
 clear g0 g1 g2 g3 g4 g5 g6
 unfold Qh
 obtain ⟨r, hrr⟩ : ∃ r, r = dec ((x.names.length = 0)) := ⟨_, rfl⟩
 rw [← hrr]
 have HRR := Wd hrr; clear hrr
 by_cases c0 : x.names.length = 0
 case pos =>
  have qnames : ((x.names.length : Int) == 0) = true := beq_iff_eq.2 (by omega)
  have g4 := Cl HB.out G4.out
  go_enter Tryz.func120, Tryz.ntmps120
  go_wp2
  go_ret
  exact ⟨by rw [HRR.out, Qm c0]; first | done | rfl, HB.out⟩
 case neg =>
  have N0 := Wd c0
  have qnames : ((x.names.length : Int) == 0) = false := beq_eq_false_iff_ne.2 (by omega)
  have g4 := Cl HB.out G4.out
  go_enter Tryz.func120, Tryz.ntmps120
  go_wp2
  go_ret
  exact ⟨by rw [HRR.out, Qd (fun h => N0.out h)]; first | done | rfl, HB.out⟩
theorem Vv (hat : At w x p) (hbk : bulk x ≤ 274877906944) : Qh 121 #[.agg #[.pointer (some p)]] w (dec ((x.alts.length = 0))) := by
 obtain ⟨b1, b2, b3, b4, b5⟩ := Qz hbk
 have HBK := Wd hbk; clear hbk
 have HAT := Wd hat
 obtain ⟨A3, c3, A4, c4, A5, c5, A6, c6, hK, g0, g1, g2, g3, g4, g5, g6⟩ := hat
 have NM := Wd (Kt hK); have LM := Wd (Kz hK)
 clear hK
 have HB := Wd (Zv w (.cells #[.pointer (some p)] 108))
 have G0 := Wd g0
 have G1 := Wd g1
 have G2 := Wd g2
 have G3 := Wd g3
 have G4 := Wd g4
 have G5 := Wd g5
 have G6 := Wd g6
 clear g0 g1 g2 g3 g4 g5 g6
 unfold Qh
 obtain ⟨r, hrr⟩ : ∃ r, r = dec ((x.alts.length = 0)) := ⟨_, rfl⟩
 rw [← hrr]
 have HRR := Wd hrr; clear hrr
 by_cases c0 : x.alts.length = 0
 case pos =>
  have qalts : ((x.alts.length : Int) == 0) = true := beq_iff_eq.2 (by omega)
  have g6 := Cl HB.out G6.out
  go_enter Tryz.func121, Tryz.ntmps121
  go_wp2
  go_ret
  exact ⟨by rw [HRR.out, Qm c0]; first | done | rfl, HB.out⟩
 case neg =>
  have N0 := Wd c0
  have qalts : ((x.alts.length : Int) == 0) = false := beq_eq_false_iff_ne.2 (by omega)
  have g6 := Cl HB.out G6.out
  go_enter Tryz.func121, Tryz.ntmps121
  go_wp2
  go_ret
  exact ⟨by rw [HRR.out, Qd (fun h => N0.out h)]; first | done | rfl, HB.out⟩
theorem f128 {p : Prop} (h : p := by
 go_wp2
 go_ret
 exact ⟨by rw [HRR.out, Qd (fun h => N2.out h.2.2)]; first | done | rfl, HB2.out⟩) : p := h
theorem f39 {p : Prop} (h : p := by
 have z0 := BP2.out.cell (j := 0) rfl
 exact f128) : p := h
theorem f99 {p : Prop} (h : p := by
 have z0 := BP1.out.cell (j := 0) rfl
 go_wp2
 go_ret
 exact ⟨by rw [HRR.out, Qd (fun h => N0.out h.1)]; first | done | rfl, HB1.out⟩) : p := h
theorem qiv (hat : At w x p) (hbk : bulk x ≤ 274877906944) : Qh 117 #[.agg #[.pointer (some p)]] w (dec ((x.names.length = 0) ∧ (x.alts.length = 0) ∧ (x.kids.length = 0))) := by
 obtain ⟨b1, b2, b3, b4, b5⟩ := Qz hbk
 have HBK := Wd hbk; clear hbk
 have HAT := Wd hat
 obtain ⟨A3, c3, A4, c4, A5, c5, A6, c6, hK, g0, g1, g2, g3, g4, g5, g6⟩ := hat
 have NM := Wd (Kt hK); have LM := Wd (Kz hK)
 clear hK
 have HB := Wd (Zv w (.cells #[.pointer (some p)] 108))
 have G0 := Wd g0
 have G1 := Wd g1
 have G2 := Wd g2
 have G3 := Wd g3
 have G4 := Wd g4
 have G5 := Wd g5
 have G6 := Wd g6
 clear g0 g1 g2 g3 g4 g5 g6
 unfold Qh
 obtain ⟨r, hrr⟩ : ∃ r, r = dec ((x.names.length = 0) ∧ (x.alts.length = 0) ∧ (x.kids.length = 0)) := ⟨_, rfl⟩
 rw [← hrr]
 have HRR := Wd hrr; clear hrr
 go_enter Tryz.func117, Tryz.ntmps117
 go_wp2_with fail
 obtain ⟨W1, hW1, hp1, hB1, hs1⟩ := boxed w [.pointer (some p)] 108
 rw [← hW1]
 have BP0 := Wd hp1; have HB0 := Wd hB1; clear hW1 hp1 hB1 hs1
 refine (Ua (HAT.out.later HB0.out) HBK.out).mono ?_
 rintro e w2 ⟨rfl, hb⟩
 have HB1 := Wd (Below.step HB0.out hb); have BP1 := Wd (BP0.out.below hb); clear hb
 by_cases c0 : x.names.length = 0
 case pos =>
  rw [Qm c0]
  have C0 := Wd c0; clear c0
  have z0 := BP1.out.cell (j := 0) rfl
  go_wp2_with fail
  clear z0
  refine (Vv (HAT.out.later HB1.out) HBK.out).mono ?_
  rintro e w3 ⟨rfl, hb⟩
  have HB2 := Wd (Below.step HB1.out hb); have BP2 := Wd (BP1.out.below hb); clear hb
  by_cases c1 : x.alts.length = 0
  case pos =>
   rw [Qm c1]
   have C1 := Wd c1; clear c1
   by_cases c2 : x.kids.length = 0
   case pos =>
    have qkids : ((x.kids.length : Int) == 0) = true := beq_iff_eq.2 (by omega)
    have g5 := Cl HB2.out G5.out
    have z0 := BP2.out.cell (j := 0) rfl
    go_wp2
    go_ret
    exact ⟨by rw [HRR.out, Qm ⟨C0.out, C1.out, c2⟩]; first | done | rfl, HB2.out⟩
   case neg =>
    have N2 := Wd c2
    have qkids : ((x.kids.length : Int) == 0) = false := beq_eq_false_iff_ne.2 (by omega)
    have g5 := Cl HB2.out G5.out
    exact f39
  case neg =>
   rw [Qd c1]
   have N1 := Wd c1; clear c1
   have z0 := BP2.out.cell (j := 0) rfl
   go_wp2
   go_ret
   exact ⟨by rw [HRR.out, Qd (fun h => N1.out h.2.1)]; first | done | rfl, HB2.out⟩
 case neg =>
  rw [Qd c0]
  have N0 := Wd c0; clear c0
  exact f99
theorem f123 {p : Prop} (h : p := by
 have C2 := Wd c2; clear c2
 have z0 := BP2.out.cell (j := 0) rfl
 go_wp2
 go_ret
 exact ⟨by rw [HRR.out, Qm ⟨c0, C1.out, C2.out⟩]; first | done | rfl, HB2.out⟩) : p := h
theorem f129 {p : Prop} (h : p := by
 go_wp2
 go_ret
 exact ⟨by rw [HRR.out, Qd (fun h => N1.out h.2.1)]; first | done | rfl, HB1.out⟩) : p := h
theorem f18 {p : Prop} (h : p := by
 rw [← hW1]
 have BP0 := Wd hp1; have HB0 := Wd hB1; clear hW1 hp1 hB1 hs1
 clear g1
 refine (qiv (HAT.out.later HB0.out) HBK.out).mono ?_
 rintro e w2 ⟨rfl, hb⟩
 have HB1 := Wd (Below.step HB0.out hb); have BP1 := Wd (BP0.out.below hb); clear hb
 by_cases c1 : qdh x
 case pos =>
  rw [show ((x.names.length = 0) ∧ (x.alts.length = 0) ∧ (x.kids.length = 0)) = qdh x from rfl, Qm c1]
  have C1 := Wd c1; clear c1
  have z0 := BP1.out.cell (j := 0) rfl
  go_wp2_with fail
  clear z0
  refine (Kf (HAT.out.later HB1.out) HBK.out).mono ?_
  rintro e w3 ⟨rfl, hb⟩
  have HB2 := Wd (Below.step HB1.out hb); have BP2 := Wd (BP1.out.below hb); clear hb
  by_cases c2 : Ql x
  case pos =>
   rw [show ((x.minus = false) ∧ (x.limbs.length = 0)) = Ql x from rfl, Qm c2]
   exact f123
  case neg =>
   rw [show ((x.minus = false) ∧ (x.limbs.length = 0)) = Ql x from rfl, Qd c2]
   have N2 := Wd c2; clear c2
   have z0 := BP2.out.cell (j := 0) rfl
   exact f128
 case neg =>
  rw [show ((x.names.length = 0) ∧ (x.alts.length = 0) ∧ (x.kids.length = 0)) = qdh x from rfl, Qd c1]
  have N1 := Wd c1; clear c1
  have z0 := BP1.out.cell (j := 0) rfl
  exact f129) : p := h
theorem qzv (hat : At w x p) (hbk : bulk x ≤ 274877906944) : Qh 118 #[.agg #[.pointer (some p)]] w (dec ((0 < x.name.size) ∧ (qdh x) ∧ (Ql x))) := by
 obtain ⟨b1, b2, b3, b4, b5⟩ := Qz hbk
 have HBK := Wd hbk; clear hbk
 have HAT := Wd hat
 obtain ⟨A3, c3, A4, c4, A5, c5, A6, c6, hK, g0, g1, g2, g3, g4, g5, g6⟩ := hat
 have NM := Wd (Kt hK); have LM := Wd (Kz hK)
 clear hK
 have HB := Wd (Zv w (.cells #[.pointer (some p)] 110))
 have G0 := Wd g0
 have G1 := Wd g1
 have G2 := Wd g2
 have G3 := Wd g3
 have G4 := Wd g4
 have G5 := Wd g5
 have G6 := Wd g6
 clear g0 g1 g2 g3 g4 g5 g6
 unfold Qh
 obtain ⟨r, hrr⟩ : ∃ r, r = dec ((0 < x.name.size) ∧ (qdh x) ∧ (Ql x)) := ⟨_, rfl⟩
 rw [← hrr]
 have HRR := Wd hrr; clear hrr
 by_cases c0 : 0 < x.name.size
 case pos =>
  have q1 := Jh c0; have q2 := Xl c0
  have g1 := Cl HB.out G1.out
  go_enter Tryz.func118, Tryz.ntmps118
  go_wp2_with fail
  obtain ⟨W1, hW1, hp1, hB1, hs1⟩ := boxed w [.pointer (some p)] 110
  exact f18
 case neg =>
  have N0 := Wd c0
  have e1 : x.name = ⟨#[]⟩ := Kj.1 (by omega)
  have g1 := Cl HB.out G1.out
  rw [e1] at g1
  go_enter Tryz.func118, Tryz.ntmps118
  exact f25
theorem qvp (hat : At w x p) (hbk : bulk x ≤ 274877906944) : Qh 124 #[.agg #[.pointer (some p)]] w (dec ((x.name.size = 1) ∧ (qdh x) ∧ (Ql x))) := by
 obtain ⟨b1, b2, b3, b4, b5⟩ := Qz hbk
 have HBK := Wd hbk; clear hbk
 have HAT := Wd hat
 obtain ⟨A3, c3, A4, c4, A5, c5, A6, c6, hK, g0, g1, g2, g3, g4, g5, g6⟩ := hat
 have NM := Wd (Kt hK); have LM := Wd (Kz hK)
 clear hK
 have HB := Wd (Zv w (.cells #[.pointer (some p)] 112))
 have G0 := Wd g0
 have G1 := Wd g1
 have G2 := Wd g2
 have G3 := Wd g3
 have G4 := Wd g4
 have G5 := Wd g5
 have G6 := Wd g6
 clear g0 g1 g2 g3 g4 g5 g6
 unfold Qh
 obtain ⟨r, hrr⟩ : ∃ r, r = dec ((x.name.size = 1) ∧ (qdh x) ∧ (Ql x)) := ⟨_, rfl⟩
 rw [← hrr]
 have HRR := Wd hrr; clear hrr
 by_cases c0 : x.name.size = 1
 case pos =>
  have q1 : ((x.name.size : Int) == 1) = true := beq_iff_eq.2 (by omega)
  have g1 := Cl HB.out G1.out
  go_enter Tryz.func124, Tryz.ntmps124
  go_wp2_with fail
  obtain ⟨W1, hW1, hp1, hB1, hs1⟩ := boxed w [.pointer (some p)] 112
  exact f18
 case neg =>
  have N0 := Wd c0
  have q1 : ((x.name.size : Int) == 1) = false := beq_eq_false_iff_ne.2 (by omega)
  have g1 := Cl HB.out G1.out
  go_enter Tryz.func124, Tryz.ntmps124
  exact f25
theorem f28 {p : Prop} (h : p := by
 have z0 := BP1.out.cell (j := 0) rfl
 exact f129) : p := h
theorem f81 {p : Prop} (h : p := by
 rw [Qd c2]
 have N2 := Wd c2; clear c2
 have z0 := BP2.out.cell (j := 0) rfl
 go_wp2
 go_ret
 exact ⟨by rw [HRR.out, Qd (fun h => N2.out h.2.2.1)]; first | done | rfl, HB2.out⟩) : p := h
theorem qzr (hat : At w x p) (hbk : bulk x ≤ 274877906944) : Qh 125 #[.agg #[.pointer (some p)]] w (dec ((0 < x.name.size) ∧ (x.names.length = 0) ∧ (x.alts.length = 0) ∧ (Ql x))) := by
 obtain ⟨b1, b2, b3, b4, b5⟩ := Qz hbk
 have HBK := Wd hbk; clear hbk
 have HAT := Wd hat
 obtain ⟨A3, c3, A4, c4, A5, c5, A6, c6, hK, g0, g1, g2, g3, g4, g5, g6⟩ := hat
 have NM := Wd (Kt hK); have LM := Wd (Kz hK)
 clear hK
 have HB := Wd (Zv w (.cells #[.pointer (some p)] 113))
 have G0 := Wd g0
 have G1 := Wd g1
 have G2 := Wd g2
 have G3 := Wd g3
 have G4 := Wd g4
 have G5 := Wd g5
 have G6 := Wd g6
 clear g0 g1 g2 g3 g4 g5 g6
 unfold Qh
 obtain ⟨r, hrr⟩ : ∃ r, r = dec ((0 < x.name.size) ∧ (x.names.length = 0) ∧ (x.alts.length = 0) ∧ (Ql x)) := ⟨_, rfl⟩
 rw [← hrr]
 have HRR := Wd hrr; clear hrr
 by_cases c0 : 0 < x.name.size
 case pos =>
  have q1 := Jh c0; have q2 := Xl c0
  have g1 := Cl HB.out G1.out
  go_enter Tryz.func125, Tryz.ntmps125
  go_wp2_with fail
  obtain ⟨W1, hW1, hp1, hB1, hs1⟩ := boxed w [.pointer (some p)] 113
  rw [← hW1]
  have BP0 := Wd hp1; have HB0 := Wd hB1; clear hW1 hp1 hB1 hs1
  clear g1
  refine (Ua (HAT.out.later HB0.out) HBK.out).mono ?_
  rintro e w2 ⟨rfl, hb⟩
  have HB1 := Wd (Below.step HB0.out hb); have BP1 := Wd (BP0.out.below hb); clear hb
  by_cases c1 : x.names.length = 0
  case pos =>
   rw [Qm c1]
   have C1 := Wd c1; clear c1
   have z0 := BP1.out.cell (j := 0) rfl
   go_wp2_with fail
   clear z0
   refine (Vv (HAT.out.later HB1.out) HBK.out).mono ?_
   rintro e w3 ⟨rfl, hb⟩
   have HB2 := Wd (Below.step HB1.out hb); have BP2 := Wd (BP1.out.below hb); clear hb
   by_cases c2 : x.alts.length = 0
   case pos =>
    rw [Qm c2]
    have C2 := Wd c2; clear c2
    have z0 := BP2.out.cell (j := 0) rfl
    go_wp2_with fail
    clear z0
    refine (Kf (HAT.out.later HB2.out) HBK.out).mono ?_
    rintro e w4 ⟨rfl, hb⟩
    have HB3 := Wd (Below.step HB2.out hb); have BP3 := Wd (BP2.out.below hb); clear hb
    by_cases c3 : Ql x
    case pos =>
     rw [show ((x.minus = false) ∧ (x.limbs.length = 0)) = Ql x from rfl, Qm c3]
     have C3 := Wd c3; clear c3
     have z0 := BP3.out.cell (j := 0) rfl
     go_wp2
     go_ret
     exact ⟨by rw [HRR.out, Qm ⟨c0, C1.out, C2.out, C3.out⟩]; first | done | rfl, HB3.out⟩
    case neg =>
     rw [show ((x.minus = false) ∧ (x.limbs.length = 0)) = Ql x from rfl, Qd c3]
     have N3 := Wd c3; clear c3
     have z0 := BP3.out.cell (j := 0) rfl
     go_wp2
     go_ret
     exact ⟨by rw [HRR.out, Qd (fun h => N3.out h.2.2.2)]; first | done | rfl, HB3.out⟩
   case neg =>
    exact f81
  case neg =>
   rw [Qd c1]
   have N1 := Wd c1; clear c1
   exact f28
 case neg =>
  have N0 := Wd c0
  have e1 : x.name = ⟨#[]⟩ := Kj.1 (by omega)
  have g1 := Cl HB.out G1.out
  rw [e1] at g1
  go_enter Tryz.func125, Tryz.ntmps125
  exact f25
theorem f76 {p : Prop} (h : p := by
 go_wp2
 go_ret
 exact ⟨by rw [HRR.out, Qd (fun h => N1.out h.2.1)]; first | done | rfl, HB.out⟩) : p := h
theorem f87 {p : Prop} (h : p := by
 have N2 := Wd c2; clear c2
 have z0 := BP1.out.cell (j := 0) rfl
 go_wp2
 go_ret
 exact ⟨by rw [HRR.out, Qd (fun h => N2.out h.2.2.1)]; first | done | rfl, HB1.out⟩) : p := h
theorem qzq (hat : At w x p) (hbk : bulk x ≤ 274877906944) : Qh 126 #[.agg #[.pointer (some p)]] w (dec ((x.name.size = 0) ∧ (2 ≤ x.kids.length) ∧ (x.names.length = 0) ∧ (x.alts.length = 0) ∧ (Ql x))) := by
 obtain ⟨b1, b2, b3, b4, b5⟩ := Qz hbk
 have HBK := Wd hbk; clear hbk
 have HAT := Wd hat
 obtain ⟨A3, c3, A4, c4, A5, c5, A6, c6, hK, g0, g1, g2, g3, g4, g5, g6⟩ := hat
 have NM := Wd (Kt hK); have LM := Wd (Kz hK)
 clear hK
 have HB := Wd (Zv w (.cells #[.pointer (some p)] 114))
 have G0 := Wd g0
 have G1 := Wd g1
 have G2 := Wd g2
 have G3 := Wd g3
 have G4 := Wd g4
 have G5 := Wd g5
 have G6 := Wd g6
 clear g0 g1 g2 g3 g4 g5 g6
 unfold Qh
 obtain ⟨r, hrr⟩ : ∃ r, r = dec ((x.name.size = 0) ∧ (2 ≤ x.kids.length) ∧ (x.names.length = 0) ∧ (x.alts.length = 0) ∧ (Ql x)) := ⟨_, rfl⟩
 rw [← hrr]
 have HRR := Wd hrr; clear hrr
 by_cases c0 : x.name.size = 0
 case pos =>
  have e1 : x.name = ⟨#[]⟩ := Kj.1 c0
  by_cases c1 : 2 ≤ x.kids.length
  case pos =>
   have g1 := Cl HB.out G1.out
   have g5 := Cl HB.out G5.out
   rw [e1] at g1
   go_enter Tryz.func126, Tryz.ntmps126
   go_wp2_with fail
   obtain ⟨W1, hW1, hp1, hB1, hs1⟩ := boxed w [.pointer (some p)] 114
   rw [← hW1]
   have BP0 := Wd hp1; have HB0 := Wd hB1; clear hW1 hp1 hB1 hs1
   clear g1 g5
   refine (Ua (HAT.out.later HB0.out) HBK.out).mono ?_
   rintro e w2 ⟨rfl, hb⟩
   have HB1 := Wd (Below.step HB0.out hb); have BP1 := Wd (BP0.out.below hb); clear hb
   by_cases c2 : x.names.length = 0
   case pos =>
    rw [Qm c2]
    have C2 := Wd c2; clear c2
    have z0 := BP1.out.cell (j := 0) rfl
    go_wp2_with fail
    clear z0
    refine (Vv (HAT.out.later HB1.out) HBK.out).mono ?_
    rintro e w3 ⟨rfl, hb⟩
    have HB2 := Wd (Below.step HB1.out hb); have BP2 := Wd (BP1.out.below hb); clear hb
    by_cases c3 : x.alts.length = 0
    case pos =>
     rw [Qm c3]
     have C3 := Wd c3; clear c3
     have z0 := BP2.out.cell (j := 0) rfl
     go_wp2_with fail
     clear z0
     refine (Kf (HAT.out.later HB2.out) HBK.out).mono ?_
     rintro e w4 ⟨rfl, hb⟩
     have HB3 := Wd (Below.step HB2.out hb); have BP3 := Wd (BP2.out.below hb); clear hb
     by_cases c4 : Ql x
     case pos =>
      rw [show ((x.minus = false) ∧ (x.limbs.length = 0)) = Ql x from rfl, Qm c4]
      have C4 := Wd c4; clear c4
      have z0 := BP3.out.cell (j := 0) rfl
      go_wp2
      go_ret
      exact ⟨by rw [HRR.out, Qm ⟨c0, c1, C2.out, C3.out, C4.out⟩]; first | done | rfl, HB3.out⟩
     case neg =>
      rw [show ((x.minus = false) ∧ (x.limbs.length = 0)) = Ql x from rfl, Qd c4]
      have N4 := Wd c4; clear c4
      have z0 := BP3.out.cell (j := 0) rfl
      go_wp2
      go_ret
      exact ⟨by rw [HRR.out, Qd (fun h => N4.out h.2.2.2.2)]; first | done | rfl, HB3.out⟩
    case neg =>
     rw [Qd c3]
     have N3 := Wd c3; clear c3
     have z0 := BP2.out.cell (j := 0) rfl
     go_wp2
     go_ret
     exact ⟨by rw [HRR.out, Qd (fun h => N3.out h.2.2.2.1)]; first | done | rfl, HB2.out⟩
   case neg =>
    rw [Qd c2]
    exact f87
  case neg =>
   have N1 := Wd c1
   have g1 := Cl HB.out G1.out
   have g5 := Cl HB.out G5.out
   rw [e1] at g1
   go_enter Tryz.func126, Tryz.ntmps126
   exact f76
 case neg =>
  have N0 := Wd c0
  have q1 := Jh (s := x.name) (by omega); have q2 := Xl (s := x.name) (by omega)
  have g1 := Cl HB.out G1.out
  go_enter Tryz.func126, Tryz.ntmps126
  exact f25
theorem qvr (hat : At w x p) (hbk : bulk x ≤ 274877906944) : Qh 133 #[.agg #[.pointer (some p)]] w (dec ((0 < x.name.size) ∧ (x.name.size ≤ 60000) ∧ (qdh x) ∧ (Ql x))) := by
 obtain ⟨b1, b2, b3, b4, b5⟩ := Qz hbk
 have HBK := Wd hbk; clear hbk
 have HAT := Wd hat
 obtain ⟨A3, c3, A4, c4, A5, c5, A6, c6, hK, g0, g1, g2, g3, g4, g5, g6⟩ := hat
 have NM := Wd (Kt hK); have LM := Wd (Kz hK)
 clear hK
 have HB := Wd (Zv w (.cells #[.pointer (some p)] 119))
 have G0 := Wd g0
 have G1 := Wd g1
 have G2 := Wd g2
 have G3 := Wd g3
 have G4 := Wd g4
 have G5 := Wd g5
 have G6 := Wd g6
 clear g0 g1 g2 g3 g4 g5 g6
 unfold Qh
 obtain ⟨r, hrr⟩ : ∃ r, r = dec ((0 < x.name.size) ∧ (x.name.size ≤ 60000) ∧ (qdh x) ∧ (Ql x)) := ⟨_, rfl⟩
 rw [← hrr]
 have HRR := Wd hrr; clear hrr
 by_cases c0 : 0 < x.name.size
 case pos =>
  have q1 := Jh c0; have q2 := Xl c0
  by_cases c1 : x.name.size ≤ 60000
  case pos =>
   have g1 := Cl HB.out G1.out
   go_enter Tryz.func133, Tryz.ntmps133
   go_wp2_with fail
   obtain ⟨W1, hW1, hp1, hB1, hs1⟩ := boxed w [.pointer (some p)] 119
   rw [← hW1]
   have BP0 := Wd hp1; have HB0 := Wd hB1; clear hW1 hp1 hB1 hs1
   clear g1
   refine (qiv (HAT.out.later HB0.out) HBK.out).mono ?_
   rintro e w2 ⟨rfl, hb⟩
   have HB1 := Wd (Below.step HB0.out hb); have BP1 := Wd (BP0.out.below hb); clear hb
   by_cases c2 : qdh x
   case pos =>
    rw [show ((x.names.length = 0) ∧ (x.alts.length = 0) ∧ (x.kids.length = 0)) = qdh x from rfl, Qm c2]
    have C2 := Wd c2; clear c2
    have z0 := BP1.out.cell (j := 0) rfl
    go_wp2_with fail
    clear z0
    refine (Kf (HAT.out.later HB1.out) HBK.out).mono ?_
    rintro e w3 ⟨rfl, hb⟩
    have HB2 := Wd (Below.step HB1.out hb); have BP2 := Wd (BP1.out.below hb); clear hb
    by_cases c3 : Ql x
    case pos =>
     rw [show ((x.minus = false) ∧ (x.limbs.length = 0)) = Ql x from rfl, Qm c3]
     have C3 := Wd c3; clear c3
     have z0 := BP2.out.cell (j := 0) rfl
     go_wp2
     go_ret
     exact ⟨by rw [HRR.out, Qm ⟨c0, c1, C2.out, C3.out⟩]; first | done | rfl, HB2.out⟩
    case neg =>
     rw [show ((x.minus = false) ∧ (x.limbs.length = 0)) = Ql x from rfl, Qd c3]
     have N3 := Wd c3; clear c3
     have z0 := BP2.out.cell (j := 0) rfl
     go_wp2
     go_ret
     exact ⟨by rw [HRR.out, Qd (fun h => N3.out h.2.2.2)]; first | done | rfl, HB2.out⟩
   case neg =>
    rw [show ((x.names.length = 0) ∧ (x.alts.length = 0) ∧ (x.kids.length = 0)) = qdh x from rfl, Qd c2]
    exact f87
  case neg =>
   have N1 := Wd c1
   have g1 := Cl HB.out G1.out
   go_enter Tryz.func133, Tryz.ntmps133
   exact f76
 case neg =>
  have N0 := Wd c0
  have e1 : x.name = ⟨#[]⟩ := Kj.1 (by omega)
  have g1 := Cl HB.out G1.out
  rw [e1] at g1
  go_enter Tryz.func133, Tryz.ntmps133
  exact f25
theorem qzs (hat : At w x p) (hbk : bulk x ≤ 274877906944) : Qh 127 #[.agg #[.pointer (some p)]] w (dec ((x.name.size = 0) ∧ (x.kids.length = 1) ∧ (0 < x.names.length) ∧ (Zh x.names) ∧ (x.alts.length = 0) ∧ (Ql x))) := by
 obtain ⟨b1, b2, b3, b4, b5⟩ := Qz hbk
 have HBK := Wd hbk; clear hbk
 have HAT := Wd hat
 obtain ⟨A3, c3, A4, c4, A5, c5, A6, c6, hK, g0, g1, g2, g3, g4, g5, g6⟩ := hat
 have NM := Wd (Kt hK); have LM := Wd (Kz hK)
 clear hK
 have HB := Wd (Zv w (.cells #[.pointer (some p)] 115))
 have G0 := Wd g0
 have G1 := Wd g1
 have G2 := Wd g2
 have G3 := Wd g3
 have G4 := Wd g4
 have G5 := Wd g5
 have G6 := Wd g6
 clear g0 g1 g2 g3 g4 g5 g6
 unfold Qh
 obtain ⟨r, hrr⟩ : ∃ r, r = dec ((x.name.size = 0) ∧ (x.kids.length = 1) ∧ (0 < x.names.length) ∧ (Zh x.names) ∧ (x.alts.length = 0) ∧ (Ql x)) := ⟨_, rfl⟩
 rw [← hrr]
 have HRR := Wd hrr; clear hrr
 by_cases c0 : x.name.size = 0
 case pos =>
  have e1 : x.name = ⟨#[]⟩ := Kj.1 c0
  by_cases c1 : x.kids.length = 1
  case pos =>
   have qkids : ((x.kids.length : Int) == 1) = true := beq_iff_eq.2 (by omega)
   by_cases c2 : 0 < x.names.length
   case pos =>
    have g1 := Cl HB.out G1.out
    have g4 := Cl HB.out G4.out
    have g5 := Cl HB.out G5.out
    rw [e1] at g1
    go_enter Tryz.func127, Tryz.ntmps127
    go_wp2_with fail
    obtain ⟨W1, hW1, hp1, hB1, hs1⟩ := boxed w [.pointer (some p)] 115
    rw [← hW1]
    have BP0 := Wd hp1; have HB0 := Wd hB1; clear hW1 hp1 hB1 hs1
    clear g1 g4 g5
    refine (qbj x.names (qil HBK.out) b4 _ _ _ (Kd.C_below NM.out.2 HB0.out) NM.out.1).mono ?_
    rintro e w2 ⟨rfl, hb⟩
    have HB1 := Wd (Below.step HB0.out hb); have BP1 := Wd (BP0.out.below hb); clear hb
    by_cases c3 : Zh x.names
    case pos =>
     rw [Qm c3]
     have C3 := Wd c3; clear c3
     have z0 := BP1.out.cell (j := 0) rfl
     go_wp2_with fail
     clear z0
     refine (Vv (HAT.out.later HB1.out) HBK.out).mono ?_
     rintro e w3 ⟨rfl, hb⟩
     have HB2 := Wd (Below.step HB1.out hb); have BP2 := Wd (BP1.out.below hb); clear hb
     by_cases c4 : x.alts.length = 0
     case pos =>
      rw [Qm c4]
      have C4 := Wd c4; clear c4
      have z0 := BP2.out.cell (j := 0) rfl
      go_wp2_with fail
      clear z0
      refine (Kf (HAT.out.later HB2.out) HBK.out).mono ?_
      rintro e w4 ⟨rfl, hb⟩
      have HB3 := Wd (Below.step HB2.out hb); have BP3 := Wd (BP2.out.below hb); clear hb
      by_cases c5 : Ql x
      case pos =>
       rw [show ((x.minus = false) ∧ (x.limbs.length = 0)) = Ql x from rfl, Qm c5]
       have C5 := Wd c5; clear c5
       have z0 := BP3.out.cell (j := 0) rfl
       go_wp2
       go_ret
       exact ⟨by rw [HRR.out, Qm ⟨c0, c1, c2, C3.out, C4.out, C5.out⟩]; first | done | rfl, HB3.out⟩
      case neg =>
       rw [show ((x.minus = false) ∧ (x.limbs.length = 0)) = Ql x from rfl, Qd c5]
       have N5 := Wd c5; clear c5
       have z0 := BP3.out.cell (j := 0) rfl
       go_wp2
       go_ret
       exact ⟨by rw [HRR.out, Qd (fun h => N5.out h.2.2.2.2.2)]; first | done | rfl, HB3.out⟩
     case neg =>
      rw [Qd c4]
      have N4 := Wd c4; clear c4
      have z0 := BP2.out.cell (j := 0) rfl
      go_wp2
      go_ret
      exact ⟨by rw [HRR.out, Qd (fun h => N4.out h.2.2.2.2.1)]; first | done | rfl, HB2.out⟩
    case neg =>
     rw [Qd c3]
     have N3 := Wd c3; clear c3
     have z0 := BP1.out.cell (j := 0) rfl
     go_wp2
     go_ret
     exact ⟨by rw [HRR.out, Qd (fun h => N3.out h.2.2.2.1)]; first | done | rfl, HB1.out⟩
   case neg =>
    have N2 := Wd c2
    have g1 := Cl HB.out G1.out
    have g4 := Cl HB.out G4.out
    have g5 := Cl HB.out G5.out
    rw [e1] at g1
    go_enter Tryz.func127, Tryz.ntmps127
    go_wp2
    go_ret
    exact ⟨by rw [HRR.out, Qd (fun h => N2.out h.2.2.1)]; first | done | rfl, HB.out⟩
  case neg =>
   have N1 := Wd c1
   have qkids : ((x.kids.length : Int) == 1) = false := beq_eq_false_iff_ne.2 (by omega)
   have g1 := Cl HB.out G1.out
   have g5 := Cl HB.out G5.out
   rw [e1] at g1
   go_enter Tryz.func127, Tryz.ntmps127
   exact f76
 case neg =>
  have N0 := Wd c0
  have q1 := Jh (s := x.name) (by omega); have q2 := Xl (s := x.name) (by omega)
  have g1 := Cl HB.out G1.out
  go_enter Tryz.func127, Tryz.ntmps127
  exact f25
end
end Go.Proofs.YtnoammmohdmnjaaGreat.C13
