import Derived.Test.YtnoammmohdmnjaaGreatU5
set_option maxRecDepth 100000
set_option maxHeartbeats 16000000
set_option linter.unusedVariables false
set_option linter.unusedSimpArgs false
namespace Go.Proofs.YtnoammmohdmnjaaGreat.C13
open Go Go.RowKit Go.Proofs.YtnoammmohdmnjaaGreatW.PrintLast
open List renaming setIfInBounds_toArray → Jla, set_cons_zero → Jlb, set_cons_succ → Jlc
structure But (F : List Nat) (w w' : World) : Prop where
 os : w'.os = w.os
 tape : w'.tape = w.tape
 output : w'.output = w.output
 size : w.heap.size ≤ w'.heap.size
 block : ∀ i, i < w.heap.size → i ∉ F → w'.heap[i]? = w.heap[i]?
theorem But.refl (F : List Nat) (w : World) : But F w w := ⟨rfl, rfl, rfl, Nat.le_refl _, fun _ _ _ => rfl⟩
theorem But.trans {F : List Nat} {a b c : World} (h : But F a b) (k : But F b c) : But F a c :=
 ⟨k.os.trans h.os, k.tape.trans h.tape, k.output.trans h.output, Nat.le_trans h.size k.size, fun i hi hn => (k.block i (Nat.lt_of_lt_of_le hi h.size) hn).trans (h.block i hi hn)⟩
theorem But.mono {F G : List Nat} {a b : World} (h : But F a b) (hFG : ∀ k ∈ F, k ∈ G) : But G a b := ⟨h.os, h.tape, h.output, h.size, fun i hi hn => h.block i hi (fun hk => hn (hFG i hk))⟩
theorem But.of_below {F : List Nat} {a b : World} (h : Below a.heap.size a b) : But F a b := ⟨h.os, h.tape, h.output, h.size, fun i hi _ => h.block i hi⟩
theorem But.of_grown {g : Nat} {a b : World} (h : a.grownBy b (some g)) : But [g] a b := ⟨h.os, h.tape, h.output, h.size, fun i hi hn => h.block i hi (fun e => hn (by injection e with e; simp [e]))⟩
theorem But.blk {F : List Nat} {a b : World} (h : But F a b) {g : Nat} {e : TypeId} {cs : List Value} (hb : Blk a g e cs) (hn : g ∉ F) : Blk b g e cs := hb.move (h.block g hb.lt hn)
theorem But.row {F : List Nat} {a b : World} (h : But F a b) {e : TypeId} {v : Value} {n : Nat} {cells : List Value} {G : List Nat} (hr : Row a e v n cells G) (hn : ∀ k ∈ G, k ∉ F) : Row b e v n cells G := hr.move (fun k hk => h.block k (hr.lt k hk) (hn k hk))
theorem But.below {F : List Nat} {a b : World} (h : But F a b) {B : Nat} (hF : ∀ k ∈ F, B ≤ k) (hB : B ≤ a.heap.size) : Below B a b := ⟨h.os, h.tape, h.output, h.size, fun i hi => h.block i (Nat.lt_of_lt_of_le hi hB) (fun hk => by have := hF i hk; omega)⟩
structure Guar (F : List Nat) (w w' : World) (F' : List Nat) : Prop where
 but : But F w w'
 sub : ∀ k ∈ F', k ∈ F ∨ w.heap.size ≤ k
 lt : ∀ k ∈ F', k < w'.heap.size
 nd : F'.Nodup
def Keep (F : List Nat) (w w' : World) : Prop := w.heap.size ≤ w'.heap.size ∧ ∀ k ∈ F, w'.heap[k]? = w.heap[k]?
theorem Keep.refl (F : List Nat) (w : World) : Keep F w w := ⟨Nat.le_refl _, fun _ _ => rfl⟩
theorem Keep.trans {F : List Nat} {a b c : World} (h : Keep F a b) (k : Keep F b c) : Keep F a c := ⟨Nat.le_trans h.1 k.1, fun i hi => (k.2 i hi).trans (h.2 i hi)⟩
theorem Keep.left {F G : List Nat} {a b : World} (h : Keep (F ++ G) a b) : Keep F a b := ⟨h.1, fun i hi => h.2 i (List.mem_append_left _ hi)⟩
theorem Keep.right {F G : List Nat} {a b : World} (h : Keep (F ++ G) a b) : Keep G a b := ⟨h.1, fun i hi => h.2 i (List.mem_append_right _ hi)⟩
theorem Guar.keep {F F' G : List Nat} {a b : World} (h : Guar F a b F') (hlt : ∀ k ∈ G, k < a.heap.size) (hd : ∀ k ∈ G, k ∉ F) : Keep G a b := ⟨h.but.size, fun k hk => h.but.block k (hlt k hk) (hd k hk)⟩
def NP (Lo : Prop) : Exit → Act → World → Prop
 | .outgrown, _, _ => Lo
 | _, _, _ => False
theorem qqh {Lo : Prop} (h : LetsOut (NP Lo)) : Lo := by obtain ⟨_, _, h⟩ := h; exact h
def qnx (a : Act) : Tmp → Value := fun t => a.tmps.getD t undef
def qde (a : Act) (ds : List Tmp) (u : Tmp → Value) : Act := ds.foldl (fun a d => a.put (some d) (u d)) a
section
variable (P : Program) (ops : Array Oper) (Lo : Prop) (w0 : World)
def qhf (R : List Nat) (i : Nat) : Bool :=
 match ops[i]? with
 | some o => o.after.all fun e => !Region.binds .any e || !R.contains e.on
 | none => false
def stepT (i : Nat) (a : Act) (w : World) (K : Act → World → Prop) : Prop :=
 ∃ o, ops[i]? = some o ∧ (∀ K' : Act → World → Prop, (∀ a w, K a w → K' a w) → if Region.wanted o (yielded ops a.tmps) = true then Oper.wp P o a w K' (NP Lo) else K' (a.put o.dst undef) w)
def Thr (Post : (Tmp → Value) → World → List Nat → Prop) : Nat → List Nat → Act → World → List Nat → Prop
 | 0, R, a, w, F => R = [] ∧ ∀ w', Below w0.heap.size w0 w' → Keep F w w' → Post (qnx a) w' F
 | n + 1, R, a, w, F => (R = [] → ∀ w', Below w0.heap.size w0 w' → Keep F w w' → Post (qnx a) w' F) ∧
   ∀ i ∈ R, qhf ops R i = true → ∀ w', Below w0.heap.size w0 w' → Keep F w w' →
    stepT P ops Lo i a w' (fun a'' w'' => a''.defers = a.defers ∧ Below w0.heap.size w0 w'' ∧ ∃ F'', Guar F w' w'' F'' ∧ Thr Post n (R.erase i) a'' w'' F'')
end
section
variable {P : Program} {ops : Array Oper} {Lo : Prop} {w0 : World} {Post : (Tmp → Value) → World → List Nat → Prop}
theorem Thr.keep {n : Nat} {R : List Nat} {a : Act} {w w2 : World} {F : List Nat} (h : Thr P ops Lo w0 Post n R a w F) (hk : Keep F w w2) : Thr P ops Lo w0 Post n R a w2 F := by
 cases n with
 | zero => exact ⟨h.1, fun w' hb hk' => h.2 w' hb (hk.trans hk')⟩
 | succ n => exact ⟨fun hR w' hb hk' => h.1 hR w' hb (hk.trans hk'), fun i hi hr w' hb hk' => h.2 i hi hr w' hb (hk.trans hk')⟩
theorem Thr.done (n : Nat) {a : Act} {w : World} {F : List Nat} (h : ∀ w', Below w0.heap.size w0 w' → Keep F w w' → Post (qnx a) w' F) : Thr P ops Lo w0 Post n [] a w F := by
 cases n with
 | zero => exact ⟨rfl, h⟩
 | succ n => exact ⟨fun _ => h, fun i hi => by cases hi⟩
theorem Thr.end {n : Nat} {a : Act} {w : World} {F : List Nat} (h : Thr P ops Lo w0 Post n [] a w F) : ∀ w', Below w0.heap.size w0 w' → Keep F w w' → Post (qnx a) w' F := by
 cases n with
 | zero => exact h.2
 | succ n => exact h.1 rfl
theorem Thr.mono_fuel {n : Nat} : ∀ {m : Nat} {R : List Nat} {a : Act} {w : World} {F : List Nat}, Thr P ops Lo w0 Post m R a w F → Thr P ops Lo w0 Post (m + n) R a w F := by
 intro m
 induction m with
 | zero => intro R a w F h; have := h.1; subst this; exact Thr.done _ h.2
 | succ m ih =>
  intro R a w F h
  rw [show m + 1 + n = (m + n) + 1 by omega]
  refine ⟨h.1, fun i hi hr w' hb hk => ?_⟩
  obtain ⟨o, ho, hst⟩ := h.2 i hi hr w' hb hk
  refine ⟨o, ho, fun K' hK => hst K' (fun a'' w'' ⟨h1, h2, F'', h3, h4⟩ => hK _ _ ⟨h1, h2, F'', h3, ih h4⟩)⟩
theorem Thr.step {n i : Nat} {rest : List Nat} {a : Act} {w : World} {F : List Nat} {o : Oper} (N : Option Tmp) (hi : ops[i]? = some o) (hN : o.dst = N) (hB : rest.all (fun j => !qhf ops (i :: rest) j) = true)
  (h : ∀ w', Below w0.heap.size w0 w' → Keep F w w' → ∀ K : Act → World → Prop,
   Shut (∀ a'' w'' F'', a''.defers = a.defers → Below w0.heap.size w0 w'' → Guar F w' w'' F'' → Thr P ops Lo w0 Post n rest a'' w'' F'' → K a'' w'') →
   if Region.wanted o (yielded ops a.tmps) = true then Oper.wp P o a w' K (NP Lo) else K (a.put N undef) w') : Thr P ops Lo w0 Post (n + 1) (i :: rest) a w F := by
 subst hN
 refine ⟨(fun h => by cases h), fun j hj hr w' hb hk => ?_⟩
 have hji : j = i := by
  rcases List.mem_cons.1 hj with h | h
  ·exact h
  ·have := List.all_eq_true.1 hB j h
   rw [hr] at this
   cases this
 subst hji
 refine ⟨o, hi, fun K' hK => h w' hb hk K' (fun a'' w'' F'' h1 h2 h3 h4 => hK _ _ ⟨h1, h2, F'', h3, by simpa using h4⟩)⟩
def qev (ops : Array Oper) (T : List Nat) : List Tmp := T.flatMap fun i => match ops[i]? with | some o => o.dst.toList ++ o.looksAt ops | none => []
def qpu (ops : Array Oper) (T : List Nat) : List Tmp := T.flatMap fun i => match ops[i]? with | some o => o.dst.toList | none => []
def disj (A B : List Nat) : Bool := A.all fun a => !B.contains a
def parB (ops : Array Oper) (T1 T2 : List Nat) (o1 o2 : List Tmp) : Bool :=
 Region.noSelect ops && disj T1 T2 && disj (qpu ops T1) (qev ops T2) && disj (qpu ops T2) (qev ops T1) && (o1.all fun t => (qev ops T1).contains t) && (o2.all fun t => (qev ops T2).contains t)
theorem qfv {A B : List Nat} (h : disj A B = true) : ∀ a ∈ A, a ∉ B := fun a ha hb => by
 have := List.all_eq_true.1 h a ha
 simp [hb] at this
def qpf (X : List Tmp) (a a1 : Act) : Prop := ∀ t ∈ X, a.tmps[t]? = a1.tmps[t]?
theorem getD_of_getElem? {a a1 : Act} {t : Tmp} (h : a.tmps[t]? = a1.tmps[t]?) : a.tmps.getD t undef = a1.tmps.getD t undef := by
 simp only [Array.getD_eq_getD_getElem?, h]
theorem qhp {o : Oper} {a a1 : Act} (hs : ∀ cs b, o.op ≠ .select cs b) (h : ∀ t ∈ o.looksAt ops, a.tmps[t]? = a1.tmps[t]?) : execOp a.eval o = execOp a1.eval o :=
 execOp_congr o hs fun x hx => by
  cases x with
  | tmp t => exact getD_of_getElem? (h t (List.mem_append_left _ (List.mem_filterMap.2 ⟨.tmp t, by simpa using hx, rfl⟩)))
  | _ => rfl
theorem qea {o : Oper} {a a1 : Act} (h : ∀ t ∈ o.looksAt ops, a.tmps[t]? = a1.tmps[t]?) : Region.wanted o (yielded ops a.tmps) = Region.wanted o (yielded ops a1.tmps) := by
 unfold Region.wanted
 cases hg : o.guard with
 | none => rfl
 | some gw =>
  obtain ⟨g, want⟩ := gw
  have hy : yielded ops a.tmps g = yielded ops a1.tmps g := by
   unfold yielded
   cases ht : (ops[g]?).bind (·.dst) with
   | none => rfl
   | some t =>
    have := h t (by simp [Oper.looksAt, hg, ht])
    simp [this]
  simp only [hy]
theorem qdv (a : Act) (d : Option Tmp) (v : Value) (t : Tmp) (h : ∀ e, d = some e → e ≠ t) : (a.put d v).tmps[t]? = a.tmps[t]? := by
 cases d with
 | none => rfl
 | some e => exact Array.getElem?_setIfInBounds_ne (h e rfl)
theorem qlk {X : List Tmp} {a a1 : Act} (h : qpf X a a1) (d : Option Tmp) (hd : ∀ e, d = some e → e ∈ X) (v : Value) : qpf X (a.put d v) (a1.put d v) := by
 intro t ht
 cases d with
 | none => exact h t ht
 | some e =>
  by_cases het : e = t
  ·subst het
   have := h e ht
   simp only [Act.put, Array.getElem?_setIfInBounds]
   simp only [if_true]
   have hs : (e < a.tmps.size) ↔ (e < a1.tmps.size) := by
    constructor
    ·intro hlt
     rw [Array.getElem?_eq_getElem hlt] at this
     exact (Array.getElem?_eq_some_iff.1 this.symm).1
    ·intro hlt
     rw [Array.getElem?_eq_getElem hlt] at this
     exact (Array.getElem?_eq_some_iff.1 this).1
   by_cases hlt : e < a.tmps.size
   ·rw [if_pos hlt, if_pos (hs.1 hlt)]
   ·rw [if_neg hlt, if_neg (fun h => hlt (hs.2 h))]
  ·rw [qdv _ _ _ _ (fun f hf => by cases hf; exact het), qdv _ _ _ _ (fun f hf => by cases hf; exact het)]
   exact h t ht
theorem Ji (a : Act) (d : Option Tmp) (v : Value) : (a.put d v).defers = a.defers := by cases d <;> rfl
theorem Hs {o : Oper} {a a1 : Act} {w : World} {N K : Act → World → Prop} {Q Q' : Exit → Act → World → Prop} (he : execOp a.eval o = execOp a1.eval o) (hw : Region.wanted o (yielded ops a.tmps) = Region.wanted o (yielded ops a1.tmps))
  (hd : ∀ b w, N b w → b.defers = a1.defers) (hL : LetsOut Q → LetsOut Q') (hP : ∀ c w, Q (.panic c) a1 w → Q' (.panic c) a w) (hK : ∀ v w', N (a1.put o.dst v) w' → K (a.put o.dst v) w')
  (h : if Region.wanted o (yielded ops a1.tmps) = true then Oper.wp P o a1 w N Q else N (a1.put o.dst undef) w) : if Region.wanted o (yielded ops a.tmps) = true then Oper.wp P o a w K Q' else K (a.put o.dst undef) w := by
 rw [hw]
 split
 ·rename_i hw
  rw [if_pos hw] at h
  unfold Oper.wp at *
  rw [he]
  generalize (execOp a1.eval o).run P w = r at *
  cases r with
  | ok n w' =>
   cases n <;> simp only [Oper.upon] at h ⊢
   case value u => exact hK _ _ h
   case skip => exact hK _ _ h
   case defer d =>
    have := hd _ _ h
    rw [Ji] at this
    simp at this
   case enter f args =>
    refine Calls.mono h fun e w'' hq => ?_
    cases e with
    | returned u => exact hK _ _ hq
    | panicked c => exact hP _ _ hq
    | outgrown => exact hL hq
   case row row args => exact Rows.mono h fun u w'' hq => hK _ _ hq
  | halt x w' =>
   cases x <;> simp only [Oper.upon] at h ⊢
   case panic u => exact hP _ _ h
 ·rename_i hw
  rw [if_neg hw] at h
  exact hK _ _ h
theorem qjl {T : List Nat} {i : Nat} {o : Oper} (hi : i ∈ T) (ho : ops[i]? = some o) {d : Tmp} (hd : o.dst = some d) : d ∈ qpu ops T :=
 List.mem_flatMap.2 ⟨i, hi, by rw [ho]; simp [hd]⟩
theorem qcq {T : List Nat} {i : Nat} {o : Oper} (hi : i ∈ T) (ho : ops[i]? = some o) {d : Tmp} (hd : o.dst = some d) : d ∈ qev ops T :=
 List.mem_flatMap.2 ⟨i, hi, by rw [ho]; simp [hd]⟩
theorem qle {T : List Nat} {i : Nat} {o : Oper} (hi : i ∈ T) (ho : ops[i]? = some o) {d : Tmp} (hd : d ∈ o.looksAt ops) : d ∈ qev ops T :=
 List.mem_flatMap.2 ⟨i, hi, by rw [ho]; simp [hd]⟩
theorem qgr {R1 R2 : List Nat} {i : Nat} (h : qhf ops (R1 ++ R2) i = true) : qhf ops R1 i = true := by
 unfold qhf at *
 split at h
 ·rename_i o ho
  refine Array.all_eq_true_iff_forall_mem.2 fun e he => ?_
  have := Array.all_eq_true_iff_forall_mem.1 h e he
  simp only [Bool.or_eq_true, Bool.not_eq_true', List.contains_append, Bool.or_eq_false_iff] at this ⊢
  exact this.imp id (·.1)
 ·exact h
theorem qqo {R1 R2 : List Nat} {i : Nat} (h : qhf ops (R1 ++ R2) i = true) : qhf ops R2 i = true := by
 unfold qhf at *
 split at h
 ·rename_i o ho
  refine Array.all_eq_true_iff_forall_mem.2 fun e he => ?_
  have := Array.all_eq_true_iff_forall_mem.1 h e he
  simp only [Bool.or_eq_true, Bool.not_eq_true', List.contains_append, Bool.or_eq_false_iff] at this ⊢
  exact this.imp id (·.2)
 ·exact h
def Both (o1 o2 : List Tmp) (P1 P2 : List Value → World → List Nat → Prop) (u : Tmp → Value) (w : World) (F : List Nat) : Prop := ∃ F1 F2, F = F1 ++ F2 ∧ P1 (o1.map u) w F1 ∧ P2 (o2.map u) w F2
theorem Both.mk' {o1 o2 : List Tmp} {P1 P2 : List Value → World → List Nat → Prop} {u : Tmp → Value} {w : World} {F1 F2 : List Nat} (h1 : P1 (o1.map u) w F1) (h2 : P2 (o2.map u) w F2) : Both o1 o2 P1 P2 u w (F1 ++ F2) := ⟨F1, F2, rfl, h1, h2⟩
theorem Thr.par_aux {T1 T2 : List Nat} {o1 o2 : List Tmp} (hB : parB ops T1 T2 o1 o2 = true) {P1 P2 : List Value → World → List Nat → Prop} :
  ∀ (n n1 n2 : Nat), n = n1 + n2 → ∀ (R1 R2 : List Nat) (a a1 a2 : Act) (w : World) (F1 F2 : List Nat), (∀ i ∈ R1, i ∈ T1) → (∀ i ∈ R2, i ∈ T2) →
   qpf (qev ops T1) a a1 → qpf (qev ops T2) a a2 → a.defers = a1.defers → a.defers = a2.defers → w0.heap.size ≤ w.heap.size →
   (∀ k ∈ F1, k < w.heap.size) → (∀ k ∈ F2, k < w.heap.size) → F1.Nodup → F2.Nodup → (∀ k ∈ F1, k ∉ F2) →
   Thr P ops Lo w0 (fun u => P1 (o1.map u)) n1 R1 a1 w F1 → Thr P ops Lo w0 (fun u => P2 (o2.map u)) n2 R2 a2 w F2 →
   Thr P ops Lo w0 (Both o1 o2 P1 P2) n (R1 ++ R2) a w (F1 ++ F2) := by
 simp only [parB, Bool.and_eq_true] at hB
 obtain ⟨⟨⟨⟨⟨hsel, hT⟩, hd1⟩, hd2⟩, ho1⟩, ho2⟩ := hB
 have hT' := qfv hT
 have hd1' := qfv hd1
 have hd2' := qfv hd2
 have ho1' : ∀ t ∈ o1, t ∈ qev ops T1 := fun t ht => by simpa using List.all_eq_true.1 ho1 t ht
 have ho2' : ∀ t ∈ o2, t ∈ qev ops T2 := fun t ht => by simpa using List.all_eq_true.1 ho2 t ht
 have hend : ∀ (a a1 a2 : Act) (w : World) (F1 F2 : List Nat) (n1 n2 : Nat), qpf (qev ops T1) a a1 → qpf (qev ops T2) a a2 → Thr P ops Lo w0 (fun u => P1 (o1.map u)) n1 [] a1 w F1 → Thr P ops Lo w0 (fun u => P2 (o2.map u)) n2 [] a2 w F2 →
   ∀ w', Below w0.heap.size w0 w' → Keep (F1 ++ F2) w w' → Both o1 o2 P1 P2 (qnx a) w' (F1 ++ F2) := by
  intro a a1 a2 w F1 F2 n1 n2 g1 g2 h1 h2 w' hb hk
  have e1 : o1.map (qnx a) = o1.map (qnx a1) := List.map_congr_left fun t ht => getD_of_getElem? (g1 t (ho1' t ht))
  have e2 : o2.map (qnx a) = o2.map (qnx a2) := List.map_congr_left fun t ht => getD_of_getElem? (g2 t (ho2' t ht))
  refine Both.mk' ?_ ?_
  ·rw [e1]; exact h1.end w' hb hk.left
  ·rw [e2]; exact h2.end w' hb hk.right
 intro n
 induction n with
 | zero =>
  intro n1 n2 hn R1 R2 a a1 a2 w F1 F2 s1 s2 g1 g2 f1 f2 hsz l1 l2 d1 d2 hd h1 h2
  obtain rfl : n1 = 0 := by omega
  obtain rfl : n2 = 0 := by omega
  have r1 := h1.1
  have r2 := h2.1
  subst r1; subst r2
  exact ⟨rfl, hend a a1 a2 w F1 F2 0 0 g1 g2 h1 h2⟩
 | succ n ih =>
  intro n1 n2 hn R1 R2 a a1 a2 w F1 F2 s1 s2 g1 g2 f1 f2 hsz l1 l2 d1 d2 hd h1 h2
  refine ⟨fun hR => ?_, fun i hi hr w' hb hk => ?_⟩
  ·have r1 : R1 = [] := (List.append_eq_nil_iff.1 hR).1
   have r2 : R2 = [] := (List.append_eq_nil_iff.1 hR).2
   subst r1; subst r2
   exact hend a a1 a2 w F1 F2 n1 n2 g1 g2 h1 h2
  ·have hk1 := hk.left
   have hk2 := hk.right
   have l1' : ∀ k ∈ F1, k < w'.heap.size := fun k hk' => Nat.lt_of_lt_of_le (l1 k hk') hk.1
   have l2' : ∀ k ∈ F2, k < w'.heap.size := fun k hk' => Nat.lt_of_lt_of_le (l2 k hk') hk.1
   rcases List.mem_append.1 hi with hi1 | hi2
   ·-- a step of the first
    have hiT := s1 i hi1
    cases n1 with
    | zero => have := h1.1; subst this; cases hi1
    | succ m1 =>
     obtain ⟨o, ho, hst⟩ := h1.2 i hi1 (qgr hr) w' hb hk1
     refine ⟨o, ho, fun K' hK => ?_⟩
     have look : ∀ t ∈ o.looksAt ops, a.tmps[t]? = a1.tmps[t]? := fun t ht => g1 t (qle hiT ho ht)
     refine Hs (qhp (Region.noSelect_spec hsel i o · · ho) look) (qea look) (N := fun a'' w'' => a''.defers = a1.defers ∧ Below w0.heap.size w0 w'' ∧ ∃ F'', Guar F1 w' w'' F'' ∧ Thr P ops Lo w0 (fun u => P1 (o1.map u)) m1 (R1.erase i) a'' w'' F'') (Q := NP Lo)
      (fun b w h => h.1) id (fun c w h => h.elim) (fun v w'' hN => ?_) (hst _ (fun a w h => h))
     obtain ⟨hdf, hbl, F'', hG, hThr⟩ := hN
     refine hK _ _ ⟨Ji _ _ _, hbl, F'' ++ F2, ?_, ?_⟩
     ·refine ⟨hG.but.mono (fun k hk => List.mem_append_left _ hk), fun k hk => ?_, fun k hk => ?_, ?_⟩
      ·rcases List.mem_append.1 hk with hk | hk
       ·exact (hG.sub k hk).imp (List.mem_append_left _) id
       ·exact .inl (List.mem_append_right _ hk)
      ·rcases List.mem_append.1 hk with hk | hk
       ·exact hG.lt k hk
       ·exact Nat.lt_of_lt_of_le (l2' k hk) hG.but.size
      ·refine List.nodup_append.2 ⟨hG.nd, d2, fun x hx y hy => ?_⟩
       rintro rfl
       rcases hG.sub x hx with h | h
       ·exact hd x h hy
       ·have := l2' x hy; omega
     ·rw [List.erase_append_left _ hi1]
      have kk : Keep F2 w' w'' := hG.keep l2' (fun k hk h => hd k h hk)
      refine ih m1 n2 (by omega) _ _ _ _ _ _ _ _ (fun j hj => s1 j (List.mem_of_mem_erase hj)) s2 (qlk g1 _ (fun e he => qcq hiT ho he) v) (fun t ht => ?_) (by rw [Ji, Ji]; exact f1) (by rw [Ji]; exact f2)
       (Nat.le_trans (Nat.le_trans hsz hk.1) hG.but.size) hG.lt (fun k hk => Nat.lt_of_lt_of_le (l2' k hk) hG.but.size) hG.nd d2 (fun k hk h => ?_) hThr ((h2.keep hk2).keep kk)
      ·rw [qdv _ _ _ _ (fun e he het => hd1' e (qjl hiT ho he) (het ▸ ht))]; exact g2 t ht
      ·rcases hG.sub k hk with h' | h'
       ·exact hd k h' h
       ·have := l2' k h; omega
   ·have hi1 : i ∉ R1 := fun h => hT' i (s1 i h) (s2 i hi2)
    have hiT := s2 i hi2
    cases n2 with
    | zero => have := h2.1; subst this; cases hi2
    | succ m2 =>
     obtain ⟨o, ho, hst⟩ := h2.2 i hi2 (qqo hr) w' hb hk2
     refine ⟨o, ho, fun K' hK => ?_⟩
     have look : ∀ t ∈ o.looksAt ops, a.tmps[t]? = a2.tmps[t]? := fun t ht => g2 t (qle hiT ho ht)
     refine Hs (qhp (Region.noSelect_spec hsel i o · · ho) look) (qea look) (N := fun a'' w'' => a''.defers = a2.defers ∧ Below w0.heap.size w0 w'' ∧ ∃ F'', Guar F2 w' w'' F'' ∧ Thr P ops Lo w0 (fun u => P2 (o2.map u)) m2 (R2.erase i) a'' w'' F'') (Q := NP Lo)
      (fun b w h => h.1) id (fun c w h => h.elim) (fun v w'' hN => ?_) (hst _ (fun a w h => h))
     obtain ⟨hdf, hbl, F'', hG, hThr⟩ := hN
     refine hK _ _ ⟨Ji _ _ _, hbl, F1 ++ F'', ?_, ?_⟩
     ·refine ⟨hG.but.mono (fun k hk => List.mem_append_right _ hk), fun k hk => ?_, fun k hk => ?_, ?_⟩
      ·rcases List.mem_append.1 hk with hk | hk
       ·exact .inl (List.mem_append_left _ hk)
       ·exact (hG.sub k hk).imp (List.mem_append_right _) id
      ·rcases List.mem_append.1 hk with hk | hk
       ·exact Nat.lt_of_lt_of_le (l1' k hk) hG.but.size
       ·exact hG.lt k hk
      ·refine List.nodup_append.2 ⟨d1, hG.nd, fun x hx y hy => ?_⟩
       rintro rfl
       rcases hG.sub x hy with h | h
       ·exact hd x hx h
       ·have := l1' x hx; omega
     ·rw [List.erase_append_right _ hi1]
      have kk : Keep F1 w' w'' := hG.keep l1' (fun k hk h => hd k hk h)
      refine ih n1 m2 (by omega) _ _ _ _ _ _ _ _ s1 (fun j hj => s2 j (List.mem_of_mem_erase hj)) (fun t ht => ?_) (qlk g2 _ (fun e he => qcq hiT ho he) v) (by rw [Ji]; exact f1) (by rw [Ji, Ji]; exact f2)
       (Nat.le_trans (Nat.le_trans hsz hk.1) hG.but.size) (fun k hk => Nat.lt_of_lt_of_le (l1' k hk) hG.but.size) hG.lt d1 hG.nd (fun k hk h => ?_) ((h1.keep hk1).keep kk) hThr
      ·rw [qdv _ _ _ _ (fun e he het => hd2' e (qjl hiT ho he) (het ▸ ht))]; exact g1 t ht
      ·rcases hG.sub k h with h' | h'
       ·exact hd k hk h'
       ·have := l1' k hk; omega
theorem Thr.par {T1 T2 : List Nat} (n1 n2 : Nat) (o1 o2 : List Tmp) (P1 P2 : List Value → World → List Nat → Prop) {a : Act} {w : World} (hB : parB ops T1 T2 o1 o2 = true) (hsz : w0.heap.size ≤ w.heap.size)
  (h1 : Thr P ops Lo w0 (fun u => P1 (o1.map u)) n1 T1 a w []) (h2 : Thr P ops Lo w0 (fun u => P2 (o2.map u)) n2 T2 a w []) : Thr P ops Lo w0 (Both o1 o2 P1 P2) (n1 + n2) (T1 ++ T2) a w [] :=
 Thr.par_aux hB (n1 + n2) n1 n2 rfl T1 T2 a a a w [] [] (fun _ h => h) (fun _ h => h) (fun _ _ => rfl) (fun _ _ => rfl) rfl rfl hsz (by simp) (by simp) (by simp) (by simp) (by simp) h1 h2
def qhb (ops : Array Oper) (c r : Nat) : Bool := match ops[c]? with | some o => o.after.any fun e => Region.binds .any e && e.on == r | none => false
def qni (ops : Array Oper) (T C : List Nat) : Bool :=
 match C with
 | [] => false
 | c :: C' => disj T C && (T.all fun x => (T.any fun y => decide (x < y) && qhb ops y x) || qhb ops c x) && (((c :: C').zip C').all fun p => qhb ops p.2 p.1)
theorem qdx {R : List Nat} {c r : Nat} (h : qhb ops c r = true) (hr : r ∈ R) : qhf ops R c = false := by
 unfold qhb at h
 unfold qhf
 split at h
 ·rename_i o ho
  obtain ⟨e, he, h1⟩ := Array.any_eq_true'.1 h
  simp only [Bool.and_eq_true, beq_iff_eq] at h1
  rw [Bool.eq_false_iff]
  intro hall
  have := Array.all_eq_true_iff_forall_mem.1 hall e he
  rw [h1.1, h1.2] at this
  simp [hr] at this
 ·cases h
def UpClosed (ops : Array Oper) (T R : List Nat) : Prop := ∀ x ∈ R, ∀ y ∈ T, qhb ops y x = true → y ∈ R
theorem qhw : ∀ (l : List Nat), l ≠ [] → ∃ m ∈ l, ∀ x ∈ l, x ≤ m
 | [], h => absurd rfl h
 | a :: l, _ => by
  by_cases hl : l = []
  ·subst hl; exact ⟨a, by simp, by simp⟩
  ·obtain ⟨m, hm, h⟩ := qhw l hl
   by_cases hc : a ≤ m
   ·exact ⟨m, List.mem_cons_of_mem _ hm, fun x hx => by rcases List.mem_cons.1 hx with rfl | hx; exact hc; exact h x hx⟩
   ·exact ⟨a, by simp, fun x hx => by rcases List.mem_cons.1 hx with rfl | hx; exact Nat.le_refl _; exact Nat.le_trans (h x hx) (by omega)⟩
theorem qft {R : List Nat} : ∀ (c : Nat) (C : List Nat), (((c :: C).zip C).all fun p => qhb ops p.2 p.1) = true → (∀ d ∈ c :: C, d ∈ R) → ∀ d ∈ C, qhf ops R d = false
 | _, [], _, _, d, hd => by cases hd
 | c, d :: C, h, hR, x, hx => by
  simp only [List.zip_cons_cons, List.all_cons, Bool.and_eq_true] at h
  rcases List.mem_cons.1 hx with rfl | hx
  ·exact qdx h.1 (hR c (by simp))
  ·exact qft d C h.2 (fun y hy => hR y (List.mem_cons_of_mem _ hy)) x hx
theorem qoz {T C R : List Nat} (hB : qni ops T C = true) (hup : UpClosed ops T R) (hR : ∀ x ∈ R, x ∈ T) (hne : R ≠ []) : ∀ d ∈ C, qhf ops (R ++ C) d = false := by
 cases C with
 | nil => simp [qni] at hB
 | cons c C =>
  simp only [qni, Bool.and_eq_true] at hB
  obtain ⟨⟨_, hs⟩, hch⟩ := hB
  intro d hd
  rcases List.mem_cons.1 hd with rfl | hd'
  ·obtain ⟨m, hm, hmax⟩ := qhw R hne
   have := List.all_eq_true.1 hs m (hR m hm)
   rcases Bool.or_eq_true_iff.1 this with h | h
   ·obtain ⟨y, hy, h2⟩ := List.any_eq_true.1 h
    simp only [Bool.and_eq_true, decide_eq_true_eq] at h2
    have := hmax y (hup m hm y hy h2.2)
    omega
   ·exact qdx h (List.mem_append_left _ hm)
  ·exact qft c C hch (fun y hy => List.mem_append_right _ hy) d hd'
theorem UpClosed.erase {T R : List Nat} {i : Nat} {C : List Nat} (hT : T.Nodup) (hR : ∀ x ∈ R, x ∈ T) (h : UpClosed ops T R) (hr : qhf ops (R ++ C) i = true) : UpClosed ops T (R.erase i) := by
 intro x hx y hy hw
 have hxR := List.mem_of_mem_erase hx
 have hyR := h x hxR y hy hw
 have : y ≠ i := by
  rintro rfl
  rw [qdx hw (List.mem_append_left _ hxR)] at hr
  cases hr
 exact (List.mem_erase_of_ne this).2 hyR
structure Off (ops : Array Oper) (T : List Nat) (a a' : Act) : Prop where
 size : a'.tmps.size = a.tmps.size
 defers : a'.defers = a.defers
 off : ∀ t, t ∉ qpu ops T → a'.tmps[t]? = a.tmps[t]?
theorem Off.refl (T : List Nat) (a : Act) : Off ops T a a := ⟨rfl, rfl, fun _ _ => rfl⟩
theorem qoy (a : Act) (d : Option Tmp) (v : Value) : (a.put d v).tmps.size = a.tmps.size := by cases d <;> simp [Act.put]
theorem Off.put {T : List Nat} {a a' : Act} (h : Off ops T a a') {i : Nat} {o : Oper} (hi : i ∈ T) (ho : ops[i]? = some o) (v : Value) : Off ops T a (a'.put o.dst v) :=
 ⟨by rw [qoy, h.size], by rw [Ji, h.defers], fun t ht => by rw [qdv _ _ _ t (fun e he het => ht (by rw [← het]; exact qjl hi ho he))]; exact h.off t ht⟩
theorem qnf (ds : List Tmp) (a : Act) (u : Tmp → Value) : (qde a ds u).defers = a.defers := by
 induction ds generalizing a with
 | nil => rfl
 | cons d ds ih => rw [qde, List.foldl_cons]; exact (ih _).trans (Ji a (some d) (u d))
theorem qxe (ds : List Tmp) (a : Act) (u : Tmp → Value) (t : Tmp) : (qde a ds u).tmps[t]? = if t ∈ ds ∧ t < a.tmps.size then some (u t) else a.tmps[t]? := by
 induction ds generalizing a with
 | nil => simp [qde]
 | cons d ds ih =>
  rw [qde, List.foldl_cons]
  refine (ih (a.put (some d) (u d))).trans ?_
  rw [qoy]
  by_cases hdt : d = t
  ·subst hdt
   by_cases hlt : d < a.tmps.size
   ·rw [if_pos (show d ∈ d :: ds ∧ d < a.tmps.size from ⟨by simp, hlt⟩)]
    split
    ·rfl
    ·simp [Act.put, hlt]
   ·rw [if_neg (fun h => hlt h.2), if_neg (fun h => hlt h.2)]
    simp [Act.put, hlt]
  ·have : t ≠ d := Ne.symm hdt
   rw [qdv _ _ _ _ (fun e he => by cases he; exact hdt)]
   simp [List.mem_cons, this]
theorem qot {T : List Nat} {a a' : Act} (h : Off ops T a a') : a' = qde a (qpu ops T) (qnx a') := by
 have ht : a'.tmps = (qde a (qpu ops T) (qnx a')).tmps := by
  apply Array.ext_getElem?
  intro t
  rw [qxe]
  split
  ·rename_i hm
   rw [← h.size] at hm
   unfold qnx
   rw [Array.getD_eq_getD_getElem?, Array.getElem?_eq_getElem hm.2]
   rfl
  ·rename_i hm
   by_cases hd : t ∈ qpu ops T
   ·have hge : a.tmps.size ≤ t := Nat.le_of_not_lt (fun hlt => hm ⟨hd, hlt⟩)
    rw [Array.getElem?_eq_none hge, Array.getElem?_eq_none (by rw [h.size]; exact hge)]
   ·exact h.off t hd
 have hd : a'.defers = (qde a (qpu ops T) (qnx a')).defers := by rw [qnf, h.defers]
 cases a'
 cases hp : qde a (qpu ops T) (qnx ⟨_, _⟩) with
 | mk x y =>
  rw [hp] at ht hd
  simp only at ht hd
  subst ht; subst hd
  rfl
theorem Thr.seq_aux {T C : List Nat} (hsel : Region.noSelect ops = true) (hB : qni ops T C = true) (hT : T.Nodup) {Post1 : (Tmp → Value) → World → List Nat → Prop} {n2 : Nat} {a0 : Act}
  (h2 : ∀ (a : Act) (w : World) (F : List Nat), Off ops T a0 a → Below w0.heap.size w0 w → F.Nodup → (∀ k ∈ F, w0.heap.size ≤ k ∧ k < w.heap.size) → Post1 (qnx a) w F → Thr P ops Lo w0 Post n2 C a w F) :
  ∀ (n1 : Nat) (R : List Nat) (a : Act) (w : World) (F : List Nat), (∀ x ∈ R, x ∈ T) → UpClosed ops T R → Off ops T a0 a → Below w0.heap.size w0 w → F.Nodup → (∀ k ∈ F, w0.heap.size ≤ k ∧ k < w.heap.size) → Thr P ops Lo w0 Post1 n1 R a w F → Thr P ops Lo w0 Post (n1 + n2) (R ++ C) a w F := by
 intro n1
 induction n1 with
 | zero =>
  intro R a w F hR hup hoff hb hnd hF h1
  have := h1.1
  subst this
  rw [Nat.zero_add]
  exact h2 a w F hoff hb hnd hF (h1.2 w hb (Keep.refl _ _))
 | succ n1 ih =>
  intro R a w F hR hup hoff hb hnd hF h1
  by_cases hne : R = []
  ·subst hne
   have := h2 a w F hoff hb hnd hF (h1.end w hb (Keep.refl _ _))
   rw [show n1 + 1 + n2 = n2 + (n1 + 1) by omega]
   exact Thr.mono_fuel this
  ·rw [show n1 + 1 + n2 = (n1 + n2) + 1 by omega]
   refine ⟨fun h => absurd (List.append_eq_nil_iff.1 h).1 hne, fun i hi hr w' hb' hk => ?_⟩
   have hiR : i ∈ R := by
    rcases List.mem_append.1 hi with h | h
    ·exact h
    ·rw [qoz hB hup hR hne i h] at hr; cases hr
   obtain ⟨o, ho, hst⟩ := h1.2 i hiR (qgr hr) w' hb' hk
   refine ⟨o, ho, fun K' hK => ?_⟩
   refine Hs rfl rfl (N := fun a'' w'' => a''.defers = a.defers ∧ Below w0.heap.size w0 w'' ∧ ∃ F'', Guar F w' w'' F'' ∧ Thr P ops Lo w0 Post1 n1 (R.erase i) a'' w'' F'') (Q := NP Lo)
      (fun b w h => h.1) id (fun c w h => h.elim) (fun v w'' hN => ?_) (hst _ (fun a w h => h))
   obtain ⟨hdf, hbl, F'', hG, hThr⟩ := hN
   refine hK _ _ ⟨hdf, hbl, F'', hG, ?_⟩
   rw [List.erase_append_left _ hiR]
   exact ih _ _ _ _ (fun x hx => hR x (List.mem_of_mem_erase hx)) (hup.erase hT hR hr) (hoff.put (hR i hiR) ho v) hbl hG.nd (fun k hk' => ⟨(hG.sub k hk').elim (fun h => (hF k h).1) (fun h => Nat.le_trans hb'.size h), hG.lt k hk'⟩) hThr
theorem Thr.seq {T C : List Nat} (n1 n2 : Nat) (D : List Tmp) (hD : qpu ops T = D) (Post1 : (Tmp → Value) → World → List Nat → Prop) {a : Act} {w : World} (hsel : Region.noSelect ops = true) (hB : (qni ops T C && decide T.Nodup) = true) (hb : Below w0.heap.size w0 w)
  (h1 : Thr P ops Lo w0 Post1 n1 T a w [])
  (h2 : ∀ (u : Tmp → Value) (w : World) (F : List Nat), Below w0.heap.size w0 w → F.Nodup → (∀ k ∈ F, w0.heap.size ≤ k ∧ k < w.heap.size) → Post1 u w F → Thr P ops Lo w0 Post n2 C (qde a D u) w F) : Thr P ops Lo w0 Post (n1 + n2) (T ++ C) a w [] := by
 subst hD
 simp only [Bool.and_eq_true, decide_eq_true_eq] at hB
 exact Thr.seq_aux hsel hB.1 hB.2 (a0 := a) (fun a' w' F hoff hb hnd hF hp => by rw [qot hoff]; exact h2 _ w' F hb hnd hF hp) n1 T a w [] (fun _ h => h) (fun _ _ y hy _ => hy) (Off.refl _ _) hb (by simp) (by simp) h1
section
variable {Q : Exit → Act → World → Prop} {S : World → Prop} {ds : List Nat}
def qmf (l : List Oper) (ts : List Nat) : List Oper := ts.map fun t => l.getD t default
def qvd (ops : Array Oper) : List Nat → Array Bool → Bool
 | [], listed => (Region.ready .any ops listed).isEmpty
 | t :: ts, listed => decide (Region.ready .any ops listed = [t]) && qvd ops ts (listed.setIfInBounds t true)
theorem qgg : ∀ (ts : List Nat) (listed : Array Bool) (a : Act) (w : World), (∀ t ∈ ts, t < ops.size) → qvd ops ts listed = true → (∀ t ∈ ts, t ∈ ds) →
  wpList P ops Q (qmf ops.toList ts) a w → Zy P .any ops Q S ds ts.length listed a w
 | [], _, _, _, _, hB, _, h => ⟨by simpa [qvd] using hB, h⟩
 | t :: ts, listed, a, w, hl, hB, hds, h => by
  have hk : t < ops.size := hl t (by simp)
  have h0 : ops[t]? = some (ops.toList.getD t default) := by
   rw [Array.getElem?_eq_getElem hk]
   simp [List.getD_eq_getElem?_getD, hk]
  simp only [qvd, Bool.and_eq_true, decide_eq_true_eq] at hB
  refine ⟨fun h1 => (by rw [hB.1] at h1; cases h1), fun i hi => ?_⟩
  rw [hB.1] at hi
  have hik : i = t := by simpa using hi
  subst hik
  have hw : wpOp P ops Q i (wpList P ops Q (qmf ops.toList ts)) a w := by unfold wpOp; simp only [h0]; exact h
  exact wpOp_mono (fun a' w' h' => ⟨fun hn => absurd (hds i (by simp)) hn, qgg ts _ a' w' (fun j hj => hl j (List.mem_cons_of_mem _ hj)) hB.2 (fun j hj => hds j (List.mem_cons_of_mem _ hj)) h'⟩) hw
def qry (ops : Array Oper) (ts : List Nat) (i : Nat) : Bool := match ops[i]? with | some o => o.after.all fun e => !Region.binds .any e || (decide (e.on < i) && !ts.contains e.on) | none => false
def zac (n : Nat) (ts : List Nat) : Array Bool := ((List.range n).map fun i => !ts.contains i).toArray
def zag (ops : Array Oper) (listed : Array Bool) (T ts : List Nat) (ds : List Nat) : Bool :=
 Region.noSelect ops && decide T.Nodup && decide (listed.size = ops.size) && (T.all fun i => decide (i < ops.size) && !listed.getD i true && !ds.contains i && qry ops ts i) && ((List.range ops.size).all fun i => listed.getD i false || T.contains i || ts.contains i) &&
  (ts.all fun t => decide (t < ops.size) && !listed.getD t true && ds.contains t && !T.contains t) && qni ops T ts && qvd ops ts (zac ops.size ts)
theorem qlm {listed : Array Bool} {X : List Nat} {i : Nat} (hi : i ∈ Region.ready .any ops listed) (hX : ∀ x ∈ X, listed.getD x false = false) : qhf ops X i = true := by
 obtain ⟨_, o, ho, hall⟩ := mem_ready.1 hi
 unfold qhf
 rw [ho]
 refine Array.all_eq_true_iff_forall_mem.2 fun e he => ?_
 by_cases hb : Region.binds .any e = true
 ·have := hall e he hb
  have hn : e.on ∉ X := fun h => by rw [hX _ h] at this; cases this
  simp [hb, hn]
 ·simp [hb]
theorem qhx : ∀ (l : List Nat), l ≠ [] → ∃ m ∈ l, ∀ x ∈ l, m ≤ x
 | [], h => absurd rfl h
 | a :: l, _ => by
  by_cases hl : l = []
  ·subst hl; exact ⟨a, by simp, by simp⟩
  ·obtain ⟨m, hm, h⟩ := qhx l hl
   by_cases hc : m ≤ a
   ·exact ⟨m, List.mem_cons_of_mem _ hm, fun x hx => by rcases List.mem_cons.1 hx with rfl | hx; exact hc; exact h x hx⟩
   ·exact ⟨a, by simp, fun x hx => by rcases List.mem_cons.1 hx with rfl | hx; exact Nat.le_refl _; exact Nat.le_trans (by omega) (h x hx)⟩
theorem qqp {T R ts : List Nat} {listed : Array Bool} (hback : ∀ i ∈ T, i < ops.size ∧ qry ops ts i = true) (hR : ∀ x ∈ R, x ∈ T) (hl : ∀ i, i < ops.size → i ∉ ts → (listed.getD i false = false ↔ i ∈ R)) (hRt : ∀ i ∈ R, i ∉ ts) (hne : R ≠ []) (hsz : listed.size = ops.size) : Region.ready .any ops listed ≠ [] := by
 obtain ⟨m, hm, hmin⟩ := qhx R hne
 have hb := (hback m (hR m hm)).2
 unfold qry at hb
 split at hb
 ·rename_i o ho
  have hmo : m < ops.size := (Array.getElem?_eq_some_iff.1 ho).1
  have : m ∈ Region.ready .any ops listed := by
   refine mem_ready.2 ⟨?_, o, ho, fun e he hbe => ?_⟩
   ·have h1 := (hl m hmo (hRt m hm)).2 hm
    have : m < listed.size := by omega
    simp [this] at h1 ⊢
    exact h1
   ·have h1 := Array.all_eq_true_iff_forall_mem.1 hb e he
    simp only [hbe, Bool.not_true, Bool.false_or, Bool.and_eq_true, decide_eq_true_eq, Bool.not_eq_true'] at h1
    have hnt : e.on ∉ ts := fun h => by have := h1.2; simp [h] at this
    cases hc : listed.getD e.on false with
    | true => rfl
    | false =>
     have h2 := (hl e.on (by omega) hnt).1 hc
     have := hmin _ h2
     omega
  intro h0
  rw [h0] at this
  cases this
 ·cases hb
theorem qgh {T ts : List Nat} {a0 : Act} (hsel : Region.noSelect ops = true) (hT : T.Nodup) (hTn : ∀ i ∈ T, i ∉ ds ∧ i ∉ ts) (hback : ∀ i ∈ T, i < ops.size ∧ qry ops ts i = true) (hds : ∀ t ∈ ts, t < ops.size ∧ t ∈ ds) (hseq : qni ops T ts = true)
  (htl : qvd ops ts (zac ops.size ts) = true) (hS : ∀ w', Below w0.heap.size w0 w' → S w')
  (ht : ∀ u w' F, Below w0.heap.size w0 w' → F.Nodup → (∀ k ∈ F, w0.heap.size ≤ k ∧ k < w'.heap.size) → Post u w' F → wpList P ops Q (qmf ops.toList ts) (qde a0 (qpu ops T) u) w') :
  ∀ (m : Nat) (R : List Nat) (listed : Array Bool) (a : Act) (w : World) (F : List Nat), R.length = m → (∀ x ∈ R, x ∈ T) → R.Nodup → UpClosed ops T R → listed.size = ops.size → (∀ i, i < ops.size → i ∉ ts → (listed.getD i false = false ↔ i ∈ R)) → (∀ t ∈ ts, listed.getD t false = false) →
   Off ops T a0 a → Below w0.heap.size w0 w → F.Nodup → (∀ k ∈ F, w0.heap.size ≤ k ∧ k < w.heap.size) → Thr P ops (LetsOut Q) w0 Post m R a w F → Zy P .any ops Q S ds (m + ts.length) listed a w := by
 intro m
 induction m with
 | zero =>
  intro R listed a w F hlen hR hRn hup hsz hl htail hoff hb hnd hF h
  have hR0 : R = [] := List.eq_nil_of_length_eq_zero hlen
  subst hR0
  have hlisted : listed = zac ops.size ts := by
   apply Array.ext
   ·simp [zac]; omega
   ·intro i h1 h2
    have h1' : i < ops.size := by omega
    by_cases hi : i ∈ ts
    ·have := htail i hi
     simp [h1] at this
     rw [this]
     simp [zac, hi]
    ·have : listed.getD i false = true := by
      cases hc : listed.getD i false with
      | true => rfl
      | false => have := (hl i h1' hi).1 hc; cases this
     simp [h1] at this
     rw [this]
     simp [zac, hi]
  subst hlisted
  have hp := h.2 w hb (Keep.refl _ _)
  have hw := ht _ w F hb hnd hF hp
  rw [← qot hoff] at hw
  rw [Nat.zero_add]
  exact qgg (S := S) (ds := ds) ts (zac ops.size ts) a w (fun t ht => (hds t ht).1) htl (fun t ht => (hds t ht).2) hw
 | succ m ih =>
  intro R listed a w F hlen hR hRn hup hsz hl htail hoff hb hnd hF h
  have hne : R ≠ [] := by intro h0; subst h0; cases hlen
  have hRt : ∀ i ∈ R, i ∉ ts := fun i hi => (hTn i (hR i hi)).2
  rw [show m + 1 + ts.length = (m + ts.length) + 1 by omega]
  have hun : ∀ x ∈ R ++ ts, listed.getD x false = false := by
   intro x hx
   rcases List.mem_append.1 hx with hx | hx
   ·exact (hl x (hback x (hR x hx)).1 (hRt x hx)).2 hx
   ·exact htail x hx
  have hrd : ∀ i ∈ Region.ready .any ops listed, i ∈ R ∧ qhf ops (R ++ ts) i = true := by
   intro i hi
   have hr := qlm hi hun
   obtain ⟨hu, o, ho, _⟩ := mem_ready.1 hi
   have hio : i < ops.size := (Array.getElem?_eq_some_iff.1 ho).1
   refine ⟨?_, hr⟩
   by_cases h1 : i ∈ ts
   ·have := qoz hseq hup hR hne i h1
    rw [this] at hr
    cases hr
   ·refine (hl i hio h1).1 ?_
    have : i < listed.size := by omega
    simp [this] at hu ⊢
    exact hu
  refine ⟨fun h0 => absurd h0 (qqp hback hR hl hRt hne hsz), fun i hi => ?_⟩
  obtain ⟨hiR, hr⟩ := hrd i hi
  obtain ⟨o, ho, hst⟩ := h.2 i hiR (qgr hr) w hb (Keep.refl _ _)
  have hmono : wpOp P ops Q i (fun a' w' => ∃ v, a' = a.put o.dst v ∧ (a.put o.dst v).defers = a.defers ∧ Below w0.heap.size w0 w' ∧ ∃ F'', Guar F w w' F'' ∧ Thr P ops (LetsOut Q) w0 Post m (R.erase i) (a.put o.dst v) w' F'') a w := by
   unfold wpOp
   simp only [ho]
   have := Hs (Q := NP (LetsOut Q)) (Q' := Q) (K := fun a' w' => ∃ v, a' = a.put o.dst v ∧ (a.put o.dst v).defers = a.defers ∧ Below w0.heap.size w0 w' ∧ ∃ F'', Guar F w w' F'' ∧ Thr P ops (LetsOut Q) w0 Post m (R.erase i) (a.put o.dst v) w' F'') rfl rfl (N := fun a'' w'' => a''.defers = a.defers ∧ Below w0.heap.size w0 w'' ∧ ∃ F'', Guar F w w'' F'' ∧ Thr P ops (LetsOut Q) w0 Post m (R.erase i) a'' w'' F'')
    (fun b w h => h.1) qqh (fun c w h => h.elim) (fun v w'' hN => ⟨v, rfl, hN⟩) (hst _ (fun a w h => h))
   split
   ·rename_i hw; rw [if_pos hw] at this; exact .inl this
   ·rename_i hw; rw [if_neg hw] at this; exact this
  refine wpOp_mono (fun a' w' h' => ?_) hmono
  obtain ⟨v, rfl, hdf, hbl, F'', hG, hThr⟩ := h'
  refine ⟨fun _ _ => hS w' hbl, ?_⟩
  have hilt : i < ops.size := (hback i (hR i hiR)).1
  refine ih (R.erase i) _ _ _ F'' (by rw [List.length_erase_of_mem hiR, hlen]; rfl) (fun x hx => hR x (List.mem_of_mem_erase hx)) (hRn.erase i) (hup.erase hT hR hr) (by simp [hsz]) (fun j hj hjt => ?_) (fun t ht1 => ?_) (hoff.put (hR i hiR) ho v) hbl hG.nd (fun k hk => ?_) hThr
  ·by_cases hij : i = j
   ·subst hij
    have : i < listed.size := by omega
    simp [this, hRn.mem_erase_iff]
   ·rw [getD_set_ne false hij, hl j hj hjt]
    constructor
    ·intro h; exact (List.mem_erase_of_ne (Ne.symm hij)).2 h
    ·intro h; exact List.mem_of_mem_erase h
  ·have : i ≠ t := fun e => hRt i hiR (e ▸ ht1)
   rw [getD_set_ne false this]; exact htail t ht1
  ·refine ⟨?_, hG.lt k hk⟩
   rcases hG.sub k hk with h | h
   ·exact (hF k h).1
   ·exact Nat.le_trans hb.size h
theorem qmz {T ts : List Nat} {l : List Oper} {listed : Array Bool} (m : Nat) {a0 : Act} (Post : (Tmp → Value) → World → List Nat → Prop) (hB : zag l.toArray listed T ts ds = true) (hm : m = T.length + ts.length) (hS : ∀ w', Below w0.heap.size w0 w' → S w')
  (h : Thr P l.toArray (LetsOut Q) w0 Post T.length T a0 w0 [])
  (ht : ∀ u w' F, Below w0.heap.size w0 w' → F.Nodup → (∀ k ∈ F, w0.heap.size ≤ k ∧ k < w'.heap.size) → Post u w' F → wpList P l.toArray Q (qmf l ts) (qde a0 (qpu l.toArray T) u) w') : Zy P .any l.toArray Q S ds m listed a0 w0 := by
 subst hm
 simp only [zag, Bool.and_eq_true, decide_eq_true_eq] at hB
 obtain ⟨⟨⟨⟨⟨⟨⟨h1, h2⟩, h3⟩, h5⟩, h6⟩, h7⟩, h8⟩, h9⟩ := hB
 have g5 : ∀ i ∈ T, i < l.toArray.size ∧ listed.getD i true = false ∧ i ∉ ds ∧ qry l.toArray ts i = true := fun i hi => by
  have := List.all_eq_true.1 h5 i hi
  simp only [Bool.and_eq_true, decide_eq_true_eq, Bool.not_eq_true'] at this
  exact ⟨this.1.1.1, this.1.1.2, fun hd => by have := this.1.2; simp [hd] at this, this.2⟩
 have g7 : ∀ t ∈ ts, t < l.toArray.size ∧ listed.getD t true = false ∧ t ∈ ds ∧ t ∉ T := fun t ht1 => by
  have := List.all_eq_true.1 h7 t ht1
  simp only [Bool.and_eq_true, decide_eq_true_eq, Bool.not_eq_true'] at this
  exact ⟨this.1.1.1, this.1.1.2, by simpa using this.1.2, fun hd => by have := this.2; simp [hd] at this⟩
 refine qgh h1 h2 (fun i hi => ⟨(g5 i hi).2.2.1, fun ht => (g7 i ht).2.2.2 hi⟩) (fun i hi => ⟨(g5 i hi).1, (g5 i hi).2.2.2⟩) (fun t ht => ⟨(g7 t ht).1, (g7 t ht).2.2.1⟩) h8 h9 hS (fun u w' F hb hnd hF hp => by simpa using ht u w' F hb hnd hF hp) T.length T listed a0 w0 [] rfl (fun _ h => h) h2 (fun _ _ y hy _ => hy) h3 (fun i hi hit => ?_) (fun t ht1 => getD_both (g7 t ht1).2.1) (Off.refl _ _) (Below.refl _ _) (by simp) (by simp) h
 constructor
 ·intro hf
  have := List.all_eq_true.1 h6 i (List.mem_range.2 hi)
  rw [hf] at this
  simpa [hit] using this
 ·intro hi; exact getD_both (g5 i hi).2.1
def YAll (P : Program) (ops : Array Oper) (S : World → Prop) : List Nat → Act → (Act → Prop) → Prop
 | [], a, K => K a
 | i :: is, a, K => ∃ o v, ops[i]? = some o ∧ YieldsIf P ops S o v a ∧ YAll P ops S is (a.put o.dst v) K
def qjz (l : Array Bool) : List Nat → Array Bool
 | [] => l
 | i :: is => qjz (l.setIfInBounds i true) is
def qly (ops : Array Oper) (ds : List Nat) : List Nat → Array Bool → Bool
 | [], _ => true
 | i :: is, l => Region.free .any ops l i && (Region.ready .any ops l).contains i && Region.closedB .any ops l && Region.lastB .any ops l ds i && qly ops ds is (l.setIfInBounds i true)
theorem YAll.cons {i : Nat} {is : List Nat} {a : Act} {K : Act → Prop} {o : Oper} {v : Value} (N : Option Tmp) (hi : ops[i]? = some o) (hN : o.dst = N) (hg : Region.wanted o (yielded ops a.tmps) = true) (hy : ∀ w, S w → (execOp a.eval o).run P w = .ok (.value v) w) (h : YAll P ops S is (a.put N v) K) : YAll P ops S (i :: is) a K := by
 subst hN; exact ⟨o, v, hi, .inl ⟨hg, hy⟩, h⟩
theorem YAll.nil {a : Act} {K : Act → Prop} (h : K a) : YAll P ops S [] a K := h
theorem zaw {fuel : Nat} {w : World} (hsel : Region.noSelect ops = true) (hQ : ∀ c (a : Act) d v w, Q (.panic c) (a.put d v) w → Q (.panic c) a w) (hS : S w) : ∀ (is : List Nat) (l : Array Bool) (a : Act), qly ops ds is l = true →
  YAll P ops S is a (fun a' => Zy P .any ops Q S ds fuel (qjz l is) a' w) → Zy P .any ops Q S ds (fuel + is.length) l a w
 | [], l, a, _, h => h
 | i :: is, l, a, hB, h => by
  simp only [qly, Bool.and_eq_true] at hB
  obtain ⟨⟨⟨⟨h1, h2⟩, h3⟩, h4⟩, h5⟩ := hB
  obtain ⟨o, v, hi, hy, hr⟩ := h
  exact qbp hi hsel h1 h2 h3 h4 (fun c a w => hQ c a o.dst v w) hy hS (zaw hsel hQ hS is _ _ h5 hr)
def qgv (ops : Array Oper) : List Nat → Array Bool → Bool
 | [], _ => true
 | i :: is, l => Region.free .any ops l i && (Region.ready .any ops l).contains i && qgv ops is (l.setIfInBounds i true)
theorem quu {fuel : Nat} {w : World} (hsel : Region.noSelect ops = true) (hQ : ∀ c (a : Act) d v w, Q (.panic c) (a.put d v) w → Q (.panic c) a w) : ∀ (is : List Nat) (l : Array Bool) (a : Act), qgv ops is l = true →
  YAll P ops (fun _ => True) is a (fun a' => Zy P .any ops Q S ds fuel (qjz l is) a' w) → Zy P .any ops Q S ds (fuel + is.length) l a w
 | [], l, a, _, h => h
 | i :: is, l, a, hB, h => by
  simp only [qgv, Bool.and_eq_true] at hB
  obtain ⟨⟨h1, h2⟩, h5⟩ := hB
  obtain ⟨o, v, hi, hy, hr⟩ := h
  exact qka hi (Region.noSelect_spec hsel) (fun c a w => hQ c a o.dst v w) (fuel + is.length) l a w (Region.free_spec hi h1) (by simpa using h2) (hy.imp (fun ⟨h1, h2⟩ => ⟨h1, fun w => h2 w trivial⟩) id) (quu hsel hQ is _ _ h5 hr)
def qts (ops : Array Oper) (is ps T ts : List Nat) : Bool :=
 Region.noSelect ops && qly ops ts is (Array.replicate ops.size false) && qgv ops ps (qjz (Array.replicate ops.size false) is) && zag ops (qjz (qjz (Array.replicate ops.size false) is) ps) T ts ts && decide (is.length + ps.length + T.length + ts.length = ops.size)
theorem YAll.mono {S' : World → Prop} : ∀ (is : List Nat) (a : Act) (K K' : Act → Prop), (∀ a, K a → K' a) → YAll P ops S' is a K → YAll P ops S' is a K'
 | [], a, K, K', hk, h => hk _ h
 | i :: is, a, K, K', hk, h => by obtain ⟨o, v, hi, hy, hr⟩ := h; exact ⟨o, v, hi, hy, YAll.mono is _ K K' hk hr⟩
theorem Jg {id : Nat} {a : Act} {w : World} {l : List Oper} (is ps T ts : List Nat) (D : List Tmp) (hD : qpu l.toArray T = D) (S : World → Prop) (Post : (Tmp → Value) → World → List Nat → Prop) (hm : P.follows .mixedOrders = true) (hB : qts l.toArray is ps T ts = true)
  (hQ : ∀ c (a : Act) d v w, Q (.panic c) (a.put d v) w → Q (.panic c) a w) (hS : ∀ w', Below w.heap.size w w' → S w')
  (h : YAll P l.toArray S is a (fun a1 => YAll P l.toArray (fun _ => True) ps a1 (fun a0 => Thr P l.toArray (LetsOut Q) w.drew Post T.length T a0 w.drew [] ∧
   (∀ u w' F, Below w.heap.size w.drew w' → F.Nodup → (∀ k ∈ F, w.heap.size ≤ k ∧ k < w'.heap.size) → Post u w' F → wpList P l.toArray Q (qmf l ts) (qde a0 D u) w')))) : (Code.region id l.toArray true).wp P Q a w := by
 subst hD
 simp only [qts, Bool.and_eq_true, decide_eq_true_eq] at hB
 obtain ⟨⟨⟨⟨h1, h2⟩, h2'⟩, h3⟩, h4⟩ := hB
 have hSd : ∀ w', Below w.drew.heap.size w.drew w' → S w' := fun w' hb => hS w' ⟨hb.os, hb.tape, hb.output, hb.size, hb.block⟩
 refine Gg (S := S) (ds := ts) hm ?_
 have := zaw (P := P) (ops := l.toArray) (Q := Q) (S := S) (ds := ts) (fuel := T.length + ts.length + ps.length) (w := w.drew) h1 hQ (hSd _ (Below.refl _ _)) is (Array.replicate l.toArray.size false) a h2 ?_
 ·rw [show T.length + ts.length + ps.length + is.length = l.toArray.size by omega] at this
  exact this
 ·exact YAll.mono _ _ _ _ (fun a1 ha1 => quu h1 hQ ps _ a1 h2' (YAll.mono _ _ _ _ (fun a0 h0 => qmz _ Post h3 rfl hSd h0.1 h0.2) ha1)) h
def wpListS (P : Program) (ops : Array Oper) (Q : Exit → Act → World → Prop) (S : World → Prop) (ds : List Nat) : List Nat → Act → World → Prop
 | [], a, w => Q .normal a w
 | t :: ts, a, w => ∃ o, ops[t]? = some o ∧ ∀ K : Act → World → Prop, (∀ a' w', (t ∉ ds → S w') → wpListS P ops Q S ds ts a' w' → K a' w') → if Region.wanted o (yielded ops a.tmps) = true then Oper.wp P o a w K Q else K (a.put o.dst undef) w
theorem wpListS.step {t : Nat} {ts : List Nat} {a : Act} {w : World} {o : Oper} (N : Option Tmp) (hi : ops[t]? = some o) (hN : o.dst = N)
  (h : ∀ K : Act → World → Prop, Shut (∀ a' w', (t ∉ ds → S w') → wpListS P ops Q S ds ts a' w' → K a' w') → if Region.wanted o (yielded ops a.tmps) = true then Oper.wp P o a w K Q else K (a.put N undef) w) : wpListS P ops Q S ds (t :: ts) a w := by
 subst hN
 exact ⟨o, hi, h⟩
theorem wpListS.nil {a : Act} {w : World} (h : Q .normal a w) : wpListS P ops Q S ds [] a w := h
theorem qef : ∀ (ts : List Nat) (listed : Array Bool) (a : Act) (w : World), qvd ops ts listed = true → wpListS P ops Q S ds ts a w → Zy P .any ops Q S ds ts.length listed a w
 | [], _, _, _, hB, h => ⟨by simpa [qvd] using hB, h⟩
 | t :: ts, listed, a, w, hB, h => by
  obtain ⟨o, ho, hst⟩ := h
  simp only [qvd, Bool.and_eq_true, decide_eq_true_eq] at hB
  refine ⟨fun h1 => (by rw [hB.1] at h1; cases h1), fun i hi => ?_⟩
  rw [hB.1] at hi
  have hik : i = t := by simpa using hi
  subst hik
  refine wpOp_step ho (fun K hK => hst K (fun a' w' hS hr => hK a' w' ⟨fun hn _ => hS hn, qef ts _ a' w' hB.2 hr⟩))
def qsb (ops : Array Oper) (is ps ts ds : List Nat) : Bool :=
 Region.noSelect ops && qly ops ds is (Array.replicate ops.size false) && qgv ops ps (qjz (Array.replicate ops.size false) is) && qvd ops ts (qjz (qjz (Array.replicate ops.size false) is) ps) && decide (is.length + ps.length + ts.length = ops.size)
theorem Ys {id : Nat} {a : Act} {w : World} {l : List Oper} (is ps ts ds : List Nat) (S : World → Prop) (hm : P.follows .mixedOrders = true) (hB : qsb l.toArray is ps ts ds = true)
  (hQ : ∀ c (a : Act) d v w, Q (.panic c) (a.put d v) w → Q (.panic c) a w) (hS : S w.drew)
  (h : YAll P l.toArray S is a (fun a1 => YAll P l.toArray (fun _ => True) ps a1 (fun a0 => wpListS P l.toArray Q S ds ts a0 w.drew))) : (Code.region id l.toArray true).wp P Q a w := by
 simp only [qsb, Bool.and_eq_true, decide_eq_true_eq] at hB
 obtain ⟨⟨⟨⟨h1, h2⟩, h2'⟩, h3⟩, h4⟩ := hB
 refine Gg (S := S) (ds := ds) hm ?_
 have := zaw (P := P) (ops := l.toArray) (Q := Q) (S := S) (ds := ds) (fuel := ts.length + ps.length) (w := w.drew) h1 hQ hS is (Array.replicate l.toArray.size false) a h2 ?_
 ·rw [show ts.length + ps.length + is.length = l.toArray.size by omega] at this
  exact this
 ·exact YAll.mono _ _ _ _ (fun a1 ha1 => quu h1 hQ ps _ a1 h2' (YAll.mono _ _ _ _ (fun a0 h0 => qef ts _ a0 _ h3 h0) ha1)) h
end
end
section
variable {P : Program} {ops : Array Oper} {S : World → Prop} {Q : Exit → Act → World → Prop} {ds : List Nat}
theorem Yb (b : Nat) {i : Nat} {is : List Nat} {a a' : Act} {K : Act → Prop} {o : Oper} {v : Value} (hi : ops[i]? = some o := by rfl) (hN : o.dst = some (b + i) := by rfl) (hg : Region.wanted o (yielded ops a.tmps) = true := by rfl) (y : ∀ w, S w → (execOp a.eval o).run P w = .ok (.value v) w) (ha : a.put (some (b + i)) v = a' := by simp only [Act.put, Nat.reduceAdd, List.setIfInBounds_toArray, List.set_cons_zero, List.set_cons_succ]; exact rfl) (h : YAll P ops S is a' K) : YAll P ops S (i :: is) a K := YAll.cons (some (b + i)) hi hN hg y (ha ▸ h)
theorem Yc (N : Option Tmp) {i : Nat} {is : List Nat} {a a' : Act} {K : Act → Prop} {o : Oper} {v : Value} (hi : ops[i]? = some o := by rfl) (hN : o.dst = N := by rfl) (hg : Region.wanted o (yielded ops a.tmps) = true := by rfl) (y : ∀ w, S w → (execOp a.eval o).run P w = .ok (.value v) w) (ha : a.put (N) v = a' := by simp only [Act.put, Nat.reduceAdd, List.setIfInBounds_toArray, List.set_cons_zero, List.set_cons_succ]; exact rfl) (h : YAll P ops S is a' K) : YAll P ops S (i :: is) a K := YAll.cons (N) hi hN hg y (ha ▸ h)
end
end Go.Proofs.YtnoammmohdmnjaaGreat.C13
