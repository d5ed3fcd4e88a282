/- Part of the proof that FnExactFormatCore answers true at every term. -/
import Derived.StillTailTactics
import Derived.Test.YtagfphlhahiplaaR3
namespace Go.Proofs.Ytagfphlhahiplaa.C13
open Go Go.RowKit Go.Proofs.YtagfphlhahiplaaW.PrintLast
set_option linter.unusedVariables false
/-- no block of before but those of F has turned -/
structure But (F : List Nat) (w w' : World) : Prop where
  os : w'.os = w.os
  tape : w'.tape = w.tape
  output : w'.output = w.output
  size : w.heap.size ≤ w'.heap.size
  block : ∀ i, i < w.heap.size → i ∉ F → w'.heap[i]? = w.heap[i]?
theorem But.refl (F : List Nat) (w : World) : But F w w := ⟨rfl, rfl, rfl, Nat.le_refl _, fun _ _ _ => rfl⟩
theorem But.trans {F : List Nat} {a b c : World} (h : But F a b) (k : But F b c) : But F a c :=
  ⟨k.os.trans h.os, k.tape.trans h.tape, k.output.trans h.output, Nat.le_trans h.size k.size, fun i hi hn => (k.block i (Nat.lt_of_lt_of_le hi h.size) hn).trans (h.block i hi hn)⟩
theorem But.mono {F G : List Nat} {a b : World} (h : But F a b) (hFG : ∀ k ∈ F, k ∈ G) : But G a b := ⟨h.os, h.tape, h.output, h.size, fun i hi hn => h.block i hi (fun hk => hn (hFG i hk))⟩
theorem But.of_below {F : List Nat} {a b : World} (h : Below a.heap.size a b) : But F a b := ⟨h.os, h.tape, h.output, h.size, fun i hi _ => h.block i hi⟩
theorem But.of_grown {g : Nat} {a b : World} (h : a.grownBy b (some g)) : But [g] a b := ⟨h.os, h.tape, h.output, h.size, fun i hi hn => h.block i hi (fun e => hn (by injection e with e; simp [e]))⟩
theorem But.blk {F : List Nat} {a b : World} (h : But F a b) {g : Nat} {e : TypeId} {cs : List Value} (hb : Blk a g e cs) (hn : g ∉ F) : Blk b g e cs := hb.move (h.block g hb.lt hn)
theorem But.row {F : List Nat} {a b : World} (h : But F a b) {e : TypeId} {v : Value} {n : Nat} {cells : List Value} {G : List Nat} (hr : Row a e v n cells G) (hn : ∀ k ∈ G, k ∉ F) : Row b e v n cells G := hr.move (fun k hk => h.block k (hr.lt k hk) (hn k hk))
theorem But.below {F : List Nat} {a b : World} (h : But F a b) {B : Nat} (hF : ∀ k ∈ F, B ≤ k) (hB : B ≤ a.heap.size) : Below B a b := ⟨h.os, h.tape, h.output, h.size, fun i hi => h.block i (Nat.lt_of_lt_of_le hi hB) (fun hk => by have := hF i hk; omega)⟩
/-- what a step may do: of the blocks that were there it turns those of F alone; its own are then F' -/
structure Guar (F : List Nat) (w w' : World) (F' : List Nat) : Prop where
  but : But F w w'
  sub : ∀ k ∈ F', k ∈ F ∨ w.heap.size ≤ k
  lt : ∀ k ∈ F', k < w'.heap.size
  nd : F'.Nodup
/-- the blocks of F are as they were -/
def Keep (F : List Nat) (w w' : World) : Prop := w.heap.size ≤ w'.heap.size ∧ ∀ k ∈ F, w'.heap[k]? = w.heap[k]?
theorem Keep.refl (F : List Nat) (w : World) : Keep F w w := ⟨Nat.le_refl _, fun _ _ => rfl⟩
theorem Keep.trans {F : List Nat} {a b c : World} (h : Keep F a b) (k : Keep F b c) : Keep F a c := ⟨Nat.le_trans h.1 k.1, fun i hi => (k.2 i hi).trans (h.2 i hi)⟩
theorem Keep.left {F G : List Nat} {a b : World} (h : Keep (F ++ G) a b) : Keep F a b := ⟨h.1, fun i hi => h.2 i (List.mem_append_left _ hi)⟩
theorem Keep.right {F G : List Nat} {a b : World} (h : Keep (F ++ G) a b) : Keep G a b := ⟨h.1, fun i hi => h.2 i (List.mem_append_right _ hi)⟩
theorem Guar.keep {F F' G : List Nat} {a b : World} (h : Guar F a b F') (hlt : ∀ k ∈ G, k < a.heap.size) (hd : ∀ k ∈ G, k ∉ F) : Keep G a b := ⟨h.but.size, fun k hk => h.but.block k (hlt k hk) (hd k hk)⟩
/-- the post in a thread: no panic -/
def NP (Lo : Prop) : Exit → Act → World → Prop
  | .outgrown, _, _ => Lo
  | _, _, _ => False
theorem letsOut_NP {Lo : Prop} (h : LetsOut (NP Lo)) : Lo := by obtain ⟨_, _, h⟩ := h; exact h
def valA (a : Act) : Tmp → Value := fun t => a.tmps.getD t undef
def putU (a : Act) (ds : List Tmp) (u : Tmp → Value) : Act := ds.foldl (fun a d => a.put (some d) (u d)) a
section
variable (P : Program) (ops : Array Oper) (Lo : Prop) (w0 : World)
def rdyT (R : List Nat) (i : Nat) : Bool :=
  match ops[i]? with
  | some o => o.after.all fun e => !Region.binds .any e || !R.contains e.on
  | none => false
/-- operation i is run, whatever it yields -/
def stepT (i : Nat) (a : Act) (w : World) (K : Act → World → Prop) : Prop :=
  ∃ o, ops[i]? = some o ∧ (∀ K' : Act → World → Prop, (∀ a w, K a w → K' a w) → if Region.wanted o (yielded ops a.tmps) = true then Oper.wp P o a w K' (NP Lo) else K' (a.put o.dst undef) w)
def Thr (Post : (Tmp → Value) → World → List Nat → Prop) : Nat → List Nat → Act → World → List Nat → Prop
  | 0, R, a, w, F => R = [] ∧ ∀ w', Below w0.heap.size w0 w' → Keep F w w' → Post (valA a) w' F
  | n + 1, R, a, w, F => (R = [] → ∀ w', Below w0.heap.size w0 w' → Keep F w w' → Post (valA a) w' F) ∧
      ∀ i ∈ R, rdyT ops R i = true → ∀ w', Below w0.heap.size w0 w' → Keep F w w' →
        stepT P ops Lo i a w' (fun a'' w'' => a''.defers = a.defers ∧ Below w0.heap.size w0 w'' ∧ ∃ F'', Guar F w' w'' F'' ∧ Thr Post n (R.erase i) a'' w'' F'')
end
section
variable {P : Program} {ops : Array Oper} {Lo : Prop} {w0 : World} {Post : (Tmp → Value) → World → List Nat → Prop}
theorem Thr.keep {n : Nat} {R : List Nat} {a : Act} {w w2 : World} {F : List Nat} (h : Thr P ops Lo w0 Post n R a w F) (hk : Keep F w w2) : Thr P ops Lo w0 Post n R a w2 F := by
  cases n with
  | zero => exact ⟨h.1, fun w' hb hk' => h.2 w' hb (hk.trans hk')⟩
  | succ n => exact ⟨fun hR w' hb hk' => h.1 hR w' hb (hk.trans hk'), fun i hi hr w' hb hk' => h.2 i hi hr w' hb (hk.trans hk')⟩
theorem Thr.done (n : Nat) {a : Act} {w : World} {F : List Nat} (h : ∀ w', Below w0.heap.size w0 w' → Keep F w w' → Post (valA a) w' F) : Thr P ops Lo w0 Post n [] a w F := by
  cases n with
  | zero => exact ⟨rfl, h⟩
  | succ n => exact ⟨fun _ => h, fun i hi => by cases hi⟩
theorem Thr.end {n : Nat} {a : Act} {w : World} {F : List Nat} (h : Thr P ops Lo w0 Post n [] a w F) : ∀ w', Below w0.heap.size w0 w' → Keep F w w' → Post (valA a) w' F := by
  cases n with
  | zero => exact h.2
  | succ n => exact h.1 rfl
theorem Thr.mono_fuel {n : Nat} : ∀ {m : Nat} {R : List Nat} {a : Act} {w : World} {F : List Nat}, Thr P ops Lo w0 Post m R a w F → Thr P ops Lo w0 Post (m + n) R a w F := by
  intro m
  induction m with
  | zero => intro R a w F h; have := h.1; subst this; exact Thr.done _ h.2
  | succ m ih =>
    intro R a w F h
    rw [show m + 1 + n = (m + n) + 1 by omega]
    refine ⟨h.1, fun i hi hr w' hb hk => ?_⟩
    obtain ⟨o, ho, hst⟩ := h.2 i hi hr w' hb hk
    refine ⟨o, ho, fun K' hK => hst K' (fun a'' w'' ⟨h1, h2, F'', h3, h4⟩ => hK _ _ ⟨h1, h2, F'', h3, ih h4⟩)⟩
/-- a thread that is a chain: its first operation -/
theorem Thr.step {n i : Nat} {rest : List Nat} {a : Act} {w : World} {F : List Nat} {o : Oper} (N : Option Tmp) (hi : ops[i]? = some o) (hN : o.dst = N) (hB : rest.all (fun j => !rdyT ops (i :: rest) j) = true)
    (h : ∀ w', Below w0.heap.size w0 w' → Keep F w w' → ∀ K : Act → World → Prop,
      Shut (∀ a'' w'' F'', a''.defers = a.defers → Below w0.heap.size w0 w'' → Guar F w' w'' F'' → Thr P ops Lo w0 Post n rest a'' w'' F'' → K a'' w'') →
      if Region.wanted o (yielded ops a.tmps) = true then Oper.wp P o a w' K (NP Lo) else K (a.put N undef) w') : Thr P ops Lo w0 Post (n + 1) (i :: rest) a w F := by
  subst hN
  refine ⟨(fun h => by cases h), fun j hj hr w' hb hk => ?_⟩
  have hji : j = i := by
    rcases List.mem_cons.1 hj with h | h
    · exact h
    · have := List.all_eq_true.1 hB j h
      rw [hr] at this
      cases this
  subst hji
  refine ⟨o, hi, fun K' hK => h w' hb hk K' (fun a'' w'' F'' h1 h2 h3 h4 => hK _ _ ⟨h1, h2, F'', h3, by simpa using h4⟩)⟩
def lookT (ops : Array Oper) (T : List Nat) : List Tmp := T.flatMap fun i => match ops[i]? with | some o => o.dst.toList ++ o.looksAt ops | none => []
def dstT (ops : Array Oper) (T : List Nat) : List Tmp := T.flatMap fun i => match ops[i]? with | some o => o.dst.toList | none => []
def disj (A B : List Nat) : Bool := A.all fun a => !B.contains a
def parB (ops : Array Oper) (T1 T2 : List Nat) (o1 o2 : List Tmp) : Bool :=
  Region.noSelect ops && disj T1 T2 && disj (dstT ops T1) (lookT ops T2) && disj (dstT ops T2) (lookT ops T1) && (o1.all fun t => (lookT ops T1).contains t) && (o2.all fun t => (lookT ops T2).contains t)
theorem disj_spec {A B : List Nat} (h : disj A B = true) : ∀ a ∈ A, a ∉ B := fun a ha hb => by
  have := List.all_eq_true.1 h a ha
  simp [hb] at this
def Agree (X : List Tmp) (a a1 : Act) : Prop := ∀ t ∈ X, a.tmps[t]? = a1.tmps[t]?
theorem getD_of_getElem? {a a1 : Act} {t : Tmp} (h : a.tmps[t]? = a1.tmps[t]?) : a.tmps.getD t undef = a1.tmps.getD t undef := by
  simp only [Array.getD_eq_getD_getElem?, h]
theorem agree_exec {o : Oper} {a a1 : Act} (hs : ∀ cs b, o.op ≠ .select cs b) (h : ∀ t ∈ o.looksAt ops, a.tmps[t]? = a1.tmps[t]?) : execOp a.eval o = execOp a1.eval o :=
  execOp_congr o hs fun x hx => by
    cases x with
    | tmp t => exact getD_of_getElem? (h t (List.mem_append_left _ (List.mem_filterMap.2 ⟨.tmp t, by simpa using hx, rfl⟩)))
    | _ => rfl
theorem agree_wanted {o : Oper} {a a1 : Act} (h : ∀ t ∈ o.looksAt ops, a.tmps[t]? = a1.tmps[t]?) : Region.wanted o (yielded ops a.tmps) = Region.wanted o (yielded ops a1.tmps) := by
  unfold Region.wanted
  cases hg : o.guard with
  | none => rfl
  | some gw =>
    obtain ⟨g, want⟩ := gw
    have hy : yielded ops a.tmps g = yielded ops a1.tmps g := by
      unfold yielded
      cases ht : (ops[g]?).bind (·.dst) with
      | none => rfl
      | some t =>
        have := h t (by simp [Oper.looksAt, hg, ht])
        simp [this]
    simp only [hy]
theorem put_get (a : Act) (d : Option Tmp) (v : Value) (t : Tmp) (h : ∀ e, d = some e → e ≠ t) : (a.put d v).tmps[t]? = a.tmps[t]? := by
  cases d with
  | none => rfl
  | some e => exact Array.getElem?_setIfInBounds_ne (h e rfl)
theorem put_agree {X : List Tmp} {a a1 : Act} (h : Agree X a a1) (d : Option Tmp) (hd : ∀ e, d = some e → e ∈ X) (v : Value) : Agree X (a.put d v) (a1.put d v) := by
  intro t ht
  cases d with
  | none => exact h t ht
  | some e =>
    by_cases het : e = t
    · subst het
      have := h e ht
      simp only [Act.put, Array.getElem?_setIfInBounds]
      simp only [if_true]
      have hs : (e < a.tmps.size) ↔ (e < a1.tmps.size) := by
        constructor
        · intro hlt
          rw [Array.getElem?_eq_getElem hlt] at this
          exact (Array.getElem?_eq_some_iff.1 this.symm).1
        · intro hlt
          rw [Array.getElem?_eq_getElem hlt] at this
          exact (Array.getElem?_eq_some_iff.1 this).1
      by_cases hlt : e < a.tmps.size
      · rw [if_pos hlt, if_pos (hs.1 hlt)]
      · rw [if_neg hlt, if_neg (fun h => hlt (hs.2 h))]
    · rw [put_get _ _ _ _ (fun f hf => by cases hf; exact het), put_get _ _ _ _ (fun f hf => by cases hf; exact het)]
      exact h t ht
theorem put_defers (a : Act) (d : Option Tmp) (v : Value) : (a.put d v).defers = a.defers := by cases d <;> rfl
/-- a step that was shown of one act goes for another that agrees on what is looked at -/
theorem wp_transfer {o : Oper} {a a1 : Act} {w : World} {N K : Act → World → Prop} {Q Q' : Exit → Act → World → Prop} (he : execOp a.eval o = execOp a1.eval o) (hw : Region.wanted o (yielded ops a.tmps) = Region.wanted o (yielded ops a1.tmps))
    (hd : ∀ b w, N b w → b.defers = a1.defers) (hL : LetsOut Q → LetsOut Q') (hP : ∀ c w, Q (.panic c) a1 w → Q' (.panic c) a w) (hK : ∀ v w', N (a1.put o.dst v) w' → K (a.put o.dst v) w')
    (h : if Region.wanted o (yielded ops a1.tmps) = true then Oper.wp P o a1 w N Q else N (a1.put o.dst undef) w) : if Region.wanted o (yielded ops a.tmps) = true then Oper.wp P o a w K Q' else K (a.put o.dst undef) w := by
  rw [hw]
  split
  · rename_i hw
    rw [if_pos hw] at h
    unfold Oper.wp at *
    rw [he]
    generalize (execOp a1.eval o).run P w = r at *
    cases r with
    | ok n w' =>
      cases n <;> simp only [Oper.upon] at h ⊢
      case value u => exact hK _ _ h
      case skip => exact hK _ _ h
      case defer d =>
        have := hd _ _ h
        rw [put_defers] at this
        simp at this
      case enter f args =>
        refine Calls.mono h fun e w'' hq => ?_
        cases e with
        | returned u => exact hK _ _ hq
        | panicked c => exact hP _ _ hq
        | outgrown => exact hL hq
      case row row args => exact Rows.mono h fun u w'' hq => hK _ _ hq
    | halt x w' =>
      cases x <;> simp only [Oper.upon] at h ⊢
      case panic u => exact hP _ _ h
  · rename_i hw
    rw [if_neg hw] at h
    exact hK _ _ h
theorem mem_dstT {T : List Nat} {i : Nat} {o : Oper} (hi : i ∈ T) (ho : ops[i]? = some o) {d : Tmp} (hd : o.dst = some d) : d ∈ dstT ops T :=
  List.mem_flatMap.2 ⟨i, hi, by rw [ho]; simp [hd]⟩
theorem mem_lookT_dst {T : List Nat} {i : Nat} {o : Oper} (hi : i ∈ T) (ho : ops[i]? = some o) {d : Tmp} (hd : o.dst = some d) : d ∈ lookT ops T :=
  List.mem_flatMap.2 ⟨i, hi, by rw [ho]; simp [hd]⟩
theorem mem_lookT {T : List Nat} {i : Nat} {o : Oper} (hi : i ∈ T) (ho : ops[i]? = some o) {d : Tmp} (hd : d ∈ o.looksAt ops) : d ∈ lookT ops T :=
  List.mem_flatMap.2 ⟨i, hi, by rw [ho]; simp [hd]⟩
theorem rdyT_left {R1 R2 : List Nat} {i : Nat} (h : rdyT ops (R1 ++ R2) i = true) : rdyT ops R1 i = true := by
  unfold rdyT at *
  split at h
  · rename_i o ho
    refine Array.all_eq_true_iff_forall_mem.2 fun e he => ?_
    have := Array.all_eq_true_iff_forall_mem.1 h e he
    simp only [Bool.or_eq_true, Bool.not_eq_true', List.contains_append, Bool.or_eq_false_iff] at this ⊢
    exact this.imp id (·.1)
  · exact h
theorem rdyT_right {R1 R2 : List Nat} {i : Nat} (h : rdyT ops (R1 ++ R2) i = true) : rdyT ops R2 i = true := by
  unfold rdyT at *
  split at h
  · rename_i o ho
    refine Array.all_eq_true_iff_forall_mem.2 fun e he => ?_
    have := Array.all_eq_true_iff_forall_mem.1 h e he
    simp only [Bool.or_eq_true, Bool.not_eq_true', List.contains_append, Bool.or_eq_false_iff] at this ⊢
    exact this.imp id (·.2)
  · exact h
/-- two posts side by side -/
def Both (o1 o2 : List Tmp) (P1 P2 : List Value → World → List Nat → Prop) (u : Tmp → Value) (w : World) (F : List Nat) : Prop := ∃ F1 F2, F = F1 ++ F2 ∧ P1 (o1.map u) w F1 ∧ P2 (o2.map u) w F2
theorem Both.mk' {o1 o2 : List Tmp} {P1 P2 : List Value → World → List Nat → Prop} {u : Tmp → Value} {w : World} {F1 F2 : List Nat} (h1 : P1 (o1.map u) w F1) (h2 : P2 (o2.map u) w F2) : Both o1 o2 P1 P2 u w (F1 ++ F2) := ⟨F1, F2, rfl, h1, h2⟩
theorem Thr.par_aux {T1 T2 : List Nat} {o1 o2 : List Tmp} (hB : parB ops T1 T2 o1 o2 = true) {P1 P2 : List Value → World → List Nat → Prop} :
    ∀ (n n1 n2 : Nat), n = n1 + n2 → ∀ (R1 R2 : List Nat) (a a1 a2 : Act) (w : World) (F1 F2 : List Nat), (∀ i ∈ R1, i ∈ T1) → (∀ i ∈ R2, i ∈ T2) →
      Agree (lookT ops T1) a a1 → Agree (lookT ops T2) a a2 → a.defers = a1.defers → a.defers = a2.defers → w0.heap.size ≤ w.heap.size →
      (∀ k ∈ F1, k < w.heap.size) → (∀ k ∈ F2, k < w.heap.size) → F1.Nodup → F2.Nodup → (∀ k ∈ F1, k ∉ F2) →
      Thr P ops Lo w0 (fun u => P1 (o1.map u)) n1 R1 a1 w F1 → Thr P ops Lo w0 (fun u => P2 (o2.map u)) n2 R2 a2 w F2 →
      Thr P ops Lo w0 (Both o1 o2 P1 P2) n (R1 ++ R2) a w (F1 ++ F2) := by
  simp only [parB, Bool.and_eq_true] at hB
  obtain ⟨⟨⟨⟨⟨hsel, hT⟩, hd1⟩, hd2⟩, ho1⟩, ho2⟩ := hB
  have hT' := disj_spec hT
  have hd1' := disj_spec hd1
  have hd2' := disj_spec hd2
  have ho1' : ∀ t ∈ o1, t ∈ lookT ops T1 := fun t ht => by simpa using List.all_eq_true.1 ho1 t ht
  have ho2' : ∀ t ∈ o2, t ∈ lookT ops T2 := fun t ht => by simpa using List.all_eq_true.1 ho2 t ht
  have hend : ∀ (a a1 a2 : Act) (w : World) (F1 F2 : List Nat) (n1 n2 : Nat), Agree (lookT ops T1) a a1 → Agree (lookT ops T2) a a2 → Thr P ops Lo w0 (fun u => P1 (o1.map u)) n1 [] a1 w F1 → Thr P ops Lo w0 (fun u => P2 (o2.map u)) n2 [] a2 w F2 →
      ∀ w', Below w0.heap.size w0 w' → Keep (F1 ++ F2) w w' → Both o1 o2 P1 P2 (valA a) w' (F1 ++ F2) := by
    intro a a1 a2 w F1 F2 n1 n2 g1 g2 h1 h2 w' hb hk
    have e1 : o1.map (valA a) = o1.map (valA a1) := List.map_congr_left fun t ht => getD_of_getElem? (g1 t (ho1' t ht))
    have e2 : o2.map (valA a) = o2.map (valA a2) := List.map_congr_left fun t ht => getD_of_getElem? (g2 t (ho2' t ht))
    refine Both.mk' ?_ ?_
    · rw [e1]; exact h1.end w' hb hk.left
    · rw [e2]; exact h2.end w' hb hk.right
  intro n
  induction n with
  | zero =>
    intro n1 n2 hn R1 R2 a a1 a2 w F1 F2 s1 s2 g1 g2 f1 f2 hsz l1 l2 d1 d2 hd h1 h2
    obtain rfl : n1 = 0 := by omega
    obtain rfl : n2 = 0 := by omega
    have r1 := h1.1
    have r2 := h2.1
    subst r1; subst r2
    exact ⟨rfl, hend a a1 a2 w F1 F2 0 0 g1 g2 h1 h2⟩
  | succ n ih =>
    intro n1 n2 hn R1 R2 a a1 a2 w F1 F2 s1 s2 g1 g2 f1 f2 hsz l1 l2 d1 d2 hd h1 h2
    refine ⟨fun hR => ?_, fun i hi hr w' hb hk => ?_⟩
    · have r1 : R1 = [] := (List.append_eq_nil_iff.1 hR).1
      have r2 : R2 = [] := (List.append_eq_nil_iff.1 hR).2
      subst r1; subst r2
      exact hend a a1 a2 w F1 F2 n1 n2 g1 g2 h1 h2
    · have hk1 := hk.left
      have hk2 := hk.right
      have l1' : ∀ k ∈ F1, k < w'.heap.size := fun k hk' => Nat.lt_of_lt_of_le (l1 k hk') hk.1
      have l2' : ∀ k ∈ F2, k < w'.heap.size := fun k hk' => Nat.lt_of_lt_of_le (l2 k hk') hk.1
      rcases List.mem_append.1 hi with hi1 | hi2
      · -- a step of the first
        have hiT := s1 i hi1
        cases n1 with
        | zero => have := h1.1; subst this; cases hi1
        | succ m1 =>
          obtain ⟨o, ho, hst⟩ := h1.2 i hi1 (rdyT_left hr) w' hb hk1
          refine ⟨o, ho, fun K' hK => ?_⟩
          have look : ∀ t ∈ o.looksAt ops, a.tmps[t]? = a1.tmps[t]? := fun t ht => g1 t (mem_lookT hiT ho ht)
          refine wp_transfer (agree_exec (Region.noSelect_spec hsel i o · · ho) look) (agree_wanted look) (N := fun a'' w'' => a''.defers = a1.defers ∧ Below w0.heap.size w0 w'' ∧ ∃ F'', Guar F1 w' w'' F'' ∧ Thr P ops Lo w0 (fun u => P1 (o1.map u)) m1 (R1.erase i) a'' w'' F'') (Q := NP Lo)
            (fun b w h => h.1) id (fun c w h => h.elim) (fun v w'' hN => ?_) (hst _ (fun a w h => h))
          obtain ⟨hdf, hbl, F'', hG, hThr⟩ := hN
          refine hK _ _ ⟨put_defers _ _ _, hbl, F'' ++ F2, ?_, ?_⟩
          · refine ⟨hG.but.mono (fun k hk => List.mem_append_left _ hk), fun k hk => ?_, fun k hk => ?_, ?_⟩
            · rcases List.mem_append.1 hk with hk | hk
              · exact (hG.sub k hk).imp (List.mem_append_left _) id
              · exact .inl (List.mem_append_right _ hk)
            · rcases List.mem_append.1 hk with hk | hk
              · exact hG.lt k hk
              · exact Nat.lt_of_lt_of_le (l2' k hk) hG.but.size
            · refine List.nodup_append.2 ⟨hG.nd, d2, fun x hx y hy => ?_⟩
              rintro rfl
              rcases hG.sub x hx with h | h
              · exact hd x h hy
              · have := l2' x hy; omega
          · rw [List.erase_append_left _ hi1]
            have kk : Keep F2 w' w'' := hG.keep l2' (fun k hk h => hd k h hk)
            refine ih m1 n2 (by omega) _ _ _ _ _ _ _ _ (fun j hj => s1 j (List.mem_of_mem_erase hj)) s2 (put_agree g1 _ (fun e he => mem_lookT_dst hiT ho he) v) (fun t ht => ?_) (by rw [put_defers, put_defers]; exact f1) (by rw [put_defers]; exact f2)
              (Nat.le_trans (Nat.le_trans hsz hk.1) hG.but.size) hG.lt (fun k hk => Nat.lt_of_lt_of_le (l2' k hk) hG.but.size) hG.nd d2 (fun k hk h => ?_) hThr ((h2.keep hk2).keep kk)
            · rw [put_get _ _ _ _ (fun e he het => hd1' e (mem_dstT hiT ho he) (het ▸ ht))]; exact g2 t ht
            · rcases hG.sub k hk with h' | h'
              · exact hd k h' h
              · have := l2' k h; omega
      · have hi1 : i ∉ R1 := fun h => hT' i (s1 i h) (s2 i hi2)
        have hiT := s2 i hi2
        cases n2 with
        | zero => have := h2.1; subst this; cases hi2
        | succ m2 =>
          obtain ⟨o, ho, hst⟩ := h2.2 i hi2 (rdyT_right hr) w' hb hk2
          refine ⟨o, ho, fun K' hK => ?_⟩
          have look : ∀ t ∈ o.looksAt ops, a.tmps[t]? = a2.tmps[t]? := fun t ht => g2 t (mem_lookT hiT ho ht)
          refine wp_transfer (agree_exec (Region.noSelect_spec hsel i o · · ho) look) (agree_wanted look) (N := fun a'' w'' => a''.defers = a2.defers ∧ Below w0.heap.size w0 w'' ∧ ∃ F'', Guar F2 w' w'' F'' ∧ Thr P ops Lo w0 (fun u => P2 (o2.map u)) m2 (R2.erase i) a'' w'' F'') (Q := NP Lo)
            (fun b w h => h.1) id (fun c w h => h.elim) (fun v w'' hN => ?_) (hst _ (fun a w h => h))
          obtain ⟨hdf, hbl, F'', hG, hThr⟩ := hN
          refine hK _ _ ⟨put_defers _ _ _, hbl, F1 ++ F'', ?_, ?_⟩
          · refine ⟨hG.but.mono (fun k hk => List.mem_append_right _ hk), fun k hk => ?_, fun k hk => ?_, ?_⟩
            · rcases List.mem_append.1 hk with hk | hk
              · exact .inl (List.mem_append_left _ hk)
              · exact (hG.sub k hk).imp (List.mem_append_right _) id
            · rcases List.mem_append.1 hk with hk | hk
              · exact Nat.lt_of_lt_of_le (l1' k hk) hG.but.size
              · exact hG.lt k hk
            · refine List.nodup_append.2 ⟨d1, hG.nd, fun x hx y hy => ?_⟩
              rintro rfl
              rcases hG.sub x hy with h | h
              · exact hd x hx h
              · have := l1' x hx; omega
          · rw [List.erase_append_right _ hi1]
            have kk : Keep F1 w' w'' := hG.keep l1' (fun k hk h => hd k hk h)
            refine ih n1 m2 (by omega) _ _ _ _ _ _ _ _ s1 (fun j hj => s2 j (List.mem_of_mem_erase hj)) (fun t ht => ?_) (put_agree g2 _ (fun e he => mem_lookT_dst hiT ho he) v) (by rw [put_defers]; exact f1) (by rw [put_defers, put_defers]; exact f2)
              (Nat.le_trans (Nat.le_trans hsz hk.1) hG.but.size) (fun k hk => Nat.lt_of_lt_of_le (l1' k hk) hG.but.size) hG.lt d1 hG.nd (fun k hk h => ?_) ((h1.keep hk1).keep kk) hThr
            · rw [put_get _ _ _ _ (fun e he het => hd2' e (mem_dstT hiT ho he) (het ▸ ht))]; exact g1 t ht
            · rcases hG.sub k h with h' | h'
              · exact hd k hk h'
              · have := l1' k hk; omega
/-- two threads, both from the beginning -/
theorem Thr.par {T1 T2 : List Nat} (n1 n2 : Nat) (o1 o2 : List Tmp) (P1 P2 : List Value → World → List Nat → Prop) {a : Act} {w : World} (hB : parB ops T1 T2 o1 o2 = true) (hsz : w0.heap.size ≤ w.heap.size)
    (h1 : Thr P ops Lo w0 (fun u => P1 (o1.map u)) n1 T1 a w []) (h2 : Thr P ops Lo w0 (fun u => P2 (o2.map u)) n2 T2 a w []) : Thr P ops Lo w0 (Both o1 o2 P1 P2) (n1 + n2) (T1 ++ T2) a w [] :=
  Thr.par_aux hB (n1 + n2) n1 n2 rfl T1 T2 a a a w [] [] (fun _ h => h) (fun _ h => h) (fun _ _ => rfl) (fun _ _ => rfl) rfl rfl hsz (by simp) (by simp) (by simp) (by simp) (by simp) h1 h2
def waitsB (ops : Array Oper) (c r : Nat) : Bool := match ops[c]? with | some o => o.after.any fun e => Region.binds .any e && e.on == r | none => false
/-- whatever of T is left over (T closed upwards), none of C may come up -/
def seqTB (ops : Array Oper) (T C : List Nat) : Bool :=
  match C with
  | [] => false
  | c :: C' => disj T C && (T.all fun x => (T.any fun y => decide (x < y) && waitsB ops y x) || waitsB ops c x) && (((c :: C').zip C').all fun p => waitsB ops p.2 p.1)
theorem waitsB_rdy {R : List Nat} {c r : Nat} (h : waitsB ops c r = true) (hr : r ∈ R) : rdyT ops R c = false := by
  unfold waitsB at h
  unfold rdyT
  split at h
  · rename_i o ho
    obtain ⟨e, he, h1⟩ := Array.any_eq_true'.1 h
    simp only [Bool.and_eq_true, beq_iff_eq] at h1
    rw [Bool.eq_false_iff]
    intro hall
    have := Array.all_eq_true_iff_forall_mem.1 hall e he
    rw [h1.1, h1.2] at this
    simp [hr] at this
  · cases h
def UpClosed (ops : Array Oper) (T R : List Nat) : Prop := ∀ x ∈ R, ∀ y ∈ T, waitsB ops y x = true → y ∈ R
theorem exists_max : ∀ (l : List Nat), l ≠ [] → ∃ m ∈ l, ∀ x ∈ l, x ≤ m
  | [], h => absurd rfl h
  | a :: l, _ => by
    by_cases hl : l = []
    · subst hl; exact ⟨a, by simp, by simp⟩
    · obtain ⟨m, hm, h⟩ := exists_max l hl
      by_cases hc : a ≤ m
      · exact ⟨m, List.mem_cons_of_mem _ hm, fun x hx => by rcases List.mem_cons.1 hx with rfl | hx; exact hc; exact h x hx⟩
      · exact ⟨a, by simp, fun x hx => by rcases List.mem_cons.1 hx with rfl | hx; exact Nat.le_refl _; exact Nat.le_trans (h x hx) (by omega)⟩
theorem chain_waits {R : List Nat} : ∀ (c : Nat) (C : List Nat), (((c :: C).zip C).all fun p => waitsB ops p.2 p.1) = true → (∀ d ∈ c :: C, d ∈ R) → ∀ d ∈ C, rdyT ops R d = false
  | _, [], _, _, d, hd => by cases hd
  | c, d :: C, h, hR, x, hx => by
    simp only [List.zip_cons_cons, List.all_cons, Bool.and_eq_true] at h
    rcases List.mem_cons.1 hx with rfl | hx
    · exact waitsB_rdy h.1 (hR c (by simp))
    · exact chain_waits d C h.2 (fun y hy => hR y (List.mem_cons_of_mem _ hy)) x hx
theorem seq_none {T C R : List Nat} (hB : seqTB ops T C = true) (hup : UpClosed ops T R) (hR : ∀ x ∈ R, x ∈ T) (hne : R ≠ []) : ∀ d ∈ C, rdyT ops (R ++ C) d = false := by
  cases C with
  | nil => simp [seqTB] at hB
  | cons c C =>
    simp only [seqTB, Bool.and_eq_true] at hB
    obtain ⟨⟨_, hs⟩, hch⟩ := hB
    intro d hd
    rcases List.mem_cons.1 hd with rfl | hd'
    · obtain ⟨m, hm, hmax⟩ := exists_max R hne
      have := List.all_eq_true.1 hs m (hR m hm)
      rcases Bool.or_eq_true_iff.1 this with h | h
      · obtain ⟨y, hy, h2⟩ := List.any_eq_true.1 h
        simp only [Bool.and_eq_true, decide_eq_true_eq] at h2
        have := hmax y (hup m hm y hy h2.2)
        omega
      · exact waitsB_rdy h (List.mem_append_left _ hm)
    · exact chain_waits c C hch (fun y hy => List.mem_append_right _ hy) d hd'
theorem UpClosed.erase {T R : List Nat} {i : Nat} {C : List Nat} (hT : T.Nodup) (hR : ∀ x ∈ R, x ∈ T) (h : UpClosed ops T R) (hr : rdyT ops (R ++ C) i = true) : UpClosed ops T (R.erase i) := by
  intro x hx y hy hw
  have hxR := List.mem_of_mem_erase hx
  have hyR := h x hxR y hy hw
  have : y ≠ i := by
    rintro rfl
    rw [waitsB_rdy hw (List.mem_append_left _ hxR)] at hr
    cases hr
  exact (List.mem_erase_of_ne this).2 hyR
/-- off the destinations of T the act is as it was -/
structure Off (ops : Array Oper) (T : List Nat) (a a' : Act) : Prop where
  size : a'.tmps.size = a.tmps.size
  defers : a'.defers = a.defers
  off : ∀ t, t ∉ dstT ops T → a'.tmps[t]? = a.tmps[t]?
theorem Off.refl (T : List Nat) (a : Act) : Off ops T a a := ⟨rfl, rfl, fun _ _ => rfl⟩
theorem put_size (a : Act) (d : Option Tmp) (v : Value) : (a.put d v).tmps.size = a.tmps.size := by cases d <;> simp [Act.put]
theorem Off.put {T : List Nat} {a a' : Act} (h : Off ops T a a') {i : Nat} {o : Oper} (hi : i ∈ T) (ho : ops[i]? = some o) (v : Value) : Off ops T a (a'.put o.dst v) :=
  ⟨by rw [put_size, h.size], by rw [put_defers, h.defers], fun t ht => by rw [put_get _ _ _ t (fun e he het => ht (by rw [← het]; exact mem_dstT hi ho he))]; exact h.off t ht⟩
theorem putU_defers (ds : List Tmp) (a : Act) (u : Tmp → Value) : (putU a ds u).defers = a.defers := by
  induction ds generalizing a with
  | nil => rfl
  | cons d ds ih => rw [putU, List.foldl_cons]; exact (ih _).trans (put_defers a (some d) (u d))
theorem putU_get (ds : List Tmp) (a : Act) (u : Tmp → Value) (t : Tmp) : (putU a ds u).tmps[t]? = if t ∈ ds ∧ t < a.tmps.size then some (u t) else a.tmps[t]? := by
  induction ds generalizing a with
  | nil => simp [putU]
  | cons d ds ih =>
    rw [putU, List.foldl_cons]
    refine (ih (a.put (some d) (u d))).trans ?_
    rw [put_size]
    by_cases hdt : d = t
    · subst hdt
      by_cases hlt : d < a.tmps.size
      · rw [if_pos (show d ∈ d :: ds ∧ d < a.tmps.size from ⟨by simp, hlt⟩)]
        split
        · rfl
        · simp [Act.put, hlt]
      · rw [if_neg (fun h => hlt h.2), if_neg (fun h => hlt h.2)]
        simp [Act.put, hlt]
    · have : t ≠ d := Ne.symm hdt
      rw [put_get _ _ _ _ (fun e he => by cases he; exact hdt)]
      simp [List.mem_cons, this]
theorem off_putU {T : List Nat} {a a' : Act} (h : Off ops T a a') : a' = putU a (dstT ops T) (valA a') := by
  have ht : a'.tmps = (putU a (dstT ops T) (valA a')).tmps := by
    apply Array.ext_getElem?
    intro t
    rw [putU_get]
    split
    · rename_i hm
      rw [← h.size] at hm
      unfold valA
      rw [Array.getD_eq_getD_getElem?, Array.getElem?_eq_getElem hm.2]
      rfl
    · rename_i hm
      by_cases hd : t ∈ dstT ops T
      · have hge : a.tmps.size ≤ t := Nat.le_of_not_lt (fun hlt => hm ⟨hd, hlt⟩)
        rw [Array.getElem?_eq_none hge, Array.getElem?_eq_none (by rw [h.size]; exact hge)]
      · exact h.off t hd
  have hd : a'.defers = (putU a (dstT ops T) (valA a')).defers := by rw [putU_defers, h.defers]
  cases a'
  cases hp : putU a (dstT ops T) (valA ⟨_, _⟩) with
  | mk x y =>
    rw [hp] at ht hd
    simp only at ht hd
    subst ht; subst hd
    rfl
theorem Thr.seq_aux {T C : List Nat} (hsel : Region.noSelect ops = true) (hB : seqTB ops T C = true) (hT : T.Nodup) {Post1 : (Tmp → Value) → World → List Nat → Prop} {n2 : Nat} {a0 : Act}
    (h2 : ∀ (a : Act) (w : World) (F : List Nat), Off ops T a0 a → Below w0.heap.size w0 w → F.Nodup → (∀ k ∈ F, w0.heap.size ≤ k ∧ k < w.heap.size) → Post1 (valA a) w F → Thr P ops Lo w0 Post n2 C a w F) :
    ∀ (n1 : Nat) (R : List Nat) (a : Act) (w : World) (F : List Nat), (∀ x ∈ R, x ∈ T) → UpClosed ops T R → Off ops T a0 a → Below w0.heap.size w0 w → F.Nodup → (∀ k ∈ F, w0.heap.size ≤ k ∧ k < w.heap.size) → Thr P ops Lo w0 Post1 n1 R a w F → Thr P ops Lo w0 Post (n1 + n2) (R ++ C) a w F := by
  intro n1
  induction n1 with
  | zero =>
    intro R a w F hR hup hoff hb hnd hF h1
    have := h1.1
    subst this
    rw [Nat.zero_add]
    exact h2 a w F hoff hb hnd hF (h1.2 w hb (Keep.refl _ _))
  | succ n1 ih =>
    intro R a w F hR hup hoff hb hnd hF h1
    by_cases hne : R = []
    · subst hne
      have := h2 a w F hoff hb hnd hF (h1.end w hb (Keep.refl _ _))
      rw [show n1 + 1 + n2 = n2 + (n1 + 1) by omega]
      exact Thr.mono_fuel this
    · rw [show n1 + 1 + n2 = (n1 + n2) + 1 by omega]
      refine ⟨fun h => absurd (List.append_eq_nil_iff.1 h).1 hne, fun i hi hr w' hb' hk => ?_⟩
      have hiR : i ∈ R := by
        rcases List.mem_append.1 hi with h | h
        · exact h
        · rw [seq_none hB hup hR hne i h] at hr; cases hr
      obtain ⟨o, ho, hst⟩ := h1.2 i hiR (rdyT_left hr) w' hb' hk
      refine ⟨o, ho, fun K' hK => ?_⟩
      refine wp_transfer rfl rfl (N := fun a'' w'' => a''.defers = a.defers ∧ Below w0.heap.size w0 w'' ∧ ∃ F'', Guar F w' w'' F'' ∧ Thr P ops Lo w0 Post1 n1 (R.erase i) a'' w'' F'') (Q := NP Lo)
            (fun b w h => h.1) id (fun c w h => h.elim) (fun v w'' hN => ?_) (hst _ (fun a w h => h))
      obtain ⟨hdf, hbl, F'', hG, hThr⟩ := hN
      refine hK _ _ ⟨hdf, hbl, F'', hG, ?_⟩
      rw [List.erase_append_left _ hiR]
      exact ih _ _ _ _ (fun x hx => hR x (List.mem_of_mem_erase hx)) (hup.erase hT hR hr) (hoff.put (hR i hiR) ho v) hbl hG.nd (fun k hk' => ⟨(hG.sub k hk').elim (fun h => (hF k h).1) (fun h => Nat.le_trans hb'.size h), hG.lt k hk'⟩) hThr
theorem Thr.seq {T C : List Nat} (n1 n2 : Nat) (D : List Tmp) (hD : dstT ops T = D) (Post1 : (Tmp → Value) → World → List Nat → Prop) {a : Act} {w : World} (hsel : Region.noSelect ops = true) (hB : (seqTB ops T C && decide T.Nodup) = true) (hb : Below w0.heap.size w0 w)
    (h1 : Thr P ops Lo w0 Post1 n1 T a w [])
    (h2 : ∀ (u : Tmp → Value) (w : World) (F : List Nat), Below w0.heap.size w0 w → F.Nodup → (∀ k ∈ F, w0.heap.size ≤ k ∧ k < w.heap.size) → Post1 u w F → Thr P ops Lo w0 Post n2 C (putU a D u) w F) : Thr P ops Lo w0 Post (n1 + n2) (T ++ C) a w [] := by
  subst hD
  simp only [Bool.and_eq_true, decide_eq_true_eq] at hB
  exact Thr.seq_aux hsel hB.1 hB.2 (a0 := a) (fun a' w' F hoff hb hnd hF hp => by rw [off_putU hoff]; exact h2 _ w' F hb hnd hF hp) n1 T a w [] (fun _ h => h) (fun _ _ y hy _ => hy) (Off.refl _ _) hb (by simp) (by simp) h1
section
variable {Q : Exit → Act → World → Prop} {S : World → Prop} {ds : List Nat}
def pick (l : List Oper) (ts : List Nat) : List Oper := ts.map fun t => l.getD t default
def seqL (ops : Array Oper) : List Nat → Array Bool → Bool
  | [], listed => (Region.ready .any ops listed).isEmpty
  | t :: ts, listed => decide (Region.ready .any ops listed = [t]) && seqL ops ts (listed.setIfInBounds t true)
theorem last_of_seq : ∀ (ts : List Nat) (listed : Array Bool) (a : Act) (w : World), (∀ t ∈ ts, t < ops.size) → seqL ops ts listed = true → (∀ t ∈ ts, t ∈ ds) →
    wpList P ops Q (pick ops.toList ts) a w → wpAnyLast P .any ops Q S ds ts.length listed a w
  | [], _, _, _, _, hB, _, h => ⟨by simpa [seqL] using hB, h⟩
  | t :: ts, listed, a, w, hl, hB, hds, h => by
    have hk : t < ops.size := hl t (by simp)
    have h0 : ops[t]? = some (ops.toList.getD t default) := by
      rw [Array.getElem?_eq_getElem hk]
      simp [List.getD_eq_getElem?_getD, hk]
    simp only [seqL, Bool.and_eq_true, decide_eq_true_eq] at hB
    refine ⟨fun h1 => (by rw [hB.1] at h1; cases h1), fun i hi => ?_⟩
    rw [hB.1] at hi
    have hik : i = t := by simpa using hi
    subst hik
    have hw : wpOp P ops Q i (wpList P ops Q (pick ops.toList ts)) a w := by unfold wpOp; simp only [h0]; exact h
    exact wpOp_mono (fun a' w' h' => ⟨fun hn => absurd (hds i (by simp)) hn, last_of_seq ts _ a' w' (fun j hj => hl j (List.mem_cons_of_mem _ hj)) hB.2 (fun j hj => hds j (List.mem_cons_of_mem _ hj)) h'⟩) hw
def backB (ops : Array Oper) (ts : List Nat) (i : Nat) : Bool := match ops[i]? with | some o => o.after.all fun e => !Region.binds .any e || (decide (e.on < i) && !ts.contains e.on) | none => false
def finB (n : Nat) (ts : List Nat) : Array Bool := ((List.range n).map fun i => !ts.contains i).toArray
def headB (ops : Array Oper) (listed : Array Bool) (T ts : List Nat) (ds : List Nat) : Bool :=
  Region.noSelect ops && decide T.Nodup && decide (listed.size = ops.size) && (T.all fun i => decide (i < ops.size) && !listed.getD i true && !ds.contains i && backB ops ts i) && ((List.range ops.size).all fun i => listed.getD i false || T.contains i || ts.contains i) &&
    (ts.all fun t => decide (t < ops.size) && !listed.getD t true && ds.contains t && !T.contains t) && seqTB ops T ts && seqL ops ts (finB ops.size ts)
theorem rdy_of_ready {listed : Array Bool} {X : List Nat} {i : Nat} (hi : i ∈ Region.ready .any ops listed) (hX : ∀ x ∈ X, listed.getD x false = false) : rdyT ops X i = true := by
  obtain ⟨_, o, ho, hall⟩ := mem_ready.1 hi
  unfold rdyT
  rw [ho]
  refine Array.all_eq_true_iff_forall_mem.2 fun e he => ?_
  by_cases hb : Region.binds .any e = true
  · have := hall e he hb
    have hn : e.on ∉ X := fun h => by rw [hX _ h] at this; cases this
    simp [hb, hn]
  · simp [hb]
theorem exists_min : ∀ (l : List Nat), l ≠ [] → ∃ m ∈ l, ∀ x ∈ l, m ≤ x
  | [], h => absurd rfl h
  | a :: l, _ => by
    by_cases hl : l = []
    · subst hl; exact ⟨a, by simp, by simp⟩
    · obtain ⟨m, hm, h⟩ := exists_min l hl
      by_cases hc : m ≤ a
      · exact ⟨m, List.mem_cons_of_mem _ hm, fun x hx => by rcases List.mem_cons.1 hx with rfl | hx; exact hc; exact h x hx⟩
      · exact ⟨a, by simp, fun x hx => by rcases List.mem_cons.1 hx with rfl | hx; exact Nat.le_refl _; exact Nat.le_trans (by omega) (h x hx)⟩
theorem ready_some {T R ts : List Nat} {listed : Array Bool} (hback : ∀ i ∈ T, i < ops.size ∧ backB ops ts i = true) (hR : ∀ x ∈ R, x ∈ T) (hl : ∀ i, i < ops.size → i ∉ ts → (listed.getD i false = false ↔ i ∈ R)) (hRt : ∀ i ∈ R, i ∉ ts) (hne : R ≠ []) (hsz : listed.size = ops.size) : Region.ready .any ops listed ≠ [] := by
  obtain ⟨m, hm, hmin⟩ := exists_min R hne
  have hb := (hback m (hR m hm)).2
  unfold backB at hb
  split at hb
  · rename_i o ho
    have hmo : m < ops.size := (Array.getElem?_eq_some_iff.1 ho).1
    have : m ∈ Region.ready .any ops listed := by
      refine mem_ready.2 ⟨?_, o, ho, fun e he hbe => ?_⟩
      · have h1 := (hl m hmo (hRt m hm)).2 hm
        have : m < listed.size := by omega
        simp [this] at h1 ⊢
        exact h1
      · have h1 := Array.all_eq_true_iff_forall_mem.1 hb e he
        simp only [hbe, Bool.not_true, Bool.false_or, Bool.and_eq_true, decide_eq_true_eq, Bool.not_eq_true'] at h1
        have hnt : e.on ∉ ts := fun h => by have := h1.2; simp [h] at this
        cases hc : listed.getD e.on false with
        | true => rfl
        | false =>
          have h2 := (hl e.on (by omega) hnt).1 hc
          have := hmin _ h2
          omega
    intro h0
    rw [h0] at this
    cases this
  · cases hb
theorem last_of_thr_aux {T ts : List Nat} {a0 : Act} (hsel : Region.noSelect ops = true) (hT : T.Nodup) (hTn : ∀ i ∈ T, i ∉ ds ∧ i ∉ ts) (hback : ∀ i ∈ T, i < ops.size ∧ backB ops ts i = true) (hds : ∀ t ∈ ts, t < ops.size ∧ t ∈ ds) (hseq : seqTB ops T ts = true)
    (htl : seqL ops ts (finB ops.size ts) = true) (hS : ∀ w', Below w0.heap.size w0 w' → S w')
    (ht : ∀ u w' F, Below w0.heap.size w0 w' → F.Nodup → (∀ k ∈ F, w0.heap.size ≤ k ∧ k < w'.heap.size) → Post u w' F → wpList P ops Q (pick ops.toList ts) (putU a0 (dstT ops T) u) w') :
    ∀ (m : Nat) (R : List Nat) (listed : Array Bool) (a : Act) (w : World) (F : List Nat), R.length = m → (∀ x ∈ R, x ∈ T) → R.Nodup → UpClosed ops T R → listed.size = ops.size → (∀ i, i < ops.size → i ∉ ts → (listed.getD i false = false ↔ i ∈ R)) → (∀ t ∈ ts, listed.getD t false = false) →
      Off ops T a0 a → Below w0.heap.size w0 w → F.Nodup → (∀ k ∈ F, w0.heap.size ≤ k ∧ k < w.heap.size) → Thr P ops (LetsOut Q) w0 Post m R a w F → wpAnyLast P .any ops Q S ds (m + ts.length) listed a w := by
  intro m
  induction m with
  | zero =>
    intro R listed a w F hlen hR hRn hup hsz hl htail hoff hb hnd hF h
    have hR0 : R = [] := List.eq_nil_of_length_eq_zero hlen
    subst hR0
    have hlisted : listed = finB ops.size ts := by
      apply Array.ext
      · simp [finB]; omega
      · intro i h1 h2
        have h1' : i < ops.size := by omega
        by_cases hi : i ∈ ts
        · have := htail i hi
          simp [h1] at this
          rw [this]
          simp [finB, hi]
        · have : listed.getD i false = true := by
            cases hc : listed.getD i false with
            | true => rfl
            | false => have := (hl i h1' hi).1 hc; cases this
          simp [h1] at this
          rw [this]
          simp [finB, hi]
    subst hlisted
    have hp := h.2 w hb (Keep.refl _ _)
    have hw := ht _ w F hb hnd hF hp
    rw [← off_putU hoff] at hw
    rw [Nat.zero_add]
    exact last_of_seq (S := S) (ds := ds) ts (finB ops.size ts) a w (fun t ht => (hds t ht).1) htl (fun t ht => (hds t ht).2) hw
  | succ m ih =>
    intro R listed a w F hlen hR hRn hup hsz hl htail hoff hb hnd hF h
    have hne : R ≠ [] := by intro h0; subst h0; cases hlen
    have hRt : ∀ i ∈ R, i ∉ ts := fun i hi => (hTn i (hR i hi)).2
    rw [show m + 1 + ts.length = (m + ts.length) + 1 by omega]
    have hun : ∀ x ∈ R ++ ts, listed.getD x false = false := by
      intro x hx
      rcases List.mem_append.1 hx with hx | hx
      · exact (hl x (hback x (hR x hx)).1 (hRt x hx)).2 hx
      · exact htail x hx
    have hrd : ∀ i ∈ Region.ready .any ops listed, i ∈ R ∧ rdyT ops (R ++ ts) i = true := by
      intro i hi
      have hr := rdy_of_ready hi hun
      obtain ⟨hu, o, ho, _⟩ := mem_ready.1 hi
      have hio : i < ops.size := (Array.getElem?_eq_some_iff.1 ho).1
      refine ⟨?_, hr⟩
      by_cases h1 : i ∈ ts
      · have := seq_none hseq hup hR hne i h1
        rw [this] at hr
        cases hr
      · refine (hl i hio h1).1 ?_
        have : i < listed.size := by omega
        simp [this] at hu ⊢
        exact hu
    refine ⟨fun h0 => absurd h0 (ready_some hback hR hl hRt hne hsz), fun i hi => ?_⟩
    obtain ⟨hiR, hr⟩ := hrd i hi
    obtain ⟨o, ho, hst⟩ := h.2 i hiR (rdyT_left hr) w hb (Keep.refl _ _)
    have hmono : wpOp P ops Q i (fun a' w' => ∃ v, a' = a.put o.dst v ∧ (a.put o.dst v).defers = a.defers ∧ Below w0.heap.size w0 w' ∧ ∃ F'', Guar F w w' F'' ∧ Thr P ops (LetsOut Q) w0 Post m (R.erase i) (a.put o.dst v) w' F'') a w := by
      unfold wpOp
      simp only [ho]
      have := wp_transfer (Q := NP (LetsOut Q)) (Q' := Q) (K := fun a' w' => ∃ v, a' = a.put o.dst v ∧ (a.put o.dst v).defers = a.defers ∧ Below w0.heap.size w0 w' ∧ ∃ F'', Guar F w w' F'' ∧ Thr P ops (LetsOut Q) w0 Post m (R.erase i) (a.put o.dst v) w' F'') rfl rfl (N := fun a'' w'' => a''.defers = a.defers ∧ Below w0.heap.size w0 w'' ∧ ∃ F'', Guar F w w'' F'' ∧ Thr P ops (LetsOut Q) w0 Post m (R.erase i) a'' w'' F'')
        (fun b w h => h.1) letsOut_NP (fun c w h => h.elim) (fun v w'' hN => ⟨v, rfl, hN⟩) (hst _ (fun a w h => h))
      split
      · rename_i hw; rw [if_pos hw] at this; exact .inl this
      · rename_i hw; rw [if_neg hw] at this; exact this
    refine wpOp_mono (fun a' w' h' => ?_) hmono
    obtain ⟨v, rfl, hdf, hbl, F'', hG, hThr⟩ := h'
    refine ⟨fun _ _ => hS w' hbl, ?_⟩
    have hilt : i < ops.size := (hback i (hR i hiR)).1
    refine ih (R.erase i) _ _ _ F'' (by rw [List.length_erase_of_mem hiR, hlen]; rfl) (fun x hx => hR x (List.mem_of_mem_erase hx)) (hRn.erase i) (hup.erase hT hR hr) (by simp [hsz]) (fun j hj hjt => ?_) (fun t ht1 => ?_) (hoff.put (hR i hiR) ho v) hbl hG.nd (fun k hk => ?_) hThr
    · by_cases hij : i = j
      · subst hij
        have : i < listed.size := by omega
        simp [this, hRn.mem_erase_iff]
      · rw [getD_set_ne false hij, hl j hj hjt]
        constructor
        · intro h; exact (List.mem_erase_of_ne (Ne.symm hij)).2 h
        · intro h; exact List.mem_of_mem_erase h
    · have : i ≠ t := fun e => hRt i hiR (e ▸ ht1)
      rw [getD_set_ne false this]; exact htail t ht1
    · refine ⟨?_, hG.lt k hk⟩
      rcases hG.sub k hk with h | h
      · exact (hF k h).1
      · exact Nat.le_trans hb.size h
/-- the rest of a region, of which T goes in threads and ts behind it, a chain -/
theorem last_of_thr {T ts : List Nat} {l : List Oper} {listed : Array Bool} (m : Nat) {a0 : Act} (Post : (Tmp → Value) → World → List Nat → Prop) (hB : headB l.toArray listed T ts ds = true) (hm : m = T.length + ts.length) (hS : ∀ w', Below w0.heap.size w0 w' → S w')
    (h : Thr P l.toArray (LetsOut Q) w0 Post T.length T a0 w0 [])
    (ht : ∀ u w' F, Below w0.heap.size w0 w' → F.Nodup → (∀ k ∈ F, w0.heap.size ≤ k ∧ k < w'.heap.size) → Post u w' F → wpList P l.toArray Q (pick l ts) (putU a0 (dstT l.toArray T) u) w') : wpAnyLast P .any l.toArray Q S ds m listed a0 w0 := by
  subst hm
  simp only [headB, Bool.and_eq_true, decide_eq_true_eq] at hB
  obtain ⟨⟨⟨⟨⟨⟨⟨h1, h2⟩, h3⟩, h5⟩, h6⟩, h7⟩, h8⟩, h9⟩ := hB
  have g5 : ∀ i ∈ T, i < l.toArray.size ∧ listed.getD i true = false ∧ i ∉ ds ∧ backB l.toArray ts i = true := fun i hi => by
    have := List.all_eq_true.1 h5 i hi
    simp only [Bool.and_eq_true, decide_eq_true_eq, Bool.not_eq_true'] at this
    exact ⟨this.1.1.1, this.1.1.2, fun hd => by have := this.1.2; simp [hd] at this, this.2⟩
  have g7 : ∀ t ∈ ts, t < l.toArray.size ∧ listed.getD t true = false ∧ t ∈ ds ∧ t ∉ T := fun t ht1 => by
    have := List.all_eq_true.1 h7 t ht1
    simp only [Bool.and_eq_true, decide_eq_true_eq, Bool.not_eq_true'] at this
    exact ⟨this.1.1.1, this.1.1.2, by simpa using this.1.2, fun hd => by have := this.2; simp [hd] at this⟩
  refine last_of_thr_aux h1 h2 (fun i hi => ⟨(g5 i hi).2.2.1, fun ht => (g7 i ht).2.2.2 hi⟩) (fun i hi => ⟨(g5 i hi).1, (g5 i hi).2.2.2⟩) (fun t ht => ⟨(g7 t ht).1, (g7 t ht).2.2.1⟩) h8 h9 hS (fun u w' F hb hnd hF hp => by simpa using ht u w' F hb hnd hF hp) T.length T listed a0 w0 [] rfl (fun _ h => h) h2 (fun _ _ y hy _ => hy) h3 (fun i hi hit => ?_) (fun t ht1 => getD_both (g7 t ht1).2.1) (Off.refl _ _) (Below.refl _ _) (by simp) (by simp) h
  constructor
  · intro hf
    have := List.all_eq_true.1 h6 i (List.mem_range.2 hi)
    rw [hf] at this
    simpa [hit] using this
  · intro hi; exact getD_both (g5 i hi).2.1
def YAll (P : Program) (ops : Array Oper) (S : World → Prop) : List Nat → Act → (Act → Prop) → Prop
  | [], a, K => K a
  | i :: is, a, K => ∃ o v, ops[i]? = some o ∧ YieldsIf P ops S o v a ∧ YAll P ops S is (a.put o.dst v) K
def upAll (l : Array Bool) : List Nat → Array Bool
  | [] => l
  | i :: is => upAll (l.setIfInBounds i true) is
def takesB (ops : Array Oper) (ds : List Nat) : List Nat → Array Bool → Bool
  | [], _ => true
  | i :: is, l => Region.free .any ops l i && (Region.ready .any ops l).contains i && Region.closedB .any ops l && Region.lastB .any ops l ds i && takesB ops ds is (l.setIfInBounds i true)
theorem YAll.cons {i : Nat} {is : List Nat} {a : Act} {K : Act → Prop} {o : Oper} {v : Value} (N : Option Tmp) (hi : ops[i]? = some o) (hN : o.dst = N) (hg : Region.wanted o (yielded ops a.tmps) = true) (hy : ∀ w, S w → (execOp a.eval o).run P w = .ok (.value v) w) (h : YAll P ops S is (a.put N v) K) : YAll P ops S (i :: is) a K := by
  subst hN; exact ⟨o, v, hi, .inl ⟨hg, hy⟩, h⟩
theorem YAll.nil {a : Act} {K : Act → Prop} (h : K a) : YAll P ops S [] a K := h
theorem takes {fuel : Nat} {w : World} (hsel : Region.noSelect ops = true) (hQ : ∀ c (a : Act) d v w, Q (.panic c) (a.put d v) w → Q (.panic c) a w) (hS : S w) : ∀ (is : List Nat) (l : Array Bool) (a : Act), takesB ops ds is l = true →
    YAll P ops S is a (fun a' => wpAnyLast P .any ops Q S ds fuel (upAll l is) a' w) → wpAnyLast P .any ops Q S ds (fuel + is.length) l a w
  | [], l, a, _, h => h
  | i :: is, l, a, hB, h => by
    simp only [takesB, Bool.and_eq_true] at hB
    obtain ⟨⟨⟨⟨h1, h2⟩, h3⟩, h4⟩, h5⟩ := hB
    obtain ⟨o, v, hi, hy, hr⟩ := h
    exact wpAnyLast_take hi hsel h1 h2 h3 h4 (fun c a w => hQ c a o.dst v w) hy hS (takes hsel hQ hS is _ _ h5 hr)
def takesPB (ops : Array Oper) : List Nat → Array Bool → Bool
  | [], _ => true
  | i :: is, l => Region.free .any ops l i && (Region.ready .any ops l).contains i && takesPB ops is (l.setIfInBounds i true)
theorem takesP {fuel : Nat} {w : World} (hsel : Region.noSelect ops = true) (hQ : ∀ c (a : Act) d v w, Q (.panic c) (a.put d v) w → Q (.panic c) a w) : ∀ (is : List Nat) (l : Array Bool) (a : Act), takesPB ops is l = true →
    YAll P ops (fun _ => True) is a (fun a' => wpAnyLast P .any ops Q S ds fuel (upAll l is) a' w) → wpAnyLast P .any ops Q S ds (fuel + is.length) l a w
  | [], l, a, _, h => h
  | i :: is, l, a, hB, h => by
    simp only [takesPB, Bool.and_eq_true] at hB
    obtain ⟨⟨h1, h2⟩, h5⟩ := hB
    obtain ⟨o, v, hi, hy, hr⟩ := h
    exact wpAnyLast_any hi (Region.noSelect_spec hsel) (fun c a w => hQ c a o.dst v w) (fuel + is.length) l a w (Region.free_spec hi h1) (by simpa using h2) (hy.imp (fun ⟨h1, h2⟩ => ⟨h1, fun w => h2 w trivial⟩) id) (takesP hsel hQ is _ _ h5 hr)
/-- the whole region: the operations of 'is' are taken first, then those of ps (they yield in every world), those of T go in threads, those of ts are a chain behind them -/
def regionB (ops : Array Oper) (is ps T ts : List Nat) : Bool :=
  Region.noSelect ops && takesB ops ts is (Array.replicate ops.size false) && takesPB ops ps (upAll (Array.replicate ops.size false) is) && headB ops (upAll (upAll (Array.replicate ops.size false) is) ps) T ts ts && decide (is.length + ps.length + T.length + ts.length = ops.size)
theorem YAll.mono {S' : World → Prop} : ∀ (is : List Nat) (a : Act) (K K' : Act → Prop), (∀ a, K a → K' a) → YAll P ops S' is a K → YAll P ops S' is a K'
  | [], a, K, K', hk, h => hk _ h
  | i :: is, a, K, K', hk, h => by obtain ⟨o, v, hi, hy, hr⟩ := h; exact ⟨o, v, hi, hy, YAll.mono is _ K K' hk hr⟩
theorem wp_region_thr {id : Nat} {a : Act} {w : World} {l : List Oper} (is ps T ts : List Nat) (D : List Tmp) (hD : dstT l.toArray T = D) (S : World → Prop) (Post : (Tmp → Value) → World → List Nat → Prop) (hm : P.follows .mixedOrders = true) (hB : regionB l.toArray is ps T ts = true)
    (hQ : ∀ c (a : Act) d v w, Q (.panic c) (a.put d v) w → Q (.panic c) a w) (hS : ∀ w', Below w.heap.size w w' → S w')
    (h : YAll P l.toArray S is a (fun a1 => YAll P l.toArray (fun _ => True) ps a1 (fun a0 => Thr P l.toArray (LetsOut Q) w.drew Post T.length T a0 w.drew [] ∧
      (∀ u w' F, Below w.heap.size w.drew w' → F.Nodup → (∀ k ∈ F, w.heap.size ≤ k ∧ k < w'.heap.size) → Post u w' F → wpList P l.toArray Q (pick l ts) (putU a0 D u) w')))) : (Code.region id l.toArray true).wp P Q a w := by
  subst hD
  simp only [regionB, Bool.and_eq_true, decide_eq_true_eq] at hB
  obtain ⟨⟨⟨⟨h1, h2⟩, h2'⟩, h3⟩, h4⟩ := hB
  have hSd : ∀ w', Below w.drew.heap.size w.drew w' → S w' := fun w' hb => hS w' ⟨hb.os, hb.tape, hb.output, hb.size, hb.block⟩
  refine wp_region_last (S := S) (ds := ts) hm ?_
  have := takes (P := P) (ops := l.toArray) (Q := Q) (S := S) (ds := ts) (fuel := T.length + ts.length + ps.length) (w := w.drew) h1 hQ (hSd _ (Below.refl _ _)) is (Array.replicate l.toArray.size false) a h2 ?_
  · rw [show T.length + ts.length + ps.length + is.length = l.toArray.size by omega] at this
    exact this
  · exact YAll.mono _ _ _ _ (fun a1 ha1 => takesP h1 hQ ps _ a1 h2' (YAll.mono _ _ _ _ (fun a0 h0 => last_of_thr _ Post h3 rfl hSd h0.1 h0.2) ha1)) h
def wpListS (P : Program) (ops : Array Oper) (Q : Exit → Act → World → Prop) (S : World → Prop) (ds : List Nat) : List Nat → Act → World → Prop
  | [], a, w => Q .normal a w
  | t :: ts, a, w => ∃ o, ops[t]? = some o ∧ ∀ K : Act → World → Prop, (∀ a' w', (t ∉ ds → S w') → wpListS P ops Q S ds ts a' w' → K a' w') → if Region.wanted o (yielded ops a.tmps) = true then Oper.wp P o a w K Q else K (a.put o.dst undef) w
theorem wpListS.step {t : Nat} {ts : List Nat} {a : Act} {w : World} {o : Oper} (N : Option Tmp) (hi : ops[t]? = some o) (hN : o.dst = N)
    (h : ∀ K : Act → World → Prop, Shut (∀ a' w', (t ∉ ds → S w') → wpListS P ops Q S ds ts a' w' → K a' w') → if Region.wanted o (yielded ops a.tmps) = true then Oper.wp P o a w K Q else K (a.put N undef) w) : wpListS P ops Q S ds (t :: ts) a w := by
  subst hN
  exact ⟨o, hi, h⟩
theorem wpListS.nil {a : Act} {w : World} (h : Q .normal a w) : wpListS P ops Q S ds [] a w := h
theorem last_of_seqS : ∀ (ts : List Nat) (listed : Array Bool) (a : Act) (w : World), seqL ops ts listed = true → wpListS P ops Q S ds ts a w → wpAnyLast P .any ops Q S ds ts.length listed a w
  | [], _, _, _, hB, h => ⟨by simpa [seqL] using hB, h⟩
  | t :: ts, listed, a, w, hB, h => by
    obtain ⟨o, ho, hst⟩ := h
    simp only [seqL, Bool.and_eq_true, decide_eq_true_eq] at hB
    refine ⟨fun h1 => (by rw [hB.1] at h1; cases h1), fun i hi => ?_⟩
    rw [hB.1] at hi
    have hik : i = t := by simpa using hi
    subst hik
    refine wpOp_step ho (fun K hK => hst K (fun a' w' hS hr => hK a' w' ⟨fun hn _ => hS hn, last_of_seqS ts _ a' w' hB.2 hr⟩))
def chainRB (ops : Array Oper) (is ps ts ds : List Nat) : Bool :=
  Region.noSelect ops && takesB ops ds is (Array.replicate ops.size false) && takesPB ops ps (upAll (Array.replicate ops.size false) is) && seqL ops ts (upAll (upAll (Array.replicate ops.size false) is) ps) && decide (is.length + ps.length + ts.length = ops.size)
theorem wp_region_chain {id : Nat} {a : Act} {w : World} {l : List Oper} (is ps ts ds : List Nat) (S : World → Prop) (hm : P.follows .mixedOrders = true) (hB : chainRB l.toArray is ps ts ds = true)
    (hQ : ∀ c (a : Act) d v w, Q (.panic c) (a.put d v) w → Q (.panic c) a w) (hS : S w.drew)
    (h : YAll P l.toArray S is a (fun a1 => YAll P l.toArray (fun _ => True) ps a1 (fun a0 => wpListS P l.toArray Q S ds ts a0 w.drew))) : (Code.region id l.toArray true).wp P Q a w := by
  simp only [chainRB, Bool.and_eq_true, decide_eq_true_eq] at hB
  obtain ⟨⟨⟨⟨h1, h2⟩, h2'⟩, h3⟩, h4⟩ := hB
  refine wp_region_last (S := S) (ds := ds) hm ?_
  have := takes (P := P) (ops := l.toArray) (Q := Q) (S := S) (ds := ds) (fuel := ts.length + ps.length) (w := w.drew) h1 hQ hS is (Array.replicate l.toArray.size false) a h2 ?_
  · rw [show ts.length + ps.length + is.length = l.toArray.size by omega] at this
    exact this
  · exact YAll.mono _ _ _ _ (fun a1 ha1 => takesP h1 hQ ps _ a1 h2' (YAll.mono _ _ _ _ (fun a0 h0 => last_of_seqS ts _ a0 _ h3 h0) ha1)) h
end
end
end Go.Proofs.Ytagfphlhahiplaa.C13
namespace Go.Proofs.Ytagfphlhahiplaa.C13
open Go.RowKit Go.Proofs.YtagfphlhahiplaaW.PrintWords Go.Proofs.Ytagfphlhahiplaa.PFnExactFormatCore
set_option linter.unusedVariables false
set_option linter.unusedSimpArgs false
theorem row_of_own {w : World} {base : Nat} {e : TypeId} {v : Value} {n : Nat} {xs : List Value} (h : w.ownsRow base e 1 v n xs) : ∃ F, Row w e v n xs F ∧ F.Nodup ∧ ∀ k ∈ F, base ≤ k := by
  obtain ⟨hl, h⟩ := h
  rcases h with ⟨rfl, rfl⟩ | ⟨g, cap, cur, rfl, hg, hb, hn, hc, hs, rfl⟩
  · exact ⟨[], .inl ⟨rfl, rfl, List.eq_nil_of_length_eq_zero (by omega), rfl⟩, List.nodup_nil, fun k hk => by cases hk⟩
  · refine ⟨[g], .inr ⟨g, cap, cur.toList.drop (n * 1), rfl, hn, by simpa [maxLen] using hc, ?_, rfl⟩, by simp, fun k hk => by rw [List.mem_singleton.1 hk]; exact hg⟩
    unfold Blk
    rw [List.take_append_drop]
    exact hb
theorem own_nums {w : World} {base : Nat} {ok : Nat → Prop} {e : Nat} {k : IntKind} {v : Value} {xs : List Int} (h : (Kd.int k).R e w base ok v xs) : w.ownsRow base e 1 v xs.length (encI k xs) := Kd.own_of_R h
theorem own_strs {w : World} {base : Nat} {ok : Nat → Prop} {e : Nat} {v : Value} {xs : List ByteArray} (h : Kd.string.R e w base ok v xs) : w.ownsRow base e 1 v xs.length (encS xs) := Kd.own_of_R h
theorem set_take {α : Type} (l acc : List α) (i : Nat) (hi : i < l.length) (hl : acc.length = l.length) (h : acc.take i = l.take i) : (acc.set i l[i]).take (i + 1) = l.take (i + 1) := by
  rw [List.take_succ_eq_append_getElem (by simp; omega), List.take_succ_eq_append_getElem hi, List.take_set, List.set_eq_of_length_le (by rw [List.length_take]; omega), h]
  simp
theorem toUint32S_l0 (l : List Int) (hl : l.length ≤ 9223372036854775807) : ∀ (d k i : Nat) (acc : List Int), l.length - i = d → i ≤ l.length → d < k → acc.length = l.length → acc.take i = l.take i → laws_toUint32S.l0 k l acc i = some l := by
  intro d
  induction d with
  | zero =>
    intro k i acc hd hi hk hal hac
    obtain ⟨k, rfl⟩ : ∃ m, k = m + 1 := ⟨k - 1, by omega⟩
    simp only [laws_toUint32S.l0]
    rw [if_neg (by omega)]
    rw [List.take_of_length_le (by omega), List.take_of_length_le (by omega)] at hac
    rw [hac]
  | succ d ih =>
    intro k i acc hd hi hk hal hac
    obtain ⟨k, rfl⟩ : ∃ m, k = m + 1 := ⟨k - 1, by omega⟩
    have hlt : i < l.length := by omega
    have he : rd l (i : Int) = l[i] := by simp [rd, List.getD_eq_getElem?_getD, hlt]
    simp only [laws_toUint32S.l0]
    rw [if_pos (by omega), if_pos (by omega), if_pos (by omega), wrap64_of (by omega) (by omega), he]
    simp only [Int.toNat_natCast]
    exact ih k (i + 1) _ (by omega) (by omega) (by omega) (by simpa using hal) (set_take l acc i hlt hal hac)
theorem toUint32S_eq (l : List Int) (hl : l.length ≤ 1048576) : ∃ k, laws_toUint32S.f k l = some l := by
  refine ⟨l.length + 1, ?_⟩
  unfold laws_toUint32S.f
  rw [if_pos (by omega), if_pos (by omega)]
  exact toUint32S_l0 l (by omega) l.length (l.length + 1) 0 _ (by omega) (by omega) (by omega) (by simp) (by simp)
theorem toBig_eq (m : Bool) (l : List Int) (hl : l.length ≤ 1048576) : ∃ k, laws_toBig.f k m l = some (m, l) := by
  obtain ⟨k, hk⟩ := toUint32S_eq l hl
  exact ⟨k, by unfold laws_toBig.f; rw [hk]; rfl⟩
theorem toStringS_l0 (l : List ByteArray) (hl : l.length ≤ 9223372036854775807) : ∀ (d k i : Nat) (acc : List ByteArray), l.length - i = d → i ≤ l.length → d < k → acc.length = l.length → acc.take i = l.take i → laws_toStringS.l0 k l acc i = some l := by
  intro d
  induction d with
  | zero =>
    intro k i acc hd hi hk hal hac
    obtain ⟨k, rfl⟩ : ∃ m, k = m + 1 := ⟨k - 1, by omega⟩
    simp only [laws_toStringS.l0]
    rw [if_neg (by omega)]
    rw [List.take_of_length_le (by omega), List.take_of_length_le (by omega)] at hac
    rw [hac]
  | succ d ih =>
    intro k i acc hd hi hk hal hac
    obtain ⟨k, rfl⟩ : ∃ m, k = m + 1 := ⟨k - 1, by omega⟩
    have hlt : i < l.length := by omega
    have he : rdOf ByteArray.empty l (i : Int) = l[i] := by simp [rdOf, List.getD_eq_getElem?_getD, hlt]
    simp only [laws_toStringS.l0]
    rw [if_pos (by omega), if_pos (by omega), if_pos (by omega), wrap64_of (by omega) (by omega), he]
    simp only [Int.toNat_natCast]
    exact ih k (i + 1) _ (by omega) (by omega) (by omega) (by simpa using hal) (set_take l acc i hlt hal hac)
theorem toStringS_eq (l : List ByteArray) (hl : l.length ≤ 1048576) : ∃ k, laws_toStringS.f k l = some l := by
  refine ⟨l.length + 1, ?_⟩
  unfold laws_toStringS.f
  rw [if_pos (by omega), if_pos (by omega)]
  exact toStringS_l0 l (by omega) l.length (l.length + 1) 0 _ (by omega) (by omega) (by omega) (by simp) (by simp)
/-- a core term of one's own is handed back -/
def ToPost (e ea : TypeId) (x : CoreT) (w : World) (en : Ending) (w' : World) : Prop :=
  ∃ cs F, en = .returned (.agg cs.toArray) ∧ OwnC e ea w' x cs F ∧ F.Nodup ∧ (∀ k ∈ F, w.heap.size ≤ k) ∧ Below w.heap.size w w'
def ToPostA (e ea : TypeId) (x : AltT) (w : World) (en : Ending) (w' : World) : Prop :=
  ∃ cs F, en = .returned (.agg cs.toArray) ∧ OwnA e ea w' x cs F ∧ F.Nodup ∧ (∀ k ∈ F, w.heap.size ≤ k) ∧ Below w.heap.size w w'
def ToPostS (e ea : TypeId) (xs : List CoreT) (w : World) (en : Ending) (w' : World) : Prop :=
  ∃ v cs F G, en = .returned v ∧ Row w' e v xs.length cs F ∧ OwnCs e ea w' xs cs G ∧ (F ++ G).Nodup ∧ (∀ k ∈ F ++ G, w.heap.size ≤ k) ∧ Below w.heap.size w w'
def ToPostAS (e ea : TypeId) (xs : List AltT) (w : World) (en : Ending) (w' : World) : Prop :=
  ∃ v cs F G, en = .returned v ∧ Row w' ea v xs.length cs F ∧ OwnAs e ea w' xs cs G ∧ (F ++ G).Nodup ∧ (∀ k ∈ F ++ G, w.heap.size ≤ k) ∧ Below w.heap.size w w'
def ToSaid (x : CoreT) : Prop := bulk x ≤ 1048576 → ∀ (w : World) (cs : List Value), LC.K w x cs →
  Calls Try.prog 7 #[.agg cs.toArray] w (ToPost 36 80 x w)
def ToASaid (x : AltT) : Prop := abulk x ≤ 1048576 → ∀ (w : World) (cs : List Value), LA.K w x cs →
  Calls Try.prog 50 #[.agg cs.toArray] w (ToPostA 36 80 x w)
theorem infoC : (Try.prog.info? 36).map (fun i => (i.zero, i.size, i.bytes)) = some (some (.agg #[.int .i64 0, .string ⟨#[]⟩, .bool false, .slice none 0 0, .slice none 0 0, .slice none 0 0, .slice none 0 0]), 7, 128) := by kernel_rfl
theorem infoA : (Try.prog.info? 80).map (fun i => (i.zero, i.size, i.bytes)) = some (some (.agg #[.string ⟨#[]⟩, .slice none 0 0, .int .i64 0, .string ⟨#[]⟩, .bool false, .slice none 0 0, .slice none 0 0, .slice none 0 0, .slice none 0 0]), 9, 168) := by kernel_rfl
theorem mem_bulks {l : List CoreT} {x : CoreT} (h : x ∈ l) : bulk x ≤ bulks l := by
  induction l with
  | nil => cases h
  | cons c r ih =>
    rw [bulks]
    rcases List.mem_cons.1 h with rfl | h
    · omega
    · have := ih h; omega
theorem len_bulks (l : List CoreT) : l.length ≤ bulks l := by rw [bulks_eq]; omega
theorem mem_abulks {l : List AltT} {x : AltT} (h : x ∈ l) : abulk x ≤ abulks l := by
  induction l with
  | nil => cases h
  | cons c r ih =>
    rw [abulks]
    rcases List.mem_cons.1 h with rfl | h
    · omega
    · have := ih h; omega
theorem len_abulks (l : List AltT) : l.length ≤ abulks l := by rw [abulks_eq]; omega
theorem own_open {e ea : TypeId} {w : World} {x : CoreT} {cs F} (h : OwnC e ea w x cs F) : ∃ A3 c3 A4 c4 A5 c5 A6 c6, cs = cellsC x A3 c3 A4 c4 A5 c5 A6 c6 := by
  obtain ⟨A3, c3, A4, c4, A5, c5, A6, c6, h, _⟩ := core_open (own_K h)
  exact ⟨A3, c3, A4, c4, A5, c5, A6, c6, h⟩
/-- what has been made of a row: k elements are there, behind them lie old cells -/
def Part (e ea : TypeId) (sz n k : Nat) (g : Nat) (w w' : World) (O : List Value → List Nat → Prop) : Prop :=
  ∃ done rest G, Blk w' g e (done ++ rest) ∧ done.length = k * sz ∧ rest.length = (n - k) * sz ∧ O done G ∧ G.Nodup ∧ (∀ b ∈ G, g < b) ∧ Below w.heap.size w w'
theorem part_step {e ea : TypeId} {xs : List CoreT} {k : Nat} {w wr w2 w3 : World} (hk : k < xs.length) {done rest cs : List Value} {G F : List Nat} (hB : Below w.heap.size w wr)
    (hgl : w.heap.size < wr.heap.size) (hX : done.length = k * 7 ∧ rest.length = (xs.length - k) * 7 ∧ OwnCs e ea wr (xs.take k) done G ∧ G.Nodup ∧ ∀ b ∈ G, w.heap.size < b)
    (hO : OwnC e ea w2 xs[k] cs F) (hN : F.Nodup) (hF : ∀ b ∈ F, wr.heap.size ≤ b) (hB2 : Below wr.heap.size wr w2)
    (hblk : Blk w3 w.heap.size e (done ++ (cs ++ rest.drop 7))) (hg : w2.grownBy w3 (some w.heap.size)) : Part e ea 7 xs.length (k + 1) w.heap.size w w3 (OwnCs e ea w3 (xs.take (k + 1))) := by
  obtain ⟨h1, h2, h3, h4, h5⟩ := hX
  have hGlt := ownCs_lt' h3
  have hFlt := own_lt _ _ _ hO
  refine ⟨done ++ cs, rest.drop 7, G ++ F, by rw [List.append_assoc]; exact hblk, by rw [List.length_append, h1, own_len hO]; omega, by rw [List.length_drop, h2]; omega, ?_, ?_, ?_, ?_⟩
  · rw [List.take_succ_eq_append_getElem hk]
    refine ownCs_snoc _ _ _ _ _ _ (ownCs_move' h3 (fun b hb => ?_)) (own_move _ _ _ hO (fun b hb => ?_))
    · rw [hg.block b (Nat.lt_of_lt_of_le (hGlt b hb) hB2.size) (by have := h5 b hb; intro he; injection he with he; omega), hB2.block b (hGlt b hb)]
    · exact hg.block b (hFlt b hb) (by have := hF b hb; intro he; injection he with he; omega)
  · rw [List.nodup_append]
    exact ⟨h4, hN, fun a ha b hb he => by have := hGlt a ha; have := hF b hb; omega⟩
  · intro b hb
    rcases List.mem_append.1 hb with hb | hb
    · exact h5 b hb
    · have := hF b hb; omega
  · exact Below.grown (hB.trans (hB2.mono hB.size)) hg (by have := hB.size; have := hB2.size; omega) (fun k hk => by injection hk with hk; omega)
theorem part_stepA {e ea : TypeId} {xs : List AltT} {k : Nat} {w wr w2 w3 : World} (hk : k < xs.length) {done rest cs : List Value} {G F : List Nat} (hB : Below w.heap.size w wr)
    (hgl : w.heap.size < wr.heap.size) (hX : done.length = k * 9 ∧ rest.length = (xs.length - k) * 9 ∧ OwnAs e ea wr (xs.take k) done G ∧ G.Nodup ∧ ∀ b ∈ G, w.heap.size < b)
    (hO : OwnA e ea w2 xs[k] cs F) (hN : F.Nodup) (hF : ∀ b ∈ F, wr.heap.size ≤ b) (hB2 : Below wr.heap.size wr w2)
    (hblk : Blk w3 w.heap.size ea (done ++ (cs ++ rest.drop 9))) (hg : w2.grownBy w3 (some w.heap.size)) : Part ea ea 9 xs.length (k + 1) w.heap.size w w3 (OwnAs e ea w3 (xs.take (k + 1))) := by
  obtain ⟨h1, h2, h3, h4, h5⟩ := hX
  have hGlt := ownAs_lt' h3
  have hFlt := ownA_lt _ _ _ hO
  refine ⟨done ++ cs, rest.drop 9, G ++ F, by rw [List.append_assoc]; exact hblk, by rw [List.length_append, h1, ownA_len hO]; omega, by rw [List.length_drop, h2]; omega, ?_, ?_, ?_, ?_⟩
  · rw [List.take_succ_eq_append_getElem hk]
    refine ownAs_snoc _ _ _ _ _ _ (ownAs_move' h3 (fun b hb => ?_)) (ownA_move _ _ _ hO (fun b hb => ?_))
    · rw [hg.block b (Nat.lt_of_lt_of_le (hGlt b hb) hB2.size) (by have := h5 b hb; intro he; injection he with he; omega), hB2.block b (hGlt b hb)]
    · exact hg.block b (hFlt b hb) (by have := hF b hb; intro he; injection he with he; omega)
  · rw [List.nodup_append]
    exact ⟨h4, hN, fun a ha b hb he => by have := hGlt a ha; have := hF b hb; omega⟩
  · intro b hb
    rcases List.mem_append.1 hb with hb | hb
    · exact h5 b hb
    · have := hF b hb; omega
  · exact Below.grown (hB.trans (hB2.mono hB.size)) hg (by have := hB.size; have := hB2.size; omega) (fun k hk => by injection hk with hk; omega)
theorem part_end {e ea : TypeId} {xs : List CoreT} {w wr : World} (h : Part e ea 7 xs.length xs.length w.heap.size w wr (OwnCs e ea wr (xs.take xs.length))) (hl : xs.length ≤ 9223372036854775807) :
    ToPostS e ea xs w (.returned (.slice (some ⟨w.heap.size, 0, none⟩) xs.length xs.length)) wr := by
  obtain ⟨done, rest, G, hb, h1, h2, h3, h4, h5, h6⟩ := h
  rw [List.take_length] at h3
  refine ⟨_, done, [w.heap.size], G, rfl, .inr ⟨_, _, rest, rfl, Nat.le_refl _, hl, hb, rfl⟩, h3, ?_, ?_, h6⟩
  · rw [List.singleton_append, List.nodup_cons]
    exact ⟨fun hm => by have := h5 _ hm; omega, h4⟩
  · intro k hk
    rcases List.mem_cons.1 hk with rfl | hk
    · exact Nat.le_refl _
    · have := h5 k hk; omega
theorem part_endA {e ea : TypeId} {xs : List AltT} {w wr : World} (h : Part ea ea 9 xs.length xs.length w.heap.size w wr (OwnAs e ea wr (xs.take xs.length))) (hl : xs.length ≤ 9223372036854775807) :
    ToPostAS e ea xs w (.returned (.slice (some ⟨w.heap.size, 0, none⟩) xs.length xs.length)) wr := by
  obtain ⟨done, rest, G, hb, h1, h2, h3, h4, h5, h6⟩ := h
  rw [List.take_length] at h3
  refine ⟨_, done, [w.heap.size], G, rfl, .inr ⟨_, _, rest, rfl, Nat.le_refl _, hl, hb, rfl⟩, h3, ?_, ?_, h6⟩
  · rw [List.singleton_append, List.nodup_cons]
    exact ⟨fun hm => by have := h5 _ hm; omega, h4⟩
  · intro k hk
    rcases List.mem_cons.1 hk with rfl | hk
    · exact Nat.le_refl _
    · have := h5 k hk; omega
theorem blk_made (w : World) (e : TypeId) (cs : Array Value) : Blk (w.alloc (.cells cs e)) w.heap.size e ([] ++ cs.toList) := by
  unfold Blk
  show (w.heap.push _)[w.heap.size]? = _
  simp
theorem part_lt {e ea : TypeId} {sz n k g : Nat} {w w' : World} {O : List Value → List Nat → Prop} (h : Part e ea sz n k g w w' O) : g < w'.heap.size := by
  obtain ⟨_, _, _, hb, _⟩ := h
  exact hb.lt
theorem ownA_open {e ea : TypeId} {w : World} {x : AltT} {cs F} (h : OwnA e ea w x cs F) : ∃ A1 c1 A3 c3 A4 c4 A5 c5 A6 c6, cs = cellsA x A1 c1 A3 c3 A4 c4 A5 c5 A6 c6 := by
  rw [OwnA_eq] at h
  obtain ⟨v1, cb, F1, F2, rfl, rfl, h1, hb⟩ := h
  obtain ⟨A1, c1, rfl, _⟩ := h1.slice
  obtain ⟨A3, c3, A4, c4, A5, c5, A6, c6, rfl⟩ := own_open hb
  exact ⟨A1, c1, A3, c3, A4, c4, A5, c5, A6, c6, rfl⟩
theorem len_strsB (l : List ByteArray) : l.length ≤ strsB l := by rw [strsB_eq]; omega
set_option maxHeartbeats 400000 in
theorem toCoreS_any (xs : List CoreT) (hbk : bulks xs ≤ 1048576) (ih : ∀ x ∈ xs, ToSaid x) (A : Option Addr) (c : Nat) (w : World) (hr : LC.C w A xs.length xs) (hc : xs.length ≤ c) :
    Calls Try.prog 22 #[.slice A xs.length c] w (ToPostS 36 80 xs w) := by
  have hl := len_bulks xs
  have hl2 : xs.length ≤ 1048576 := by omega
  obtain ⟨i0, hi, hz0, hz1, hz2⟩ := info_parts infoC
  have hmk : ∀ W : World, (Instr.makeSlice 33 (.int .i64 (xs.length : Int)) (.int .i64 (xs.length : Int))).run Try.prog W = .ok (.slice (some ⟨W.heap.size, 0, none⟩) xs.length xs.length) (W.alloc (.cells (madeCells (Value.agg #[.int .i64 0, .string ⟨#[]⟩, .bool false, .slice none 0 0, .slice none 0 0, .slice none 0 0, .slice none 0 0]).cells (xs.length * 7)) 36)) := by
    intro W
    have := run_make (P := Try.prog) W 33 36 i0 _ Try.underlying33 hi hz0 .i64 .i64 xs.length xs.length (by omega) (by omega) (by rw [hz2]; omega) (by omega)
    rw [hz1] at this
    simpa using this
  clear hi hz0 hz1 hz2
  have IH := Lib.hid ih; clear ih
  have HR := Lib.hid hr; clear hr
  have HBK := Lib.hid hbk; clear hbk
  go_enter Try.func22, Try.ntmps22
  go_wp2
  clear hmk
  go_loopw [4] (fun i wr => ∃ (k : Nat), k ≤ xs.length ∧ i = .int .i64 k ∧ Hid (Part 36 80 7 xs.length k w.heap.size w wr (OwnCs 36 80 wr (xs.take k)))) (fun i _ => xs.length - (intOf i).toNat)
  case atStart => 
    exact ⟨0, Nat.zero_le _, rfl, Lib.hid ⟨[], (madeCells (Value.agg #[.int .i64 0, .string ⟨#[]⟩, .bool false, .slice none 0 0, .slice none 0 0, .slice none 0 0, .slice none 0 0]).cells (xs.length * 7)).toList, [], blk_made _ _ _, by simp, by simp [size_madeCells], by rw [List.take_zero, OwnCs]; exact ⟨rfl, rfl⟩, List.nodup_nil, (fun k hk => by cases hk), (Below.refl _ _).alloc (Nat.le_refl _) _⟩⟩
  case round =>
    obtain ⟨k, hk, rfl, HP⟩ := hrel
    by_cases hlt : k < xs.length
    · have HB := Lib.hid (show Below w.heap.size w wr from by obtain ⟨_, _, _, _, _, _, _, _, _, h⟩ := HP.out; exact h)
      obtain ⟨ad, A3, c3, A4, c4, A5, c5, A6, c6, rfl, hK, g0, g1, g2, g3, g4, g5, g6⟩ := elem_core (Kd.C_below HR.out HB.out) k hlt
      go_wp2_with fail
      refine (IH.out _ (List.getElem_mem hlt) (by have := mem_bulks (List.getElem_mem hlt); have := HBK.out; omega) wr _ hK).mono ?_
      rintro e w2 ⟨cs2, F2, rfl, hO, hN, hF, hb2⟩
      clear g0 g1 g2 g3 g4 g5 g6 hK
      obtain ⟨B3, d3, B4, d4, B5, d5, B6, d6, rfl⟩ := own_open hO
      obtain ⟨done, rest, G, hblk, hdl, hrl, hdO, hGN, hGg, _⟩ := HP.out
      simp only [cellsC]
      have HO := Lib.hid hO; have HN := Lib.hid hN; have HF := Lib.hid hF; have HB2 := Lib.hid hb2; clear hO hN hF hb2
      have HBLK2 := Lib.hid (hblk.below HB2.out)
      have HX := Lib.hid (And.intro hdl (And.intro hrl (And.intro hdO (And.intro hGN hGg))))
      clear hblk hdl hrl hdO hGN hGg
      go_wp2_with (refine wpList_store_blk w.heap.size (k * 7) done (rest.take 7) (rest.drop 7) (cellsC xs[k] B3 d3 B4 d4 B5 d5 B6 d6) 36 rfl 36 _ _ rfl rfl ?h1 rfl ?h2 ?h3 ?h4 ?h5 ?_)
      case h1 => exact HX.out.1.symm
      case h2 => rw [List.take_append_drop]; exact HBLK2.out
      case h3 => 
        have := HX.out.2.1
        rw [List.length_take]; simp only [cellsC, List.length_cons, List.length_nil]; omega
      case h4 => kernel_rfl
      case h5 => intro v hv; simp [cellsC] at hv; rcases hv with rfl | rfl | rfl | rfl | rfl | rfl | rfl <;> rfl
      intro w3 hblk3 hg3 hsz3
      have HP3 := Lib.hid (part_step hlt HB.out (part_lt HP.out) HX.out HO.out HN.out HF.out HB2.out hblk3 hg3)
      clear hblk3 hg3 hsz3 HX HO HN HF HB2 HBLK2 HB HP
      go_wp2
      go_roundw
      case rel => exact ⟨k + 1, by omega, by go_num, HP3⟩
      case measure => simp [intOf]; omega
    · have hkk : k = xs.length := by omega
      have HK := Lib.hid hkk; clear hkk
      go_wp2
      go_ret
      exact part_end (by have := HP.out; rw [HK.out] at this; exact this) (by omega)
set_option maxHeartbeats 400000 in
theorem toCoreAltS_any (xs : List AltT) (hbk : abulks xs ≤ 1048576) (ih : ∀ x ∈ xs, ToASaid x) (A : Option Addr) (c : Nat) (w : World) (hr : LA.C w A xs.length xs) (hc : xs.length ≤ c) :
    Calls Try.prog 23 #[.slice A xs.length c] w (ToPostAS 36 80 xs w) := by
  have hl := len_abulks xs
  have hl2 : xs.length ≤ 1048576 := by omega
  obtain ⟨i0, hi, hz0, hz1, hz2⟩ := info_parts infoA
  have hmk : ∀ W : World, (Instr.makeSlice 34 (.int .i64 (xs.length : Int)) (.int .i64 (xs.length : Int))).run Try.prog W = .ok (.slice (some ⟨W.heap.size, 0, none⟩) xs.length xs.length) (W.alloc (.cells (madeCells (Value.agg #[.string ⟨#[]⟩, .slice none 0 0, .int .i64 0, .string ⟨#[]⟩, .bool false, .slice none 0 0, .slice none 0 0, .slice none 0 0, .slice none 0 0]).cells (xs.length * 9)) 80)) := by
    intro W
    have := run_make (P := Try.prog) W 34 80 i0 _ Try.underlying34 hi hz0 .i64 .i64 xs.length xs.length (by omega) (by omega) (by rw [hz2]; omega) (by omega)
    rw [hz1] at this
    simpa using this
  clear hi hz0 hz1 hz2
  have IH := Lib.hid ih; clear ih
  have HR := Lib.hid hr; clear hr
  have HBK := Lib.hid hbk; clear hbk
  go_enter Try.func23, Try.ntmps23
  go_wp2
  clear hmk
  go_loopw [4] (fun i wr => ∃ (k : Nat), k ≤ xs.length ∧ i = .int .i64 k ∧ Hid (Part 80 80 9 xs.length k w.heap.size w wr (OwnAs 36 80 wr (xs.take k)))) (fun i _ => xs.length - (intOf i).toNat)
  case atStart => 
    exact ⟨0, Nat.zero_le _, rfl, Lib.hid ⟨[], (madeCells (Value.agg #[.string ⟨#[]⟩, .slice none 0 0, .int .i64 0, .string ⟨#[]⟩, .bool false, .slice none 0 0, .slice none 0 0, .slice none 0 0, .slice none 0 0]).cells (xs.length * 9)).toList, [], blk_made _ _ _, by simp, by simp [size_madeCells], by rw [List.take_zero, OwnAs]; exact ⟨rfl, rfl⟩, List.nodup_nil, (fun k hk => by cases hk), (Below.refl _ _).alloc (Nat.le_refl _) _⟩⟩
  case round =>
    obtain ⟨k, hk, rfl, HP⟩ := hrel
    by_cases hlt : k < xs.length
    · have HB := Lib.hid (show Below w.heap.size w wr from by obtain ⟨_, _, _, _, _, _, _, _, _, h⟩ := HP.out; exact h)
      obtain ⟨ad, A1, c1, A3, c3, A4, c4, A5, c5, A6, c6, rfl, hK, _, _, _, g0, g1, g2, g3, g4, g5, g6, g7, g8⟩ := elem_alt (Kd.C_below HR.out HB.out) k hlt
      go_wp2_with fail
      refine (IH.out _ (List.getElem_mem hlt) (by have := mem_abulks (List.getElem_mem hlt); have := HBK.out; omega) wr _ hK).mono ?_
      rintro e w2 ⟨cs2, F2, rfl, hO, hN, hF, hb2⟩
      clear g0 g1 g2 g3 g4 g5 g6 g7 g8 hK
      obtain ⟨B1, d1, B3, d3, B4, d4, B5, d5, B6, d6, rfl⟩ := ownA_open hO
      obtain ⟨done, rest, G, hblk, hdl, hrl, hdO, hGN, hGg, _⟩ := HP.out
      simp only [cellsA]
      have HO := Lib.hid hO; have HN := Lib.hid hN; have HF := Lib.hid hF; have HB2 := Lib.hid hb2; clear hO hN hF hb2
      have HBLK2 := Lib.hid (hblk.below HB2.out)
      have HX := Lib.hid (And.intro hdl (And.intro hrl (And.intro hdO (And.intro hGN hGg))))
      clear hblk hdl hrl hdO hGN hGg
      go_wp2_with (refine wpList_store_blk w.heap.size (k * 9) done (rest.take 9) (rest.drop 9) (cellsA xs[k] B1 d1 B3 d3 B4 d4 B5 d5 B6 d6) 80 rfl 80 _ _ rfl rfl ?h1 rfl ?h2 ?h3 ?h4 ?h5 ?_)
      case h1 => exact HX.out.1.symm
      case h2 => rw [List.take_append_drop]; exact HBLK2.out
      case h3 => 
        have := HX.out.2.1
        rw [List.length_take]; simp only [cellsA, List.length_cons, List.length_nil]; omega
      case h4 => kernel_rfl
      case h5 => intro v hv; simp [cellsA] at hv; rcases hv with rfl | rfl | rfl | rfl | rfl | rfl | rfl | rfl | rfl <;> rfl
      intro w3 hblk3 hg3 hsz3
      have HP3 := Lib.hid (part_stepA hlt HB.out (part_lt HP.out) HX.out HO.out HN.out HF.out HB2.out hblk3 hg3)
      clear hblk3 hg3 hsz3 HX HO HN HF HB2 HBLK2 HB HP
      go_wp2
      go_roundw
      case rel => exact ⟨k + 1, by omega, by go_num, HP3⟩
      case measure => simp [intOf]; omega
    · have hkk : k = xs.length := by omega
      have HK := Lib.hid hkk; clear hkk
      go_wp2
      go_ret
      exact part_endA (by have := HP.out; rw [HK.out] at this; exact this) (by omega)
/-- what a call has made since, with one block of one's own beside it -/
theorem below_grown {W0 w w' : World} {g : Nat} (h : Below W0.heap.size W0 w) (hg : w.grownBy w' (some g)) (hge : W0.heap.size ≤ g) : Below W0.heap.size W0 w' :=
  Below.grown h hg h.size (fun k hk => by injection hk with hk; omega)
theorem Blk.grown {w w' : World} {g g' : Nat} {e cs} (h : Blk w g e cs) (hg : w.grownBy w' (some g')) (hne : g ≠ g') : Blk w' g e cs := h.move (hg.block g h.lt (fun he => hne (by injection he)))
theorem Row.grown {w w' : World} {g' : Nat} {e v n cells F} (h : Row w e v n cells F) (hg : w.grownBy w' (some g')) (hne : ∀ k ∈ F, k ≠ g') : Row w' e v n cells F :=
  h.move (fun k hk => hg.block k (h.lt k hk) (fun he => hne k hk (by injection he)))
theorem Row.below {w w' : World} {e v n cells F} (h : Row w e v n cells F) (hb : Below w.heap.size w w') : Row w' e v n cells F := h.move (fun k hk => hb.block k (h.lt k hk))
theorem own_grown {e ea : TypeId} {w w' : World} {g' : Nat} {x cs F} (h : OwnC e ea w x cs F) (hg : w.grownBy w' (some g')) (hne : ∀ k ∈ F, k ≠ g') : OwnC e ea w' x cs F :=
  own_move _ _ _ h (fun k hk => hg.block k (own_lt _ _ _ h k hk) (fun he => hne k hk (by injection he)))
theorem own_below {e ea : TypeId} {w w' : World} {x cs F} (h : OwnC e ea w x cs F) (hb : Below w.heap.size w w') : OwnC e ea w' x cs F :=
  own_move _ _ _ h (fun k hk => hb.block k (own_lt _ _ _ h k hk))
theorem blk_alloc (w : World) (e : TypeId) (cs : List Value) : Blk (w.alloc (.cells cs.toArray e)) w.heap.size e cs := by
  have := blk_made w e cs.toArray
  simpa using this
theorem Blk.alloc {w : World} {g e cs} (h : Blk w g e cs) (o : Obj) : Blk (w.alloc o) g e cs := h.below (Below.alloc (Below.refl _ _) (Nat.le_refl _) o)
theorem nodup_app {F G : List Nat} {N : Nat} (hF : F.Nodup) (hG : G.Nodup) (h1 : ∀ k ∈ F, k < N) (h2 : ∀ k ∈ G, N ≤ k) : (F ++ G).Nodup := by
  rw [List.nodup_append]
  exact ⟨hF, hG, fun a ha b hb he => by have := h1 a ha; have := h2 b hb; omega⟩
theorem three {w w4 : World} {e1 e2 e3 : TypeId} {c1 c2 c3 : List Value}
    (h : Below (((w.alloc (.cells c1.toArray e1)).alloc (.cells c2.toArray e2)).alloc (.cells c3.toArray e3)).heap.size (((w.alloc (.cells c1.toArray e1)).alloc (.cells c2.toArray e2)).alloc (.cells c3.toArray e3)) w4) :
    Below w.heap.size w w4 ∧ Blk w4 w.heap.size e1 c1 ∧ Blk w4 (w.heap.size + 1) e2 c2 ∧ Blk w4 (w.heap.size + 1 + 1) e3 c3 ∧ w.heap.size + 3 ≤ w4.heap.size := by
  refine ⟨below_box (below_box2 h), ((((blk_alloc w _ c1).alloc _).alloc _)).below h, ?_, ?_, by have := h.size; simp at this; omega⟩
  · have := ((blk_alloc (w.alloc (.cells c1.toArray e1)) e2 c2).alloc (.cells c3.toArray e3)).below h
    simpa using this
  · have := (blk_alloc ((w.alloc (.cells c1.toArray e1)).alloc (.cells c2.toArray e2)) e3 c3).below h
    simpa using this
set_option maxHeartbeats 1000000 in
theorem toCoreAlt_any (x : AltT) (ih : ToSaid x.body) : ToASaid x := by
  intro hbk w cs hK
  obtain ⟨A1, c1, cb, rfl, l1, g1, hb⟩ := alt_open hK
  obtain ⟨A3, c3, A4, c4, A5, c5, A6, c6, rfl, _⟩ := core_open hb
  rw [abulk_eq] at hbk
  have hbn := len_strsB x.names
  have HBK := Lib.hid hbk; clear hbk
  have IH := Lib.hid ih; clear ih
  have G1 := Lib.hid g1; have HBd := Lib.hid hb; clear g1 hb hK
  simp only [cellsC]
  go_enter Try.func50, Try.ntmps50
  go_wp2_with fail
  obtain ⟨k, hk⟩ := toStringS_eq x.names (by have := HBK.out; omega)
  refine (laws_toStringS.calls k _ _ _ _ _ (Kd.C_below G1.out (((Below.refl _ _).alloc (Nat.le_refl _) _).alloc (by simp) _ |>.alloc (by simp; omega) _)) l1 hk).mono ?_
  rintro e w4 ⟨v1, rfl, hr1, hb4⟩
  obtain ⟨F1, hrow1, hnd1, hf1⟩ := row_of_own (own_strs hr1)
  obtain ⟨hb, hp, hr, ho, hz⟩ := three hb4
  simp only [World.size_alloc] at hf1
  obtain ⟨B1, d1, rfl, _⟩ := hrow1.slice
  have ROW := Lib.hid hrow1; have ND := Lib.hid hnd1; have FF := Lib.hid hf1; have HB := Lib.hid hb; have HP := Lib.hid hp; have HR := Lib.hid hr; have HO := Lib.hid ho
  clear hr1 hb4 hrow1 hnd1 hf1 hb hp hr ho hk
  go_wp2_with (refine wpList_store_blk (w.heap.size + 1 + 1) 1 [_] [_] [_, _, _, _, _, _, _] [.slice B1 x.names.length d1] 80 rfl 25 _ _ rfl rfl rfl rfl HO.out rfl (by kernel_rfl) (by intro v hv; rw [List.mem_singleton.1 hv]; rfl) ?_)
  intro w5 hblk5 hg5 hsz5
  have HP5 := Lib.hid (HP.out.grown hg5 (by omega)); have HR5 := Lib.hid (HR.out.grown hg5 (by omega)); have ROW5 := Lib.hid (ROW.out.grown hg5 (fun k hk => by have := FF.out k hk; omega)); have HB5 := Lib.hid (below_grown HB.out hg5 (by omega)); have HO5 := Lib.hid hblk5
  rw [← hsz5] at hz
  clear hblk5 hg5 hsz5 HP HR HO ROW HB
  have p2 := HP5.out.cell (j := 2) rfl; have p3 := HP5.out.cell (j := 3) rfl; have p4 := HP5.out.cell (j := 4) rfl; have p5 := HP5.out.cell (j := 5) rfl; have p6 := HP5.out.cell (j := 6) rfl; have p7 := HP5.out.cell (j := 7) rfl; have p8 := HP5.out.cell (j := 8) rfl
  go_wp2_with fail
  refine (IH.out (by have := HBK.out; omega) _ _ ((kCore _ _).K_below HB5.out HBd.out)).mono ?_
  rintro e w6 ⟨cs, F2, rfl, hO2, hn2, hf2, hb6⟩
  clear p2 p3 p4 p5 p6 p7 p8
  obtain ⟨C3, h3, C4, h4, C5, h5, C6, h6, rfl⟩ := own_open hO2
  have O2 := Lib.hid hO2; have N2 := Lib.hid hn2; have FF2 := Lib.hid hf2
  have HP6 := Lib.hid (HP5.out.below hb6); have HR6 := Lib.hid (HR5.out.below hb6); have HO6 := Lib.hid (HO5.out.below hb6); have ROW6 := Lib.hid (ROW5.out.below hb6); have HB6 := Lib.hid (Below.step HB5.out hb6)
  have hz6 := hb6.size
  have FL1 := Lib.hid ROW5.out.lt
  clear hO2 hn2 hf2 hb6 HP5 HR5 HO5 ROW5 HB5
  simp only [cellsC] at O2 ⊢
  go_wp2_with (refine wpList_store_blk (w.heap.size + 1 + 1) 2 [_, _] [_, _, _, _, _, _, _] [] [.int .i64 x.body.kind, .string x.body.name, .bool x.body.minus, .slice C3 x.body.limbs.length h3, .slice C4 x.body.names.length h4, .slice C5 x.body.kids.length h5, .slice C6 x.body.alts.length h6] 80 rfl 36 _ _ rfl rfl rfl rfl HO6.out rfl (by kernel_rfl) ?hone ?_)
  case hone => intro v hv; simp at hv; rcases hv with rfl | rfl | rfl | rfl | rfl | rfl | rfl <;> rfl
  intro w7 hblk7 hg7 hsz7
  have HR7 := Lib.hid (HR6.out.grown hg7 (by omega)); have ROW7 := Lib.hid (ROW6.out.grown hg7 (fun k hk => by have := FF.out k hk; omega)); have HB7 := Lib.hid (below_grown HB6.out hg7 (by omega))
  have O7 := Lib.hid (own_grown O2.out hg7 (fun k hk => by have := FF2.out k hk; omega))
  have q0 := hblk7.cell (j := 0) rfl; have q1 := hblk7.cell (j := 1) rfl; have q2 := hblk7.cell (j := 2) rfl; have q3 := hblk7.cell (j := 3) rfl; have q4 := hblk7.cell (j := 4) rfl; have q5 := hblk7.cell (j := 5) rfl; have q6 := hblk7.cell (j := 6) rfl; have q7 := hblk7.cell (j := 7) rfl; have q8 := hblk7.cell (j := 8) rfl
  clear hblk7 hg7 HP6 HR6 HO6 ROW6 HB6 O2
  rw [← hsz7] at hz6
  clear hsz7
  go_wp2_with (refine wpList_store_blk (w.heap.size + 1) 0 [] [_, _, _, _, _, _, _, _, _] [] [.string x.con, .slice B1 x.names.length d1, .int .i64 x.body.kind, .string x.body.name, .bool x.body.minus, .slice C3 x.body.limbs.length h3, .slice C4 x.body.names.length h4, .slice C5 x.body.kids.length h5, .slice C6 x.body.alts.length h6] 80 rfl 80 (.tmp 2) _ rfl rfl rfl rfl HR7.out rfl (by kernel_rfl) ?hone ?_)
  case hone => intro v hv; simp at hv; rcases hv with rfl | rfl | rfl | rfl | rfl | rfl | rfl | rfl | rfl <;> rfl
  intro w8 hblk8 hg8 hsz8
  have ROW8 := Lib.hid (ROW7.out.grown hg8 (fun k hk => by have := FF.out k hk; omega)); have HB8 := Lib.hid (below_grown HB7.out hg8 (by omega))
  have O8 := Lib.hid (own_grown O7.out hg8 (fun k hk => by have := FF2.out k hk; omega))
  clear q0 q1 q2 q3 q4 q5 q6 q7 q8 HR7 ROW7 HB7 O7 hg8
  have q0 := hblk8.cell (j := 0) rfl; have q1 := hblk8.cell (j := 1) rfl; have q2 := hblk8.cell (j := 2) rfl; have q3 := hblk8.cell (j := 3) rfl; have q4 := hblk8.cell (j := 4) rfl; have q5 := hblk8.cell (j := 5) rfl; have q6 := hblk8.cell (j := 6) rfl; have q7 := hblk8.cell (j := 7) rfl; have q8 := hblk8.cell (j := 8) rfl
  clear hblk8
  go_wp2
  refine bodyPost_ret (v := .agg #[.string x.con, .slice B1 x.names.length d1, .int .i64 x.body.kind, .string x.body.name, .bool x.body.minus, .slice C3 x.body.limbs.length h3, .slice C4 x.body.names.length h4, .slice C5 x.body.kids.length h5, .slice C6 x.body.alts.length h6]) (by simp [results, Try.results50, go_sem, q0, q1, q2, q3, q4, q5, q6, q7, q8]) rfl
    ⟨[.string x.con, .slice B1 x.names.length d1, .int .i64 x.body.kind, .string x.body.name, .bool x.body.minus, .slice C3 x.body.limbs.length h3, .slice C4 x.body.names.length h4, .slice C5 x.body.kids.length h5, .slice C6 x.body.alts.length h6], F1 ++ F2, rfl, ?_, ?_, ?_, HB8.out⟩
  · rw [OwnA_eq]
    exact ⟨_, _, F1, F2, rfl, rfl, ROW8.out, O8.out⟩
  · exact nodup_app ND.out N2.out FL1.out FF2.out
  · intro k hk
    rcases List.mem_append.1 hk with hk | hk
    · have := FF.out k hk; omega
    · have := FF2.out k hk; omega
set_option maxHeartbeats 2000000 in
theorem toCore_any (x : CoreT) (ihk : ∀ y ∈ x.kids, ToSaid y) (iha : ∀ a ∈ x.alts, ToASaid a) : ToSaid x := by
  intro hbk w cs hK
  obtain ⟨A3, c3, A4, c4, A5, c5, A6, c6, rfl, l3, g3, l4, g4, l5, g5, l6, g6⟩ := core_open hK
  rw [bulk_eq] at hbk
  have hbn := len_strsB x.names
  have HBK := Lib.hid hbk; clear hbk
  have IHK := Lib.hid ihk; have IHA := Lib.hid iha; clear ihk iha
  have G3 := Lib.hid g3; have G4 := Lib.hid g4; have G5 := Lib.hid g5; have G6 := Lib.hid g6; clear g3 g4 g5 g6 hK
  simp only [cellsC]
  go_enter Try.func7, Try.ntmps7
  go_wp2_with fail
  -- the number
  obtain ⟨k, hk⟩ := toBig_eq x.minus x.limbs (by have := HBK.out; omega)
  refine (laws_toBig.calls k _ _ _ _ _ _ _ (Kd.C_below G3.out (((Below.refl _ _).alloc (Nat.le_refl _) _).alloc (by simp) _ |>.alloc (by simp; omega) _)) l3 hk).mono ?_
  rintro e w4 ⟨v1, rfl, hr1, hb4⟩
  obtain ⟨F3, hrow, hnd, hf⟩ := row_of_own (own_nums hr1)
  obtain ⟨hb, hp, hr, ho, hz⟩ := three hb4
  simp only [World.size_alloc] at hf
  obtain ⟨B3, d3, rfl, _⟩ := hrow.slice
  have ROW := Lib.hid hrow; have ND3 := Lib.hid hnd; have FF3 := Lib.hid hf; have HB := Lib.hid hb; have HP := Lib.hid hp; have HR := Lib.hid hr; have HO := Lib.hid ho
  clear hr1 hb4 hrow hnd hf hb hp hr ho hk
  go_wp2_with (refine wpList_store_blk (w.heap.size + 1 + 1) 2 [_, _] [_, _] [_, _, _] [.bool x.minus, .slice B3 x.limbs.length d3] 36 rfl 32 _ _ rfl rfl rfl rfl HO.out rfl (by kernel_rfl) ?hone ?_)
  case hone => intro v hv; simp at hv; rcases hv with rfl | rfl <;> rfl
  intro w5 hblk5 hg5 hsz5
  have HP5 := Lib.hid (HP.out.grown hg5 (by omega)); have HR5 := Lib.hid (HR.out.grown hg5 (by omega)); have ROW3 := Lib.hid (ROW.out.grown hg5 (fun k hk => by have := FF3.out k hk; omega)); have HB5 := Lib.hid (below_grown HB.out hg5 (by omega)); have HO5 := Lib.hid hblk5
  rw [← hsz5] at hz
  clear hblk5 hg5 hsz5 HP HR HO ROW HB
  -- the names
  have p4 := HP5.out.cell (j := 4) rfl
  go_wp2_with fail
  clear p4
  obtain ⟨k, hk⟩ := toStringS_eq x.names (by have := HBK.out; omega)
  refine (laws_toStringS.calls k _ _ _ _ _ (Kd.C_below G4.out HB5.out) l4 hk).mono ?_
  rintro e w6 ⟨v1, rfl, hr1, hb6⟩
  obtain ⟨F4, hrow, hnd, hf⟩ := row_of_own (own_strs hr1)
  obtain ⟨B4, d4, rfl, _⟩ := hrow.slice
  have FL3 := Lib.hid ROW3.out.lt
  have ROW4 := Lib.hid hrow; have ND4 := Lib.hid hnd; have FF4 := Lib.hid hf; have HB6 := Lib.hid (Below.step HB5.out hb6); have HP6 := Lib.hid (HP5.out.below hb6); have HR6 := Lib.hid (HR5.out.below hb6); have HO6 := Lib.hid (HO5.out.below hb6); have ROW36 := Lib.hid (ROW3.out.below hb6)
  have hz6 := hb6.size
  clear hr1 hb6 hrow hnd hf hk HB5 HP5 HR5 HO5 ROW3
  go_wp2_with (refine wpList_store_blk (w.heap.size + 1 + 1) 4 [_, _, _, _] [_] [_, _] [.slice B4 x.names.length d4] 36 rfl 25 _ _ rfl rfl rfl rfl HO6.out rfl (by kernel_rfl) (by intro v hv; rw [List.mem_singleton.1 hv]; rfl) ?_)
  intro w7 hblk7 hg7 hsz7
  have HP7 := Lib.hid (HP6.out.grown hg7 (by omega)); have HR7 := Lib.hid (HR6.out.grown hg7 (by omega)); have ROW37 := Lib.hid (ROW36.out.grown hg7 (fun k hk => by have := FF3.out k hk; omega)); have ROW47 := Lib.hid (ROW4.out.grown hg7 (fun k hk => by have := FF4.out k hk; omega)); have HB7 := Lib.hid (below_grown HB6.out hg7 (by omega)); have HO7 := Lib.hid hblk7
  rw [← hsz7] at hz6
  clear hblk7 hg7 hsz7 HP6 HR6 HO6 ROW36 ROW4 HB6
  -- the kids
  have p5 := HP7.out.cell (j := 5) rfl
  go_wp2_with fail
  clear p5
  refine (toCoreS_any x.kids (by have := HBK.out; omega) IHK.out _ _ _ (Kd.C_below G5.out HB7.out) l5).mono ?_
  rintro e w8 ⟨v1, cs5, F5, G5', rfl, hrow, hcs, hnd, hf, hb8⟩
  obtain ⟨B5, d5, rfl, _⟩ := hrow.slice
  have FL4 := Lib.hid ROW47.out.lt
  have ROW5 := Lib.hid hrow; have CS5 := Lib.hid hcs; have ND5 := Lib.hid hnd; have FF5 := Lib.hid hf; have HB8 := Lib.hid (Below.step HB7.out hb8); have HP8 := Lib.hid (HP7.out.below hb8); have HR8 := Lib.hid (HR7.out.below hb8); have HO8 := Lib.hid (HO7.out.below hb8); have ROW38 := Lib.hid (ROW37.out.below hb8); have ROW48 := Lib.hid (ROW47.out.below hb8)
  have hz8 := hb8.size
  clear hb8 hrow hcs hnd hf HB7 HP7 HR7 HO7 ROW37 ROW47
  go_wp2_with (refine wpList_store_blk (w.heap.size + 1 + 1) 5 [_, _, _, _, _] [_] [_] [.slice B5 x.kids.length d5] 36 rfl 33 _ _ rfl rfl rfl rfl HO8.out rfl (by kernel_rfl) (by intro v hv; rw [List.mem_singleton.1 hv]; rfl) ?_)
  intro w9 hblk9 hg9 hsz9
  have HP9 := Lib.hid (HP8.out.grown hg9 (by omega)); have HR9 := Lib.hid (HR8.out.grown hg9 (by omega)); have ROW39 := Lib.hid (ROW38.out.grown hg9 (fun k hk => by have := FF3.out k hk; omega)); have ROW49 := Lib.hid (ROW48.out.grown hg9 (fun k hk => by have := FF4.out k hk; omega)); have HB9 := Lib.hid (below_grown HB8.out hg9 (by omega)); have HO9 := Lib.hid hblk9
  have ROW59 := Lib.hid (ROW5.out.grown hg9 (fun k hk => by have := FF5.out k (by simp [hk]); omega)); have CS59 := Lib.hid (ownCs_move' CS5.out (fun k hk => hg9.block k (ownCs_lt' CS5.out k hk) (fun he => by have := FF5.out k (by simp [hk]); injection he with he; omega)))
  rw [← hsz9] at hz8
  clear hblk9 hg9 hsz9 HP8 HR8 HO8 ROW38 ROW48 ROW5 CS5 HB8
  -- the alternatives
  have p6 := HP9.out.cell (j := 6) rfl
  go_wp2_with fail
  clear p6
  refine (toCoreAltS_any x.alts (by have := HBK.out; omega) IHA.out _ _ _ (Kd.C_below G6.out HB9.out) l6).mono ?_
  rintro e w10 ⟨v1, cs6, F6, G6', rfl, hrow, hcs, hnd, hf, hb10⟩
  obtain ⟨B6, d6, rfl, _⟩ := hrow.slice
  have FL5 := Lib.hid (show ∀ k ∈ F5 ++ G5', k < w9.heap.size from fun k hk => (List.mem_append.1 hk).elim (ROW59.out.lt k) (ownCs_lt' CS59.out k))
  have ROW6 := Lib.hid hrow; have CS6 := Lib.hid hcs; have ND6 := Lib.hid hnd; have FF6 := Lib.hid hf; have HB10 := Lib.hid (Below.step HB9.out hb10); have HR10 := Lib.hid (HR9.out.below hb10); have HO10 := Lib.hid (HO9.out.below hb10); have ROW310 := Lib.hid (ROW39.out.below hb10); have ROW410 := Lib.hid (ROW49.out.below hb10); have ROW510 := Lib.hid (ROW59.out.below hb10)
  have CS510 := Lib.hid (ownCs_move' CS59.out (fun k hk => hb10.block k (ownCs_lt' CS59.out k hk)))
  have hz10 := hb10.size
  clear hb10 hrow hcs hnd hf HB9 HP9 HR9 HO9 ROW39 ROW49 ROW59 CS59
  go_wp2_with (refine wpList_store_blk (w.heap.size + 1 + 1) 6 [_, _, _, _, _, _] [_] [] [.slice B6 x.alts.length d6] 36 rfl 34 _ _ rfl rfl rfl rfl HO10.out rfl (by kernel_rfl) (by intro v hv; rw [List.mem_singleton.1 hv]; rfl) ?_)
  intro w11 hblk11 hg11 hsz11
  have HR11 := Lib.hid (HR10.out.grown hg11 (by omega)); have ROW311 := Lib.hid (ROW310.out.grown hg11 (fun k hk => by have := FF3.out k hk; omega)); have ROW411 := Lib.hid (ROW410.out.grown hg11 (fun k hk => by have := FF4.out k hk; omega)); have HB11 := Lib.hid (below_grown HB10.out hg11 (by omega))
  have ROW511 := Lib.hid (ROW510.out.grown hg11 (fun k hk => by have := FF5.out k (by simp [hk]); omega)); have CS511 := Lib.hid (ownCs_move' CS510.out (fun k hk => hg11.block k (ownCs_lt' CS510.out k hk) (fun he => by have := FF5.out k (by simp [hk]); injection he with he; omega)))
  have ROW611 := Lib.hid (ROW6.out.grown hg11 (fun k hk => by have := FF6.out k (by simp [hk]); omega)); have CS611 := Lib.hid (ownAs_move' CS6.out (fun k hk => hg11.block k (ownAs_lt' CS6.out k hk) (fun he => by have := FF6.out k (by simp [hk]); injection he with he; omega)))
  have q0 := hblk11.cell (j := 0) rfl; have q1 := hblk11.cell (j := 1) rfl; have q2 := hblk11.cell (j := 2) rfl; have q3 := hblk11.cell (j := 3) rfl; have q4 := hblk11.cell (j := 4) rfl; have q5 := hblk11.cell (j := 5) rfl; have q6 := hblk11.cell (j := 6) rfl
  clear hblk11 hg11 HR10 HO10 ROW310 ROW410 ROW510 CS510 ROW6 CS6 HB10
  rw [← hsz11] at hz10
  clear hsz11
  go_wp2_with (refine wpList_store_blk (w.heap.size + 1) 0 [] [_, _, _, _, _, _, _] [] [.int .i64 x.kind, .string x.name, .bool x.minus, .slice B3 x.limbs.length d3, .slice B4 x.names.length d4, .slice B5 x.kids.length d5, .slice B6 x.alts.length d6] 36 rfl 36 (.tmp 2) _ rfl rfl rfl rfl HR11.out rfl (by kernel_rfl) ?hone ?_)
  case hone => intro v hv; simp at hv; rcases hv with rfl | rfl | rfl | rfl | rfl | rfl | rfl <;> rfl
  intro w12 hblk12 hg12 hsz12
  have ROW312 := Lib.hid (ROW311.out.grown hg12 (fun k hk => by have := FF3.out k hk; omega)); have ROW412 := Lib.hid (ROW411.out.grown hg12 (fun k hk => by have := FF4.out k hk; omega)); have HB12 := Lib.hid (below_grown HB11.out hg12 (by omega))
  have ROW512 := Lib.hid (ROW511.out.grown hg12 (fun k hk => by have := FF5.out k (by simp [hk]); omega)); have CS512 := Lib.hid (ownCs_move' CS511.out (fun k hk => hg12.block k (ownCs_lt' CS511.out k hk) (fun he => by have := FF5.out k (by simp [hk]); injection he with he; omega)))
  have ROW612 := Lib.hid (ROW611.out.grown hg12 (fun k hk => by have := FF6.out k (by simp [hk]); omega)); have CS612 := Lib.hid (ownAs_move' CS611.out (fun k hk => hg12.block k (ownAs_lt' CS611.out k hk) (fun he => by have := FF6.out k (by simp [hk]); injection he with he; omega)))
  clear q0 q1 q2 q3 q4 q5 q6 HR11 ROW311 ROW411 ROW511 CS511 ROW611 CS611 HB11 hg12
  have q0 := hblk12.cell (j := 0) rfl; have q1 := hblk12.cell (j := 1) rfl; have q2 := hblk12.cell (j := 2) rfl; have q3 := hblk12.cell (j := 3) rfl; have q4 := hblk12.cell (j := 4) rfl; have q5 := hblk12.cell (j := 5) rfl; have q6 := hblk12.cell (j := 6) rfl
  clear hblk12
  go_wp2
  refine bodyPost_ret (v := .agg #[.int .i64 x.kind, .string x.name, .bool x.minus, .slice B3 x.limbs.length d3, .slice B4 x.names.length d4, .slice B5 x.kids.length d5, .slice B6 x.alts.length d6]) (by simp [results, Try.results7, go_sem, q0, q1, q2, q3, q4, q5, q6]) rfl
    ⟨[.int .i64 x.kind, .string x.name, .bool x.minus, .slice B3 x.limbs.length d3, .slice B4 x.names.length d4, .slice B5 x.kids.length d5, .slice B6 x.alts.length d6], F3 ++ (F4 ++ ((F5 ++ G5') ++ (F6 ++ G6'))), rfl, ?_, ?_, ?_, HB12.out⟩
  · rw [OwnC_eq]
    exact ⟨_, _, _, _, F3, F4, F5, F6, G5', G6', _, _, rfl, rfl, ROW312.out, ROW412.out, ⟨ROW512.out, CS512.out⟩, ⟨ROW612.out, CS612.out⟩⟩
  · have h56 : ((F5 ++ G5') ++ (F6 ++ G6')).Nodup := nodup_app ND5.out ND6.out FL5.out FF6.out
    have h456 : (F4 ++ ((F5 ++ G5') ++ (F6 ++ G6'))).Nodup := by
      refine nodup_app ND4.out h56 FL4.out (fun k hk => ?_)
      rcases List.mem_append.1 hk with hk | hk
      · exact FF5.out k hk
      · have := FF6.out k hk; omega
    refine nodup_app ND3.out h456 FL3.out (fun k hk => ?_)
    rcases List.mem_append.1 hk with hk | hk
    · exact FF4.out k hk
    · rcases List.mem_append.1 hk with hk | hk
      · have := FF5.out k hk; omega
      · have := FF6.out k hk; omega
  · intro k hk
    rcases List.mem_append.1 hk with hk | hk
    · have := FF3.out k hk; omega
    · rcases List.mem_append.1 hk with hk | hk
      · have := FF4.out k hk; omega
      · rcases List.mem_append.1 hk with hk | hk
        · have := FF5.out k hk; omega
        · have := FF6.out k hk; omega
theorem to_all (x : CoreT) : ToSaid x :=
  coreInd ToSaid (fun c hk ha => toCore_any c hk (fun a h => toCoreAlt_any a (ha a h))) x
end Go.Proofs.Ytagfphlhahiplaa.C13
namespace Go.Proofs.Ytagfphlhahiplaa.C13
open Go.RowKit Go.Proofs.YtagfphlhahiplaaW.PrintWords Go.Proofs.Ytagfphlhahiplaa.PFnExactFormatCore
set_option linter.unusedVariables false
set_option linter.unusedSimpArgs false
def anames : List AltT → Nat
  | [] => 0
  | a :: r => a.names.length + anames r
mutual
def total : CoreT → Nat
  | ⟨_, _, _, _, names, kids, alts⟩ => 1 + names.length + anames alts + totals kids + atotals alts
def totals : List CoreT → Nat
  | [] => 0
  | c :: r => total c + totals r
def atotals : List AltT → Nat
  | [] => 0
  | a :: r => atotal a + atotals r
def atotal : AltT → Nat
  | ⟨_, _, b⟩ => total b
end
theorem total_eq (c : CoreT) : total c = 1 + c.names.length + anames c.alts + totals c.kids + atotals c.alts := by cases c; rw [total]
theorem atotal_eq (a : AltT) : atotal a = total a.body := by cases a; rw [atotal]
theorem totals_snoc (l : List CoreT) (x : CoreT) : totals (l ++ [x]) = totals l + total x := by
  induction l with
  | nil => simp [totals]
  | cons c r ih => simp only [List.cons_append, totals, ih]; omega
theorem atotals_snoc (l : List AltT) (x : AltT) : atotals (l ++ [x]) = atotals l + total x.body := by
  induction l with
  | nil => simp [atotals, atotal_eq]
  | cons c r ih => simp only [List.cons_append, atotals, ih]; omega
theorem anames_snoc (l : List AltT) (x : AltT) : anames (l ++ [x]) = anames l + x.names.length := by
  induction l with
  | nil => simp [anames]
  | cons c r ih => simp only [List.cons_append, anames, ih]; omega
theorem deps_snoc (l : List CoreT) (x : CoreT) : deps (l ++ [x]) = max (deps l) (dep x) := by
  induction l with
  | nil => simp [deps]
  | cons c r ih => simp only [List.cons_append, deps, ih]; omega
theorem adeps_snoc (l : List AltT) (x : AltT) : adeps (l ++ [x]) = max (adeps l) (dep x.body) := by
  induction l with
  | nil => simp [adeps, adep_eq]
  | cons c r ih => simp only [List.cons_append, adeps, ih]; omega
theorem totals_le (l : List CoreT) (k : Nat) : totals (l.take k) ≤ totals l := by
  induction l generalizing k with
  | nil => simp
  | cons c r ih => cases k with
    | zero => simp [totals]
    | succ k => simp only [List.take_succ_cons, totals]; have := ih k; omega
theorem atotals_le (l : List AltT) (k : Nat) : atotals (l.take k) ≤ atotals l := by
  induction l generalizing k with
  | nil => simp
  | cons c r ih => cases k with
    | zero => simp [atotals]
    | succ k => simp only [List.take_succ_cons, atotals]; have := ih k; omega
theorem anames_le (l : List AltT) (k : Nat) : anames (l.take k) ≤ anames l := by
  induction l generalizing k with
  | nil => simp
  | cons c r ih => cases k with
    | zero => simp [anames]
    | succ k => simp only [List.take_succ_cons, anames]; have := ih k; omega
theorem deps_le (l : List CoreT) (k : Nat) : deps (l.take k) ≤ deps l := by
  induction l generalizing k with
  | nil => simp
  | cons c r ih => cases k with
    | zero => simp [deps]
    | succ k => simp only [List.take_succ_cons, deps]; have := ih k; omega
theorem adeps_le (l : List AltT) (k : Nat) : adeps (l.take k) ≤ adeps l := by
  induction l generalizing k with
  | nil => simp
  | cons c r ih => cases k with
    | zero => simp [adeps]
    | succ k => simp only [List.take_succ_cons, adeps]; have := ih k; omega
theorem take_snoc' {α : Type} {l : List α} {k : Nat} (h : k < l.length) : l.take (k + 1) = l.take k ++ [l[k]] := List.take_succ_eq_append_getElem h
theorem anames_abulks (l : List AltT) : anames l ≤ abulks l := by
  induction l with
  | nil => simp [anames]
  | cons c r ih => rw [anames, abulks, abulk_eq]; have := len_strsB c.names; omega
theorem grown_trans {w a b : World} {g : Option Nat} (h : w.grownBy a g) (k : a.grownBy b g) : w.grownBy b g :=
  ⟨k.os.trans h.os, k.tape.trans h.tape, k.output.trans h.output, Nat.le_trans h.size k.size, fun i hi hn => (k.block i (Nat.lt_of_lt_of_le hi h.size) hn).trans (h.block i hi hn)⟩
theorem grown_of_below {w w' : World} (h : Below w.heap.size w w') (g : Option Nat) : w.grownBy w' g := ⟨h.os, h.tape, h.output, h.size, fun i hi _ => h.block i hi⟩
theorem below_grown' {S w w' : World} {b : Nat} (h : Below S.heap.size S w) (hg : w.grownBy w' (some b)) (hb : S.heap.size ≤ b) : Below S.heap.size S w' := below_grown h hg hb
theorem undrew {w w' : World} {r : Option Nat} (h : w.drew.grownBy w' r) : w.grownBy w' r := ⟨h.os, h.tape, h.output, h.size, h.block⟩
theorem boxed (w : World) (cs : List Value) (e : TypeId) : ∃ W1, W1 = w.alloc (.cells cs.toArray e) ∧ Blk W1 w.heap.size e cs ∧ Below w.heap.size w W1 ∧ W1.heap.size = w.heap.size + 1 :=
  ⟨_, rfl, blk_alloc w e cs, Below.alloc (Below.refl _ _) (Nat.le_refl _) _, by simp⟩
theorem Blk.grownO {w w' : World} {g : Nat} {r : Option Nat} {e cs} (h : Blk w g e cs) (hg : w.grownBy w' r) (hne : some g ≠ r) : Blk w' g e cs := h.move (hg.block g h.lt hne)
/-- the contract: *left is b; S: where the term is read -/
def SizePost (x : CoreT) (deep L : Int) (b : Nat) (w : World) (e : Ending) (w' : World) : Prop :=
  w.grownBy w' (some b) ∧ ((e = .returned (.bool true) ∧ (total x : Int) ≤ L ∧ deep - 1 + dep x ≤ 1000 ∧ Blk w' b 2 [.int .i64 (L - total x)]) ∨
    (e = .returned (.bool false) ∧ ¬ ((total x : Int) ≤ L ∧ deep - 1 + dep x ≤ 1000)))
def SizeSaid (x : CoreT) : Prop := bulk x ≤ 1048576 → ∀ (S w : World) (cs : List Value) (b : Nat) (deep L : Int), 1 ≤ deep → deep ≤ 1001 → 0 ≤ L → L ≤ 20000 → IC.K S x cs → Below S.heap.size S w → S.heap.size ≤ b → Blk w b 2 [.int .i64 L] →
  Calls Try.prog 45 #[.agg cs.toArray, .int .i64 deep, .pointer (some ⟨b, 0, none⟩)] w (SizePost x deep L b w)
set_option maxRecDepth 100000 in
set_option maxHeartbeats 1000000 in
theorem l13Size_any (x : CoreT) (ihk : ∀ y ∈ x.kids, SizeSaid y) (iha : ∀ a ∈ x.alts, SizeSaid a.body) : SizeSaid x := by
  intro hbk S w cs b deep L hd1 hd2 hL0 hL1 hK hB hSb hblk
  obtain ⟨A3, c3, A4, c4, A5, c5, A6, c6, rfl, l3, g3, l4, g4, l5, g5, l6, g6⟩ := core_open hK
  rw [bulk_eq] at hbk
  have hbn := len_strsB x.names
  have hba := anames_abulks x.alts
  have hbl := hblk.lt
  have hla : x.alts.length ≤ 1048576 := by have := len_abulks x.alts; omega
  have hlk : x.kids.length ≤ 1048576 := by have := len_bulks x.kids; omega
  have hT := total_eq x
  have hD := dep_eq x
  have HT := Lib.hid hT; have HD := Lib.hid hD; clear hT hD
  have HBK := Lib.hid hbk
  have IHK := Lib.hid ihk; have IHA := Lib.hid iha; clear ihk iha
  have G5 := Lib.hid g5; have G6 := Lib.hid g6; clear g3 g4 g5 g6 hK
  simp only [cellsC]
  go_enter Try.func45, Try.ntmps45
  have hne : b ≠ w.heap.size := by omega
  go_wp2_with fail
  obtain ⟨W1, hW1, hp1, hB1, hs1⟩ := boxed w [.int .i64 x.kind, .string x.name, .bool x.minus, .slice A3 x.limbs.length c3, .slice A4 x.names.length c4, .slice A5 x.kids.length c5, .slice A6 x.alts.length c6] 36
  rw [← hW1]
  have hb1 := hblk.below hB1
  have GR1 := Lib.hid (grown_of_below hB1 (some b))
  have HB1 := Lib.hid (Below.step hB hB1)
  have BL1 := Lib.hid hb1; have BP1 := Lib.hid hp1
  have HS1 := Lib.hid hs1
  clear hW1 hB1 hB hblk hs1
  have b0 := hb1.cell (j := 0) rfl
  have f0 := hb1.frozen 0
  have p4 := hp1.cell (j := 4) rfl
  clear hp1 hb1
  have w1 : IntKind.i64.wrap (L - 1) = L - 1 := IntWalk.i64_in _ (by omega)
  have w2 : IntKind.i64.wrap (L - 1 - x.names.length) = L - 1 - x.names.length := IntWalk.i64_in _ (by omega)
  go_still_tail 10, (by kernel_rfl)
  change wpList _ _ _ _ _ W1.drew
  clear b0 f0 p4 w1 w2
  go_wp2_with (refine wpList_store_blk b 0 [] [_] [] [.int .i64 (L - 1 - x.names.length)] 2 rfl 2 (.tmp 19) _ rfl rfl rfl rfl BL1.out rfl (by kernel_rfl) (by intro v hv; rw [List.mem_singleton.1 hv]; rfl) ?_)
  intro W2 hb2 hg2 hs2
  have GR2 := Lib.hid (grown_trans GR1.out (undrew hg2)); have HB2 := Lib.hid (below_grown' HB1.out (undrew hg2) hSb); have BL2 := Lib.hid hb2; have BP2 := Lib.hid (BP1.out.grown (undrew hg2) (by omega))
  have hs2' : W2.heap.size = w.heap.size + 1 := hs2.trans HS1.out
  clear hb2 hg2 hs2 GR1 HB1 BL1 BP1
  have p6 := BP2.out.cell (j := 6) rfl
  go_wp2_with fail
  clear p6
  -- the alternatives' names
  go_loopw [7] (fun i wr => ∃ (k : Nat) (l : Int), k ≤ x.alts.length ∧ i = .int .i64 k ∧ -2097152 ≤ l ∧ l ≤ 20000 ∧ Hid (l = L - 1 - x.names.length - anames (x.alts.take k)) ∧ Hid (Blk wr b 2 [.int .i64 l]) ∧ Hid (W2.grownBy wr (some b))) (fun i _ => x.alts.length - (intOf i).toNat)
  case atStart => exact ⟨0, L - 1 - x.names.length, Nat.zero_le _, rfl, by omega, by omega, Lib.hid (by simp [anames]), BL2, Lib.hid (grown_of_below (Below.refl _ _) _)⟩
  case round =>
    obtain ⟨k, l, hk, rfl, hl0, hl1, HL, HBl, HG⟩ := hrel
    have HBr := Lib.hid (below_grown' HB2.out HG.out hSb)
    have HPr := Lib.hid (BP2.out.grown HG.out (by omega))
    have p6 := HPr.out.cell (j := 6) rfl
    by_cases hlt : k < x.alts.length
    · have hal := anames_le x.alts (k + 1)
      rw [take_snoc' hlt, anames_snoc] at hal
      have hlv := HL.out
      obtain ⟨ad, A1, c1, A3, c3, A4, c4, A5', c5', A6', c6', rfl, hK, _, _, _, g0, g1, g2, g3, g4, g5, g6, g7, g8⟩ := elem_alt (Kd.C_below G6.out HBr.out) k hlt
      clear g0 g2 g3 g4 g5 g6 g7 g8 hK
      have b0 := HBl.out.cell (j := 0) rfl
      have f0 := HBl.out.frozen 0
      go_wp2_with fail
      have hl3 : -2097152 ≤ l - x.alts[k].names.length := by omega
      clear hal hlv
      have w1 : IntKind.i64.wrap (l - x.alts[k].names.length) = l - x.alts[k].names.length := IntWalk.i64_in _ (by omega)
      go_still_tail 13, (by kernel_rfl)
      change wpList _ _ _ _ _ wr.drew
      clear b0 f0 p6 w1 g1
      go_wp2_with (refine wpList_store_blk b 0 [] [_] [] [.int .i64 (l - x.alts[k].names.length)] 2 rfl 2 (.tmp 39) _ rfl rfl rfl rfl HBl.out rfl (by kernel_rfl) (by intro v hv; rw [List.mem_singleton.1 hv]; rfl) ?_)
      intro w3 hb3 hg3 hs3
      have HB3 := Lib.hid hb3; have HG3 := Lib.hid (grown_trans HG.out (undrew hg3)); clear hb3 hg3 hs3 
      go_wp2
      go_roundw
      case rel => exact ⟨k + 1, _, by omega, by go_num, hl3, by omega, Lib.hid (by have := HL.out; rw [take_snoc' hlt, anames_snoc]; omega), HB3, HG3⟩
      case measure => simp [intOf]; omega
    · have hkk : k = x.alts.length := by omega
      have hlv := HL.out
      rw [hkk, List.take_length] at hlv
      have HK := Lib.hid hkk; clear hkk
      have HLV := Lib.hid hlv; clear hlv
      have b0 := HBl.out.cell (j := 0) rfl
      by_cases hneg : l < 0
      · go_wp2
        go_ret
        exact ⟨grown_trans GR2.out HG.out, .inr ⟨rfl, by have := HLV.out; have := HT.out; omega⟩⟩
      · by_cases hdp : 1000 < deep
        · go_wp2
          go_ret
          exact ⟨grown_trans GR2.out HG.out, .inr ⟨rfl, by have := HD.out; omega⟩⟩
        · go_wp2_with fail
          clear b0 p6 BL2 HL HPr HBr
          -- the kids
          go_loopw [8] (fun i wq => ∃ (m : Nat) (l2 : Int), m ≤ x.kids.length ∧ i = .int .i64 m ∧ 0 ≤ l2 ∧ l2 ≤ 20000 ∧ Hid (l2 = l - totals (x.kids.take m)) ∧ Hid (deep + deps (x.kids.take m) ≤ 1000) ∧ Hid (Blk wq b 2 [.int .i64 l2]) ∧ Hid (W2.grownBy wq (some b))) (fun i _ => x.kids.length - (intOf i).toNat)
          case atStart => exact ⟨0, l, Nat.zero_le _, rfl, by omega, by omega, Lib.hid (by simp [totals]), Lib.hid (by simp [deps]; omega), HBl, HG⟩
          case round =>
            obtain ⟨m, l2, hm, rfl, hq0, hq1, HQ, HDq, HBq, HGq⟩ := hrel
            have HBr := Lib.hid (below_grown' HB2.out HGq.out hSb)
            have HPr := Lib.hid (BP2.out.grown HGq.out (by omega))
            have p5 := HPr.out.cell (j := 5) rfl
            by_cases hlt2 : m < x.kids.length
            · obtain ⟨ad, A3', c3', A4', c4', B5, d5, B6, d6, rfl, hK, g0, g1, g2, g3, g4, g5, g6⟩ := elem_core_at G5.out HBr.out m hlt2
              go_wp2_with fail
              have hmb := mem_bulks (List.getElem_mem hlt2)
              refine (IHK.out _ (List.getElem_mem hlt2) (by have := HBK.out; omega) S _ _ b (deep + 1) l2 (by omega) (by omega) hq0 hq1 hK HBr.out hSb HBq.out).mono ?_
              rintro e w3 ⟨hg3, h3⟩
              clear g0 g1 g2 g3 g4 g5 g6 hK p5 hmb
              have HG3 := Lib.hid (grown_trans HGq.out hg3); clear hg3
              have htl := totals_le x.kids (m + 1)
              have hdl := deps_le x.kids (m + 1)
              rw [take_snoc' hlt2, totals_snoc] at htl
              rw [take_snoc' hlt2, deps_snoc] at hdl
              have HTL := Lib.hid htl; have HDL := Lib.hid hdl; clear htl hdl
              rcases h3 with ⟨rfl, h4, h5, h6⟩ | ⟨rfl, h4⟩
              · have H4 := Lib.hid h4; have H5 := Lib.hid h5; have H6 := Lib.hid h6
                have hn0 : 0 ≤ l2 - total x.kids[m] := by omega
                have hn1 : l2 - total x.kids[m] ≤ 20000 := by omega
                clear h4 h5 h6
                go_wp2
                go_roundw
                case rel => exact ⟨m + 1, _, by omega, by go_num, hn0, hn1, Lib.hid (by have := HQ.out; rw [take_snoc' hlt2, totals_snoc]; omega), Lib.hid (by have := HDq.out; have := H5.out; rw [take_snoc' hlt2, deps_snoc]; omega), H6, HG3⟩
                case measure => simp [intOf]; omega
              · have H4 := Lib.hid h4; clear h4
                go_wp2
                go_ret
                exact ⟨grown_trans GR2.out HG3.out, .inr ⟨rfl, by have := H4.out; have := HTL.out; have := HDL.out; have := HQ.out; have := HT.out; have := HD.out; have := HLV.out; omega⟩⟩
            · have hkk : m = x.kids.length := by omega
              have hlv := HQ.out
              have hdv := HDq.out
              rw [hkk, List.take_length] at hlv hdv
              have HK2 := Lib.hid hkk; clear hkk
              have HLV2 := Lib.hid hlv; have HDV2 := Lib.hid hdv; clear hlv hdv
              go_wp2_with fail
              clear p5 HQ HDq HPr HBr
              -- the alternatives' bodies
              go_loopw [9] (fun i wq => ∃ (m : Nat) (l3 : Int), m ≤ x.alts.length ∧ i = .int .i64 m ∧ 0 ≤ l3 ∧ l3 ≤ 20000 ∧ Hid (l3 = l2 - atotals (x.alts.take m)) ∧ Hid (deep + adeps (x.alts.take m) ≤ 1000) ∧ Hid (Blk wq b 2 [.int .i64 l3]) ∧ Hid (W2.grownBy wq (some b))) (fun i _ => x.alts.length - (intOf i).toNat)
              case atStart => exact ⟨0, l2, Nat.zero_le _, rfl, by omega, by omega, Lib.hid (by simp [atotals]), Lib.hid (by simp [adeps]; omega), HBq, HGq⟩
              case round =>
                obtain ⟨m3, l3, hm3, rfl, hr0, hr1, HQ, HDq, HBq3, HGq3⟩ := hrel
                have HBr := Lib.hid (below_grown' HB2.out HGq3.out hSb)
                have HPr := Lib.hid (BP2.out.grown HGq3.out (by omega))
                have p6 := HPr.out.cell (j := 6) rfl
                by_cases hlt3 : m3 < x.alts.length
                · obtain ⟨ad, A1, c1, A3', c3', A4', c4', B5, d5, B6, d6, rfl, _, hK, _, _, g0, g1, g2, g3, g4, g5, g6, g7, g8⟩ := elem_alt_at G6.out HBr.out m3 hlt3
                  go_wp2_with fail
                  have hmb := mem_abulks (List.getElem_mem hlt3)
                  rw [abulk_eq] at hmb
                  refine (IHA.out _ (List.getElem_mem hlt3) (by have := HBK.out; omega) S _ _ b (deep + 1) l3 (by omega) (by omega) hr0 hr1 hK HBr.out hSb HBq3.out).mono ?_
                  rintro e w3 ⟨hg3, h3⟩
                  clear g0 g1 g2 g3 g4 g5 g6 g7 g8 hK p6 hmb
                  have HG3 := Lib.hid (grown_trans HGq3.out hg3); clear hg3
                  have htl := atotals_le x.alts (m3 + 1)
                  have hdl := adeps_le x.alts (m3 + 1)
                  rw [take_snoc' hlt3, atotals_snoc] at htl
                  rw [take_snoc' hlt3, adeps_snoc] at hdl
                  have HTL := Lib.hid htl; have HDL := Lib.hid hdl; clear htl hdl
                  rcases h3 with ⟨rfl, h4, h5, h6⟩ | ⟨rfl, h4⟩
                  · have H4 := Lib.hid h4; have H5 := Lib.hid h5; have H6 := Lib.hid h6
                    have hn0 : 0 ≤ l3 - total x.alts[m3].body := by omega
                    have hn1 : l3 - total x.alts[m3].body ≤ 20000 := by omega
                    clear h4 h5 h6
                    go_wp2
                    go_roundw
                    case rel => exact ⟨m3 + 1, _, by omega, by go_num, hn0, hn1, Lib.hid (by have := HQ.out; rw [take_snoc' hlt3, atotals_snoc]; omega), Lib.hid (by have := HDq.out; have := H5.out; rw [take_snoc' hlt3, adeps_snoc]; omega), H6, HG3⟩
                    case measure => simp [intOf]; omega
                  · have H4 := Lib.hid h4; clear h4
                    go_wp2
                    go_ret
                    exact ⟨grown_trans GR2.out HG3.out, .inr ⟨rfl, by have := H4.out; have := HTL.out; have := HDL.out; have := HQ.out; have := HT.out; have := HD.out; have := HLV.out; have := HLV2.out; omega⟩⟩
                · have hkk : m3 = x.alts.length := by omega
                  have hlv := HQ.out
                  have hdv := HDq.out
                  rw [hkk, List.take_length] at hlv hdv
                  have HK3 := Lib.hid hkk; clear hkk
                  have HLV3 := Lib.hid hlv; have HDV3 := Lib.hid hdv; clear hlv hdv
                  go_wp2
                  go_ret
                  have e1 : (total x : Int) ≤ L := by have := HT.out; have := HLV.out; have := HLV2.out; have := HLV3.out; omega
                  have e2 : L - total x = l3 := by have := HT.out; have := HLV.out; have := HLV2.out; have := HLV3.out; omega
                  exact ⟨grown_trans GR2.out HGq3.out, .inl ⟨rfl, e1, by have := HD.out; have := HDV2.out; have := HDV3.out; omega, by rw [e2]; exact HBq3.out⟩⟩
theorem size_all (x : CoreT) : SizeSaid x := coreInd SizeSaid (fun c hk ha => l13Size_any c hk ha) x
end Go.Proofs.Ytagfphlhahiplaa.C13
namespace Go.Proofs.Ytagfphlhahiplaa.C13
open Go.RowKit Go.Proofs.YtagfphlhahiplaaW.PrintWords Go.Proofs.Ytagfphlhahiplaa.PFnExactFormatCore
set_option linter.unusedVariables false
set_option linter.unusedSimpArgs false
theorem toList_inj {s t : ByteArray} (h : s.toList = t.toList) : s = t := by
  rw [ByteArray.toList_eq, ByteArray.toList_eq] at h
  cases s; cases t
  simp only [ByteArray.mk.injEq]
  exact Array.ext' h
def bigFaultB (m : Bool) (l : List Int) : Bool := if l.length > 40 then true else if l.length > 0 then decide (rd l (l.length - 1 : Int) = 0) else m
theorem spec_BigFault_eq (m : Bool) (l : List Int) (hl : l.length ≤ 9223372036854775807) : spec_BigFault.f m l = some (bigFaultB m l) := by
  unfold spec_BigFault.f bigFaultB
  by_cases h1 : l.length > 40
  · rw [if_pos (by omega), if_pos h1]
  · rw [if_neg (by omega), if_neg h1]
    by_cases h2 : l.length > 0
    · rw [if_pos (by omega), if_pos h2, wrap64_of (by omega) (by omega), if_pos (by omega), if_pos (by omega)]
      by_cases h3 : rd l (l.length - 1 : Int) = 0
      · rw [if_pos h3]; simp [h3]
      · rw [if_neg h3, if_neg (by omega)]; simp [h3]
    · rw [if_neg (by omega), if_neg h2, if_pos (by omega)]
def namesOk (l : List ByteArray) : Prop := (∀ s ∈ l, s ≠ ⟨#[]⟩) ∧ l.Nodup
noncomputable def dec (p : Prop) : Bool := @decide p (Classical.propDecidable p)
theorem dec_true {p : Prop} (h : p) : dec p = true := @decide_eq_true p (Classical.propDecidable p) h
theorem dec_false {p : Prop} (h : ¬ p) : dec p = false := @decide_eq_false p (Classical.propDecidable p) h
theorem dec_iff {p : Prop} : dec p = true ↔ p := @decide_eq_true_iff p (Classical.propDecidable p)
theorem dec_congr {p q : Prop} (h : p ↔ q) : dec p = dec q := by
  by_cases hp : p
  · rw [dec_true hp, dec_true (h.1 hp)]
  · rw [dec_false hp, dec_false (fun hq => hp (h.2 hq))]
theorem dec_not {p : Prop} : (!dec p) = dec (¬ p) := by
  by_cases hp : p
  · rw [dec_true hp, dec_false (fun h => h hp)]; rfl
  · rw [dec_false hp, dec_true hp]; rfl
theorem nodup_take_succ {l : List ByteArray} {i : Nat} (hi : i < l.length) : (l.take (i + 1)).Nodup ↔ (l.take i).Nodup ∧ ∀ j (hj : j < i), l[j] ≠ l[i] := by
  rw [List.take_succ_eq_append_getElem hi, List.nodup_append]
  constructor
  · rintro ⟨h1, _, h3⟩
    refine ⟨h1, fun j hj he => ?_⟩
    exact h3 l[j] (List.mem_take_iff_getElem.2 ⟨j, by omega, rfl⟩) l[i] (by simp) he
  · rintro ⟨h1, h2⟩
    refine ⟨h1, by simp, fun a ha b hb he => ?_⟩
    rw [List.mem_singleton] at hb
    subst hb
    obtain ⟨j, hj, rfl⟩ := List.mem_take_iff_getElem.1 ha
    exact h2 j (by omega) he
theorem nodup_take {l : List ByteArray} (h : l.Nodup) (i : Nat) : (l.take i).Nodup := List.Sublist.nodup (List.take_sublist i l) h
theorem twice_l1 (l : List ByteArray) (hl : l.length ≤ 9223372036854775806) (i : Nat) (hi : i < l.length) (r : Bool) (h0 : (∀ j (hj : j < i), l[j] ≠ l[i]) → ∃ K, ∀ k, K ≤ k → spec_l9Twice.l0 k l ((i + 1 : Nat) : Int) = some r) (h1 : (¬ ∀ j (hj : j < i), l[j] ≠ l[i]) → r = true) :
    ∀ (d j : Nat), i - j = d → (hj : j ≤ i) → (∀ q (hq : q < j), l[q]'(by omega) ≠ l[i]) → ∃ K, ∀ k, K ≤ k → spec_l9Twice.l1 k l i j = some r := by
  intro d
  induction d with
  | zero =>
    intro j hd hj hq
    have : j = i := by omega
    subst this
    obtain ⟨K, hK⟩ := h0 hq
    refine ⟨K + 1, fun k hk => ?_⟩
    obtain ⟨k, rfl⟩ : ∃ m, k = m + 1 := ⟨k - 1, by omega⟩
    simp only [spec_l9Twice.l1]
    rw [if_neg (by omega), wrap64_of (by omega) (by omega)]
    exact hK k (by omega)
  | succ d ih =>
    intro j hd hj hq
    have hji : j < i := by omega
    have e1 : rdOf ByteArray.empty l (i : Int) = l[i] := by simp [rdOf, List.getD_eq_getElem?_getD, hi]
    have e2 : rdOf ByteArray.empty l (j : Int) = l[j] := by simp [rdOf, List.getD_eq_getElem?_getD, show j < l.length by omega]
    by_cases he : l[j] = l[i]
    · refine ⟨1, fun k hk => ?_⟩
      obtain ⟨k, rfl⟩ : ∃ m, k = m + 1 := ⟨k - 1, by omega⟩
      simp only [spec_l9Twice.l1]
      rw [if_pos (by omega), if_pos (by omega), if_pos (by omega), if_pos (by omega), if_pos (by omega), e1, e2, if_pos (by rw [he]), h1 (fun h => h j hji he)]
    · obtain ⟨K, hK⟩ := ih (j + 1) (by omega) (by omega) (fun q hq' => by
        rcases Nat.lt_or_ge q j with h | h
        · exact hq q h
        · have : q = j := by omega
          subst this; exact he)
      refine ⟨K + 1, fun k hk => ?_⟩
      obtain ⟨k, rfl⟩ : ∃ m, k = m + 1 := ⟨k - 1, by omega⟩
      simp only [spec_l9Twice.l1]
      rw [if_pos (by omega), if_pos (by omega), if_pos (by omega), if_pos (by omega), if_pos (by omega), e1, e2, if_neg (fun h => he (toList_inj h).symm), wrap64_of (by omega) (by omega)]
      exact hK k (by omega)
theorem empty_toList : (⟨#[]⟩ : ByteArray).toList = [] := by rw [ByteArray.toList_eq]
theorem twice_l0 (l : List ByteArray) (hl : l.length ≤ 9223372036854775806) : ∀ (d i : Nat), l.length - i = d → i ≤ l.length → (l.take i).Nodup → ∃ K, ∀ k, K ≤ k → spec_l9Twice.l0 k l i = some (dec (¬ l.Nodup)) := by
  intro d
  induction d with
  | zero =>
    intro i hd hi hn
    rw [List.take_of_length_le (by omega)] at hn
    refine ⟨1, fun k hk => ?_⟩
    obtain ⟨k, rfl⟩ : ∃ m, k = m + 1 := ⟨k - 1, by omega⟩
    simp only [spec_l9Twice.l0]
    rw [if_neg (by omega), dec_false (fun h => h hn)]
  | succ d ih =>
    intro i hd hi hn
    have hlt : i < l.length := by omega
    obtain ⟨K, hK⟩ := twice_l1 l hl i hlt (dec (¬ l.Nodup)) (fun h => ih (i + 1) (by omega) (by omega) ((nodup_take_succ hlt).2 ⟨hn, h⟩))
      (fun h => dec_true (fun hn' => h ((nodup_take_succ hlt).1 (nodup_take hn' (i + 1))).2)) i 0 (by omega) (by omega) (fun q hq => absurd hq (by omega))
    refine ⟨K + 1, fun k hk => ?_⟩
    obtain ⟨k, rfl⟩ : ∃ m, k = m + 1 := ⟨k - 1, by omega⟩
    simp only [spec_l9Twice.l0]
    rw [if_pos (by omega)]
    exact hK k (by omega)
theorem twice_eq (l : List ByteArray) (hl : l.length ≤ 9223372036854775806) : ∃ K, ∀ k, K ≤ k → spec_l9Twice.f k l = some (dec (¬ l.Nodup)) :=
  twice_l0 l hl l.length 0 (by omega) (by omega) (by simp)
theorem names_l0 (l : List ByteArray) (hl : l.length ≤ 9223372036854775806) : ∀ (d i : Nat), l.length - i = d → i ≤ l.length → (∀ s ∈ l.take i, s ≠ ⟨#[]⟩) → ∃ K, ∀ k, K ≤ k → spec_l13Names.l0 k l i = some (dec (namesOk l)) := by
  intro d
  induction d with
  | zero =>
    intro i hd hi hn
    rw [List.take_of_length_le (by omega)] at hn
    obtain ⟨K, hK⟩ := twice_eq l hl
    refine ⟨K + 1, fun k hk => ?_⟩
    obtain ⟨k, rfl⟩ : ∃ m, k = m + 1 := ⟨k - 1, by omega⟩
    simp only [spec_l13Names.l0]
    rw [if_neg (by omega), hK k (by omega)]
    simp only [Option.bind_some, dec_not]
    congr 1
    exact dec_congr ⟨fun h => ⟨hn, Classical.not_not.1 h⟩, fun h h' => h' h.2⟩
  | succ d ih =>
    intro i hd hi hn
    have hlt : i < l.length := by omega
    have e1 : rdOf ByteArray.empty l (i : Int) = l[i] := by simp [rdOf, List.getD_eq_getElem?_getD, hlt]
    by_cases he : l[i] = ⟨#[]⟩
    · refine ⟨1, fun k hk => ?_⟩
      obtain ⟨k, rfl⟩ : ∃ m, k = m + 1 := ⟨k - 1, by omega⟩
      simp only [spec_l13Names.l0]
      rw [if_pos (by omega), if_pos (by omega), e1, if_pos (by rw [he]; exact empty_toList), dec_false (fun h => h.1 l[i] (List.getElem_mem hlt) he)]
    · obtain ⟨K, hK⟩ := ih (i + 1) (by omega) (by omega) (fun s hs => by
        rw [List.take_succ_eq_append_getElem hlt] at hs
        rcases List.mem_append.1 hs with hs | hs
        · exact hn s hs
        · rw [List.mem_singleton.1 hs]; exact he)
      refine ⟨K + 1, fun k hk => ?_⟩
      obtain ⟨k, rfl⟩ : ∃ m, k = m + 1 := ⟨k - 1, by omega⟩
      simp only [spec_l13Names.l0]
      rw [if_pos (by omega), if_pos (by omega), e1, if_neg (fun h => he (toList_inj (h.trans empty_toList.symm))), wrap64_of (by omega) (by omega)]
      exact hK k (by omega)
theorem names_eq (l : List ByteArray) (hl : l.length ≤ 9223372036854775806) : ∃ k, spec_l13Names.f k l = some (dec (namesOk l)) := by
  obtain ⟨K, hK⟩ := names_l0 l hl l.length 0 (by omega) (by omega) (by simp)
  exact ⟨K, hK K (Nat.le_refl _)⟩
def prims2 : List (List UInt8) := [[112, 114, 105, 109, 65, 100, 100], [112, 114, 105, 109, 83, 117, 98], [112, 114, 105, 109, 77, 117, 108], [112, 114, 105, 109, 68, 105, 118], [112, 114, 105, 109, 77, 111, 100], [112, 114, 105, 109, 69, 113], [112, 114, 105, 109, 76, 101, 115, 115], [112, 114, 105, 109, 83, 101, 113]]
def prims1 : List (List UInt8) := [[112, 114, 105, 109, 79, 114, 100], [112, 114, 105, 109, 67, 104, 114], [112, 114, 105, 109, 83, 104, 111, 119], [112, 114, 105, 109, 69, 114, 114, 111, 114]]
def primCount (s : ByteArray) : Int := if s.toList ∈ prims2 then 2 else if s.toList ∈ prims1 then 1 else 0
theorem primCount_range (s : ByteArray) : 0 ≤ primCount s ∧ primCount s ≤ 2 := by
  unfold primCount; split
  · omega
  · split <;> omega
theorem spec_PrimCount_eq (s : ByteArray) : spec_PrimCount.f 1 s = some (primCount s) := by
  unfold spec_PrimCount.f primCount
  simp only [spec_PrimCount.j0, prims2, prims1, List.mem_cons, List.not_mem_nil, or_false, beq_iff_eq]
  generalize s.toList = t
  rcases Classical.em (t = ([112, 114, 105, 109, 65, 100, 100] : List UInt8)) with rfl | h0
  · decide
  rcases Classical.em (t = ([112, 114, 105, 109, 83, 117, 98] : List UInt8)) with rfl | h1
  · decide
  rcases Classical.em (t = ([112, 114, 105, 109, 77, 117, 108] : List UInt8)) with rfl | h2
  · decide
  rcases Classical.em (t = ([112, 114, 105, 109, 68, 105, 118] : List UInt8)) with rfl | h3
  · decide
  rcases Classical.em (t = ([112, 114, 105, 109, 77, 111, 100] : List UInt8)) with rfl | h4
  · decide
  rcases Classical.em (t = ([112, 114, 105, 109, 69, 113] : List UInt8)) with rfl | h5
  · decide
  rcases Classical.em (t = ([112, 114, 105, 109, 76, 101, 115, 115] : List UInt8)) with rfl | h6
  · decide
  rcases Classical.em (t = ([112, 114, 105, 109, 83, 101, 113] : List UInt8)) with rfl | h7
  · decide
  rcases Classical.em (t = ([112, 114, 105, 109, 79, 114, 100] : List UInt8)) with rfl | h8
  · decide
  rcases Classical.em (t = ([112, 114, 105, 109, 67, 104, 114] : List UInt8)) with rfl | h9
  · decide
  rcases Classical.em (t = ([112, 114, 105, 109, 83, 104, 111, 119] : List UInt8)) with rfl | h10
  · decide
  rcases Classical.em (t = ([112, 114, 105, 109, 69, 114, 114, 111, 114] : List UInt8)) with rfl | h11
  · decide
  simp only [h0, h1, h2, h3, h4, h5, h6, h7, h8, h9, h10, h11, if_false, or_self]
end Go.Proofs.Ytagfphlhahiplaa.C13
