/- Part of the proof that FnExactFormatCore answers true at every term. -/
import Derived.StillTailTactics
import Derived.Test.YtagfphlhahiplaaF4
namespace Go.Proofs.Ytagfphlhahiplaa.C13
open Go.RowKit Go.Proofs.YtagfphlhahiplaaW.PrintWords Go.Proofs.Ytagfphlhahiplaa.PFnExactFormatCore
set_option linter.unusedVariables false
set_option linter.unusedSimpArgs false
/-- block g is a row of cells, not frozen -/
def Blk (w : World) (g : Nat) (e : TypeId) (cs : List Value) : Prop := w.heap[g]? = some (.cells cs.toArray e (0, 0))
/-- a slice of n elements, whose cells are these: nil, or the head of a block -/
def Row (w : World) (e : TypeId) (v : Value) (n : Nat) (cells : List Value) (F : List Nat) : Prop :=
  (v = .slice none 0 0 ∧ n = 0 ∧ cells = [] ∧ F = []) ∨
    ∃ g cap spare, v = .slice (some ⟨g, 0, none⟩) n cap ∧ n ≤ cap ∧ cap ≤ 9223372036854775807 ∧ Blk w g e (cells ++ spare) ∧ F = [g]
def encI (k : IntKind) (l : List Int) : List Value := l.map (Value.int k)
def encS (l : List ByteArray) : List Value := l.map Value.string
mutual
/-- cs: a core term's cells -/
def OwnC (e ea : TypeId) (w : World) : CoreT → List Value → List Nat → Prop
  | ⟨kind, name, minus, limbs, names, kids, alts⟩, cs, F => ∃ v3 v4 v5 v6 F3 F4 F5 F6 G5 G6 c5 c6, cs = [.int .i64 kind, .string name, .bool minus, v3, v4, v5, v6] ∧ F = F3 ++ (F4 ++ ((F5 ++ G5) ++ (F6 ++ G6))) ∧
      Row w 108 v3 limbs.length (encI .u32 limbs) F3 ∧ Row w 9 v4 names.length (encS names) F4 ∧
      (Row w e v5 kids.length c5 F5 ∧ OwnCs e ea w kids c5 G5) ∧ (Row w ea v6 alts.length c6 F6 ∧ OwnAs e ea w alts c6 G6)
def OwnCs (e ea : TypeId) (w : World) : List CoreT → List Value → List Nat → Prop
  | [], cs, F => cs = [] ∧ F = []
  | c :: r, cs, F => ∃ c1 c2 F1 F2, cs = c1 ++ c2 ∧ F = F1 ++ F2 ∧ OwnC e ea w c c1 F1 ∧ OwnCs e ea w r c2 F2
def OwnAs (e ea : TypeId) (w : World) : List AltT → List Value → List Nat → Prop
  | [], cs, F => cs = [] ∧ F = []
  | a :: r, cs, F => ∃ c1 c2 F1 F2, cs = c1 ++ c2 ∧ F = F1 ++ F2 ∧ OwnA e ea w a c1 F1 ∧ OwnAs e ea w r c2 F2
def OwnA (e ea : TypeId) (w : World) : AltT → List Value → List Nat → Prop
  | ⟨con, names, body⟩, cs, F => ∃ v1 cb F1 F2, cs = .string con :: v1 :: cb ∧ F = F1 ++ F2 ∧ Row w 9 v1 names.length (encS names) F1 ∧ OwnC e ea w body cb F2
end
theorem OwnC_eq (e ea : TypeId) (w : World) (x : CoreT) (cs : List Value) (F : List Nat) : OwnC e ea w x cs F =
    ∃ v3 v4 v5 v6 F3 F4 F5 F6 G5 G6 c5 c6, cs = [.int .i64 x.kind, .string x.name, .bool x.minus, v3, v4, v5, v6] ∧ F = F3 ++ (F4 ++ ((F5 ++ G5) ++ (F6 ++ G6))) ∧
      Row w 108 v3 x.limbs.length (encI .u32 x.limbs) F3 ∧ Row w 9 v4 x.names.length (encS x.names) F4 ∧
      (Row w e v5 x.kids.length c5 F5 ∧ OwnCs e ea w x.kids c5 G5) ∧ (Row w ea v6 x.alts.length c6 F6 ∧ OwnAs e ea w x.alts c6 G6) := by cases x; rw [OwnC]
theorem OwnA_eq (e ea : TypeId) (w : World) (a : AltT) (cs : List Value) (F : List Nat) : OwnA e ea w a cs F =
    ∃ v1 cb F1 F2, cs = .string a.con :: v1 :: cb ∧ F = F1 ++ F2 ∧ Row w 9 v1 a.names.length (encS a.names) F1 ∧ OwnC e ea w a.body cb F2 := by cases a; rw [OwnA]
theorem Blk.lt {w : World} {g e cs} (h : Blk w g e cs) : g < w.heap.size := by
  unfold Blk at h
  rcases Nat.lt_or_ge g w.heap.size with h' | h'
  · exact h'
  · simp [Array.getElem?_eq_none h'] at h
theorem Blk.cell {w : World} {g e cs} (h : Blk w g e cs) {j : Nat} {u : Value} (hu : cs[j]? = some u) : w.cell? ⟨g, j, none⟩ = some u := by
  unfold Blk at h
  simp [World.cell?, h, hu]
theorem Blk.frozen {w : World} {g e cs} (h : Blk w g e cs) (j : Nat) : w.frozen? ⟨g, j, none⟩ = false := by
  unfold Blk at h
  simp [World.frozen?, h]
theorem Blk.move {w w' : World} {g e cs} (h : Blk w g e cs) (hm : w'.heap[g]? = w.heap[g]?) : Blk w' g e cs := hm.trans h
theorem Blk.below {w w' : World} {g e cs} (h : Blk w g e cs) (hb : Below w.heap.size w w') : Blk w' g e cs := h.move (hb.block g h.lt)
theorem Row.move {w w' : World} {e v n cells F} (h : Row w e v n cells F) (hm : ∀ k ∈ F, w'.heap[k]? = w.heap[k]?) : Row w' e v n cells F := by
  rcases h with h | ⟨g, cap, spare, h1, h2, h3, h4, rfl⟩
  · exact .inl h
  · exact .inr ⟨g, cap, spare, h1, h2, h3, h4.move (hm g (by simp)), rfl⟩
theorem Row.lt {w : World} {e v n cells F} (h : Row w e v n cells F) : ∀ k ∈ F, k < w.heap.size := by
  rcases h with ⟨_, _, _, rfl⟩ | ⟨g, cap, spare, h1, h2, h3, h4, rfl⟩
  · intro k hk; cases hk
  · intro k hk; rw [List.mem_singleton.1 hk]; exact h4.lt
theorem Row.slice {w : World} {e v n cells F} (h : Row w e v n cells F) : ∃ A c, v = .slice A n c ∧ n ≤ c := by
  rcases h with ⟨rfl, rfl, _, _⟩ | ⟨g, cap, spare, h1, h2, _⟩
  · exact ⟨none, 0, rfl, Nat.le_refl _⟩
  · exact ⟨_, _, h1, h2⟩
/-- a row whose cells are those of the elements, one behind the other, is read -/
theorem Row.reads {α : Type} {R : α → List Value → Prop} {size : Nat} {w : World} {e v cells F} {xs : List α} (h : Row w e v xs.length cells F) (hr : Reps R size xs cells) :
    ∃ A c, v = .slice A xs.length c ∧ xs.length ≤ c ∧ ReadsRow R size w A xs.length xs := by
  rcases h with ⟨rfl, hn, _, _⟩ | ⟨g, cap, spare, rfl, h2, h3, h4, rfl⟩
  · rw [hn]
    exact ⟨none, 0, rfl, Nat.le_refl _, hn, by omega, fun h => absurd h (by omega)⟩
  · refine ⟨_, _, rfl, h2, rfl, by omega, fun _ => ⟨_, rfl, fun j p hj => ?_⟩⟩
    have hlt : j < xs.length := (List.getElem?_eq_some_iff.1 hj).1
    have hjs : j * size + size ≤ cells.length := by rw [hr.1, ← Nat.succ_mul]; exact Nat.mul_le_mul_right _ hlt
    refine ⟨(cells.drop (j * size)).take size, by rw [List.length_take, List.length_drop]; omega, hr.2 j p hj, fun i u hu => ?_⟩
    have hi : i < size := by
      have := (List.getElem?_eq_some_iff.1 hu).1
      rw [List.length_take] at this
      omega
    rw [List.getElem?_take_of_lt hi, List.getElem?_drop] at hu
    have : (⟨g, 0, none⟩ : Addr).add (j * size + i) = ⟨g, j * size + i, none⟩ := by simp [Addr.add]; omega
    rw [this]
    exact h4.cell (by rw [List.getElem?_append_left (by omega)]; exact hu)
theorem reps_enc {α : Type} (enc : α → Value) (xs : List α) : Reps (fun (x : α) (cs : List Value) => cs = [enc x]) 1 xs (xs.map enc) := by
  refine ⟨by simp, fun j p hj => ?_⟩
  obtain ⟨hl, hp⟩ := List.getElem?_eq_some_iff.1 hj
  rw [Nat.mul_one, List.drop_eq_getElem_cons (by simpa using hl)]
  simp [hp]
theorem Row.readsI {w : World} {e v F} {l : List Int} (h : Row w e v l.length (encI .u32 l) F) : ∃ A c, v = .slice A l.length c ∧ l.length ≤ c ∧ (Kd.int .u32).C w A l.length l :=
  h.reads (R := (Kd.int .u32).K w) (size := 1) (reps_enc _ l)
theorem Row.readsS {w : World} {e v F} {l : List ByteArray} (h : Row w e v l.length (encS l) F) : ∃ A c, v = .slice A l.length c ∧ l.length ≤ c ∧ Kd.string.C w A l.length l :=
  h.reads (R := Kd.string.K w) (size := 1) (reps_enc _ l)
section
variable {P : Program} {ops : Array Oper} {rest : List Oper} {op : Oper} {a : Act} {w : World} {Q : Exit → Act → World → Prop}
theorem wpList_store_blk (g off : Nat) (pre old post new : List Value) (e : TypeId) (hgd : op.guard = none) (ty : TypeId) (x y : Operand) (ho : op.op = .store ty x y) 
    (hx : a.eval x = .pointer (some ⟨g, off, none⟩)) (hoff : off = pre.length) (hy : (a.eval y).cells.toList = new) (hb : Blk w g e (pre ++ (old ++ post))) (hlen : old.length = new.length)
    (hi : (P.info? ty).map (·.size) = some new.length) (h1 : ∀ v ∈ new, v.oneCell' = true)
    (h : ∀ w' : World, Blk w' g e (pre ++ (new ++ post)) → w.grownBy w' (some g) → w'.heap.size = w.heap.size → wpList P ops Q rest (a.put op.dst undef) w') : wpList P ops Q (op :: rest) a w := by
  subst hoff
  unfold Blk at hb
  have hfit : pre.length + new.length ≤ (pre ++ (old ++ post)).toArray.size := by simp; omega
  have hrun := run_store_run (P := P) ty (a.eval y) new hb hy hi hfit h1
  refine wpList_plain hgd fun K hK => ?_
  unfold Oper.wp execOp
  simp only [ho, hx, Sem.run_bind, Sem.run_pure, Result.andThen_ok, hrun]
  have hs := setCells_same g new pre.length w
  refine hK _ _ (h _ ?_ ⟨hs.1, hs.2.1, hs.2.2.1, by rw [hs.2.2.2]; exact Nat.le_refl _, fun k _ hk => setCells_far new pre.length k (fun e => hk (by rw [e]))⟩ hs.2.2.2)
  obtain ⟨cur', h1', h2', h3'⟩ := setCells_row new pre.length w _ hb hfit
  unfold Blk
  rw [h1']
  have : cur' = (pre ++ (new ++ post)).toArray := by
    apply Array.ext'
    rw [h3']
    simp [List.take_append, List.drop_append, ← hlen]
  rw [this]
end
mutual
def dep : CoreT → Nat
  | ⟨_, _, _, _, _, kids, alts⟩ => 1 + max (deps kids) (adeps alts)
def deps : List CoreT → Nat
  | [] => 0
  | c :: r => max (dep c) (deps r)
def adeps : List AltT → Nat
  | [] => 0
  | a :: r => max (adep a) (adeps r)
def adep : AltT → Nat
  | ⟨_, _, b⟩ => dep b
end
theorem dep_eq (c : CoreT) : dep c = 1 + max (deps c.kids) (adeps c.alts) := by cases c; rw [dep]
theorem adep_eq (a : AltT) : adep a = dep a.body := by cases a; rw [adep]
theorem deps_mem {l : List CoreT} {x : CoreT} (h : x ∈ l) : dep x ≤ deps l := by
  induction l with
  | nil => cases h
  | cons c r ih =>
    rw [deps]
    rcases List.mem_cons.1 h with rfl | h
    · exact Nat.le_max_left _ _
    · exact Nat.le_trans (ih h) (Nat.le_max_right _ _)
theorem adeps_mem {l : List AltT} {x : AltT} (h : x ∈ l) : dep x.body ≤ adeps l := by
  induction l with
  | nil => cases h
  | cons c r ih =>
    rw [adeps]
    rcases List.mem_cons.1 h with rfl | h
    · rw [adep_eq]; exact Nat.le_max_left _ _
    · exact Nat.le_trans (ih h) (Nat.le_max_right _ _)
section
variable {e ea : TypeId}
theorem ownCs_reps {w : World} {R : CoreT → List Value → Prop} : ∀ (l : List CoreT) (cs : List Value) (F : List Nat), (∀ x ∈ l, ∀ c F, OwnC e ea w x c F → R x c ∧ c.length = 7) → OwnCs e ea w l cs F → Reps R 7 l cs
  | [], cs, F, _, h => by rw [OwnCs] at h; rw [h.1]; exact Reps.none _ _
  | c :: r, cs, F, hx, h => by
    rw [OwnCs] at h
    obtain ⟨c1, c2, F1, F2, rfl, rfl, h1, h2⟩ := h
    have := hx c (by simp) c1 F1 h1
    have ih := ownCs_reps r c2 F2 (fun x hm => hx x (by simp [hm])) h2
    exact Kd.reps_append (Reps.snoc (Reps.none _ _) this.1 this.2) ih
theorem ownAs_reps {w : World} {R : AltT → List Value → Prop} : ∀ (l : List AltT) (cs : List Value) (F : List Nat), (∀ x ∈ l, ∀ c F, OwnA e ea w x c F → R x c ∧ c.length = 9) → OwnAs e ea w l cs F → Reps R 9 l cs
  | [], cs, F, _, h => by rw [OwnAs] at h; rw [h.1]; exact Reps.none _ _
  | c :: r, cs, F, hx, h => by
    rw [OwnAs] at h
    obtain ⟨c1, c2, F1, F2, rfl, rfl, h1, h2⟩ := h
    have := hx c (by simp) c1 F1 h1
    have ih := ownAs_reps r c2 F2 (fun x hm => hx x (by simp [hm])) h2
    exact Kd.reps_append (Reps.snoc (Reps.none _ _) this.1 this.2) ih
theorem own_len {w : World} {x : CoreT} {cs F} (h : OwnC e ea w x cs F) : cs.length = 7 := by
  rw [OwnC_eq] at h
  obtain ⟨v3, v4, v5, v6, F3, F4, F5, F6, G5, G6, c5, c6, rfl, _⟩ := h
  rfl
theorem ownA_len {w : World} {x : AltT} {cs F} (h : OwnA e ea w x cs F) : cs.length = 9 := by
  rw [OwnA_eq] at h
  obtain ⟨v1, cb, F1, F2, rfl, rfl, _, hb⟩ := h
  simp [own_len hb]
theorem own_upto (w : World) : ∀ (x : CoreT) (n : Nat), dep x ≤ n → ∀ cs F, OwnC e ea w x cs F → (Kd.upto (fCore e ea) 7 (eCore e ea) n).K w x cs := by
  refine coreInd _ (fun x hk ha => ?_)
  intro n hn cs F h
  rw [dep_eq] at hn
  obtain ⟨n, rfl⟩ : ∃ m, n = m + 1 := ⟨n - 1, by omega⟩
  rw [OwnC_eq] at h
  obtain ⟨v3, v4, v5, v6, F3, F4, F5, F6, G5, G6, c5, c6, rfl, rfl, h3, h4, ⟨h5, k5⟩, ⟨h6, k6⟩⟩ := h
  obtain ⟨A3, d3, rfl, l3, g3⟩ := h3.readsI
  obtain ⟨A4, d4, rfl, l4, g4⟩ := h4.readsS
  obtain ⟨A5, d5, rfl, l5, g5⟩ := h5.reads (ownCs_reps (R := (Kd.upto (fCore e ea) 7 (eCore e ea) n).K w) _ _ _ (fun y hy c F hc => ⟨hk y hy n (by have := deps_mem hy; omega) c F hc, own_len hc⟩) k5)
  have hA : ∀ a ∈ x.alts, ∀ c F, OwnA e ea w a c F → (kAlt (Kd.upto (fCore e ea) 7 (eCore e ea) n)).K w a c ∧ c.length = 9 := by
    intro a hm c F hc
    refine ⟨?_, ownA_len hc⟩
    rw [OwnA_eq] at hc
    obtain ⟨v1, cb, F1, F2, rfl, rfl, h1, hb⟩ := hc
    obtain ⟨A1, d1, rfl, l1, g1⟩ := h1.readsS
    exact ⟨[_], _, rfl, rfl, ⟨[_], _, rfl, ⟨A1, d1, rfl, l1, g1⟩, ha a hm n (by have := adeps_mem hm; omega) cb F2 hb⟩⟩
  obtain ⟨A6, d6, rfl, l6, g6⟩ := h6.reads (ownAs_reps (R := (kAlt (Kd.upto (fCore e ea) 7 (eCore e ea) n)).K w) _ _ _ hA k6)
  have g5' : (Kd.upto (fCore e ea) 7 (eCore e ea) n).C w A5 x.kids.length x.kids := by
    unfold Kd.C; rw [sz_core e ea n]; exact g5
  have g6' : (kAlt (Kd.upto (fCore e ea) 7 (eCore e ea) n)).C w A6 x.alts.length x.alts := by
    unfold Kd.C; rw [show (kAlt (Kd.upto (fCore e ea) 7 (eCore e ea) n)).sz = 9 from mono_kAlt.sz _ (kCore e ea) (sz_core e ea n)]; exact g6
  exact ⟨[_], _, rfl, rfl, ⟨[_], _, rfl, rfl, ⟨[_], _, rfl, rfl, ⟨[_], _, rfl, ⟨A3, d3, rfl, l3, g3⟩, ⟨[_], _, rfl, ⟨A4, d4, rfl, l4, g4⟩, ⟨[_], _, rfl, ⟨A5, d5, rfl, l5, g5'⟩, ⟨A6, d6, rfl, l6, g6'⟩⟩⟩⟩⟩⟩⟩
theorem own_K {w : World} {x : CoreT} {cs F} (h : OwnC e ea w x cs F) : (kCore e ea).K w x cs := ⟨dep x, own_upto w x _ (Nat.le_refl _) cs F h⟩
theorem ownCs_move {w w' : World} : ∀ (l : List CoreT) (cs : List Value) (F : List Nat), (∀ x ∈ l, ∀ c F, OwnC e ea w x c F → (∀ k ∈ F, w'.heap[k]? = w.heap[k]?) → OwnC e ea w' x c F) → OwnCs e ea w l cs F → (∀ k ∈ F, w'.heap[k]? = w.heap[k]?) → OwnCs e ea w' l cs F
  | [], cs, F, _, h, _ => by rw [OwnCs] at h ⊢; exact h
  | c :: r, cs, F, hx, h, hm => by
    rw [OwnCs] at h ⊢
    obtain ⟨c1, c2, F1, F2, rfl, rfl, h1, h2⟩ := h
    exact ⟨c1, c2, F1, F2, rfl, rfl, hx c (by simp) c1 F1 h1 (fun k hk => hm k (by simp [hk])), ownCs_move r c2 F2 (fun x hq => hx x (by simp [hq])) h2 (fun k hk => hm k (by simp [hk]))⟩
theorem ownAs_move {w w' : World} : ∀ (l : List AltT) (cs : List Value) (F : List Nat), (∀ x ∈ l, ∀ c F, OwnA e ea w x c F → (∀ k ∈ F, w'.heap[k]? = w.heap[k]?) → OwnA e ea w' x c F) → OwnAs e ea w l cs F → (∀ k ∈ F, w'.heap[k]? = w.heap[k]?) → OwnAs e ea w' l cs F
  | [], cs, F, _, h, _ => by rw [OwnAs] at h ⊢; exact h
  | c :: r, cs, F, hx, h, hm => by
    rw [OwnAs] at h ⊢
    obtain ⟨c1, c2, F1, F2, rfl, rfl, h1, h2⟩ := h
    exact ⟨c1, c2, F1, F2, rfl, rfl, hx c (by simp) c1 F1 h1 (fun k hk => hm k (by simp [hk])), ownAs_move r c2 F2 (fun x hq => hx x (by simp [hq])) h2 (fun k hk => hm k (by simp [hk]))⟩
theorem own_move {w w' : World} : ∀ (x : CoreT) cs F, OwnC e ea w x cs F → (∀ k ∈ F, w'.heap[k]? = w.heap[k]?) → OwnC e ea w' x cs F := by
  refine coreInd _ (fun x hk ha => ?_)
  intro cs F h hm
  rw [OwnC_eq] at h ⊢
  obtain ⟨v3, v4, v5, v6, F3, F4, F5, F6, G5, G6, c5, c6, rfl, rfl, h3, h4, ⟨h5, k5⟩, ⟨h6, k6⟩⟩ := h
  refine ⟨v3, v4, v5, v6, F3, F4, F5, F6, G5, G6, c5, c6, rfl, rfl, h3.move (fun k hk => hm k (by simp [hk])), h4.move (fun k hk => hm k (by simp [hk])), ⟨h5.move (fun k hk => hm k (by simp [hk])), ownCs_move _ _ _ hk k5 (fun k hk => hm k (by simp [hk]))⟩, ⟨h6.move (fun k hk => hm k (by simp [hk])), ownAs_move _ _ _ ?_ k6 (fun k hk => hm k (by simp [hk]))⟩⟩
  intro a hq c F hc hmm
  rw [OwnA_eq] at hc ⊢
  obtain ⟨v1, cb, F1, F2, rfl, rfl, h1, hb⟩ := hc
  exact ⟨v1, cb, F1, F2, rfl, rfl, h1.move (fun k hk => hmm k (by simp [hk])), ha a hq cb F2 hb (fun k hk => hmm k (by simp [hk]))⟩
theorem ownA_move {w w' : World} (x : AltT) (cs F) (h : OwnA e ea w x cs F) (hm : ∀ k ∈ F, w'.heap[k]? = w.heap[k]?) : OwnA e ea w' x cs F := by
  rw [OwnA_eq] at h ⊢
  obtain ⟨v1, cb, F1, F2, rfl, rfl, h1, hb⟩ := h
  exact ⟨v1, cb, F1, F2, rfl, rfl, h1.move (fun k hk => hm k (by simp [hk])), own_move _ _ _ hb (fun k hk => hm k (by simp [hk]))⟩
theorem ownCs_move' {w w' : World} {l cs F} (h : OwnCs e ea w l cs F) (hm : ∀ k ∈ F, w'.heap[k]? = w.heap[k]?) : OwnCs e ea w' l cs F := ownCs_move l cs F (fun x _ => own_move x) h hm
theorem ownAs_move' {w w' : World} {l cs F} (h : OwnAs e ea w l cs F) (hm : ∀ k ∈ F, w'.heap[k]? = w.heap[k]?) : OwnAs e ea w' l cs F := ownAs_move l cs F (fun x _ => ownA_move x) h hm
theorem ownCs_lt {w : World} : ∀ (l : List CoreT) (cs : List Value) (F : List Nat), (∀ x ∈ l, ∀ c F, OwnC e ea w x c F → ∀ k ∈ F, k < w.heap.size) → OwnCs e ea w l cs F → ∀ k ∈ F, k < w.heap.size
  | [], cs, F, _, h => by rw [OwnCs] at h; rw [h.2]; intro k hk; cases hk
  | c :: r, cs, F, hx, h => by
    rw [OwnCs] at h
    obtain ⟨c1, c2, F1, F2, rfl, rfl, h1, h2⟩ := h
    intro k hk
    rcases List.mem_append.1 hk with hk | hk
    · exact hx c (by simp) c1 F1 h1 k hk
    · exact ownCs_lt r c2 F2 (fun x hq => hx x (by simp [hq])) h2 k hk
theorem ownAs_lt {w : World} : ∀ (l : List AltT) (cs : List Value) (F : List Nat), (∀ x ∈ l, ∀ c F, OwnA e ea w x c F → ∀ k ∈ F, k < w.heap.size) → OwnAs e ea w l cs F → ∀ k ∈ F, k < w.heap.size
  | [], cs, F, _, h => by rw [OwnAs] at h; rw [h.2]; intro k hk; cases hk
  | c :: r, cs, F, hx, h => by
    rw [OwnAs] at h
    obtain ⟨c1, c2, F1, F2, rfl, rfl, h1, h2⟩ := h
    intro k hk
    rcases List.mem_append.1 hk with hk | hk
    · exact hx c (by simp) c1 F1 h1 k hk
    · exact ownAs_lt r c2 F2 (fun x hq => hx x (by simp [hq])) h2 k hk
theorem own_lt {w : World} : ∀ (x : CoreT) cs F, OwnC e ea w x cs F → ∀ k ∈ F, k < w.heap.size := by
  refine coreInd _ (fun x hk ha => ?_)
  intro cs F h k hm
  rw [OwnC_eq] at h
  obtain ⟨v3, v4, v5, v6, F3, F4, F5, F6, G5, G6, c5, c6, rfl, rfl, h3, h4, ⟨h5, k5⟩, ⟨h6, k6⟩⟩ := h
  simp only [List.mem_append] at hm
  rcases hm with hm | hm | (hm | hm) | (hm | hm)
  · exact h3.lt k hm
  · exact h4.lt k hm
  · exact h5.lt k hm
  · exact ownCs_lt _ _ _ hk k5 k hm
  · exact h6.lt k hm
  · refine ownAs_lt _ _ _ ?_ k6 k hm
    intro a hq c F hc k hm
    rw [OwnA_eq] at hc
    obtain ⟨v1, cb, F1, F2, rfl, rfl, h1, hb⟩ := hc
    rcases List.mem_append.1 hm with hm | hm
    · exact h1.lt k hm
    · exact ha a hq cb F2 hb k hm
theorem ownA_lt {w : World} (x : AltT) (cs F) (h : OwnA e ea w x cs F) : ∀ k ∈ F, k < w.heap.size := by
  rw [OwnA_eq] at h
  obtain ⟨v1, cb, F1, F2, rfl, rfl, h1, hb⟩ := h
  intro k hm
  rcases List.mem_append.1 hm with hm | hm
  · exact h1.lt k hm
  · exact own_lt _ _ _ hb k hm
theorem ownCs_lt' {w : World} {l cs F} (h : OwnCs e ea w l cs F) : ∀ k ∈ F, k < w.heap.size := ownCs_lt l cs F (fun x _ => own_lt x) h
theorem ownAs_lt' {w : World} {l cs F} (h : OwnAs e ea w l cs F) : ∀ k ∈ F, k < w.heap.size := ownAs_lt l cs F (fun x _ => ownA_lt x) h
theorem ownCs_snoc {w : World} : ∀ (l : List CoreT) (cs : List Value) (F : List Nat) (x : CoreT) c G, OwnCs e ea w l cs F → OwnC e ea w x c G → OwnCs e ea w (l ++ [x]) (cs ++ c) (F ++ G)
  | [], cs, F, x, c, G, h, hx => by
    rw [OwnCs] at h
    obtain ⟨rfl, rfl⟩ := h
    rw [List.nil_append, OwnCs]
    exact ⟨c, [], G, [], by simp, by simp, hx, by rw [OwnCs]; exact ⟨rfl, rfl⟩⟩
  | y :: r, cs, F, x, c, G, h, hx => by
    rw [OwnCs] at h
    obtain ⟨c1, c2, F1, F2, rfl, rfl, h1, h2⟩ := h
    rw [List.cons_append, OwnCs]
    exact ⟨c1, c2 ++ c, F1, F2 ++ G, by simp, by simp, h1, ownCs_snoc r c2 F2 x c G h2 hx⟩
theorem ownAs_snoc {w : World} : ∀ (l : List AltT) (cs : List Value) (F : List Nat) (x : AltT) c G, OwnAs e ea w l cs F → OwnA e ea w x c G → OwnAs e ea w (l ++ [x]) (cs ++ c) (F ++ G)
  | [], cs, F, x, c, G, h, hx => by
    rw [OwnAs] at h
    obtain ⟨rfl, rfl⟩ := h
    rw [List.nil_append, OwnAs]
    exact ⟨c, [], G, [], by simp, by simp, hx, by rw [OwnAs]; exact ⟨rfl, rfl⟩⟩
  | y :: r, cs, F, x, c, G, h, hx => by
    rw [OwnAs] at h
    obtain ⟨c1, c2, F1, F2, rfl, rfl, h1, h2⟩ := h
    rw [List.cons_append, OwnAs]
    exact ⟨c1, c2 ++ c, F1, F2 ++ G, by simp, by simp, h1, ownAs_snoc r c2 F2 x c G h2 hx⟩
end
end Go.Proofs.Ytagfphlhahiplaa.C13
namespace Go.Proofs.Ytagfphlhahiplaa.C13
open Go.RowKit Go.Proofs.YtagfphlhahiplaaW.PrintWords Go.Proofs.Ytagfphlhahiplaa.PFnExactFormatCore
set_option linter.unusedVariables false
set_option linter.unusedSimpArgs false
theorem row_of_own {w : World} {base : Nat} {e : TypeId} {v : Value} {n : Nat} {xs : List Value} (h : w.ownsRow base e 1 v n xs) : ∃ F, Row w e v n xs F ∧ F.Nodup ∧ ∀ k ∈ F, base ≤ k := by
  obtain ⟨hl, h⟩ := h
  rcases h with ⟨rfl, rfl⟩ | ⟨g, cap, cur, rfl, hg, hb, hn, hc, hs, rfl⟩
  · exact ⟨[], .inl ⟨rfl, rfl, List.eq_nil_of_length_eq_zero (by omega), rfl⟩, List.nodup_nil, fun k hk => by cases hk⟩
  · refine ⟨[g], .inr ⟨g, cap, cur.toList.drop (n * 1), rfl, hn, by simpa [maxLen] using hc, ?_, rfl⟩, by simp, fun k hk => by rw [List.mem_singleton.1 hk]; exact hg⟩
    unfold Blk
    rw [List.take_append_drop]
    exact hb
theorem own_nums {w : World} {base : Nat} {ok : Nat → Prop} {e : Nat} {k : IntKind} {v : Value} {xs : List Int} (h : (Kd.int k).R e w base ok v xs) : w.ownsRow base e 1 v xs.length (encI k xs) := Kd.own_of_R h
theorem own_strs {w : World} {base : Nat} {ok : Nat → Prop} {e : Nat} {v : Value} {xs : List ByteArray} (h : Kd.string.R e w base ok v xs) : w.ownsRow base e 1 v xs.length (encS xs) := Kd.own_of_R h
theorem set_take {α : Type} (l acc : List α) (i : Nat) (hi : i < l.length) (hl : acc.length = l.length) (h : acc.take i = l.take i) : (acc.set i l[i]).take (i + 1) = l.take (i + 1) := by
  rw [List.take_succ_eq_append_getElem (by simp; omega), List.take_succ_eq_append_getElem hi, List.take_set, List.set_eq_of_length_le (by rw [List.length_take]; omega), h]
  simp
theorem toUint32S_l0 (l : List Int) (hl : l.length ≤ 9223372036854775807) : ∀ (d k i : Nat) (acc : List Int), l.length - i = d → i ≤ l.length → d < k → acc.length = l.length → acc.take i = l.take i → laws_toUint32S.l0 k l acc i = some l := by
  intro d
  induction d with
  | zero =>
    intro k i acc hd hi hk hal hac
    obtain ⟨k, rfl⟩ : ∃ m, k = m + 1 := ⟨k - 1, by omega⟩
    simp only [laws_toUint32S.l0]
    rw [if_neg (by omega)]
    rw [List.take_of_length_le (by omega), List.take_of_length_le (by omega)] at hac
    rw [hac]
  | succ d ih =>
    intro k i acc hd hi hk hal hac
    obtain ⟨k, rfl⟩ : ∃ m, k = m + 1 := ⟨k - 1, by omega⟩
    have hlt : i < l.length := by omega
    have he : rd l (i : Int) = l[i] := by simp [rd, List.getD_eq_getElem?_getD, hlt]
    simp only [laws_toUint32S.l0]
    rw [if_pos (by omega), if_pos (by omega), if_pos (by omega), wrap64_of (by omega) (by omega), he]
    simp only [Int.toNat_natCast]
    exact ih k (i + 1) _ (by omega) (by omega) (by omega) (by simpa using hal) (set_take l acc i hlt hal hac)
theorem toUint32S_eq (l : List Int) (hl : l.length ≤ 1048576) : ∃ k, laws_toUint32S.f k l = some l := by
  refine ⟨l.length + 1, ?_⟩
  unfold laws_toUint32S.f
  rw [if_pos (by omega), if_pos (by omega)]
  exact toUint32S_l0 l (by omega) l.length (l.length + 1) 0 _ (by omega) (by omega) (by omega) (by simp) (by simp)
theorem toBig_eq (m : Bool) (l : List Int) (hl : l.length ≤ 1048576) : ∃ k, laws_toBig.f k m l = some (m, l) := by
  obtain ⟨k, hk⟩ := toUint32S_eq l hl
  exact ⟨k, by unfold laws_toBig.f; rw [hk]; rfl⟩
theorem toStringS_l0 (l : List ByteArray) (hl : l.length ≤ 9223372036854775807) : ∀ (d k i : Nat) (acc : List ByteArray), l.length - i = d → i ≤ l.length → d < k → acc.length = l.length → acc.take i = l.take i → laws_toStringS.l0 k l acc i = some l := by
  intro d
  induction d with
  | zero =>
    intro k i acc hd hi hk hal hac
    obtain ⟨k, rfl⟩ : ∃ m, k = m + 1 := ⟨k - 1, by omega⟩
    simp only [laws_toStringS.l0]
    rw [if_neg (by omega)]
    rw [List.take_of_length_le (by omega), List.take_of_length_le (by omega)] at hac
    rw [hac]
  | succ d ih =>
    intro k i acc hd hi hk hal hac
    obtain ⟨k, rfl⟩ : ∃ m, k = m + 1 := ⟨k - 1, by omega⟩
    have hlt : i < l.length := by omega
    have he : rdOf ByteArray.empty l (i : Int) = l[i] := by simp [rdOf, List.getD_eq_getElem?_getD, hlt]
    simp only [laws_toStringS.l0]
    rw [if_pos (by omega), if_pos (by omega), if_pos (by omega), wrap64_of (by omega) (by omega), he]
    simp only [Int.toNat_natCast]
    exact ih k (i + 1) _ (by omega) (by omega) (by omega) (by simpa using hal) (set_take l acc i hlt hal hac)
theorem toStringS_eq (l : List ByteArray) (hl : l.length ≤ 1048576) : ∃ k, laws_toStringS.f k l = some l := by
  refine ⟨l.length + 1, ?_⟩
  unfold laws_toStringS.f
  rw [if_pos (by omega), if_pos (by omega)]
  exact toStringS_l0 l (by omega) l.length (l.length + 1) 0 _ (by omega) (by omega) (by omega) (by simp) (by simp)
/-- a core term of one's own is handed back -/
def ToPost (e ea : TypeId) (x : CoreT) (w : World) (en : Ending) (w' : World) : Prop :=
  ∃ cs F, en = .returned (.agg cs.toArray) ∧ OwnC e ea w' x cs F ∧ F.Nodup ∧ (∀ k ∈ F, w.heap.size ≤ k) ∧ Below w.heap.size w w'
def ToPostA (e ea : TypeId) (x : AltT) (w : World) (en : Ending) (w' : World) : Prop :=
  ∃ cs F, en = .returned (.agg cs.toArray) ∧ OwnA e ea w' x cs F ∧ F.Nodup ∧ (∀ k ∈ F, w.heap.size ≤ k) ∧ Below w.heap.size w w'
def ToPostS (e ea : TypeId) (xs : List CoreT) (w : World) (en : Ending) (w' : World) : Prop :=
  ∃ v cs F G, en = .returned v ∧ Row w' e v xs.length cs F ∧ OwnCs e ea w' xs cs G ∧ (F ++ G).Nodup ∧ (∀ k ∈ F ++ G, w.heap.size ≤ k) ∧ Below w.heap.size w w'
def ToPostAS (e ea : TypeId) (xs : List AltT) (w : World) (en : Ending) (w' : World) : Prop :=
  ∃ v cs F G, en = .returned v ∧ Row w' ea v xs.length cs F ∧ OwnAs e ea w' xs cs G ∧ (F ++ G).Nodup ∧ (∀ k ∈ F ++ G, w.heap.size ≤ k) ∧ Below w.heap.size w w'
def ToSaid (x : CoreT) : Prop := bulk x ≤ 1048576 → ∀ (w : World) (cs : List Value), LC.K w x cs →
  Calls Try.prog 7 #[.agg cs.toArray] w (ToPost 36 80 x w)
def ToASaid (x : AltT) : Prop := abulk x ≤ 1048576 → ∀ (w : World) (cs : List Value), LA.K w x cs →
  Calls Try.prog 50 #[.agg cs.toArray] w (ToPostA 36 80 x w)
theorem infoC : (Try.prog.info? 36).map (fun i => (i.zero, i.size, i.bytes)) = some (some (.agg #[.int .i64 0, .string ⟨#[]⟩, .bool false, .slice none 0 0, .slice none 0 0, .slice none 0 0, .slice none 0 0]), 7, 128) := by kernel_rfl
theorem infoA : (Try.prog.info? 80).map (fun i => (i.zero, i.size, i.bytes)) = some (some (.agg #[.string ⟨#[]⟩, .slice none 0 0, .int .i64 0, .string ⟨#[]⟩, .bool false, .slice none 0 0, .slice none 0 0, .slice none 0 0, .slice none 0 0]), 9, 168) := by kernel_rfl
theorem mem_bulks {l : List CoreT} {x : CoreT} (h : x ∈ l) : bulk x ≤ bulks l := by
  induction l with
  | nil => cases h
  | cons c r ih =>
    rw [bulks]
    rcases List.mem_cons.1 h with rfl | h
    · omega
    · have := ih h; omega
theorem len_bulks (l : List CoreT) : l.length ≤ bulks l := by rw [bulks_eq]; omega
theorem mem_abulks {l : List AltT} {x : AltT} (h : x ∈ l) : abulk x ≤ abulks l := by
  induction l with
  | nil => cases h
  | cons c r ih =>
    rw [abulks]
    rcases List.mem_cons.1 h with rfl | h
    · omega
    · have := ih h; omega
theorem len_abulks (l : List AltT) : l.length ≤ abulks l := by rw [abulks_eq]; omega
theorem own_open {e ea : TypeId} {w : World} {x : CoreT} {cs F} (h : OwnC e ea w x cs F) : ∃ A3 c3 A4 c4 A5 c5 A6 c6, cs = cellsC x A3 c3 A4 c4 A5 c5 A6 c6 := by
  obtain ⟨A3, c3, A4, c4, A5, c5, A6, c6, h, _⟩ := core_open (own_K h)
  exact ⟨A3, c3, A4, c4, A5, c5, A6, c6, h⟩
/-- what has been made of a row: k elements are there, behind them lie old cells -/
def Part (e ea : TypeId) (sz n k : Nat) (g : Nat) (w w' : World) (O : List Value → List Nat → Prop) : Prop :=
  ∃ done rest G, Blk w' g e (done ++ rest) ∧ done.length = k * sz ∧ rest.length = (n - k) * sz ∧ O done G ∧ G.Nodup ∧ (∀ b ∈ G, g < b) ∧ Below w.heap.size w w'
theorem part_step {e ea : TypeId} {xs : List CoreT} {k : Nat} {w wr w2 w3 : World} (hk : k < xs.length) {done rest cs : List Value} {G F : List Nat} (hB : Below w.heap.size w wr)
    (hgl : w.heap.size < wr.heap.size) (hX : done.length = k * 7 ∧ rest.length = (xs.length - k) * 7 ∧ OwnCs e ea wr (xs.take k) done G ∧ G.Nodup ∧ ∀ b ∈ G, w.heap.size < b)
    (hO : OwnC e ea w2 xs[k] cs F) (hN : F.Nodup) (hF : ∀ b ∈ F, wr.heap.size ≤ b) (hB2 : Below wr.heap.size wr w2)
    (hblk : Blk w3 w.heap.size e (done ++ (cs ++ rest.drop 7))) (hg : w2.grownBy w3 (some w.heap.size)) : Part e ea 7 xs.length (k + 1) w.heap.size w w3 (OwnCs e ea w3 (xs.take (k + 1))) := by
  obtain ⟨h1, h2, h3, h4, h5⟩ := hX
  have hGlt := ownCs_lt' h3
  have hFlt := own_lt _ _ _ hO
  refine ⟨done ++ cs, rest.drop 7, G ++ F, by rw [List.append_assoc]; exact hblk, by rw [List.length_append, h1, own_len hO]; omega, by rw [List.length_drop, h2]; omega, ?_, ?_, ?_, ?_⟩
  · rw [List.take_succ_eq_append_getElem hk]
    refine ownCs_snoc _ _ _ _ _ _ (ownCs_move' h3 (fun b hb => ?_)) (own_move _ _ _ hO (fun b hb => ?_))
    · rw [hg.block b (Nat.lt_of_lt_of_le (hGlt b hb) hB2.size) (by have := h5 b hb; intro he; injection he with he; omega), hB2.block b (hGlt b hb)]
    · exact hg.block b (hFlt b hb) (by have := hF b hb; intro he; injection he with he; omega)
  · rw [List.nodup_append]
    exact ⟨h4, hN, fun a ha b hb he => by have := hGlt a ha; have := hF b hb; omega⟩
  · intro b hb
    rcases List.mem_append.1 hb with hb | hb
    · exact h5 b hb
    · have := hF b hb; omega
  · exact Below.grown (hB.trans (hB2.mono hB.size)) hg (by have := hB.size; have := hB2.size; omega) (fun k hk => by injection hk with hk; omega)
theorem part_stepA {e ea : TypeId} {xs : List AltT} {k : Nat} {w wr w2 w3 : World} (hk : k < xs.length) {done rest cs : List Value} {G F : List Nat} (hB : Below w.heap.size w wr)
    (hgl : w.heap.size < wr.heap.size) (hX : done.length = k * 9 ∧ rest.length = (xs.length - k) * 9 ∧ OwnAs e ea wr (xs.take k) done G ∧ G.Nodup ∧ ∀ b ∈ G, w.heap.size < b)
    (hO : OwnA e ea w2 xs[k] cs F) (hN : F.Nodup) (hF : ∀ b ∈ F, wr.heap.size ≤ b) (hB2 : Below wr.heap.size wr w2)
    (hblk : Blk w3 w.heap.size ea (done ++ (cs ++ rest.drop 9))) (hg : w2.grownBy w3 (some w.heap.size)) : Part ea ea 9 xs.length (k + 1) w.heap.size w w3 (OwnAs e ea w3 (xs.take (k + 1))) := by
  obtain ⟨h1, h2, h3, h4, h5⟩ := hX
  have hGlt := ownAs_lt' h3
  have hFlt := ownA_lt _ _ _ hO
  refine ⟨done ++ cs, rest.drop 9, G ++ F, by rw [List.append_assoc]; exact hblk, by rw [List.length_append, h1, ownA_len hO]; omega, by rw [List.length_drop, h2]; omega, ?_, ?_, ?_, ?_⟩
  · rw [List.take_succ_eq_append_getElem hk]
    refine ownAs_snoc _ _ _ _ _ _ (ownAs_move' h3 (fun b hb => ?_)) (ownA_move _ _ _ hO (fun b hb => ?_))
    · rw [hg.block b (Nat.lt_of_lt_of_le (hGlt b hb) hB2.size) (by have := h5 b hb; intro he; injection he with he; omega), hB2.block b (hGlt b hb)]
    · exact hg.block b (hFlt b hb) (by have := hF b hb; intro he; injection he with he; omega)
  · rw [List.nodup_append]
    exact ⟨h4, hN, fun a ha b hb he => by have := hGlt a ha; have := hF b hb; omega⟩
  · intro b hb
    rcases List.mem_append.1 hb with hb | hb
    · exact h5 b hb
    · have := hF b hb; omega
  · exact Below.grown (hB.trans (hB2.mono hB.size)) hg (by have := hB.size; have := hB2.size; omega) (fun k hk => by injection hk with hk; omega)
theorem part_end {e ea : TypeId} {xs : List CoreT} {w wr : World} (h : Part e ea 7 xs.length xs.length w.heap.size w wr (OwnCs e ea wr (xs.take xs.length))) (hl : xs.length ≤ 9223372036854775807) :
    ToPostS e ea xs w (.returned (.slice (some ⟨w.heap.size, 0, none⟩) xs.length xs.length)) wr := by
  obtain ⟨done, rest, G, hb, h1, h2, h3, h4, h5, h6⟩ := h
  rw [List.take_length] at h3
  refine ⟨_, done, [w.heap.size], G, rfl, .inr ⟨_, _, rest, rfl, Nat.le_refl _, hl, hb, rfl⟩, h3, ?_, ?_, h6⟩
  · rw [List.singleton_append, List.nodup_cons]
    exact ⟨fun hm => by have := h5 _ hm; omega, h4⟩
  · intro k hk
    rcases List.mem_cons.1 hk with rfl | hk
    · exact Nat.le_refl _
    · have := h5 k hk; omega
theorem part_endA {e ea : TypeId} {xs : List AltT} {w wr : World} (h : Part ea ea 9 xs.length xs.length w.heap.size w wr (OwnAs e ea wr (xs.take xs.length))) (hl : xs.length ≤ 9223372036854775807) :
    ToPostAS e ea xs w (.returned (.slice (some ⟨w.heap.size, 0, none⟩) xs.length xs.length)) wr := by
  obtain ⟨done, rest, G, hb, h1, h2, h3, h4, h5, h6⟩ := h
  rw [List.take_length] at h3
  refine ⟨_, done, [w.heap.size], G, rfl, .inr ⟨_, _, rest, rfl, Nat.le_refl _, hl, hb, rfl⟩, h3, ?_, ?_, h6⟩
  · rw [List.singleton_append, List.nodup_cons]
    exact ⟨fun hm => by have := h5 _ hm; omega, h4⟩
  · intro k hk
    rcases List.mem_cons.1 hk with rfl | hk
    · exact Nat.le_refl _
    · have := h5 k hk; omega
theorem blk_made (w : World) (e : TypeId) (cs : Array Value) : Blk (w.alloc (.cells cs e)) w.heap.size e ([] ++ cs.toList) := by
  unfold Blk
  show (w.heap.push _)[w.heap.size]? = _
  simp
theorem part_lt {e ea : TypeId} {sz n k g : Nat} {w w' : World} {O : List Value → List Nat → Prop} (h : Part e ea sz n k g w w' O) : g < w'.heap.size := by
  obtain ⟨_, _, _, hb, _⟩ := h
  exact hb.lt
theorem ownA_open {e ea : TypeId} {w : World} {x : AltT} {cs F} (h : OwnA e ea w x cs F) : ∃ A1 c1 A3 c3 A4 c4 A5 c5 A6 c6, cs = cellsA x A1 c1 A3 c3 A4 c4 A5 c5 A6 c6 := by
  rw [OwnA_eq] at h
  obtain ⟨v1, cb, F1, F2, rfl, rfl, h1, hb⟩ := h
  obtain ⟨A1, c1, rfl, _⟩ := h1.slice
  obtain ⟨A3, c3, A4, c4, A5, c5, A6, c6, rfl⟩ := own_open hb
  exact ⟨A1, c1, A3, c3, A4, c4, A5, c5, A6, c6, rfl⟩
theorem len_strsB (l : List ByteArray) : l.length ≤ strsB l := by rw [strsB_eq]; omega
set_option maxHeartbeats 400000 in
theorem toCoreS_any (xs : List CoreT) (hbk : bulks xs ≤ 1048576) (ih : ∀ x ∈ xs, ToSaid x) (A : Option Addr) (c : Nat) (w : World) (hr : LC.C w A xs.length xs) (hc : xs.length ≤ c) :
    Calls Try.prog 22 #[.slice A xs.length c] w (ToPostS 36 80 xs w) := by
  have hl := len_bulks xs
  have hl2 : xs.length ≤ 1048576 := by omega
  obtain ⟨i0, hi, hz0, hz1, hz2⟩ := info_parts infoC
  have hmk : ∀ W : World, (Instr.makeSlice 33 (.int .i64 (xs.length : Int)) (.int .i64 (xs.length : Int))).run Try.prog W = .ok (.slice (some ⟨W.heap.size, 0, none⟩) xs.length xs.length) (W.alloc (.cells (madeCells (Value.agg #[.int .i64 0, .string ⟨#[]⟩, .bool false, .slice none 0 0, .slice none 0 0, .slice none 0 0, .slice none 0 0]).cells (xs.length * 7)) 36)) := by
    intro W
    have := run_make (P := Try.prog) W 33 36 i0 _ Try.underlying33 hi hz0 .i64 .i64 xs.length xs.length (by omega) (by omega) (by rw [hz2]; omega) (by omega)
    rw [hz1] at this
    simpa using this
  clear hi hz0 hz1 hz2
  have IH := Lib.hid ih; clear ih
  have HR := Lib.hid hr; clear hr
  have HBK := Lib.hid hbk; clear hbk
  go_enter Try.func22, Try.ntmps22
  go_wp2
  clear hmk
  go_loopw [4] (fun i wr => ∃ (k : Nat), k ≤ xs.length ∧ i = .int .i64 k ∧ Hid (Part 36 80 7 xs.length k w.heap.size w wr (OwnCs 36 80 wr (xs.take k)))) (fun i _ => xs.length - (intOf i).toNat)
  case atStart => 
    exact ⟨0, Nat.zero_le _, rfl, Lib.hid ⟨[], (madeCells (Value.agg #[.int .i64 0, .string ⟨#[]⟩, .bool false, .slice none 0 0, .slice none 0 0, .slice none 0 0, .slice none 0 0]).cells (xs.length * 7)).toList, [], blk_made _ _ _, by simp, by simp [size_madeCells], by rw [List.take_zero, OwnCs]; exact ⟨rfl, rfl⟩, List.nodup_nil, (fun k hk => by cases hk), (Below.refl _ _).alloc (Nat.le_refl _) _⟩⟩
  case round =>
    obtain ⟨k, hk, rfl, HP⟩ := hrel
    by_cases hlt : k < xs.length
    · have HB := Lib.hid (show Below w.heap.size w wr from by obtain ⟨_, _, _, _, _, _, _, _, _, h⟩ := HP.out; exact h)
      obtain ⟨ad, A3, c3, A4, c4, A5, c5, A6, c6, rfl, hK, g0, g1, g2, g3, g4, g5, g6⟩ := elem_core (Kd.C_below HR.out HB.out) k hlt
      go_wp2_with fail
      refine (IH.out _ (List.getElem_mem hlt) (by have := mem_bulks (List.getElem_mem hlt); have := HBK.out; omega) wr _ hK).mono ?_
      rintro e w2 ⟨cs2, F2, rfl, hO, hN, hF, hb2⟩
      clear g0 g1 g2 g3 g4 g5 g6 hK
      obtain ⟨B3, d3, B4, d4, B5, d5, B6, d6, rfl⟩ := own_open hO
      obtain ⟨done, rest, G, hblk, hdl, hrl, hdO, hGN, hGg, _⟩ := HP.out
      simp only [cellsC]
      have HO := Lib.hid hO; have HN := Lib.hid hN; have HF := Lib.hid hF; have HB2 := Lib.hid hb2; clear hO hN hF hb2
      have HBLK2 := Lib.hid (hblk.below HB2.out)
      have HX := Lib.hid (And.intro hdl (And.intro hrl (And.intro hdO (And.intro hGN hGg))))
      clear hblk hdl hrl hdO hGN hGg
      go_wp2_with (refine wpList_store_blk w.heap.size (k * 7) done (rest.take 7) (rest.drop 7) (cellsC xs[k] B3 d3 B4 d4 B5 d5 B6 d6) 36 rfl 36 _ _ rfl rfl ?h1 rfl ?h2 ?h3 ?h4 ?h5 ?_)
      case h1 => exact HX.out.1.symm
      case h2 => rw [List.take_append_drop]; exact HBLK2.out
      case h3 => 
        have := HX.out.2.1
        rw [List.length_take]; simp only [cellsC, List.length_cons, List.length_nil]; omega
      case h4 => kernel_rfl
      case h5 => intro v hv; simp [cellsC] at hv; rcases hv with rfl | rfl | rfl | rfl | rfl | rfl | rfl <;> rfl
      intro w3 hblk3 hg3 hsz3
      have HP3 := Lib.hid (part_step hlt HB.out (part_lt HP.out) HX.out HO.out HN.out HF.out HB2.out hblk3 hg3)
      clear hblk3 hg3 hsz3 HX HO HN HF HB2 HBLK2 HB HP
      go_wp2
      go_roundw
      case rel => exact ⟨k + 1, by omega, by go_num, HP3⟩
      case measure => simp [intOf]; omega
    · have hkk : k = xs.length := by omega
      have HK := Lib.hid hkk; clear hkk
      go_wp2
      go_ret
      exact part_end (by have := HP.out; rw [HK.out] at this; exact this) (by omega)
set_option maxHeartbeats 400000 in
theorem toCoreAltS_any (xs : List AltT) (hbk : abulks xs ≤ 1048576) (ih : ∀ x ∈ xs, ToASaid x) (A : Option Addr) (c : Nat) (w : World) (hr : LA.C w A xs.length xs) (hc : xs.length ≤ c) :
    Calls Try.prog 23 #[.slice A xs.length c] w (ToPostAS 36 80 xs w) := by
  have hl := len_abulks xs
  have hl2 : xs.length ≤ 1048576 := by omega
  obtain ⟨i0, hi, hz0, hz1, hz2⟩ := info_parts infoA
  have hmk : ∀ W : World, (Instr.makeSlice 34 (.int .i64 (xs.length : Int)) (.int .i64 (xs.length : Int))).run Try.prog W = .ok (.slice (some ⟨W.heap.size, 0, none⟩) xs.length xs.length) (W.alloc (.cells (madeCells (Value.agg #[.string ⟨#[]⟩, .slice none 0 0, .int .i64 0, .string ⟨#[]⟩, .bool false, .slice none 0 0, .slice none 0 0, .slice none 0 0, .slice none 0 0]).cells (xs.length * 9)) 80)) := by
    intro W
    have := run_make (P := Try.prog) W 34 80 i0 _ Try.underlying34 hi hz0 .i64 .i64 xs.length xs.length (by omega) (by omega) (by rw [hz2]; omega) (by omega)
    rw [hz1] at this
    simpa using this
  clear hi hz0 hz1 hz2
  have IH := Lib.hid ih; clear ih
  have HR := Lib.hid hr; clear hr
  have HBK := Lib.hid hbk; clear hbk
  go_enter Try.func23, Try.ntmps23
  go_wp2
  clear hmk
  go_loopw [4] (fun i wr => ∃ (k : Nat), k ≤ xs.length ∧ i = .int .i64 k ∧ Hid (Part 80 80 9 xs.length k w.heap.size w wr (OwnAs 36 80 wr (xs.take k)))) (fun i _ => xs.length - (intOf i).toNat)
  case atStart => 
    exact ⟨0, Nat.zero_le _, rfl, Lib.hid ⟨[], (madeCells (Value.agg #[.string ⟨#[]⟩, .slice none 0 0, .int .i64 0, .string ⟨#[]⟩, .bool false, .slice none 0 0, .slice none 0 0, .slice none 0 0, .slice none 0 0]).cells (xs.length * 9)).toList, [], blk_made _ _ _, by simp, by simp [size_madeCells], by rw [List.take_zero, OwnAs]; exact ⟨rfl, rfl⟩, List.nodup_nil, (fun k hk => by cases hk), (Below.refl _ _).alloc (Nat.le_refl _) _⟩⟩
  case round =>
    obtain ⟨k, hk, rfl, HP⟩ := hrel
    by_cases hlt : k < xs.length
    · have HB := Lib.hid (show Below w.heap.size w wr from by obtain ⟨_, _, _, _, _, _, _, _, _, h⟩ := HP.out; exact h)
      obtain ⟨ad, A1, c1, A3, c3, A4, c4, A5, c5, A6, c6, rfl, hK, _, _, _, g0, g1, g2, g3, g4, g5, g6, g7, g8⟩ := elem_alt (Kd.C_below HR.out HB.out) k hlt
      go_wp2_with fail
      refine (IH.out _ (List.getElem_mem hlt) (by have := mem_abulks (List.getElem_mem hlt); have := HBK.out; omega) wr _ hK).mono ?_
      rintro e w2 ⟨cs2, F2, rfl, hO, hN, hF, hb2⟩
      clear g0 g1 g2 g3 g4 g5 g6 g7 g8 hK
      obtain ⟨B1, d1, B3, d3, B4, d4, B5, d5, B6, d6, rfl⟩ := ownA_open hO
      obtain ⟨done, rest, G, hblk, hdl, hrl, hdO, hGN, hGg, _⟩ := HP.out
      simp only [cellsA]
      have HO := Lib.hid hO; have HN := Lib.hid hN; have HF := Lib.hid hF; have HB2 := Lib.hid hb2; clear hO hN hF hb2
      have HBLK2 := Lib.hid (hblk.below HB2.out)
      have HX := Lib.hid (And.intro hdl (And.intro hrl (And.intro hdO (And.intro hGN hGg))))
      clear hblk hdl hrl hdO hGN hGg
      go_wp2_with (refine wpList_store_blk w.heap.size (k * 9) done (rest.take 9) (rest.drop 9) (cellsA xs[k] B1 d1 B3 d3 B4 d4 B5 d5 B6 d6) 80 rfl 80 _ _ rfl rfl ?h1 rfl ?h2 ?h3 ?h4 ?h5 ?_)
      case h1 => exact HX.out.1.symm
      case h2 => rw [List.take_append_drop]; exact HBLK2.out
      case h3 => 
        have := HX.out.2.1
        rw [List.length_take]; simp only [cellsA, List.length_cons, List.length_nil]; omega
      case h4 => kernel_rfl
      case h5 => intro v hv; simp [cellsA] at hv; rcases hv with rfl | rfl | rfl | rfl | rfl | rfl | rfl | rfl | rfl <;> rfl
      intro w3 hblk3 hg3 hsz3
      have HP3 := Lib.hid (part_stepA hlt HB.out (part_lt HP.out) HX.out HO.out HN.out HF.out HB2.out hblk3 hg3)
      clear hblk3 hg3 hsz3 HX HO HN HF HB2 HBLK2 HB HP
      go_wp2
      go_roundw
      case rel => exact ⟨k + 1, by omega, by go_num, HP3⟩
      case measure => simp [intOf]; omega
    · have hkk : k = xs.length := by omega
      have HK := Lib.hid hkk; clear hkk
      go_wp2
      go_ret
      exact part_endA (by have := HP.out; rw [HK.out] at this; exact this) (by omega)
/-- what a call has made since, with one block of one's own beside it -/
theorem below_grown {W0 w w' : World} {g : Nat} (h : Below W0.heap.size W0 w) (hg : w.grownBy w' (some g)) (hge : W0.heap.size ≤ g) : Below W0.heap.size W0 w' :=
  Below.grown h hg h.size (fun k hk => by injection hk with hk; omega)
theorem Blk.grown {w w' : World} {g g' : Nat} {e cs} (h : Blk w g e cs) (hg : w.grownBy w' (some g')) (hne : g ≠ g') : Blk w' g e cs := h.move (hg.block g h.lt (fun he => hne (by injection he)))
theorem Row.grown {w w' : World} {g' : Nat} {e v n cells F} (h : Row w e v n cells F) (hg : w.grownBy w' (some g')) (hne : ∀ k ∈ F, k ≠ g') : Row w' e v n cells F :=
  h.move (fun k hk => hg.block k (h.lt k hk) (fun he => hne k hk (by injection he)))
theorem Row.below {w w' : World} {e v n cells F} (h : Row w e v n cells F) (hb : Below w.heap.size w w') : Row w' e v n cells F := h.move (fun k hk => hb.block k (h.lt k hk))
theorem own_grown {e ea : TypeId} {w w' : World} {g' : Nat} {x cs F} (h : OwnC e ea w x cs F) (hg : w.grownBy w' (some g')) (hne : ∀ k ∈ F, k ≠ g') : OwnC e ea w' x cs F :=
  own_move _ _ _ h (fun k hk => hg.block k (own_lt _ _ _ h k hk) (fun he => hne k hk (by injection he)))
theorem blk_alloc (w : World) (e : TypeId) (cs : List Value) : Blk (w.alloc (.cells cs.toArray e)) w.heap.size e cs := by
  have := blk_made w e cs.toArray
  simpa using this
theorem Blk.alloc {w : World} {g e cs} (h : Blk w g e cs) (o : Obj) : Blk (w.alloc o) g e cs := h.below (Below.alloc (Below.refl _ _) (Nat.le_refl _) o)
theorem nodup_app {F G : List Nat} {N : Nat} (hF : F.Nodup) (hG : G.Nodup) (h1 : ∀ k ∈ F, k < N) (h2 : ∀ k ∈ G, N ≤ k) : (F ++ G).Nodup := by
  rw [List.nodup_append]
  exact ⟨hF, hG, fun a ha b hb he => by have := h1 a ha; have := h2 b hb; omega⟩
theorem three {w w4 : World} {e1 e2 e3 : TypeId} {c1 c2 c3 : List Value}
    (h : Below (((w.alloc (.cells c1.toArray e1)).alloc (.cells c2.toArray e2)).alloc (.cells c3.toArray e3)).heap.size (((w.alloc (.cells c1.toArray e1)).alloc (.cells c2.toArray e2)).alloc (.cells c3.toArray e3)) w4) :
    Below w.heap.size w w4 ∧ Blk w4 w.heap.size e1 c1 ∧ Blk w4 (w.heap.size + 1) e2 c2 ∧ Blk w4 (w.heap.size + 1 + 1) e3 c3 ∧ w.heap.size + 3 ≤ w4.heap.size := by
  refine ⟨below_box (below_box2 h), ((((blk_alloc w _ c1).alloc _).alloc _)).below h, ?_, ?_, by have := h.size; simp at this; omega⟩
  · have := ((blk_alloc (w.alloc (.cells c1.toArray e1)) e2 c2).alloc (.cells c3.toArray e3)).below h
    simpa using this
  · have := (blk_alloc ((w.alloc (.cells c1.toArray e1)).alloc (.cells c2.toArray e2)) e3 c3).below h
    simpa using this
set_option maxHeartbeats 1000000 in
theorem toCoreAlt_any (x : AltT) (ih : ToSaid x.body) : ToASaid x := by
  intro hbk w cs hK
  obtain ⟨A1, c1, cb, rfl, l1, g1, hb⟩ := alt_open hK
  obtain ⟨A3, c3, A4, c4, A5, c5, A6, c6, rfl, _⟩ := core_open hb
  rw [abulk_eq] at hbk
  have hbn := len_strsB x.names
  have HBK := Lib.hid hbk; clear hbk
  have IH := Lib.hid ih; clear ih
  have G1 := Lib.hid g1; have HBd := Lib.hid hb; clear g1 hb hK
  simp only [cellsC]
  go_enter Try.func50, Try.ntmps50
  go_wp2_with fail
  obtain ⟨k, hk⟩ := toStringS_eq x.names (by have := HBK.out; omega)
  refine (laws_toStringS.calls k _ _ _ _ _ (Kd.C_below G1.out (((Below.refl _ _).alloc (Nat.le_refl _) _).alloc (by simp) _ |>.alloc (by simp; omega) _)) l1 hk).mono ?_
  rintro e w4 ⟨v1, rfl, hr1, hb4⟩
  obtain ⟨F1, hrow1, hnd1, hf1⟩ := row_of_own (own_strs hr1)
  obtain ⟨hb, hp, hr, ho, hz⟩ := three hb4
  simp only [World.size_alloc] at hf1
  obtain ⟨B1, d1, rfl, _⟩ := hrow1.slice
  have ROW := Lib.hid hrow1; have ND := Lib.hid hnd1; have FF := Lib.hid hf1; have HB := Lib.hid hb; have HP := Lib.hid hp; have HR := Lib.hid hr; have HO := Lib.hid ho
  clear hr1 hb4 hrow1 hnd1 hf1 hb hp hr ho hk
  go_wp2_with (refine wpList_store_blk (w.heap.size + 1 + 1) 1 [_] [_] [_, _, _, _, _, _, _] [.slice B1 x.names.length d1] 80 rfl 25 _ _ rfl rfl rfl rfl HO.out rfl (by kernel_rfl) (by intro v hv; rw [List.mem_singleton.1 hv]; rfl) ?_)
  intro w5 hblk5 hg5 hsz5
  have HP5 := Lib.hid (HP.out.grown hg5 (by omega)); have HR5 := Lib.hid (HR.out.grown hg5 (by omega)); have ROW5 := Lib.hid (ROW.out.grown hg5 (fun k hk => by have := FF.out k hk; omega)); have HB5 := Lib.hid (below_grown HB.out hg5 (by omega)); have HO5 := Lib.hid hblk5
  rw [← hsz5] at hz
  clear hblk5 hg5 hsz5 HP HR HO ROW HB
  have p2 := HP5.out.cell (j := 2) rfl; have p3 := HP5.out.cell (j := 3) rfl; have p4 := HP5.out.cell (j := 4) rfl; have p5 := HP5.out.cell (j := 5) rfl; have p6 := HP5.out.cell (j := 6) rfl; have p7 := HP5.out.cell (j := 7) rfl; have p8 := HP5.out.cell (j := 8) rfl
  go_wp2_with fail
  refine (IH.out (by have := HBK.out; omega) _ _ ((kCore _ _).K_below HB5.out HBd.out)).mono ?_
  rintro e w6 ⟨cs, F2, rfl, hO2, hn2, hf2, hb6⟩
  clear p2 p3 p4 p5 p6 p7 p8
  obtain ⟨C3, h3, C4, h4, C5, h5, C6, h6, rfl⟩ := own_open hO2
  have O2 := Lib.hid hO2; have N2 := Lib.hid hn2; have FF2 := Lib.hid hf2
  have HP6 := Lib.hid (HP5.out.below hb6); have HR6 := Lib.hid (HR5.out.below hb6); have HO6 := Lib.hid (HO5.out.below hb6); have ROW6 := Lib.hid (ROW5.out.below hb6); have HB6 := Lib.hid (Below.step HB5.out hb6)
  have hz6 := hb6.size
  have FL1 := Lib.hid ROW5.out.lt
  clear hO2 hn2 hf2 hb6 HP5 HR5 HO5 ROW5 HB5
  simp only [cellsC] at O2 ⊢
  go_wp2_with (refine wpList_store_blk (w.heap.size + 1 + 1) 2 [_, _] [_, _, _, _, _, _, _] [] [.int .i64 x.body.kind, .string x.body.name, .bool x.body.minus, .slice C3 x.body.limbs.length h3, .slice C4 x.body.names.length h4, .slice C5 x.body.kids.length h5, .slice C6 x.body.alts.length h6] 80 rfl 36 _ _ rfl rfl rfl rfl HO6.out rfl (by kernel_rfl) ?hone ?_)
  case hone => intro v hv; simp at hv; rcases hv with rfl | rfl | rfl | rfl | rfl | rfl | rfl <;> rfl
  intro w7 hblk7 hg7 hsz7
  have HR7 := Lib.hid (HR6.out.grown hg7 (by omega)); have ROW7 := Lib.hid (ROW6.out.grown hg7 (fun k hk => by have := FF.out k hk; omega)); have HB7 := Lib.hid (below_grown HB6.out hg7 (by omega))
  have O7 := Lib.hid (own_grown O2.out hg7 (fun k hk => by have := FF2.out k hk; omega))
  have q0 := hblk7.cell (j := 0) rfl; have q1 := hblk7.cell (j := 1) rfl; have q2 := hblk7.cell (j := 2) rfl; have q3 := hblk7.cell (j := 3) rfl; have q4 := hblk7.cell (j := 4) rfl; have q5 := hblk7.cell (j := 5) rfl; have q6 := hblk7.cell (j := 6) rfl; have q7 := hblk7.cell (j := 7) rfl; have q8 := hblk7.cell (j := 8) rfl
  clear hblk7 hg7 HP6 HR6 HO6 ROW6 HB6 O2
  rw [← hsz7] at hz6
  clear hsz7
  go_wp2_with (refine wpList_store_blk (w.heap.size + 1) 0 [] [_, _, _, _, _, _, _, _, _] [] [.string x.con, .slice B1 x.names.length d1, .int .i64 x.body.kind, .string x.body.name, .bool x.body.minus, .slice C3 x.body.limbs.length h3, .slice C4 x.body.names.length h4, .slice C5 x.body.kids.length h5, .slice C6 x.body.alts.length h6] 80 rfl 80 (.tmp 2) _ rfl rfl rfl rfl HR7.out rfl (by kernel_rfl) ?hone ?_)
  case hone => intro v hv; simp at hv; rcases hv with rfl | rfl | rfl | rfl | rfl | rfl | rfl | rfl | rfl <;> rfl
  intro w8 hblk8 hg8 hsz8
  have ROW8 := Lib.hid (ROW7.out.grown hg8 (fun k hk => by have := FF.out k hk; omega)); have HB8 := Lib.hid (below_grown HB7.out hg8 (by omega))
  have O8 := Lib.hid (own_grown O7.out hg8 (fun k hk => by have := FF2.out k hk; omega))
  clear q0 q1 q2 q3 q4 q5 q6 q7 q8 HR7 ROW7 HB7 O7 hg8
  have q0 := hblk8.cell (j := 0) rfl; have q1 := hblk8.cell (j := 1) rfl; have q2 := hblk8.cell (j := 2) rfl; have q3 := hblk8.cell (j := 3) rfl; have q4 := hblk8.cell (j := 4) rfl; have q5 := hblk8.cell (j := 5) rfl; have q6 := hblk8.cell (j := 6) rfl; have q7 := hblk8.cell (j := 7) rfl; have q8 := hblk8.cell (j := 8) rfl
  clear hblk8
  go_wp2
  refine bodyPost_ret (v := .agg #[.string x.con, .slice B1 x.names.length d1, .int .i64 x.body.kind, .string x.body.name, .bool x.body.minus, .slice C3 x.body.limbs.length h3, .slice C4 x.body.names.length h4, .slice C5 x.body.kids.length h5, .slice C6 x.body.alts.length h6]) (by simp [results, Try.results50, go_sem, q0, q1, q2, q3, q4, q5, q6, q7, q8]) rfl
    ⟨[.string x.con, .slice B1 x.names.length d1, .int .i64 x.body.kind, .string x.body.name, .bool x.body.minus, .slice C3 x.body.limbs.length h3, .slice C4 x.body.names.length h4, .slice C5 x.body.kids.length h5, .slice C6 x.body.alts.length h6], F1 ++ F2, rfl, ?_, ?_, ?_, HB8.out⟩
  · rw [OwnA_eq]
    exact ⟨_, _, F1, F2, rfl, rfl, ROW8.out, O8.out⟩
  · exact nodup_app ND.out N2.out FL1.out FF2.out
  · intro k hk
    rcases List.mem_append.1 hk with hk | hk
    · have := FF.out k hk; omega
    · have := FF2.out k hk; omega
set_option maxHeartbeats 2000000 in
theorem toCore_any (x : CoreT) (ihk : ∀ y ∈ x.kids, ToSaid y) (iha : ∀ a ∈ x.alts, ToASaid a) : ToSaid x := by
  intro hbk w cs hK
  obtain ⟨A3, c3, A4, c4, A5, c5, A6, c6, rfl, l3, g3, l4, g4, l5, g5, l6, g6⟩ := core_open hK
  rw [bulk_eq] at hbk
  have hbn := len_strsB x.names
  have HBK := Lib.hid hbk; clear hbk
  have IHK := Lib.hid ihk; have IHA := Lib.hid iha; clear ihk iha
  have G3 := Lib.hid g3; have G4 := Lib.hid g4; have G5 := Lib.hid g5; have G6 := Lib.hid g6; clear g3 g4 g5 g6 hK
  simp only [cellsC]
  go_enter Try.func7, Try.ntmps7
  go_wp2_with fail
  -- the number
  obtain ⟨k, hk⟩ := toBig_eq x.minus x.limbs (by have := HBK.out; omega)
  refine (laws_toBig.calls k _ _ _ _ _ _ _ (Kd.C_below G3.out (((Below.refl _ _).alloc (Nat.le_refl _) _).alloc (by simp) _ |>.alloc (by simp; omega) _)) l3 hk).mono ?_
  rintro e w4 ⟨v1, rfl, hr1, hb4⟩
  obtain ⟨F3, hrow, hnd, hf⟩ := row_of_own (own_nums hr1)
  obtain ⟨hb, hp, hr, ho, hz⟩ := three hb4
  simp only [World.size_alloc] at hf
  obtain ⟨B3, d3, rfl, _⟩ := hrow.slice
  have ROW := Lib.hid hrow; have ND3 := Lib.hid hnd; have FF3 := Lib.hid hf; have HB := Lib.hid hb; have HP := Lib.hid hp; have HR := Lib.hid hr; have HO := Lib.hid ho
  clear hr1 hb4 hrow hnd hf hb hp hr ho hk
  go_wp2_with (refine wpList_store_blk (w.heap.size + 1 + 1) 2 [_, _] [_, _] [_, _, _] [.bool x.minus, .slice B3 x.limbs.length d3] 36 rfl 32 _ _ rfl rfl rfl rfl HO.out rfl (by kernel_rfl) ?hone ?_)
  case hone => intro v hv; simp at hv; rcases hv with rfl | rfl <;> rfl
  intro w5 hblk5 hg5 hsz5
  have HP5 := Lib.hid (HP.out.grown hg5 (by omega)); have HR5 := Lib.hid (HR.out.grown hg5 (by omega)); have ROW3 := Lib.hid (ROW.out.grown hg5 (fun k hk => by have := FF3.out k hk; omega)); have HB5 := Lib.hid (below_grown HB.out hg5 (by omega)); have HO5 := Lib.hid hblk5
  rw [← hsz5] at hz
  clear hblk5 hg5 hsz5 HP HR HO ROW HB
  -- the names
  have p4 := HP5.out.cell (j := 4) rfl
  go_wp2_with fail
  clear p4
  obtain ⟨k, hk⟩ := toStringS_eq x.names (by have := HBK.out; omega)
  refine (laws_toStringS.calls k _ _ _ _ _ (Kd.C_below G4.out HB5.out) l4 hk).mono ?_
  rintro e w6 ⟨v1, rfl, hr1, hb6⟩
  obtain ⟨F4, hrow, hnd, hf⟩ := row_of_own (own_strs hr1)
  obtain ⟨B4, d4, rfl, _⟩ := hrow.slice
  have FL3 := Lib.hid ROW3.out.lt
  have ROW4 := Lib.hid hrow; have ND4 := Lib.hid hnd; have FF4 := Lib.hid hf; have HB6 := Lib.hid (Below.step HB5.out hb6); have HP6 := Lib.hid (HP5.out.below hb6); have HR6 := Lib.hid (HR5.out.below hb6); have HO6 := Lib.hid (HO5.out.below hb6); have ROW36 := Lib.hid (ROW3.out.below hb6)
  have hz6 := hb6.size
  clear hr1 hb6 hrow hnd hf hk HB5 HP5 HR5 HO5 ROW3
  go_wp2_with (refine wpList_store_blk (w.heap.size + 1 + 1) 4 [_, _, _, _] [_] [_, _] [.slice B4 x.names.length d4] 36 rfl 25 _ _ rfl rfl rfl rfl HO6.out rfl (by kernel_rfl) (by intro v hv; rw [List.mem_singleton.1 hv]; rfl) ?_)
  intro w7 hblk7 hg7 hsz7
  have HP7 := Lib.hid (HP6.out.grown hg7 (by omega)); have HR7 := Lib.hid (HR6.out.grown hg7 (by omega)); have ROW37 := Lib.hid (ROW36.out.grown hg7 (fun k hk => by have := FF3.out k hk; omega)); have ROW47 := Lib.hid (ROW4.out.grown hg7 (fun k hk => by have := FF4.out k hk; omega)); have HB7 := Lib.hid (below_grown HB6.out hg7 (by omega)); have HO7 := Lib.hid hblk7
  rw [← hsz7] at hz6
  clear hblk7 hg7 hsz7 HP6 HR6 HO6 ROW36 ROW4 HB6
  -- the kids
  have p5 := HP7.out.cell (j := 5) rfl
  go_wp2_with fail
  clear p5
  refine (toCoreS_any x.kids (by have := HBK.out; omega) IHK.out _ _ _ (Kd.C_below G5.out HB7.out) l5).mono ?_
  rintro e w8 ⟨v1, cs5, F5, G5', rfl, hrow, hcs, hnd, hf, hb8⟩
  obtain ⟨B5, d5, rfl, _⟩ := hrow.slice
  have FL4 := Lib.hid ROW47.out.lt
  have ROW5 := Lib.hid hrow; have CS5 := Lib.hid hcs; have ND5 := Lib.hid hnd; have FF5 := Lib.hid hf; have HB8 := Lib.hid (Below.step HB7.out hb8); have HP8 := Lib.hid (HP7.out.below hb8); have HR8 := Lib.hid (HR7.out.below hb8); have HO8 := Lib.hid (HO7.out.below hb8); have ROW38 := Lib.hid (ROW37.out.below hb8); have ROW48 := Lib.hid (ROW47.out.below hb8)
  have hz8 := hb8.size
  clear hb8 hrow hcs hnd hf HB7 HP7 HR7 HO7 ROW37 ROW47
  go_wp2_with (refine wpList_store_blk (w.heap.size + 1 + 1) 5 [_, _, _, _, _] [_] [_] [.slice B5 x.kids.length d5] 36 rfl 33 _ _ rfl rfl rfl rfl HO8.out rfl (by kernel_rfl) (by intro v hv; rw [List.mem_singleton.1 hv]; rfl) ?_)
  intro w9 hblk9 hg9 hsz9
  have HP9 := Lib.hid (HP8.out.grown hg9 (by omega)); have HR9 := Lib.hid (HR8.out.grown hg9 (by omega)); have ROW39 := Lib.hid (ROW38.out.grown hg9 (fun k hk => by have := FF3.out k hk; omega)); have ROW49 := Lib.hid (ROW48.out.grown hg9 (fun k hk => by have := FF4.out k hk; omega)); have HB9 := Lib.hid (below_grown HB8.out hg9 (by omega)); have HO9 := Lib.hid hblk9
  have ROW59 := Lib.hid (ROW5.out.grown hg9 (fun k hk => by have := FF5.out k (by simp [hk]); omega)); have CS59 := Lib.hid (ownCs_move' CS5.out (fun k hk => hg9.block k (ownCs_lt' CS5.out k hk) (fun he => by have := FF5.out k (by simp [hk]); injection he with he; omega)))
  rw [← hsz9] at hz8
  clear hblk9 hg9 hsz9 HP8 HR8 HO8 ROW38 ROW48 ROW5 CS5 HB8
  -- the alternatives
  have p6 := HP9.out.cell (j := 6) rfl
  go_wp2_with fail
  clear p6
  refine (toCoreAltS_any x.alts (by have := HBK.out; omega) IHA.out _ _ _ (Kd.C_below G6.out HB9.out) l6).mono ?_
  rintro e w10 ⟨v1, cs6, F6, G6', rfl, hrow, hcs, hnd, hf, hb10⟩
  obtain ⟨B6, d6, rfl, _⟩ := hrow.slice
  have FL5 := Lib.hid (show ∀ k ∈ F5 ++ G5', k < w9.heap.size from fun k hk => (List.mem_append.1 hk).elim (ROW59.out.lt k) (ownCs_lt' CS59.out k))
  have ROW6 := Lib.hid hrow; have CS6 := Lib.hid hcs; have ND6 := Lib.hid hnd; have FF6 := Lib.hid hf; have HB10 := Lib.hid (Below.step HB9.out hb10); have HR10 := Lib.hid (HR9.out.below hb10); have HO10 := Lib.hid (HO9.out.below hb10); have ROW310 := Lib.hid (ROW39.out.below hb10); have ROW410 := Lib.hid (ROW49.out.below hb10); have ROW510 := Lib.hid (ROW59.out.below hb10)
  have CS510 := Lib.hid (ownCs_move' CS59.out (fun k hk => hb10.block k (ownCs_lt' CS59.out k hk)))
  have hz10 := hb10.size
  clear hb10 hrow hcs hnd hf HB9 HP9 HR9 HO9 ROW39 ROW49 ROW59 CS59
  go_wp2_with (refine wpList_store_blk (w.heap.size + 1 + 1) 6 [_, _, _, _, _, _] [_] [] [.slice B6 x.alts.length d6] 36 rfl 34 _ _ rfl rfl rfl rfl HO10.out rfl (by kernel_rfl) (by intro v hv; rw [List.mem_singleton.1 hv]; rfl) ?_)
  intro w11 hblk11 hg11 hsz11
  have HR11 := Lib.hid (HR10.out.grown hg11 (by omega)); have ROW311 := Lib.hid (ROW310.out.grown hg11 (fun k hk => by have := FF3.out k hk; omega)); have ROW411 := Lib.hid (ROW410.out.grown hg11 (fun k hk => by have := FF4.out k hk; omega)); have HB11 := Lib.hid (below_grown HB10.out hg11 (by omega))
  have ROW511 := Lib.hid (ROW510.out.grown hg11 (fun k hk => by have := FF5.out k (by simp [hk]); omega)); have CS511 := Lib.hid (ownCs_move' CS510.out (fun k hk => hg11.block k (ownCs_lt' CS510.out k hk) (fun he => by have := FF5.out k (by simp [hk]); injection he with he; omega)))
  have ROW611 := Lib.hid (ROW6.out.grown hg11 (fun k hk => by have := FF6.out k (by simp [hk]); omega)); have CS611 := Lib.hid (ownAs_move' CS6.out (fun k hk => hg11.block k (ownAs_lt' CS6.out k hk) (fun he => by have := FF6.out k (by simp [hk]); injection he with he; omega)))
  have q0 := hblk11.cell (j := 0) rfl; have q1 := hblk11.cell (j := 1) rfl; have q2 := hblk11.cell (j := 2) rfl; have q3 := hblk11.cell (j := 3) rfl; have q4 := hblk11.cell (j := 4) rfl; have q5 := hblk11.cell (j := 5) rfl; have q6 := hblk11.cell (j := 6) rfl
  clear hblk11 hg11 HR10 HO10 ROW310 ROW410 ROW510 CS510 ROW6 CS6 HB10
  rw [← hsz11] at hz10
  clear hsz11
  go_wp2_with (refine wpList_store_blk (w.heap.size + 1) 0 [] [_, _, _, _, _, _, _] [] [.int .i64 x.kind, .string x.name, .bool x.minus, .slice B3 x.limbs.length d3, .slice B4 x.names.length d4, .slice B5 x.kids.length d5, .slice B6 x.alts.length d6] 36 rfl 36 (.tmp 2) _ rfl rfl rfl rfl HR11.out rfl (by kernel_rfl) ?hone ?_)
  case hone => intro v hv; simp at hv; rcases hv with rfl | rfl | rfl | rfl | rfl | rfl | rfl <;> rfl
  intro w12 hblk12 hg12 hsz12
  have ROW312 := Lib.hid (ROW311.out.grown hg12 (fun k hk => by have := FF3.out k hk; omega)); have ROW412 := Lib.hid (ROW411.out.grown hg12 (fun k hk => by have := FF4.out k hk; omega)); have HB12 := Lib.hid (below_grown HB11.out hg12 (by omega))
  have ROW512 := Lib.hid (ROW511.out.grown hg12 (fun k hk => by have := FF5.out k (by simp [hk]); omega)); have CS512 := Lib.hid (ownCs_move' CS511.out (fun k hk => hg12.block k (ownCs_lt' CS511.out k hk) (fun he => by have := FF5.out k (by simp [hk]); injection he with he; omega)))
  have ROW612 := Lib.hid (ROW611.out.grown hg12 (fun k hk => by have := FF6.out k (by simp [hk]); omega)); have CS612 := Lib.hid (ownAs_move' CS611.out (fun k hk => hg12.block k (ownAs_lt' CS611.out k hk) (fun he => by have := FF6.out k (by simp [hk]); injection he with he; omega)))
  clear q0 q1 q2 q3 q4 q5 q6 HR11 ROW311 ROW411 ROW511 CS511 ROW611 CS611 HB11 hg12
  have q0 := hblk12.cell (j := 0) rfl; have q1 := hblk12.cell (j := 1) rfl; have q2 := hblk12.cell (j := 2) rfl; have q3 := hblk12.cell (j := 3) rfl; have q4 := hblk12.cell (j := 4) rfl; have q5 := hblk12.cell (j := 5) rfl; have q6 := hblk12.cell (j := 6) rfl
  clear hblk12
  go_wp2
  refine bodyPost_ret (v := .agg #[.int .i64 x.kind, .string x.name, .bool x.minus, .slice B3 x.limbs.length d3, .slice B4 x.names.length d4, .slice B5 x.kids.length d5, .slice B6 x.alts.length d6]) (by simp [results, Try.results7, go_sem, q0, q1, q2, q3, q4, q5, q6]) rfl
    ⟨[.int .i64 x.kind, .string x.name, .bool x.minus, .slice B3 x.limbs.length d3, .slice B4 x.names.length d4, .slice B5 x.kids.length d5, .slice B6 x.alts.length d6], F3 ++ (F4 ++ ((F5 ++ G5') ++ (F6 ++ G6'))), rfl, ?_, ?_, ?_, HB12.out⟩
  · rw [OwnC_eq]
    exact ⟨_, _, _, _, F3, F4, F5, F6, G5', G6', _, _, rfl, rfl, ROW312.out, ROW412.out, ⟨ROW512.out, CS512.out⟩, ⟨ROW612.out, CS612.out⟩⟩
  · have h56 : ((F5 ++ G5') ++ (F6 ++ G6')).Nodup := nodup_app ND5.out ND6.out FL5.out FF6.out
    have h456 : (F4 ++ ((F5 ++ G5') ++ (F6 ++ G6'))).Nodup := by
      refine nodup_app ND4.out h56 FL4.out (fun k hk => ?_)
      rcases List.mem_append.1 hk with hk | hk
      · exact FF5.out k hk
      · have := FF6.out k hk; omega
    refine nodup_app ND3.out h456 FL3.out (fun k hk => ?_)
    rcases List.mem_append.1 hk with hk | hk
    · exact FF4.out k hk
    · rcases List.mem_append.1 hk with hk | hk
      · have := FF5.out k hk; omega
      · have := FF6.out k hk; omega
  · intro k hk
    rcases List.mem_append.1 hk with hk | hk
    · have := FF3.out k hk; omega
    · rcases List.mem_append.1 hk with hk | hk
      · have := FF4.out k hk; omega
      · rcases List.mem_append.1 hk with hk | hk
        · have := FF5.out k hk; omega
        · have := FF6.out k hk; omega
theorem to_all (x : CoreT) : ToSaid x :=
  coreInd ToSaid (fun c hk ha => toCore_any c hk (fun a h => toCoreAlt_any a (ha a h))) x
end Go.Proofs.Ytagfphlhahiplaa.C13
namespace Go.Proofs.Ytagfphlhahiplaa.C13
open Go.RowKit Go.Proofs.YtagfphlhahiplaaW.PrintWords Go.Proofs.Ytagfphlhahiplaa.PFnExactFormatCore
set_option linter.unusedVariables false
set_option linter.unusedSimpArgs false
def anames : List AltT → Nat
  | [] => 0
  | a :: r => a.names.length + anames r
mutual
def total : CoreT → Nat
  | ⟨_, _, _, _, names, kids, alts⟩ => 1 + names.length + anames alts + totals kids + atotals alts
def totals : List CoreT → Nat
  | [] => 0
  | c :: r => total c + totals r
def atotals : List AltT → Nat
  | [] => 0
  | a :: r => atotal a + atotals r
def atotal : AltT → Nat
  | ⟨_, _, b⟩ => total b
end
theorem total_eq (c : CoreT) : total c = 1 + c.names.length + anames c.alts + totals c.kids + atotals c.alts := by cases c; rw [total]
theorem atotal_eq (a : AltT) : atotal a = total a.body := by cases a; rw [atotal]
theorem totals_snoc (l : List CoreT) (x : CoreT) : totals (l ++ [x]) = totals l + total x := by
  induction l with
  | nil => simp [totals]
  | cons c r ih => simp only [List.cons_append, totals, ih]; omega
theorem atotals_snoc (l : List AltT) (x : AltT) : atotals (l ++ [x]) = atotals l + total x.body := by
  induction l with
  | nil => simp [atotals, atotal_eq]
  | cons c r ih => simp only [List.cons_append, atotals, ih]; omega
theorem anames_snoc (l : List AltT) (x : AltT) : anames (l ++ [x]) = anames l + x.names.length := by
  induction l with
  | nil => simp [anames]
  | cons c r ih => simp only [List.cons_append, anames, ih]; omega
theorem deps_snoc (l : List CoreT) (x : CoreT) : deps (l ++ [x]) = max (deps l) (dep x) := by
  induction l with
  | nil => simp [deps]
  | cons c r ih => simp only [List.cons_append, deps, ih]; omega
theorem adeps_snoc (l : List AltT) (x : AltT) : adeps (l ++ [x]) = max (adeps l) (dep x.body) := by
  induction l with
  | nil => simp [adeps, adep_eq]
  | cons c r ih => simp only [List.cons_append, adeps, ih]; omega
theorem totals_le (l : List CoreT) (k : Nat) : totals (l.take k) ≤ totals l := by
  induction l generalizing k with
  | nil => simp
  | cons c r ih => cases k with
    | zero => simp [totals]
    | succ k => simp only [List.take_succ_cons, totals]; have := ih k; omega
theorem atotals_le (l : List AltT) (k : Nat) : atotals (l.take k) ≤ atotals l := by
  induction l generalizing k with
  | nil => simp
  | cons c r ih => cases k with
    | zero => simp [atotals]
    | succ k => simp only [List.take_succ_cons, atotals]; have := ih k; omega
theorem anames_le (l : List AltT) (k : Nat) : anames (l.take k) ≤ anames l := by
  induction l generalizing k with
  | nil => simp
  | cons c r ih => cases k with
    | zero => simp [anames]
    | succ k => simp only [List.take_succ_cons, anames]; have := ih k; omega
theorem deps_le (l : List CoreT) (k : Nat) : deps (l.take k) ≤ deps l := by
  induction l generalizing k with
  | nil => simp
  | cons c r ih => cases k with
    | zero => simp [deps]
    | succ k => simp only [List.take_succ_cons, deps]; have := ih k; omega
theorem adeps_le (l : List AltT) (k : Nat) : adeps (l.take k) ≤ adeps l := by
  induction l generalizing k with
  | nil => simp
  | cons c r ih => cases k with
    | zero => simp [adeps]
    | succ k => simp only [List.take_succ_cons, adeps]; have := ih k; omega
theorem take_snoc' {α : Type} {l : List α} {k : Nat} (h : k < l.length) : l.take (k + 1) = l.take k ++ [l[k]] := List.take_succ_eq_append_getElem h
theorem anames_abulks (l : List AltT) : anames l ≤ abulks l := by
  induction l with
  | nil => simp [anames]
  | cons c r ih => rw [anames, abulks, abulk_eq]; have := len_strsB c.names; omega
theorem grown_trans {w a b : World} {g : Option Nat} (h : w.grownBy a g) (k : a.grownBy b g) : w.grownBy b g :=
  ⟨k.os.trans h.os, k.tape.trans h.tape, k.output.trans h.output, Nat.le_trans h.size k.size, fun i hi hn => (k.block i (Nat.lt_of_lt_of_le hi h.size) hn).trans (h.block i hi hn)⟩
theorem grown_of_below {w w' : World} (h : Below w.heap.size w w') (g : Option Nat) : w.grownBy w' g := ⟨h.os, h.tape, h.output, h.size, fun i hi _ => h.block i hi⟩
theorem below_grown' {S w w' : World} {b : Nat} (h : Below S.heap.size S w) (hg : w.grownBy w' (some b)) (hb : S.heap.size ≤ b) : Below S.heap.size S w' := below_grown h hg hb
theorem undrew {w w' : World} {r : Option Nat} (h : w.drew.grownBy w' r) : w.grownBy w' r := ⟨h.os, h.tape, h.output, h.size, h.block⟩
theorem boxed (w : World) (cs : List Value) (e : TypeId) : ∃ W1, W1 = w.alloc (.cells cs.toArray e) ∧ Blk W1 w.heap.size e cs ∧ Below w.heap.size w W1 ∧ W1.heap.size = w.heap.size + 1 :=
  ⟨_, rfl, blk_alloc w e cs, Below.alloc (Below.refl _ _) (Nat.le_refl _) _, by simp⟩
theorem Blk.grownO {w w' : World} {g : Nat} {r : Option Nat} {e cs} (h : Blk w g e cs) (hg : w.grownBy w' r) (hne : some g ≠ r) : Blk w' g e cs := h.move (hg.block g h.lt hne)
/-- the contract: *left is b; S: where the term is read -/
def SizePost (x : CoreT) (deep L : Int) (b : Nat) (w : World) (e : Ending) (w' : World) : Prop :=
  w.grownBy w' (some b) ∧ ((e = .returned (.bool true) ∧ (total x : Int) ≤ L ∧ deep - 1 + dep x ≤ 1000 ∧ Blk w' b 2 [.int .i64 (L - total x)]) ∨
    (e = .returned (.bool false) ∧ ¬ ((total x : Int) ≤ L ∧ deep - 1 + dep x ≤ 1000)))
def SizeSaid (x : CoreT) : Prop := bulk x ≤ 1048576 → ∀ (S w : World) (cs : List Value) (b : Nat) (deep L : Int), 1 ≤ deep → deep ≤ 1001 → 0 ≤ L → L ≤ 20000 → IC.K S x cs → Below S.heap.size S w → S.heap.size ≤ b → Blk w b 2 [.int .i64 L] →
  Calls Try.prog 45 #[.agg cs.toArray, .int .i64 deep, .pointer (some ⟨b, 0, none⟩)] w (SizePost x deep L b w)
set_option maxRecDepth 100000 in
set_option maxHeartbeats 1000000 in
theorem l13Size_any (x : CoreT) (ihk : ∀ y ∈ x.kids, SizeSaid y) (iha : ∀ a ∈ x.alts, SizeSaid a.body) : SizeSaid x := by
  intro hbk S w cs b deep L hd1 hd2 hL0 hL1 hK hB hSb hblk
  obtain ⟨A3, c3, A4, c4, A5, c5, A6, c6, rfl, l3, g3, l4, g4, l5, g5, l6, g6⟩ := core_open hK
  rw [bulk_eq] at hbk
  have hbn := len_strsB x.names
  have hba := anames_abulks x.alts
  have hbl := hblk.lt
  have hla : x.alts.length ≤ 1048576 := by have := len_abulks x.alts; omega
  have hlk : x.kids.length ≤ 1048576 := by have := len_bulks x.kids; omega
  have hT := total_eq x
  have hD := dep_eq x
  have HT := Lib.hid hT; have HD := Lib.hid hD; clear hT hD
  have HBK := Lib.hid hbk
  have IHK := Lib.hid ihk; have IHA := Lib.hid iha; clear ihk iha
  have G5 := Lib.hid g5; have G6 := Lib.hid g6; clear g3 g4 g5 g6 hK
  simp only [cellsC]
  go_enter Try.func45, Try.ntmps45
  have hne : b ≠ w.heap.size := by omega
  go_wp2_with fail
  obtain ⟨W1, hW1, hp1, hB1, hs1⟩ := boxed w [.int .i64 x.kind, .string x.name, .bool x.minus, .slice A3 x.limbs.length c3, .slice A4 x.names.length c4, .slice A5 x.kids.length c5, .slice A6 x.alts.length c6] 36
  rw [← hW1]
  have hb1 := hblk.below hB1
  have GR1 := Lib.hid (grown_of_below hB1 (some b))
  have HB1 := Lib.hid (Below.step hB hB1)
  have BL1 := Lib.hid hb1; have BP1 := Lib.hid hp1
  have HS1 := Lib.hid hs1
  clear hW1 hB1 hB hblk hs1
  have b0 := hb1.cell (j := 0) rfl
  have f0 := hb1.frozen 0
  have p4 := hp1.cell (j := 4) rfl
  clear hp1 hb1
  have w1 : IntKind.i64.wrap (L - 1) = L - 1 := IntWalk.i64_in _ (by omega)
  have w2 : IntKind.i64.wrap (L - 1 - x.names.length) = L - 1 - x.names.length := IntWalk.i64_in _ (by omega)
  go_still_tail 10, (by kernel_rfl)
  change wpList _ _ _ _ _ W1.drew
  clear b0 f0 p4 w1 w2
  go_wp2_with (refine wpList_store_blk b 0 [] [_] [] [.int .i64 (L - 1 - x.names.length)] 2 rfl 2 (.tmp 19) _ rfl rfl rfl rfl BL1.out rfl (by kernel_rfl) (by intro v hv; rw [List.mem_singleton.1 hv]; rfl) ?_)
  intro W2 hb2 hg2 hs2
  have GR2 := Lib.hid (grown_trans GR1.out (undrew hg2)); have HB2 := Lib.hid (below_grown' HB1.out (undrew hg2) hSb); have BL2 := Lib.hid hb2; have BP2 := Lib.hid (BP1.out.grown (undrew hg2) (by omega))
  have hs2' : W2.heap.size = w.heap.size + 1 := hs2.trans HS1.out
  clear hb2 hg2 hs2 GR1 HB1 BL1 BP1
  have p6 := BP2.out.cell (j := 6) rfl
  go_wp2_with fail
  clear p6
  -- the alternatives' names
  go_loopw [7] (fun i wr => ∃ (k : Nat) (l : Int), k ≤ x.alts.length ∧ i = .int .i64 k ∧ -2097152 ≤ l ∧ l ≤ 20000 ∧ Hid (l = L - 1 - x.names.length - anames (x.alts.take k)) ∧ Hid (Blk wr b 2 [.int .i64 l]) ∧ Hid (W2.grownBy wr (some b))) (fun i _ => x.alts.length - (intOf i).toNat)
  case atStart => exact ⟨0, L - 1 - x.names.length, Nat.zero_le _, rfl, by omega, by omega, Lib.hid (by simp [anames]), BL2, Lib.hid (grown_of_below (Below.refl _ _) _)⟩
  case round =>
    obtain ⟨k, l, hk, rfl, hl0, hl1, HL, HBl, HG⟩ := hrel
    have HBr := Lib.hid (below_grown' HB2.out HG.out hSb)
    have HPr := Lib.hid (BP2.out.grown HG.out (by omega))
    have p6 := HPr.out.cell (j := 6) rfl
    by_cases hlt : k < x.alts.length
    · have hal := anames_le x.alts (k + 1)
      rw [take_snoc' hlt, anames_snoc] at hal
      have hlv := HL.out
      obtain ⟨ad, A1, c1, A3, c3, A4, c4, A5', c5', A6', c6', rfl, hK, _, _, _, g0, g1, g2, g3, g4, g5, g6, g7, g8⟩ := elem_alt (Kd.C_below G6.out HBr.out) k hlt
      clear g0 g2 g3 g4 g5 g6 g7 g8 hK
      have b0 := HBl.out.cell (j := 0) rfl
      have f0 := HBl.out.frozen 0
      go_wp2_with fail
      have hl3 : -2097152 ≤ l - x.alts[k].names.length := by omega
      clear hal hlv
      have w1 : IntKind.i64.wrap (l - x.alts[k].names.length) = l - x.alts[k].names.length := IntWalk.i64_in _ (by omega)
      go_still_tail 13, (by kernel_rfl)
      change wpList _ _ _ _ _ wr.drew
      clear b0 f0 p6 w1 g1
      go_wp2_with (refine wpList_store_blk b 0 [] [_] [] [.int .i64 (l - x.alts[k].names.length)] 2 rfl 2 (.tmp 39) _ rfl rfl rfl rfl HBl.out rfl (by kernel_rfl) (by intro v hv; rw [List.mem_singleton.1 hv]; rfl) ?_)
      intro w3 hb3 hg3 hs3
      have HB3 := Lib.hid hb3; have HG3 := Lib.hid (grown_trans HG.out (undrew hg3)); clear hb3 hg3 hs3 
      go_wp2
      go_roundw
      case rel => exact ⟨k + 1, _, by omega, by go_num, hl3, by omega, Lib.hid (by have := HL.out; rw [take_snoc' hlt, anames_snoc]; omega), HB3, HG3⟩
      case measure => simp [intOf]; omega
    · have hkk : k = x.alts.length := by omega
      have hlv := HL.out
      rw [hkk, List.take_length] at hlv
      have HK := Lib.hid hkk; clear hkk
      have HLV := Lib.hid hlv; clear hlv
      have b0 := HBl.out.cell (j := 0) rfl
      by_cases hneg : l < 0
      · go_wp2
        go_ret
        exact ⟨grown_trans GR2.out HG.out, .inr ⟨rfl, by have := HLV.out; have := HT.out; omega⟩⟩
      · by_cases hdp : 1000 < deep
        · go_wp2
          go_ret
          exact ⟨grown_trans GR2.out HG.out, .inr ⟨rfl, by have := HD.out; omega⟩⟩
        · go_wp2_with fail
          clear b0 p6 BL2 HL HPr HBr
          -- the kids
          go_loopw [8] (fun i wq => ∃ (m : Nat) (l2 : Int), m ≤ x.kids.length ∧ i = .int .i64 m ∧ 0 ≤ l2 ∧ l2 ≤ 20000 ∧ Hid (l2 = l - totals (x.kids.take m)) ∧ Hid (deep + deps (x.kids.take m) ≤ 1000) ∧ Hid (Blk wq b 2 [.int .i64 l2]) ∧ Hid (W2.grownBy wq (some b))) (fun i _ => x.kids.length - (intOf i).toNat)
          case atStart => exact ⟨0, l, Nat.zero_le _, rfl, by omega, by omega, Lib.hid (by simp [totals]), Lib.hid (by simp [deps]; omega), HBl, HG⟩
          case round =>
            obtain ⟨m, l2, hm, rfl, hq0, hq1, HQ, HDq, HBq, HGq⟩ := hrel
            have HBr := Lib.hid (below_grown' HB2.out HGq.out hSb)
            have HPr := Lib.hid (BP2.out.grown HGq.out (by omega))
            have p5 := HPr.out.cell (j := 5) rfl
            by_cases hlt2 : m < x.kids.length
            · obtain ⟨ad, A3', c3', A4', c4', B5, d5, B6, d6, rfl, hK, g0, g1, g2, g3, g4, g5, g6⟩ := elem_core_at G5.out HBr.out m hlt2
              go_wp2_with fail
              have hmb := mem_bulks (List.getElem_mem hlt2)
              refine (IHK.out _ (List.getElem_mem hlt2) (by have := HBK.out; omega) S _ _ b (deep + 1) l2 (by omega) (by omega) hq0 hq1 hK HBr.out hSb HBq.out).mono ?_
              rintro e w3 ⟨hg3, h3⟩
              clear g0 g1 g2 g3 g4 g5 g6 hK p5 hmb
              have HG3 := Lib.hid (grown_trans HGq.out hg3); clear hg3
              have htl := totals_le x.kids (m + 1)
              have hdl := deps_le x.kids (m + 1)
              rw [take_snoc' hlt2, totals_snoc] at htl
              rw [take_snoc' hlt2, deps_snoc] at hdl
              have HTL := Lib.hid htl; have HDL := Lib.hid hdl; clear htl hdl
              rcases h3 with ⟨rfl, h4, h5, h6⟩ | ⟨rfl, h4⟩
              · have H4 := Lib.hid h4; have H5 := Lib.hid h5; have H6 := Lib.hid h6
                have hn0 : 0 ≤ l2 - total x.kids[m] := by omega
                have hn1 : l2 - total x.kids[m] ≤ 20000 := by omega
                clear h4 h5 h6
                go_wp2
                go_roundw
                case rel => exact ⟨m + 1, _, by omega, by go_num, hn0, hn1, Lib.hid (by have := HQ.out; rw [take_snoc' hlt2, totals_snoc]; omega), Lib.hid (by have := HDq.out; have := H5.out; rw [take_snoc' hlt2, deps_snoc]; omega), H6, HG3⟩
                case measure => simp [intOf]; omega
              · have H4 := Lib.hid h4; clear h4
                go_wp2
                go_ret
                exact ⟨grown_trans GR2.out HG3.out, .inr ⟨rfl, by have := H4.out; have := HTL.out; have := HDL.out; have := HQ.out; have := HT.out; have := HD.out; have := HLV.out; omega⟩⟩
            · have hkk : m = x.kids.length := by omega
              have hlv := HQ.out
              have hdv := HDq.out
              rw [hkk, List.take_length] at hlv hdv
              have HK2 := Lib.hid hkk; clear hkk
              have HLV2 := Lib.hid hlv; have HDV2 := Lib.hid hdv; clear hlv hdv
              go_wp2_with fail
              clear p5 HQ HDq HPr HBr
              -- the alternatives' bodies
              go_loopw [9] (fun i wq => ∃ (m : Nat) (l3 : Int), m ≤ x.alts.length ∧ i = .int .i64 m ∧ 0 ≤ l3 ∧ l3 ≤ 20000 ∧ Hid (l3 = l2 - atotals (x.alts.take m)) ∧ Hid (deep + adeps (x.alts.take m) ≤ 1000) ∧ Hid (Blk wq b 2 [.int .i64 l3]) ∧ Hid (W2.grownBy wq (some b))) (fun i _ => x.alts.length - (intOf i).toNat)
              case atStart => exact ⟨0, l2, Nat.zero_le _, rfl, by omega, by omega, Lib.hid (by simp [atotals]), Lib.hid (by simp [adeps]; omega), HBq, HGq⟩
              case round =>
                obtain ⟨m3, l3, hm3, rfl, hr0, hr1, HQ, HDq, HBq3, HGq3⟩ := hrel
                have HBr := Lib.hid (below_grown' HB2.out HGq3.out hSb)
                have HPr := Lib.hid (BP2.out.grown HGq3.out (by omega))
                have p6 := HPr.out.cell (j := 6) rfl
                by_cases hlt3 : m3 < x.alts.length
                · obtain ⟨ad, A1, c1, A3', c3', A4', c4', B5, d5, B6, d6, rfl, _, hK, _, _, g0, g1, g2, g3, g4, g5, g6, g7, g8⟩ := elem_alt_at G6.out HBr.out m3 hlt3
                  go_wp2_with fail
                  have hmb := mem_abulks (List.getElem_mem hlt3)
                  rw [abulk_eq] at hmb
                  refine (IHA.out _ (List.getElem_mem hlt3) (by have := HBK.out; omega) S _ _ b (deep + 1) l3 (by omega) (by omega) hr0 hr1 hK HBr.out hSb HBq3.out).mono ?_
                  rintro e w3 ⟨hg3, h3⟩
                  clear g0 g1 g2 g3 g4 g5 g6 g7 g8 hK p6 hmb
                  have HG3 := Lib.hid (grown_trans HGq3.out hg3); clear hg3
                  have htl := atotals_le x.alts (m3 + 1)
                  have hdl := adeps_le x.alts (m3 + 1)
                  rw [take_snoc' hlt3, atotals_snoc] at htl
                  rw [take_snoc' hlt3, adeps_snoc] at hdl
                  have HTL := Lib.hid htl; have HDL := Lib.hid hdl; clear htl hdl
                  rcases h3 with ⟨rfl, h4, h5, h6⟩ | ⟨rfl, h4⟩
                  · have H4 := Lib.hid h4; have H5 := Lib.hid h5; have H6 := Lib.hid h6
                    have hn0 : 0 ≤ l3 - total x.alts[m3].body := by omega
                    have hn1 : l3 - total x.alts[m3].body ≤ 20000 := by omega
                    clear h4 h5 h6
                    go_wp2
                    go_roundw
                    case rel => exact ⟨m3 + 1, _, by omega, by go_num, hn0, hn1, Lib.hid (by have := HQ.out; rw [take_snoc' hlt3, atotals_snoc]; omega), Lib.hid (by have := HDq.out; have := H5.out; rw [take_snoc' hlt3, adeps_snoc]; omega), H6, HG3⟩
                    case measure => simp [intOf]; omega
                  · have H4 := Lib.hid h4; clear h4
                    go_wp2
                    go_ret
                    exact ⟨grown_trans GR2.out HG3.out, .inr ⟨rfl, by have := H4.out; have := HTL.out; have := HDL.out; have := HQ.out; have := HT.out; have := HD.out; have := HLV.out; have := HLV2.out; omega⟩⟩
                · have hkk : m3 = x.alts.length := by omega
                  have hlv := HQ.out
                  have hdv := HDq.out
                  rw [hkk, List.take_length] at hlv hdv
                  have HK3 := Lib.hid hkk; clear hkk
                  have HLV3 := Lib.hid hlv; have HDV3 := Lib.hid hdv; clear hlv hdv
                  go_wp2
                  go_ret
                  have e1 : (total x : Int) ≤ L := by have := HT.out; have := HLV.out; have := HLV2.out; have := HLV3.out; omega
                  have e2 : L - total x = l3 := by have := HT.out; have := HLV.out; have := HLV2.out; have := HLV3.out; omega
                  exact ⟨grown_trans GR2.out HGq3.out, .inl ⟨rfl, e1, by have := HD.out; have := HDV2.out; have := HDV3.out; omega, by rw [e2]; exact HBq3.out⟩⟩
theorem size_all (x : CoreT) : SizeSaid x := coreInd SizeSaid (fun c hk ha => l13Size_any c hk ha) x
end Go.Proofs.Ytagfphlhahiplaa.C13
namespace Go.Proofs.Ytagfphlhahiplaa.C13
open Go.RowKit Go.Proofs.YtagfphlhahiplaaW.PrintWords Go.Proofs.Ytagfphlhahiplaa.PFnExactFormatCore
set_option linter.unusedVariables false
set_option linter.unusedSimpArgs false
theorem toList_inj {s t : ByteArray} (h : s.toList = t.toList) : s = t := by
  rw [ByteArray.toList_eq, ByteArray.toList_eq] at h
  cases s; cases t
  simp only [ByteArray.mk.injEq]
  exact Array.ext' h
def bigFaultB (m : Bool) (l : List Int) : Bool := if l.length > 40 then true else if l.length > 0 then decide (rd l (l.length - 1 : Int) = 0) else m
theorem spec_BigFault_eq (m : Bool) (l : List Int) (hl : l.length ≤ 9223372036854775807) : spec_BigFault.f m l = some (bigFaultB m l) := by
  unfold spec_BigFault.f bigFaultB
  by_cases h1 : l.length > 40
  · rw [if_pos (by omega), if_pos h1]
  · rw [if_neg (by omega), if_neg h1]
    by_cases h2 : l.length > 0
    · rw [if_pos (by omega), if_pos h2, wrap64_of (by omega) (by omega), if_pos (by omega), if_pos (by omega)]
      by_cases h3 : rd l (l.length - 1 : Int) = 0
      · rw [if_pos h3]; simp [h3]
      · rw [if_neg h3, if_neg (by omega)]; simp [h3]
    · rw [if_neg (by omega), if_neg h2, if_pos (by omega)]
def namesOk (l : List ByteArray) : Prop := (∀ s ∈ l, s ≠ ⟨#[]⟩) ∧ l.Nodup
noncomputable def dec (p : Prop) : Bool := @decide p (Classical.propDecidable p)
theorem dec_true {p : Prop} (h : p) : dec p = true := @decide_eq_true p (Classical.propDecidable p) h
theorem dec_false {p : Prop} (h : ¬ p) : dec p = false := @decide_eq_false p (Classical.propDecidable p) h
theorem dec_iff {p : Prop} : dec p = true ↔ p := @decide_eq_true_iff p (Classical.propDecidable p)
theorem dec_congr {p q : Prop} (h : p ↔ q) : dec p = dec q := by
  by_cases hp : p
  · rw [dec_true hp, dec_true (h.1 hp)]
  · rw [dec_false hp, dec_false (fun hq => hp (h.2 hq))]
theorem dec_not {p : Prop} : (!dec p) = dec (¬ p) := by
  by_cases hp : p
  · rw [dec_true hp, dec_false (fun h => h hp)]; rfl
  · rw [dec_false hp, dec_true hp]; rfl
theorem nodup_take_succ {l : List ByteArray} {i : Nat} (hi : i < l.length) : (l.take (i + 1)).Nodup ↔ (l.take i).Nodup ∧ ∀ j (hj : j < i), l[j] ≠ l[i] := by
  rw [List.take_succ_eq_append_getElem hi, List.nodup_append]
  constructor
  · rintro ⟨h1, _, h3⟩
    refine ⟨h1, fun j hj he => ?_⟩
    exact h3 l[j] (List.mem_take_iff_getElem.2 ⟨j, by omega, rfl⟩) l[i] (by simp) he
  · rintro ⟨h1, h2⟩
    refine ⟨h1, by simp, fun a ha b hb he => ?_⟩
    rw [List.mem_singleton] at hb
    subst hb
    obtain ⟨j, hj, rfl⟩ := List.mem_take_iff_getElem.1 ha
    exact h2 j (by omega) he
theorem nodup_take {l : List ByteArray} (h : l.Nodup) (i : Nat) : (l.take i).Nodup := List.Sublist.nodup (List.take_sublist i l) h
theorem twice_l1 (l : List ByteArray) (hl : l.length ≤ 9223372036854775806) (i : Nat) (hi : i < l.length) (r : Bool) (h0 : (∀ j (hj : j < i), l[j] ≠ l[i]) → ∃ K, ∀ k, K ≤ k → spec_l9Twice.l0 k l ((i + 1 : Nat) : Int) = some r) (h1 : (¬ ∀ j (hj : j < i), l[j] ≠ l[i]) → r = true) :
    ∀ (d j : Nat), i - j = d → (hj : j ≤ i) → (∀ q (hq : q < j), l[q]'(by omega) ≠ l[i]) → ∃ K, ∀ k, K ≤ k → spec_l9Twice.l1 k l i j = some r := by
  intro d
  induction d with
  | zero =>
    intro j hd hj hq
    have : j = i := by omega
    subst this
    obtain ⟨K, hK⟩ := h0 hq
    refine ⟨K + 1, fun k hk => ?_⟩
    obtain ⟨k, rfl⟩ : ∃ m, k = m + 1 := ⟨k - 1, by omega⟩
    simp only [spec_l9Twice.l1]
    rw [if_neg (by omega), wrap64_of (by omega) (by omega)]
    exact hK k (by omega)
  | succ d ih =>
    intro j hd hj hq
    have hji : j < i := by omega
    have e1 : rdOf ByteArray.empty l (i : Int) = l[i] := by simp [rdOf, List.getD_eq_getElem?_getD, hi]
    have e2 : rdOf ByteArray.empty l (j : Int) = l[j] := by simp [rdOf, List.getD_eq_getElem?_getD, show j < l.length by omega]
    by_cases he : l[j] = l[i]
    · refine ⟨1, fun k hk => ?_⟩
      obtain ⟨k, rfl⟩ : ∃ m, k = m + 1 := ⟨k - 1, by omega⟩
      simp only [spec_l9Twice.l1]
      rw [if_pos (by omega), if_pos (by omega), if_pos (by omega), if_pos (by omega), if_pos (by omega), e1, e2, if_pos (by rw [he]), h1 (fun h => h j hji he)]
    · obtain ⟨K, hK⟩ := ih (j + 1) (by omega) (by omega) (fun q hq' => by
        rcases Nat.lt_or_ge q j with h | h
        · exact hq q h
        · have : q = j := by omega
          subst this; exact he)
      refine ⟨K + 1, fun k hk => ?_⟩
      obtain ⟨k, rfl⟩ : ∃ m, k = m + 1 := ⟨k - 1, by omega⟩
      simp only [spec_l9Twice.l1]
      rw [if_pos (by omega), if_pos (by omega), if_pos (by omega), if_pos (by omega), if_pos (by omega), e1, e2, if_neg (fun h => he (toList_inj h).symm), wrap64_of (by omega) (by omega)]
      exact hK k (by omega)
theorem empty_toList : (⟨#[]⟩ : ByteArray).toList = [] := by rw [ByteArray.toList_eq]
theorem twice_l0 (l : List ByteArray) (hl : l.length ≤ 9223372036854775806) : ∀ (d i : Nat), l.length - i = d → i ≤ l.length → (l.take i).Nodup → ∃ K, ∀ k, K ≤ k → spec_l9Twice.l0 k l i = some (dec (¬ l.Nodup)) := by
  intro d
  induction d with
  | zero =>
    intro i hd hi hn
    rw [List.take_of_length_le (by omega)] at hn
    refine ⟨1, fun k hk => ?_⟩
    obtain ⟨k, rfl⟩ : ∃ m, k = m + 1 := ⟨k - 1, by omega⟩
    simp only [spec_l9Twice.l0]
    rw [if_neg (by omega), dec_false (fun h => h hn)]
  | succ d ih =>
    intro i hd hi hn
    have hlt : i < l.length := by omega
    obtain ⟨K, hK⟩ := twice_l1 l hl i hlt (dec (¬ l.Nodup)) (fun h => ih (i + 1) (by omega) (by omega) ((nodup_take_succ hlt).2 ⟨hn, h⟩))
      (fun h => dec_true (fun hn' => h ((nodup_take_succ hlt).1 (nodup_take hn' (i + 1))).2)) i 0 (by omega) (by omega) (fun q hq => absurd hq (by omega))
    refine ⟨K + 1, fun k hk => ?_⟩
    obtain ⟨k, rfl⟩ : ∃ m, k = m + 1 := ⟨k - 1, by omega⟩
    simp only [spec_l9Twice.l0]
    rw [if_pos (by omega)]
    exact hK k (by omega)
theorem twice_eq (l : List ByteArray) (hl : l.length ≤ 9223372036854775806) : ∃ K, ∀ k, K ≤ k → spec_l9Twice.f k l = some (dec (¬ l.Nodup)) :=
  twice_l0 l hl l.length 0 (by omega) (by omega) (by simp)
theorem names_l0 (l : List ByteArray) (hl : l.length ≤ 9223372036854775806) : ∀ (d i : Nat), l.length - i = d → i ≤ l.length → (∀ s ∈ l.take i, s ≠ ⟨#[]⟩) → ∃ K, ∀ k, K ≤ k → spec_l13Names.l0 k l i = some (dec (namesOk l)) := by
  intro d
  induction d with
  | zero =>
    intro i hd hi hn
    rw [List.take_of_length_le (by omega)] at hn
    obtain ⟨K, hK⟩ := twice_eq l hl
    refine ⟨K + 1, fun k hk => ?_⟩
    obtain ⟨k, rfl⟩ : ∃ m, k = m + 1 := ⟨k - 1, by omega⟩
    simp only [spec_l13Names.l0]
    rw [if_neg (by omega), hK k (by omega)]
    simp only [Option.bind_some, dec_not]
    congr 1
    exact dec_congr ⟨fun h => ⟨hn, Classical.not_not.1 h⟩, fun h h' => h' h.2⟩
  | succ d ih =>
    intro i hd hi hn
    have hlt : i < l.length := by omega
    have e1 : rdOf ByteArray.empty l (i : Int) = l[i] := by simp [rdOf, List.getD_eq_getElem?_getD, hlt]
    by_cases he : l[i] = ⟨#[]⟩
    · refine ⟨1, fun k hk => ?_⟩
      obtain ⟨k, rfl⟩ : ∃ m, k = m + 1 := ⟨k - 1, by omega⟩
      simp only [spec_l13Names.l0]
      rw [if_pos (by omega), if_pos (by omega), e1, if_pos (by rw [he]; exact empty_toList), dec_false (fun h => h.1 l[i] (List.getElem_mem hlt) he)]
    · obtain ⟨K, hK⟩ := ih (i + 1) (by omega) (by omega) (fun s hs => by
        rw [List.take_succ_eq_append_getElem hlt] at hs
        rcases List.mem_append.1 hs with hs | hs
        · exact hn s hs
        · rw [List.mem_singleton.1 hs]; exact he)
      refine ⟨K + 1, fun k hk => ?_⟩
      obtain ⟨k, rfl⟩ : ∃ m, k = m + 1 := ⟨k - 1, by omega⟩
      simp only [spec_l13Names.l0]
      rw [if_pos (by omega), if_pos (by omega), e1, if_neg (fun h => he (toList_inj (h.trans empty_toList.symm))), wrap64_of (by omega) (by omega)]
      exact hK k (by omega)
theorem names_eq (l : List ByteArray) (hl : l.length ≤ 9223372036854775806) : ∃ k, spec_l13Names.f k l = some (dec (namesOk l)) := by
  obtain ⟨K, hK⟩ := names_l0 l hl l.length 0 (by omega) (by omega) (by simp)
  exact ⟨K, hK K (Nat.le_refl _)⟩
def prims2 : List (List UInt8) := [[112, 114, 105, 109, 65, 100, 100], [112, 114, 105, 109, 83, 117, 98], [112, 114, 105, 109, 77, 117, 108], [112, 114, 105, 109, 68, 105, 118], [112, 114, 105, 109, 77, 111, 100], [112, 114, 105, 109, 69, 113], [112, 114, 105, 109, 76, 101, 115, 115], [112, 114, 105, 109, 83, 101, 113]]
def prims1 : List (List UInt8) := [[112, 114, 105, 109, 79, 114, 100], [112, 114, 105, 109, 67, 104, 114], [112, 114, 105, 109, 83, 104, 111, 119], [112, 114, 105, 109, 69, 114, 114, 111, 114]]
def primCount (s : ByteArray) : Int := if s.toList ∈ prims2 then 2 else if s.toList ∈ prims1 then 1 else 0
theorem primCount_range (s : ByteArray) : 0 ≤ primCount s ∧ primCount s ≤ 2 := by
  unfold primCount; split
  · omega
  · split <;> omega
theorem spec_PrimCount_eq (s : ByteArray) : spec_PrimCount.f 1 s = some (primCount s) := by
  unfold spec_PrimCount.f primCount
  simp only [spec_PrimCount.j0, prims2, prims1, List.mem_cons, List.not_mem_nil, or_false, beq_iff_eq]
  generalize s.toList = t
  rcases Classical.em (t = ([112, 114, 105, 109, 65, 100, 100] : List UInt8)) with rfl | h0
  · decide
  rcases Classical.em (t = ([112, 114, 105, 109, 83, 117, 98] : List UInt8)) with rfl | h1
  · decide
  rcases Classical.em (t = ([112, 114, 105, 109, 77, 117, 108] : List UInt8)) with rfl | h2
  · decide
  rcases Classical.em (t = ([112, 114, 105, 109, 68, 105, 118] : List UInt8)) with rfl | h3
  · decide
  rcases Classical.em (t = ([112, 114, 105, 109, 77, 111, 100] : List UInt8)) with rfl | h4
  · decide
  rcases Classical.em (t = ([112, 114, 105, 109, 69, 113] : List UInt8)) with rfl | h5
  · decide
  rcases Classical.em (t = ([112, 114, 105, 109, 76, 101, 115, 115] : List UInt8)) with rfl | h6
  · decide
  rcases Classical.em (t = ([112, 114, 105, 109, 83, 101, 113] : List UInt8)) with rfl | h7
  · decide
  rcases Classical.em (t = ([112, 114, 105, 109, 79, 114, 100] : List UInt8)) with rfl | h8
  · decide
  rcases Classical.em (t = ([112, 114, 105, 109, 67, 104, 114] : List UInt8)) with rfl | h9
  · decide
  rcases Classical.em (t = ([112, 114, 105, 109, 83, 104, 111, 119] : List UInt8)) with rfl | h10
  · decide
  rcases Classical.em (t = ([112, 114, 105, 109, 69, 114, 114, 111, 114] : List UInt8)) with rfl | h11
  · decide
  simp only [h0, h1, h2, h3, h4, h5, h6, h7, h8, h9, h10, h11, if_false, or_self]
end Go.Proofs.Ytagfphlhahiplaa.C13
namespace Go.Proofs.Ytagfphlhahiplaa.C13
open Go.RowKit Go.Proofs.YtagfphlhahiplaaW.PrintWords Go.Proofs.Ytagfphlhahiplaa.PFnExactFormatCore
set_option linter.unusedVariables false
set_option linter.unusedSimpArgs false
/-- a call that answers a truth and keeps what was there -/
def AnswersB (f : Nat) (args : Array Value) (w : World) (b : Bool) : Prop := Calls Try.prog f args w fun e w' => e = .returned (.bool b) ∧ Below w.heap.size w w'
section
variable (x : CoreT) (A3 : Option Addr) (c3 : Nat) (A4 : Option Addr) (c4 : Nat) (A5 : Option Addr) (c5 : Nat) (A6 : Option Addr) (c6 : Nat) (w : World)
set_option maxRecDepth 100000 in
set_option maxHeartbeats 1000000 in
theorem shape_p1a (hk2 : (x.kind != 2) = true) (he2 : (x.kind == 2) = false) (hl : 0 < x.limbs.length) : AnswersB 71 #[.agg (cellsC x A3 c3 A4 c4 A5 c5 A6 c6).toArray] w false := by
  unfold AnswersB
  simp only [cellsC]
  go_enter Try.func71, Try.ntmps71
  go_wp2
  all_goals go_ret
  all_goals exact ⟨rfl, (Below.refl _ _).alloc (Nat.le_refl _) _⟩
set_option maxRecDepth 100000 in
set_option maxHeartbeats 1000000 in
theorem shape_p1b (hk2 : (x.kind != 2) = true) (he2 : (x.kind == 2) = false) (hl : x.limbs.length = 0) (hm : x.minus = true) : AnswersB 71 #[.agg (cellsC x A3 c3 A4 c4 A5 c5 A6 c6).toArray] w false := by
  unfold AnswersB
  simp only [cellsC]
  go_enter Try.func71, Try.ntmps71
  go_wp2
  all_goals go_ret
  all_goals exact ⟨rfl, (Below.refl _ _).alloc (Nat.le_refl _) _⟩
set_option maxRecDepth 100000 in
set_option maxHeartbeats 1000000 in
theorem shape_p2a (hk : x.kind = 2) (ha : 0 < x.alts.length) : AnswersB 71 #[.agg (cellsC x A3 c3 A4 c4 A5 c5 A6 c6).toArray] w false := by
  unfold AnswersB
  simp only [cellsC]
  go_enter Try.func71, Try.ntmps71
  go_wp2
  all_goals go_ret
  all_goals exact ⟨rfl, (Below.refl _ _).alloc (Nat.le_refl _) _⟩
set_option maxRecDepth 100000 in
set_option maxHeartbeats 1000000 in
theorem shape_p2b (hk2 : (x.kind != 2) = true) (hk8 : (x.kind != 8) = true) (he2 : (x.kind == 2) = false) (he8 : (x.kind == 8) = false) (hm : x.minus = false) (hl : x.limbs.length = 0) (ha : 0 < x.alts.length) : AnswersB 71 #[.agg (cellsC x A3 c3 A4 c4 A5 c5 A6 c6).toArray] w false := by
  unfold AnswersB
  simp only [cellsC]
  go_enter Try.func71, Try.ntmps71
  go_wp2
  all_goals go_ret
  all_goals exact ⟨rfl, (Below.refl _ _).alloc (Nat.le_refl _) _⟩
set_option maxRecDepth 100000 in
set_option maxHeartbeats 1000000 in
theorem shape_p3a (hk : x.kind = 2) (ha : x.alts.length = 0) (hn : 0 < x.names.length) : AnswersB 71 #[.agg (cellsC x A3 c3 A4 c4 A5 c5 A6 c6).toArray] w false := by
  unfold AnswersB
  simp only [cellsC]
  go_enter Try.func71, Try.ntmps71
  go_wp2
  all_goals go_ret
  all_goals exact ⟨rfl, (Below.refl _ _).alloc (Nat.le_refl _) _⟩
set_option maxRecDepth 100000 in
set_option maxHeartbeats 1000000 in
theorem shape_p3b (hk : x.kind = 8) (hm : x.minus = false) (hl : x.limbs.length = 0) (hn : 0 < x.names.length) : AnswersB 71 #[.agg (cellsC x A3 c3 A4 c4 A5 c5 A6 c6).toArray] w false := by
  unfold AnswersB
  simp only [cellsC]
  go_enter Try.func71, Try.ntmps71
  go_wp2
  all_goals go_ret
  all_goals exact ⟨rfl, (Below.refl _ _).alloc (Nat.le_refl _) _⟩
set_option maxRecDepth 100000 in
set_option maxHeartbeats 1000000 in
theorem shape_p3c (hk2 : (x.kind != 2) = true) (hk8 : (x.kind != 8) = true) (hk6 : (x.kind != 6) = true) (hk7 : (x.kind != 7) = true) (he2 : (x.kind == 2) = false) (he8 : (x.kind == 8) = false) (he6 : (x.kind == 6) = false) (he7 : (x.kind == 7) = false) (hm : x.minus = false) (hl : x.limbs.length = 0) (ha : x.alts.length = 0) (hn : 0 < x.names.length) : AnswersB 71 #[.agg (cellsC x A3 c3 A4 c4 A5 c5 A6 c6).toArray] w false := by
  unfold AnswersB
  simp only [cellsC]
  go_enter Try.func71, Try.ntmps71
  go_wp2
  all_goals go_ret
  all_goals exact ⟨rfl, (Below.refl _ _).alloc (Nat.le_refl _) _⟩
set_option maxRecDepth 100000 in
set_option maxHeartbeats 1000000 in
theorem shape_v1 (hk : x.kind = 1) (hm : x.minus = false) (hl : x.limbs.length = 0) (ha : x.alts.length = 0) (hn : x.names.length = 0) (hs : x.name = ⟨#[]⟩) : AnswersB 71 #[.agg (cellsC x A3 c3 A4 c4 A5 c5 A6 c6).toArray] w false := by
  unfold AnswersB
  simp only [cellsC]
  go_enter Try.func71, Try.ntmps71
  go_wp2
  all_goals go_ret
  all_goals exact ⟨rfl, (Below.refl _ _).alloc (Nat.le_refl _) _⟩
set_option maxRecDepth 100000 in
set_option maxHeartbeats 1000000 in
theorem shape_i1 (hk : x.kind = 2) (ha : x.alts.length = 0) (hn : x.names.length = 0) (hs : x.name.toList.isEmpty = false) (hs2 : x.name.toList = [] ↔ False) : AnswersB 71 #[.agg (cellsC x A3 c3 A4 c4 A5 c5 A6 c6).toArray] w false := by
  unfold AnswersB
  simp only [cellsC]
  go_enter Try.func71, Try.ntmps71
  go_wp2
  all_goals go_ret
  all_goals exact ⟨rfl, (Below.refl _ _).alloc (Nat.le_refl _) _⟩
set_option maxRecDepth 100000 in
set_option maxHeartbeats 1000000 in
theorem shape_c1 (hk : x.kind = 3) (hm : x.minus = false) (hl : x.limbs.length = 0) (ha : x.alts.length = 0) (hn : x.names.length = 0) (hz : ((x.name.size : Int) == 1) = false) : AnswersB 71 #[.agg (cellsC x A3 c3 A4 c4 A5 c5 A6 c6).toArray] w false := by
  unfold AnswersB
  simp only [cellsC]
  go_enter Try.func71, Try.ntmps71
  go_wp2
  all_goals go_ret
  all_goals exact ⟨rfl, (Below.refl _ _).alloc (Nat.le_refl _) _⟩
set_option maxRecDepth 100000 in
set_option maxHeartbeats 1000000 in
theorem shape_v23 (hk : x.kind = 1) (hm : x.minus = false) (hl : x.limbs.length = 0) (ha : x.alts.length = 0) (hn : x.names.length = 0) (hs : x.name.toList.isEmpty = false) (hs2 : x.name.toList = [] ↔ False) : AnswersB 71 #[.agg (cellsC x A3 c3 A4 c4 A5 c5 A6 c6).toArray] w ((x.kids.length : Int) == 0) := by
  unfold AnswersB
  simp only [cellsC]
  go_enter Try.func71, Try.ntmps71
  go_wp2
  all_goals go_ret
  all_goals exact ⟨rfl, (Below.refl _ _).alloc (Nat.le_refl _) _⟩
set_option maxRecDepth 100000 in
set_option maxHeartbeats 1000000 in
theorem shape_i2 (hk : x.kind = 2) (ha : x.alts.length = 0) (hn : x.names.length = 0) (hs : x.name = ⟨#[]⟩) (hq : ((x.kids.length : Int) == 0) = false) : AnswersB 71 #[.agg (cellsC x A3 c3 A4 c4 A5 c5 A6 c6).toArray] w false := by
  unfold AnswersB
  simp only [cellsC]
  go_enter Try.func71, Try.ntmps71
  go_wp2
  all_goals go_ret
  all_goals exact ⟨rfl, (Below.refl _ _).alloc (Nat.le_refl _) _⟩
set_option maxRecDepth 100000 in
set_option maxHeartbeats 1000000 in
theorem shape_c23 (hk : x.kind = 3) (hm : x.minus = false) (hl : x.limbs.length = 0) (ha : x.alts.length = 0) (hn : x.names.length = 0) (hz : x.name.size = 1) : AnswersB 71 #[.agg (cellsC x A3 c3 A4 c4 A5 c5 A6 c6).toArray] w ((x.kids.length : Int) == 0) := by
  unfold AnswersB
  simp only [cellsC]
  go_enter Try.func71, Try.ntmps71
  go_wp2
  all_goals go_ret
  all_goals exact ⟨rfl, (Below.refl _ _).alloc (Nat.le_refl _) _⟩
set_option maxRecDepth 100000 in
set_option maxHeartbeats 1000000 in
theorem shape_t34 (hk : x.kind = 10) (hm : x.minus = false) (hl : x.limbs.length = 0) (ha : x.alts.length = 0) (hn : x.names.length = 0) (hs : x.name.toList.isEmpty = false) (hs2 : x.name.toList = [] ↔ False) (hz : x.name.size ≤ 60000) : AnswersB 71 #[.agg (cellsC x A3 c3 A4 c4 A5 c5 A6 c6).toArray] w ((x.kids.length : Int) == 0) := by
  unfold AnswersB
  simp only [cellsC]
  go_enter Try.func71, Try.ntmps71
  go_wp2
  all_goals go_ret
  all_goals exact ⟨rfl, (Below.refl _ _).alloc (Nat.le_refl _) _⟩
set_option maxRecDepth 100000 in
set_option maxHeartbeats 1000000 in
theorem shape_a23 (hk : x.kind = 5) (hm : x.minus = false) (hl : x.limbs.length = 0) (ha : x.alts.length = 0) (hn : x.names.length = 0) (hs : x.name = ⟨#[]⟩) : AnswersB 71 #[.agg (cellsC x A3 c3 A4 c4 A5 c5 A6 c6).toArray] w (decide (2 ≤ (x.kids.length : Int))) := by
  unfold AnswersB
  simp only [cellsC]
  go_enter Try.func71, Try.ntmps71
  go_wp2
  all_goals go_ret
  all_goals exact ⟨rfl, (Below.refl _ _).alloc (Nat.le_refl _) _⟩
set_option maxRecDepth 100000 in
set_option maxHeartbeats 1000000 in
theorem shape_o1 (hk : x.kind = 4) (hm : x.minus = false) (hl : x.limbs.length = 0) (ha : x.alts.length = 0) (hn : x.names.length = 0) (hs : x.name = ⟨#[]⟩) : AnswersB 71 #[.agg (cellsC x A3 c3 A4 c4 A5 c5 A6 c6).toArray] w false := by
  unfold AnswersB
  simp only [cellsC]
  go_enter Try.func71, Try.ntmps71
  go_wp2
  all_goals go_ret
  all_goals exact ⟨rfl, (Below.refl _ _).alloc (Nat.le_refl _) _⟩
set_option maxRecDepth 100000 in
set_option maxHeartbeats 1000000 in
theorem shape_o2 (hk : x.kind = 4) (hm : x.minus = false) (hl : x.limbs.length = 0) (ha : x.alts.length = 0) (hn : x.names.length = 0) (hs : x.name.toList.isEmpty = false) (hs2 : x.name.toList = [] ↔ False) : AnswersB 71 #[.agg (cellsC x A3 c3 A4 c4 A5 c5 A6 c6).toArray] w true := by
  unfold AnswersB
  simp only [cellsC]
  go_enter Try.func71, Try.ntmps71
  go_wp2
  all_goals go_ret
  all_goals exact ⟨rfl, (Below.refl _ _).alloc (Nat.le_refl _) _⟩
set_option maxRecDepth 100000 in
set_option maxHeartbeats 1000000 in
theorem shape_t1 (hk : x.kind = 10) (hm : x.minus = false) (hl : x.limbs.length = 0) (ha : x.alts.length = 0) (hn : x.names.length = 0) (hs : x.name = ⟨#[]⟩) : AnswersB 71 #[.agg (cellsC x A3 c3 A4 c4 A5 c5 A6 c6).toArray] w false := by
  unfold AnswersB
  simp only [cellsC]
  go_enter Try.func71, Try.ntmps71
  go_wp2
  all_goals go_ret
  all_goals exact ⟨rfl, (Below.refl _ _).alloc (Nat.le_refl _) _⟩
set_option maxRecDepth 100000 in
set_option maxHeartbeats 1000000 in
theorem shape_t2 (hk : x.kind = 10) (hm : x.minus = false) (hl : x.limbs.length = 0) (ha : x.alts.length = 0) (hn : x.names.length = 0) (hs : x.name.toList.isEmpty = false) (hs2 : x.name.toList = [] ↔ False) (hz : 60000 < x.name.size) : AnswersB 71 #[.agg (cellsC x A3 c3 A4 c4 A5 c5 A6 c6).toArray] w false := by
  unfold AnswersB
  simp only [cellsC]
  go_enter Try.func71, Try.ntmps71
  go_wp2
  all_goals go_ret
  all_goals exact ⟨rfl, (Below.refl _ _).alloc (Nat.le_refl _) _⟩
set_option maxRecDepth 100000 in
set_option maxHeartbeats 1000000 in
theorem shape_a1 (hk : x.kind = 5) (hm : x.minus = false) (hl : x.limbs.length = 0) (ha : x.alts.length = 0) (hn : x.names.length = 0) (hs : x.name.toList.isEmpty = false) (hs2 : x.name.toList = [] ↔ False) : AnswersB 71 #[.agg (cellsC x A3 c3 A4 c4 A5 c5 A6 c6).toArray] w false := by
  unfold AnswersB
  simp only [cellsC]
  go_enter Try.func71, Try.ntmps71
  go_wp2
  all_goals go_ret
  all_goals exact ⟨rfl, (Below.refl _ _).alloc (Nat.le_refl _) _⟩
set_option maxRecDepth 100000 in
set_option maxHeartbeats 1000000 in
theorem shape_l1 (hk : x.kind = 6) (hm : x.minus = false) (hl : x.limbs.length = 0) (ha : x.alts.length = 0) (hs : x.name.toList.isEmpty = false) (hs2 : x.name.toList = [] ↔ False) : AnswersB 71 #[.agg (cellsC x A3 c3 A4 c4 A5 c5 A6 c6).toArray] w false := by
  unfold AnswersB
  simp only [cellsC]
  go_enter Try.func71, Try.ntmps71
  go_wp2
  all_goals go_ret
  all_goals exact ⟨rfl, (Below.refl _ _).alloc (Nat.le_refl _) _⟩
set_option maxRecDepth 100000 in
set_option maxHeartbeats 1000000 in
theorem shape_l2 (hk : x.kind = 6) (hm : x.minus = false) (hl : x.limbs.length = 0) (ha : x.alts.length = 0) (hs : x.name = ⟨#[]⟩) (hq : ((x.kids.length : Int) == 1) = false) : AnswersB 71 #[.agg (cellsC x A3 c3 A4 c4 A5 c5 A6 c6).toArray] w false := by
  unfold AnswersB
  simp only [cellsC]
  go_enter Try.func71, Try.ntmps71
  go_wp2
  all_goals go_ret
  all_goals exact ⟨rfl, (Below.refl _ _).alloc (Nat.le_refl _) _⟩
set_option maxRecDepth 100000 in
set_option maxHeartbeats 1000000 in
theorem shape_l3 (hk : x.kind = 6) (hm : x.minus = false) (hl : x.limbs.length = 0) (ha : x.alts.length = 0) (hs : x.name = ⟨#[]⟩) (hq : x.kids.length = 1) (hn : x.names.length = 0) : AnswersB 71 #[.agg (cellsC x A3 c3 A4 c4 A5 c5 A6 c6).toArray] w false := by
  unfold AnswersB
  simp only [cellsC]
  go_enter Try.func71, Try.ntmps71
  go_wp2
  all_goals go_ret
  all_goals exact ⟨rfl, (Below.refl _ _).alloc (Nat.le_refl _) _⟩
set_option maxRecDepth 100000 in
set_option maxHeartbeats 1000000 in
theorem shape_e1 (hk : x.kind = 7) (hm : x.minus = false) (hl : x.limbs.length = 0) (ha : x.alts.length = 0) (hs : x.name.toList.isEmpty = false) (hs2 : x.name.toList = [] ↔ False) : AnswersB 71 #[.agg (cellsC x A3 c3 A4 c4 A5 c5 A6 c6).toArray] w false := by
  unfold AnswersB
  simp only [cellsC]
  go_enter Try.func71, Try.ntmps71
  go_wp2
  all_goals go_ret
  all_goals exact ⟨rfl, (Below.refl _ _).alloc (Nat.le_refl _) _⟩
set_option maxRecDepth 100000 in
set_option maxHeartbeats 1000000 in
theorem shape_e2 (hk : x.kind = 7) (hm : x.minus = false) (hl : x.limbs.length = 0) (ha : x.alts.length = 0) (hs : x.name = ⟨#[]⟩) (hn : x.names.length = 0) : AnswersB 71 #[.agg (cellsC x A3 c3 A4 c4 A5 c5 A6 c6).toArray] w false := by
  unfold AnswersB
  simp only [cellsC]
  go_enter Try.func71, Try.ntmps71
  go_wp2
  all_goals go_ret
  all_goals exact ⟨rfl, (Below.refl _ _).alloc (Nat.le_refl _) _⟩
set_option maxRecDepth 100000 in
set_option maxHeartbeats 1000000 in
theorem shape_e3 (hk : x.kind = 7) (hm : x.minus = false) (hl : x.limbs.length = 0) (ha : x.alts.length = 0) (hs : x.name = ⟨#[]⟩) (hn : 0 < x.names.length) (hnl : x.names.length ≤ 1048576) (hq : ((x.kids.length : Int) == (x.names.length : Int) + 1) = false) : AnswersB 71 #[.agg (cellsC x A3 c3 A4 c4 A5 c5 A6 c6).toArray] w false := by
  unfold AnswersB
  simp only [cellsC]
  go_enter Try.func71, Try.ntmps71
  go_wp2
  all_goals go_ret
  all_goals exact ⟨rfl, (Below.refl _ _).alloc (Nat.le_refl _) _⟩
set_option maxRecDepth 100000 in
set_option maxHeartbeats 1000000 in
theorem shape_k1 (hk : x.kind = 8) (hm : x.minus = false) (hl : x.limbs.length = 0) (hn : x.names.length = 0) (hq : x.kids.length = 0) : AnswersB 71 #[.agg (cellsC x A3 c3 A4 c4 A5 c5 A6 c6).toArray] w false := by
  unfold AnswersB
  simp only [cellsC]
  go_enter Try.func71, Try.ntmps71
  go_wp2
  all_goals go_ret
  all_goals exact ⟨rfl, (Below.refl _ _).alloc (Nat.le_refl _) _⟩
set_option maxRecDepth 100000 in
set_option maxHeartbeats 1000000 in
theorem shape_k2 (hk : x.kind = 8) (hm : x.minus = false) (hl : x.limbs.length = 0) (hn : x.names.length = 0) (hq : 2 < x.kids.length) : AnswersB 71 #[.agg (cellsC x A3 c3 A4 c4 A5 c5 A6 c6).toArray] w false := by
  unfold AnswersB
  simp only [cellsC]
  go_enter Try.func71, Try.ntmps71
  go_wp2
  all_goals go_ret
  all_goals exact ⟨rfl, (Below.refl _ _).alloc (Nat.le_refl _) _⟩
set_option maxRecDepth 100000 in
set_option maxHeartbeats 1000000 in
theorem shape_k3 (hk : x.kind = 8) (hm : x.minus = false) (hl : x.limbs.length = 0) (hn : x.names.length = 0) (hq : x.kids.length = 1) (ha : x.alts.length = 0) : AnswersB 71 #[.agg (cellsC x A3 c3 A4 c4 A5 c5 A6 c6).toArray] w false := by
  unfold AnswersB
  simp only [cellsC]
  go_enter Try.func71, Try.ntmps71
  go_wp2
  all_goals go_ret
  all_goals exact ⟨rfl, (Below.refl _ _).alloc (Nat.le_refl _) _⟩
set_option maxRecDepth 100000 in
set_option maxHeartbeats 1000000 in
theorem shape_z1 (hk1 : (x.kind != 1) = true) (hk2 : (x.kind != 2) = true) (hk3 : (x.kind != 3) = true) (hk4 : (x.kind != 4) = true) (hk5 : (x.kind != 5) = true) (hk6 : (x.kind != 6) = true) (hk7 : (x.kind != 7) = true) (hk8 : (x.kind != 8) = true) (hk9 : (x.kind != 9) = true) (hk10 : (x.kind != 10) = true) (he1 : (x.kind == 1) = false) (he2 : (x.kind == 2) = false) (he3 : (x.kind == 3) = false) (he4 : (x.kind == 4) = false) (he5 : (x.kind == 5) = false) (he6 : (x.kind == 6) = false) (he7 : (x.kind == 7) = false) (he8 : (x.kind == 8) = false) (he9 : (x.kind == 9) = false) (he10 : (x.kind == 10) = false) (hm : x.minus = false) (hl : x.limbs.length = 0) (ha : x.alts.length = 0) (hn : x.names.length = 0) : AnswersB 71 #[.agg (cellsC x A3 c3 A4 c4 A5 c5 A6 c6).toArray] w false := by
  unfold AnswersB
  simp only [cellsC]
  go_enter Try.func71, Try.ntmps71
  go_wp2
  all_goals go_ret
  all_goals exact ⟨rfl, (Below.refl _ _).alloc (Nat.le_refl _) _⟩
end
end Go.Proofs.Ytagfphlhahiplaa.C13
namespace Go.Proofs.Ytagfphlhahiplaa.C13
open Go.RowKit Go.Proofs.YtagfphlhahiplaaW.PrintWords Go.Proofs.Ytagfphlhahiplaa.PFnExactFormatCore
set_option linter.unusedVariables false
set_option linter.unusedSimpArgs false
section
variable (x : CoreT) (A3 : Option Addr) (c3 : Nat) (A4 : Option Addr) (c4 : Nat) (A5 : Option Addr) (c5 : Nat) (A6 : Option Addr) (c6 : Nat) (w : World)
set_option maxRecDepth 100000 in
set_option maxHeartbeats 1000000 in
theorem shape_i3 (g3 : (Kd.int .u32).C w A3 x.limbs.length x.limbs) (l3 : x.limbs.length ≤ c3) (hk : x.kind = 2) (ha : x.alts.length = 0) (hn : x.names.length = 0) (hs : x.name = ⟨#[]⟩) (hq : x.kids.length = 0) :
    AnswersB 71 #[.agg (cellsC x A3 c3 A4 c4 A5 c5 A6 c6).toArray] w (!bigFaultB x.minus x.limbs) := by
  unfold AnswersB
  have hl := g3.2.1
  by_cases hb : 0 < x.limbs.length
  · simp only [cellsC]
    have G3 := Lib.hid g3; clear g3
    go_enter Try.func71, Try.ntmps71
    go_wp2_with fail
    refine (spec_BigFault.calls _ _ _ _ _ _ (Kd.C_below G3.out ((Below.refl _ _).alloc (Nat.le_refl _) _)) l3 (spec_BigFault_eq _ _ hl)).mono ?_
    rintro e w2 ⟨rfl, hb2⟩
    have HB := Lib.hid hb2; clear hb2
    go_wp2
    go_ret
    exact ⟨rfl, below_box HB.out⟩
  · have h0 : x.limbs = [] := List.eq_nil_of_length_eq_zero (by omega)
    rw [h0] at g3 l3 ⊢
    simp only [cellsC, h0, List.length_nil] at g3 l3 ⊢
    have G3 := Lib.hid g3; have L3 := Lib.hid l3; clear g3 hb hl h0 l3
    go_enter Try.func71, Try.ntmps71
    go_wp2_with fail
    refine (spec_BigFault.calls _ _ _ [] _ _ (Kd.C_below G3.out ((Below.refl _ _).alloc (Nat.le_refl _) _)) L3.out (spec_BigFault_eq _ _ (by simp))).mono ?_
    rintro e w2 ⟨rfl, hb2⟩
    have HB := Lib.hid hb2; clear hb2
    go_wp2
    go_ret
    exact ⟨rfl, below_box HB.out⟩
set_option maxRecDepth 100000 in
set_option maxHeartbeats 1000000 in
theorem shape_l4 (g4 : Kd.string.C w A4 x.names.length x.names) (l4 : x.names.length ≤ c4) (hnl : x.names.length ≤ 1048576) (hk : x.kind = 6) (hm : x.minus = false) (hl : x.limbs.length = 0) (ha : x.alts.length = 0) (hs : x.name = ⟨#[]⟩) (hq : x.kids.length = 1) (hn : 0 < x.names.length) :
    AnswersB 71 #[.agg (cellsC x A3 c3 A4 c4 A5 c5 A6 c6).toArray] w (dec (namesOk x.names)) := by
  unfold AnswersB
  simp only [cellsC]
  have G4 := Lib.hid g4; clear g4
  have hn1 : decide (1 ≤ (x.names.length : Int)) = true := by simp; omega
  go_enter Try.func71, Try.ntmps71
  go_wp2_with fail
  obtain ⟨k, hk'⟩ := names_eq x.names (by omega)
  refine (spec_l13Names.calls k _ _ _ _ _ (Kd.C_below G4.out ((Below.refl _ _).alloc (Nat.le_refl _) _)) l4 hk').mono ?_
  rintro e w2 ⟨rfl, hb2⟩
  have HB := Lib.hid (Drawn0.below hb2); clear hb2 hk'
  go_wp2
  go_ret
  exact ⟨rfl, below_box HB.out⟩
set_option maxRecDepth 100000 in
set_option maxHeartbeats 1000000 in
theorem shape_e4 (g4 : Kd.string.C w A4 x.names.length x.names) (l4 : x.names.length ≤ c4) (hnl : x.names.length ≤ 1048576) (hk : x.kind = 7) (hm : x.minus = false) (hl : x.limbs.length = 0) (ha : x.alts.length = 0) (hs : x.name = ⟨#[]⟩) (hq : ((x.kids.length : Int) == (x.names.length : Int) + 1) = true) (hn : 0 < x.names.length) :
    AnswersB 71 #[.agg (cellsC x A3 c3 A4 c4 A5 c5 A6 c6).toArray] w (dec (namesOk x.names)) := by
  unfold AnswersB
  simp only [cellsC]
  have G4 := Lib.hid g4; clear g4
  have hn1 : decide (1 ≤ (x.names.length : Int)) = true := by simp; omega
  go_enter Try.func71, Try.ntmps71
  go_wp2_with fail
  obtain ⟨k, hk'⟩ := names_eq x.names (by omega)
  refine (spec_l13Names.calls k _ _ _ _ _ (Kd.C_below G4.out ((Below.refl _ _).alloc (Nat.le_refl _) _)) l4 hk').mono ?_
  rintro e w2 ⟨rfl, hb2⟩
  have HB := Lib.hid (Drawn0.below hb2); clear hb2 hk'
  go_wp2
  go_ret
  exact ⟨rfl, below_box HB.out⟩
set_option maxRecDepth 100000 in
set_option maxHeartbeats 1000000 in
theorem shape_r (hk : x.kind = 9) (hm : x.minus = false) (hl : x.limbs.length = 0) (ha : x.alts.length = 0) (hn : x.names.length = 0) :
    AnswersB 71 #[.agg (cellsC x A3 c3 A4 c4 A5 c5 A6 c6).toArray] w (decide (0 < primCount x.name) && ((x.kids.length : Int) == primCount x.name)) := by
  unfold AnswersB
  simp only [cellsC]
  have hpe := spec_PrimCount_eq x.name
  generalize primCount x.name = p at *
  have HPE := Lib.hid hpe; clear hpe
  go_enter Try.func71, Try.ntmps71
  go_wp2_with fail
  refine (spec_PrimCount.calls 1 _ _ _ HPE.out).mono ?_
  rintro e w2 ⟨rfl, hb2⟩
  have HB := Lib.hid (Drawn0.below hb2); clear hb2
  by_cases hp : 0 < p
  · have hp1 : decide (0 < p) = true := decide_eq_true hp
    have hc := bcell HB.out
    go_wp2_with fail
    clear hc
    refine (spec_PrimCount.calls 1 _ _ _ HPE.out).mono ?_
    rintro e w3 ⟨rfl, hb3⟩
    have HB3 := Lib.hid (Below.step HB.out (Drawn0.below hb3)); clear hb3
    go_wp2
    go_ret
    exact ⟨by simp [hp], below_box HB3.out⟩
  · have hp1 : decide (0 < p) = false := decide_eq_false hp
    go_wp2
    go_ret
    exact ⟨by rw [hp1]; rfl, below_box HB.out⟩
end
end Go.Proofs.Ytagfphlhahiplaa.C13
namespace Go.Proofs.Ytagfphlhahiplaa.C13
open Go.RowKit Go.Proofs.YtagfphlhahiplaaW.PrintWords Go.Proofs.Ytagfphlhahiplaa.PFnExactFormatCore
set_option linter.unusedVariables false
set_option linter.unusedSimpArgs false
theorem infoS : (Try.prog.info? 9).map (fun i => (i.zero, i.size, i.bytes)) = some (some (.string ⟨#[]⟩), 1, 16) := by kernel_rfl
theorem own_empty (w : World) (e : TypeId) (n : Nat) (hn : n = w.heap.size) : (w.alloc (.cells #[] e)).ownsRow n e 1 (.slice (some ⟨n, 0, none⟩) 0 0) 0 [] := by
  subst hn
  exact ⟨rfl, .inr ⟨_, 0, #[], rfl, Nat.le_refl _, blk_made w e #[], Nat.le_refl _, by simp [maxLen], rfl, rfl⟩⟩
theorem ownsRow_below {w w' : World} {base : Nat} {e : TypeId} {size : Nat} {v : Value} {n : Nat} {xs : List Value} (h : w.ownsRow base e size v n xs) (hb : Below w.heap.size w w') : w'.ownsRow base e size v n xs :=
  h.kept (grown_of_below hb none) (by cases hv : v.ownBlock <;> simp)
theorem own_base' {w : World} {base : Nat} {e : TypeId} {size : Nat} {v : Value} {n : Nat} {xs : List Value} (h : w.ownsRow base e size v n xs) : ∀ k, v.ownBlock = some k → base ≤ k := by
  intro k hk
  rcases h.2 with ⟨rfl, _⟩ | ⟨g, cap, cur, rfl, hg, _⟩
  · cases hk
  · simp only [Value.ownBlock] at hk; injection hk with hk; omega
def altsNames (l : List AltT) : Prop := ∀ a ∈ l, a.con ≠ ⟨#[]⟩ ∧ namesOk a.names
def consOk (l : List AltT) : Prop := altsNames l ∧ (l.map (·.con)).Nodup
section
variable (x : CoreT) (A3 : Option Addr) (c3 : Nat) (A4 : Option Addr) (c4 : Nat) (A5 : Option Addr) (c5 : Nat) (A6 : Option Addr) (c6 : Nat) (w : World)
set_option maxRecDepth 100000 in
set_option maxHeartbeats 1000000 in
theorem shape_k4 (hbk : bulk x ≤ 1048576) (g6 : IA.C w A6 x.alts.length x.alts) (l6 : x.alts.length ≤ c6) (hk : x.kind = 8) (hm : x.minus = false) (hl : x.limbs.length = 0) (hn : x.names.length = 0) (hq : x.kids.length = 2) :
    AnswersB 71 #[.agg (cellsC x A3 c3 A4 c4 A5 c5 A6 c6).toArray] w (dec (consOk x.alts)) := by
  unfold AnswersB
  simp only [cellsC]
  rw [bulk_eq] at hbk
  have hla : x.alts.length ≤ 1048576 := by have := len_abulks x.alts; omega
  have HBK := Lib.hid hbk; clear hbk
  obtain ⟨r, hr⟩ : ∃ r, r = dec (consOk x.alts) := ⟨_, rfl⟩
  rw [← hr]
  have HR := Lib.hid hr; clear hr
  have G6 := Lib.hid g6; clear g6
  obtain ⟨i0, hi, hz0, hz1, hz2⟩ := info_parts infoS
  have HI := Lib.hid hi; have HZ0 := Lib.hid hz0; have HZ1 := Lib.hid hz1; have HZ2 := Lib.hid hz2; clear hi hz0 hz1 hz2
  simp only [hk, hm, hl, hn, hq]
  have HKe := Lib.hid hk; have HMe := Lib.hid hm; have HLe := Lib.hid hl; have HNe := Lib.hid hn; have HQe := Lib.hid hq
  clear hk hm hl hn hq
  go_enter Try.func71, Try.ntmps71
  go_wp2_with fail
  obtain ⟨W1, hW1, hp1, hB1, hs1⟩ := boxed w [.int .i64 x.kind, .string x.name, .bool x.minus, .slice A3 x.limbs.length c3, .slice A4 x.names.length c4, .slice A5 x.kids.length c5, .slice A6 x.alts.length c6] 36
  rw [HKe.out, HMe.out, HLe.out, HNe.out, HQe.out] at hW1 hp1
  rw [← hW1]
  have BP := Lib.hid hp1; have HB1 := Lib.hid hB1; have HS1 := Lib.hid hs1
  clear hp1 hB1 hs1 hW1
  go_loopw [6, 7] (fun v i wr => ∃ (k : Nat), k ≤ x.alts.length ∧ i = .int .i64 k ∧ Hid (altsNames (x.alts.take k)) ∧ Hid (wr.ownsRow (w.heap.size + 1) 9 1 v k (encS ((x.alts.map (·.con)).take k))) ∧ Hid (Below W1.heap.size W1 wr)) (fun _ i _ => x.alts.length - (intOf i).toNat)
  case atStart => exact ⟨0, Nat.zero_le _, rfl, Lib.hid (fun a ha => by simp at ha), Lib.hid (own_empty W1 _ _ HS1.out.symm), Lib.hid (Below.alloc (Below.refl _ _) (Nat.le_refl _) _)⟩
  case round =>
    obtain ⟨k, hk', rfl, HN, HOW, HB⟩ := hrel
    have HBw := Lib.hid (HB1.out.trans (HB.out.mono (by have := HS1.out; omega)))
    have HP := Lib.hid (BP.out.below HB.out)
    have p6 := HP.out.cell (j := 6) rfl
    by_cases hlt : k < x.alts.length
    · obtain ⟨ad, A1, c1, A3', c3', A4', c4', B5, d5, B6, d6, rfl, _, _, l1, hnm, g0, g1, g2, g3, g4, g5, g6, g7, g8⟩ := elem_alt_at G6.out HBw.out k hlt
      clear g2 g3 g4 g5 g6 g7 g8
      by_cases hce : x.alts[k].con = ⟨#[]⟩
      · rw [hce] at g0
        have HCE := Lib.hid hce; clear hce
        go_wp2
        go_ret
        exact ⟨by rw [HR.out, dec_false (fun h => (h.1 _ (List.getElem_mem hlt)).1 HCE.out)]; rfl, HBw.out⟩
      · have hne : x.alts[k].con.toList.isEmpty = false := by
          cases h : x.alts[k].con.toList with
          | nil => exact absurd (toList_inj (h.trans empty_toList.symm)) hce
          | cons a b => rfl
        have hne2 : x.alts[k].con.toList = [] ↔ False := ⟨(fun h => by rw [h] at hne; cases hne), False.elim⟩
        have HCE := Lib.hid hce; clear hce
        have hnb := mem_abulks (List.getElem_mem hlt)
        rw [abulk_eq] at hnb
        have hnl : x.alts[k].names.length ≤ 1048576 := by have := len_strsB x.alts[k].names; have := HBK.out; omega
        go_wp2_with fail
        obtain ⟨m, hm'⟩ := names_eq x.alts[k].names (by omega)
        refine (spec_l13Names.calls m _ _ _ _ _ (Kd.C_below hnm HBw.out) l1 hm').mono ?_
        rintro e w2 ⟨rfl, hb2⟩
        replace hb2 := Drawn0.below hb2
        have HB2 := Lib.hid hb2
        clear hb2 hm' hnm hnb hnl
        by_cases hno : namesOk x.alts[k].names
        · rw [dec_true hno]
          have g0' := cell_later' HB2.out g0
          have p6' := cell_later' HB2.out p6
          have HOW2 := Lib.hid (ownsRow_below HOW.out HB2.out)
          have HBB := Lib.hid (Below.step HB.out HB2.out)
          have HN2 := Lib.hid (show altsNames (x.alts.take (k + 1)) from by
            intro a ha
            rw [take_snoc' hlt] at ha
            rcases List.mem_append.1 ha with ha | ha
            · exact HN.out a ha
            · rw [List.mem_singleton.1 ha]; exact ⟨HCE.out, hno⟩)
          clear g0 p6 g1 HP
          have HLT := Lib.hid hlt
          go_wp2_with (at_builtin; refine print_append_cells (w0 := W1) (w.heap.size + 1) rfl _ _ 25 9 (.string ⟨#[]⟩) 1 16 rfl Try.underlying25 infoS rfl (by decide) (by decide) u6 k (encS ((x.alts.map (·.con)).take k)) [.string x.alts[k].con] rfl rfl rfl (by intro v hv; rw [List.mem_singleton.1 hv]; rfl) HOW2.out (by have := HBB.out; rw [HS1.out] at this; exact this) (by have := HBB.out.size; have := HS1.out; omega) (by omega) ?_)
          intro v1 w3 hown3 hb3 hg3 _
          have HOW3 := Lib.hid hown3; have HB3 := Lib.hid (show Below W1.heap.size W1 w3 from by rw [HS1.out]; exact hb3)
          clear hown3 hb3 hg3 g0' p6'
          go_wp2
          go_roundw
          case rel => exact ⟨k + 1, by omega, by go_num, HN2, Lib.hid (by have := HOW3.out; have e : (x.alts.map (·.con)).take (k + 1) = (x.alts.map (·.con)).take k ++ [x.alts[k].con] := by { rw [take_snoc' (l := x.alts.map (·.con)) (by rw [List.length_map]; exact hlt), List.getElem_map]; rfl }; rw [e]; unfold encS at this ⊢; rw [List.map_append]; exact this), HB3⟩
          case measure => simp [intOf]; omega
        · rw [dec_false hno]
          go_wp2
          go_ret
          exact ⟨by rw [HR.out, dec_false (fun h => hno (h.1 _ (List.getElem_mem hlt)).2)]; rfl, Below.step HBw.out HB2.out⟩
    · have hkk : k = x.alts.length := by omega
      have hnn := HN.out
      have how := HOW.out
      rw [hkk, List.take_length] at hnn
      rw [hkk, List.take_of_length_le (by rw [List.length_map]; exact Nat.le_refl _)] at how
      have HKK := Lib.hid hkk; clear hkk
      obtain ⟨F, hrow, _, _⟩ := row_of_own how
      obtain ⟨A, c, rfl, hlc, hC⟩ := Row.readsS (l := x.alts.map (·.con)) (by rw [List.length_map]; exact hrow)
      have HNN := Lib.hid hnn; have HC := Lib.hid hC
      clear hnn how hrow hC
      rw [List.length_map]
      go_wp2_with fail
      obtain ⟨K, hK⟩ := twice_eq (x.alts.map (·.con)) (by rw [List.length_map]; omega)
      refine (Calls.mono (by have := spec_l9Twice.calls K _ c _ _ wr HC.out hlc (hK K (Nat.le_refl _)); rw [List.length_map] at this; exact this) ?_)
      rintro e w2 ⟨rfl, hb2⟩
      have HB2 := Lib.hid (Below.step HBw.out (Drawn0.below hb2)); clear hb2 hK
      go_wp2
      go_ret
      exact ⟨by rw [HR.out]; show Ending.returned (Value.bool (!dec _)) = _; rw [dec_not]; congr 2; exact dec_congr ⟨fun h => ⟨HNN.out, Classical.not_not.1 h⟩, fun h h' => h' h.2⟩, HB2.out⟩
set_option maxRecDepth 100000 in
set_option maxHeartbeats 1000000 in
theorem shape_k5 (hbk : bulk x ≤ 1048576) (g6 : IA.C w A6 x.alts.length x.alts) (l6 : x.alts.length ≤ c6) (hk : x.kind = 8) (hm : x.minus = false) (hl : x.limbs.length = 0) (hn : x.names.length = 0) (hq : x.kids.length = 1) (hq2 : 0 < x.alts.length) :
    AnswersB 71 #[.agg (cellsC x A3 c3 A4 c4 A5 c5 A6 c6).toArray] w (dec (consOk x.alts)) := by
  unfold AnswersB
  simp only [cellsC]
  rw [bulk_eq] at hbk
  have hla : x.alts.length ≤ 1048576 := by have := len_abulks x.alts; omega
  have HBK := Lib.hid hbk; clear hbk
  obtain ⟨r, hr⟩ : ∃ r, r = dec (consOk x.alts) := ⟨_, rfl⟩
  rw [← hr]
  have HR := Lib.hid hr; clear hr
  have G6 := Lib.hid g6; clear g6
  obtain ⟨i0, hi, hz0, hz1, hz2⟩ := info_parts infoS
  have HI := Lib.hid hi; have HZ0 := Lib.hid hz0; have HZ1 := Lib.hid hz1; have HZ2 := Lib.hid hz2; clear hi hz0 hz1 hz2
  have hq3 : ((x.alts.length : Int) == 0) = false := beq_eq_false_iff_ne.2 (by omega)
  simp only [hk, hm, hl, hn, hq]
  have HKe := Lib.hid hk; have HMe := Lib.hid hm; have HLe := Lib.hid hl; have HNe := Lib.hid hn; have HQe := Lib.hid hq
  clear hk hm hl hn hq
  go_enter Try.func71, Try.ntmps71
  go_wp2_with fail
  obtain ⟨W1, hW1, hp1, hB1, hs1⟩ := boxed w [.int .i64 x.kind, .string x.name, .bool x.minus, .slice A3 x.limbs.length c3, .slice A4 x.names.length c4, .slice A5 x.kids.length c5, .slice A6 x.alts.length c6] 36
  rw [HKe.out, HMe.out, HLe.out, HNe.out, HQe.out] at hW1 hp1
  rw [← hW1]
  have BP := Lib.hid hp1; have HB1 := Lib.hid hB1; have HS1 := Lib.hid hs1
  clear hp1 hB1 hs1 hW1
  go_loopw [6, 7] (fun v i wr => ∃ (k : Nat), k ≤ x.alts.length ∧ i = .int .i64 k ∧ Hid (altsNames (x.alts.take k)) ∧ Hid (wr.ownsRow (w.heap.size + 1) 9 1 v k (encS ((x.alts.map (·.con)).take k))) ∧ Hid (Below W1.heap.size W1 wr)) (fun _ i _ => x.alts.length - (intOf i).toNat)
  case atStart => exact ⟨0, Nat.zero_le _, rfl, Lib.hid (fun a ha => by simp at ha), Lib.hid (own_empty W1 _ _ HS1.out.symm), Lib.hid (Below.alloc (Below.refl _ _) (Nat.le_refl _) _)⟩
  case round =>
    obtain ⟨k, hk', rfl, HN, HOW, HB⟩ := hrel
    have HBw := Lib.hid (HB1.out.trans (HB.out.mono (by have := HS1.out; omega)))
    have HP := Lib.hid (BP.out.below HB.out)
    have p6 := HP.out.cell (j := 6) rfl
    by_cases hlt : k < x.alts.length
    · obtain ⟨ad, A1, c1, A3', c3', A4', c4', B5, d5, B6, d6, rfl, _, _, l1, hnm, g0, g1, g2, g3, g4, g5, g6, g7, g8⟩ := elem_alt_at G6.out HBw.out k hlt
      clear g2 g3 g4 g5 g6 g7 g8
      by_cases hce : x.alts[k].con = ⟨#[]⟩
      · rw [hce] at g0
        have HCE := Lib.hid hce; clear hce
        go_wp2
        go_ret
        exact ⟨by rw [HR.out, dec_false (fun h => (h.1 _ (List.getElem_mem hlt)).1 HCE.out)]; rfl, HBw.out⟩
      · have hne : x.alts[k].con.toList.isEmpty = false := by
          cases h : x.alts[k].con.toList with
          | nil => exact absurd (toList_inj (h.trans empty_toList.symm)) hce
          | cons a b => rfl
        have hne2 : x.alts[k].con.toList = [] ↔ False := ⟨(fun h => by rw [h] at hne; cases hne), False.elim⟩
        have HCE := Lib.hid hce; clear hce
        have hnb := mem_abulks (List.getElem_mem hlt)
        rw [abulk_eq] at hnb
        have hnl : x.alts[k].names.length ≤ 1048576 := by have := len_strsB x.alts[k].names; have := HBK.out; omega
        go_wp2_with fail
        obtain ⟨m, hm'⟩ := names_eq x.alts[k].names (by omega)
        refine (spec_l13Names.calls m _ _ _ _ _ (Kd.C_below hnm HBw.out) l1 hm').mono ?_
        rintro e w2 ⟨rfl, hb2⟩
        replace hb2 := Drawn0.below hb2
        have HB2 := Lib.hid hb2
        clear hb2 hm' hnm hnb hnl
        by_cases hno : namesOk x.alts[k].names
        · rw [dec_true hno]
          have g0' := cell_later' HB2.out g0
          have p6' := cell_later' HB2.out p6
          have HOW2 := Lib.hid (ownsRow_below HOW.out HB2.out)
          have HBB := Lib.hid (Below.step HB.out HB2.out)
          have HN2 := Lib.hid (show altsNames (x.alts.take (k + 1)) from by
            intro a ha
            rw [take_snoc' hlt] at ha
            rcases List.mem_append.1 ha with ha | ha
            · exact HN.out a ha
            · rw [List.mem_singleton.1 ha]; exact ⟨HCE.out, hno⟩)
          clear g0 p6 g1 HP
          have HLT := Lib.hid hlt
          go_wp2_with (at_builtin; refine print_append_cells (w0 := W1) (w.heap.size + 1) rfl _ _ 25 9 (.string ⟨#[]⟩) 1 16 rfl Try.underlying25 infoS rfl (by decide) (by decide) u6 k (encS ((x.alts.map (·.con)).take k)) [.string x.alts[k].con] rfl rfl rfl (by intro v hv; rw [List.mem_singleton.1 hv]; rfl) HOW2.out (by have := HBB.out; rw [HS1.out] at this; exact this) (by have := HBB.out.size; have := HS1.out; omega) (by omega) ?_)
          intro v1 w3 hown3 hb3 hg3 _
          have HOW3 := Lib.hid hown3; have HB3 := Lib.hid (show Below W1.heap.size W1 w3 from by rw [HS1.out]; exact hb3)
          clear hown3 hb3 hg3 g0' p6'
          go_wp2
          go_roundw
          case rel => exact ⟨k + 1, by omega, by go_num, HN2, Lib.hid (by have := HOW3.out; have e : (x.alts.map (·.con)).take (k + 1) = (x.alts.map (·.con)).take k ++ [x.alts[k].con] := by { rw [take_snoc' (l := x.alts.map (·.con)) (by rw [List.length_map]; exact hlt), List.getElem_map]; rfl }; rw [e]; unfold encS at this ⊢; rw [List.map_append]; exact this), HB3⟩
          case measure => simp [intOf]; omega
        · rw [dec_false hno]
          go_wp2
          go_ret
          exact ⟨by rw [HR.out, dec_false (fun h => hno (h.1 _ (List.getElem_mem hlt)).2)]; rfl, Below.step HBw.out HB2.out⟩
    · have hkk : k = x.alts.length := by omega
      have hnn := HN.out
      have how := HOW.out
      rw [hkk, List.take_length] at hnn
      rw [hkk, List.take_of_length_le (by rw [List.length_map]; exact Nat.le_refl _)] at how
      have HKK := Lib.hid hkk; clear hkk
      obtain ⟨F, hrow, _, _⟩ := row_of_own how
      obtain ⟨A, c, rfl, hlc, hC⟩ := Row.readsS (l := x.alts.map (·.con)) (by rw [List.length_map]; exact hrow)
      have HNN := Lib.hid hnn; have HC := Lib.hid hC
      clear hnn how hrow hC
      rw [List.length_map]
      go_wp2_with fail
      obtain ⟨K, hK⟩ := twice_eq (x.alts.map (·.con)) (by rw [List.length_map]; omega)
      refine (Calls.mono (by have := spec_l9Twice.calls K _ c _ _ wr HC.out hlc (hK K (Nat.le_refl _)); rw [List.length_map] at this; exact this) ?_)
      rintro e w2 ⟨rfl, hb2⟩
      have HB2 := Lib.hid (Below.step HBw.out (Drawn0.below hb2)); clear hb2 hK
      go_wp2
      go_ret
      exact ⟨by rw [HR.out]; show Ending.returned (Value.bool (!dec _)) = _; rw [dec_not]; congr 2; exact dec_congr ⟨fun h => ⟨HNN.out, Classical.not_not.1 h⟩, fun h h' => h' h.2⟩, HB2.out⟩
end
end Go.Proofs.Ytagfphlhahiplaa.C13
