import Derived.Test.YtnoammmohdmnjaaGreatU4
set_option maxRecDepth 100000
set_option maxHeartbeats 16000000
set_option linter.unusedVariables false
set_option linter.unusedSimpArgs false
namespace Go.Proofs.YtnoammmohdmnjaaGreat.C13
open Go.RowKit Go.Proofs.YtnoammmohdmnjaaGreatW.PrintWords
open List renaming setIfInBounds_toArray → Jla, set_cons_zero → Jlb, set_cons_succ → Jlc
def Blk (w : World) (g : Nat) (e : TypeId) (cs : List Value) : Prop := w.heap[g]? = some (.cells cs.toArray e (0, 0))
def Row (w : World) (e : TypeId) (v : Value) (n : Nat) (cells : List Value) (F : List Nat) : Prop :=
 (v = .slice none 0 0 ∧ n = 0 ∧ cells = [] ∧ F = []) ∨
  ∃ g cap spare, v = .slice (some ⟨g, 0, none⟩) n cap ∧ n ≤ cap ∧ cap ≤ 9223372036854775807 ∧ Blk w g e (cells ++ spare) ∧ F = [g]
def Gz (k : IntKind) (l : List Int) : List Value := l.map (Value.int k)
def Xa (l : List ByteArray) : List Value := l.map Value.string
mutual
def Ke (e ea : TypeId) (w : World) : CoreT → List Value → List Nat → Prop
 | ⟨kind, name, minus, limbs, names, kids, alts⟩, cs, F => ∃ v3 v4 v5 v6 F3 F4 F5 F6 G5 G6 c5 c6, cs = [.int .i64 kind, .string name, .bool minus, v3, v4, v5, v6] ∧ F = F3 ++ (F4 ++ ((F5 ++ G5) ++ (F6 ++ G6))) ∧
   Row w 106 v3 limbs.length (Gz .u32 limbs) F3 ∧ Row w 9 v4 names.length (Xa names) F4 ∧
   (Row w e v5 kids.length c5 F5 ∧ Ju e ea w kids c5 G5) ∧ (Row w ea v6 alts.length c6 F6 ∧ Jt e ea w alts c6 G6)
def Ju (e ea : TypeId) (w : World) : List CoreT → List Value → List Nat → Prop
 | [], cs, F => cs = [] ∧ F = []
 | c :: r, cs, F => ∃ c1 c2 F1 F2, cs = c1 ++ c2 ∧ F = F1 ++ F2 ∧ Ke e ea w c c1 F1 ∧ Ju e ea w r c2 F2
def Jt (e ea : TypeId) (w : World) : List AltT → List Value → List Nat → Prop
 | [], cs, F => cs = [] ∧ F = []
 | a :: r, cs, F => ∃ c1 c2 F1 F2, cs = c1 ++ c2 ∧ F = F1 ++ F2 ∧ qet e ea w a c1 F1 ∧ Jt e ea w r c2 F2
def qet (e ea : TypeId) (w : World) : AltT → List Value → List Nat → Prop
 | ⟨con, names, body⟩, cs, F => ∃ v1 cb F1 F2, cs = .string con :: v1 :: cb ∧ F = F1 ++ F2 ∧ Row w 9 v1 names.length (Xa names) F1 ∧ Ke e ea w body cb F2
end
theorem Xi (e ea : TypeId) (w : World) (x : CoreT) (cs : List Value) (F : List Nat) : Ke e ea w x cs F =
  ∃ v3 v4 v5 v6 F3 F4 F5 F6 G5 G6 c5 c6, cs = [.int .i64 x.kind, .string x.name, .bool x.minus, v3, v4, v5, v6] ∧ F = F3 ++ (F4 ++ ((F5 ++ G5) ++ (F6 ++ G6))) ∧
   Row w 106 v3 x.limbs.length (Gz .u32 x.limbs) F3 ∧ Row w 9 v4 x.names.length (Xa x.names) F4 ∧
   (Row w e v5 x.kids.length c5 F5 ∧ Ju e ea w x.kids c5 G5) ∧ (Row w ea v6 x.alts.length c6 F6 ∧ Jt e ea w x.alts c6 G6) := by cases x; rw [Ke]
theorem Xw (e ea : TypeId) (w : World) (a : AltT) (cs : List Value) (F : List Nat) : qet e ea w a cs F =
  ∃ v1 cb F1 F2, cs = .string a.con :: v1 :: cb ∧ F = F1 ++ F2 ∧ Row w 9 v1 a.names.length (Xa a.names) F1 ∧ Ke e ea w a.body cb F2 := by cases a; rw [qet]
theorem Blk.lt {w : World} {g e cs} (h : Blk w g e cs) : g < w.heap.size := by
 unfold Blk at h
 rcases Nat.lt_or_ge g w.heap.size with h' | h'
 ·exact h'
 ·simp [Array.getElem?_eq_none h'] at h
theorem Blk.cell {w : World} {g e cs} (h : Blk w g e cs) {j : Nat} {u : Value} (hu : cs[j]? = some u) : w.cell? ⟨g, j, none⟩ = some u := by
 unfold Blk at h
 simp [World.cell?, h, hu]
theorem Blk.frozen {w : World} {g e cs} (h : Blk w g e cs) (j : Nat) : w.frozen? ⟨g, j, none⟩ = false := by
 unfold Blk at h
 simp [World.frozen?, h]
theorem Blk.move {w w' : World} {g e cs} (h : Blk w g e cs) (hm : w'.heap[g]? = w.heap[g]?) : Blk w' g e cs := hm.trans h
theorem Blk.below {w w' : World} {g e cs} (h : Blk w g e cs) (hb : Below w.heap.size w w') : Blk w' g e cs := h.move (hb.block g h.lt)
theorem Row.move {w w' : World} {e v n cells F} (h : Row w e v n cells F) (hm : ∀ k ∈ F, w'.heap[k]? = w.heap[k]?) : Row w' e v n cells F := by
 rcases h with h | ⟨g, cap, spare, h1, h2, h3, h4, rfl⟩
 ·exact .inl h
 ·exact .inr ⟨g, cap, spare, h1, h2, h3, h4.move (hm g (by simp)), rfl⟩
theorem Row.lt {w : World} {e v n cells F} (h : Row w e v n cells F) : ∀ k ∈ F, k < w.heap.size := by
 rcases h with ⟨_, _, _, rfl⟩ | ⟨g, cap, spare, h1, h2, h3, h4, rfl⟩
 ·intro k hk; cases hk
 ·intro k hk; rw [List.mem_singleton.1 hk]; exact h4.lt
theorem Row.slice {w : World} {e v n cells F} (h : Row w e v n cells F) : ∃ A c, v = .slice A n c ∧ n ≤ c := by
 rcases h with ⟨rfl, rfl, _, _⟩ | ⟨g, cap, spare, h1, h2, _⟩
 ·exact ⟨none, 0, rfl, Nat.le_refl _⟩
 ·exact ⟨_, _, h1, h2⟩
theorem Row.reads {α : Type} {R : α → List Value → Prop} {size : Nat} {w : World} {e v cells F} {xs : List α} (h : Row w e v xs.length cells F) (hr : Reps R size xs cells) :
  ∃ A c, v = .slice A xs.length c ∧ xs.length ≤ c ∧ ReadsRow R size w A xs.length xs := by
 rcases h with ⟨rfl, hn, _, _⟩ | ⟨g, cap, spare, rfl, h2, h3, h4, rfl⟩
 ·rw [hn]
  exact ⟨none, 0, rfl, Nat.le_refl _, hn, by omega, fun h => absurd h (by omega)⟩
 ·refine ⟨_, _, rfl, h2, rfl, by omega, fun _ => ⟨_, rfl, fun j p hj => ?_⟩⟩
  have hlt : j < xs.length := (List.getElem?_eq_some_iff.1 hj).1
  have hjs : j * size + size ≤ cells.length := by rw [hr.1, ← Nat.succ_mul]; exact Nat.mul_le_mul_right _ hlt
  refine ⟨(cells.drop (j * size)).take size, by rw [List.length_take, List.length_drop]; omega, hr.2 j p hj, fun i u hu => ?_⟩
  have hi : i < size := by
   have := (List.getElem?_eq_some_iff.1 hu).1
   rw [List.length_take] at this
   omega
  rw [List.getElem?_take_of_lt hi, List.getElem?_drop] at hu
  have : (⟨g, 0, none⟩ : Addr).add (j * size + i) = ⟨g, j * size + i, none⟩ := by simp [Addr.add]; omega
  rw [this]
  exact h4.cell (by rw [List.getElem?_append_left (by omega)]; exact hu)
theorem qfg {α : Type} (enc : α → Value) (xs : List α) : Reps (fun (x : α) (cs : List Value) => cs = [enc x]) 1 xs (xs.map enc) := by
 refine ⟨by simp, fun j p hj => ?_⟩
 obtain ⟨hl, hp⟩ := List.getElem?_eq_some_iff.1 hj
 rw [Nat.mul_one, List.drop_eq_getElem_cons (by simpa using hl)]
 simp [hp]
theorem Row.readsI {w : World} {e v F} {l : List Int} (h : Row w e v l.length (Gz .u32 l) F) : ∃ A c, v = .slice A l.length c ∧ l.length ≤ c ∧ (Kd.int .u32).C w A l.length l :=
 h.reads (R := (Kd.int .u32).K w) (size := 1) (qfg _ l)
theorem Row.readsS {w : World} {e v F} {l : List ByteArray} (h : Row w e v l.length (Xa l) F) : ∃ A c, v = .slice A l.length c ∧ l.length ≤ c ∧ Kd.string.C w A l.length l :=
 h.reads (R := Kd.string.K w) (size := 1) (qfg _ l)
section
variable {P : Program} {ops : Array Oper} {rest : List Oper} {op : Oper} {a : Act} {w : World} {Q : Exit → Act → World → Prop}
theorem f62 {p : Prop} (h : p := by
 obtain ⟨cur', h1', h2', h3'⟩ := qen new pre.length w _ hb hfit
 unfold Blk
 rw [h1']
 have : cur' = (pre ++ (new ++ post)).toArray := by
  apply Array.ext'
  rw [h3']
  simp [List.take_append, List.drop_append, ← hlen]
 rw [this]) : p := h
theorem Qc (g off : Nat) (pre old post new : List Value) (e : TypeId) (hgd : op.guard = none) (ty : TypeId) (x y : Operand) (ho : op.op = .store ty x y)
  (hx : a.eval x = .pointer (some ⟨g, off, none⟩)) (hoff : off = pre.length) (hy : (a.eval y).cells.toList = new) (hb : Blk w g e (pre ++ (old ++ post))) (hlen : old.length = new.length)
  (hi : (P.info? ty).map (·.size) = some new.length) (h1 : ∀ v ∈ new, v.oneCell' = true)
  (h : ∀ w' : World, Blk w' g e (pre ++ (new ++ post)) → w.grownBy w' (some g) → w'.heap.size = w.heap.size → wpList P ops Q rest (a.put op.dst undef) w') : wpList P ops Q (op :: rest) a w := by
 subst hoff
 unfold Blk at hb
 have hfit : pre.length + new.length ≤ (pre ++ (old ++ post)).toArray.size := by simp; omega
 have hrun := qcw (P := P) ty (a.eval y) new hb hy hi hfit h1
 refine wpList_plain hgd fun K hK => ?_
 unfold Oper.wp execOp
 simp only [ho, hx, Sem.run_bind, Sem.run_pure, Result.andThen_ok, hrun]
 have hs := Hr g new pre.length w
 refine hK _ _ (h _ ?_ ⟨hs.1, hs.2.1, hs.2.2.1, by rw [hs.2.2.2]; exact Nat.le_refl _, fun k _ hk => qap new pre.length k (fun e => hk (by rw [e]))⟩ hs.2.2.2)
 exact f62
end
mutual
def dep : CoreT → Nat
 | ⟨_, _, _, _, _, kids, alts⟩ => 1 + max (qdd kids) (Yt alts)
def qdd : List CoreT → Nat
 | [] => 0
 | c :: r => max (dep c) (qdd r)
def Yt : List AltT → Nat
 | [] => 0
 | a :: r => max (adep a) (Yt r)
def adep : AltT → Nat
 | ⟨_, _, b⟩ => dep b
end
theorem Yi (c : CoreT) : dep c = 1 + max (qdd c.kids) (Yt c.alts) := by cases c; rw [dep]
theorem qdl (a : AltT) : adep a = dep a.body := by cases a; rw [adep]
theorem Yz {l : List CoreT} {x : CoreT} (h : x ∈ l) : dep x ≤ qdd l := by
 induction l with
 | nil => cases h
 | cons c r ih =>
  rw [qdd]
  rcases List.mem_cons.1 h with rfl | h
  ·exact Nat.le_max_left _ _
  ·exact Nat.le_trans (ih h) (Nat.le_max_right _ _)
theorem qfo {l : List AltT} {x : AltT} (h : x ∈ l) : dep x.body ≤ Yt l := by
 induction l with
 | nil => cases h
 | cons c r ih =>
  rw [Yt]
  rcases List.mem_cons.1 h with rfl | h
  ·rw [qdl]; exact Nat.le_max_left _ _
  ·exact Nat.le_trans (ih h) (Nat.le_max_right _ _)
section
variable {e ea : TypeId}
theorem qii {w : World} {R : CoreT → List Value → Prop} : ∀ (l : List CoreT) (cs : List Value) (F : List Nat), (∀ x ∈ l, ∀ c F, Ke e ea w x c F → R x c ∧ c.length = 7) → Ju e ea w l cs F → Reps R 7 l cs
 | [], cs, F, _, h => by rw [Ju] at h; rw [h.1]; exact Reps.none _ _
 | c :: r, cs, F, hx, h => by
  rw [Ju] at h
  obtain ⟨c1, c2, F1, F2, rfl, rfl, h1, h2⟩ := h
  have := hx c (by simp) c1 F1 h1
  have ih := qii r c2 F2 (fun x hm => hx x (by simp [hm])) h2
  exact Kd.reps_append (Reps.snoc (Reps.none _ _) this.1 this.2) ih
theorem qih {w : World} {R : AltT → List Value → Prop} : ∀ (l : List AltT) (cs : List Value) (F : List Nat), (∀ x ∈ l, ∀ c F, qet e ea w x c F → R x c ∧ c.length = 9) → Jt e ea w l cs F → Reps R 9 l cs
 | [], cs, F, _, h => by rw [Jt] at h; rw [h.1]; exact Reps.none _ _
 | c :: r, cs, F, hx, h => by
  rw [Jt] at h
  obtain ⟨c1, c2, F1, F2, rfl, rfl, h1, h2⟩ := h
  have := hx c (by simp) c1 F1 h1
  have ih := qih r c2 F2 (fun x hm => hx x (by simp [hm])) h2
  exact Kd.reps_append (Reps.snoc (Reps.none _ _) this.1 this.2) ih
theorem qgp {w : World} {x : CoreT} {cs F} (h : Ke e ea w x cs F) : cs.length = 7 := by
 rw [Xi] at h
 obtain ⟨v3, v4, v5, v6, F3, F4, F5, F6, G5, G6, c5, c6, rfl, _⟩ := h
 rfl
theorem qfd {w : World} {x : AltT} {cs F} (h : qet e ea w x cs F) : cs.length = 9 := by
 rw [Xw] at h
 obtain ⟨v1, cb, F1, F2, rfl, rfl, _, hb⟩ := h
 simp [qgp hb]
theorem qxc (w : World) : ∀ (x : CoreT) (n : Nat), dep x ≤ n → ∀ cs F, Ke e ea w x cs F → (Kd.upto (Hh e ea) 7 (Hg e ea) n).K w x cs := by
 refine Za _ (fun x hk ha => ?_)
 intro n hn cs F h
 rw [Yi] at hn
 obtain ⟨n, rfl⟩ : ∃ m, n = m + 1 := ⟨n - 1, by omega⟩
 rw [Xi] at h
 obtain ⟨v3, v4, v5, v6, F3, F4, F5, F6, G5, G6, c5, c6, rfl, rfl, h3, h4, ⟨h5, k5⟩, ⟨h6, k6⟩⟩ := h
 obtain ⟨A3, d3, rfl, l3, g3⟩ := h3.readsI
 obtain ⟨A4, d4, rfl, l4, g4⟩ := h4.readsS
 obtain ⟨A5, d5, rfl, l5, g5⟩ := h5.reads (qii (R := (Kd.upto (Hh e ea) 7 (Hg e ea) n).K w) _ _ _ (fun y hy c F hc => ⟨hk y hy n (by have := Yz hy; omega) c F hc, qgp hc⟩) k5)
 have hA : ∀ a ∈ x.alts, ∀ c F, qet e ea w a c F → (qop (Kd.upto (Hh e ea) 7 (Hg e ea) n)).K w a c ∧ c.length = 9 := by
  intro a hm c F hc
  refine ⟨?_, qfd hc⟩
  rw [Xw] at hc
  obtain ⟨v1, cb, F1, F2, rfl, rfl, h1, hb⟩ := hc
  obtain ⟨A1, d1, rfl, l1, g1⟩ := h1.readsS
  exact ⟨[_], _, rfl, rfl, ⟨[_], _, rfl, ⟨A1, d1, rfl, l1, g1⟩, ha a hm n (by have := qfo hm; omega) cb F2 hb⟩⟩
 obtain ⟨A6, d6, rfl, l6, g6⟩ := h6.reads (qih (R := (qop (Kd.upto (Hh e ea) 7 (Hg e ea) n)).K w) _ _ _ hA k6)
 have g5' : (Kd.upto (Hh e ea) 7 (Hg e ea) n).C w A5 x.kids.length x.kids := by
  unfold Kd.C; rw [Gd e ea n]; exact g5
 have g6' : (qop (Kd.upto (Hh e ea) 7 (Hg e ea) n)).C w A6 x.alts.length x.alts := by
  unfold Kd.C; rw [show (qop (Kd.upto (Hh e ea) 7 (Hg e ea) n)).sz = 9 from mono_kAlt.sz _ (Ja e ea) (Gd e ea n)]; exact g6
 exact ⟨[_], _, rfl, rfl, ⟨[_], _, rfl, rfl, ⟨[_], _, rfl, rfl, ⟨[_], _, rfl, ⟨A3, d3, rfl, l3, g3⟩, ⟨[_], _, rfl, ⟨A4, d4, rfl, l4, g4⟩, ⟨[_], _, rfl, ⟨A5, d5, rfl, l5, g5'⟩, ⟨A6, d6, rfl, l6, g6'⟩⟩⟩⟩⟩⟩⟩
theorem Yo {w : World} {x : CoreT} {cs F} (h : Ke e ea w x cs F) : (Ja e ea).K w x cs := ⟨dep x, qxc w x _ (Nat.le_refl _) cs F h⟩
theorem qdt {w w' : World} : ∀ (l : List CoreT) (cs : List Value) (F : List Nat), (∀ x ∈ l, ∀ c F, Ke e ea w x c F → (∀ k ∈ F, w'.heap[k]? = w.heap[k]?) → Ke e ea w' x c F) → Ju e ea w l cs F → (∀ k ∈ F, w'.heap[k]? = w.heap[k]?) → Ju e ea w' l cs F
 | [], cs, F, _, h, _ => by rw [Ju] at h ⊢; exact h
 | c :: r, cs, F, hx, h, hm => by
  rw [Ju] at h ⊢
  obtain ⟨c1, c2, F1, F2, rfl, rfl, h1, h2⟩ := h
  exact ⟨c1, c2, F1, F2, rfl, rfl, hx c (by simp) c1 F1 h1 (fun k hk => hm k (by simp [hk])), qdt r c2 F2 (fun x hq => hx x (by simp [hq])) h2 (fun k hk => hm k (by simp [hk]))⟩
theorem qds {w w' : World} : ∀ (l : List AltT) (cs : List Value) (F : List Nat), (∀ x ∈ l, ∀ c F, qet e ea w x c F → (∀ k ∈ F, w'.heap[k]? = w.heap[k]?) → qet e ea w' x c F) → Jt e ea w l cs F → (∀ k ∈ F, w'.heap[k]? = w.heap[k]?) → Jt e ea w' l cs F
 | [], cs, F, _, h, _ => by rw [Jt] at h ⊢; exact h
 | c :: r, cs, F, hx, h, hm => by
  rw [Jt] at h ⊢
  obtain ⟨c1, c2, F1, F2, rfl, rfl, h1, h2⟩ := h
  exact ⟨c1, c2, F1, F2, rfl, rfl, hx c (by simp) c1 F1 h1 (fun k hk => hm k (by simp [hk])), qds r c2 F2 (fun x hq => hx x (by simp [hq])) h2 (fun k hk => hm k (by simp [hk]))⟩
theorem Jy {w w' : World} : ∀ (x : CoreT) cs F, Ke e ea w x cs F → (∀ k ∈ F, w'.heap[k]? = w.heap[k]?) → Ke e ea w' x cs F := by
 refine Za _ (fun x hk ha => ?_)
 intro cs F h hm
 rw [Xi] at h ⊢
 obtain ⟨v3, v4, v5, v6, F3, F4, F5, F6, G5, G6, c5, c6, rfl, rfl, h3, h4, ⟨h5, k5⟩, ⟨h6, k6⟩⟩ := h
 refine ⟨v3, v4, v5, v6, F3, F4, F5, F6, G5, G6, c5, c6, rfl, rfl, h3.move (fun k hk => hm k (by simp [hk])), h4.move (fun k hk => hm k (by simp [hk])), ⟨h5.move (fun k hk => hm k (by simp [hk])), qdt _ _ _ hk k5 (fun k hk => hm k (by simp [hk]))⟩, ⟨h6.move (fun k hk => hm k (by simp [hk])), qds _ _ _ ?_ k6 (fun k hk => hm k (by simp [hk]))⟩⟩
 intro a hq c F hc hmm
 rw [Xw] at hc ⊢
 obtain ⟨v1, cb, F1, F2, rfl, rfl, h1, hb⟩ := hc
 exact ⟨v1, cb, F1, F2, rfl, rfl, h1.move (fun k hk => hmm k (by simp [hk])), ha a hq cb F2 hb (fun k hk => hmm k (by simp [hk]))⟩
theorem qam {w w' : World} (x : AltT) (cs F) (h : qet e ea w x cs F) (hm : ∀ k ∈ F, w'.heap[k]? = w.heap[k]?) : qet e ea w' x cs F := by
 rw [Xw] at h ⊢
 obtain ⟨v1, cb, F1, F2, rfl, rfl, h1, hb⟩ := h
 exact ⟨v1, cb, F1, F2, rfl, rfl, h1.move (fun k hk => hm k (by simp [hk])), Jy _ _ _ hb (fun k hk => hm k (by simp [hk]))⟩
theorem Zs {w w' : World} {l cs F} (h : Ju e ea w l cs F) (hm : ∀ k ∈ F, w'.heap[k]? = w.heap[k]?) : Ju e ea w' l cs F := qdt l cs F (fun x _ => Jy x) h hm
theorem Jd {w w' : World} {l cs F} (h : Jt e ea w l cs F) (hm : ∀ k ∈ F, w'.heap[k]? = w.heap[k]?) : Jt e ea w' l cs F := qds l cs F (fun x _ => qam x) h hm
theorem qjp {w : World} : ∀ (l : List CoreT) (cs : List Value) (F : List Nat), (∀ x ∈ l, ∀ c F, Ke e ea w x c F → ∀ k ∈ F, k < w.heap.size) → Ju e ea w l cs F → ∀ k ∈ F, k < w.heap.size
 | [], cs, F, _, h => by rw [Ju] at h; rw [h.2]; intro k hk; cases hk
 | c :: r, cs, F, hx, h => by
  rw [Ju] at h
  obtain ⟨c1, c2, F1, F2, rfl, rfl, h1, h2⟩ := h
  intro k hk
  rcases List.mem_append.1 hk with hk | hk
  ·exact hx c (by simp) c1 F1 h1 k hk
  ·exact qjp r c2 F2 (fun x hq => hx x (by simp [hq])) h2 k hk
theorem qjo {w : World} : ∀ (l : List AltT) (cs : List Value) (F : List Nat), (∀ x ∈ l, ∀ c F, qet e ea w x c F → ∀ k ∈ F, k < w.heap.size) → Jt e ea w l cs F → ∀ k ∈ F, k < w.heap.size
 | [], cs, F, _, h => by rw [Jt] at h; rw [h.2]; intro k hk; cases hk
 | c :: r, cs, F, hx, h => by
  rw [Jt] at h
  obtain ⟨c1, c2, F1, F2, rfl, rfl, h1, h2⟩ := h
  intro k hk
  rcases List.mem_append.1 hk with hk | hk
  ·exact hx c (by simp) c1 F1 h1 k hk
  ·exact qjo r c2 F2 (fun x hq => hx x (by simp [hq])) h2 k hk
theorem Je {w : World} : ∀ (x : CoreT) cs F, Ke e ea w x cs F → ∀ k ∈ F, k < w.heap.size := by
 refine Za _ (fun x hk ha => ?_)
 intro cs F h k hm
 rw [Xi] at h
 obtain ⟨v3, v4, v5, v6, F3, F4, F5, F6, G5, G6, c5, c6, rfl, rfl, h3, h4, ⟨h5, k5⟩, ⟨h6, k6⟩⟩ := h
 simp only [List.mem_append] at hm
 rcases hm with hm | hm | (hm | hm) | (hm | hm)
 ·exact h3.lt k hm
 ·exact h4.lt k hm
 ·exact h5.lt k hm
 ·exact qjp _ _ _ hk k5 k hm
 ·exact h6.lt k hm
 ·refine qjo _ _ _ ?_ k6 k hm
  intro a hq c F hc k hm
  rw [Xw] at hc
  obtain ⟨v1, cb, F1, F2, rfl, rfl, h1, hb⟩ := hc
  rcases List.mem_append.1 hm with hm | hm
  ·exact h1.lt k hm
  ·exact ha a hq cb F2 hb k hm
theorem qgl {w : World} (x : AltT) (cs F) (h : qet e ea w x cs F) : ∀ k ∈ F, k < w.heap.size := by
 rw [Xw] at h
 obtain ⟨v1, cb, F1, F2, rfl, rfl, h1, hb⟩ := h
 intro k hm
 rcases List.mem_append.1 hm with hm | hm
 ·exact h1.lt k hm
 ·exact Je _ _ _ hb k hm
theorem Yn {w : World} {l cs F} (h : Ju e ea w l cs F) : ∀ k ∈ F, k < w.heap.size := qjp l cs F (fun x _ => Je x) h
theorem Gr {w : World} {l cs F} (h : Jt e ea w l cs F) : ∀ k ∈ F, k < w.heap.size := qjo l cs F (fun x _ => qgl x) h
theorem qbe {w : World} : ∀ (l : List CoreT) (cs : List Value) (F : List Nat) (x : CoreT) c G, Ju e ea w l cs F → Ke e ea w x c G → Ju e ea w (l ++ [x]) (cs ++ c) (F ++ G)
 | [], cs, F, x, c, G, h, hx => by
  rw [Ju] at h
  obtain ⟨rfl, rfl⟩ := h
  rw [List.nil_append, Ju]
  exact ⟨c, [], G, [], by simp, by simp, hx, by rw [Ju]; exact ⟨rfl, rfl⟩⟩
 | y :: r, cs, F, x, c, G, h, hx => by
  rw [Ju] at h
  obtain ⟨c1, c2, F1, F2, rfl, rfl, h1, h2⟩ := h
  rw [List.cons_append, Ju]
  exact ⟨c1, c2 ++ c, F1, F2 ++ G, by simp, by simp, h1, qbe r c2 F2 x c G h2 hx⟩
theorem qbd {w : World} : ∀ (l : List AltT) (cs : List Value) (F : List Nat) (x : AltT) c G, Jt e ea w l cs F → qet e ea w x c G → Jt e ea w (l ++ [x]) (cs ++ c) (F ++ G)
 | [], cs, F, x, c, G, h, hx => by
  rw [Jt] at h
  obtain ⟨rfl, rfl⟩ := h
  rw [List.nil_append, Jt]
  exact ⟨c, [], G, [], by simp, by simp, hx, by rw [Jt]; exact ⟨rfl, rfl⟩⟩
 | y :: r, cs, F, x, c, G, h, hx => by
  rw [Jt] at h
  obtain ⟨c1, c2, F1, F2, rfl, rfl, h1, h2⟩ := h
  rw [List.cons_append, Jt]
  exact ⟨c1, c2 ++ c, F1, F2 ++ G, by simp, by simp, h1, qbd r c2 F2 x c G h2 hx⟩
end
theorem Wv {P : Program} {ops : Array Oper} {rest : List Oper} {op : Oper} {a : Act} {w : World} {Q : Exit → Act → World → Prop} {e ty : TypeId} {x y : Operand} {old : List Value} (g : Nat) (new : List Value) (hb : Blk w g e old) (h : ∀ w' : World, Blk w' g e new → w.grownBy w' (some g) → w'.heap.size = w.heap.size → wpList P ops Q rest (a.put op.dst undef) w') (hgd : op.guard = none := by rfl) (ho : op.op = .store ty x y := by rfl) (hx : a.eval x = .pointer (some ⟨g, 0, none⟩) := by rfl) (hy : (a.eval y).cells.toList = new := by rfl) (hlen : old.length = new.length := by rfl) (hi : (P.info? ty).map (·.size) = some new.length := by kernel_rfl) (h1 : ∀ v ∈ new, v.oneCell' = true := by repeat (first | refine List.forall_mem_cons.2 ⟨rfl, ?_⟩ | exact List.forall_mem_nil _)) : wpList P ops Q (op :: rest) a w :=
 Qc g 0 [] old [] new e hgd ty x y ho hx rfl hy (by simpa using hb) hlen hi h1 (fun w' hb' => h w' (by simpa using hb'))
theorem Cz {w : World} {g : Nat} {e : TypeId} {v0 v1 v2 v3 v4 v5 v6 : Value} (h : Blk w g e [v0, v1, v2, v3, v4, v5, v6]) : w.cell? ⟨g, 0, none⟩ = some v0 ∧ w.cell? ⟨g, 1, none⟩ = some v1 ∧ w.cell? ⟨g, 2, none⟩ = some v2 ∧ w.cell? ⟨g, 3, none⟩ = some v3 ∧ w.cell? ⟨g, 4, none⟩ = some v4 ∧ w.cell? ⟨g, 5, none⟩ = some v5 ∧ w.cell? ⟨g, 6, none⟩ = some v6 := ⟨h.cell (j := 0) rfl, h.cell (j := 1) rfl, h.cell (j := 2) rfl, h.cell (j := 3) rfl, h.cell (j := 4) rfl, h.cell (j := 5) rfl, h.cell (j := 6) rfl⟩
end Go.Proofs.YtnoammmohdmnjaaGreat.C13
