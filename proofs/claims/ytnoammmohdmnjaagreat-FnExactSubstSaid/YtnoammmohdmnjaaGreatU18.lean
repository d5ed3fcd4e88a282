import Derived.Test.YtnoammmohdmnjaaGreatU17
set_option maxRecDepth 100000
set_option maxHeartbeats 16000000
set_option linter.unusedVariables false
set_option linter.unusedSimpArgs false
namespace Go.Proofs.YtnoammmohdmnjaaGreat.C13
open Go Go.RowKit Go.Proofs.YtnoammmohdmnjaaGreatW.PrintWords Go.Proofs.YtnoammmohdmnjaaGreatW.PrintLast
open List renaming setIfInBounds_toArray → Jla, set_cons_zero → Jlb, set_cons_succ → Jlc
theorem Cb {w w' : World} (hb : Below w.heap.size w w') {a : Addr} {v : Value} (h : w.cell? a = some v) : w'.cell? a = some v := (hb.cell (World.block_lt_of_cell? w a h)).trans h
theorem Qj {w w' : World} (hb : Below w.drew.heap.size w.drew w') : Below w.heap.size w w' := ⟨hb.os, hb.tape, hb.output, hb.size, hb.block⟩
theorem Qa {w w1 w2 : World} (h : Below w.heap.size w w1) (k : Below w1.heap.size w1 w2) : Below w.heap.size w w2 := h.trans (k.mono h.size)
theorem Guar.new (w : World) (o : Obj) : Guar [] w (w.alloc o) [w.heap.size] :=
 ⟨But.of_below ((Below.refl _ _).alloc (Nat.le_refl _) o), fun k hk => .inr (by rw [List.mem_singleton.1 hk]; exact Nat.le_refl _), fun k hk => by rw [List.mem_singleton.1 hk]; simp, by simp⟩
theorem Guar.same {F : List Nat} {w : World} (hn : F.Nodup) (hl : ∀ k ∈ F, k < w.heap.size) : Guar F w w F := ⟨But.refl _ _, fun k hk => .inl hk, hl, hn⟩
theorem Guar.of_below {w w' : World} {F : List Nat} (hb : Below w.heap.size w w') (hn : F.Nodup) (hf : ∀ k ∈ F, w.heap.size ≤ k ∧ k < w'.heap.size) : Guar [] w w' F :=
 ⟨But.of_below hb, fun k hk => .inr (hf k hk).1, fun k hk => (hf k hk).2, hn⟩
theorem Guar.below {B : Nat} {w0 w w' : World} {F F' : List Nat} (h : Guar F w w' F') (hb : Below B w0 w) (hF : ∀ k ∈ F, B ≤ k) (hB : B ≤ w0.heap.size) : Below B w0 w' := hb.trans (h.but.below hF (Nat.le_trans hB hb.size))
theorem qky {F : List Nat} {w : World} {o : Obj} (hn : F.Nodup) (hl : ∀ k ∈ F, k < w.heap.size) : Guar F w (w.alloc o) (F ++ [w.heap.size]) :=
 ⟨But.of_below ((Below.refl _ _).alloc (Nat.le_refl _) o), fun k hk => (List.mem_append.1 hk).imp id (fun h => by rw [List.mem_singleton.1 h]; exact Nat.le_refl _), fun k hk => by rcases List.mem_append.1 hk with h | h; (have := hl k h; simp; omega); (rw [List.mem_singleton.1 h]; simp), Gq hn (by simp) hl (fun k hk => by rw [List.mem_singleton.1 hk]; exact Nat.le_refl _)⟩
theorem Guar.row {base b : Nat} {w w' : World} {e : TypeId} {v : Value} {n : Nat} {xs : List Value} (hg : w.grownBy w' (some b)) (hat : v.ownBlock = some b ∨ ∃ b', v.ownBlock = some b' ∧ w.heap.size ≤ b') (ho : w'.ownsRow base e 1 v n xs) :
  ∃ F B d, v = .slice B n d ∧ Row w' e (.slice B n d) n xs F ∧ Guar [b] w w' F ∧ ∀ k ∈ F, base ≤ k := by
 obtain ⟨F, hr, hn, hf⟩ := qdw ho
 obtain ⟨B, d, rfl, _⟩ := hr.slice
 refine ⟨F, B, d, rfl, hr, ⟨But.of_grown hg, fun k hk => ?_, hr.lt, hn⟩, hf⟩
 rcases hr with ⟨_, _, _, rfl⟩ | ⟨g, cap, spare, hv, _, _, _, rfl⟩
 ·cases hk
 ·rw [List.mem_singleton.1 hk]
  rw [hv] at hat
  simp only [Value.ownBlock, Option.some.injEq] at hat
  rcases hat with rfl | ⟨b', rfl, h⟩
  ·exact .inl (by simp)
  ·exact .inr h
theorem Ho {base b : Nat} {w : World} {e : TypeId} (hb : Blk w b e []) (h : base ≤ b) : w.ownsRow base e 1 (.slice (some ⟨b, 0, none⟩) 0 0) 0 [] := ⟨rfl, .inr ⟨b, 0, #[], rfl, h, hb, Nat.le_refl _, Nat.zero_le _, rfl, rfl⟩⟩
theorem Keep.blk {F : List Nat} {w w' : World} (h : Keep F w w') {g : Nat} {e : TypeId} {cs : List Value} (hb : Blk w g e cs) (hg : g ∈ F) : Blk w' g e cs := hb.move (h.2 g hg)
theorem Keep.row {F : List Nat} {w w' : World} (h : Keep F w w') {e : TypeId} {v : Value} {n : Nat} {cs : List Value} {G : List Nat} (hr : Row w e v n cs G) (hG : ∀ k ∈ G, k ∈ F) : Row w' e v n cs G := hr.move (fun k hk => h.2 k (hG k hk))
theorem Keep.ownC {F : List Nat} {w w' : World} (h : Keep F w w') {e ea : TypeId} {x : CoreT} {cs : List Value} {G : List Nat} (hr : Ke e ea w x cs G) (hG : ∀ k ∈ G, k ∈ F) : Ke e ea w' x cs G := Jy x cs G hr (fun k hk => h.2 k (hG k hk))
section
variable {P : Program} {ops : Array Oper} {Lo : Prop} {w0 : World} {Post : (Tmp → Value) → World → List Nat → Prop}
theorem Thr.value {n i : Nat} {rest : List Nat} {a : Act} {w : World} {F : List Nat} {o : Oper} {v : Value} (N : Option Tmp) (hi : ops[i]? = some o) (hN : o.dst = N) (hB : rest.all (fun j => !qhf ops (i :: rest) j) = true) (hg : o.guard = none) (hF : F.Nodup) (hl : ∀ k ∈ F, k < w.heap.size)
  (hy : ∀ w', Below w0.heap.size w0 w' → Keep F w w' → (execOp a.eval o).run P w' = .ok (.value v) w')
  (h : ∀ w', Below w0.heap.size w0 w' → Keep F w w' → Thr P ops Lo w0 Post n rest (a.put N v) w' F) : Thr P ops Lo w0 Post (n + 1) (i :: rest) a w F := by
 refine Thr.step N hi hN hB fun w' hb hk K hK => ?_
 rw [if_pos (by simp [Region.wanted, hg])]
 unfold Oper.wp
 rw [hy w' hb hk]
 simp only [Oper.upon]
 rw [hN]
 exact hK.out _ _ F (Ji _ _ _) hb (Guar.same hF (fun k hk' => Nat.lt_of_lt_of_le (hl k hk') hk.1)) (h w' hb hk)
theorem Thr.new {n i : Nat} {rest : List Nat} {a : Act} {w : World} {o : Oper} (vf : Nat → Value) (ob : Obj) (N : Option Tmp) (hi : ops[i]? = some o) (hN : o.dst = N) (hB : rest.all (fun j => !qhf ops (i :: rest) j) = true) (hg : o.guard = none)
  (hy : ∀ w', Below w0.heap.size w0 w' → (execOp a.eval o).run P w' = .ok (.value (vf w'.heap.size)) (w'.alloc ob))
  (h : ∀ g w', w0.heap.size ≤ g → g < w'.heap.size → w'.heap[g]? = some ob → Below w0.heap.size w0 w' → Thr P ops Lo w0 Post n rest (a.put N (vf g)) w' [g]) : Thr P ops Lo w0 Post (n + 1) (i :: rest) a w [] := by
 refine Thr.step N hi hN hB fun w' hb hk K hK => ?_
 rw [if_pos (by simp [Region.wanted, hg])]
 unfold Oper.wp
 rw [hy w' hb]
 simp only [Oper.upon]
 rw [hN]
 have hb' := (Guar.new w' ob).below hb (by simp) (Nat.le_refl _)
 exact hK.out _ _ [w'.heap.size] (Ji _ _ _) hb' (Guar.new w' ob) (h _ _ hb.size (by simp) (heap_alloc_new w' ob) hb')
end
section
variable {ops : Array Oper} {Lo : Prop} {w0 : World} {Post : (Tmp → Value) → World → List Nat → Prop}
theorem f58 {p : Prop} (h : p := by
 obtain ⟨F, B, d, rfl, hr, hG, hF⟩ := Guar.row hg3 hat ho3
 have hb3 := hG.below hbl (by simpa using hbase) (Nat.le_refl _)
 rw [hN]
 exact hK.out _ _ F (Ji _ _ _) hb3 hG (h B d w3 F hr hG.nd (fun k hk => ⟨hF k hk, hG.lt k hk⟩) hb3)) : p := h
theorem Thr.copyU {n i : Nat} {rest : List Nat} {a : Act} {w : World} {o : Oper} (N : Option Tmp) (hi : ops[i]? = some o) (hN : o.dst = N) (hB : rest.all (fun j => !qhf ops (i :: rest) j) = true) (hg : o.guard = none) (sl x : Operand)
  (ho : o.op = .call { callee := .builtin .append, args := #[sl, x], argTypes := #[22, 22] }) (b : Nat) (hs : a.eval sl = .slice (some ⟨b, 0, none⟩) 0 0) (hb : Blk w b 106 []) (hbase : w0.heap.size ≤ b)
  (A : Option Addr) (c : Nat) (l : List Int) (hx : a.eval x = .slice A l.length c) (hC : ∀ w', Below w0.heap.size w0 w' → (Kd.int .u32).C w' A l.length l) (hl : l.length ≤ 274877906944)
  (h : ∀ B d w' F, Row w' 106 (.slice B l.length d) l.length (Gz .u32 l) F → F.Nodup → (∀ k ∈ F, w0.heap.size ≤ k ∧ k < w'.heap.size) → Below w0.heap.size w0 w' → Thr Tryz.prog ops Lo w0 Post n rest (a.put N (.slice B l.length d)) w' F) : Thr Tryz.prog ops Lo w0 Post (n + 1) (i :: rest) a w [b] := by
 refine Thr.step N hi hN hB fun w' hbl hk K hK => ?_
 have := qik (K := K) (Q := NP Lo) (ops := ops) (E := K (a.put N undef) w') (w := w') (a := a) (o := o) w0.heap.size hg sl x ho b hs (Ho (hk.blk hb (by simp)) hbase) hbl.size A c l hx (hC w' hbl) hl (fun v w3 ho3 hg3 hat => by
  exact f58)
 exact this
theorem Thr.copyS {n i : Nat} {rest : List Nat} {a : Act} {w : World} {o : Oper} (N : Option Tmp) (hi : ops[i]? = some o) (hN : o.dst = N) (hB : rest.all (fun j => !qhf ops (i :: rest) j) = true) (hg : o.guard = none) (sl x : Operand)
  (ho : o.op = .call { callee := .builtin .append, args := #[sl, x], argTypes := #[25, 25] }) (b : Nat) (hs : a.eval sl = .slice (some ⟨b, 0, none⟩) 0 0) (hb : Blk w b 9 []) (hbase : w0.heap.size ≤ b)
  (A : Option Addr) (c : Nat) (l : List ByteArray) (hx : a.eval x = .slice A l.length c) (hC : ∀ w', Below w0.heap.size w0 w' → Kd.string.C w' A l.length l) (hl : l.length ≤ 274877906944)
  (h : ∀ B d w' F, Row w' 9 (.slice B l.length d) l.length (Xa l) F → F.Nodup → (∀ k ∈ F, w0.heap.size ≤ k ∧ k < w'.heap.size) → Below w0.heap.size w0 w' → Thr Tryz.prog ops Lo w0 Post n rest (a.put N (.slice B l.length d)) w' F) : Thr Tryz.prog ops Lo w0 Post (n + 1) (i :: rest) a w [b] := by
 refine Thr.step N hi hN hB fun w' hbl hk K hK => ?_
 have := qqv (K := K) (Q := NP Lo) (ops := ops) (E := K (a.put N undef) w') (w := w') (a := a) (o := o) w0.heap.size hg sl x ho b hs (Ho (hk.blk hb (by simp)) hbase) hbl.size A c l hx (hC w' hbl) hl (fun v w3 ho3 hg3 hat => by
  exact f58)
 exact this
end
theorem Cb3 {w w' : World} (hb : Below w.heap.size w w') {a0 : Addr} {v0 : Value} (h0 : w.cell? a0 = some v0) {a1 : Addr} {v1 : Value} (h1 : w.cell? a1 = some v1) {a2 : Addr} {v2 : Value} (h2 : w.cell? a2 = some v2) : w'.cell? a0 = some v0 ∧ w'.cell? a1 = some v1 ∧ w'.cell? a2 = some v2 := ⟨Cb hb h0, Cb hb h1, Cb hb h2⟩
theorem Cb4 {w w' : World} (hb : Below w.heap.size w w') {a0 : Addr} {v0 : Value} (h0 : w.cell? a0 = some v0) {a1 : Addr} {v1 : Value} (h1 : w.cell? a1 = some v1) {a2 : Addr} {v2 : Value} (h2 : w.cell? a2 = some v2) {a3 : Addr} {v3 : Value} (h3 : w.cell? a3 = some v3) : w'.cell? a0 = some v0 ∧ w'.cell? a1 = some v1 ∧ w'.cell? a2 = some v2 ∧ w'.cell? a3 = some v3 := ⟨Cb hb h0, Cb hb h1, Cb hb h2, Cb hb h3⟩
theorem Cb5 {w w' : World} (hb : Below w.heap.size w w') {a0 : Addr} {v0 : Value} (h0 : w.cell? a0 = some v0) {a1 : Addr} {v1 : Value} (h1 : w.cell? a1 = some v1) {a2 : Addr} {v2 : Value} (h2 : w.cell? a2 = some v2) {a3 : Addr} {v3 : Value} (h3 : w.cell? a3 = some v3) {a4 : Addr} {v4 : Value} (h4 : w.cell? a4 = some v4) : w'.cell? a0 = some v0 ∧ w'.cell? a1 = some v1 ∧ w'.cell? a2 = some v2 ∧ w'.cell? a3 = some v3 ∧ w'.cell? a4 = some v4 := ⟨Cb hb h0, Cb hb h1, Cb hb h2, Cb hb h3, Cb hb h4⟩
theorem Cb6 {w w' : World} (hb : Below w.heap.size w w') {a0 : Addr} {v0 : Value} (h0 : w.cell? a0 = some v0) {a1 : Addr} {v1 : Value} (h1 : w.cell? a1 = some v1) {a2 : Addr} {v2 : Value} (h2 : w.cell? a2 = some v2) {a3 : Addr} {v3 : Value} (h3 : w.cell? a3 = some v3) {a4 : Addr} {v4 : Value} (h4 : w.cell? a4 = some v4) {a5 : Addr} {v5 : Value} (h5 : w.cell? a5 = some v5) : w'.cell? a0 = some v0 ∧ w'.cell? a1 = some v1 ∧ w'.cell? a2 = some v2 ∧ w'.cell? a3 = some v3 ∧ w'.cell? a4 = some v4 ∧ w'.cell? a5 = some v5 := ⟨Cb hb h0, Cb hb h1, Cb hb h2, Cb hb h3, Cb hb h4, Cb hb h5⟩
theorem Cb7 {w w' : World} (hb : Below w.heap.size w w') {a0 : Addr} {v0 : Value} (h0 : w.cell? a0 = some v0) {a1 : Addr} {v1 : Value} (h1 : w.cell? a1 = some v1) {a2 : Addr} {v2 : Value} (h2 : w.cell? a2 = some v2) {a3 : Addr} {v3 : Value} (h3 : w.cell? a3 = some v3) {a4 : Addr} {v4 : Value} (h4 : w.cell? a4 = some v4) {a5 : Addr} {v5 : Value} (h5 : w.cell? a5 = some v5) {a6 : Addr} {v6 : Value} (h6 : w.cell? a6 = some v6) : w'.cell? a0 = some v0 ∧ w'.cell? a1 = some v1 ∧ w'.cell? a2 = some v2 ∧ w'.cell? a3 = some v3 ∧ w'.cell? a4 = some v4 ∧ w'.cell? a5 = some v5 ∧ w'.cell? a6 = some v6 := ⟨Cb hb h0, Cb hb h1, Cb hb h2, Cb hb h3, Cb hb h4, Cb hb h5, Cb hb h6⟩
end Go.Proofs.YtnoammmohdmnjaaGreat.C13
namespace Go.Proofs.YtnoammmohdmnjaaGreat.C13
open Go Go.RowKit Go.Proofs.YtnoammmohdmnjaaGreatW.PrintWords
open List renaming setIfInBounds_toArray → Jla, set_cons_zero → Jlb, set_cons_succ → Jlc
structure CpE (x : CoreT) (W : World) (N g : Nat) (v3 v4 v5 v6 : Value) (ks : List CoreT) (ls : List AltT) (F3 F4 F5 F6 G5 G6 : List Nat) (c5 c6 : List Value) (w : World) : Prop where
 blk : Blk w g 35 [.int .i64 x.kind, .string x.name, .bool x.minus, v3, v4, v5, v6]
 r3 : Row w 106 v3 x.limbs.length (Gz .u32 x.limbs) F3
 r4 : Row w 9 v4 x.names.length (Xa x.names) F4
 r5 : Row w 35 v5 ks.length c5 F5
 o5 : w.ownsRow W.heap.size 35 7 v5 ks.length c5
 k5 : Ju 35 76 w ks c5 G5
 f5 : F5 = v5.ownBlock.toList
 r6 : Row w 76 v6 ls.length c6 F6
 o6 : w.ownsRow W.heap.size 76 9 v6 ls.length c6
 k6 : Jt 35 76 w ls c6 G6
 f6 : F6 = v6.ownBlock.toList
 nd : (F5 ++ (F6 ++ (g :: (F3 ++ (F4 ++ (G5 ++ G6)))))).Nodup
 ge : ∀ k ∈ F5 ++ (F6 ++ (g :: (F3 ++ (F4 ++ (G5 ++ G6))))), W.heap.size ≤ k ∧ k < N
 below : Below W.heap.size W w
def CpI (x : CoreT) (W : World) (N g : Nat) (v3 v4 v5 v6 : Value) (ks : List CoreT) (ls : List AltT) (w : World) : Prop := ∃ F3 F4 F5 F6 G5 G6 c5 c6, CpE x W N g v3 v4 v5 v6 ks ls F3 F4 F5 F6 G5 G6 c5 c6 w
theorem Zk {base : Nat} {e : TypeId} {size : Nat} {w : World} {v : Value} {n : Nat} {xs : List Value} (hsz : 0 < size) (h : w.ownsRow base e size v n xs) : Row w e v n xs v.ownBlock.toList ∧ (∀ k ∈ v.ownBlock.toList, base ≤ k) ∧ v.ownBlock.toList.Nodup := by
 obtain ⟨hl, h⟩ := h
 rcases h with ⟨rfl, rfl⟩ | ⟨g, cap, cur, rfl, hg, hb, hn, hc, hs, rfl⟩
 ·exact ⟨.inl ⟨rfl, rfl, List.eq_nil_of_length_eq_zero (by omega), rfl⟩, (fun k hk => by cases hk), List.nodup_nil⟩
 ·refine ⟨.inr ⟨g, cap, cur.toList.drop (n * size), rfl, hn, by simpa [maxLen] using hc, ?_, rfl⟩, fun k hk => ?_, by simp [Value.ownBlock]⟩
  ·unfold Blk
   rw [List.take_append_drop]
   exact hb
  ·simp [Value.ownBlock] at hk; rw [hk]; exact hg
theorem Xc {base : Nat} {e : TypeId} {size : Nat} {w w' : World} {v : Value} {n : Nat} {xs : List Value} (h : w.ownsRow base e size v n xs) (hm : ∀ k ∈ v.ownBlock.toList, w'.heap[k]? = w.heap[k]?) : w'.ownsRow base e size v n xs := by
 obtain ⟨hl, h⟩ := h
 rcases h with h | ⟨g, cap, cur, rfl, hg, hb, hn, hc, hs, rfl⟩
 ·exact ⟨hl, .inl h⟩
 ·exact ⟨hl, .inr ⟨g, cap, cur, rfl, hg, (hm g (by simp [Value.ownBlock])).trans hb, hn, hc, hs, rfl⟩⟩
section
variable {x : CoreT} {W : World} {N g : Nat} {v3 v4 v5 v6 : Value} {ks : List CoreT} {ls : List AltT} {F3 F4 F5 F6 G5 G6 : List Nat} {c5 c6 : List Value} {w : World}
theorem CpE.lt (h : CpE x W N g v3 v4 v5 v6 ks ls F3 F4 F5 F6 G5 G6 c5 c6 w) : ∀ k ∈ F5 ++ (F6 ++ (g :: (F3 ++ (F4 ++ (G5 ++ G6))))), k < w.heap.size := by
 intro k hk
 simp only [List.mem_append, List.mem_cons] at hk
 rcases hk with hk | hk | rfl | hk | hk | hk | hk
 ·exact h.r5.lt k hk
 ·exact h.r6.lt k hk
 ·exact h.blk.lt
 ·exact h.r3.lt k hk
 ·exact h.r4.lt k hk
 ·exact Yn h.k5 k hk
 ·exact Gr h.k6 k hk
theorem CpE.move {w' : World} (h : CpE x W N g v3 v4 v5 v6 ks ls F3 F4 F5 F6 G5 G6 c5 c6 w) (hm : ∀ k ∈ F5 ++ (F6 ++ (g :: (F3 ++ (F4 ++ (G5 ++ G6))))), w'.heap[k]? = w.heap[k]?) (hb : Below W.heap.size W w') : CpE x W N g v3 v4 v5 v6 ks ls F3 F4 F5 F6 G5 G6 c5 c6 w' :=
 ⟨h.blk.move (hm g (by simp)), h.r3.move (fun k hk => hm k (by simp [hk])), h.r4.move (fun k hk => hm k (by simp [hk])), h.r5.move (fun k hk => hm k (by simp [hk])), Xc h.o5 (fun k hk => hm k (by rw [← h.f5] at hk; simp [hk])), Zs h.k5 (fun k hk => hm k (by simp [hk])), h.f5,
  h.r6.move (fun k hk => hm k (by simp [hk])), Xc h.o6 (fun k hk => hm k (by rw [← h.f6] at hk; simp [hk])), Jd h.k6 (fun k hk => hm k (by simp [hk])), h.f6, h.nd, h.ge, hb⟩
theorem CpE.to {w' : World} (h : CpE x W N g v3 v4 v5 v6 ks ls F3 F4 F5 F6 G5 G6 c5 c6 w) (hb : Below w.heap.size w w') : CpE x W N g v3 v4 v5 v6 ks ls F3 F4 F5 F6 G5 G6 c5 c6 w' :=
 h.move (fun k hk => hb.block k (h.lt k hk)) (h.below.trans (hb.mono h.below.size))
theorem CpE.mono {N' : Nat} (h : CpE x W N g v3 v4 v5 v6 ks ls F3 F4 F5 F6 G5 G6 c5 c6 w) (hN : N ≤ N') : CpE x W N' g v3 v4 v5 v6 ks ls F3 F4 F5 F6 G5 G6 c5 c6 w :=
 ⟨h.blk, h.r3, h.r4, h.r5, h.o5, h.k5, h.f5, h.r6, h.o6, h.k6, h.f6, h.nd, fun k hk => ⟨(h.ge k hk).1, Nat.lt_of_lt_of_le (h.ge k hk).2 hN⟩, h.below⟩
theorem CpE.fresh (h : CpE x W N g v3 v4 v5 v6 ks ls F3 F4 F5 F6 G5 G6 c5 c6 w) : CpE x W w.heap.size g v3 v4 v5 v6 ks ls F3 F4 F5 F6 G5 G6 c5 c6 w :=
 ⟨h.blk, h.r3, h.r4, h.r5, h.o5, h.k5, h.f5, h.r6, h.o6, h.k6, h.f6, h.nd, fun k hk => ⟨(h.ge k hk).1, h.lt k hk⟩, h.below⟩
theorem f34 {p : Prop} (h : p := by
 rw [hperm.nodup_iff, List.nodup_append]
 refine ⟨hn5, Gq nL hyn (fun k hk => (hge k (List.mem_append_right _ hk)).2) hyf, fun a ha b hb hab => ?_⟩
 subst hab
 rcases List.mem_append.1 hb with hb | hb
 ·rcases g5 a ha with h' | h'
  ·exact d5 a h' a hb rfl
  ·have := hlt a (List.mem_append_right _ hb); omega
 ·rcases g5 a ha with h' | h'
  ·have := (hge a (List.mem_append_left _ h')).2; have := hyf a hb; omega
  ·have := hylt a hb; omega) : p := h
theorem f37 {p : Prop} (h : p := by
 intro k hk
 rw [hperm.mem_iff] at hk
 have hz : w.heap.size ≤ w4.heap.size := by rw [hsz]; exact hg.size
 rcases List.mem_append.1 hk with hk | hk
 ·exact ⟨hb5 k hk, by rw [hsz]; exact hr5.lt k hk⟩
 ·rcases List.mem_append.1 hk with hk | hk
  ·exact ⟨(hge k (List.mem_append_right _ hk)).1, Nat.lt_of_lt_of_le (hlt k (List.mem_append_right _ hk)) hz⟩
  ·exact ⟨Nat.le_trans hW (hyf k hk), Nat.lt_of_lt_of_le (hylt k hk) hz⟩) : p := h
theorem f60 {p : Prop} (h : p := by
 rw [List.perm_iff_count]
 intro a
 simp only [List.count_append, List.count_cons]
 omega) : p := h
theorem f85 {p : Prop} (h : p := by
 exact ⟨hs.os, hs.tape, hs.output, hs.size, fun k hk => hs.block k (Nat.lt_of_lt_of_le hk (Nat.le_trans (Nat.le_trans hW hN) hg.size)) (fun e => by injection e with e; omega)⟩) : p := h
theorem f86 {p : Prop} (h : p := by
 refine keep k (hlt k (List.mem_append_right _ hk')) (fun h5 => d5 k h5 k hk' rfl) (fun e => ?_)
 subst e
 rcases List.mem_append.1 hk with hk | hk
 ·exact nL'.1 hk
 ·exact gL hk) : p := h
theorem f103 {p : Prop} (h : p := by
 rcases List.mem_append.1 hk with hk | hk
 ·exact List.mem_append_left _ hk
 ·exact List.mem_append_right _ (List.mem_cons_of_mem _ hk)) : p := h
theorem f104 {p : Prop} (h : p := by
 rw [hs.block k (Nat.lt_of_lt_of_le h1 hg.size) (fun e => h3 (by injection e)), hg.block k h1 (fun e => h2 (by rw [f5, ← e]; simp))]) : p := h
theorem f108 {p : Prop} (h : p := by
 injection e with e
 subst e
 rcases g5 _ hk with h' | h'
 ·exact d5 _ h' _ (by simp) rfl
 ·have := hlt k (by simp); omega) : p := h
theorem CpE.kid {y : CoreT} {cy : List Value} {Fy : List Nat} {v5' : Value} {w3 w4 : World} (h : CpE x W N g v3 v4 v5 v6 ks ls F3 F4 F5 F6 G5 G6 c5 c6 w) (hy : Ke 35 76 w y cy Fy) (hyn : Fy.Nodup) (hyf : ∀ k ∈ Fy, N ≤ k) (hW : W.heap.size ≤ N) (hN : N ≤ w.heap.size)
  (hg : w.grownBy w3 v5.ownBlock) (ho : w3.ownsRow W.heap.size 35 7 v5' (ks.length + 1) (c5 ++ cy)) (hat : v5'.ownBlock = v5.ownBlock ∨ v5'.ownBlock = some w.heap.size) (hs : w3.grownBy w4 (some g)) (hsz : w4.heap.size = w3.heap.size)
  (hb : Blk w4 g 35 [.int .i64 x.kind, .string x.name, .bool x.minus, v3, v4, v5', v6]) : CpE x W w4.heap.size g v3 v4 v5' v6 (ks ++ [y]) ls F3 F4 v5'.ownBlock.toList F6 (G5 ++ Fy) G6 (c5 ++ cy) c6 w4 := by
 have hnd := h.nd
 have hlt := h.lt
 have hge := h.ge
 rw [List.nodup_append] at hnd
 obtain ⟨n5, nL, d5⟩ := hnd
 have hylt := Je _ _ _ hy
 have f5 := h.f5
 have keep : ∀ k, k < w.heap.size → k ∉ F5 → k ≠ g → w4.heap[k]? = w.heap[k]? := fun k h1 h2 h3 => by
  exact f104
 have nL' : g ∉ F6 ∧ F6.Nodup ∧ (g :: (F3 ++ (F4 ++ (G5 ++ G6)))).Nodup := by
  rw [List.nodup_append] at nL
  exact ⟨fun hk => nL.2.2 g hk g (by simp) rfl, nL.1, nL.2.1⟩
 have gL : g ∉ F3 ++ (F4 ++ (G5 ++ G6)) := (List.nodup_cons.1 nL'.2.2).1
 have kL : ∀ k ∈ F6 ++ (F3 ++ (F4 ++ (G5 ++ G6))), w4.heap[k]? = w.heap[k]? := fun k hk => by
  have hk' : k ∈ F6 ++ (g :: (F3 ++ (F4 ++ (G5 ++ G6)))) := by
   exact f103
  exact f86
 have ky : ∀ k ∈ Fy, w4.heap[k]? = w.heap[k]? := fun k hk => keep k (hylt k hk) (fun h5 => by have := (hge k (List.mem_append_left _ h5)).2; have := hyf k hk; omega) (fun e => by have := (hge g (by simp)).2; have := hyf k hk; omega)
 obtain ⟨hr5, hb5, hn5⟩ := Zk (by omega) ho
 have hlen : (ks ++ [y]).length = ks.length + 1 := by simp
 have g5 : ∀ k ∈ v5'.ownBlock.toList, k ∈ F5 ∨ k = w.heap.size := fun k hk => by
  rcases hat with e | e
  ·rw [e, ← f5] at hk; exact .inl hk
  ·rw [e] at hk; simp at hk; exact .inr hk
 have k5' : ∀ k ∈ v5'.ownBlock.toList, w4.heap[k]? = w3.heap[k]? := fun k hk => hs.block k (hr5.lt k hk) (fun e => by
  exact f108)
 have hperm : (v5'.ownBlock.toList ++ (F6 ++ (g :: (F3 ++ (F4 ++ ((G5 ++ Fy) ++ G6)))))).Perm (v5'.ownBlock.toList ++ ((F6 ++ (g :: (F3 ++ (F4 ++ (G5 ++ G6))))) ++ Fy)) := by
  exact f60
 refine ⟨hb, h.r3.move (fun k hk => kL k (by simp [hk])), h.r4.move (fun k hk => kL k (by simp [hk])), by rw [hlen]; exact hr5.move k5', by rw [hlen]; exact Xc ho k5',
  qbe _ _ _ _ _ _ (Zs h.k5 (fun k hk => kL k (by simp [hk]))) (Jy _ _ _ hy ky), rfl, h.r6.move (fun k hk => kL k (by simp [hk])), Xc h.o6 (fun k hk => kL k (by rw [← h.f6] at hk; simp [hk])), Jd h.k6 (fun k hk => kL k (by simp [hk])), h.f6, ?_, ?_, ?_⟩
 ·exact f34
 ·exact f37
 ·have hgW := (hge g (by simp)).1
  refine (h.below.trans ?_).trans (b := w3) ?_
  ·exact ⟨hg.os, hg.tape, hg.output, hg.size, fun k hk => hg.block k (Nat.lt_of_lt_of_le hk (Nat.le_trans hW hN)) (fun e => by
    have : k ∈ F5 := by rw [f5, ← e]; simp
    have := (hge k (List.mem_append_left _ this)).1; omega)⟩
  ·exact f85
theorem CpE.alt {y : AltT} {cy : List Value} {Fy : List Nat} {v6' : Value} {w3 w4 : World} (h : CpE x W N g v3 v4 v5 v6 ks ls F3 F4 F5 F6 G5 G6 c5 c6 w) (hy : qet 35 76 w y cy Fy) (hyn : Fy.Nodup) (hyf : ∀ k ∈ Fy, N ≤ k) (hW : W.heap.size ≤ N) (hN : N ≤ w.heap.size)
  (hg : w.grownBy w3 v6.ownBlock) (ho : w3.ownsRow W.heap.size 76 9 v6' (ls.length + 1) (c6 ++ cy)) (hat : v6'.ownBlock = v6.ownBlock ∨ v6'.ownBlock = some w.heap.size) (hs : w3.grownBy w4 (some g)) (hsz : w4.heap.size = w3.heap.size)
  (hb : Blk w4 g 35 [.int .i64 x.kind, .string x.name, .bool x.minus, v3, v4, v5, v6']) : CpE x W w4.heap.size g v3 v4 v5 v6' ks (ls ++ [y]) F3 F4 F5 v6'.ownBlock.toList G5 (G6 ++ Fy) c5 (c6 ++ cy) w4 := by
 have hp0 : (F5 ++ (F6 ++ (g :: (F3 ++ (F4 ++ (G5 ++ G6)))))).Perm (F6 ++ (F5 ++ (g :: (F3 ++ (F4 ++ (G5 ++ G6)))))) := by
  exact f60
 have hnd := (hp0.nodup_iff).1 h.nd
 have hlt : ∀ k ∈ F6 ++ (F5 ++ (g :: (F3 ++ (F4 ++ (G5 ++ G6))))), k < w.heap.size := fun k hk => h.lt k (hp0.mem_iff.2 hk)
 have hge : ∀ k ∈ F6 ++ (F5 ++ (g :: (F3 ++ (F4 ++ (G5 ++ G6))))), W.heap.size ≤ k ∧ k < N := fun k hk => h.ge k (hp0.mem_iff.2 hk)
 rw [List.nodup_append] at hnd
 obtain ⟨n5, nL, d5⟩ := hnd
 have hylt := qgl _ _ _ hy
 have f5 := h.f6
 have keep : ∀ k, k < w.heap.size → k ∉ F6 → k ≠ g → w4.heap[k]? = w.heap[k]? := fun k h1 h2 h3 => by
  exact f104
 have nL' : g ∉ F5 ∧ F5.Nodup ∧ (g :: (F3 ++ (F4 ++ (G5 ++ G6)))).Nodup := by
  rw [List.nodup_append] at nL
  exact ⟨fun hk => nL.2.2 g hk g (by simp) rfl, nL.1, nL.2.1⟩
 have gL : g ∉ F3 ++ (F4 ++ (G5 ++ G6)) := (List.nodup_cons.1 nL'.2.2).1
 have kL : ∀ k ∈ F5 ++ (F3 ++ (F4 ++ (G5 ++ G6))), w4.heap[k]? = w.heap[k]? := fun k hk => by
  have hk' : k ∈ F5 ++ (g :: (F3 ++ (F4 ++ (G5 ++ G6)))) := by
   exact f103
  exact f86
 have ky : ∀ k ∈ Fy, w4.heap[k]? = w.heap[k]? := fun k hk => keep k (hylt k hk) (fun h5 => by have := (hge k (List.mem_append_left _ h5)).2; have := hyf k hk; omega) (fun e => by have := (hge g (by simp)).2; have := hyf k hk; omega)
 obtain ⟨hr5, hb5, hn5⟩ := Zk (by omega) ho
 have hlen : (ls ++ [y]).length = ls.length + 1 := by simp
 have g5 : ∀ k ∈ v6'.ownBlock.toList, k ∈ F6 ∨ k = w.heap.size := fun k hk => by
  rcases hat with e | e
  ·rw [e, ← f5] at hk; exact .inl hk
  ·rw [e] at hk; simp at hk; exact .inr hk
 have k5' : ∀ k ∈ v6'.ownBlock.toList, w4.heap[k]? = w3.heap[k]? := fun k hk => hs.block k (hr5.lt k hk) (fun e => by
  exact f108)
 have hperm : (F5 ++ (v6'.ownBlock.toList ++ (g :: (F3 ++ (F4 ++ (G5 ++ (G6 ++ Fy))))))).Perm (v6'.ownBlock.toList ++ ((F5 ++ (g :: (F3 ++ (F4 ++ (G5 ++ G6))))) ++ Fy)) := by
  exact f60
 refine ⟨hb, h.r3.move (fun k hk => kL k (by simp [hk])), h.r4.move (fun k hk => kL k (by simp [hk])), h.r5.move (fun k hk => kL k (by simp [hk])), Xc h.o5 (fun k hk => kL k (by rw [← h.f5] at hk; simp [hk])), Zs h.k5 (fun k hk => kL k (by simp [hk])), h.f5,
  by rw [hlen]; exact hr5.move k5', by rw [hlen]; exact Xc ho k5', qbd _ _ _ _ _ _ (Jd h.k6 (fun k hk => kL k (by simp [hk]))) (qam _ _ _ hy ky), rfl, ?_, ?_, ?_⟩
 ·exact f34
 ·exact f37
 ·have hgW := (hge g (by simp)).1
  refine (h.below.trans ?_).trans (b := w3) ?_
  ·exact ⟨hg.os, hg.tape, hg.output, hg.size, fun k hk => hg.block k (Nat.lt_of_lt_of_le hk (Nat.le_trans hW hN)) (fun e => by
    have : k ∈ F6 := by rw [f5, ← e]; simp
    have := (hge k (List.mem_append_left _ this)).1; omega)⟩
  ·exact f85
theorem CpE.own (h : CpE x W N g v3 v4 v5 v6 x.kids x.alts F3 F4 F5 F6 G5 G6 c5 c6 w) : ∃ F, Ke 35 76 w x [.int .i64 x.kind, .string x.name, .bool x.minus, v3, v4, v5, v6] F ∧ F.Nodup ∧ (∀ k ∈ F, W.heap.size ≤ k) ∧ ∀ k ∈ F, k ≠ g := by
 refine ⟨F3 ++ (F4 ++ ((F5 ++ G5) ++ (F6 ++ G6))), ?_, ?_, ?_, ?_⟩
 ·rw [Xi]
  exact ⟨_, _, _, _, F3, F4, F5, F6, G5, G6, _, _, rfl, rfl, h.r3, h.r4, ⟨h.r5, h.k5⟩, ⟨h.r6, h.k6⟩⟩
 all_goals
  have hperm : (F5 ++ (F6 ++ (g :: (F3 ++ (F4 ++ (G5 ++ G6)))))).Perm (g :: (F3 ++ (F4 ++ ((F5 ++ G5) ++ (F6 ++ G6))))) := by
   exact f60
  have hnd := h.nd
  rw [hperm.nodup_iff, List.nodup_cons] at hnd
 ·exact hnd.2
 ·intro k hk
  exact (h.ge k (hperm.mem_iff.2 (List.mem_cons_of_mem _ hk))).1
 ·rintro k hk rfl
  exact hnd.1 hk
theorem qkr {w' w5 : World} {F3 F4 : List Nat} (hb : Below W.heap.size W.drew w') (hnd : ((F3 ++ F4) ++ [g]).Nodup) (hF : ∀ k ∈ (F3 ++ F4) ++ [g], W.heap.size ≤ k ∧ k < w'.heap.size) (hr3 : Row w' 106 v3 x.limbs.length (Gz .u32 x.limbs) F3) (hr4 : Row w' 9 v4 x.names.length (Xa x.names) F4)
  (hblk : Blk w5 g 35 ([] ++ ([.int .i64 x.kind, .string x.name, .bool x.minus, v3, v4, .slice none 0 0, .slice none 0 0] ++ []))) (hg : w'.grownBy w5 (some g)) (hsz : w5.heap.size = w'.heap.size) : CpI x W w5.heap.size g v3 v4 (.slice none 0 0) (.slice none 0 0) (x.kids.take 0) [] w5 := by
 have hperm : ((F3 ++ F4) ++ [g]).Perm (g :: (F3 ++ (F4 ++ ([] ++ [])))) := by
  rw [List.perm_iff_count]
  intro a
  simp only [List.count_append, List.count_cons, List.count_nil]
  omega
 have hnd' := (hperm.nodup_iff).1 hnd
 have hng : ∀ k, k ∈ F3 ++ F4 → k ≠ g := fun k hk e => by subst e; exact (List.nodup_cons.1 hnd').1 (by simpa using hk)
 have hm : ∀ k ∈ F3 ++ F4, w5.heap[k]? = w'.heap[k]? := fun k hk => hg.block k (hF k (List.mem_append_left _ hk)).2 (fun e => hng k hk (by injection e))
 have hgW := hF g (by simp)
 refine ⟨F3, F4, [], [], [], [], [], [], by simpa using hblk, hr3.move (fun k hk => hm k (by simp [hk])), hr4.move (fun k hk => hm k (by simp [hk])), .inl ⟨rfl, rfl, rfl, rfl⟩, ⟨rfl, .inl ⟨rfl, rfl⟩⟩, by rw [List.take_zero, Ju]; exact ⟨rfl, rfl⟩, rfl, .inl ⟨rfl, rfl, rfl, rfl⟩, ⟨rfl, .inl ⟨rfl, rfl⟩⟩, by rw [Jt]; exact ⟨rfl, rfl⟩, rfl, hnd', ?_, ?_⟩
 ·intro k hk
  rw [hsz]
  exact hF k (hperm.mem_iff.2 hk)
 ·have : Below W.heap.size W w' := ⟨hb.os, hb.tape, hb.output, hb.size, hb.block⟩
  exact this.trans ⟨hg.os, hg.tape, hg.output, hg.size, fun k hk => hg.block k (Nat.lt_of_lt_of_le hk hb.size) (fun e => by injection e with e; omega)⟩
end
theorem Xg (x : CoreT) (A3 c3 A4 c4 A5 c5 A6 c6) : ∀ u ∈ Qb x A3 c3 A4 c4 A5 c5 A6 c6, u.oneCell' = true := by
 intro u hu
 simp only [Qb, List.mem_cons, List.not_mem_nil, or_false] at hu
 rcases hu with rfl | rfl | rfl | rfl | rfl | rfl | rfl <;> rfl
theorem qpp (x : AltT) (A1 c1 A3 c3 A4 c4 A5 c5 A6 c6) : ∀ u ∈ Yl x A1 c1 A3 c3 A4 c4 A5 c5 A6 c6, u.oneCell' = true := by
 intro u hu
 simp only [Yl, List.mem_cons, List.not_mem_nil, or_false] at hu
 rcases hu with rfl | rfl | rfl | rfl | rfl | rfl | rfl | rfl | rfl <;> rfl
theorem qib {F : List Nat} {w : World} {o : Obj} (h : ∀ k ∈ F, k < w.heap.size) : Keep F w (w.alloc o) := ⟨by simp, fun k hk => ((Below.refl _ _).alloc (Nat.le_refl _) o).block k (h k hk)⟩
theorem Vp {x : CoreT} {y : AltT} (hbk : bulk x ≤ 274877906944) (h : y ∈ x.alts) : bulk y.body ≤ 274877906944 := by
 rw [Qg] at hbk
 have h1 := Zu h
 rw [Zo] at h1
 omega
theorem Hd {x : CoreT} {y : AltT} (hbk : bulk x ≤ 274877906944) (h : y ∈ x.alts) : y.names.length ≤ 274877906944 := by
 rw [Qg] at hbk
 have h1 := Zu h
 rw [Zo] at h1
 have := Qn y.names
 omega
section
variable {ops : Array Oper} {rest : List Oper} {o : Oper} {a : Act} {w : World} {Q : Exit → Act → World → Prop}
theorem qme (hgd : o.guard = none) (s x : Operand) (ho : o.op = .call { callee := .builtin .append, args := #[s, x], argTypes := #[32, 32] }) (base : Nat) (v : Value) (n : Nat) (xs : List Value) (hs : a.eval s = v) (hown : w.ownsRow base 35 7 v n xs)
  (h : Nat) (cy : List Value) (hx : a.eval x = .slice (some ⟨h, 0, none⟩) 1 1) (hl : cy.length = 7) (h1 : ∀ u ∈ cy, u.oneCell' = true) (hb : Blk w h 35 cy) (hn : n ≤ 274877906944) (hbase : base ≤ w.heap.size)
  (k : ∀ v' w', w'.ownsRow base 35 7 v' (n + 1) (xs ++ cy) → w.grownBy w' v.ownBlock → (v'.ownBlock = v.ownBlock ∨ v'.ownBlock = some w.heap.size) → wpList Tryz.prog ops Q rest (a.put o.dst v') w') : wpList Tryz.prog ops Q (o :: rest) a w := by
 obtain ⟨i, hi, hz⟩ : ∃ i, Tryz.prog.info? 35 = some i ∧ (i.zero, i.size, i.bytes) = _ := Option.map_eq_some_iff.1 infoC
 simp only [Prod.mk.injEq] at hz
 obtain ⟨hz0, hz1, hz2⟩ := hz
 exact wpList_append_own_at w hgd s x 32 ho base 35 i _ 7 128 Tryz.underlying32 hi hz0 hz1 hz2 rfl (by decide) v n xs hs hown ⟨h, 0, none⟩ 1 1 cy hx (by omega) (World.news_of_block hb) h1 (by simp only [maxLen]; omega) (by omega) hbase (fun v' w' h1 h2 _ h4 => k v' w' h1 h2 h4)
theorem qmd (hgd : o.guard = none) (s x : Operand) (ho : o.op = .call { callee := .builtin .append, args := #[s, x], argTypes := #[33, 33] }) (base : Nat) (v : Value) (n : Nat) (xs : List Value) (hs : a.eval s = v) (hown : w.ownsRow base 76 9 v n xs)
  (h : Nat) (cy : List Value) (hx : a.eval x = .slice (some ⟨h, 0, none⟩) 1 1) (hl : cy.length = 9) (h1 : ∀ u ∈ cy, u.oneCell' = true) (hb : Blk w h 76 cy) (hn : n ≤ 274877906944) (hbase : base ≤ w.heap.size)
  (k : ∀ v' w', w'.ownsRow base 76 9 v' (n + 1) (xs ++ cy) → w.grownBy w' v.ownBlock → (v'.ownBlock = v.ownBlock ∨ v'.ownBlock = some w.heap.size) → wpList Tryz.prog ops Q rest (a.put o.dst v') w') : wpList Tryz.prog ops Q (o :: rest) a w := by
 obtain ⟨i, hi, hz⟩ : ∃ i, Tryz.prog.info? 76 = some i ∧ (i.zero, i.size, i.bytes) = _ := Option.map_eq_some_iff.1 infoA
 simp only [Prod.mk.injEq] at hz
 obtain ⟨hz0, hz1, hz2⟩ := hz
 exact wpList_append_own_at w hgd s x 33 ho base 76 i _ 9 168 Tryz.underlying33 hi hz0 hz1 hz2 rfl (by decide) v n xs hs hown ⟨h, 0, none⟩ 1 1 cy hx (by omega) (World.news_of_block hb) h1 (by simp only [maxLen]; omega) (by omega) hbase (fun v' w' h1 h2 _ h4 => k v' w' h1 h2 h4)
end
end Go.Proofs.YtnoammmohdmnjaaGreat.C13
