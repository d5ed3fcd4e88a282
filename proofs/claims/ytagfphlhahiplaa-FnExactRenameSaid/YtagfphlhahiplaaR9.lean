/- Part of the proof that FnExactFormatCore answers true at every term. -/
import Derived.Deep.AppendLies
import Derived.Maps.AppendAt
import Derived.Test.YtagfphlhahiplaaR8
namespace Go.Proofs.Ytagfphlhahiplaa.C13
open Go Go.RowKit Go.Proofs.YtagfphlhahiplaaW.PrintWords Go.Proofs.Ytagfphlhahiplaa.PFnExactFormatCore
set_option linter.unusedVariables false
/-- the struct at block g, its kids ks and alternatives ls so far; W the world ahead of it; its blocks are older than N -/
structure CpE (x : CoreT) (W : World) (N g : Nat) (v3 v4 v5 v6 : Value) (ks : List CoreT) (ls : List AltT) (F3 F4 F5 F6 G5 G6 : List Nat) (c5 c6 : List Value) (w : World) : Prop where
  blk : Blk w g 36 [.int .i64 x.kind, .string x.name, .bool x.minus, v3, v4, v5, v6]
  r3 : Row w 108 v3 x.limbs.length (encI .u32 x.limbs) F3
  r4 : Row w 9 v4 x.names.length (encS x.names) F4
  r5 : Row w 36 v5 ks.length c5 F5
  o5 : w.ownsRow W.heap.size 36 7 v5 ks.length c5
  k5 : OwnCs 36 80 w ks c5 G5
  f5 : F5 = v5.ownBlock.toList
  r6 : Row w 80 v6 ls.length c6 F6
  o6 : w.ownsRow W.heap.size 80 9 v6 ls.length c6
  k6 : OwnAs 36 80 w ls c6 G6
  f6 : F6 = v6.ownBlock.toList
  nd : (F5 ++ (F6 ++ (g :: (F3 ++ (F4 ++ (G5 ++ G6)))))).Nodup
  ge : ∀ k ∈ F5 ++ (F6 ++ (g :: (F3 ++ (F4 ++ (G5 ++ G6))))), W.heap.size ≤ k ∧ k < N
  below : Below W.heap.size W w
def CpI (x : CoreT) (W : World) (N g : Nat) (v3 v4 v5 v6 : Value) (ks : List CoreT) (ls : List AltT) (w : World) : Prop := ∃ F3 F4 F5 F6 G5 G6 c5 c6, CpE x W N g v3 v4 v5 v6 ks ls F3 F4 F5 F6 G5 G6 c5 c6 w
theorem own_row {base : Nat} {e : TypeId} {size : Nat} {w : World} {v : Value} {n : Nat} {xs : List Value} (hsz : 0 < size) (h : w.ownsRow base e size v n xs) : Row w e v n xs v.ownBlock.toList ∧ (∀ k ∈ v.ownBlock.toList, base ≤ k) ∧ v.ownBlock.toList.Nodup := by
  obtain ⟨hl, h⟩ := h
  rcases h with ⟨rfl, rfl⟩ | ⟨g, cap, cur, rfl, hg, hb, hn, hc, hs, rfl⟩
  · exact ⟨.inl ⟨rfl, rfl, List.eq_nil_of_length_eq_zero (by omega), rfl⟩, (fun k hk => by cases hk), List.nodup_nil⟩
  · refine ⟨.inr ⟨g, cap, cur.toList.drop (n * size), rfl, hn, by simpa [maxLen] using hc, ?_, rfl⟩, fun k hk => ?_, by simp [Value.ownBlock]⟩
    · unfold Blk
      rw [List.take_append_drop]
      exact hb
    · simp [Value.ownBlock] at hk; rw [hk]; exact hg
theorem own_moveR {base : Nat} {e : TypeId} {size : Nat} {w w' : World} {v : Value} {n : Nat} {xs : List Value} (h : w.ownsRow base e size v n xs) (hm : ∀ k ∈ v.ownBlock.toList, w'.heap[k]? = w.heap[k]?) : w'.ownsRow base e size v n xs := by
  obtain ⟨hl, h⟩ := h
  rcases h with h | ⟨g, cap, cur, rfl, hg, hb, hn, hc, hs, rfl⟩
  · exact ⟨hl, .inl h⟩
  · exact ⟨hl, .inr ⟨g, cap, cur, rfl, hg, (hm g (by simp [Value.ownBlock])).trans hb, hn, hc, hs, rfl⟩⟩
section
variable {x : CoreT} {W : World} {N g : Nat} {v3 v4 v5 v6 : Value} {ks : List CoreT} {ls : List AltT} {F3 F4 F5 F6 G5 G6 : List Nat} {c5 c6 : List Value} {w : World}
theorem CpE.lt (h : CpE x W N g v3 v4 v5 v6 ks ls F3 F4 F5 F6 G5 G6 c5 c6 w) : ∀ k ∈ F5 ++ (F6 ++ (g :: (F3 ++ (F4 ++ (G5 ++ G6))))), k < w.heap.size := by
  intro k hk
  simp only [List.mem_append, List.mem_cons] at hk
  rcases hk with hk | hk | rfl | hk | hk | hk | hk
  · exact h.r5.lt k hk
  · exact h.r6.lt k hk
  · exact h.blk.lt
  · exact h.r3.lt k hk
  · exact h.r4.lt k hk
  · exact ownCs_lt' h.k5 k hk
  · exact ownAs_lt' h.k6 k hk
theorem CpE.move {w' : World} (h : CpE x W N g v3 v4 v5 v6 ks ls F3 F4 F5 F6 G5 G6 c5 c6 w) (hm : ∀ k ∈ F5 ++ (F6 ++ (g :: (F3 ++ (F4 ++ (G5 ++ G6))))), w'.heap[k]? = w.heap[k]?) (hb : Below W.heap.size W w') : CpE x W N g v3 v4 v5 v6 ks ls F3 F4 F5 F6 G5 G6 c5 c6 w' :=
  ⟨h.blk.move (hm g (by simp)), h.r3.move (fun k hk => hm k (by simp [hk])), h.r4.move (fun k hk => hm k (by simp [hk])), h.r5.move (fun k hk => hm k (by simp [hk])), own_moveR h.o5 (fun k hk => hm k (by rw [← h.f5] at hk; simp [hk])), ownCs_move' h.k5 (fun k hk => hm k (by simp [hk])), h.f5,
    h.r6.move (fun k hk => hm k (by simp [hk])), own_moveR h.o6 (fun k hk => hm k (by rw [← h.f6] at hk; simp [hk])), ownAs_move' h.k6 (fun k hk => hm k (by simp [hk])), h.f6, h.nd, h.ge, hb⟩
theorem CpE.to {w' : World} (h : CpE x W N g v3 v4 v5 v6 ks ls F3 F4 F5 F6 G5 G6 c5 c6 w) (hb : Below w.heap.size w w') : CpE x W N g v3 v4 v5 v6 ks ls F3 F4 F5 F6 G5 G6 c5 c6 w' :=
  h.move (fun k hk => hb.block k (h.lt k hk)) (h.below.trans (hb.mono h.below.size))
theorem CpE.mono {N' : Nat} (h : CpE x W N g v3 v4 v5 v6 ks ls F3 F4 F5 F6 G5 G6 c5 c6 w) (hN : N ≤ N') : CpE x W N' g v3 v4 v5 v6 ks ls F3 F4 F5 F6 G5 G6 c5 c6 w :=
  ⟨h.blk, h.r3, h.r4, h.r5, h.o5, h.k5, h.f5, h.r6, h.o6, h.k6, h.f6, h.nd, fun k hk => ⟨(h.ge k hk).1, Nat.lt_of_lt_of_le (h.ge k hk).2 hN⟩, h.below⟩
theorem CpE.fresh (h : CpE x W N g v3 v4 v5 v6 ks ls F3 F4 F5 F6 G5 G6 c5 c6 w) : CpE x W w.heap.size g v3 v4 v5 v6 ks ls F3 F4 F5 F6 G5 G6 c5 c6 w :=
  ⟨h.blk, h.r3, h.r4, h.r5, h.o5, h.k5, h.f5, h.r6, h.o6, h.k6, h.f6, h.nd, fun k hk => ⟨(h.ge k hk).1, h.lt k hk⟩, h.below⟩
/-- a kid is appended: w to w3 the append, w3 to w4 the store -/
theorem CpE.kid {y : CoreT} {cy : List Value} {Fy : List Nat} {v5' : Value} {w3 w4 : World} (h : CpE x W N g v3 v4 v5 v6 ks ls F3 F4 F5 F6 G5 G6 c5 c6 w) (hy : OwnC 36 80 w y cy Fy) (hyn : Fy.Nodup) (hyf : ∀ k ∈ Fy, N ≤ k) (hW : W.heap.size ≤ N) (hN : N ≤ w.heap.size)
    (hg : w.grownBy w3 v5.ownBlock) (ho : w3.ownsRow W.heap.size 36 7 v5' (ks.length + 1) (c5 ++ cy)) (hat : v5'.ownBlock = v5.ownBlock ∨ v5'.ownBlock = some w.heap.size) (hs : w3.grownBy w4 (some g)) (hsz : w4.heap.size = w3.heap.size)
    (hb : Blk w4 g 36 [.int .i64 x.kind, .string x.name, .bool x.minus, v3, v4, v5', v6]) : CpE x W w4.heap.size g v3 v4 v5' v6 (ks ++ [y]) ls F3 F4 v5'.ownBlock.toList F6 (G5 ++ Fy) G6 (c5 ++ cy) c6 w4 := by
  have hnd := h.nd
  have hlt := h.lt
  have hge := h.ge
  rw [List.nodup_append] at hnd
  obtain ⟨n5, nL, d5⟩ := hnd
  have hylt := own_lt _ _ _ hy
  have f5 := h.f5
  -- what is not in F5 and is not g is ls it was
  have keep : ∀ k, k < w.heap.size → k ∉ F5 → k ≠ g → w4.heap[k]? = w.heap[k]? := fun k h1 h2 h3 => by
    rw [hs.block k (Nat.lt_of_lt_of_le h1 hg.size) (fun e => h3 (by injection e)), hg.block k h1 (fun e => h2 (by rw [f5, ← e]; simp))]
  have nL' : g ∉ F6 ∧ F6.Nodup ∧ (g :: (F3 ++ (F4 ++ (G5 ++ G6)))).Nodup := by
    rw [List.nodup_append] at nL
    exact ⟨fun hk => nL.2.2 g hk g (by simp) rfl, nL.1, nL.2.1⟩
  have gL : g ∉ F3 ++ (F4 ++ (G5 ++ G6)) := (List.nodup_cons.1 nL'.2.2).1
  have kL : ∀ k ∈ F6 ++ (F3 ++ (F4 ++ (G5 ++ G6))), w4.heap[k]? = w.heap[k]? := fun k hk => by
    have hk' : k ∈ F6 ++ (g :: (F3 ++ (F4 ++ (G5 ++ G6)))) := by
      rcases List.mem_append.1 hk with hk | hk
      · exact List.mem_append_left _ hk
      · exact List.mem_append_right _ (List.mem_cons_of_mem _ hk)
    refine keep k (hlt k (List.mem_append_right _ hk')) (fun h5 => d5 k h5 k hk' rfl) (fun e => ?_)
    subst e
    rcases List.mem_append.1 hk with hk | hk
    · exact nL'.1 hk
    · exact gL hk
  have ky : ∀ k ∈ Fy, w4.heap[k]? = w.heap[k]? := fun k hk => keep k (hylt k hk) (fun h5 => by have := (hge k (List.mem_append_left _ h5)).2; have := hyf k hk; omega) (fun e => by have := (hge g (by simp)).2; have := hyf k hk; omega)
  obtain ⟨hr5, hb5, hn5⟩ := own_row (by omega) ho
  have hlen : (ks ++ [y]).length = ks.length + 1 := by simp
  have g5 : ∀ k ∈ v5'.ownBlock.toList, k ∈ F5 ∨ k = w.heap.size := fun k hk => by
    rcases hat with e | e
    · rw [e, ← f5] at hk; exact .inl hk
    · rw [e] at hk; simp at hk; exact .inr hk
  have k5' : ∀ k ∈ v5'.ownBlock.toList, w4.heap[k]? = w3.heap[k]? := fun k hk => hs.block k (hr5.lt k hk) (fun e => by
    injection e with e
    subst e
    rcases g5 _ hk with h' | h'
    · exact d5 _ h' _ (by simp) rfl
    · have := hlt k (by simp); omega)
  have hperm : (v5'.ownBlock.toList ++ (F6 ++ (g :: (F3 ++ (F4 ++ ((G5 ++ Fy) ++ G6)))))).Perm (v5'.ownBlock.toList ++ ((F6 ++ (g :: (F3 ++ (F4 ++ (G5 ++ G6))))) ++ Fy)) := by
    rw [List.perm_iff_count]
    intro a
    simp only [List.count_append, List.count_cons]
    omega
  refine ⟨hb, h.r3.move (fun k hk => kL k (by simp [hk])), h.r4.move (fun k hk => kL k (by simp [hk])), by rw [hlen]; exact hr5.move k5', by rw [hlen]; exact own_moveR ho k5',
    ownCs_snoc _ _ _ _ _ _ (ownCs_move' h.k5 (fun k hk => kL k (by simp [hk]))) (own_move _ _ _ hy ky), rfl, h.r6.move (fun k hk => kL k (by simp [hk])), own_moveR h.o6 (fun k hk => kL k (by rw [← h.f6] at hk; simp [hk])), ownAs_move' h.k6 (fun k hk => kL k (by simp [hk])), h.f6, ?_, ?_, ?_⟩
  · rw [hperm.nodup_iff, List.nodup_append]
    refine ⟨hn5, nodup_app nL hyn (fun k hk => (hge k (List.mem_append_right _ hk)).2) hyf, fun a ha b hb hab => ?_⟩
    subst hab
    rcases List.mem_append.1 hb with hb | hb
    · rcases g5 a ha with h' | h'
      · exact d5 a h' a hb rfl
      · have := hlt a (List.mem_append_right _ hb); omega
    · rcases g5 a ha with h' | h'
      · have := (hge a (List.mem_append_left _ h')).2; have := hyf a hb; omega
      · have := hylt a hb; omega
  · intro k hk
    rw [hperm.mem_iff] at hk
    have hz : w.heap.size ≤ w4.heap.size := by rw [hsz]; exact hg.size
    rcases List.mem_append.1 hk with hk | hk
    · exact ⟨hb5 k hk, by rw [hsz]; exact hr5.lt k hk⟩
    · rcases List.mem_append.1 hk with hk | hk
      · exact ⟨(hge k (List.mem_append_right _ hk)).1, Nat.lt_of_lt_of_le (hlt k (List.mem_append_right _ hk)) hz⟩
      · exact ⟨Nat.le_trans hW (hyf k hk), Nat.lt_of_lt_of_le (hylt k hk) hz⟩
  · have hgW := (hge g (by simp)).1
    refine (h.below.trans ?_).trans (b := w3) ?_
    · exact ⟨hg.os, hg.tape, hg.output, hg.size, fun k hk => hg.block k (Nat.lt_of_lt_of_le hk (Nat.le_trans hW hN)) (fun e => by
        have : k ∈ F5 := by rw [f5, ← e]; simp
        have := (hge k (List.mem_append_left _ this)).1; omega)⟩
    · exact ⟨hs.os, hs.tape, hs.output, hs.size, fun k hk => hs.block k (Nat.lt_of_lt_of_le hk (Nat.le_trans (Nat.le_trans hW hN) hg.size)) (fun e => by injection e with e; omega)⟩
/-- an alternative is appended: w to w3 the append, w3 to w4 the store -/
theorem CpE.alt {y : AltT} {cy : List Value} {Fy : List Nat} {v6' : Value} {w3 w4 : World} (h : CpE x W N g v3 v4 v5 v6 ks ls F3 F4 F5 F6 G5 G6 c5 c6 w) (hy : OwnA 36 80 w y cy Fy) (hyn : Fy.Nodup) (hyf : ∀ k ∈ Fy, N ≤ k) (hW : W.heap.size ≤ N) (hN : N ≤ w.heap.size)
    (hg : w.grownBy w3 v6.ownBlock) (ho : w3.ownsRow W.heap.size 80 9 v6' (ls.length + 1) (c6 ++ cy)) (hat : v6'.ownBlock = v6.ownBlock ∨ v6'.ownBlock = some w.heap.size) (hs : w3.grownBy w4 (some g)) (hsz : w4.heap.size = w3.heap.size)
    (hb : Blk w4 g 36 [.int .i64 x.kind, .string x.name, .bool x.minus, v3, v4, v5, v6']) : CpE x W w4.heap.size g v3 v4 v5 v6' ks (ls ++ [y]) F3 F4 F5 v6'.ownBlock.toList G5 (G6 ++ Fy) c5 (c6 ++ cy) w4 := by
  have hp0 : (F5 ++ (F6 ++ (g :: (F3 ++ (F4 ++ (G5 ++ G6)))))).Perm (F6 ++ (F5 ++ (g :: (F3 ++ (F4 ++ (G5 ++ G6)))))) := by
    rw [List.perm_iff_count]
    intro a
    simp only [List.count_append, List.count_cons]
    omega
  have hnd := (hp0.nodup_iff).1 h.nd
  have hlt : ∀ k ∈ F6 ++ (F5 ++ (g :: (F3 ++ (F4 ++ (G5 ++ G6))))), k < w.heap.size := fun k hk => h.lt k (hp0.mem_iff.2 hk)
  have hge : ∀ k ∈ F6 ++ (F5 ++ (g :: (F3 ++ (F4 ++ (G5 ++ G6))))), W.heap.size ≤ k ∧ k < N := fun k hk => h.ge k (hp0.mem_iff.2 hk)
  rw [List.nodup_append] at hnd
  obtain ⟨n5, nL, d5⟩ := hnd
  have hylt := ownA_lt _ _ _ hy
  have f5 := h.f6
  -- what is not in F6 and is not g is ls it was
  have keep : ∀ k, k < w.heap.size → k ∉ F6 → k ≠ g → w4.heap[k]? = w.heap[k]? := fun k h1 h2 h3 => by
    rw [hs.block k (Nat.lt_of_lt_of_le h1 hg.size) (fun e => h3 (by injection e)), hg.block k h1 (fun e => h2 (by rw [f5, ← e]; simp))]
  have nL' : g ∉ F5 ∧ F5.Nodup ∧ (g :: (F3 ++ (F4 ++ (G5 ++ G6)))).Nodup := by
    rw [List.nodup_append] at nL
    exact ⟨fun hk => nL.2.2 g hk g (by simp) rfl, nL.1, nL.2.1⟩
  have gL : g ∉ F3 ++ (F4 ++ (G5 ++ G6)) := (List.nodup_cons.1 nL'.2.2).1
  have kL : ∀ k ∈ F5 ++ (F3 ++ (F4 ++ (G5 ++ G6))), w4.heap[k]? = w.heap[k]? := fun k hk => by
    have hk' : k ∈ F5 ++ (g :: (F3 ++ (F4 ++ (G5 ++ G6)))) := by
      rcases List.mem_append.1 hk with hk | hk
      · exact List.mem_append_left _ hk
      · exact List.mem_append_right _ (List.mem_cons_of_mem _ hk)
    refine keep k (hlt k (List.mem_append_right _ hk')) (fun h5 => d5 k h5 k hk' rfl) (fun e => ?_)
    subst e
    rcases List.mem_append.1 hk with hk | hk
    · exact nL'.1 hk
    · exact gL hk
  have ky : ∀ k ∈ Fy, w4.heap[k]? = w.heap[k]? := fun k hk => keep k (hylt k hk) (fun h5 => by have := (hge k (List.mem_append_left _ h5)).2; have := hyf k hk; omega) (fun e => by have := (hge g (by simp)).2; have := hyf k hk; omega)
  obtain ⟨hr5, hb5, hn5⟩ := own_row (by omega) ho
  have hlen : (ls ++ [y]).length = ls.length + 1 := by simp
  have g5 : ∀ k ∈ v6'.ownBlock.toList, k ∈ F6 ∨ k = w.heap.size := fun k hk => by
    rcases hat with e | e
    · rw [e, ← f5] at hk; exact .inl hk
    · rw [e] at hk; simp at hk; exact .inr hk
  have k5' : ∀ k ∈ v6'.ownBlock.toList, w4.heap[k]? = w3.heap[k]? := fun k hk => hs.block k (hr5.lt k hk) (fun e => by
    injection e with e
    subst e
    rcases g5 _ hk with h' | h'
    · exact d5 _ h' _ (by simp) rfl
    · have := hlt k (by simp); omega)
  have hperm : (F5 ++ (v6'.ownBlock.toList ++ (g :: (F3 ++ (F4 ++ (G5 ++ (G6 ++ Fy))))))).Perm (v6'.ownBlock.toList ++ ((F5 ++ (g :: (F3 ++ (F4 ++ (G5 ++ G6))))) ++ Fy)) := by
    rw [List.perm_iff_count]
    intro a
    simp only [List.count_append, List.count_cons]
    omega
  refine ⟨hb, h.r3.move (fun k hk => kL k (by simp [hk])), h.r4.move (fun k hk => kL k (by simp [hk])), h.r5.move (fun k hk => kL k (by simp [hk])), own_moveR h.o5 (fun k hk => kL k (by rw [← h.f5] at hk; simp [hk])), ownCs_move' h.k5 (fun k hk => kL k (by simp [hk])), h.f5,
    by rw [hlen]; exact hr5.move k5', by rw [hlen]; exact own_moveR ho k5', ownAs_snoc _ _ _ _ _ _ (ownAs_move' h.k6 (fun k hk => kL k (by simp [hk]))) (ownA_move _ _ _ hy ky), rfl, ?_, ?_, ?_⟩
  · rw [hperm.nodup_iff, List.nodup_append]
    refine ⟨hn5, nodup_app nL hyn (fun k hk => (hge k (List.mem_append_right _ hk)).2) hyf, fun a ha b hb hab => ?_⟩
    subst hab
    rcases List.mem_append.1 hb with hb | hb
    · rcases g5 a ha with h' | h'
      · exact d5 a h' a hb rfl
      · have := hlt a (List.mem_append_right _ hb); omega
    · rcases g5 a ha with h' | h'
      · have := (hge a (List.mem_append_left _ h')).2; have := hyf a hb; omega
      · have := hylt a hb; omega
  · intro k hk
    rw [hperm.mem_iff] at hk
    have hz : w.heap.size ≤ w4.heap.size := by rw [hsz]; exact hg.size
    rcases List.mem_append.1 hk with hk | hk
    · exact ⟨hb5 k hk, by rw [hsz]; exact hr5.lt k hk⟩
    · rcases List.mem_append.1 hk with hk | hk
      · exact ⟨(hge k (List.mem_append_right _ hk)).1, Nat.lt_of_lt_of_le (hlt k (List.mem_append_right _ hk)) hz⟩
      · exact ⟨Nat.le_trans hW (hyf k hk), Nat.lt_of_lt_of_le (hylt k hk) hz⟩
  · have hgW := (hge g (by simp)).1
    refine (h.below.trans ?_).trans (b := w3) ?_
    · exact ⟨hg.os, hg.tape, hg.output, hg.size, fun k hk => hg.block k (Nat.lt_of_lt_of_le hk (Nat.le_trans hW hN)) (fun e => by
        have : k ∈ F6 := by rw [f5, ← e]; simp
        have := (hge k (List.mem_append_left _ this)).1; omega)⟩
    · exact ⟨hs.os, hs.tape, hs.output, hs.size, fun k hk => hs.block k (Nat.lt_of_lt_of_le hk (Nat.le_trans (Nat.le_trans hW hN) hg.size)) (fun e => by injection e with e; omega)⟩
/-- what is handed back -/
theorem CpE.own (h : CpE x W N g v3 v4 v5 v6 x.kids x.alts F3 F4 F5 F6 G5 G6 c5 c6 w) : ∃ F, OwnC 36 80 w x [.int .i64 x.kind, .string x.name, .bool x.minus, v3, v4, v5, v6] F ∧ F.Nodup ∧ (∀ k ∈ F, W.heap.size ≤ k) ∧ ∀ k ∈ F, k ≠ g := by
  refine ⟨F3 ++ (F4 ++ ((F5 ++ G5) ++ (F6 ++ G6))), ?_, ?_, ?_, ?_⟩
  · rw [OwnC_eq]
    exact ⟨_, _, _, _, F3, F4, F5, F6, G5, G6, _, _, rfl, rfl, h.r3, h.r4, ⟨h.r5, h.k5⟩, ⟨h.r6, h.k6⟩⟩
  all_goals
    have hperm : (F5 ++ (F6 ++ (g :: (F3 ++ (F4 ++ (G5 ++ G6)))))).Perm (g :: (F3 ++ (F4 ++ ((F5 ++ G5) ++ (F6 ++ G6))))) := by
      rw [List.perm_iff_count]
      intro a
      simp only [List.count_append, List.count_cons]
      omega
    have hnd := h.nd
    rw [hperm.nodup_iff, List.nodup_cons] at hnd
  · exact hnd.2
  · intro k hk
    exact (h.ge k (hperm.mem_iff.2 (List.mem_cons_of_mem _ hk))).1
  · rintro k hk rfl
    exact hnd.1 hk
theorem cpE_start {w' w5 : World} {F3 F4 : List Nat} (hb : Below W.heap.size W.drew w') (hnd : ((F3 ++ F4) ++ [g]).Nodup) (hF : ∀ k ∈ (F3 ++ F4) ++ [g], W.heap.size ≤ k ∧ k < w'.heap.size) (hr3 : Row w' 108 v3 x.limbs.length (encI .u32 x.limbs) F3) (hr4 : Row w' 9 v4 x.names.length (encS x.names) F4)
    (hblk : Blk w5 g 36 ([] ++ ([.int .i64 x.kind, .string x.name, .bool x.minus, v3, v4, .slice none 0 0, .slice none 0 0] ++ []))) (hg : w'.grownBy w5 (some g)) (hsz : w5.heap.size = w'.heap.size) : CpI x W w5.heap.size g v3 v4 (.slice none 0 0) (.slice none 0 0) (x.kids.take 0) [] w5 := by
  have hperm : ((F3 ++ F4) ++ [g]).Perm (g :: (F3 ++ (F4 ++ ([] ++ [])))) := by
    rw [List.perm_iff_count]
    intro a
    simp only [List.count_append, List.count_cons, List.count_nil]
    omega
  have hnd' := (hperm.nodup_iff).1 hnd
  have hng : ∀ k, k ∈ F3 ++ F4 → k ≠ g := fun k hk e => by subst e; exact (List.nodup_cons.1 hnd').1 (by simpa using hk)
  have hm : ∀ k ∈ F3 ++ F4, w5.heap[k]? = w'.heap[k]? := fun k hk => hg.block k (hF k (List.mem_append_left _ hk)).2 (fun e => hng k hk (by injection e))
  have hgW := hF g (by simp)
  refine ⟨F3, F4, [], [], [], [], [], [], by simpa using hblk, hr3.move (fun k hk => hm k (by simp [hk])), hr4.move (fun k hk => hm k (by simp [hk])), .inl ⟨rfl, rfl, rfl, rfl⟩, ⟨rfl, .inl ⟨rfl, rfl⟩⟩, by rw [List.take_zero, OwnCs]; exact ⟨rfl, rfl⟩, rfl, .inl ⟨rfl, rfl, rfl, rfl⟩, ⟨rfl, .inl ⟨rfl, rfl⟩⟩, by rw [OwnAs]; exact ⟨rfl, rfl⟩, rfl, hnd', ?_, ?_⟩
  · intro k hk
    rw [hsz]
    exact hF k (hperm.mem_iff.2 hk)
  · have : Below W.heap.size W w' := ⟨hb.os, hb.tape, hb.output, hb.size, hb.block⟩
    exact this.trans ⟨hg.os, hg.tape, hg.output, hg.size, fun k hk => hg.block k (Nat.lt_of_lt_of_le hk hb.size) (fun e => by injection e with e; omega)⟩
end
theorem cellsC_one (x : CoreT) (A3 c3 A4 c4 A5 c5 A6 c6) : ∀ u ∈ cellsC x A3 c3 A4 c4 A5 c5 A6 c6, u.oneCell' = true := by
  intro u hu
  simp only [cellsC, List.mem_cons, List.not_mem_nil, or_false] at hu
  rcases hu with rfl | rfl | rfl | rfl | rfl | rfl | rfl <;> rfl
theorem cellsA_one (x : AltT) (A1 c1 A3 c3 A4 c4 A5 c5 A6 c6) : ∀ u ∈ cellsA x A1 c1 A3 c3 A4 c4 A5 c5 A6 c6, u.oneCell' = true := by
  intro u hu
  simp only [cellsA, List.mem_cons, List.not_mem_nil, or_false] at hu
  rcases hu with rfl | rfl | rfl | rfl | rfl | rfl | rfl | rfl | rfl <;> rfl
theorem keep_alloc {F : List Nat} {w : World} {o : Obj} (h : ∀ k ∈ F, k < w.heap.size) : Keep F w (w.alloc o) := ⟨by simp, fun k hk => ((Below.refl _ _).alloc (Nat.le_refl _) o).block k (h k hk)⟩
theorem alt_bulk {x : CoreT} {y : AltT} (hbk : bulk x ≤ 1048576) (h : y ∈ x.alts) : bulk y.body ≤ 1048576 := by
  rw [bulk_eq] at hbk
  have h1 := mem_abulks h
  rw [abulk_eq] at h1
  omega
theorem alt_names_len {x : CoreT} {y : AltT} (hbk : bulk x ≤ 1048576) (h : y ∈ x.alts) : y.names.length ≤ 1048576 := by
  rw [bulk_eq] at hbk
  have h1 := mem_abulks h
  rw [abulk_eq] at h1
  have := len_strsB y.names
  omega
section
variable {ops : Array Oper} {rest : List Oper} {o : Oper} {a : Act} {w : World} {Q : Exit → Act → World → Prop}
theorem wpList_pushC (hgd : o.guard = none) (s x : Operand) (ho : o.op = .call { callee := .builtin .append, args := #[s, x], argTypes := #[33, 33] }) (base : Nat) (v : Value) (n : Nat) (xs : List Value) (hs : a.eval s = v) (hown : w.ownsRow base 36 7 v n xs)
    (h : Nat) (cy : List Value) (hx : a.eval x = .slice (some ⟨h, 0, none⟩) 1 1) (hl : cy.length = 7) (h1 : ∀ u ∈ cy, u.oneCell' = true) (hb : Blk w h 36 cy) (hn : n ≤ 1048576) (hbase : base ≤ w.heap.size)
    (k : ∀ v' w', w'.ownsRow base 36 7 v' (n + 1) (xs ++ cy) → w.grownBy w' v.ownBlock → (v'.ownBlock = v.ownBlock ∨ v'.ownBlock = some w.heap.size) → wpList Try.prog ops Q rest (a.put o.dst v') w') : wpList Try.prog ops Q (o :: rest) a w := by
  obtain ⟨i, hi, hz⟩ : ∃ i, Try.prog.info? 36 = some i ∧ (i.zero, i.size, i.bytes) = _ := Option.map_eq_some_iff.1 infoC
  simp only [Prod.mk.injEq] at hz
  obtain ⟨hz0, hz1, hz2⟩ := hz
  exact wpList_append_own_at w hgd s x 33 ho base 36 i _ 7 128 Try.underlying33 hi hz0 hz1 hz2 rfl (by decide) v n xs hs hown ⟨h, 0, none⟩ 1 1 cy hx (by omega) (World.news_of_block hb) h1 (by simp only [maxLen]; omega) (by omega) hbase (fun v' w' h1 h2 _ h4 => k v' w' h1 h2 h4)
theorem wpList_pushA (hgd : o.guard = none) (s x : Operand) (ho : o.op = .call { callee := .builtin .append, args := #[s, x], argTypes := #[34, 34] }) (base : Nat) (v : Value) (n : Nat) (xs : List Value) (hs : a.eval s = v) (hown : w.ownsRow base 80 9 v n xs)
    (h : Nat) (cy : List Value) (hx : a.eval x = .slice (some ⟨h, 0, none⟩) 1 1) (hl : cy.length = 9) (h1 : ∀ u ∈ cy, u.oneCell' = true) (hb : Blk w h 80 cy) (hn : n ≤ 1048576) (hbase : base ≤ w.heap.size)
    (k : ∀ v' w', w'.ownsRow base 80 9 v' (n + 1) (xs ++ cy) → w.grownBy w' v.ownBlock → (v'.ownBlock = v.ownBlock ∨ v'.ownBlock = some w.heap.size) → wpList Try.prog ops Q rest (a.put o.dst v') w') : wpList Try.prog ops Q (o :: rest) a w := by
  obtain ⟨i, hi, hz⟩ : ∃ i, Try.prog.info? 80 = some i ∧ (i.zero, i.size, i.bytes) = _ := Option.map_eq_some_iff.1 infoA
  simp only [Prod.mk.injEq] at hz
  obtain ⟨hz0, hz1, hz2⟩ := hz
  exact wpList_append_own_at w hgd s x 34 ho base 80 i _ 9 168 Try.underlying34 hi hz0 hz1 hz2 rfl (by decide) v n xs hs hown ⟨h, 0, none⟩ 1 1 cy hx (by omega) (World.news_of_block hb) h1 (by simp only [maxLen]; omega) (by omega) hbase (fun v' w' h1 h2 _ h4 => k v' w' h1 h2 h4)
end
end Go.Proofs.Ytagfphlhahiplaa.C13
namespace Go.Proofs.Ytagfphlhahiplaa.C13
open Go.RowKit Go.Proofs.YtagfphlhahiplaaW.PrintWords Go.Proofs.Ytagfphlhahiplaa.PFnExactFormatCore
set_option linter.unusedVariables false
set_option linter.unusedSimpArgs false
def CopySaid (x : CoreT) : Prop := bulk x ≤ 1048576 → ∀ (w : World) (cs : List Value), IC.K w x cs →
  Calls Try.prog 31 #[.agg cs.toArray] w (ToPost 36 80 x w)
/-- the parameter's box is as it was -/
def CopyS (w W2 : World) (x : CoreT) (A3 : Option Addr) (c3 : Nat) (A4 : Option Addr) (c4 : Nat) (A5 : Option Addr) (c5 : Nat) (A6 : Option Addr) (c6 : Nat) (W' : World) : Prop :=
  W'.cell? ⟨w.heap.size, 0, none⟩ = some (.int .i64 x.kind) ∧ W'.cell? ⟨w.heap.size, 1, none⟩ = some (.string x.name) ∧ W'.cell? ⟨w.heap.size, 2, none⟩ = some (.bool x.minus) ∧ W'.cell? ⟨w.heap.size, 3, none⟩ = some (.slice A3 x.limbs.length c3) ∧ W'.cell? ⟨w.heap.size, 4, none⟩ = some (.slice A4 x.names.length c4) ∧ W'.cell? ⟨w.heap.size, 5, none⟩ = some (.slice A5 x.kids.length c5) ∧ W'.cell? ⟨w.heap.size, 6, none⟩ = some (.slice A6 x.alts.length c6) ∧ Below w.heap.size w W' ∧ W2.heap.size ≤ W'.heap.size
def CopyU (x : CoreT) (l : List Value) (w : World) (F : List Nat) : Prop := ∃ B d, l = [.agg #[.bool x.minus, .slice B x.limbs.length d]] ∧ Row w 108 (.slice B x.limbs.length d) x.limbs.length (encI .u32 x.limbs) F
def CopyN (l : List ByteArray) (vs : List Value) (w : World) (F : List Nat) : Prop := ∃ B d, vs = [.slice B l.length d] ∧ Row w 9 (.slice B l.length d) l.length (encS l) F
def CopyZ (l : List Value) (w : World) (F : List Nat) : Prop := ∃ g, l = [.pointer (some ⟨g, 0, none⟩)] ∧ F = [g] ∧ Blk w g 36 [.int .i64 0, .string ⟨#[]⟩, .bool false, .slice none 0 0, .slice none 0 0, .slice none 0 0, .slice none 0 0]
def CopyA (y : AltT) (v : Value) (w : World) (F : List Nat) : Prop := ∃ h A1 c1 A3 c3 A4 c4 A5 c5 A6 c6 Fy, v = .slice (some ⟨h, 0, none⟩) 1 1 ∧ Blk w h 80 (cellsA y A1 c1 A3 c3 A4 c4 A5 c5 A6 c6) ∧ OwnA 36 80 w y (cellsA y A1 c1 A3 c3 A4 c4 A5 c5 A6 c6) Fy ∧ F = Fy ++ [h]
def CopyB (y : CoreT) (l : List Value) (w : World) (F : List Nat) : Prop := ∃ cs, l = [.agg cs.toArray] ∧ OwnC 36 80 w y cs F
/-- the struct without kids and alternatives -/
def CopyP (x : CoreT) (l : List Value) (w : World) (F : List Nat) : Prop := ∃ B3 d3 B4 d4 F3 F4, l = [.agg #[.int .i64 x.kind, .string x.name, .bool x.minus, .slice B3 x.limbs.length d3, .slice B4 x.names.length d4, .slice none 0 0, .slice none 0 0]] ∧ F = F3 ++ F4 ∧
  Row w 108 (.slice B3 x.limbs.length d3) x.limbs.length (encI .u32 x.limbs) F3 ∧ Row w 9 (.slice B4 x.names.length d4) x.names.length (encS x.names) F4
set_option maxRecDepth 100000 in
set_option maxHeartbeats 4000000 in
theorem l13Copy_any (x : CoreT) (ihk : ∀ y ∈ x.kids, CopySaid y) (iha : ∀ a ∈ x.alts, CopySaid a.body) : CopySaid x := by
  intro hbk w cs hK
  obtain ⟨A3, c3, A4, c4, A5, c5, A6, c6, rfl, l3, h3, l4, h4, l5, h5, l6, h6⟩ := core_open hK
  obtain ⟨b1, b2, b3, b4, b5⟩ := bounds hbk
  have IHK := Lib.hid ihk; have IHA := Lib.hid iha; have HBK := Lib.hid hbk
  have H3 := Lib.hid h3; have H4 := Lib.hid h4; have H5 := Lib.hid h5; have H6 := Lib.hid h6
  clear h3 h4 h5 h6 hK ihk iha hbk
  simp only [cellsC]
  obtain ⟨W1, hW1, hp1, hB1, hs1⟩ := boxed w [.int .i64 x.kind, .string x.name, .bool x.minus, .slice A3 x.limbs.length c3, .slice A4 x.names.length c4, .slice A5 x.kids.length c5, .slice A6 x.alts.length c6] 36
  obtain ⟨W2, hW2, hp2, hB2, hs2⟩ := boxed W1 [.int .i64 0, .string ⟨#[]⟩, .bool false, .slice none 0 0, .slice none 0 0, .slice none 0 0, .slice none 0 0] 36
  go_enter Try.func31, Try.ntmps31
  go_wp2_with fail
  rw [← hW1, ← hW2]
  have BP := Lib.hid (hp1.below hB2)
  have BR := Lib.hid (show Blk W2 (w.heap.size + 1) _ _ from by have h := hp2; rw [hs1] at h; exact h)
  have HB2 := Lib.hid (Below.step hB1 hB2)
  clear hp1 hp2 hB1 hB2 hW1 hW2 hs1 hs2
  have SST : Hid (∀ W' : World, Below W2.heap.size W2 W' → W'.cell? ⟨w.heap.size, 0, none⟩ = some (.int .i64 x.kind) ∧ W'.cell? ⟨w.heap.size, 1, none⟩ = some (.string x.name) ∧ W'.cell? ⟨w.heap.size, 2, none⟩ = some (.bool x.minus) ∧ W'.cell? ⟨w.heap.size, 3, none⟩ = some (.slice A3 x.limbs.length c3) ∧ W'.cell? ⟨w.heap.size, 4, none⟩ = some (.slice A4 x.names.length c4) ∧ W'.cell? ⟨w.heap.size, 5, none⟩ = some (.slice A5 x.kids.length c5) ∧ W'.cell? ⟨w.heap.size, 6, none⟩ = some (.slice A6 x.alts.length c6) ∧ Below w.heap.size w W' ∧ W2.heap.size ≤ W'.heap.size) := Lib.hid (fun W' hb => by
    have h1 := BP.out.below hb
    exact ⟨h1.cell (j := 0) rfl, h1.cell (j := 1) rfl, h1.cell (j := 2) rfl, h1.cell (j := 3) rfl, h1.cell (j := 4) rfl, h1.cell (j := 5) rfl, h1.cell (j := 6) rfl, Below.step HB2.out hb, hb.size⟩)
  have B0 : Below W2.heap.size W2 W2 := Below.refl _ _
  have BDR : Hid (∀ (W' : World), Below W2.heap.size W2 W' → Below W2.heap.size W2 W'.drew) := Lib.hid (fun W' h => below_drew h)
  have BAL : Hid (∀ (W' : World) (ob : Obj), Below W2.heap.size W2 W' → Below W2.heap.size W2 (W'.alloc ob)) := Lib.hid (fun W' ob h => h.alloc h.size ob)
  have BGR : Hid (∀ (W' W'' : World) (b : Nat), Below W2.heap.size W2 W' → W'.grownBy W'' (some b) → W2.heap.size ≤ b → Below W2.heap.size W2 W'') := Lib.hid (fun W' W'' b h hg hb => h.trans ⟨hg.os, hg.tape, hg.output, hg.size, fun i hi => hg.block i (Nat.lt_of_lt_of_le hi h.size) (fun e => by injection e with e; omega)⟩)
  have SS : Hid (∀ W' : World, Below W2.heap.size W2 W' → CopyS w W2 x A3 c3 A4 c4 A5 c5 A6 c6 W') := Lib.hid (fun W' hb => SST.out W' hb)
  refine wp_region_thr [0, 1, 2, 3, 4, 5, 6, 8, 9, 10, 14, 15] [] ((([7, 11, 12] ++ [13, 16]) ++ [17]) ++ [18]) [19] [13, 17, 18, 19, 22, 23, 3] (by kernel_rfl) (CopyS w W2 x A3 c3 A4 c4 A5 c5 A6 c6) (Both [23] [3] (CopyP x) CopyZ) (by kernel_rfl) (by kernel_rfl) (fun _ _ d _ _ h => by cases d <;> exact h) SS.out ?_
  refine YAll.cons (v := ?_) (some 6) (by rfl) (by rfl) (by rfl) ?_ ?_
  rotate_left
  · intro w' hSw
    obtain ⟨p0, p1, p2, p3, p4, p5, p6, hSb, hSs⟩ := hSw
    go_simp
    try (with_reducible rfl)
  simp only [Act.put, List.setIfInBounds_toArray, List.set_cons_zero, List.set_cons_succ]
  refine YAll.cons (v := ?_) (some 7) (by rfl) (by rfl) (by rfl) ?_ ?_
  rotate_left
  · intro w' hSw
    obtain ⟨p0, p1, p2, p3, p4, p5, p6, hSb, hSs⟩ := hSw
    go_simp
    try (with_reducible rfl)
  simp only [Act.put, List.setIfInBounds_toArray, List.set_cons_zero, List.set_cons_succ]
  refine YAll.cons (v := ?_) (some 8) (by rfl) (by rfl) (by rfl) ?_ ?_
  rotate_left
  · intro w' hSw
    obtain ⟨p0, p1, p2, p3, p4, p5, p6, hSb, hSs⟩ := hSw
    go_simp
    try (with_reducible rfl)
  simp only [Act.put, List.setIfInBounds_toArray, List.set_cons_zero, List.set_cons_succ]
  refine YAll.cons (v := ?_) (some 9) (by rfl) (by rfl) (by rfl) ?_ ?_
  rotate_left
  · intro w' hSw
    obtain ⟨p0, p1, p2, p3, p4, p5, p6, hSb, hSs⟩ := hSw
    go_simp
    try (with_reducible rfl)
  simp only [Act.put, List.setIfInBounds_toArray, List.set_cons_zero, List.set_cons_succ]
  refine YAll.cons (v := ?_) (some 10) (by rfl) (by rfl) (by rfl) ?_ ?_
  rotate_left
  · intro w' hSw
    obtain ⟨p0, p1, p2, p3, p4, p5, p6, hSb, hSs⟩ := hSw
    go_simp
    try (with_reducible rfl)
  simp only [Act.put, List.setIfInBounds_toArray, List.set_cons_zero, List.set_cons_succ]
  refine YAll.cons (v := ?_) (some 11) (by rfl) (by rfl) (by rfl) ?_ ?_
  rotate_left
  · intro w' hSw
    obtain ⟨p0, p1, p2, p3, p4, p5, p6, hSb, hSs⟩ := hSw
    go_simp
    try (with_reducible rfl)
  simp only [Act.put, List.setIfInBounds_toArray, List.set_cons_zero, List.set_cons_succ]
  refine YAll.cons (v := ?_) (some 12) (by rfl) (by rfl) (by rfl) ?_ ?_
  rotate_left
  · intro w' hSw
    obtain ⟨p0, p1, p2, p3, p4, p5, p6, hSb, hSs⟩ := hSw
    go_simp
    try (with_reducible rfl)
  simp only [Act.put, List.setIfInBounds_toArray, List.set_cons_zero, List.set_cons_succ]
  refine YAll.cons (v := ?_) (some 14) (by rfl) (by rfl) (by rfl) ?_ ?_
  rotate_left
  · intro w' hSw
    obtain ⟨p0, p1, p2, p3, p4, p5, p6, hSb, hSs⟩ := hSw
    go_simp
    try (with_reducible rfl)
  simp only [Act.put, List.setIfInBounds_toArray, List.set_cons_zero, List.set_cons_succ]
  refine YAll.cons (v := ?_) (some 15) (by rfl) (by rfl) (by rfl) ?_ ?_
  rotate_left
  · intro w' hSw
    obtain ⟨p0, p1, p2, p3, p4, p5, p6, hSb, hSs⟩ := hSw
    go_simp
    try (with_reducible rfl)
  simp only [Act.put, List.setIfInBounds_toArray, List.set_cons_zero, List.set_cons_succ]
  refine YAll.cons (v := ?_) (some 16) (by rfl) (by rfl) (by rfl) ?_ ?_
  rotate_left
  · intro w' hSw
    obtain ⟨p0, p1, p2, p3, p4, p5, p6, hSb, hSs⟩ := hSw
    go_simp
    try (with_reducible rfl)
  simp only [Act.put, List.setIfInBounds_toArray, List.set_cons_zero, List.set_cons_succ]
  refine YAll.cons (v := ?_) (some 20) (by rfl) (by rfl) (by rfl) ?_ ?_
  rotate_left
  · intro w' hSw
    obtain ⟨p0, p1, p2, p3, p4, p5, p6, hSb, hSs⟩ := hSw
    go_simp
    try (with_reducible rfl)
  simp only [Act.put, List.setIfInBounds_toArray, List.set_cons_zero, List.set_cons_succ]
  refine YAll.cons (v := ?_) (some 21) (by rfl) (by rfl) (by rfl) ?_ ?_
  rotate_left
  · intro w' hSw
    obtain ⟨p0, p1, p2, p3, p4, p5, p6, hSb, hSs⟩ := hSw
    go_simp
    try (with_reducible rfl)
  simp only [Act.put, List.setIfInBounds_toArray, List.set_cons_zero, List.set_cons_succ]
  refine YAll.nil (YAll.nil ⟨?_, ?_⟩)
  · refine Thr.par (T1 := ([7, 11, 12] ++ [13, 16]) ++ [17]) (T2 := [18]) 6 1 [23] [3] (CopyP x) CopyZ (by kernel_rfl) (Nat.le_refl _) ?_ ?_
    · refine Thr.seq (T := [7, 11, 12] ++ [13, 16]) (C := [17]) 5 1 [13, 17, 18, 19, 22] (by kernel_rfl) (Both [18] [22] (CopyU x) (CopyN x.names)) (by kernel_rfl) (by kernel_rfl) (Below.refl _ _) ?_ ?_
      · refine Thr.par 3 2 [18] [22] (CopyU x) (CopyN x.names) (by kernel_rfl) (Nat.le_refl _) ?_ ?_
        · refine Thr.new (fun g => .slice (some ⟨g, 0, none⟩) 0 0) (.cells #[] 108) (some 13) (by rfl) rfl (by kernel_rfl) rfl (fun w' hb => by go_simp) ?_
          intro g w' hg1 hg2 hg3 hb
          simp only [Act.put, List.setIfInBounds_toArray, List.set_cons_zero, List.set_cons_succ]
          refine Thr.copyU (some 17) (by rfl) rfl (by kernel_rfl) rfl _ _ (by rfl) g (by rfl) hg3 hg1 A3 c3 x.limbs (by rfl) (fun w' hb => Kd.C_below H3.out (SS.out w' ⟨hb.os, hb.tape, hb.output, hb.size, hb.block⟩).2.2.2.2.2.2.2.1) b2 ?_
          intro B d w2 F hr hn hf hb2
          simp only [Act.put, List.setIfInBounds_toArray, List.set_cons_zero, List.set_cons_succ]
          refine Thr.value (v := .agg #[.bool x.minus, .slice B x.limbs.length d]) (some 18) (by rfl) rfl (by kernel_rfl) rfl hn (fun k hk => (hf k hk).2) (fun w' _ _ => by go_simp) ?_
          intro w3 hb3 hk3
          exact Thr.done _ (fun w4 hb4 hk4 => ⟨B, d, rfl, hk4.row (hk3.row hr (fun _ h => h)) (fun _ h => h)⟩)
        · refine Thr.new (fun g => .slice (some ⟨g, 0, none⟩) 0 0) (.cells #[] 9) (some 19) (by rfl) rfl (by kernel_rfl) rfl (fun w' hb => by go_simp) ?_
          intro g w' hg1 hg2 hg3 hb
          simp only [Act.put, List.setIfInBounds_toArray, List.set_cons_zero, List.set_cons_succ]
          refine Thr.copyS (some 22) (by rfl) rfl (by kernel_rfl) rfl _ _ (by rfl) g (by rfl) hg3 hg1 A4 c4 x.names (by rfl) (fun w' hb => Kd.C_below H4.out (SS.out w' ⟨hb.os, hb.tape, hb.output, hb.size, hb.block⟩).2.2.2.2.2.2.2.1) b4 ?_
          intro B d w2 F hr hn hf hb2
          exact Thr.done _ (fun w4 hb4 hk4 => ⟨B, d, rfl, hk4.row hr (fun _ h => h)⟩)
      · rintro u w' F hb hnd hF ⟨F1, F2, rfl, ⟨B3, d3, e1, hr1⟩, ⟨B4, d4, e2, hr2⟩⟩
        simp only [List.map_cons, List.map_nil, List.cons.injEq, and_true] at e1 e2
        simp only [putU, List.foldl_cons, List.foldl_nil, Act.put, List.setIfInBounds_toArray, List.set_cons_zero, List.set_cons_succ, e1, e2]
        refine Thr.value (v := .agg #[.int .i64 x.kind, .string x.name, .bool x.minus, .slice B3 x.limbs.length d3, .slice B4 x.names.length d4, .slice none 0 0, .slice none 0 0]) (some 23) (by rfl) rfl (by kernel_rfl) rfl hnd (fun k hk => (hF k hk).2) (fun w' _ _ => by go_simp) ?_
        intro w3 hb3 hk3
        exact Thr.done _ (fun w4 hb4 hk4 => ⟨B3, d3, B4, d4, F1, F2, rfl, rfl, hk4.left.row (hk3.left.row hr1 (fun _ h => h)) (fun _ h => h), hk4.right.row (hk3.right.row hr2 (fun _ h => h)) (fun _ h => h)⟩)
    · refine Thr.new (fun g => .pointer (some ⟨g, 0, none⟩)) (.cells #[.int .i64 0, .string ⟨#[]⟩, .bool false, .slice none 0 0, .slice none 0 0, .slice none 0 0, .slice none 0 0] 36) (some 3) (by rfl) rfl (by kernel_rfl) rfl (fun w' hb => by go_simp) ?_
      intro g w' hg1 hg2 hg3 hb
      exact Thr.done _ (fun w4 hb4 hk4 => ⟨g, rfl, rfl, hk4.blk hg3 (by simp)⟩)
  · rintro u w' F hb hnd hF ⟨F1, F2, rfl, ⟨B3, d3, B4, d4, F3, F4, e1, rfl, hr3, hr4⟩, ⟨g, e2, rfl, hz⟩⟩
    simp only [List.map_cons, List.map_nil, List.cons.injEq, and_true] at e1 e2
    simp only [putU, List.foldl_cons, List.foldl_nil, Act.put, List.setIfInBounds_toArray, List.set_cons_zero, List.set_cons_succ, pick, List.map_cons, List.map_nil, List.getD_cons_succ, List.getD_cons_zero, e1, e2]
    go_wp2_with (refine wpList_store_blk g 0 [] [.int .i64 0, .string ⟨#[]⟩, .bool false, .slice none 0 0, .slice none 0 0, .slice none 0 0, .slice none 0 0] [] [.int .i64 x.kind, .string x.name, .bool x.minus, .slice B3 x.limbs.length d3, .slice B4 x.names.length d4, .slice none 0 0, .slice none 0 0] 36 (by rfl) 36 _ _ (by rfl) (by rfl) rfl (by rfl) hz rfl (by kernel_rfl) ?hone ?_)
    case hone => intro v hv; simp at hv; rcases hv with rfl | rfl | rfl | rfl | rfl | rfl | rfl <;> rfl
    intro w5 hblk5 hg5 hsz5
    have C0 := Lib.hid (cpE_start hb hnd hF hr3 hr4 hblk5 hg5 hsz5)
    clear hblk5 hg5 hsz5 hz hr3 hr4 hF hnd hb e1 e2
    go_wp2_with fail
    have BPW := Lib.hid (show ∀ (w' : World), Below W2.heap.size W2 w' → Blk w' w.heap.size 36 (cellsC x A3 c3 A4 c4 A5 c5 A6 c6) from fun w' hb => BP.out.below hb)
    simp only [cellsC] at BPW
    go_loopw [4] (fun s4 wr => ∃ (v5 : Value) (k : Nat), k ≤ x.kids.length ∧ s4 = .int .i64 k ∧ Hid (CpI x W2 wr.heap.size g (.slice B3 x.limbs.length d3) (.slice B4 x.names.length d4) v5 (.slice none 0 0) (x.kids.take k) [] wr)) (fun s4 _ => x.kids.length - (intOf s4).toNat)
    case atStart => exact ⟨.slice none 0 0, 0, Nat.zero_le _, rfl, C0⟩
    case round =>
      obtain ⟨v5, k, hk, rfl, HI⟩ := hrel
      obtain ⟨F3, F4, F5, F6, G5, G6, c5', c6', hE⟩ := HI.out
      have HBP := Lib.hid (BPW.out wr hE.below)
      have q5 := HBP.out.cell (j := 5) rfl
      have HE := Lib.hid hE
      clear hE HI
      by_cases hlt : k < x.kids.length
      · have qk0 : (0 : Int) ≤ (k : Int) := by omega
        have qk1 : (k : Int) < x.kids.length := by omega
        obtain ⟨ad, A3', c3', A4', c4', B5, d5, B6, d6, rfl, hKk, g0, g1, g2, g3, g4, g5, g6⟩ := elem_core_at H5.out (Below.step HB2.out HE.out.below) k hlt
        have qg := HE.out.blk.cell (j := 5) rfl
        have KK := Lib.hid hKk; clear hKk
        go_wp2_with fail
        refine wp_region_thr [0, 1, 2, 3, 4, 5, 6] [] [7, 8] [9, 10, 11] [38, 39] (by kernel_rfl) (fun W' => Below wr.heap.size wr W') (fun u w' F => ∃ h A3 c3 A4 c4 A5 c5 A6 c6 Fy, u 39 = .slice (some ⟨h, 0, none⟩) 1 1 ∧ Blk w' h 36 (cellsC x.kids[k] A3 c3 A4 c4 A5 c5 A6 c6) ∧ OwnC 36 80 w' x.kids[k] (cellsC x.kids[k] A3 c3 A4 c4 A5 c5 A6 c6) Fy ∧ F = Fy ++ [h]) (by kernel_rfl) (by kernel_rfl) (fun _ _ d _ _ h => by cases d <;> exact h) (fun _ h => h) ?_
        refine YAll.cons (v := ?_) (some 31) (by rfl) (by rfl) (by rfl) ?_ ?_
        rotate_left
        · intro w' hSw
          have p5 := cell_of_below hSw q5; have r0 := cell_of_below hSw g0; have r1 := cell_of_below hSw g1; have r2 := cell_of_below hSw g2; have r3 := cell_of_below hSw g3; have r4 := cell_of_below hSw g4; have r5 := cell_of_below hSw g5; have r6 := cell_of_below hSw g6; have rg := cell_of_below hSw qg
          go_simp
          try (with_reducible rfl)
        simp only [Act.put, List.setIfInBounds_toArray, List.set_cons_zero, List.set_cons_succ]
        refine YAll.cons (v := ?_) (some 32) (by rfl) (by rfl) (by rfl) ?_ ?_
        rotate_left
        · intro w' hSw
          have p5 := cell_of_below hSw q5; have r0 := cell_of_below hSw g0; have r1 := cell_of_below hSw g1; have r2 := cell_of_below hSw g2; have r3 := cell_of_below hSw g3; have r4 := cell_of_below hSw g4; have r5 := cell_of_below hSw g5; have r6 := cell_of_below hSw g6; have rg := cell_of_below hSw qg
          go_simp
          try (with_reducible rfl)
        simp only [Act.put, List.setIfInBounds_toArray, List.set_cons_zero, List.set_cons_succ]
        refine YAll.cons (v := ?_) (some 33) (by rfl) (by rfl) (by rfl) ?_ ?_
        rotate_left
        · intro w' hSw
          have p5 := cell_of_below hSw q5; have r0 := cell_of_below hSw g0; have r1 := cell_of_below hSw g1; have r2 := cell_of_below hSw g2; have r3 := cell_of_below hSw g3; have r4 := cell_of_below hSw g4; have r5 := cell_of_below hSw g5; have r6 := cell_of_below hSw g6; have rg := cell_of_below hSw qg
          go_simp
          try (with_reducible rfl)
        simp only [Act.put, List.setIfInBounds_toArray, List.set_cons_zero, List.set_cons_succ]
        refine YAll.cons (v := ?_) (some 34) (by rfl) (by rfl) (by rfl) ?_ ?_
        rotate_left
        · intro w' hSw
          have p5 := cell_of_below hSw q5; have r0 := cell_of_below hSw g0; have r1 := cell_of_below hSw g1; have r2 := cell_of_below hSw g2; have r3 := cell_of_below hSw g3; have r4 := cell_of_below hSw g4; have r5 := cell_of_below hSw g5; have r6 := cell_of_below hSw g6; have rg := cell_of_below hSw qg
          go_simp
          try (with_reducible rfl)
        simp only [Act.put, List.setIfInBounds_toArray, List.set_cons_zero, List.set_cons_succ]
        refine YAll.cons (v := ?_) (some 35) (by rfl) (by rfl) (by rfl) ?_ ?_
        rotate_left
        · intro w' hSw
          have p5 := cell_of_below hSw q5; have r0 := cell_of_below hSw g0; have r1 := cell_of_below hSw g1; have r2 := cell_of_below hSw g2; have r3 := cell_of_below hSw g3; have r4 := cell_of_below hSw g4; have r5 := cell_of_below hSw g5; have r6 := cell_of_below hSw g6; have rg := cell_of_below hSw qg
          go_simp
          try (with_reducible rfl)
        simp only [Act.put, List.setIfInBounds_toArray, List.set_cons_zero, List.set_cons_succ]
        refine YAll.cons (v := ?_) (some 36) (by rfl) (by rfl) (by rfl) ?_ ?_
        rotate_left
        · intro w' hSw
          have p5 := cell_of_below hSw q5; have r0 := cell_of_below hSw g0; have r1 := cell_of_below hSw g1; have r2 := cell_of_below hSw g2; have r3 := cell_of_below hSw g3; have r4 := cell_of_below hSw g4; have r5 := cell_of_below hSw g5; have r6 := cell_of_below hSw g6; have rg := cell_of_below hSw qg
          go_simp
          try (with_reducible rfl)
        simp only [Act.put, List.setIfInBounds_toArray, List.set_cons_zero, List.set_cons_succ]
        refine YAll.cons (v := ?_) (some 37) (by rfl) (by rfl) (by rfl) ?_ ?_
        rotate_left
        · intro w' hSw
          have p5 := cell_of_below hSw q5; have r0 := cell_of_below hSw g0; have r1 := cell_of_below hSw g1; have r2 := cell_of_below hSw g2; have r3 := cell_of_below hSw g3; have r4 := cell_of_below hSw g4; have r5 := cell_of_below hSw g5; have r6 := cell_of_below hSw g6; have rg := cell_of_below hSw qg
          go_simp
          try (with_reducible rfl)
        simp only [Act.put, List.setIfInBounds_toArray, List.set_cons_zero, List.set_cons_succ]
        refine YAll.nil (YAll.nil ⟨?_, ?_⟩)
        · refine Thr.step (some 38) (by rfl) rfl (by kernel_rfl) ?_
          intro w1 hb1 hk1 K hKK
          go_simp
          refine (IHK.out _ (List.getElem_mem hlt) (by have := mem_bulks (List.getElem_mem hlt); have := HBK.out; rw [bulk_eq] at this; omega) w1 _ ((kCore _ _).K_below (below_trans0 (Below.step HB2.out HE.out.below) (below_drewL hb1)) KK.out)).mono ?_
          rintro e w2 ⟨cy, Fy, rfl, ho, hn, hf, hb2⟩
          refine hKK.out _ _ Fy rfl (hb1.trans (hb2.mono hb1.size)) (Guar.of_below hb2 hn (fun k hk => ⟨hf k hk, own_lt _ _ _ ho k hk⟩)) ?_
          obtain ⟨Y3, e3, Y4, e4, Y5, e5, Y6, e6, rfl⟩ := own_open ho
          simp only [cellsC] at ho ⊢
          refine Thr.step (some 39) (by rfl) rfl (by kernel_rfl) ?_
          intro w3 hb3 hk3 K2 hKK2
          go_simp
          refine hKK2.out _ _ (Fy ++ [w3.heap.size]) rfl (hb3.alloc hb3.size _) (guar_snoc hn (fun k hk => Nat.lt_of_lt_of_le (own_lt _ _ _ ho k hk) hk3.1)) ?_
          exact Thr.done _ (fun w4 hb4 hk4 => ⟨w3.heap.size, Y3, e3, Y4, e4, Y5, e5, Y6, e6, Fy, rfl, hk4.blk (blk_alloc w3 _ _) (by simp), hk4.left.ownC (own_below (hk3.ownC ho (fun _ h => h)) ((Below.refl _ _).alloc (Nat.le_refl _) _)) (fun _ h => h), rfl⟩)
        · rintro u w4 F hb4 hn4 hF4 ⟨h, Y3, e3, Y4, e4, Y5, e5, Y6, e6, Fy, e1, hbl, ho, rfl⟩
          simp only [putU, List.foldl_cons, List.foldl_nil, Act.put, List.setIfInBounds_toArray, List.set_cons_zero, List.set_cons_succ, pick, List.map_cons, List.map_nil, List.getD_cons_succ, List.getD_cons_zero, e1]
          have HC := Lib.hid (HE.out.fresh.to (below_drewL hb4))
          have HTK := Lib.hid (show (x.kids.take k).length = k by rw [List.length_take]; omega)
          have FY := Lib.hid (show (∀ k ∈ Fy, wr.heap.size ≤ k) ∧ Fy.Nodup ∧ wr.heap.size ≤ w4.heap.size from ⟨fun k hk => (hF4 k (List.mem_append_left _ hk)).1, (List.nodup_append.1 hn4).1, hb4.size⟩)
          have OY := Lib.hid ho
          have BW := Lib.hid (HE.out.below.size)
          clear ho hF4 hn4 hb4 HBP q5 g0 g1 g2 g3 g4 g5 g6 qg e1
          go_wp2_with (at_builtin; go_must (refine wpList_pushC rfl _ _ rfl W2.heap.size v5 k c5' rfl (by have := HC.out.o5; rwa [HTK.out] at this) h _ rfl rfl (cellsC_one _ _ _ _ _ _ _ _ _) hbl (by omega) (Nat.le_trans BW.out FY.out.2.2) ?_))
          intro v5' w5 ho5 hg5 hat5
          obtain ⟨V5, D5, rfl, -⟩ := (own_row (by omega) ho5).1.slice
          have O5 := Lib.hid ho5; have G5' := Lib.hid hg5; have AT5 := Lib.hid hat5
          have BG5 := Lib.hid (HC.out.blk.grownO hg5 (fun e => by have := (List.nodup_append.1 HC.out.nd).2.2 g (by rw [HC.out.f5, ← e]; simp) g (by simp); exact this rfl))
          clear ho5 hg5 hat5 hbl
          go_wp2_with (refine wpList_store_blk g 5 [.int .i64 x.kind, .string x.name, .bool x.minus, .slice B3 x.limbs.length d3, .slice B4 x.names.length d4] [v5] [.slice none 0 0] [.slice V5 (k + 1) D5] 36 (by rfl) 33 _ _ (by rfl) (by rfl) rfl (by rfl) BG5.out rfl (by kernel_rfl) (by intro v hv; rw [List.mem_singleton.1 hv]; rfl) ?_)
          intro w6 hb6 hg6 hsz6
          have CK := Lib.hid (HC.out.kid OY.out FY.out.2.1 FY.out.1 BW.out FY.out.2.2 G5'.out (by rw [HTK.out]; exact O5.out) AT5.out hg6 hsz6 (by simpa using hb6))
          clear hb6 hg6 hsz6 BG5 O5 G5' AT5 HC OY
          go_wp2
          go_roundw
          case rel => exact ⟨_, k + 1, by omega, by go_num, Lib.hid ⟨_, _, _, _, _, _, _, _, by rw [take_snoc' hlt]; exact CK.out⟩⟩
          case measure => simp [intOf]; omega
      · have hke : x.kids.take k = x.kids := List.take_of_length_le (by omega)
        have C1 := Lib.hid (show CpI x W2 wr.heap.size g (.slice B3 x.limbs.length d3) (.slice B4 x.names.length d4) v5 (.slice none 0 0) x.kids (x.alts.take 0) wr from ⟨_, _, _, _, _, _, _, _, by rw [hke] at HE; exact HE.out⟩)
        clear hke HE
        go_wp2_with fail
        clear q5 HBP hk hlt
        go_loopw [5] (fun s5 wr => ∃ (v6 : Value) (k : Nat), k ≤ x.alts.length ∧ s5 = .int .i64 k ∧ Hid (CpI x W2 wr.heap.size g (.slice B3 x.limbs.length d3) (.slice B4 x.names.length d4) v5 v6 x.kids (x.alts.take k) wr)) (fun s5 _ => x.alts.length - (intOf s5).toNat)
        case atStart => exact ⟨.slice none 0 0, 0, Nat.zero_le _, rfl, C1⟩
        clear C1
        case round =>
          obtain ⟨v6, k, hk, rfl, HI⟩ := hrel
          obtain ⟨F3, F4, F5, F6, G5, G6, c5', c6', hE⟩ := HI.out
          have HBP := Lib.hid (BPW.out wr hE.below)
          have q6 := HBP.out.cell (j := 6) rfl
          have HE := Lib.hid hE
          clear hE HI
          by_cases hlt : k < x.alts.length
          · have qk0 : (0 : Int) ≤ (k : Int) := by omega
            have qk1 : (k : Int) < x.alts.length := by omega
            obtain ⟨ad, A1', c1', A3', c3', A4', c4', B5, d5, B6, d6, rfl, hKa, hKb, l1n, gsn, g0, g1, g2, g3, g4, g5, g6, g7, g8⟩ := elem_alt_at H6.out (Below.step HB2.out HE.out.below) k hlt
            have qg := HE.out.blk.cell (j := 6) rfl
            have KK := Lib.hid hKb; have GS := Lib.hid gsn; clear hKa hKb gsn
            go_wp2_with fail
            refine wp_region_thr [0, 1, 2, 3, 4, 5, 6, 7, 9, 10, 11, 12, 13, 14, 16, 17, 18, 19, 20, 21] [] (([8, 15] ++ [22]) ++ [23, 24]) [25, 26, 27] [57, 64, 71, 72, 73] (by kernel_rfl) (fun W' => Below wr.heap.size wr W') (fun u w' F => CopyA x.alts[k] (u 73) w' F) (by kernel_rfl) (by kernel_rfl) (fun _ _ d _ _ h => by cases d <;> exact h) (fun _ h => h) ?_
            refine YAll.cons (v := ?_) (some 49) (by rfl) (by rfl) (by rfl) ?_ ?_
            rotate_left
            · intro w' hSw
              have p5 := cell_of_below hSw q6; have r0 := cell_of_below hSw g0; have r1 := cell_of_below hSw g1; have r2 := cell_of_below hSw g2; have r3 := cell_of_below hSw g3; have r4 := cell_of_below hSw g4; have r5 := cell_of_below hSw g5; have r6 := cell_of_below hSw g6; have r7 := cell_of_below hSw g7; have r8 := cell_of_below hSw g8; have rg := cell_of_below hSw qg
              go_simp
              try (with_reducible rfl)
            simp only [Act.put, List.setIfInBounds_toArray, List.set_cons_zero, List.set_cons_succ]
            refine YAll.cons (v := ?_) (some 50) (by rfl) (by rfl) (by rfl) ?_ ?_
            rotate_left
            · intro w' hSw
              have p5 := cell_of_below hSw q6; have r0 := cell_of_below hSw g0; have r1 := cell_of_below hSw g1; have r2 := cell_of_below hSw g2; have r3 := cell_of_below hSw g3; have r4 := cell_of_below hSw g4; have r5 := cell_of_below hSw g5; have r6 := cell_of_below hSw g6; have r7 := cell_of_below hSw g7; have r8 := cell_of_below hSw g8; have rg := cell_of_below hSw qg
              go_simp
              try (with_reducible rfl)
            simp only [Act.put, List.setIfInBounds_toArray, List.set_cons_zero, List.set_cons_succ]
            refine YAll.cons (v := ?_) (some 51) (by rfl) (by rfl) (by rfl) ?_ ?_
            rotate_left
            · intro w' hSw
              have p5 := cell_of_below hSw q6; have r0 := cell_of_below hSw g0; have r1 := cell_of_below hSw g1; have r2 := cell_of_below hSw g2; have r3 := cell_of_below hSw g3; have r4 := cell_of_below hSw g4; have r5 := cell_of_below hSw g5; have r6 := cell_of_below hSw g6; have r7 := cell_of_below hSw g7; have r8 := cell_of_below hSw g8; have rg := cell_of_below hSw qg
              go_simp
              try (with_reducible rfl)
            simp only [Act.put, List.setIfInBounds_toArray, List.set_cons_zero, List.set_cons_succ]
            refine YAll.cons (v := ?_) (some 52) (by rfl) (by rfl) (by rfl) ?_ ?_
            rotate_left
            · intro w' hSw
              have p5 := cell_of_below hSw q6; have r0 := cell_of_below hSw g0; have r1 := cell_of_below hSw g1; have r2 := cell_of_below hSw g2; have r3 := cell_of_below hSw g3; have r4 := cell_of_below hSw g4; have r5 := cell_of_below hSw g5; have r6 := cell_of_below hSw g6; have r7 := cell_of_below hSw g7; have r8 := cell_of_below hSw g8; have rg := cell_of_below hSw qg
              go_simp
              try (with_reducible rfl)
            simp only [Act.put, List.setIfInBounds_toArray, List.set_cons_zero, List.set_cons_succ]
            refine YAll.cons (v := ?_) (some 53) (by rfl) (by rfl) (by rfl) ?_ ?_
            rotate_left
            · intro w' hSw
              have p5 := cell_of_below hSw q6; have r0 := cell_of_below hSw g0; have r1 := cell_of_below hSw g1; have r2 := cell_of_below hSw g2; have r3 := cell_of_below hSw g3; have r4 := cell_of_below hSw g4; have r5 := cell_of_below hSw g5; have r6 := cell_of_below hSw g6; have r7 := cell_of_below hSw g7; have r8 := cell_of_below hSw g8; have rg := cell_of_below hSw qg
              go_simp
              try (with_reducible rfl)
            simp only [Act.put, List.setIfInBounds_toArray, List.set_cons_zero, List.set_cons_succ]
            refine YAll.cons (v := ?_) (some 54) (by rfl) (by rfl) (by rfl) ?_ ?_
            rotate_left
            · intro w' hSw
              have p5 := cell_of_below hSw q6; have r0 := cell_of_below hSw g0; have r1 := cell_of_below hSw g1; have r2 := cell_of_below hSw g2; have r3 := cell_of_below hSw g3; have r4 := cell_of_below hSw g4; have r5 := cell_of_below hSw g5; have r6 := cell_of_below hSw g6; have r7 := cell_of_below hSw g7; have r8 := cell_of_below hSw g8; have rg := cell_of_below hSw qg
              go_simp
              try (with_reducible rfl)
            simp only [Act.put, List.setIfInBounds_toArray, List.set_cons_zero, List.set_cons_succ]
            refine YAll.cons (v := ?_) (some 55) (by rfl) (by rfl) (by rfl) ?_ ?_
            rotate_left
            · intro w' hSw
              have p5 := cell_of_below hSw q6; have r0 := cell_of_below hSw g0; have r1 := cell_of_below hSw g1; have r2 := cell_of_below hSw g2; have r3 := cell_of_below hSw g3; have r4 := cell_of_below hSw g4; have r5 := cell_of_below hSw g5; have r6 := cell_of_below hSw g6; have r7 := cell_of_below hSw g7; have r8 := cell_of_below hSw g8; have rg := cell_of_below hSw qg
              go_simp
              try (with_reducible rfl)
            simp only [Act.put, List.setIfInBounds_toArray, List.set_cons_zero, List.set_cons_succ]
            refine YAll.cons (v := ?_) (some 56) (by rfl) (by rfl) (by rfl) ?_ ?_
            rotate_left
            · intro w' hSw
              have p5 := cell_of_below hSw q6; have r0 := cell_of_below hSw g0; have r1 := cell_of_below hSw g1; have r2 := cell_of_below hSw g2; have r3 := cell_of_below hSw g3; have r4 := cell_of_below hSw g4; have r5 := cell_of_below hSw g5; have r6 := cell_of_below hSw g6; have r7 := cell_of_below hSw g7; have r8 := cell_of_below hSw g8; have rg := cell_of_below hSw qg
              go_simp
              try (with_reducible rfl)
            simp only [Act.put, List.setIfInBounds_toArray, List.set_cons_zero, List.set_cons_succ]
            refine YAll.cons (v := ?_) (some 58) (by rfl) (by rfl) (by rfl) ?_ ?_
            rotate_left
            · intro w' hSw
              have p5 := cell_of_below hSw q6; have r0 := cell_of_below hSw g0; have r1 := cell_of_below hSw g1; have r2 := cell_of_below hSw g2; have r3 := cell_of_below hSw g3; have r4 := cell_of_below hSw g4; have r5 := cell_of_below hSw g5; have r6 := cell_of_below hSw g6; have r7 := cell_of_below hSw g7; have r8 := cell_of_below hSw g8; have rg := cell_of_below hSw qg
              go_simp
              try (with_reducible rfl)
            simp only [Act.put, List.setIfInBounds_toArray, List.set_cons_zero, List.set_cons_succ]
            refine YAll.cons (v := ?_) (some 59) (by rfl) (by rfl) (by rfl) ?_ ?_
            rotate_left
            · intro w' hSw
              have p5 := cell_of_below hSw q6; have r0 := cell_of_below hSw g0; have r1 := cell_of_below hSw g1; have r2 := cell_of_below hSw g2; have r3 := cell_of_below hSw g3; have r4 := cell_of_below hSw g4; have r5 := cell_of_below hSw g5; have r6 := cell_of_below hSw g6; have r7 := cell_of_below hSw g7; have r8 := cell_of_below hSw g8; have rg := cell_of_below hSw qg
              go_simp
              try (with_reducible rfl)
            simp only [Act.put, List.setIfInBounds_toArray, List.set_cons_zero, List.set_cons_succ]
            refine YAll.cons (v := ?_) (some 60) (by rfl) (by rfl) (by rfl) ?_ ?_
            rotate_left
            · intro w' hSw
              have p5 := cell_of_below hSw q6; have r0 := cell_of_below hSw g0; have r1 := cell_of_below hSw g1; have r2 := cell_of_below hSw g2; have r3 := cell_of_below hSw g3; have r4 := cell_of_below hSw g4; have r5 := cell_of_below hSw g5; have r6 := cell_of_below hSw g6; have r7 := cell_of_below hSw g7; have r8 := cell_of_below hSw g8; have rg := cell_of_below hSw qg
              go_simp
              try (with_reducible rfl)
            simp only [Act.put, List.setIfInBounds_toArray, List.set_cons_zero, List.set_cons_succ]
            refine YAll.cons (v := ?_) (some 61) (by rfl) (by rfl) (by rfl) ?_ ?_
            rotate_left
            · intro w' hSw
              have p5 := cell_of_below hSw q6; have r0 := cell_of_below hSw g0; have r1 := cell_of_below hSw g1; have r2 := cell_of_below hSw g2; have r3 := cell_of_below hSw g3; have r4 := cell_of_below hSw g4; have r5 := cell_of_below hSw g5; have r6 := cell_of_below hSw g6; have r7 := cell_of_below hSw g7; have r8 := cell_of_below hSw g8; have rg := cell_of_below hSw qg
              go_simp
              try (with_reducible rfl)
            simp only [Act.put, List.setIfInBounds_toArray, List.set_cons_zero, List.set_cons_succ]
            refine YAll.cons (v := ?_) (some 62) (by rfl) (by rfl) (by rfl) ?_ ?_
            rotate_left
            · intro w' hSw
              have p5 := cell_of_below hSw q6; have r0 := cell_of_below hSw g0; have r1 := cell_of_below hSw g1; have r2 := cell_of_below hSw g2; have r3 := cell_of_below hSw g3; have r4 := cell_of_below hSw g4; have r5 := cell_of_below hSw g5; have r6 := cell_of_below hSw g6; have r7 := cell_of_below hSw g7; have r8 := cell_of_below hSw g8; have rg := cell_of_below hSw qg
              go_simp
              try (with_reducible rfl)
            simp only [Act.put, List.setIfInBounds_toArray, List.set_cons_zero, List.set_cons_succ]
            refine YAll.cons (v := ?_) (some 63) (by rfl) (by rfl) (by rfl) ?_ ?_
            rotate_left
            · intro w' hSw
              have p5 := cell_of_below hSw q6; have r0 := cell_of_below hSw g0; have r1 := cell_of_below hSw g1; have r2 := cell_of_below hSw g2; have r3 := cell_of_below hSw g3; have r4 := cell_of_below hSw g4; have r5 := cell_of_below hSw g5; have r6 := cell_of_below hSw g6; have r7 := cell_of_below hSw g7; have r8 := cell_of_below hSw g8; have rg := cell_of_below hSw qg
              go_simp
              try (with_reducible rfl)
            simp only [Act.put, List.setIfInBounds_toArray, List.set_cons_zero, List.set_cons_succ]
            refine YAll.cons (v := ?_) (some 65) (by rfl) (by rfl) (by rfl) ?_ ?_
            rotate_left
            · intro w' hSw
              have p5 := cell_of_below hSw q6; have r0 := cell_of_below hSw g0; have r1 := cell_of_below hSw g1; have r2 := cell_of_below hSw g2; have r3 := cell_of_below hSw g3; have r4 := cell_of_below hSw g4; have r5 := cell_of_below hSw g5; have r6 := cell_of_below hSw g6; have r7 := cell_of_below hSw g7; have r8 := cell_of_below hSw g8; have rg := cell_of_below hSw qg
              go_simp
              try (with_reducible rfl)
            simp only [Act.put, List.setIfInBounds_toArray, List.set_cons_zero, List.set_cons_succ]
            refine YAll.cons (v := ?_) (some 66) (by rfl) (by rfl) (by rfl) ?_ ?_
            rotate_left
            · intro w' hSw
              have p5 := cell_of_below hSw q6; have r0 := cell_of_below hSw g0; have r1 := cell_of_below hSw g1; have r2 := cell_of_below hSw g2; have r3 := cell_of_below hSw g3; have r4 := cell_of_below hSw g4; have r5 := cell_of_below hSw g5; have r6 := cell_of_below hSw g6; have r7 := cell_of_below hSw g7; have r8 := cell_of_below hSw g8; have rg := cell_of_below hSw qg
              go_simp
              try (with_reducible rfl)
            simp only [Act.put, List.setIfInBounds_toArray, List.set_cons_zero, List.set_cons_succ]
            refine YAll.cons (v := ?_) (some 67) (by rfl) (by rfl) (by rfl) ?_ ?_
            rotate_left
            · intro w' hSw
              have p5 := cell_of_below hSw q6; have r0 := cell_of_below hSw g0; have r1 := cell_of_below hSw g1; have r2 := cell_of_below hSw g2; have r3 := cell_of_below hSw g3; have r4 := cell_of_below hSw g4; have r5 := cell_of_below hSw g5; have r6 := cell_of_below hSw g6; have r7 := cell_of_below hSw g7; have r8 := cell_of_below hSw g8; have rg := cell_of_below hSw qg
              go_simp
              try (with_reducible rfl)
            simp only [Act.put, List.setIfInBounds_toArray, List.set_cons_zero, List.set_cons_succ]
            refine YAll.cons (v := ?_) (some 68) (by rfl) (by rfl) (by rfl) ?_ ?_
            rotate_left
            · intro w' hSw
              have p5 := cell_of_below hSw q6; have r0 := cell_of_below hSw g0; have r1 := cell_of_below hSw g1; have r2 := cell_of_below hSw g2; have r3 := cell_of_below hSw g3; have r4 := cell_of_below hSw g4; have r5 := cell_of_below hSw g5; have r6 := cell_of_below hSw g6; have r7 := cell_of_below hSw g7; have r8 := cell_of_below hSw g8; have rg := cell_of_below hSw qg
              go_simp
              try (with_reducible rfl)
            simp only [Act.put, List.setIfInBounds_toArray, List.set_cons_zero, List.set_cons_succ]
            refine YAll.cons (v := ?_) (some 69) (by rfl) (by rfl) (by rfl) ?_ ?_
            rotate_left
            · intro w' hSw
              have p5 := cell_of_below hSw q6; have r0 := cell_of_below hSw g0; have r1 := cell_of_below hSw g1; have r2 := cell_of_below hSw g2; have r3 := cell_of_below hSw g3; have r4 := cell_of_below hSw g4; have r5 := cell_of_below hSw g5; have r6 := cell_of_below hSw g6; have r7 := cell_of_below hSw g7; have r8 := cell_of_below hSw g8; have rg := cell_of_below hSw qg
              go_simp
              try (with_reducible rfl)
            simp only [Act.put, List.setIfInBounds_toArray, List.set_cons_zero, List.set_cons_succ]
            refine YAll.cons (v := ?_) (some 70) (by rfl) (by rfl) (by rfl) ?_ ?_
            rotate_left
            · intro w' hSw
              have p5 := cell_of_below hSw q6; have r0 := cell_of_below hSw g0; have r1 := cell_of_below hSw g1; have r2 := cell_of_below hSw g2; have r3 := cell_of_below hSw g3; have r4 := cell_of_below hSw g4; have r5 := cell_of_below hSw g5; have r6 := cell_of_below hSw g6; have r7 := cell_of_below hSw g7; have r8 := cell_of_below hSw g8; have rg := cell_of_below hSw qg
              go_simp
              try (with_reducible rfl)
            simp only [Act.put, List.setIfInBounds_toArray, List.set_cons_zero, List.set_cons_succ]
            refine YAll.nil (YAll.nil ⟨?_, ?_⟩)
            · refine Thr.seq (T := [8, 15] ++ [22]) (C := [23, 24]) 3 2 [57, 64, 71] (by kernel_rfl) (Both [64] [71] (CopyN x.alts[k].names) (CopyB x.alts[k].body)) (by kernel_rfl) (by kernel_rfl) (Below.refl _ _) ?_ ?_
              · refine Thr.par 2 1 [64] [71] (CopyN x.alts[k].names) (CopyB x.alts[k].body) (by kernel_rfl) (Nat.le_refl _) ?_ ?_
                · refine Thr.new (fun g => .slice (some ⟨g, 0, none⟩) 0 0) (.cells #[] 9) (some 57) (by rfl) rfl (by kernel_rfl) rfl (fun w' hb => by go_simp) ?_
                  intro g' w' hg1 hg2 hg3 hb
                  simp only [Act.put, List.setIfInBounds_toArray, List.set_cons_zero, List.set_cons_succ]
                  refine Thr.copyS (some 64) (by rfl) rfl (by kernel_rfl) rfl _ _ (by rfl) g' (by rfl) hg3 hg1 A1' c1' x.alts[k].names (by rfl) (fun w' hb => Kd.C_below GS.out (below_trans0 (Below.step HB2.out HE.out.below) (below_drewL hb))) (alt_names_len HBK.out (List.getElem_mem hlt)) ?_
                  intro B d w2 F hr hn hf hb2
                  exact Thr.done _ (fun w4 hb4 hk4 => ⟨B, d, rfl, hk4.row hr (fun _ h => h)⟩)
                · refine Thr.step (some 71) (by rfl) rfl (by kernel_rfl) ?_
                  intro w1 hb1 hk1 K hKK
                  go_simp
                  refine (IHA.out _ (List.getElem_mem hlt) (alt_bulk HBK.out (List.getElem_mem hlt)) w1 _ ((kCore _ _).K_below (below_trans0 (Below.step HB2.out HE.out.below) (below_drewL hb1)) KK.out)).mono ?_
                  rintro e w2 ⟨cy, Fy, rfl, ho, hn, hf, hb2⟩
                  exact hKK.out _ _ Fy rfl (hb1.trans (hb2.mono hb1.size)) (Guar.of_below hb2 hn (fun k hk => ⟨hf k hk, own_lt _ _ _ ho k hk⟩)) (Thr.done _ (fun w4 hb4 hk4 => ⟨cy, rfl, hk4.ownC ho (fun _ h => h)⟩))
              · rintro u w' F hb hnd hF ⟨F1, F2, rfl, ⟨B, d, e1, hr⟩, ⟨cy, e2, ho⟩⟩
                obtain ⟨Y3, y3, Y4, y4, Y5, y5, Y6, y6, rfl⟩ := own_open ho
                simp only [List.map_cons, List.map_nil, List.cons.injEq, and_true, cellsC] at e1 e2
                simp only [putU, List.foldl_cons, List.foldl_nil, Act.put, List.setIfInBounds_toArray, List.set_cons_zero, List.set_cons_succ, e1, e2]
                refine Thr.value (v := .agg (cellsA x.alts[k] B d Y3 y3 Y4 y4 Y5 y5 Y6 y6).toArray) (some 72) (by rfl) rfl (by kernel_rfl) rfl hnd (fun k hk => (hF k hk).2) (fun w' _ _ => by simp only [cellsA]; go_simp) ?_
                intro w2 hb2 hk2
                simp only [cellsA, Act.put, List.setIfInBounds_toArray, List.set_cons_zero, List.set_cons_succ]
                refine Thr.step (some 73) (by rfl) rfl (by kernel_rfl) ?_
                intro w3 hb3 hk3 K2 hKK2
                go_simp
                refine hKK2.out _ _ ((F1 ++ F2) ++ [w3.heap.size]) rfl (hb3.alloc hb3.size _) (guar_snoc hnd (fun k hk => Nat.lt_of_lt_of_le (hF k hk).2 (Nat.le_trans hk2.1 hk3.1))) ?_
                refine Thr.done _ (fun w4 hb4 hk4 => ⟨w3.heap.size, B, d, Y3, y3, Y4, y4, Y5, y5, Y6, y6, F1 ++ F2, rfl, hk4.blk (blk_alloc w3 _ _) (by simp), ?_, rfl⟩)
                have hal : Keep (F1 ++ F2) w3 (w3.alloc (.cells (cellsA x.alts[k] B d Y3 y3 Y4 y4 Y5 y5 Y6 y6).toArray 80)) := keep_alloc (fun k hk => Nat.lt_of_lt_of_le (hF k hk).2 (Nat.le_trans hk2.1 hk3.1))
                have hkk := ((hk2.trans hk3).trans hal).trans hk4.left
                rw [OwnA_eq]
                exact ⟨_, _, F1, F2, rfl, rfl, hkk.left.row hr (fun _ h => h), hkk.right.ownC ho (fun _ h => h)⟩
            · rintro u w4 F hb4 hn4 hF4 ⟨h, Y1, y1, Y3, y3, Y4, y4, Y5, y5, Y6, y6, Fy, e1, hbl, ho, rfl⟩
              simp only [putU, List.foldl_cons, List.foldl_nil, Act.put, List.setIfInBounds_toArray, List.set_cons_zero, List.set_cons_succ, pick, List.map_cons, List.map_nil, List.getD_cons_succ, List.getD_cons_zero, e1]
              have HC := Lib.hid (HE.out.fresh.to (below_drewL hb4))
              have HTK := Lib.hid (show (x.alts.take k).length = k by rw [List.length_take]; omega)
              have FY := Lib.hid (show (∀ k ∈ Fy, wr.heap.size ≤ k) ∧ Fy.Nodup ∧ wr.heap.size ≤ w4.heap.size from ⟨fun k hk => (hF4 k (List.mem_append_left _ hk)).1, (List.nodup_append.1 hn4).1, hb4.size⟩)
              have OY := Lib.hid ho
              have BW := Lib.hid (HE.out.below.size)
              clear ho hF4 hn4 hb4 HBP q6 g0 g1 g2 g3 g4 g5 g6 g7 g8 qg e1
              go_wp2_with (at_builtin; go_must (refine wpList_pushA rfl _ _ rfl W2.heap.size v6 k c6' rfl (by have := HC.out.o6; rwa [HTK.out] at this) h _ rfl rfl (cellsA_one _ _ _ _ _ _ _ _ _ _ _) hbl (by omega) (Nat.le_trans BW.out FY.out.2.2) ?_))
              intro v6' w5 ho5 hg5 hat5
              obtain ⟨V6, D6, rfl, -⟩ := (own_row (by omega) ho5).1.slice
              have O5 := Lib.hid ho5; have G5' := Lib.hid hg5; have AT5 := Lib.hid hat5
              have BG5 := Lib.hid (HC.out.blk.grownO hg5 (fun e => by have := (List.nodup_append.1 (List.nodup_append.1 HC.out.nd).2.1).2.2 g (by rw [HC.out.f6, ← e]; simp) g (by simp); exact this rfl))
              clear ho5 hg5 hat5 hbl
              go_wp2_with (refine wpList_store_blk g 6 [.int .i64 x.kind, .string x.name, .bool x.minus, .slice B3 x.limbs.length d3, .slice B4 x.names.length d4, v5] [v6] [] [.slice V6 (k + 1) D6] 36 (by rfl) 34 _ _ (by rfl) (by rfl) rfl (by rfl) BG5.out rfl (by kernel_rfl) (by intro v hv; rw [List.mem_singleton.1 hv]; rfl) ?_)
              intro w6 hb6 hg6 hsz6
              have CK := Lib.hid (HC.out.alt OY.out FY.out.2.1 FY.out.1 BW.out FY.out.2.2 G5'.out (by rw [HTK.out]; exact O5.out) AT5.out hg6 hsz6 (by simpa using hb6))
              clear hb6 hg6 hsz6 BG5 O5 G5' AT5 HC OY
              go_wp2
              go_roundw
              case rel => exact ⟨_, k + 1, by omega, by go_num, Lib.hid ⟨_, _, _, _, _, _, _, _, by rw [take_snoc' hlt]; exact CK.out⟩⟩
              case measure => simp [intOf]; omega
          · have hke : x.alts.take k = x.alts := List.take_of_length_le (by omega)
            have C2 := HE.out
            rw [hke] at C2
            have HC2 := Lib.hid C2
            clear C2 hke HE
            obtain ⟨V5, D5, rfl, -⟩ := HC2.out.r5.slice
            obtain ⟨V6, D6, rfl, -⟩ := HC2.out.r6.slice
            have q0 := HC2.out.blk.cell (j := 0) rfl; have q1 := HC2.out.blk.cell (j := 1) rfl; have q2 := HC2.out.blk.cell (j := 2) rfl; have q3 := HC2.out.blk.cell (j := 3) rfl; have q4 := HC2.out.blk.cell (j := 4) rfl; have q5 := HC2.out.blk.cell (j := 5) rfl; have qq6 := HC2.out.blk.cell (j := 6) rfl
            have BR2 := Lib.hid (BR.out.below HC2.out.below)
            go_wp2_with (refine wpList_store_blk (w.heap.size + 1) 0 [] [.int .i64 0, .string ⟨#[]⟩, .bool false, .slice none 0 0, .slice none 0 0, .slice none 0 0, .slice none 0 0] [] [.int .i64 x.kind, .string x.name, .bool x.minus, .slice B3 x.limbs.length d3, .slice B4 x.names.length d4, .slice V5 x.kids.length D5, .slice V6 x.alts.length D6] 36 (by rfl) 36 _ _ (by rfl) (by rfl) rfl (by rfl) BR2.out rfl (by kernel_rfl) ?honez ?_)
            case honez => intro v hv; simp at hv; rcases hv with rfl | rfl | rfl | rfl | rfl | rfl | rfl <;> rfl
            intro w5 hblk5 hg5 hsz5
            obtain ⟨F, ho, hn, hge, hne⟩ := HC2.out.own
            have HF := Lib.hid (show OwnC 36 80 w5 x [.int .i64 x.kind, .string x.name, .bool x.minus, .slice B3 x.limbs.length d3, .slice B4 x.names.length d4, .slice V5 x.kids.length D5, .slice V6 x.alts.length D6] F ∧ F.Nodup ∧ (∀ k ∈ F, w.heap.size ≤ k) ∧ Below w.heap.size w w5 from
              ⟨own_grown ho hg5 (fun k hk => by have := hge k hk; have := BR.out.lt; omega), hn, (fun k hk => Nat.le_trans HB2.out.size (hge k hk)), below_grown (Below.step HB2.out HC2.out.below) hg5 (by omega)⟩)
            clear q0 q1 q2 q3 q4 q5 qq6 q6 BR2 HC2 hg5 hsz5 ho hn hge hne HBP
            have q0 := hblk5.cell (j := 0) rfl; have q1 := hblk5.cell (j := 1) rfl; have q2 := hblk5.cell (j := 2) rfl; have q3 := hblk5.cell (j := 3) rfl; have q4 := hblk5.cell (j := 4) rfl; have q5 := hblk5.cell (j := 5) rfl; have q6 := hblk5.cell (j := 6) rfl
            clear hblk5
            go_wp2
            exact bodyPost_ret (v := .agg #[.int .i64 x.kind, .string x.name, .bool x.minus, .slice B3 x.limbs.length d3, .slice B4 x.names.length d4, .slice V5 x.kids.length D5, .slice V6 x.alts.length D6]) (by simp [results, Try.results31, go_sem, q0, q1, q2, q3, q4, q5, q6]) rfl ⟨_, F, rfl, HF.out.1, HF.out.2.1, HF.out.2.2.1, HF.out.2.2.2⟩
theorem l13Copy_all (x : CoreT) : CopySaid x := coreInd CopySaid (fun c hk ha => l13Copy_any c hk ha) x
end Go.Proofs.Ytagfphlhahiplaa.C13
namespace Go.Proofs.Ytagfphlhahiplaa.C13
open Go.RowKit Go.Proofs.YtagfphlhahiplaaW.PrintWords Go.Proofs.Ytagfphlhahiplaa.PFnExactFormatCore
set_option linter.unusedVariables false
set_option linter.unusedSimpArgs false
/-- a copy of the term at p -/
def CopyPSaid (x : CoreT) : Prop := bulk x ≤ 1048576 → ∀ (w : World) (p : Addr), At w x p →
  Calls Try.prog 33 #[.pointer (some p)] w (ToPost 36 80 x w)
theorem At.below {w w' : World} {x : CoreT} {p : Addr} (h : At w x p) (hb : Below w.heap.size w w') : At w' x p := by
  obtain ⟨A3, c3, A4, c4, A5, c5, A6, c6, hK, g0, g1, g2, g3, g4, g5, g6⟩ := h
  exact ⟨A3, c3, A4, c4, A5, c5, A6, c6, (kCore _ _).K_below hb hK, cell_of_below hb g0, cell_of_below hb g1, cell_of_below hb g2, cell_of_below hb g3, cell_of_below hb g4, cell_of_below hb g5, cell_of_below hb g6⟩
theorem copyBig_any (m : Bool) (A : Option Addr) (c : Nat) (l : List Int) (w : World) (hr : (Kd.int .u32).C w A l.length l) (hc : l.length ≤ c) (hl : l.length ≤ 1048576) :
    Calls Try.prog 65 #[.agg #[.bool m, .slice A l.length c]] w fun e w' => ∃ B d F, e = .returned (.agg #[.bool m, .slice B l.length d]) ∧ Row w' 108 (.slice B l.length d) l.length (encI .u32 l) F ∧ F.Nodup ∧ (∀ k ∈ F, w.heap.size ≤ k ∧ k < w'.heap.size) ∧ Below w.heap.size w w' := by
  refine (Go.Proofs.Ytagfphlhahiplaa.PFnExactRename.impl_copyBig.calls m A c l m l w hr hc (by unfold Go.Proofs.Ytagfphlhahiplaa.PFnExactRename.impl_copyBig.f; simp only [Option.bind_some, List.length_nil, List.nil_append]; rw [if_pos (by omega)])).mono ?_
  rintro e w4 ⟨v1, rfl, hr1, hb4⟩
  obtain ⟨F3, hrow, hnd, hf⟩ := row_of_own (own_nums hr1)
  obtain ⟨B3, d3, rfl, _⟩ := hrow.slice
  exact ⟨B3, d3, F3, rfl, hrow, hnd, fun k hk => ⟨hf k hk, hrow.lt k hk⟩, hb4⟩
set_option maxRecDepth 100000 in
set_option maxHeartbeats 4000000 in
theorem copyCore_any (x : CoreT) (ihk : ∀ y ∈ x.kids, CopyPSaid y) (iha : ∀ a ∈ x.alts, CopyPSaid a.body) : CopyPSaid x := by
  intro hbk w p hAt
  obtain ⟨A3, c3, A4, c4, A5, c5, A6, c6, hK, e0, e1, e2, e3, e4, e5, e6⟩ := hAt
  obtain ⟨A3', c3', A4', c4', A5', c5', A6', c6', hcs, l3, h3, l4, h4, l5, h5, l6, h6⟩ := core_open hK
  simp only [cellsC, List.cons.injEq, Value.slice.injEq, and_true, true_and] at hcs
  obtain ⟨⟨rfl, rfl⟩, ⟨rfl, rfl⟩, ⟨rfl, rfl⟩, rfl, rfl⟩ := hcs
  obtain ⟨b1, b2, b3, b4, b5⟩ := bounds hbk
  have IHK := Lib.hid ihk; have IHA := Lib.hid iha; have HBK := Lib.hid hbk
  have H3 := Lib.hid h3; have H4 := Lib.hid h4; have H5 := Lib.hid h5; have H6 := Lib.hid h6
  have E0 := Lib.hid e0; have E1 := Lib.hid e1; have E2 := Lib.hid e2; have E3 := Lib.hid e3; have E4 := Lib.hid e4; have E5 := Lib.hid e5; have E6 := Lib.hid e6
  clear h3 h4 h5 h6 hK ihk iha hbk e0 e1 e2 e3 e4 e5 e6
  obtain ⟨W2, hW2, hp2, hB2, hs2⟩ := boxed w [.int .i64 0, .string ⟨#[]⟩, .bool false, .slice none 0 0, .slice none 0 0, .slice none 0 0, .slice none 0 0] 36
  go_enter Try.func33, Try.ntmps33
  go_wp2_with fail
  rw [← hW2]
  have BR := Lib.hid hp2
  have HB2 := Lib.hid hB2
  clear hp2 hB2 hW2 hs2
  refine wp_region_thr [0, 1, 2, 3, 4, 5, 6, 7, 8, 9, 10, 11, 14, 15, 16, 17] [] ((([12] ++ [13, 18]) ++ [19]) ++ [20]) [21] [19, 20, 25, 26, 3] (by kernel_rfl) (fun W' => Below W2.heap.size W2 W') (Both [26] [3] (CopyP x) CopyZ) (by kernel_rfl) (by kernel_rfl) (fun _ _ d _ _ h => by cases d <;> exact h) (fun _ h => h) ?_
  refine YAll.cons (v := ?_) (some 7) (by rfl) (by rfl) (by rfl) ?_ ?_
  rotate_left
  · intro w' hSw
    have hw := below_trans0 HB2.out hSw
    have p0 := cell_of_below hw E0.out; have p1 := cell_of_below hw E1.out; have p2 := cell_of_below hw E2.out; have p3 := cell_of_below hw E3.out; have p4 := cell_of_below hw E4.out; have p5 := cell_of_below hw E5.out; have p6 := cell_of_below hw E6.out
    clear hw
    go_simp
    try (with_reducible rfl)
  simp only [Act.put, List.setIfInBounds_toArray, List.set_cons_zero, List.set_cons_succ]
  refine YAll.cons (v := ?_) (some 8) (by rfl) (by rfl) (by rfl) ?_ ?_
  rotate_left
  · intro w' hSw
    have hw := below_trans0 HB2.out hSw
    have p0 := cell_of_below hw E0.out; have p1 := cell_of_below hw E1.out; have p2 := cell_of_below hw E2.out; have p3 := cell_of_below hw E3.out; have p4 := cell_of_below hw E4.out; have p5 := cell_of_below hw E5.out; have p6 := cell_of_below hw E6.out
    clear hw
    go_simp
    try (with_reducible rfl)
  simp only [Act.put, List.setIfInBounds_toArray, List.set_cons_zero, List.set_cons_succ]
  refine YAll.cons (v := ?_) (some 9) (by rfl) (by rfl) (by rfl) ?_ ?_
  rotate_left
  · intro w' hSw
    have hw := below_trans0 HB2.out hSw
    have p0 := cell_of_below hw E0.out; have p1 := cell_of_below hw E1.out; have p2 := cell_of_below hw E2.out; have p3 := cell_of_below hw E3.out; have p4 := cell_of_below hw E4.out; have p5 := cell_of_below hw E5.out; have p6 := cell_of_below hw E6.out
    clear hw
    go_simp
    try (with_reducible rfl)
  simp only [Act.put, List.setIfInBounds_toArray, List.set_cons_zero, List.set_cons_succ]
  refine YAll.cons (v := ?_) (some 10) (by rfl) (by rfl) (by rfl) ?_ ?_
  rotate_left
  · intro w' hSw
    have hw := below_trans0 HB2.out hSw
    have p0 := cell_of_below hw E0.out; have p1 := cell_of_below hw E1.out; have p2 := cell_of_below hw E2.out; have p3 := cell_of_below hw E3.out; have p4 := cell_of_below hw E4.out; have p5 := cell_of_below hw E5.out; have p6 := cell_of_below hw E6.out
    clear hw
    go_simp
    try (with_reducible rfl)
  simp only [Act.put, List.setIfInBounds_toArray, List.set_cons_zero, List.set_cons_succ]
  refine YAll.cons (v := ?_) (some 11) (by rfl) (by rfl) (by rfl) ?_ ?_
  rotate_left
  · intro w' hSw
    have hw := below_trans0 HB2.out hSw
    have p0 := cell_of_below hw E0.out; have p1 := cell_of_below hw E1.out; have p2 := cell_of_below hw E2.out; have p3 := cell_of_below hw E3.out; have p4 := cell_of_below hw E4.out; have p5 := cell_of_below hw E5.out; have p6 := cell_of_below hw E6.out
    clear hw
    go_simp
    try (with_reducible rfl)
  simp only [Act.put, List.setIfInBounds_toArray, List.set_cons_zero, List.set_cons_succ]
  refine YAll.cons (v := ?_) (some 12) (by rfl) (by rfl) (by rfl) ?_ ?_
  rotate_left
  · intro w' hSw
    have hw := below_trans0 HB2.out hSw
    have p0 := cell_of_below hw E0.out; have p1 := cell_of_below hw E1.out; have p2 := cell_of_below hw E2.out; have p3 := cell_of_below hw E3.out; have p4 := cell_of_below hw E4.out; have p5 := cell_of_below hw E5.out; have p6 := cell_of_below hw E6.out
    clear hw
    go_simp
    try (with_reducible rfl)
  simp only [Act.put, List.setIfInBounds_toArray, List.set_cons_zero, List.set_cons_succ]
  refine YAll.cons (v := ?_) (some 13) (by rfl) (by rfl) (by rfl) ?_ ?_
  rotate_left
  · intro w' hSw
    have hw := below_trans0 HB2.out hSw
    have p0 := cell_of_below hw E0.out; have p1 := cell_of_below hw E1.out; have p2 := cell_of_below hw E2.out; have p3 := cell_of_below hw E3.out; have p4 := cell_of_below hw E4.out; have p5 := cell_of_below hw E5.out; have p6 := cell_of_below hw E6.out
    clear hw
    go_simp
    try (with_reducible rfl)
  simp only [Act.put, List.setIfInBounds_toArray, List.set_cons_zero, List.set_cons_succ]
  refine YAll.cons (v := ?_) (some 14) (by rfl) (by rfl) (by rfl) ?_ ?_
  rotate_left
  · intro w' hSw
    have hw := below_trans0 HB2.out hSw
    have p0 := cell_of_below hw E0.out; have p1 := cell_of_below hw E1.out; have p2 := cell_of_below hw E2.out; have p3 := cell_of_below hw E3.out; have p4 := cell_of_below hw E4.out; have p5 := cell_of_below hw E5.out; have p6 := cell_of_below hw E6.out
    clear hw
    go_simp
    try (with_reducible rfl)
  simp only [Act.put, List.setIfInBounds_toArray, List.set_cons_zero, List.set_cons_succ]
  refine YAll.cons (v := ?_) (some 15) (by rfl) (by rfl) (by rfl) ?_ ?_
  rotate_left
  · intro w' hSw
    have hw := below_trans0 HB2.out hSw
    have p0 := cell_of_below hw E0.out; have p1 := cell_of_below hw E1.out; have p2 := cell_of_below hw E2.out; have p3 := cell_of_below hw E3.out; have p4 := cell_of_below hw E4.out; have p5 := cell_of_below hw E5.out; have p6 := cell_of_below hw E6.out
    clear hw
    go_simp
    try (with_reducible rfl)
  simp only [Act.put, List.setIfInBounds_toArray, List.set_cons_zero, List.set_cons_succ]
  refine YAll.cons (v := ?_) (some 16) (by rfl) (by rfl) (by rfl) ?_ ?_
  rotate_left
  · intro w' hSw
    have hw := below_trans0 HB2.out hSw
    have p0 := cell_of_below hw E0.out; have p1 := cell_of_below hw E1.out; have p2 := cell_of_below hw E2.out; have p3 := cell_of_below hw E3.out; have p4 := cell_of_below hw E4.out; have p5 := cell_of_below hw E5.out; have p6 := cell_of_below hw E6.out
    clear hw
    go_simp
    try (with_reducible rfl)
  simp only [Act.put, List.setIfInBounds_toArray, List.set_cons_zero, List.set_cons_succ]
  refine YAll.cons (v := ?_) (some 17) (by rfl) (by rfl) (by rfl) ?_ ?_
  rotate_left
  · intro w' hSw
    have hw := below_trans0 HB2.out hSw
    have p0 := cell_of_below hw E0.out; have p1 := cell_of_below hw E1.out; have p2 := cell_of_below hw E2.out; have p3 := cell_of_below hw E3.out; have p4 := cell_of_below hw E4.out; have p5 := cell_of_below hw E5.out; have p6 := cell_of_below hw E6.out
    clear hw
    go_simp
    try (with_reducible rfl)
  simp only [Act.put, List.setIfInBounds_toArray, List.set_cons_zero, List.set_cons_succ]
  refine YAll.cons (v := ?_) (some 18) (by rfl) (by rfl) (by rfl) ?_ ?_
  rotate_left
  · intro w' hSw
    have hw := below_trans0 HB2.out hSw
    have p0 := cell_of_below hw E0.out; have p1 := cell_of_below hw E1.out; have p2 := cell_of_below hw E2.out; have p3 := cell_of_below hw E3.out; have p4 := cell_of_below hw E4.out; have p5 := cell_of_below hw E5.out; have p6 := cell_of_below hw E6.out
    clear hw
    go_simp
    try (with_reducible rfl)
  simp only [Act.put, List.setIfInBounds_toArray, List.set_cons_zero, List.set_cons_succ]
  refine YAll.cons (v := ?_) (some 21) (by rfl) (by rfl) (by rfl) ?_ ?_
  rotate_left
  · intro w' hSw
    have hw := below_trans0 HB2.out hSw
    have p0 := cell_of_below hw E0.out; have p1 := cell_of_below hw E1.out; have p2 := cell_of_below hw E2.out; have p3 := cell_of_below hw E3.out; have p4 := cell_of_below hw E4.out; have p5 := cell_of_below hw E5.out; have p6 := cell_of_below hw E6.out
    clear hw
    go_simp
    try (with_reducible rfl)
  simp only [Act.put, List.setIfInBounds_toArray, List.set_cons_zero, List.set_cons_succ]
  refine YAll.cons (v := ?_) (some 22) (by rfl) (by rfl) (by rfl) ?_ ?_
  rotate_left
  · intro w' hSw
    have hw := below_trans0 HB2.out hSw
    have p0 := cell_of_below hw E0.out; have p1 := cell_of_below hw E1.out; have p2 := cell_of_below hw E2.out; have p3 := cell_of_below hw E3.out; have p4 := cell_of_below hw E4.out; have p5 := cell_of_below hw E5.out; have p6 := cell_of_below hw E6.out
    clear hw
    go_simp
    try (with_reducible rfl)
  simp only [Act.put, List.setIfInBounds_toArray, List.set_cons_zero, List.set_cons_succ]
  refine YAll.cons (v := ?_) (some 23) (by rfl) (by rfl) (by rfl) ?_ ?_
  rotate_left
  · intro w' hSw
    have hw := below_trans0 HB2.out hSw
    have p0 := cell_of_below hw E0.out; have p1 := cell_of_below hw E1.out; have p2 := cell_of_below hw E2.out; have p3 := cell_of_below hw E3.out; have p4 := cell_of_below hw E4.out; have p5 := cell_of_below hw E5.out; have p6 := cell_of_below hw E6.out
    clear hw
    go_simp
    try (with_reducible rfl)
  simp only [Act.put, List.setIfInBounds_toArray, List.set_cons_zero, List.set_cons_succ]
  refine YAll.cons (v := ?_) (some 24) (by rfl) (by rfl) (by rfl) ?_ ?_
  rotate_left
  · intro w' hSw
    have hw := below_trans0 HB2.out hSw
    have p0 := cell_of_below hw E0.out; have p1 := cell_of_below hw E1.out; have p2 := cell_of_below hw E2.out; have p3 := cell_of_below hw E3.out; have p4 := cell_of_below hw E4.out; have p5 := cell_of_below hw E5.out; have p6 := cell_of_below hw E6.out
    clear hw
    go_simp
    try (with_reducible rfl)
  simp only [Act.put, List.setIfInBounds_toArray, List.set_cons_zero, List.set_cons_succ]
  refine YAll.nil (YAll.nil ⟨?_, ?_⟩)
  · refine Thr.par (T1 := ([12] ++ [13, 18]) ++ [19]) (T2 := [20]) 4 1 [26] [3] (CopyP x) CopyZ (by kernel_rfl) (Nat.le_refl _) ?_ ?_
    · refine Thr.seq (T := [12] ++ [13, 18]) (C := [19]) 3 1 [19, 20, 25] (by kernel_rfl) (Both [19] [25] (CopyU x) (CopyN x.names)) (by kernel_rfl) (by kernel_rfl) (Below.refl _ _) ?_ ?_
      · refine Thr.par 1 2 [19] [25] (CopyU x) (CopyN x.names) (by kernel_rfl) (Nat.le_refl _) ?_ ?_
        · refine Thr.step (some 19) (by rfl) rfl (by kernel_rfl) ?_
          intro w1 hb1 hk1 K hKK
          go_simp
          refine (copyBig_any x.minus A3 c3 x.limbs w1 (Kd.C_below H3.out (below_trans0 HB2.out (below_drewL hb1))) l3 b2).mono ?_
          rintro e w2 ⟨B, d, F, rfl, hr, hn, hf, hb2⟩
          exact hKK.out _ _ F rfl (hb1.trans (hb2.mono hb1.size)) (Guar.of_below hb2 hn hf) (Thr.done _ (fun w4 hb4 hk4 => ⟨B, d, rfl, hk4.row hr (fun _ h => h)⟩))
        · refine Thr.new (fun g => .slice (some ⟨g, 0, none⟩) 0 0) (.cells #[] 9) (some 20) (by rfl) rfl (by kernel_rfl) rfl (fun w' hb => by go_simp) ?_
          intro g w' hg1 hg2 hg3 hb
          simp only [Act.put, List.setIfInBounds_toArray, List.set_cons_zero, List.set_cons_succ]
          refine Thr.copyS (some 25) (by rfl) rfl (by kernel_rfl) rfl _ _ (by rfl) g (by rfl) hg3 hg1 A4 c4 x.names (by rfl) (fun w' hb => Kd.C_below H4.out (below_trans0 HB2.out (below_drewL hb))) b4 ?_
          intro B d w2 F hr hn hf hb2
          exact Thr.done _ (fun w4 hb4 hk4 => ⟨B, d, rfl, hk4.row hr (fun _ h => h)⟩)
      · rintro u w' F hb hnd hF ⟨F1, F2, rfl, ⟨B3, d3, e1, hr1⟩, ⟨B4, d4, e2, hr2⟩⟩
        simp only [List.map_cons, List.map_nil, List.cons.injEq, and_true] at e1 e2
        simp only [putU, List.foldl_cons, List.foldl_nil, Act.put, List.setIfInBounds_toArray, List.set_cons_zero, List.set_cons_succ, e1, e2]
        refine Thr.value (v := .agg #[.int .i64 x.kind, .string x.name, .bool x.minus, .slice B3 x.limbs.length d3, .slice B4 x.names.length d4, .slice none 0 0, .slice none 0 0]) (some 26) (by rfl) rfl (by kernel_rfl) rfl hnd (fun k hk => (hF k hk).2) (fun w' _ _ => by go_simp) ?_
        intro w3 hb3 hk3
        exact Thr.done _ (fun w4 hb4 hk4 => ⟨B3, d3, B4, d4, F1, F2, rfl, rfl, hk4.left.row (hk3.left.row hr1 (fun _ h => h)) (fun _ h => h), hk4.right.row (hk3.right.row hr2 (fun _ h => h)) (fun _ h => h)⟩)
    · refine Thr.new (fun g => .pointer (some ⟨g, 0, none⟩)) (.cells #[.int .i64 0, .string ⟨#[]⟩, .bool false, .slice none 0 0, .slice none 0 0, .slice none 0 0, .slice none 0 0] 36) (some 3) (by rfl) rfl (by kernel_rfl) rfl (fun w' hb => by go_simp) ?_
      intro g w' hg1 hg2 hg3 hb
      exact Thr.done _ (fun w4 hb4 hk4 => ⟨g, rfl, rfl, hk4.blk hg3 (by simp)⟩)
  · rintro u w' F hb hnd hF ⟨F1, F2, rfl, ⟨B3, d3, B4, d4, F3, F4, e1, rfl, hr3, hr4⟩, ⟨g, e2, rfl, hz⟩⟩
    simp only [List.map_cons, List.map_nil, List.cons.injEq, and_true] at e1 e2
    simp only [putU, List.foldl_cons, List.foldl_nil, Act.put, List.setIfInBounds_toArray, List.set_cons_zero, List.set_cons_succ, pick, List.map_cons, List.map_nil, List.getD_cons_succ, List.getD_cons_zero, e1, e2]
    go_wp2_with (refine wpList_store_blk g 0 [] [.int .i64 0, .string ⟨#[]⟩, .bool false, .slice none 0 0, .slice none 0 0, .slice none 0 0, .slice none 0 0] [] [.int .i64 x.kind, .string x.name, .bool x.minus, .slice B3 x.limbs.length d3, .slice B4 x.names.length d4, .slice none 0 0, .slice none 0 0] 36 (by rfl) 36 _ _ (by rfl) (by rfl) rfl (by rfl) hz rfl (by kernel_rfl) ?hone ?_)
    case hone => intro v hv; simp at hv; rcases hv with rfl | rfl | rfl | rfl | rfl | rfl | rfl <;> rfl
    intro w5 hblk5 hg5 hsz5
    have C0 := Lib.hid (cpE_start hb hnd hF hr3 hr4 hblk5 hg5 hsz5)
    clear hblk5 hg5 hsz5 hz hr3 hr4 hF hnd hb e1 e2
    have HW := Lib.hid (show ∀ (w' : World), Below W2.heap.size W2 w' → Below w.heap.size w w' from fun w' hb => below_trans0 HB2.out hb)
    obtain ⟨_, _, _, _, _, _, _, _, hE0⟩ := C0.out
    have p5 := cell_of_below (HW.out _ hE0.below) E5.out
    clear hE0
    go_wp2_with fail
    clear p5
    go_loopw [32] (fun s4 wr => ∃ (v5 : Value) (k : Nat), k ≤ x.kids.length ∧ s4 = .int .i64 k ∧ Hid (CpI x W2 wr.heap.size g (.slice B3 x.limbs.length d3) (.slice B4 x.names.length d4) v5 (.slice none 0 0) (x.kids.take k) [] wr)) (fun s4 _ => x.kids.length - (intOf s4).toNat)
    case atStart => exact ⟨.slice none 0 0, 0, Nat.zero_le _, rfl, C0⟩
    case round =>
      obtain ⟨v5, k, hk, rfl, HI⟩ := hrel
      obtain ⟨F3, F4, F5, F6, G5, G6, c5', c6', hE⟩ := HI.out
      have p5 := cell_of_below (HW.out _ hE.below) E5.out
      have HE := Lib.hid hE
      clear hE HI
      by_cases hlt : k < x.kids.length
      · have qk0 : (0 : Int) ≤ (k : Int) := by omega
        have qk1 : (k : Int) < x.kids.length := by omega
        obtain ⟨ad, hA5, hAtk⟩ := at_elem (Kd.C_below H5.out (HW.out _ HE.out.below)) k hlt
        have qg := HE.out.blk.cell (j := 5) rfl
        have KK := Lib.hid hAtk; clear hAtk
        subst hA5
        go_wp2_with fail
        refine wp_region_thr [0, 1, 2, 3, 4, 5, 6, 7] [] [8, 9] [10, 11, 12] [43, 44] (by kernel_rfl) (fun W' => Below wr.heap.size wr W') (fun u w' F => ∃ h A3 c3 A4 c4 A5 c5 A6 c6 Fy, u 44 = .slice (some ⟨h, 0, none⟩) 1 1 ∧ Blk w' h 36 (cellsC x.kids[k] A3 c3 A4 c4 A5 c5 A6 c6) ∧ OwnC 36 80 w' x.kids[k] (cellsC x.kids[k] A3 c3 A4 c4 A5 c5 A6 c6) Fy ∧ F = Fy ++ [h]) (by kernel_rfl) (by kernel_rfl) (fun _ _ d _ _ h => by cases d <;> exact h) (fun _ h => h) ?_
        refine YAll.cons (v := ?_) (some 35) (by rfl) (by rfl) (by rfl) ?_ ?_
        rotate_left
        · intro w' hSw
          have r5 := cell_of_below hSw p5; have rg := cell_of_below hSw qg
          go_simp
          try (with_reducible rfl)
        simp only [Act.put, List.setIfInBounds_toArray, List.set_cons_zero, List.set_cons_succ]
        refine YAll.cons (v := ?_) (some 36) (by rfl) (by rfl) (by rfl) ?_ ?_
        rotate_left
        · intro w' hSw
          have r5 := cell_of_below hSw p5; have rg := cell_of_below hSw qg
          go_simp
          try (with_reducible rfl)
        simp only [Act.put, List.setIfInBounds_toArray, List.set_cons_zero, List.set_cons_succ]
        refine YAll.cons (v := ?_) (some 37) (by rfl) (by rfl) (by rfl) ?_ ?_
        rotate_left
        · intro w' hSw
          have r5 := cell_of_below hSw p5; have rg := cell_of_below hSw qg
          go_simp
          try (with_reducible rfl)
        simp only [Act.put, List.setIfInBounds_toArray, List.set_cons_zero, List.set_cons_succ]
        refine YAll.cons (v := ?_) (some 38) (by rfl) (by rfl) (by rfl) ?_ ?_
        rotate_left
        · intro w' hSw
          have r5 := cell_of_below hSw p5; have rg := cell_of_below hSw qg
          go_simp
          try (with_reducible rfl)
        simp only [Act.put, List.setIfInBounds_toArray, List.set_cons_zero, List.set_cons_succ]
        refine YAll.cons (v := ?_) (some 39) (by rfl) (by rfl) (by rfl) ?_ ?_
        rotate_left
        · intro w' hSw
          have r5 := cell_of_below hSw p5; have rg := cell_of_below hSw qg
          go_simp
          try (with_reducible rfl)
        simp only [Act.put, List.setIfInBounds_toArray, List.set_cons_zero, List.set_cons_succ]
        refine YAll.cons (v := ?_) (some 40) (by rfl) (by rfl) (by rfl) ?_ ?_
        rotate_left
        · intro w' hSw
          have r5 := cell_of_below hSw p5; have rg := cell_of_below hSw qg
          go_simp
          try (with_reducible rfl)
        simp only [Act.put, List.setIfInBounds_toArray, List.set_cons_zero, List.set_cons_succ]
        refine YAll.cons (v := ?_) (some 41) (by rfl) (by rfl) (by rfl) ?_ ?_
        rotate_left
        · intro w' hSw
          have r5 := cell_of_below hSw p5; have rg := cell_of_below hSw qg
          go_simp
          try (with_reducible rfl)
        simp only [Act.put, List.setIfInBounds_toArray, List.set_cons_zero, List.set_cons_succ]
        refine YAll.cons (v := ?_) (some 42) (by rfl) (by rfl) (by rfl) ?_ ?_
        rotate_left
        · intro w' hSw
          have r5 := cell_of_below hSw p5; have rg := cell_of_below hSw qg
          go_simp
          try (with_reducible rfl)
        simp only [Act.put, List.setIfInBounds_toArray, List.set_cons_zero, List.set_cons_succ]
        refine YAll.nil (YAll.nil ⟨?_, ?_⟩)
        · refine Thr.step (some 43) (by rfl) rfl (by kernel_rfl) ?_
          intro w1 hb1 hk1 K hKK
          go_simp
          refine (IHK.out _ (List.getElem_mem hlt) (by have := mem_bulks (List.getElem_mem hlt); have := HBK.out; rw [bulk_eq] at this; omega) w1 _ (KK.out.below (below_drewL hb1))).mono ?_
          rintro e w2 ⟨cy, Fy, rfl, ho, hn, hf, hb2⟩
          refine hKK.out _ _ Fy rfl (hb1.trans (hb2.mono hb1.size)) (Guar.of_below hb2 hn (fun k hk => ⟨hf k hk, own_lt _ _ _ ho k hk⟩)) ?_
          obtain ⟨Y3, e3, Y4, e4, Y5, e5, Y6, e6, rfl⟩ := own_open ho
          simp only [cellsC] at ho ⊢
          refine Thr.step (some 44) (by rfl) rfl (by kernel_rfl) ?_
          intro w3 hb3 hk3 K2 hKK2
          go_simp
          refine hKK2.out _ _ (Fy ++ [w3.heap.size]) rfl (hb3.alloc hb3.size _) (guar_snoc hn (fun k hk => Nat.lt_of_lt_of_le (own_lt _ _ _ ho k hk) hk3.1)) ?_
          exact Thr.done _ (fun w4 hb4 hk4 => ⟨w3.heap.size, Y3, e3, Y4, e4, Y5, e5, Y6, e6, Fy, rfl, hk4.blk (blk_alloc w3 _ _) (by simp), hk4.left.ownC (own_below (hk3.ownC ho (fun _ h => h)) ((Below.refl _ _).alloc (Nat.le_refl _) _)) (fun _ h => h), rfl⟩)
        · rintro u w4 F hb4 hn4 hF4 ⟨h, Y3, e3, Y4, e4, Y5, e5, Y6, e6, Fy, e1, hbl, ho, rfl⟩
          simp only [putU, List.foldl_cons, List.foldl_nil, Act.put, List.setIfInBounds_toArray, List.set_cons_zero, List.set_cons_succ, pick, List.map_cons, List.map_nil, List.getD_cons_succ, List.getD_cons_zero, e1]
          have HC := Lib.hid (HE.out.fresh.to (below_drewL hb4))
          have HTK := Lib.hid (show (x.kids.take k).length = k by rw [List.length_take]; omega)
          have FY := Lib.hid (show (∀ k ∈ Fy, wr.heap.size ≤ k) ∧ Fy.Nodup ∧ wr.heap.size ≤ w4.heap.size from ⟨fun k hk => (hF4 k (List.mem_append_left _ hk)).1, (List.nodup_append.1 hn4).1, hb4.size⟩)
          have OY := Lib.hid ho
          have BW := Lib.hid (HE.out.below.size)
          clear ho hF4 hn4 hb4 p5 qg e1
          go_wp2_with (at_builtin; go_must (refine wpList_pushC rfl _ _ rfl W2.heap.size v5 k c5' rfl (by have := HC.out.o5; rwa [HTK.out] at this) h _ rfl rfl (cellsC_one _ _ _ _ _ _ _ _ _) hbl (by omega) (Nat.le_trans BW.out FY.out.2.2) ?_))
          intro v5' w5 ho5 hg5 hat5
          obtain ⟨V5, D5, rfl, -⟩ := (own_row (by omega) ho5).1.slice
          have O5 := Lib.hid ho5; have G5' := Lib.hid hg5; have AT5 := Lib.hid hat5
          have BG5 := Lib.hid (HC.out.blk.grownO hg5 (fun e => by have := (List.nodup_append.1 HC.out.nd).2.2 g (by rw [HC.out.f5, ← e]; simp) g (by simp); exact this rfl))
          clear ho5 hg5 hat5 hbl
          go_wp2_with (refine wpList_store_blk g 5 [.int .i64 x.kind, .string x.name, .bool x.minus, .slice B3 x.limbs.length d3, .slice B4 x.names.length d4] [v5] [.slice none 0 0] [.slice V5 (k + 1) D5] 36 (by rfl) 33 _ _ (by rfl) (by rfl) rfl (by rfl) BG5.out rfl (by kernel_rfl) (by intro v hv; rw [List.mem_singleton.1 hv]; rfl) ?_)
          intro w6 hb6 hg6 hsz6
          have CK := Lib.hid (HC.out.kid OY.out FY.out.2.1 FY.out.1 BW.out FY.out.2.2 G5'.out (by rw [HTK.out]; exact O5.out) AT5.out hg6 hsz6 (by simpa using hb6))
          clear hb6 hg6 hsz6 BG5 O5 G5' AT5 HC OY
          go_wp2
          go_roundw
          case rel => exact ⟨_, k + 1, by omega, by go_num, Lib.hid ⟨_, _, _, _, _, _, _, _, by rw [take_snoc' hlt]; exact CK.out⟩⟩
          case measure => simp [intOf]; omega
      · have hke : x.kids.take k = x.kids := List.take_of_length_le (by omega)
        have C1 := Lib.hid (show CpI x W2 wr.heap.size g (.slice B3 x.limbs.length d3) (.slice B4 x.names.length d4) v5 (.slice none 0 0) x.kids (x.alts.take 0) wr from ⟨_, _, _, _, _, _, _, _, by rw [hke] at HE; exact HE.out⟩)
        have p6 := cell_of_below (HW.out _ HE.out.below) E6.out
        clear hke HE
        go_wp2_with fail
        clear p5 p6 hk hlt
        go_loopw [53] (fun s5 wr => ∃ (v6 : Value) (k : Nat), k ≤ x.alts.length ∧ s5 = .int .i64 k ∧ Hid (CpI x W2 wr.heap.size g (.slice B3 x.limbs.length d3) (.slice B4 x.names.length d4) v5 v6 x.kids (x.alts.take k) wr)) (fun s5 _ => x.alts.length - (intOf s5).toNat)
        case atStart => exact ⟨.slice none 0 0, 0, Nat.zero_le _, rfl, C1⟩
        clear C1
        case round =>
          obtain ⟨v6, k, hk, rfl, HI⟩ := hrel
          obtain ⟨F3, F4, F5, F6, G5, G6, c5', c6', hE⟩ := HI.out
          have p6 := cell_of_below (HW.out _ hE.below) E6.out
          have HE := Lib.hid hE
          clear hE HI
          by_cases hlt : k < x.alts.length
          · have qk0 : (0 : Int) ≤ (k : Int) := by omega
            have qk1 : (k : Int) < x.alts.length := by omega
            obtain ⟨ad, A1', c1', A3', c3', A4', c4', B5, d5, B6, d6, rfl, hKa, hKb, l1n, gsn, g0, g1, g2, g3, g4, g5, g6, g7, g8⟩ := elem_alt_at H6.out (HW.out _ HE.out.below) k hlt
            have hAtk : At wr x.alts[k].body ⟨(ad.add (k * 9)).block, (ad.add (k * 9)).off + 2, none⟩ := ⟨A3', c3', A4', c4', B5, d5, B6, d6, (kCore _ _).K_below (HW.out _ HE.out.below) hKb, g2, g3, g4, g5, g6, g7, g8⟩
            have qg := HE.out.blk.cell (j := 6) rfl
            have KK := Lib.hid hAtk; have GS := Lib.hid gsn; clear hAtk hKa hKb gsn g2 g3 g4 g5 g6 g7 g8
            go_wp2_with fail
            refine wp_region_thr [0, 1, 2, 3, 4, 5, 7, 8, 9, 10, 12, 13, 14] [] (([6, 11] ++ [15]) ++ [16, 17]) [18, 19, 20] [68, 73, 77, 78, 79] (by kernel_rfl) (fun W' => Below wr.heap.size wr W') (fun u w' F => CopyA x.alts[k] (u 79) w' F) (by kernel_rfl) (by kernel_rfl) (fun _ _ d _ _ h => by cases d <;> exact h) (fun _ h => h) ?_
            refine YAll.cons (v := ?_) (some 62) (by rfl) (by rfl) (by rfl) ?_ ?_
            rotate_left
            · intro w' hSw
              have r0 := cell_of_below hSw g0; have r1 := cell_of_below hSw g1; have rg := cell_of_below hSw qg
              go_simp
              try (with_reducible rfl)
            simp only [Act.put, List.setIfInBounds_toArray, List.set_cons_zero, List.set_cons_succ]
            refine YAll.cons (v := ?_) (some 63) (by rfl) (by rfl) (by rfl) ?_ ?_
            rotate_left
            · intro w' hSw
              have r0 := cell_of_below hSw g0; have r1 := cell_of_below hSw g1; have rg := cell_of_below hSw qg
              go_simp
              try (with_reducible rfl)
            simp only [Act.put, List.setIfInBounds_toArray, List.set_cons_zero, List.set_cons_succ]
            refine YAll.cons (v := ?_) (some 64) (by rfl) (by rfl) (by rfl) ?_ ?_
            rotate_left
            · intro w' hSw
              have r0 := cell_of_below hSw g0; have r1 := cell_of_below hSw g1; have rg := cell_of_below hSw qg
              go_simp
              try (with_reducible rfl)
            simp only [Act.put, List.setIfInBounds_toArray, List.set_cons_zero, List.set_cons_succ]
            refine YAll.cons (v := ?_) (some 65) (by rfl) (by rfl) (by rfl) ?_ ?_
            rotate_left
            · intro w' hSw
              have r0 := cell_of_below hSw g0; have r1 := cell_of_below hSw g1; have rg := cell_of_below hSw qg
              go_simp
              try (with_reducible rfl)
            simp only [Act.put, List.setIfInBounds_toArray, List.set_cons_zero, List.set_cons_succ]
            refine YAll.cons (v := ?_) (some 66) (by rfl) (by rfl) (by rfl) ?_ ?_
            rotate_left
            · intro w' hSw
              have r0 := cell_of_below hSw g0; have r1 := cell_of_below hSw g1; have rg := cell_of_below hSw qg
              go_simp
              try (with_reducible rfl)
            simp only [Act.put, List.setIfInBounds_toArray, List.set_cons_zero, List.set_cons_succ]
            refine YAll.cons (v := ?_) (some 67) (by rfl) (by rfl) (by rfl) ?_ ?_
            rotate_left
            · intro w' hSw
              have r0 := cell_of_below hSw g0; have r1 := cell_of_below hSw g1; have rg := cell_of_below hSw qg
              go_simp
              try (with_reducible rfl)
            simp only [Act.put, List.setIfInBounds_toArray, List.set_cons_zero, List.set_cons_succ]
            refine YAll.cons (v := ?_) (some 69) (by rfl) (by rfl) (by rfl) ?_ ?_
            rotate_left
            · intro w' hSw
              have r0 := cell_of_below hSw g0; have r1 := cell_of_below hSw g1; have rg := cell_of_below hSw qg
              go_simp
              try (with_reducible rfl)
            simp only [Act.put, List.setIfInBounds_toArray, List.set_cons_zero, List.set_cons_succ]
            refine YAll.cons (v := ?_) (some 70) (by rfl) (by rfl) (by rfl) ?_ ?_
            rotate_left
            · intro w' hSw
              have r0 := cell_of_below hSw g0; have r1 := cell_of_below hSw g1; have rg := cell_of_below hSw qg
              go_simp
              try (with_reducible rfl)
            simp only [Act.put, List.setIfInBounds_toArray, List.set_cons_zero, List.set_cons_succ]
            refine YAll.cons (v := ?_) (some 71) (by rfl) (by rfl) (by rfl) ?_ ?_
            rotate_left
            · intro w' hSw
              have r0 := cell_of_below hSw g0; have r1 := cell_of_below hSw g1; have rg := cell_of_below hSw qg
              go_simp
              try (with_reducible rfl)
            simp only [Act.put, List.setIfInBounds_toArray, List.set_cons_zero, List.set_cons_succ]
            refine YAll.cons (v := ?_) (some 72) (by rfl) (by rfl) (by rfl) ?_ ?_
            rotate_left
            · intro w' hSw
              have r0 := cell_of_below hSw g0; have r1 := cell_of_below hSw g1; have rg := cell_of_below hSw qg
              go_simp
              try (with_reducible rfl)
            simp only [Act.put, List.setIfInBounds_toArray, List.set_cons_zero, List.set_cons_succ]
            refine YAll.cons (v := ?_) (some 74) (by rfl) (by rfl) (by rfl) ?_ ?_
            rotate_left
            · intro w' hSw
              have r0 := cell_of_below hSw g0; have r1 := cell_of_below hSw g1; have rg := cell_of_below hSw qg
              go_simp
              try (with_reducible rfl)
            simp only [Act.put, List.setIfInBounds_toArray, List.set_cons_zero, List.set_cons_succ]
            refine YAll.cons (v := ?_) (some 75) (by rfl) (by rfl) (by rfl) ?_ ?_
            rotate_left
            · intro w' hSw
              have r0 := cell_of_below hSw g0; have r1 := cell_of_below hSw g1; have rg := cell_of_below hSw qg
              go_simp
              try (with_reducible rfl)
            simp only [Act.put, List.setIfInBounds_toArray, List.set_cons_zero, List.set_cons_succ]
            refine YAll.cons (v := ?_) (some 76) (by rfl) (by rfl) (by rfl) ?_ ?_
            rotate_left
            · intro w' hSw
              have r0 := cell_of_below hSw g0; have r1 := cell_of_below hSw g1; have rg := cell_of_below hSw qg
              go_simp
              try (with_reducible rfl)
            simp only [Act.put, List.setIfInBounds_toArray, List.set_cons_zero, List.set_cons_succ]
            refine YAll.nil (YAll.nil ⟨?_, ?_⟩)
            · refine Thr.seq (T := [6, 11] ++ [15]) (C := [16, 17]) 3 2 [68, 73, 77] (by kernel_rfl) (Both [73] [77] (CopyN x.alts[k].names) (CopyB x.alts[k].body)) (by kernel_rfl) (by kernel_rfl) (Below.refl _ _) ?_ ?_
              · refine Thr.par 2 1 [73] [77] (CopyN x.alts[k].names) (CopyB x.alts[k].body) (by kernel_rfl) (Nat.le_refl _) ?_ ?_
                · refine Thr.new (fun g => .slice (some ⟨g, 0, none⟩) 0 0) (.cells #[] 9) (some 68) (by rfl) rfl (by kernel_rfl) rfl (fun w' hb => by go_simp) ?_
                  intro g' w' hg1 hg2 hg3 hb
                  simp only [Act.put, List.setIfInBounds_toArray, List.set_cons_zero, List.set_cons_succ]
                  refine Thr.copyS (some 73) (by rfl) rfl (by kernel_rfl) rfl _ _ (by rfl) g' (by rfl) hg3 hg1 A1' c1' x.alts[k].names (by rfl) (fun w' hb => Kd.C_below GS.out (below_trans0 (HW.out _ HE.out.below) (below_drewL hb))) (alt_names_len HBK.out (List.getElem_mem hlt)) ?_
                  intro B d w2 F hr hn hf hb2
                  exact Thr.done _ (fun w4 hb4 hk4 => ⟨B, d, rfl, hk4.row hr (fun _ h => h)⟩)
                · refine Thr.step (some 77) (by rfl) rfl (by kernel_rfl) ?_
                  intro w1 hb1 hk1 K hKK
                  go_simp
                  refine (IHA.out _ (List.getElem_mem hlt) (alt_bulk HBK.out (List.getElem_mem hlt)) w1 _ (KK.out.below (below_drewL hb1))).mono ?_
                  rintro e w2 ⟨cy, Fy, rfl, ho, hn, hf, hb2⟩
                  exact hKK.out _ _ Fy rfl (hb1.trans (hb2.mono hb1.size)) (Guar.of_below hb2 hn (fun k hk => ⟨hf k hk, own_lt _ _ _ ho k hk⟩)) (Thr.done _ (fun w4 hb4 hk4 => ⟨cy, rfl, hk4.ownC ho (fun _ h => h)⟩))
              · rintro u w' F hb hnd hF ⟨F1, F2, rfl, ⟨B, d, e1, hr⟩, ⟨cy, e2, ho⟩⟩
                obtain ⟨Y3, y3, Y4, y4, Y5, y5, Y6, y6, rfl⟩ := own_open ho
                simp only [List.map_cons, List.map_nil, List.cons.injEq, and_true, cellsC] at e1 e2
                simp only [putU, List.foldl_cons, List.foldl_nil, Act.put, List.setIfInBounds_toArray, List.set_cons_zero, List.set_cons_succ, e1, e2]
                refine Thr.value (v := .agg (cellsA x.alts[k] B d Y3 y3 Y4 y4 Y5 y5 Y6 y6).toArray) (some 78) (by rfl) rfl (by kernel_rfl) rfl hnd (fun k hk => (hF k hk).2) (fun w' _ _ => by simp only [cellsA]; go_simp) ?_
                intro w2 hb2 hk2
                simp only [cellsA, Act.put, List.setIfInBounds_toArray, List.set_cons_zero, List.set_cons_succ]
                refine Thr.step (some 79) (by rfl) rfl (by kernel_rfl) ?_
                intro w3 hb3 hk3 K2 hKK2
                go_simp
                refine hKK2.out _ _ ((F1 ++ F2) ++ [w3.heap.size]) rfl (hb3.alloc hb3.size _) (guar_snoc hnd (fun k hk => Nat.lt_of_lt_of_le (hF k hk).2 (Nat.le_trans hk2.1 hk3.1))) ?_
                refine Thr.done _ (fun w4 hb4 hk4 => ⟨w3.heap.size, B, d, Y3, y3, Y4, y4, Y5, y5, Y6, y6, F1 ++ F2, rfl, hk4.blk (blk_alloc w3 _ _) (by simp), ?_, rfl⟩)
                have hal : Keep (F1 ++ F2) w3 (w3.alloc (.cells (cellsA x.alts[k] B d Y3 y3 Y4 y4 Y5 y5 Y6 y6).toArray 80)) := keep_alloc (fun k hk => Nat.lt_of_lt_of_le (hF k hk).2 (Nat.le_trans hk2.1 hk3.1))
                have hkk := ((hk2.trans hk3).trans hal).trans hk4.left
                rw [OwnA_eq]
                exact ⟨_, _, F1, F2, rfl, rfl, hkk.left.row hr (fun _ h => h), hkk.right.ownC ho (fun _ h => h)⟩
            · rintro u w4 F hb4 hn4 hF4 ⟨h, Y1, y1, Y3, y3, Y4, y4, Y5, y5, Y6, y6, Fy, e1, hbl, ho, rfl⟩
              simp only [putU, List.foldl_cons, List.foldl_nil, Act.put, List.setIfInBounds_toArray, List.set_cons_zero, List.set_cons_succ, pick, List.map_cons, List.map_nil, List.getD_cons_succ, List.getD_cons_zero, e1]
              have HC := Lib.hid (HE.out.fresh.to (below_drewL hb4))
              have HTK := Lib.hid (show (x.alts.take k).length = k by rw [List.length_take]; omega)
              have FY := Lib.hid (show (∀ k ∈ Fy, wr.heap.size ≤ k) ∧ Fy.Nodup ∧ wr.heap.size ≤ w4.heap.size from ⟨fun k hk => (hF4 k (List.mem_append_left _ hk)).1, (List.nodup_append.1 hn4).1, hb4.size⟩)
              have OY := Lib.hid ho
              have BW := Lib.hid (HE.out.below.size)
              clear ho hF4 hn4 hb4 p6 g0 g1 qg e1
              go_wp2_with (at_builtin; go_must (refine wpList_pushA rfl _ _ rfl W2.heap.size v6 k c6' rfl (by have := HC.out.o6; rwa [HTK.out] at this) h _ rfl rfl (cellsA_one _ _ _ _ _ _ _ _ _ _ _) hbl (by omega) (Nat.le_trans BW.out FY.out.2.2) ?_))
              intro v6' w5 ho5 hg5 hat5
              obtain ⟨V6, D6, rfl, -⟩ := (own_row (by omega) ho5).1.slice
              have O5 := Lib.hid ho5; have G5' := Lib.hid hg5; have AT5 := Lib.hid hat5
              have BG5 := Lib.hid (HC.out.blk.grownO hg5 (fun e => by have := (List.nodup_append.1 (List.nodup_append.1 HC.out.nd).2.1).2.2 g (by rw [HC.out.f6, ← e]; simp) g (by simp); exact this rfl))
              clear ho5 hg5 hat5 hbl
              go_wp2_with (refine wpList_store_blk g 6 [.int .i64 x.kind, .string x.name, .bool x.minus, .slice B3 x.limbs.length d3, .slice B4 x.names.length d4, v5] [v6] [] [.slice V6 (k + 1) D6] 36 (by rfl) 34 _ _ (by rfl) (by rfl) rfl (by rfl) BG5.out rfl (by kernel_rfl) (by intro v hv; rw [List.mem_singleton.1 hv]; rfl) ?_)
              intro w6 hb6 hg6 hsz6
              have CK := Lib.hid (HC.out.alt OY.out FY.out.2.1 FY.out.1 BW.out FY.out.2.2 G5'.out (by rw [HTK.out]; exact O5.out) AT5.out hg6 hsz6 (by simpa using hb6))
              clear hb6 hg6 hsz6 BG5 O5 G5' AT5 HC OY
              go_wp2
              go_roundw
              case rel => exact ⟨_, k + 1, by omega, by go_num, Lib.hid ⟨_, _, _, _, _, _, _, _, by rw [take_snoc' hlt]; exact CK.out⟩⟩
              case measure => simp [intOf]; omega
          · have hke : x.alts.take k = x.alts := List.take_of_length_le (by omega)
            have C2 := HE.out
            rw [hke] at C2
            have HC2 := Lib.hid C2
            clear C2 hke HE
            obtain ⟨V5, D5, rfl, -⟩ := HC2.out.r5.slice
            obtain ⟨V6, D6, rfl, -⟩ := HC2.out.r6.slice
            have q0 := HC2.out.blk.cell (j := 0) rfl; have q1 := HC2.out.blk.cell (j := 1) rfl; have q2 := HC2.out.blk.cell (j := 2) rfl; have q3 := HC2.out.blk.cell (j := 3) rfl; have q4 := HC2.out.blk.cell (j := 4) rfl; have q5 := HC2.out.blk.cell (j := 5) rfl; have qq6 := HC2.out.blk.cell (j := 6) rfl
            have BR2 := Lib.hid (BR.out.below HC2.out.below)
            go_wp2_with (refine wpList_store_blk w.heap.size 0 [] [.int .i64 0, .string ⟨#[]⟩, .bool false, .slice none 0 0, .slice none 0 0, .slice none 0 0, .slice none 0 0] [] [.int .i64 x.kind, .string x.name, .bool x.minus, .slice B3 x.limbs.length d3, .slice B4 x.names.length d4, .slice V5 x.kids.length D5, .slice V6 x.alts.length D6] 36 (by rfl) 36 _ _ (by rfl) (by rfl) rfl (by rfl) BR2.out rfl (by kernel_rfl) ?honez ?_)
            case honez => intro v hv; simp at hv; rcases hv with rfl | rfl | rfl | rfl | rfl | rfl | rfl <;> rfl
            intro w5 hblk5 hg5 hsz5
            obtain ⟨F, ho, hn, hge, hne⟩ := HC2.out.own
            have HF := Lib.hid (show OwnC 36 80 w5 x [.int .i64 x.kind, .string x.name, .bool x.minus, .slice B3 x.limbs.length d3, .slice B4 x.names.length d4, .slice V5 x.kids.length D5, .slice V6 x.alts.length D6] F ∧ F.Nodup ∧ (∀ k ∈ F, w.heap.size ≤ k) ∧ Below w.heap.size w w5 from
              ⟨own_grown ho hg5 (fun k hk => by have := hge k hk; have := BR.out.lt; omega), hn, (fun k hk => Nat.le_trans HB2.out.size (hge k hk)), below_grown (HW.out _ HC2.out.below) hg5 (by omega)⟩)
            clear q0 q1 q2 q3 q4 q5 qq6 p6 BR2 HC2 hg5 hsz5 ho hn hge hne
            have q0 := hblk5.cell (j := 0) rfl; have q1 := hblk5.cell (j := 1) rfl; have q2 := hblk5.cell (j := 2) rfl; have q3 := hblk5.cell (j := 3) rfl; have q4 := hblk5.cell (j := 4) rfl; have q5 := hblk5.cell (j := 5) rfl; have q6 := hblk5.cell (j := 6) rfl
            clear hblk5
            go_wp2
            exact bodyPost_ret (v := .agg #[.int .i64 x.kind, .string x.name, .bool x.minus, .slice B3 x.limbs.length d3, .slice B4 x.names.length d4, .slice V5 x.kids.length D5, .slice V6 x.alts.length D6]) (by simp [results, Try.results33, go_sem, q0, q1, q2, q3, q4, q5, q6]) rfl ⟨_, F, rfl, HF.out.1, HF.out.2.1, HF.out.2.2.1, HF.out.2.2.2⟩
theorem copyCore_all (x : CoreT) : CopyPSaid x := coreInd CopyPSaid (fun c hk ha => copyCore_any c hk ha) x
end Go.Proofs.Ytagfphlhahiplaa.C13
namespace Go.Proofs.Ytagfphlhahiplaa.C13
open Go.RowKit Go.Proofs.YtagfphlhahiplaaW.PrintWords Go.Proofs.Ytagfphlhahiplaa.PFnExactFormatCore
set_option linter.unusedVariables false
set_option linter.unusedSimpArgs false
set_option maxRecDepth 100000 in
set_option maxHeartbeats 1000000 in
/-- the name of what v points at turns, if it is the one that is looked for -/
theorem ren1_any (g off b1 b2 : Nat) (pre post : List Value) (e : TypeId) (name fr tn : ByteArray) (w : World) (hoff : off + 1 = pre.length) (hb : Blk w g e (pre ++ ([.string name] ++ post))) (h1 : Blk w b1 9 [.string fr]) (h2 : Blk w b2 9 [.string tn]) :
    Calls Try.prog 67 #[.pointer (some ⟨g, off, none⟩), .pointer (some ⟨b1, 0, none⟩), .pointer (some ⟨b2, 0, none⟩)] w fun en w' => en = .returned (.tuple #[]) ∧ Blk w' g e (pre ++ ([.string (if name = fr then tn else name)] ++ post)) ∧ But [g] w w' := by
  have HB := Lib.hid hb
  have g0 := Blk.at (o := off + 1) (pre := pre) (c := .string name) (post := post) (by simpa using hb) hoff
  have g1 := h1.cell (j := 0) rfl
  have g2 := h2.cell (j := 0) rfl
  have HOFF := Lib.hid hoff
  clear hb hoff h1 h2
  by_cases he : name = fr
  · subst he
    go_enter Try.func67, Try.ntmps67
    go_wp2_with fail
    refine wp_region_tailW 5 (by kernel_rfl) (by kernel_rfl) ?_
    simp only [List.take_succ_cons, List.take_zero, List.drop_succ_cons, List.drop_zero]
    iterate 5 (refine StillW.step (by kernel_rfl) (fun K hK => ?_); go_simp; refine hK _ ?_; clear hK K)
    refine StillW.done ?_
    go_wp2_with ((refine wpList_store_blk g (off + 1) pre [.string name] post [.string tn] e rfl 9 (.tmp 13) _ rfl rfl HOFF.out rfl (HB.out.below (below_drew (Below.refl _ _))) rfl (by kernel_rfl) (by intro v hv; rw [List.mem_singleton.1 hv]; rfl) ?_))
    intro w3 hb3 hg3 hs3
    have HB3 := Lib.hid hb3; have HG3 := Lib.hid hg3
    clear hb3 hg3 g0 g1 g2
    go_wp2
    go_end0
    exact ⟨rfl, by simpa using HB3.out, (But.of_below (below_drew (Below.refl _ _))).trans (But.of_grown HG3.out)⟩
  · have hne : (name.toList == fr.toList) = false := beq_eq_false_iff_ne.2 (fun h => he (toList_inj h))
    have hne2 : ¬ name.toList = fr.toList := fun h => he (toList_inj h)
    have HE := Lib.hid he
    clear he
    go_enter Try.func67, Try.ntmps67
    go_wp2_with fail
    refine wp_region_tailW 5 (by kernel_rfl) (by kernel_rfl) ?_
    simp only [List.take_succ_cons, List.take_zero, List.drop_succ_cons, List.drop_zero]
    iterate 5 (refine StillW.step (by kernel_rfl) (fun K hK => ?_); go_simp; refine hK _ ?_; clear hK K)
    refine StillW.done ?_
    go_wp2
    go_end0
    exact ⟨rfl, by have := HB.out.below (below_drew (Below.refl w.heap.size w)); simpa [HE.out] using this, But.of_below (below_drew (Below.refl _ _))⟩
end Go.Proofs.Ytagfphlhahiplaa.C13
namespace Go.Proofs.Ytagfphlhahiplaa.C13
open Go.RowKit Go.Proofs.YtagfphlhahiplaaW.PrintWords Go.Proofs.Ytagfphlhahiplaa.PFnExactFormatCore
set_option linter.unusedVariables false
instance memDec (s : ByteArray) (l : List ByteArray) : Decidable (s ∈ l) := decidable_of_iff (l.any (fun t => decide (t = s)) = true) (by
  rw [List.any_eq_true]
  constructor
  · rintro ⟨t, ht, he⟩; rw [decide_eq_true_eq] at he; exact he ▸ ht
  · intro h; exact ⟨s, h, by simp⟩)
mutual
def rn (fr tn : ByteArray) : CoreT → CoreT
  | ⟨k, n, m, l, ns, ks, ls⟩ =>
    if k = 1 then ⟨k, if n = fr then tn else n, m, l, ns, ks, ls⟩
    else if (k = 6 ∨ k = 7) ∧ fr ∈ ns then ⟨k, n, m, l, ns, ks, ls⟩
    else ⟨k, n, m, l, ns, rnKs fr tn (decide (k = 8 ∧ n = fr)) 0 ks, rnAs fr tn (decide (n = fr)) ls⟩
def rnKs (fr tn : ByteArray) (skip : Bool) : Nat → List CoreT → List CoreT
  | _, [] => []
  | i, c :: r => (if skip = true ∧ i = 1 then c else rn fr tn c) :: rnKs fr tn skip (i + 1) r
def rnAs (fr tn : ByteArray) (skip : Bool) : List AltT → List AltT
  | [] => []
  | a :: r => rnA fr tn skip a :: rnAs fr tn skip r
def rnA (fr tn : ByteArray) (skip : Bool) : AltT → AltT
  | ⟨con, names, body⟩ => ⟨con, names, if skip = true ∨ fr ∈ names then body else rn fr tn body⟩
end
theorem rn_eq (fr tn : ByteArray) (x : CoreT) : rn fr tn x = (if x.kind = 1 then { x with name := if x.name = fr then tn else x.name } else if (x.kind = 6 ∨ x.kind = 7) ∧ fr ∈ x.names then x
    else { x with kids := rnKs fr tn (decide (x.kind = 8 ∧ x.name = fr)) 0 x.kids, alts := rnAs fr tn (decide (x.name = fr)) x.alts }) := by cases x; rw [rn]
theorem rnA_eq (fr tn : ByteArray) (skip : Bool) (a : AltT) : rnA fr tn skip a = { a with body := if skip = true ∨ fr ∈ a.names then a.body else rn fr tn a.body } := by cases a; rw [rnA]
theorem rnKs_len (fr tn : ByteArray) (skip : Bool) : ∀ (i : Nat) (l : List CoreT), (rnKs fr tn skip i l).length = l.length
  | _, [] => by rw [rnKs]
  | i, c :: r => by rw [rnKs, List.length_cons, List.length_cons, rnKs_len fr tn skip (i + 1) r]
theorem rnKs_get (fr tn : ByteArray) (skip : Bool) : ∀ (i : Nat) (l : List CoreT) (j : Nat) (h : j < l.length), (rnKs fr tn skip i l)[j]'(by rw [rnKs_len]; exact h) = if skip = true ∧ i + j = 1 then l[j] else rn fr tn l[j]
  | _, [], j, h => by cases h
  | i, c :: r, j, h => by
    cases j with
    | zero => simp [rnKs]
    | succ j =>
      simp only [rnKs, List.getElem_cons_succ]
      rw [rnKs_get fr tn skip (i + 1) r j (by simpa using h), show i + 1 + j = i + (j + 1) by omega]
theorem rnAs_map (fr tn : ByteArray) (skip : Bool) : ∀ (l : List AltT), rnAs fr tn skip l = l.map (rnA fr tn skip)
  | [] => by rw [rnAs]; rfl
  | a :: r => by rw [rnAs, rnAs_map fr tn skip r]; rfl
mutual
/-- what the program does; hid: the name is hidden from around -/
def fv (fr tn : ByteArray) (hid : Bool) : CoreT → CoreT
  | ⟨k, n, m, l, ns, ks, ls⟩ =>
    if k = 1 then ⟨k, if hid = false ∧ n = fr then tn else n, m, l, ns, ks, ls⟩
    else if k = 6 ∨ k = 7 then ⟨k, n, m, l, ns, fvKs fr tn (hid || decide (fr ∈ ns)) ks, ls⟩
    else if k = 8 then ⟨k, n, m, l, ns, fvC fr tn hid (hid || decide (n ≠ ⟨#[]⟩ ∧ n = fr)) ks, fvAs fr tn (hid || decide (n ≠ ⟨#[]⟩ ∧ n = fr)) ls⟩
    else ⟨k, n, m, l, ns, fvKs fr tn hid ks, ls⟩
def fvC (fr tn : ByteArray) (hid hid2 : Bool) : List CoreT → List CoreT
  | [] => []
  | c :: r => fv fr tn hid c :: fvKs fr tn hid2 r
def fvKs (fr tn : ByteArray) (hid : Bool) : List CoreT → List CoreT
  | [] => []
  | c :: r => fv fr tn hid c :: fvKs fr tn hid r
def fvAs (fr tn : ByteArray) (hid : Bool) : List AltT → List AltT
  | [] => []
  | a :: r => fvA fr tn hid a :: fvAs fr tn hid r
def fvA (fr tn : ByteArray) (hid : Bool) : AltT → AltT
  | ⟨con, names, body⟩ => ⟨con, names, fv fr tn (hid || decide (fr ∈ names)) body⟩
end
theorem fv_eq (fr tn : ByteArray) (hid : Bool) (x : CoreT) : fv fr tn hid x = (if x.kind = 1 then { x with name := if hid = false ∧ x.name = fr then tn else x.name } else if x.kind = 6 ∨ x.kind = 7 then { x with kids := fvKs fr tn (hid || decide (fr ∈ x.names)) x.kids }
    else if x.kind = 8 then { x with kids := fvC fr tn hid (hid || decide (x.name ≠ ⟨#[]⟩ ∧ x.name = fr)) x.kids, alts := fvAs fr tn (hid || decide (x.name ≠ ⟨#[]⟩ ∧ x.name = fr)) x.alts } else { x with kids := fvKs fr tn hid x.kids }) := by cases x; rw [fv]
theorem fvA_eq (fr tn : ByteArray) (hid : Bool) (a : AltT) : fvA fr tn hid a = { a with body := fv fr tn (hid || decide (fr ∈ a.names)) a.body } := by cases a; rw [fvA]
theorem fvKs_map (fr tn : ByteArray) (hid : Bool) : ∀ (l : List CoreT), fvKs fr tn hid l = l.map (fv fr tn hid)
  | [] => by rw [fvKs]; rfl
  | a :: r => by rw [fvKs, fvKs_map fr tn hid r]; rfl
theorem fvAs_map (fr tn : ByteArray) (hid : Bool) : ∀ (l : List AltT), fvAs fr tn hid l = l.map (fvA fr tn hid)
  | [] => by rw [fvAs]; rfl
  | a :: r => by rw [fvAs, fvAs_map fr tn hid r]; rfl
theorem fvC_eq (fr tn : ByteArray) (hid hid2 : Bool) (l : List CoreT) : fvC fr tn hid hid2 l = match l with | [] => [] | c :: r => fv fr tn hid c :: r.map (fv fr tn hid2) := by
  cases l with
  | nil => rw [fvC]
  | cons c r => rw [fvC, fvKs_map]
theorem map_id' {α : Type} {f : α → α} {l : List α} (h : ∀ x ∈ l, f x = x) : l.map f = l := by
  conv => rhs; rw [← List.map_id l]
  exact List.map_congr_left h
theorem fvC_id {fr tn : ByteArray} {hid hid2 : Bool} {l : List CoreT} (h1 : ∀ c ∈ l, fv fr tn hid c = c) (h2 : ∀ c ∈ l, fv fr tn hid2 c = c) : fvC fr tn hid hid2 l = l := by
  rw [fvC_eq]
  cases l with
  | nil => rfl
  | cons c r => simp only; rw [h1 c (by simp), map_id' (fun x hx => h2 x (by simp [hx]))]
/-- a hidden name stays -/
theorem fv_hid (fr tn : ByteArray) : ∀ x : CoreT, fv fr tn true x = x := by
  refine coreInd (fun x => fv fr tn true x = x) (fun x ihk iha => ?_)
  rw [fv_eq]
  simp only [Bool.true_or, Bool.true_eq_false, false_and, if_false, fvKs_map, fvAs_map]
  rw [map_id' ihk, fvC_id ihk ihk, map_id' (fun a ha => by rw [fvA_eq]; simp only [Bool.true_or]; rw [iha a ha])]
  cases x
  split
  · rfl
  · split
    · rfl
    · split <;> rfl
theorem size0_ne {s : ByteArray} (h : 0 < s.size) : s ≠ ⟨#[]⟩ := fun e => by have := size_zero.2 e; omega
/-- no variable has the empty name -/
theorem fv_empty (tn : ByteArray) : ∀ x : CoreT, Shapes x → ∀ hid, fv ⟨#[]⟩ tn hid x = x := by
  refine coreInd (fun x => Shapes x → ∀ hid, fv ⟨#[]⟩ tn hid x = x) (fun x ihk iha hs hid => ?_)
  rw [Shapes_eq] at hs
  obtain ⟨hsh, hks, hls⟩ := hs
  rw [KShapes_iff] at hks
  rw [AShapes_iff] at hls
  have hk1 : ∀ b, ∀ c ∈ x.kids, fv ⟨#[]⟩ tn b c = c := fun b c hc => ihk c hc (hks c hc) b
  have ha1 : ∀ b, ∀ a ∈ x.alts, fvA ⟨#[]⟩ tn b a = a := fun b a ha => by rw [fvA_eq, iha a ha (hls a ha)]
  rw [fv_eq, fvKs_map, fvKs_map, fvAs_map, map_id' (hk1 _), map_id' (hk1 hid), fvC_id (hk1 _) (hk1 _), map_id' (ha1 _)]
  split
  · rename_i hk
    have hn : x.name ≠ ⟨#[]⟩ := by
      unfold Shape at hsh
      refine size0_ne ?_
      have := hsh.2.2.2.2
      omega
    rw [if_neg (fun h => hn h.2)]
    cases x; rfl
  · cases x
    split
    · rfl
    · split <;> rfl
/-- where it is not hidden, it is as the specification says -/
theorem fv_rn (fr tn : ByteArray) : ∀ x : CoreT, Shapes x → fv fr tn false x = rn fr tn x := by
  refine coreInd (fun x => Shapes x → fv fr tn false x = rn fr tn x) (fun x ihk iha hs => ?_)
  have hs' := hs
  rw [Shapes_eq] at hs
  obtain ⟨hsh, hks, hls⟩ := hs
  rw [KShapes_iff] at hks
  rw [AShapes_iff] at hls
  have hks1 : ∀ skip, skip = false → x.kids.map (fv fr tn false) = rnKs fr tn skip 0 x.kids := fun skip h => by
    subst h
    apply List.ext_getElem
    · simp [rnKs_len]
    · intro i h1 h2
      rw [rnKs_get fr tn false 0 x.kids i (by simpa using h1)]
      simp only [List.getElem_map, Bool.false_eq_true, false_and, if_false]
      exact ihk _ (List.getElem_mem _) (hks _ (List.getElem_mem _))
  have halt : x.kind ≠ 8 → x.alts = [] := fun h => by
    unfold Shape at hsh
    exact List.eq_nil_of_length_eq_zero (by omega)
  rw [fv_eq, rn_eq]
  by_cases h1 : x.kind = 1
  · rw [if_pos h1, if_pos h1]; simp only [true_and]
  rw [if_neg h1, if_neg h1]
  by_cases h67 : x.kind = 6 ∨ x.kind = 7
  · rw [if_pos h67]
    have h8 : x.kind ≠ 8 := by omega
    by_cases hm : fr ∈ x.names
    · rw [if_pos ⟨h67, hm⟩, fvKs_map, map_id' (fun c _ => by rw [decide_eq_true hm, Bool.or_true]; exact fv_hid _ _ c)]
      cases x; rfl
    · rw [if_neg (show ¬((x.kind = 6 ∨ x.kind = 7) ∧ fr ∈ x.names) from fun h => hm h.2), fvKs_map, decide_eq_false hm, Bool.or_false, hks1 (decide (x.kind = 8 ∧ x.name = fr)) (decide_eq_false (fun h => h8 h.1)), halt h8]
      rw [rnAs]
  · rw [if_neg h67, if_neg (show ¬((x.kind = 6 ∨ x.kind = 7) ∧ fr ∈ x.names) from fun h => h67 h.1)]
    by_cases h8 : x.kind = 8
    · rw [if_pos h8]
      have hlen : x.kids.length = 1 ∨ x.kids.length = 2 := by unfold Shape at hsh; omega
      by_cases he : fr = ⟨#[]⟩
      · subst he
        have ha : fvAs ⟨#[]⟩ tn (false || decide (x.name ≠ ⟨#[]⟩ ∧ x.name = ⟨#[]⟩)) x.alts = x.alts := by
          rw [fvAs_map, decide_eq_false (fun h => h.1 h.2)]
          exact map_id' (fun a ha => by rw [fvA_eq, fv_empty tn _ (hls a ha)])
        have hb : rnAs ⟨#[]⟩ tn (decide (x.name = ⟨#[]⟩)) x.alts = x.alts := by
          rw [rnAs_map]
          exact map_id' (fun a ha => by
            rw [rnA_eq]
            split
            · rfl
            · rw [← iha a ha (hls a ha), fv_empty tn _ (hls a ha)])
        have hk : fvC ⟨#[]⟩ tn false (false || decide (x.name ≠ ⟨#[]⟩ ∧ x.name = ⟨#[]⟩)) x.kids = x.kids := fvC_id (fun c hc => fv_empty tn _ (hks c hc) _) (fun c hc => fv_empty tn _ (hks c hc) _)
        have hk2 : rnKs ⟨#[]⟩ tn (decide (x.kind = 8 ∧ x.name = ⟨#[]⟩)) 0 x.kids = x.kids := by
          apply List.ext_getElem
          · rw [rnKs_len]
          · intro i h1 h2
            rw [rnKs_get _ _ _ 0 x.kids i h2]
            split
            · rfl
            · rw [← ihk _ (List.getElem_mem _) (hks _ (List.getElem_mem _)), fv_empty tn _ (hks _ (List.getElem_mem _))]
        rw [ha, hb, hk, hk2]
      · have hd : decide (x.name ≠ ⟨#[]⟩ ∧ x.name = fr) = decide (x.name = fr) := by
          rw [decide_eq_decide]
          exact ⟨fun h => h.2, fun h => ⟨fun h0 => he (h.symm.trans h0), h⟩⟩
        have hd2 : decide (x.kind = 8 ∧ x.name = fr) = decide (x.name = fr) := by
          rw [decide_eq_decide]
          exact ⟨fun h => h.2, fun h => ⟨h8, h⟩⟩
        rw [Bool.false_or, hd, hd2]
        have hA : fvAs fr tn (decide (x.name = fr)) x.alts = rnAs fr tn (decide (x.name = fr)) x.alts := by
          rw [fvAs_map, rnAs_map]
          refine List.map_congr_left fun a ha => ?_
          rw [fvA_eq, rnA_eq]
          by_cases hn : x.name = fr
          · rw [decide_eq_true hn, Bool.true_or, fv_hid, if_pos (.inl rfl)]
          · rw [decide_eq_false hn, Bool.false_or]
            by_cases hm : fr ∈ a.names
            · rw [decide_eq_true hm, fv_hid, if_pos (.inr hm)]
            · rw [decide_eq_false hm, iha a ha (hls a ha), if_neg (by simp [hm])]
        have hK : fvC fr tn false (decide (x.name = fr)) x.kids = rnKs fr tn (decide (x.name = fr)) 0 x.kids := by
          rw [fvC_eq]
          cases hkk : x.kids with
          | nil => rw [rnKs]
          | cons c r =>
            simp only
            rw [rnKs, if_neg (by simp), ihk c (by rw [hkk]; simp) (hks c (by rw [hkk]; simp))]
            refine congrArg _ ?_
            cases r with
            | nil => rw [rnKs]; rfl
            | cons d r =>
              have hr : r = [] := by rw [hkk] at hlen; simp at hlen; exact hlen
              subst hr
              rw [rnKs, rnKs]
              simp only [List.map_cons, List.map_nil, List.cons.injEq, and_true]
              by_cases hn : x.name = fr
              · rw [decide_eq_true hn, fv_hid, if_pos (by simp)]
              · rw [decide_eq_false hn, if_neg (by simp)]
                exact ihk d (by rw [hkk]; simp) (hks d (by rw [hkk]; simp))
        rw [hA, hK]
    · rw [if_neg h8, fvKs_map, hks1 (decide (x.kind = 8 ∧ x.name = fr)) (decide_eq_false (fun h => h8 h.1)), halt h8]
      rw [rnAs]
end Go.Proofs.Ytagfphlhahiplaa.C13
