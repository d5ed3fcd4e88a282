import Derived.Test.YtnoammmohdmnjaaGreatU5
set_option maxRecDepth 100000
set_option maxHeartbeats 16000000
set_option linter.unusedVariables false
set_option linter.unusedSimpArgs false
namespace Go.Proofs.YtnoammmohdmnjaaGreat.C13
open Go.RowKit Go.Proofs.YtnoammmohdmnjaaGreatW.PrintWords
open List renaming setIfInBounds_toArray → Jla, set_cons_zero → Jlb, set_cons_succ → Jlc
theorem qay (w : World) (e : TypeId) (cs : Array Value) : Blk (w.alloc (.cells cs e)) w.heap.size e ([] ++ cs.toList) := by
 unfold Blk
 show (w.heap.push _)[w.heap.size]? = _
 simp
theorem Jm (w : World) (e : TypeId) (cs : List Value) : Blk (w.alloc (.cells cs.toArray e)) w.heap.size e cs := by
 have := qay w e cs.toArray
 simpa using this
theorem boxed (w : World) (cs : List Value) (e : TypeId) : ∃ W1, W1 = w.alloc (.cells cs.toArray e) ∧ Blk W1 w.heap.size e cs ∧ Below w.heap.size w W1 ∧ W1.heap.size = w.heap.size + 1 :=
 ⟨_, rfl, Jm w e cs, Below.alloc (Below.refl _ _) (Nat.le_refl _) _, by simp⟩
theorem Blk.grownO {w w' : World} {g : Nat} {r : Option Nat} {e cs} (h : Blk w g e cs) (hg : w.grownBy w' r) (hne : some g ≠ r) : Blk w' g e cs := h.move (hg.block g h.lt hne)
section
set_option maxRecDepth 100000
set_option maxHeartbeats 4000000
theorem f49 {p : Prop} (h : p := by
 go_wp2
 go_roundw
 case rel => exact ⟨k + 1, by omega, by go_num, HP3⟩
 case measure => simp [intOf]; omega) : p := h
theorem f80 {p : Prop} (h : p := by
 exact ⟨_, [w.heap.size], rfl, .inr ⟨w.heap.size, l.length, rest, rfl, Nat.le_refl _, by omega, hb, rfl⟩, by simp, fun k hk => by rw [List.mem_singleton.1 hk]; exact Nat.le_refl _, hB⟩) : p := h
theorem qux (l : List ByteArray) (hl : l.length ≤ 274877906944) (A : Option Addr) (c : Nat) (w : World) (hr : Kd.string.C w A l.length l) (hc : l.length ≤ c) :
  Calls Tryz.prog 21 #[.slice A l.length c] w fun e w' => ∃ v F, e = .returned v ∧ Row w' 9 v l.length (Xa l) F ∧ F.Nodup ∧ (∀ k ∈ F, w.heap.size ≤ k) ∧ Below w.heap.size w w' := by
 obtain ⟨i0, hi, hz0, hz1, hz2⟩ := info_parts (show (Tryz.prog.info? 9).map (fun i => (i.zero, i.size, i.bytes)) = some (some (.string ⟨#[]⟩), 1, 16) from by kernel_rfl)
 have hmk : ∀ W : World, (Instr.makeSlice 25 (.int .i64 (l.length : Int)) (.int .i64 (l.length : Int))).run Tryz.prog W = .ok (.slice (some ⟨W.heap.size, 0, none⟩) l.length l.length) (W.alloc (.cells (madeCells (Value.cells (.string ⟨#[]⟩)) (l.length * 1)) 9)) := by
  intro W
  have := run_make (P := Tryz.prog) W 25 9 i0 _ Tryz.underlying25 hi hz0 .i64 .i64 l.length l.length (by omega) (by omega) (by rw [hz2]; omega) (by omega)
  rw [hz1] at this
  simpa using this
 clear hi hz0 hz1 hz2
 have HR := Wd hr; clear hr
 go_enter Tryz.func21, Tryz.ntmps21
 go_wp2
 clear hmk
 go_loopw [4] (fun i wr => ∃ (k : Nat), k ≤ l.length ∧ i = .int .i64 k ∧ Hid (∃ rest : List Value, Blk wr w.heap.size 9 ((Xa l).take k ++ rest) ∧ rest.length = l.length - k ∧ Below w.heap.size w wr)) (fun i _ => l.length - (intOf i).toNat)
 case atStart => exact ⟨0, Nat.zero_le _, rfl, Wd ⟨_, qay _ _ _, by simp [size_madeCells], (Below.refl _ _).alloc (Nat.le_refl _) _⟩⟩
 case round =>
  obtain ⟨k, hk, rfl, HP⟩ := hrel
  by_cases hlt : k < l.length
  ·obtain ⟨rest, hb, hrl, hB⟩ := HP.out
   obtain ⟨ad, rfl, g0⟩ := Xy (Kd.C_below HR.out hB) k hlt
   obtain ⟨r0, rest, rfl⟩ : ∃ a r, rest = a :: r := by cases rest with | nil => simp at hrl; omega | cons a r => exact ⟨a, r, rfl⟩
   have ⟨HBK, HRL, HB⟩ := Wq hb hrl hB
   clear hb hrl hB HP
   go_wp2_with (refine Qc w.heap.size k ((Xa l).take k) [r0] rest [.string l[k]] 9 (by rfl) 9 _ _ (by rfl) (by rfl) ?h1 (by rfl) HBK.out rfl (by kernel_rfl) (by intro v hv; rw [List.mem_singleton.1 hv]; rfl) ?_)
   case h1 => simp [Xa]; omega
   intro w3 hb3 hg3 hs3
   have HP3 := Wd (show ∃ rest : List Value, Blk w3 w.heap.size 9 ((Xa l).take (k + 1) ++ rest) ∧ rest.length = l.length - (k + 1) ∧ Below w.heap.size w w3 from
    ⟨rest, by rw [show (Xa l).take (k + 1) = (Xa l).take k ++ [.string l[k]] from by rw [List.take_succ_eq_append_getElem (by simpa [Xa] using hlt)]; simp [Xa], List.append_assoc]; exact hb3, by have := HRL.out; rw [List.length_cons] at this; omega, HB.out.grown hg3 HB.out.size (fun j hj => by injection hj with hj; omega)⟩)
   clear hb3 hg3 hs3 HBK HRL HB g0
   exact f49
  ·have hkk : k = l.length := by omega
   have HK := Wd hkk; clear hkk
   go_wp2
   go_ret
   obtain ⟨rest, hb, hrl, hB⟩ := HP.out
   rw [HK.out] at hb
   rw [show (Xa l).take l.length = Xa l from List.take_of_length_le (by simp [Xa])] at hb
   exact f80
theorem zaz (l : List Int) (hl : l.length ≤ 274877906944) (A : Option Addr) (c : Nat) (w : World) (hr : (Kd.int .u32).C w A l.length l) (hc : l.length ≤ c) :
  Calls Tryz.prog 50 #[.slice A l.length c] w fun e w' => ∃ v F, e = .returned v ∧ Row w' 106 v l.length (Gz .u32 l) F ∧ F.Nodup ∧ (∀ k ∈ F, w.heap.size ≤ k) ∧ Below w.heap.size w w' := by
 obtain ⟨i0, hi, hz0, hz1, hz2⟩ := info_parts (show (Tryz.prog.info? 106).map (fun i => (i.zero, i.size, i.bytes)) = some (some (.int .u32 0), 1, 4) from by kernel_rfl)
 have hmk : ∀ W : World, (Instr.makeSlice 22 (.int .i64 (l.length : Int)) (.int .i64 (l.length : Int))).run Tryz.prog W = .ok (.slice (some ⟨W.heap.size, 0, none⟩) l.length l.length) (W.alloc (.cells (madeCells (Value.cells (.int .u32 0)) (l.length * 1)) 106)) := by
  intro W
  have := run_make (P := Tryz.prog) W 22 106 i0 _ Tryz.underlying22 hi hz0 .i64 .i64 l.length l.length (by omega) (by omega) (by rw [hz2]; omega) (by omega)
  rw [hz1] at this
  simpa using this
 clear hi hz0 hz1 hz2
 have HR := Wd hr; clear hr
 go_enter Tryz.func50, Tryz.ntmps50
 go_wp2
 clear hmk
 go_loopw [4] (fun i wr => ∃ (k : Nat), k ≤ l.length ∧ i = .int .i64 k ∧ Hid (∃ rest : List Value, Blk wr w.heap.size 106 ((Gz .u32 l).take k ++ rest) ∧ rest.length = l.length - k ∧ Below w.heap.size w wr)) (fun i _ => l.length - (intOf i).toNat)
 case atStart => exact ⟨0, Nat.zero_le _, rfl, Wd ⟨_, qay _ _ _, by simp [size_madeCells], (Below.refl _ _).alloc (Nat.le_refl _) _⟩⟩
 case round =>
  obtain ⟨k, hk, rfl, HP⟩ := hrel
  by_cases hlt : k < l.length
  ·obtain ⟨rest, hb, hrl, hB⟩ := HP.out
   obtain ⟨ad, rfl, g0⟩ := qbb (Kd.C_below HR.out hB) k hlt
   obtain ⟨r0, rest, rfl⟩ : ∃ a r, rest = a :: r := by cases rest with | nil => simp at hrl; omega | cons a r => exact ⟨a, r, rfl⟩
   have ⟨HBK, HRL, HB⟩ := Wq hb hrl hB
   clear hb hrl hB HP
   go_wp2_with (refine Qc w.heap.size k ((Gz .u32 l).take k) [r0] rest [.int .u32 l[k]] 106 (by rfl) 106 _ _ (by rfl) (by rfl) ?h1 (by rfl) HBK.out rfl (by kernel_rfl) (by intro v hv; rw [List.mem_singleton.1 hv]; rfl) ?_)
   case h1 => simp [Gz]; omega
   intro w3 hb3 hg3 hs3
   have HP3 := Wd (show ∃ rest : List Value, Blk w3 w.heap.size 106 ((Gz .u32 l).take (k + 1) ++ rest) ∧ rest.length = l.length - (k + 1) ∧ Below w.heap.size w w3 from
    ⟨rest, by rw [show (Gz .u32 l).take (k + 1) = (Gz .u32 l).take k ++ [.int .u32 l[k]] from by rw [List.take_succ_eq_append_getElem (by simpa [Gz] using hlt)]; simp [Gz], List.append_assoc]; exact hb3, by have := HRL.out; rw [List.length_cons] at this; omega, HB.out.grown hg3 HB.out.size (fun j hj => by injection hj with hj; omega)⟩)
   clear hb3 hg3 hs3 HBK HRL HB g0
   exact f49
  ·have hkk : k = l.length := by omega
   have HK := Wd hkk; clear hkk
   go_wp2
   go_ret
   obtain ⟨rest, hb, hrl, hB⟩ := HP.out
   rw [HK.out] at hb
   rw [show (Gz .u32 l).take l.length = Gz .u32 l from List.take_of_length_le (by simp [Gz])] at hb
   exact f80
theorem zay (m : Bool) (l : List Int) (hl : l.length ≤ 274877906944) (A : Option Addr) (c : Nat) (w : World) (hr : (Kd.int .u32).C w A l.length l) (hc : l.length ≤ c) :
  Calls Tryz.prog 20 #[.agg #[.bool m, .slice A l.length c]] w fun e w' => ∃ v F, e = .returned (.agg #[.bool m, v]) ∧ Row w' 106 v l.length (Gz .u32 l) F ∧ F.Nodup ∧ (∀ k ∈ F, w.heap.size ≤ k) ∧ Below w.heap.size w w' := by
 have HR := Wd hr; clear hr
 obtain ⟨W1, hW1, hp1, hB1, hs1⟩ := boxed w [.bool m, .slice A l.length c] 24
 obtain ⟨W2, hW2, hp2, hB2, hs2⟩ := boxed W1 [.bool false, .slice none 0 0] 31
 obtain ⟨W3, hW3, hp3, hB3, hs3⟩ := boxed W2 [.bool false, .slice none 0 0] 31
 rw [hs1] at hp2 hs2
 rw [hs2] at hp3 hs3
 have ⟨HX, HY, HO⟩ := Wq ((hp1.below hB2).below hB3) (hp2.below hB3) hp3
 have HB := Wd (hB1.trans ((hB2.mono hB1.size).trans (hB3.mono (Nat.le_trans hB1.size hB2.size)))); have HS := Wd hs3
 clear hp1 hp2 hp3 hB1 hB2 hB3 hs1 hs2 hs3
 subst hW3; subst hW2; subst hW1
 have c0 := HX.out.cell (j := 0) rfl
 go_enter Tryz.func20, Tryz.ntmps20
 go_wp2_with (refine Qc (w.heap.size + 1 + 1) 0 [] [.bool false] [.slice none 0 0] [.bool m] 31 (by rfl) 4 _ _ (by rfl) (by rfl) rfl (by rfl) HO.out rfl (by kernel_rfl) (by intro v hv; rw [List.mem_singleton.1 hv]; rfl) ?_)
 intro w4 hb4 hg4 hs4
 have HB4 := Wd (HB.out.grown hg4 (by have := HB.out.size; omega) (fun j hj => by injection hj with hj; omega))
 have HY4 := Wd (HY.out.grownO hg4 (fun e => by injection e with e; omega))
 have c1 := (HX.out.grownO hg4 (fun e => by injection e with e; omega)).cell (j := 1) rfl
 have HO4 := Wd hb4
 clear hb4 hg4 hs4 c0 HX HY HO HB HS
 go_wp2_with fail
 refine (zaz l hl A c w4 (Kd.C_below HR.out HB4.out) hc).mono ?_
 rintro e w5 ⟨v, F, rfl, hr5, hn5, hf5, hb5⟩
 have ⟨HR5, HN, HF, HB5⟩ := Wj hr5 hn5 hf5 (HB4.out.trans (hb5.mono HB4.out.size))
 have ⟨HO5, HY5, HZ, HB45⟩ := Wj (HO4.out.below hb5) (HY4.out.below hb5) HO4.out.lt hb5
 obtain ⟨B, d, rfl, -⟩ := hr5.slice
 clear hr5 hn5 hf5 hb5 c1
 go_wp2_with (refine Qc (w.heap.size + 1 + 1) 1 [_] [.slice none 0 0] [] [.slice B l.length d] 31 (by rfl) 22 _ _ (by rfl) (by rfl) rfl (by rfl) HO5.out rfl (by kernel_rfl) (by intro v hv; rw [List.mem_singleton.1 hv]; rfl) ?_)
 intro w6 hb6 hg6 hs6
 have HO6 := Wd hb6
 have HB6 := Wd (HB5.out.grown hg6 (by have := HZ.out; have := HB45.out.size; have := HB5.out.size; omega) (fun j hj => by injection hj with hj; omega))
 have HY6 := Wd (HY5.out.grownO hg6 (fun e => by injection e with e; omega))
 have HR6 := Wd (HR5.out.move (fun k hk => hg6.block k (HR5.out.lt k hk) (fun e => by injection e with e; have := HF.out k hk; have := HZ.out; omega)))
 have c0 := hb6.cell (j := 0) rfl; have c1 := hb6.cell (j := 1) rfl
 clear hb6 hg6 hs6
 go_wp2_with (refine Wv (w.heap.size + 1) [.bool m, .slice B l.length d] HY6.out ?_)
 intro w7 hb7 hg7 hs7
 have q0 := hb7.cell (j := 0) rfl; have q1 := hb7.cell (j := 1) rfl
 have HB7 := Wd (HB6.out.grown hg7 (by have := HB6.out.size; have := HY6.out.lt; omega) (fun j hj => by injection hj with hj; omega))
 have HR7 := Wd (HR6.out.move (fun k hk => hg7.block k (HR6.out.lt k hk) (fun e => by injection e with e; have := HF.out k hk; have := HZ.out; omega)))
 clear hb7 hg7 hs7 c0 c1
 go_wp2
 refine bodyPost_ret (v := .agg #[.bool m, .slice B l.length d]) (by simp [results, Tryz.results20, go_sem, q0, q1]) rfl ?_
 exact ⟨_, F, rfl, HR7.out, HN.out, fun k hk => Nat.le_trans HB4.out.size (HF.out k hk), HB7.out⟩
end
theorem Wy (w : World) (x : CoreT) (A3 : Option Addr) (c3 : Nat) (A4 : Option Addr) (c4 : Nat) (A5 : Option Addr) (c5 : Nat) (A6 : Option Addr) (c6 : Nat) (e : TypeId) : ∃ W1, W1 = w.alloc (.cells #[.int .i64 x.kind, .string x.name, .bool x.minus, .slice A3 x.limbs.length c3, .slice A4 x.names.length c4, .slice A5 x.kids.length c5, .slice A6 x.alts.length c6] e) ∧ Blk W1 w.heap.size e [.int .i64 x.kind, .string x.name, .bool x.minus, .slice A3 x.limbs.length c3, .slice A4 x.names.length c4, .slice A5 x.kids.length c5, .slice A6 x.alts.length c6] ∧ Below w.heap.size w W1 ∧ W1.heap.size = w.heap.size + 1 := boxed w _ e
theorem Wh (w : World) (e : TypeId) : ∃ W1, W1 = w.alloc (.cells #[.int .i64 0, .string ⟨#[]⟩, .bool false, .slice none 0 0, .slice none 0 0, .slice none 0 0, .slice none 0 0] e) ∧ Blk W1 w.heap.size e [.int .i64 0, .string ⟨#[]⟩, .bool false, .slice none 0 0, .slice none 0 0, .slice none 0 0, .slice none 0 0] ∧ Below w.heap.size w W1 ∧ W1.heap.size = w.heap.size + 1 := boxed w _ e
end Go.Proofs.YtnoammmohdmnjaaGreat.C13
