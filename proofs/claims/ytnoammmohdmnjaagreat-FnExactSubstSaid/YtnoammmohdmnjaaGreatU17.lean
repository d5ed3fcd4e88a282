import Derived.Test.YtnoammmohdmnjaaGreatU16
set_option maxRecDepth 100000
set_option maxHeartbeats 16000000
set_option linter.unusedVariables false
set_option linter.unusedSimpArgs false
namespace Go.Proofs.YtnoammmohdmnjaaGreat.C13
open Go.RowKit Go.Proofs.YtnoammmohdmnjaaGreatW.PrintWords
open List renaming setIfInBounds_toArray → Jla, set_cons_zero → Jlb, set_cons_succ → Jlc
theorem qwq (x : CoreT) : qcc x.kids ∧ qcb x.alts :=
 Za (fun x => qcc x.kids ∧ qcb x.alts) (fun c hk ha => ⟨qqj c.kids hk, qqi c.alts ha⟩) x
def qsz (x : CoreT) (k : Int) : CoreT := ⟨x.kind, x.name, x.minus, mkU x.limbs k, mkS x.names (k + x.limbs.length), qfc x.kids (k + x.limbs.length + x.names.length), qfb x.alts (k + x.limbs.length + x.names.length + Zr x.kids)⟩
def Kx (x : CoreT) : Nat := x.limbs.length + x.names.length + Zr x.kids + Jv x.alts
theorem But.boxed {F : List Nat} {w W w' : World} (h : But F W w') {cs : List Value} {e : TypeId} (hb : Blk W w.heap.size e cs) (hF : ∀ k ∈ F, k < w.heap.size) : Blk w' w.heap.size e cs := h.blk hb (fun hk => by have := hF _ hk; omega)
theorem qnb (b : Bool) (l : List Int) (v : Value) (F : List Nat) (k : Int) (hk : 1 ≤ k) (hk2 : k + l.length ≤ 1000000000) (w : World) (hr : Row w 106 v l.length (Gz .u32 l) F) :
  Calls Tryz.prog 34 #[.agg #[.bool b, v], .int .i64 k] w fun e w' => e = .returned (.int .i64 (k + l.length)) ∧ Row w' 106 v l.length (Gz .u32 (mkU l k)) F ∧ But F w w' := by
 obtain ⟨B3, d3, rfl, _⟩ := hr.slice
 have HR := Wd hr; clear hr
 have HB := Wd (Zv w (.cells #[.bool b, .slice B3 l.length d3] 31))
 go_enter Tryz.func34, Tryz.ntmps34
 go_wp2_with fail
 refine (qgj l _ F k hk hk2 _ (HR.out.below HB.out)).mono ?_
 rintro e w2 ⟨rfl, h2, b2⟩
 have H2 := Wd h2; have B2 := Wd ((But.of_below (F := F) HB.out).trans b2)
 clear h2 b2
 go_wp2
 go_ret
 exact ⟨rfl, H2.out, B2.out⟩
theorem qai (x : CoreT) (cs : List Value) (F : List Nat) (k : Int) (hk : 1 ≤ k) (hk2 : k + Kx x ≤ 1000000000) (w : World) (ho : Ke 35 76 w x cs F) (hnd : F.Nodup) :
  Calls Tryz.prog 9 #[.agg cs.toArray, .int .i64 k] w fun e w' => e = .returned (.int .i64 (k + Kx x)) ∧ Ke 35 76 w' (qsz x k) cs F ∧ But F w w' := by
 have hlt := Je _ _ _ ho
 rw [Xi] at ho
 obtain ⟨v3, v4, v5, v6, F3, F4, F5, F6, G5, G6, c5, c6, rfl, rfl, hr3, hr4, ⟨hr5, ho5⟩, ⟨hr6, ho6⟩⟩ := ho
 obtain ⟨-, n4, e3⟩ := List.nodup_append.1 hnd
 obtain ⟨-, n5, e4⟩ := List.nodup_append.1 n4
 obtain ⟨n56, n66, e5⟩ := List.nodup_append.1 n5
 simp only [Kx] at hk2 ⊢
 have L3 := Wd (show ∀ k ∈ F3, k < w.heap.size from fun k hk => hlt k (by simp [hk]))
 have L4 := Wd (show ∀ k ∈ F4, k < w.heap.size from fun k hk => hlt k (by simp [hk]))
 have L5 := Wd (show ∀ k ∈ F5 ++ G5, k < w.heap.size from fun k hk => hlt k (by rcases List.mem_append.1 hk with h | h <;> simp [h]))
 have L6 := Wd (show ∀ k ∈ F6 ++ G6, k < w.heap.size from fun k hk => hlt k (by rcases List.mem_append.1 hk with h | h <;> simp [h]))
 have D3_4 : Hid (∀ k ∈ F4, k ∉ F3) := Wd (Xk (A := F3) (B := F4) (fun p hp q hq => e3 p hp q (by simp [hq])))
 have D3_5 : Hid (∀ k ∈ F5 ++ G5, k ∉ F3) := Wd (Xk (A := F3) (B := F5 ++ G5) (fun p hp q hq => e3 p hp q (by rcases List.mem_append.1 hq with h | h <;> simp [h])))
 have D3_6 : Hid (∀ k ∈ F6 ++ G6, k ∉ F3) := Wd (Xk (A := F3) (B := F6 ++ G6) (fun p hp q hq => e3 p hp q (by rcases List.mem_append.1 hq with h | h <;> simp [h])))
 have D4_3 : Hid (∀ k ∈ F3, k ∉ F4) := Wd (Yf (A := F3) (B := F4) (fun p hp q hq => e3 p hp q (by simp [hq])))
 have D4_5 : Hid (∀ k ∈ F5 ++ G5, k ∉ F4) := Wd (Xk (A := F4) (B := F5 ++ G5) (fun p hp q hq => e4 p hp q (by rcases List.mem_append.1 hq with h | h <;> simp [h])))
 have D4_6 : Hid (∀ k ∈ F6 ++ G6, k ∉ F4) := Wd (Xk (A := F4) (B := F6 ++ G6) (fun p hp q hq => e4 p hp q (by rcases List.mem_append.1 hq with h | h <;> simp [h])))
 have D5_3 : Hid (∀ k ∈ F3, k ∉ F5 ++ G5) := Wd (Yf (A := F3) (B := F5 ++ G5) (fun p hp q hq => e3 p hp q (by rcases List.mem_append.1 hq with h | h <;> simp [h])))
 have D5_4 : Hid (∀ k ∈ F4, k ∉ F5 ++ G5) := Wd (Yf (A := F4) (B := F5 ++ G5) (fun p hp q hq => e4 p hp q (by rcases List.mem_append.1 hq with h | h <;> simp [h])))
 have D5_6 : Hid (∀ k ∈ F6 ++ G6, k ∉ F5 ++ G5) := Wd (Xk (A := F5 ++ G5) (B := F6 ++ G6) e5)
 have D6_3 : Hid (∀ k ∈ F3, k ∉ F6 ++ G6) := Wd (Yf (A := F3) (B := F6 ++ G6) (fun p hp q hq => e3 p hp q (by rcases List.mem_append.1 hq with h | h <;> simp [h])))
 have D6_4 : Hid (∀ k ∈ F4, k ∉ F6 ++ G6) := Wd (Yf (A := F4) (B := F6 ++ G6) (fun p hp q hq => e4 p hp q (by rcases List.mem_append.1 hq with h | h <;> simp [h])))
 have D6_5 : Hid (∀ k ∈ F5 ++ G5, k ∉ F6 ++ G6) := Wd (Yf (A := F5 ++ G5) (B := F6 ++ G6) e5)
 have NK5 := Wd n56; have NK6 := Wd n66
 have MALL := Wd (qwq x)
 obtain ⟨B3, d3, rfl, _⟩ := hr3.slice
 obtain ⟨B4, d4, rfl, _⟩ := hr4.slice
 obtain ⟨B5, d5, rfl, _⟩ := hr5.slice
 obtain ⟨B6, d6, rfl, _⟩ := hr6.slice
 obtain ⟨W1, hW1, hp1, hB1, hs1⟩ := Wy w x B3 d3 B4 d4 B5 d5 B6 d6 35
 have BP := Wd hp1; have HW1 := Wd hW1
 have BN := Wd (But.of_below (F := F3 ++ (F4 ++ ((F5 ++ G5) ++ (F6 ++ G6)))) hB1)
 have ⟨R3, R4, R5, R6⟩ := Wj (hr3.below hB1) (hr4.below hB1) (hr5.below hB1) (hr6.below hB1)
 have O5 := Wd (Zs ho5 (fun k hk => hB1.block k (Yn ho5 k hk))); have O6 := Wd (Jd ho6 (fun k hk => hB1.block k (Gr ho6 k hk)))
 have p2 := hp1.cell (j := 2) rfl; have p3 := hp1.cell (j := 3) rfl
 rw [hW1] at p2 p3
 clear hr3 hr4 hr5 hr6 ho5 ho6 hlt hnd n4 n5 n56 n66 e3 e4 e5 hW1 hp1 hB1 hs1
 go_enter Tryz.func9, Tryz.ntmps9
 go_wp2_with fail
 rw [show _ = W1 from HW1.out.symm]
 refine (qnb x.minus x.limbs _ F3 k hk (by omega) _ R3.out).mono ?_
 rintro e w2 ⟨rfl, h2, b2⟩
 clear p2 p3
 have ⟨R3, R4, R5, O5⟩ := Wj h2 (b2.row R4.out D3_4.out) (b2.row R5.out (fun k hk => D3_5.out k (List.mem_append_left _ hk))) (b2.ownCs O5.out (fun k hk => D3_5.out k (List.mem_append_right _ hk)))
 have R6 := Wd (b2.row R6.out (fun k hk => D3_6.out k (List.mem_append_left _ hk))); have O6 := Wd (b2.ownAs O6.out (fun k hk => D3_6.out k (List.mem_append_right _ hk)))
 have BP := Wd (b2.boxed BP.out L3.out)
 have BN := Wd (BN.out.trans (b2.mono (fun k hk => by simp [hk])))
 have p4 := BP.out.cell (j := 4) rfl
 clear h2 b2
 go_wp2_with fail
 refine (qcp x.names _ F4 (k + x.limbs.length) (by omega) (by omega) _ R4.out).mono ?_
 rintro e w3 ⟨rfl, h2, b2⟩
 clear p4
 have ⟨R4, R3, R5, O5⟩ := Wj h2 (b2.row R3.out D4_3.out) (b2.row R5.out (fun k hk => D4_5.out k (List.mem_append_left _ hk))) (b2.ownCs O5.out (fun k hk => D4_5.out k (List.mem_append_right _ hk)))
 have R6 := Wd (b2.row R6.out (fun k hk => D4_6.out k (List.mem_append_left _ hk))); have O6 := Wd (b2.ownAs O6.out (fun k hk => D4_6.out k (List.mem_append_right _ hk)))
 have BP := Wd (b2.boxed BP.out L4.out)
 have BN := Wd (BN.out.trans (b2.mono (fun k hk => by simp [hk])))
 have p5 := BP.out.cell (j := 5) rfl
 clear h2 b2
 go_wp2_with fail
 refine (MALL.out.1 _ c5 F5 G5 (k + x.limbs.length + x.names.length) _ (by omega) (by omega) R5.out O5.out NK5.out).mono ?_
 rintro e w4 ⟨rfl, ⟨c5', h2, h2'⟩, b2⟩
 clear p5
 have ⟨R5, O5, R3, R4⟩ := Wj h2 h2' (b2.row R3.out D5_3.out) (b2.row R4.out D5_4.out)
 have R6 := Wd (b2.row R6.out (fun k hk => D5_6.out k (List.mem_append_left _ hk))); have O6 := Wd (b2.ownAs O6.out (fun k hk => D5_6.out k (List.mem_append_right _ hk)))
 have BP := Wd (b2.boxed BP.out L5.out)
 have BN := Wd (BN.out.trans (b2.mono (fun k hk => by rcases List.mem_append.1 hk with h | h <;> simp [h])))
 have p6 := BP.out.cell (j := 6) rfl
 clear h2 h2' b2
 go_wp2_with fail
 refine (MALL.out.2 _ c6 F6 G6 (k + x.limbs.length + x.names.length + Zr x.kids) _ (by omega) (by omega) R6.out O6.out NK6.out).mono ?_
 rintro e w5 ⟨rfl, ⟨c6', h2, h2'⟩, b2⟩
 clear p6
 have ⟨R6, O6, R3, R4⟩ := Wj h2 h2' (b2.row R3.out D6_3.out) (b2.row R4.out D6_4.out)
 have R5 := Wd (b2.row R5.out (fun k hk => D6_5.out k (List.mem_append_left _ hk))); have O5 := Wd (b2.ownCs O5.out (fun k hk => D6_5.out k (List.mem_append_right _ hk)))
 have BN := Wd (BN.out.trans (b2.mono (fun k hk => by rcases List.mem_append.1 hk with h | h <;> simp [h])))
 clear h2 h2' b2
 go_wp2
 go_ret
 refine ⟨?_, ?_, BN.out⟩
 ·exact congrArg (fun z => Ending.returned (Value.int .i64 z)) (by omega)
 ·rw [Xi]
  refine ⟨_, _, _, _, F3, F4, F5, F6, G5, G6, c5', c6', rfl, rfl, ?_, ?_, ⟨?_, O5.out⟩, ⟨?_, O6.out⟩⟩
  ·show Row _ _ _ (mkU _ _).length _ _; rw [Hn]; exact R3.out
  ·show Row _ _ _ (mkS _ _).length _ _; rw [Ul]; exact R4.out
  ·exact f106
  ·exact f107
theorem zan (l : List Int) (k : Int) (j : Nat) (h : j < (mkU l k).length) : (mkU l k)[j] = k + j := by
 induction l generalizing k j with
 | nil => simp [mkU] at h
 | cons a r ih =>
  cases j with
  | zero => simp [mkU]
  | succ j =>
   simp only [mkU, List.getElem_cons_succ]
   rw [ih]; omega
theorem zam (l : List ByteArray) (k : Int) (j : Nat) (h : j < (mkS l k).length) : (mkS l k)[j] = Zx (k + j) := by
 induction l generalizing k j with
 | nil => simp [mkS] at h
 | cons a r ih =>
  cases j with
  | zero => simp [mkS]
  | succ j =>
   simp only [mkS, List.getElem_cons_succ]
   rw [ih]; congr 1; omega
theorem qgd (l : List Int) (k : Int) (hk : 1 ≤ k) (hk2 : k + l.length ≤ 1000000000) (A : Option Addr) (c : Nat) (w : World) (hC : (Kd.int .u32).C w A l.length (mkU l k)) (hc : l.length ≤ c) :
  Calls Tryz.prog 67 #[.slice A l.length c, .int .i64 k] w fun e w' => e = .returned (.int .i64 (k + l.length)) ∧ Below w.heap.size w w' := by
 have HC := Wd hC; clear hC
 go_enter Tryz.func67, Tryz.ntmps67
 go_wp2_with fail
 go_loop [1, 5] (fun s1 s5 => ∃ j : Nat, j ≤ l.length ∧ s1 = .int .i64 (k + (j : Int)) ∧ s5 = .int .i64 j) (fun _ s5 => l.length - (intOf s5).toNat)
 case atStart => exact ⟨0, Nat.zero_le _, by simp, rfl⟩
 case round =>
  obtain ⟨j, hj, rfl, rfl⟩ := hrel
  by_cases hlt : j < l.length
  ·have hlt2 : j < (mkU l k).length := by rw [Hn]; exact hlt
   obtain ⟨ad, rfl, g0⟩ := qbb HC.out j hlt2
   rw [zan] at g0
   go_wp2
   go_round
   case rel => exact ⟨j + 1, by omega, by go_num, by go_num⟩
   case measure => simp [intOf]; omega
  ·have hjl : j = l.length := by omega
   subst hjl
   go_wp2
   go_ret
   exact ⟨rfl, Below.refl _ _⟩
theorem qco (l : List ByteArray) (k : Int) (hk : 1 ≤ k) (hk2 : k + l.length ≤ 1000000000) (A : Option Addr) (c : Nat) (w : World) (hC : Kd.string.C w A l.length (mkS l k)) (hc : l.length ≤ c) :
  Calls Tryz.prog 39 #[.slice A l.length c, .int .i64 k] w fun e w' => e = .returned (.int .i64 (k + l.length)) ∧ Below w.heap.size w w' := by
 have HC := Wd hC; clear hC
 go_enter Tryz.func39, Tryz.ntmps39
 go_wp2_with fail
 go_loopw [1, 5] (fun s1 s5 wr => ∃ j : Nat, j ≤ l.length ∧ s1 = .int .i64 (k + (j : Int)) ∧ s5 = .int .i64 j ∧ Hid (Below w.heap.size w wr)) (fun _ s5 _ => l.length - (intOf s5).toNat)
 case atStart => exact ⟨0, Nat.zero_le _, by simp, rfl, Wd (Below.refl _ _)⟩
 case round =>
  obtain ⟨j, hj, rfl, rfl, HB⟩ := hrel
  by_cases hlt : j < l.length
  ·have hlt2 : j < (mkS l k).length := by rw [Ul]; exact hlt
   obtain ⟨ad, rfl, g0⟩ := Xy HC.out j hlt2
   rw [zam] at g0
   have KEEP : Hid (∀ w', Below w.heap.size w w' → w'.cell? (ad.add j) = some (.string (Zx (k + (j : Int))))) := Wd (fun w' hb => Cl hb g0)
   have HBd := Wd (Zn HB.out)
   have hb0 : Below w.heap.size w wr.drew := HBd.out
   clear g0
   have g1 := KEEP.out _ HB.out
   go_wp2_with fail
   go_region_held3 (fun w' => w'.cell? (ad.add j) = some (.string (Zx (k + (j : Int))))) (first | exact KEEP.out _ hb2 | exact KEEP.out _ hb0)
    (first
     | (go_at_call 66; refine (Kg (k + (j : Int)) (by omega) (by omega) _).mono ?_; rintro e w2 ⟨rfl, hb⟩; have hb2 := Below.step hb0 hb))
   all_goals
    rename_i hheld
    have HB2 := Wd hb2
    clear hheld hb2 hb hb0 g1
    go_wp2
    go_roundw
    case rel => exact ⟨j + 1, by omega, by go_num, by go_num, HB2⟩
    case measure => simp [intOf]; omega
  ·have hjl : j = l.length := by omega
   subst hjl
   go_wp2
   go_ret
   exact ⟨rfl, HB.out⟩
theorem qws (l : List CoreT) (k : Int) (j : Nat) (h : j < (qfc l k).length) (h2 : j < l.length) : (qfc l k)[j] = qyy l[j] (k + (Zr (l.take j) : Nat)) := by
 induction l generalizing k j with
 | nil => simp at h2
 | cons a r ih =>
  cases j with
  | zero => simp [qfc, Zr]
  | succ j =>
   simp only [qfc, List.getElem_cons_succ, List.take_succ_cons, Zr]
   rw [ih]
   ·congr 1; omega
   ·simpa using h2
theorem qwr (l : List AltT) (k : Int) (j : Nat) (h : j < (qfb l k).length) (h2 : j < l.length) : (qfb l k)[j] = mkA l[j] (k + (Jv (l.take j) : Nat)) := by
 induction l generalizing k j with
 | nil => simp at h2
 | cons a r ih =>
  cases j with
  | zero => simp [qfb, Jv]
  | succ j =>
   simp only [qfb, List.getElem_cons_succ, List.take_succ_cons, Jv]
   rw [ih]
   ·congr 1; omega
   ·simpa using h2
def Gj (xs : List CoreT) : Prop := ∀ (A : Option Addr) (c : Nat) (k : Int) (w : World), 1 ≤ k → k + Zr xs ≤ 1000000000 → IC.C w A xs.length (qfc xs k) → xs.length ≤ c →
 Calls Tryz.prog 40 #[.slice A xs.length c, .int .i64 k] w fun e w' => e = .returned (.int .i64 (k + Zr xs)) ∧ Below w.heap.size w w'
def Gh (xs : List AltT) : Prop := ∀ (A : Option Addr) (c : Nat) (k : Int) (w : World), 1 ≤ k → k + Jv xs ≤ 1000000000 → IA.C w A xs.length (qfb xs k) → xs.length ≤ c →
 Calls Tryz.prog 41 #[.slice A xs.length c, .int .i64 k] w fun e w' => e = .returned (.int .i64 (k + Jv xs)) ∧ Below w.heap.size w w'
theorem f89 {p : Prop} (h : p := by
 have HEND := Wd hend; clear hend
 go_wp2
 go_roundw
 case rel => exact ⟨j + 1, by omega, by rw [← HEND.out], by go_num, HB⟩
 case measure => simp [intOf]; omega) : p := h
theorem f117 {p : Prop} (h : p := by
 have hjl : j = xs.length := by omega
 subst hjl
 rw [List.take_length]
 go_wp2
 go_ret
 exact ⟨rfl, HB.out⟩) : p := h
theorem qqb (xs : List CoreT) (ih : ∀ x ∈ xs, Gj x.kids ∧ Gh x.alts) : Gj xs := by
 intro A c k w hk hk2 hC hc
 have ⟨HC, IH, HK2⟩ := Wq hC ih hk2
 have hlc := hC.2.1
 clear hC ih
 go_enter Tryz.func40, Tryz.ntmps40
 go_wp2_with fail
 go_loopw [1, 5] (fun s1 s5 wr => ∃ j : Nat, j ≤ xs.length ∧ s1 = .int .i64 (k + (Zr (xs.take j) : Nat)) ∧ s5 = .int .i64 j ∧ Hid (Below w.heap.size w wr)) (fun _ s5 _ => xs.length - (intOf s5).toNat)
 case atStart => exact ⟨0, Nat.zero_le _, by simp [Zr], rfl, Wd (Below.refl _ _)⟩
 case round =>
  obtain ⟨j, hj, rfl, rfl, HB⟩ := hrel
  by_cases hlt : j < xs.length
  ·have hlt2 : j < (qfc xs k).length := by rw [qcs]; exact hlt
   obtain ⟨ad, A3, c3, A4, c4, A5, c5, A6, c6, rfl, hK, g0, g1, g2, g3, g4, g5, g6⟩ := Ko HC.out j hlt2
   obtain ⟨_, _, _, _, _, _, _, _, he, l3, h3, l4, h4, l5, h5, l6, h6⟩ := Qk hK
   simp only [Qb, List.cons.injEq, Value.slice.injEq, true_and, and_true] at he
   obtain ⟨⟨rfl, rfl⟩, ⟨rfl, rfl⟩, ⟨rfl, rfl⟩, ⟨rfl, rfl⟩⟩ := he
   clear hK
   have hcnt : (xs.take (j + 1)) = xs.take j ++ [xs[j]] := Qf hlt
   have hck := qhu xs (j + 1)
   rw [hcnt, qba, Ga] at hck
   have HIX := Wd (IH.out _ (List.getElem_mem hlt))
   have HTAKE := Wd hcnt
   clear hcnt
   have hget := qws xs k j hlt2 hlt
   obtain ⟨kk, hkk⟩ : ∃ kk : Int, kk = k + (Zr (xs.take j) : Nat) := ⟨_, rfl⟩
   rw [← hkk] at hget ⊢
   have hkk1 : 1 ≤ kk := by omega
   have hkk2 : kk + (3 + xs[j].limbs.length + xs[j].names.length + Zr xs[j].kids + Jv xs[j].alts : Nat) ≤ 1000000000 := by have := HK2.out; omega
   have HKK := Wd hkk; clear hkk hck
   rw [hget, qjm] at g0 g1 g2 g3 g4 g5 g6 h3 h4 h5 h6 l3 l4 l5 l6
   simp only [Hn, Ul, qcs, qcr] at g0 g1 g2 g3 g4 g5 g6 h3 h4 h5 h6 l3 l4 l5 l6
   simp only [show kk + 2 = kk + 1 + 1 by omega, show kk + 3 = kk + 1 + 1 + 1 by omega] at g2 h3 h4 h5 h6
   have H3 := Wd h3; clear h3
   have H4 := Wd h4; clear h4
   have H5 := Wd h5; clear h5
   have H6 := Wd h6; clear h6
   have Qg0 := Wd g0
   have Qg1 := Wd g1
   have Qg2 := Wd g2
   have Qg3 := Wd g3
   have Qg4 := Wd g4
   have Qg5 := Wd g5
   have Qg6 := Wd g6
   clear g0 g1 g2 g3 g4 g5 g6
   have g0 := Cl HB.out Qg0.out
   have KEEP1 : Hid (∀ w', Below w.heap.size w w' → w'.cell? ⟨(ad.add (j * 7)).block, (ad.add (j * 7)).off + 1, none⟩ = some (.string (Zx (kk + 1)))) := Wd (fun w' hb => Cl hb Qg1.out)
   have g1 := Cl HB.out Qg1.out
   go_wp2_with fail
   have hb0 := Zn HB.out
   go_region_held3 (fun w' => w'.cell? ⟨(ad.add (j * 7)).block, (ad.add (j * 7)).off + 1, none⟩ = some (.string (Zx (kk + 1)))) (first | exact KEEP1.out _ hb2 | exact KEEP1.out _ hb0)
    (first
     | (go_at_call 66; refine (Kg (kk + 1) (by omega) (by omega) _).mono ?_; rintro e w1 ⟨rfl, hb⟩; have hb2 := Below.step hb0 hb))
   all_goals
    rename_i hheld
    have HB := Wd hb2
    clear hheld hb2 hb hb0 g1
    have g2 := Cl HB.out Qg2.out
    have g3 := Cl HB.out Qg3.out
    go_wp2_with fail
    clear g3
    refine (qgd xs[j].limbs (kk + 1 + 1 + 1) (by omega) (by omega) _ _ _ (Kd.C_below H3.out HB.out) l3).mono ?_
    rintro e w2 ⟨rfl, hb⟩
    have HB := Wd (Below.step HB.out hb)
    clear hb
    have hp2 : decide (kk + 1 + 1 + 1 + (xs[j].limbs.length : Int) < 0) = false := decide_eq_false (by omega)
    have hq2 : ¬ (kk + 1 + 1 + 1 + (xs[j].limbs.length : Int) < 0) := by omega
    have g4 := Cl HB.out Qg4.out
    go_wp2_with fail
    clear g4
    refine (qco xs[j].names (kk + 1 + 1 + 1 + (xs[j].limbs.length : Int)) (by omega) (by omega) _ _ _ (Kd.C_below H4.out HB.out) l4).mono ?_
    rintro e w3 ⟨rfl, hb⟩
    have HB := Wd (Below.step HB.out hb)
    clear hb
    have hp3 : decide (kk + 1 + 1 + 1 + (xs[j].limbs.length : Int) + (xs[j].names.length : Int) < 0) = false := decide_eq_false (by omega)
    have hq3 : ¬ (kk + 1 + 1 + 1 + (xs[j].limbs.length : Int) + (xs[j].names.length : Int) < 0) := by omega
    have g5 := Cl HB.out Qg5.out
    go_wp2_with fail
    clear g5
    refine (HIX.out.1 _ _ (kk + 1 + 1 + 1 + (xs[j].limbs.length : Int) + (xs[j].names.length : Int)) _ (by omega) (by omega) (Kd.C_below H5.out HB.out) l5).mono ?_
    rintro e w4 ⟨rfl, hb⟩
    have HB := Wd (Below.step HB.out hb)
    clear hb
    have hp4 : decide (kk + 1 + 1 + 1 + (xs[j].limbs.length : Int) + (xs[j].names.length : Int) + (Zr xs[j].kids : Int) < 0) = false := decide_eq_false (by omega)
    have hq4 : ¬ (kk + 1 + 1 + 1 + (xs[j].limbs.length : Int) + (xs[j].names.length : Int) + (Zr xs[j].kids : Int) < 0) := by omega
    have g6 := Cl HB.out Qg6.out
    go_wp2_with fail
    clear g6
    refine (HIX.out.2 _ _ (kk + 1 + 1 + 1 + (xs[j].limbs.length : Int) + (xs[j].names.length : Int) + (Zr xs[j].kids : Int)) _ (by omega) (by omega) (Kd.C_below H6.out HB.out) l6).mono ?_
    rintro e w5 ⟨rfl, hb⟩
    have HB := Wd (Below.step HB.out hb)
    clear hb
    have hp5 : decide (kk + 1 + 1 + 1 + (xs[j].limbs.length : Int) + (xs[j].names.length : Int) + (Zr xs[j].kids : Int) + (Jv xs[j].alts : Int) < 0) = false := decide_eq_false (by omega)
    have hq5 : ¬ (kk + 1 + 1 + 1 + (xs[j].limbs.length : Int) + (xs[j].names.length : Int) + (Zr xs[j].kids : Int) + (Jv xs[j].alts : Int) < 0) := by omega
    have hend : kk + 1 + 1 + 1 + (xs[j].limbs.length : Int) + (xs[j].names.length : Int) + (Zr xs[j].kids : Int) + (Jv xs[j].alts : Int) = k + (Zr (xs.take (j + 1)) : Nat) := by rw [HTAKE.out, qba, Ga]; have := HKK.out; omega
    exact f89
  ·exact f117
theorem qqa (xs : List AltT) (ih : ∀ x ∈ xs, Gj x.body.kids ∧ Gh x.body.alts) : Gh xs := by
 intro A c k w hk hk2 hC hc
 have ⟨HC, IH, HK2⟩ := Wq hC ih hk2
 have hlc := hC.2.1
 clear hC ih
 go_enter Tryz.func41, Tryz.ntmps41
 go_wp2_with fail
 go_loopw [1, 5] (fun s1 s5 wr => ∃ j : Nat, j ≤ xs.length ∧ s1 = .int .i64 (k + (Jv (xs.take j) : Nat)) ∧ s5 = .int .i64 j ∧ Hid (Below w.heap.size w wr)) (fun _ s5 _ => xs.length - (intOf s5).toNat)
 case atStart => exact ⟨0, Nat.zero_le _, by simp [Jv], rfl, Wd (Below.refl _ _)⟩
 case round =>
  obtain ⟨j, hj, rfl, rfl, HB⟩ := hrel
  by_cases hlt : j < xs.length
  ·have hlt2 : j < (qfb xs k).length := by rw [qcr]; exact hlt
   obtain ⟨ad, A1, c1, A3, c3, A4, c4, A5, c5, A6, c6, rfl, -, hK, l1, h1, a0, a1, g0, g1, g2, g3, g4, g5, g6⟩ := Xn HC.out j hlt2
   obtain ⟨_, _, _, _, _, _, _, _, he, l3, h3, l4, h4, l5, h5, l6, h6⟩ := Qk hK
   simp only [Qb, List.cons.injEq, Value.slice.injEq, true_and, and_true] at he
   obtain ⟨⟨rfl, rfl⟩, ⟨rfl, rfl⟩, ⟨rfl, rfl⟩, ⟨rfl, rfl⟩⟩ := he
   clear hK
   have hcnt : (xs.take (j + 1)) = xs.take j ++ [xs[j]] := Qf hlt
   have hck := qht xs (j + 1)
   rw [hcnt, qaz, qfu, Ga] at hck
   have HIX := Wd (IH.out _ (List.getElem_mem hlt))
   have HTAKE := Wd hcnt
   clear hcnt
   have hget := qwr xs k j hlt2 hlt
   obtain ⟨kk, hkk⟩ : ∃ kk : Int, kk = k + (Jv (xs.take j) : Nat) := ⟨_, rfl⟩
   rw [← hkk] at hget ⊢
   have hkk1 : 1 ≤ kk := by omega
   have hkk2 : kk + (1 + xs[j].names.length + (3 + xs[j].body.limbs.length + xs[j].body.names.length + Zr xs[j].body.kids + Jv xs[j].body.alts) : Nat) ≤ 1000000000 := by have := HK2.out; omega
   have HKK := Wd hkk; clear hkk hck
   rw [hget, qyx] at a0 a1 h1 l1 g0 g1 g2 g3 g4 g5 g6 h3 h4 h5 h6 l3 l4 l5 l6
   simp only [Ul, qjm] at a0 a1 h1 l1 g0 g1 g2 g3 g4 g5 g6 h3 h4 h5 h6 l3 l4 l5 l6
   simp only [Hn, Ul, qcs, qcr] at a0 a1 h1 l1 g0 g1 g2 g3 g4 g5 g6 h3 h4 h5 h6 l3 l4 l5 l6
   simp only [show (kk + 1 + (xs[j].names.length : Int)) + 2 = kk + 1 + (xs[j].names.length : Int) + 1 + 1 by omega, show (kk + 1 + (xs[j].names.length : Int)) + 3 = kk + 1 + (xs[j].names.length : Int) + 1 + 1 + 1 by omega] at g2 h3 h4 h5 h6
   have H1 := Wd h1; clear h1
   have H3 := Wd h3; clear h3
   have H4 := Wd h4; clear h4
   have H5 := Wd h5; clear h5
   have H6 := Wd h6; clear h6
   have Qa0 := Wd a0
   have Qa1 := Wd a1
   have Qg0 := Wd g0
   have Qg1 := Wd g1
   have Qg2 := Wd g2
   have Qg3 := Wd g3
   have Qg4 := Wd g4
   have Qg5 := Wd g5
   have Qg6 := Wd g6
   clear a0 a1 g0 g1 g2 g3 g4 g5 g6
   have KEEP1 : Hid (∀ w', Below w.heap.size w w' → w'.cell? (ad.add (j * 9)) = some (.string (Zx (kk)))) := Wd (fun w' hb => Cl hb Qa0.out)
   have a0 := Cl HB.out Qa0.out
   go_wp2_with fail
   have hb0 := Zn HB.out
   go_region_held3 (fun w' => w'.cell? (ad.add (j * 9)) = some (.string (Zx (kk)))) (first | exact KEEP1.out _ hb2 | exact KEEP1.out _ hb0)
    (first
     | (go_at_call 66; refine (Kg (kk) (by omega) (by omega) _).mono ?_; rintro e w1 ⟨rfl, hb⟩; have hb2 := Below.step hb0 hb))
   all_goals
    rename_i hheld
    have HB := Wd hb2
    clear hheld hb2 hb hb0 a0
    have a1 := Cl HB.out Qa1.out
    go_wp2_with fail
    clear a1
    refine (qco xs[j].names (kk + 1) (by omega) (by omega) _ _ _ (Kd.C_below H1.out HB.out) l1).mono ?_
    rintro e w2 ⟨rfl, hb⟩
    have HB := Wd (Below.step HB.out hb)
    clear hb
    have hp2 : decide (kk + 1 + (xs[j].names.length : Int) < 0) = false := decide_eq_false (by omega)
    have hq2 : ¬ (kk + 1 + (xs[j].names.length : Int) < 0) := by omega
    have g0 := Cl HB.out Qg0.out
    have KEEP3 : Hid (∀ w', Below w.heap.size w w' → w'.cell? ⟨(ad.add (j * 9)).block, (ad.add (j * 9)).off + 3, none⟩ = some (.string (Zx (kk + 1 + (xs[j].names.length : Int) + 1)))) := Wd (fun w' hb => Cl hb Qg1.out)
    have g1 := Cl HB.out Qg1.out
    go_wp2_with fail
    have hb0 := Zn HB.out
    go_region_held3 (fun w' => w'.cell? ⟨(ad.add (j * 9)).block, (ad.add (j * 9)).off + 3, none⟩ = some (.string (Zx (kk + 1 + (xs[j].names.length : Int) + 1)))) (first | exact KEEP3.out _ hb2 | exact KEEP3.out _ hb0)
     (first
      | (go_at_call 66; refine (Kg (kk + 1 + (xs[j].names.length : Int) + 1) (by omega) (by omega) _).mono ?_; rintro e w3 ⟨rfl, hb⟩; have hb2 := Below.step hb0 hb))
    all_goals
     rename_i hheld
     have HB := Wd hb2
     clear hheld hb2 hb hb0 g1
     have g2 := Cl HB.out Qg2.out
     have g3 := Cl HB.out Qg3.out
     go_wp2_with fail
     clear g3
     refine (qgd xs[j].body.limbs (kk + 1 + (xs[j].names.length : Int) + 1 + 1 + 1) (by omega) (by omega) _ _ _ (Kd.C_below H3.out HB.out) l3).mono ?_
     rintro e w4 ⟨rfl, hb⟩
     have HB := Wd (Below.step HB.out hb)
     clear hb
     have hp4 : decide (kk + 1 + (xs[j].names.length : Int) + 1 + 1 + 1 + (xs[j].body.limbs.length : Int) < 0) = false := decide_eq_false (by omega)
     have hq4 : ¬ (kk + 1 + (xs[j].names.length : Int) + 1 + 1 + 1 + (xs[j].body.limbs.length : Int) < 0) := by omega
     have g4 := Cl HB.out Qg4.out
     go_wp2_with fail
     clear g4
     refine (qco xs[j].body.names (kk + 1 + (xs[j].names.length : Int) + 1 + 1 + 1 + (xs[j].body.limbs.length : Int)) (by omega) (by omega) _ _ _ (Kd.C_below H4.out HB.out) l4).mono ?_
     rintro e w5 ⟨rfl, hb⟩
     have HB := Wd (Below.step HB.out hb)
     clear hb
     have hp5 : decide (kk + 1 + (xs[j].names.length : Int) + 1 + 1 + 1 + (xs[j].body.limbs.length : Int) + (xs[j].body.names.length : Int) < 0) = false := decide_eq_false (by omega)
     have hq5 : ¬ (kk + 1 + (xs[j].names.length : Int) + 1 + 1 + 1 + (xs[j].body.limbs.length : Int) + (xs[j].body.names.length : Int) < 0) := by omega
     have g5 := Cl HB.out Qg5.out
     go_wp2_with fail
     clear g5
     refine (HIX.out.1 _ _ (kk + 1 + (xs[j].names.length : Int) + 1 + 1 + 1 + (xs[j].body.limbs.length : Int) + (xs[j].body.names.length : Int)) _ (by omega) (by omega) (Kd.C_below H5.out HB.out) l5).mono ?_
     rintro e w6 ⟨rfl, hb⟩
     have HB := Wd (Below.step HB.out hb)
     clear hb
     have hp6 : decide (kk + 1 + (xs[j].names.length : Int) + 1 + 1 + 1 + (xs[j].body.limbs.length : Int) + (xs[j].body.names.length : Int) + (Zr xs[j].body.kids : Int) < 0) = false := decide_eq_false (by omega)
     have hq6 : ¬ (kk + 1 + (xs[j].names.length : Int) + 1 + 1 + 1 + (xs[j].body.limbs.length : Int) + (xs[j].body.names.length : Int) + (Zr xs[j].body.kids : Int) < 0) := by omega
     have g6 := Cl HB.out Qg6.out
     go_wp2_with fail
     clear g6
     refine (HIX.out.2 _ _ (kk + 1 + (xs[j].names.length : Int) + 1 + 1 + 1 + (xs[j].body.limbs.length : Int) + (xs[j].body.names.length : Int) + (Zr xs[j].body.kids : Int)) _ (by omega) (by omega) (Kd.C_below H6.out HB.out) l6).mono ?_
     rintro e w7 ⟨rfl, hb⟩
     have HB := Wd (Below.step HB.out hb)
     clear hb
     have hp7 : decide (kk + 1 + (xs[j].names.length : Int) + 1 + 1 + 1 + (xs[j].body.limbs.length : Int) + (xs[j].body.names.length : Int) + (Zr xs[j].body.kids : Int) + (Jv xs[j].body.alts : Int) < 0) = false := decide_eq_false (by omega)
     have hq7 : ¬ (kk + 1 + (xs[j].names.length : Int) + 1 + 1 + 1 + (xs[j].body.limbs.length : Int) + (xs[j].body.names.length : Int) + (Zr xs[j].body.kids : Int) + (Jv xs[j].body.alts : Int) < 0) := by omega
     have hend : kk + 1 + (xs[j].names.length : Int) + 1 + 1 + 1 + (xs[j].body.limbs.length : Int) + (xs[j].body.names.length : Int) + (Zr xs[j].body.kids : Int) + (Jv xs[j].body.alts : Int) = k + (Jv (xs.take (j + 1)) : Nat) := by rw [HTAKE.out, qaz, qfu, Ga]; have := HKK.out; omega
     exact f89
  ·exact f117
theorem qwl (x : CoreT) : Gj x.kids ∧ Gh x.alts :=
 Za (fun x => Gj x.kids ∧ Gh x.alts) (fun c hk ha => ⟨qqb c.kids hk, qqa c.alts ha⟩) x
theorem qmv (b : Bool) (l : List Int) (k : Int) (hk : 1 ≤ k) (hk2 : k + l.length ≤ 1000000000) (A : Option Addr) (c : Nat) (w : World) (hC : (Kd.int .u32).C w A l.length (mkU l k)) (hc : l.length ≤ c) :
  Calls Tryz.prog 38 #[.agg #[.bool b, .slice A l.length c], .int .i64 k] w fun e w' => e = .returned (.int .i64 (k + l.length)) ∧ Below w.heap.size w w' := by
 have HC := Wd hC; clear hC
 have HB := Wd (Zv w (.cells #[.bool b, .slice A l.length c] 31))
 go_enter Tryz.func38, Tryz.ntmps38
 go_wp2_with fail
 refine (qgd l k hk hk2 A c _ (Kd.C_below HC.out HB.out) hc).mono ?_
 rintro e w2 ⟨rfl, hb2⟩
 have HB2 := Wd (Below.step HB.out hb2)
 have hp : decide (k + (l.length : Int) < 0) = false := decide_eq_false (by omega)
 have hq : ¬ (k + (l.length : Int) < 0) := by omega
 clear hb2
 go_wp2
 go_ret
 exact ⟨rfl, HB2.out⟩
theorem qed (x : CoreT) (cs : List Value) (k : Int) (hk : 1 ≤ k) (hk2 : k + Kx x ≤ 1000000000) (w : World) (hK : IC.K w (qsz x k) cs) :
  Calls Tryz.prog 10 #[.agg cs.toArray, .int .i64 k] w fun e w' => e = .returned (.int .i64 (k + Kx x)) ∧ Below w.heap.size w w' := by
 obtain ⟨A3, c3, A4, c4, A5, c5, A6, c6, rfl, l3, h3, l4, h4, l5, h5, l6, h6⟩ := Qk hK
 simp only [Kx] at hk2 ⊢
 simp only [qsz, Qb, Hn, Ul, qcs, qcr] at *
 have HALL := Wd (qwl x)
 have ⟨H3, H4, H5, H6⟩ := Wj h3 h4 h5 h6
 clear h3 h4 h5 h6 hK
 obtain ⟨W1, hW1, hp1, hB1, hs1⟩ := Wy w x A3 c3 A4 c4 A5 c5 A6 c6 35
 have ⟨BP, HW1, HB⟩ := Wq hp1 hW1 hB1
 have p2 := hp1.cell (j := 2) rfl; have p3 := hp1.cell (j := 3) rfl
 rw [hW1] at p2 p3
 clear hW1 hp1 hB1 hs1
 go_enter Tryz.func10, Tryz.ntmps10
 go_wp2_with fail
 rw [show _ = W1 from HW1.out.symm]
 refine (qmv x.minus x.limbs k hk (by omega) _ _ _ (Kd.C_below H3.out HB.out) l3).mono ?_
 rintro e w2 ⟨rfl, hb⟩
 clear p2 p3
 have BP := Wd (BP.out.below hb); have HB := Wd (Below.step HB.out hb); clear hb
 have p4 := BP.out.cell (j := 4) rfl
 have hp : decide (k + (x.limbs.length : Int) < 0) = false := decide_eq_false (by omega)
 have hq : ¬ (k + (x.limbs.length : Int) < 0) := by omega
 go_wp2_with fail
 refine (qco x.names (k + x.limbs.length) (by omega) (by omega) _ _ _ (Kd.C_below H4.out HB.out) l4).mono ?_
 rintro e w3 ⟨rfl, hb⟩
 clear p4
 have BP := Wd (BP.out.below hb); have HB := Wd (Below.step HB.out hb); clear hb
 have p5 := BP.out.cell (j := 5) rfl
 have hp2 : decide (k + (x.limbs.length : Int) + (x.names.length : Int) < 0) = false := decide_eq_false (by omega)
 have hq2 : ¬ (k + (x.limbs.length : Int) + (x.names.length : Int) < 0) := by omega
 go_wp2_with fail
 refine (HALL.out.1 _ _ (k + x.limbs.length + x.names.length) _ (by omega) (by omega) (Kd.C_below H5.out HB.out) l5).mono ?_
 rintro e w4 ⟨rfl, hb⟩
 clear p5
 have BP := Wd (BP.out.below hb); have HB := Wd (Below.step HB.out hb); clear hb
 have p6 := BP.out.cell (j := 6) rfl
 have hp3 : decide (k + (x.limbs.length : Int) + (x.names.length : Int) + (Zr x.kids : Int) < 0) = false := decide_eq_false (by omega)
 have hq3 : ¬ (k + (x.limbs.length : Int) + (x.names.length : Int) + (Zr x.kids : Int) < 0) := by omega
 go_wp2_with fail
 refine (HALL.out.2 _ _ (k + x.limbs.length + x.names.length + Zr x.kids) _ (by omega) (by omega) (Kd.C_below H6.out HB.out) l6).mono ?_
 rintro e w5 ⟨rfl, hb⟩
 clear p6
 have HB := Wd (Below.step HB.out hb); clear hb
 have hp4 : decide (k + (x.limbs.length : Int) + (x.names.length : Int) + (Zr x.kids : Int) + (Jv x.alts : Int) < 0) = false := decide_eq_false (by omega)
 have hq4 : ¬ (k + (x.limbs.length : Int) + (x.names.length : Int) + (Zr x.kids : Int) + (Jv x.alts : Int) < 0) := by omega
 go_wp2
 go_ret
 exact ⟨congrArg (fun z => Ending.returned (Value.int .i64 z)) (by omega), HB.out⟩
theorem qvv (x : CoreT) : qoj x ≤ 3 + 4 * bulk x := by
 refine Za (fun x => qoj x ≤ 3 + 4 * bulk x) (fun c hk ha => ?_) x
 rw [Ga, Qg]
 have h1 : Zr c.kids ≤ 4 * Qo c.kids := by
  have : ∀ l : List CoreT, (∀ y ∈ l, qoj y ≤ 3 + 4 * bulk y) → Zr l ≤ 4 * Qo l := by
   intro l
   induction l with
   | nil => intro _; simp [Zr, Qo]
   | cons a r ih =>
    intro h
    rw [Zr, Qo]
    have := h a (by simp)
    have := ih (fun y hy => h y (by simp [hy]))
    omega
  exact this _ hk
 have h2 : Jv c.alts ≤ 4 * Qq c.alts := by
  have : ∀ l : List AltT, (∀ y ∈ l, qoj y.body ≤ 3 + 4 * bulk y.body) → Jv l ≤ 4 * Qq l := by
   intro l
   induction l with
   | nil => intro _; simp [Jv, Qq]
   | cons a r ih =>
    intro h
    rw [Jv, Qq, qfu, Zo]
    have := h a (by simp)
    have := ih (fun y hy => h y (by simp [hy]))
    have := Qn a.names
    omega
  exact this _ ha
 have := Qn c.names
 omega
theorem qbt (x : CoreT) : Kx x ≤ 4 * bulk x := by
 have h := qvv x
 rw [Ga] at h
 unfold Kx
 omega
theorem qwo : (Tryz.prog.info? 106).map (fun i => (i.zero, i.size, i.bytes)) = some (some (.int .u32 0), 1, 4) := by kernel_rfl
theorem qsv : (Tryz.prog.info? 9).map (fun i => (i.zero, i.size, i.bytes)) = some (some (.string ⟨#[]⟩), 1, 16) := by kernel_rfl
set_option maxRecDepth 100000
section
variable {ops : Array Oper} {o : Oper} {a : Act} {Q : Exit → Act → World → Prop}
theorem qik {K : Act → World → Prop} {E : Prop} {w : World} (base : Nat) (hgd : o.guard = none) (sl x : Operand)
  (ho : o.op = .call { callee := .builtin .append, args := #[sl, x], argTypes := #[22, 22] }) (b : Nat) (hs : a.eval sl = .slice (some ⟨b, 0, none⟩) 0 0)
  (hown : w.ownsRow base 106 1 (.slice (some ⟨b, 0, none⟩) 0 0) 0 []) (hbase : base ≤ w.heap.size) (A : Option Addr) (c : Nat) (l : List Int) (hx : a.eval x = .slice A l.length c) (hC : (Kd.int .u32).C w A l.length l) (hl : l.length ≤ 274877906944)
  (k : ∀ v w', w'.ownsRow base 106 1 v l.length (Gz .u32 l) → w.grownBy w' (some b) → (v.ownBlock = some b ∨ ∃ b', v.ownBlock = some b' ∧ w.heap.size ≤ b') → K (a.put o.dst v) w') : if Region.wanted o (yielded ops a.tmps) = true then Oper.wp Tryz.prog o a w K Q else E := by
 have hw : Region.wanted o (yielded ops a.tmps) = true := by simp [Region.wanted, hgd]
 rw [if_pos hw]
 have := Kd.R_append_rows_step (P := Tryz.prog) (ops := ops) (Q := Q) (Kc := K) (d := Kd.int .u32) (w0 := w) base hw sl x 22 106 (.int .u32 0) 4 ho Tryz.underlying22 qwo rfl (by decide) (by omega) _ ([] : List Int) l A l.length c (fun _ => True) (fun _ => False) hs hx
  (Kd.R_of_own hown (fun _ _ => trivial)) hC (fun x cs h => h) (fun _ h => h.elim) (fun _ _ => trivial) (Below.refl _ _) hbase (by simp; omega)
  (fun v1 w1 hr _ hg hat => k v1 w1 (qxb hr) hg hat)
 rwa [if_pos hw] at this
theorem qqv {K : Act → World → Prop} {E : Prop} {w : World} (base : Nat) (hgd : o.guard = none) (sl x : Operand)
  (ho : o.op = .call { callee := .builtin .append, args := #[sl, x], argTypes := #[25, 25] }) (b : Nat) (hs : a.eval sl = .slice (some ⟨b, 0, none⟩) 0 0)
  (hown : w.ownsRow base 9 1 (.slice (some ⟨b, 0, none⟩) 0 0) 0 []) (hbase : base ≤ w.heap.size) (A : Option Addr) (c : Nat) (l : List ByteArray) (hx : a.eval x = .slice A l.length c) (hC : Kd.string.C w A l.length l) (hl : l.length ≤ 274877906944)
  (k : ∀ v w', w'.ownsRow base 9 1 v l.length (Xa l) → w.grownBy w' (some b) → (v.ownBlock = some b ∨ ∃ b', v.ownBlock = some b' ∧ w.heap.size ≤ b') → K (a.put o.dst v) w') : if Region.wanted o (yielded ops a.tmps) = true then Oper.wp Tryz.prog o a w K Q else E := by
 have hw : Region.wanted o (yielded ops a.tmps) = true := by simp [Region.wanted, hgd]
 rw [if_pos hw]
 have := Kd.R_append_rows_step (P := Tryz.prog) (ops := ops) (Q := Q) (Kc := K) (d := Kd.string) (w0 := w) base hw sl x 25 9 (.string ⟨#[]⟩) 16 ho Tryz.underlying25 qsv rfl (by decide) (by omega) _ ([] : List ByteArray) l A l.length c (fun _ => True) (fun _ => False) hs hx
  (Kd.R_of_own hown (fun _ _ => trivial)) hC (fun x cs h => h) (fun _ h => h.elim) (fun _ _ => trivial) (Below.refl _ _) hbase (by simp; omega)
  (fun v1 w1 hr _ hg hat => k v1 w1 (qff hr) hg hat)
 rwa [if_pos hw] at this
theorem Qw {P : Program} {K : Act → World → Prop} {E : Prop} {w : World} (g off : Nat) (pre old post new : List Value) (e : TypeId) (hgd : o.guard = none) (ty : TypeId) (x y : Operand) (ho : o.op = .store ty x y)
  (hx : a.eval x = .pointer (some ⟨g, off, none⟩)) (hoff : off = pre.length) (hy : (a.eval y).cells.toList = new) (hb : Blk w g e (pre ++ (old ++ post))) (hlen : old.length = new.length)
  (hi : (P.info? ty).map (·.size) = some new.length) (h1 : ∀ v ∈ new, v.oneCell' = true)
  (h : ∀ w' : World, Blk w' g e (pre ++ (new ++ post)) → w.grownBy w' (some g) → w'.heap.size = w.heap.size → K (a.put o.dst undef) w') : if Region.wanted o (yielded ops a.tmps) = true then Oper.wp P o a w K Q else E := by
 have hw : Region.wanted o (yielded ops a.tmps) = true := by simp [Region.wanted, hgd]
 rw [if_pos hw]
 subst hoff
 unfold Blk at hb
 have hfit : pre.length + new.length ≤ (pre ++ (old ++ post)).toArray.size := by simp; omega
 have hrun := qcw (P := P) ty (a.eval y) new hb hy hi hfit h1
 unfold Oper.wp execOp
 simp only [ho, hx, Sem.run_bind, Sem.run_pure, Result.andThen_ok, hrun]
 have hs := Hr g new pre.length w
 refine h _ ?_ ⟨hs.1, hs.2.1, hs.2.2.1, by rw [hs.2.2.2]; exact Nat.le_refl _, fun k _ hk => qap new pre.length k (fun e => hk (by rw [e]))⟩ hs.2.2.2
 exact f62
end
end Go.Proofs.YtnoammmohdmnjaaGreat.C13
