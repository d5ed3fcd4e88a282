/- Part of the proof that FnExactFormatCore answers true at every term. -/

import Derived.Test.YtagfphlhahiplaaR7
namespace Go.Proofs.Ytagfphlhahiplaa.C13
open Go.RowKit Go.Proofs.YtagfphlhahiplaaW.PrintWords Go.Proofs.Ytagfphlhahiplaa.PFnExactFormatCore
set_option linter.unusedVariables false
set_option linter.unusedSimpArgs false
mutual
def cntC : CoreT → Nat
  | ⟨_, _, _, limbs, names, kids, alts⟩ => 3 + limbs.length + names.length + cntCs kids + cntAs alts
def cntCs : List CoreT → Nat
  | [] => 0
  | c :: r => cntC c + cntCs r
def cntAs : List AltT → Nat
  | [] => 0
  | a :: r => cntA a + cntAs r
def cntA : AltT → Nat
  | ⟨_, names, b⟩ => 1 + names.length + cntC b
end
mutual
def mkEl : CoreT → Int → CoreT
  | ⟨_, _, _, limbs, names, kids, alts⟩, k => ⟨k, markT (k + 1), ((k + 2) % 3 == 0), mkU limbs (k + 3), mkS names (k + 3 + limbs.length), mkCs kids (k + 3 + limbs.length + names.length), mkAs alts (k + 3 + limbs.length + names.length + cntCs kids)⟩
def mkCs : List CoreT → Int → List CoreT
  | [], _ => []
  | c :: r, k => mkEl c k :: mkCs r (k + cntC c)
def mkAs : List AltT → Int → List AltT
  | [], _ => []
  | a :: r, k => mkA a k :: mkAs r (k + cntA a)
def mkA : AltT → Int → AltT
  | ⟨_, names, b⟩, k => ⟨markT k, mkS names (k + 1), mkEl b (k + 1 + names.length)⟩
end
theorem cntC_eq (x : CoreT) : cntC x = 3 + x.limbs.length + x.names.length + cntCs x.kids + cntAs x.alts := by cases x; rw [cntC]
theorem cntA_eq (x : AltT) : cntA x = 1 + x.names.length + cntC x.body := by cases x; rw [cntA]
theorem mkEl_eq (x : CoreT) (k : Int) : mkEl x k = ⟨k, markT (k + 1), ((k + 2) % 3 == 0), mkU x.limbs (k + 3), mkS x.names (k + 3 + x.limbs.length), mkCs x.kids (k + 3 + x.limbs.length + x.names.length), mkAs x.alts (k + 3 + x.limbs.length + x.names.length + cntCs x.kids)⟩ := by cases x; rw [mkEl]
theorem mkA_eq (a : AltT) (k : Int) : mkA a k = ⟨markT k, mkS a.names (k + 1), mkEl a.body (k + 1 + a.names.length)⟩ := by cases a; rw [mkA]
theorem cntCs_snoc (l : List CoreT) (x : CoreT) : cntCs (l ++ [x]) = cntCs l + cntC x := by
  induction l with
  | nil => simp [cntCs]
  | cons c r ih => simp only [List.cons_append, cntCs, ih]; omega
theorem cntAs_snoc (l : List AltT) (x : AltT) : cntAs (l ++ [x]) = cntAs l + cntA x := by
  induction l with
  | nil => simp [cntAs]
  | cons c r ih => simp only [List.cons_append, cntAs, ih]; omega
theorem mkCs_snoc (l : List CoreT) (x : CoreT) (k : Int) : mkCs (l ++ [x]) k = mkCs l k ++ [mkEl x (k + cntCs l)] := by
  induction l generalizing k with
  | nil => simp [mkCs, cntCs]
  | cons c r ih =>
    simp only [List.cons_append, mkCs, ih, cntCs]
    congr 4
    omega
theorem mkAs_snoc (l : List AltT) (x : AltT) (k : Int) : mkAs (l ++ [x]) k = mkAs l k ++ [mkA x (k + cntAs l)] := by
  induction l generalizing k with
  | nil => simp [mkAs, cntAs]
  | cons c r ih =>
    simp only [List.cons_append, mkAs, ih, cntAs]
    congr 4
    omega
theorem cntCs_take (l : List CoreT) (i : Nat) : cntCs (l.take i) ≤ cntCs l := by
  induction l generalizing i with
  | nil => simp
  | cons c r ih => cases i with
    | zero => simp [cntCs]
    | succ i => simp only [List.take_succ_cons, cntCs]; have := ih i; omega
theorem cntAs_take (l : List AltT) (i : Nat) : cntAs (l.take i) ≤ cntAs l := by
  induction l generalizing i with
  | nil => simp
  | cons c r ih => cases i with
    | zero => simp [cntAs]
    | succ i => simp only [List.take_succ_cons, cntAs]; have := ih i; omega
def MkCsSaid (xs : List CoreT) : Prop := ∀ (v : Value) (cells : List Value) (F G : List Nat) (k : Int) (w : World), 1 ≤ k → k + cntCs xs ≤ 1000000000 → Row w 36 v xs.length cells F → OwnCs 36 80 w xs cells G → (F ++ G).Nodup →
  Calls Try.prog 37 #[v, .int .i64 k] w fun e w' => e = .returned (.int .i64 (k + cntCs xs)) ∧ (∃ cells', Row w' 36 v xs.length cells' F ∧ OwnCs 36 80 w' (mkCs xs k) cells' G) ∧ But (F ++ G) w w'
def MkAsSaid (xs : List AltT) : Prop := ∀ (v : Value) (cells : List Value) (F G : List Nat) (k : Int) (w : World), 1 ≤ k → k + cntAs xs ≤ 1000000000 → Row w 80 v xs.length cells F → OwnAs 36 80 w xs cells G → (F ++ G).Nodup →
  Calls Try.prog 38 #[v, .int .i64 k] w fun e w' => e = .returned (.int .i64 (k + cntAs xs)) ∧ (∃ cells', Row w' 80 v xs.length cells' F ∧ OwnAs 36 80 w' (mkAs xs k) cells' G) ∧ But (F ++ G) w w'
theorem mkCs_len (l : List CoreT) (k : Int) : (mkCs l k).length = l.length := by
  induction l generalizing k with
  | nil => rw [mkCs]
  | cons a r ih => rw [mkCs]; simp [ih]
theorem mkAs_len (l : List AltT) (k : Int) : (mkAs l k).length = l.length := by
  induction l generalizing k with
  | nil => rw [mkAs]
  | cons a r ih => rw [mkAs]; simp [ih]
theorem Blk.at {w : World} {g : Nat} {e : TypeId} {pre post : List Value} {c : Value} (h : Blk w g e (pre ++ (c :: post))) {o : Nat} (ho : o = pre.length) : w.cell? ⟨g, o, none⟩ = some c := by
  subst ho
  exact h.cell (by simp)
theorem But.ownCs {e ea : TypeId} {F : List Nat} {a b : World} (h : But F a b) {l : List CoreT} {cs : List Value} {G : List Nat} (ho : OwnCs e ea a l cs G) (hn : ∀ k ∈ G, k ∉ F) : OwnCs e ea b l cs G := ownCs_move' ho (fun k hk => h.block k (ownCs_lt' ho k hk) (hn k hk))
theorem But.ownAs {e ea : TypeId} {F : List Nat} {a b : World} (h : But F a b) {l : List AltT} {cs : List Value} {G : List Nat} (ho : OwnAs e ea a l cs G) (hn : ∀ k ∈ G, k ∉ F) : OwnAs e ea b l cs G := ownAs_move' ho (fun k hk => h.block k (ownAs_lt' ho k hk) (hn k hk))
theorem notin {A B : List Nat} (h : ∀ a ∈ A, ∀ b ∈ B, a ≠ b) : ∀ k ∈ A, k ∉ B := fun k hk hb => h k hk k hb rfl
theorem notin' {A B : List Nat} (h : ∀ a ∈ A, ∀ b ∈ B, a ≠ b) : ∀ k ∈ B, k ∉ A := fun k hk hb => h k hb k hk rfl
set_option maxRecDepth 100000 in
set_option maxHeartbeats 4000000 in
theorem markCs_any (xs : List CoreT) (ih : ∀ x ∈ xs, MkCsSaid x.kids ∧ MkAsSaid x.alts) : MkCsSaid xs := by
  intro v cells F G k w hk hk2 hr ho hnd
  rcases hr with ⟨rfl, hn, hc, rfl⟩ | ⟨g, cap, spare, rfl, hcap, hcap2, hb, rfl⟩
  · have hl : xs = [] := List.eq_nil_of_length_eq_zero hn
    subst hl
    go_enter Try.func37, Try.ntmps37
    go_wp2_with fail
    go_loopw [1, 5] (fun s1 s5 wr => s1 = .int .i64 k ∧ s5 = .int .i64 0 ∧ wr = w) (fun _ _ _ => 0)
    case atStart => exact ⟨rfl, rfl, rfl⟩
    case round =>
      obtain ⟨rfl, rfl, rfl⟩ := hrel
      go_wp2
      go_ret
      exact ⟨by simp [cntCs], ⟨cells, .inl ⟨rfl, rfl, hc, rfl⟩, by rw [mkCs]; exact ho⟩, But.refl _ _⟩
  · have HB := Lib.hid hb; have HO := Lib.hid ho; have ND := Lib.hid hnd; have IH := Lib.hid ih; have HK2 := Lib.hid hk2
    clear hb ho hnd ih
    go_enter Try.func37, Try.ntmps37
    go_wp2_with fail
    go_loopw [1, 5] (fun s1 s5 wr => ∃ (j : Nat) (c1 c2 : List Value) (G1 G2 : List Nat), j ≤ xs.length ∧ s1 = .int .i64 (k + (cntCs (xs.take j) : Nat)) ∧ s5 = .int .i64 j ∧ Hid (G = G1 ++ G2) ∧ Hid (OwnCs 36 80 wr (mkCs (xs.take j) k) c1 G1) ∧ Hid (OwnCs 36 80 wr (xs.drop j) c2 G2) ∧ c1.length = j * 7 ∧ Hid (Blk wr g 36 (c1 ++ (c2 ++ spare))) ∧ Hid (But ([g] ++ G1) w wr)) (fun _ s5 _ => xs.length - (intOf s5).toNat)
    case atStart => exact ⟨0, [], cells, [], G, Nat.zero_le _, by simp [cntCs], rfl, Lib.hid rfl, Lib.hid (by rw [List.take_zero, mkCs, OwnCs]; exact ⟨rfl, rfl⟩), Lib.hid (by rw [List.drop_zero]; exact HO.out), by simp, Lib.hid (by simpa using HB.out), Lib.hid (But.refl _ _)⟩
    case round =>
      obtain ⟨j, c1, c2, G1, G2, hj, rfl, rfl, HG, HD, HR, hc1, HBL, HN⟩ := hrel
      by_cases hlt : j < xs.length
      · have hdr : xs.drop j = xs[j] :: xs.drop (j + 1) := List.drop_eq_getElem_cons hlt
        have hr := HR.out
        rw [hdr, OwnCs] at hr
        obtain ⟨d1, d2, H1, H2, rfl, rfl, hx, hrest⟩ := hr
        rw [OwnC_eq] at hx
        obtain ⟨v3, v4, v5, v6, F3, F4, F5, F6, G5, G6, c5, c6, rfl, rfl, hr3, hr4, ⟨hr5, ho5⟩, ⟨hr6, ho6⟩⟩ := hx
        have hcnt : (xs.take (j + 1)) = xs.take j ++ [xs[j]] := take_snoc' hlt
        have hck := cntCs_take xs (j + 1)
        rw [hcnt, cntCs_snoc, cntC_eq] at hck
        have HIX := Lib.hid (IH.out _ (List.getElem_mem hlt))
        have HTAKE := Lib.hid hcnt
        clear hcnt hdr HR
        obtain ⟨kk, hkk⟩ : ∃ kk : Int, kk = k + (cntCs (xs.take j) : Nat) := ⟨_, rfl⟩
        rw [← hkk]
        have hkk1 : 1 ≤ kk := by omega
        have hkk2 : kk + (3 + xs[j].limbs.length + xs[j].names.length + cntCs xs[j].kids + cntAs xs[j].alts : Nat) ≤ 1000000000 := by have := HK2.out; omega
        have HKK := Lib.hid hkk; clear hkk hck
        have nd := ND.out
        rw [HG.out, List.singleton_append] at nd
        obtain ⟨ng, n1⟩ := List.nodup_cons.1 nd
        obtain ⟨-, n2, e1⟩ := List.nodup_append.1 n1
        obtain ⟨n3, -, e2⟩ := List.nodup_append.1 n2
        obtain ⟨-, n4, e3⟩ := List.nodup_append.1 n3
        obtain ⟨-, n5, e4⟩ := List.nodup_append.1 n4
        obtain ⟨n56, n66, e5⟩ := List.nodup_append.1 n5
        simp only [List.mem_append, not_or] at ng
        obtain ⟨ng1, ⟨ng3, ng4, ⟨ng5, ng5'⟩, ng6, ng6'⟩, ng2⟩ := ng
        have DF3_F4 : Hid (∀ k ∈ F4, k ∉ F3) := Lib.hid (notin' (A := F3) (B := F4) (fun p hp q hq => e3 p hp q (by simp only [List.mem_append] at hq ⊢; simp [hq])))
        have DF3_K5 : Hid (∀ k ∈ F5 ++ G5, k ∉ F3) := Lib.hid (notin' (A := F3) (B := F5 ++ G5) (fun p hp q hq => e3 p hp q (by simp only [List.mem_append] at hq ⊢; simp [hq])))
        have DF3_K6 : Hid (∀ k ∈ F6 ++ G6, k ∉ F3) := Lib.hid (notin' (A := F3) (B := F6 ++ G6) (fun p hp q hq => e3 p hp q (by simp only [List.mem_append] at hq ⊢; simp [hq])))
        have DF3_G1 : Hid (∀ k ∈ G1, k ∉ F3) := Lib.hid (notin (A := G1) (B := F3) (fun p hp q hq => e1 p hp q (by simp only [List.mem_append] at hq ⊢; simp [hq])))
        have DF3_H2 : Hid (∀ k ∈ H2, k ∉ F3) := Lib.hid (notin' (A := F3) (B := H2) (fun p hp q hq => e2 p (by simp only [List.mem_append] at hp ⊢; simp [hp]) q hq))
        have DF4_F3 : Hid (∀ k ∈ F3, k ∉ F4) := Lib.hid (notin (A := F3) (B := F4) (fun p hp q hq => e3 p hp q (by simp only [List.mem_append] at hq ⊢; simp [hq])))
        have DF4_K5 : Hid (∀ k ∈ F5 ++ G5, k ∉ F4) := Lib.hid (notin' (A := F4) (B := F5 ++ G5) (fun p hp q hq => e4 p hp q (by simp only [List.mem_append] at hq ⊢; simp [hq])))
        have DF4_K6 : Hid (∀ k ∈ F6 ++ G6, k ∉ F4) := Lib.hid (notin' (A := F4) (B := F6 ++ G6) (fun p hp q hq => e4 p hp q (by simp only [List.mem_append] at hq ⊢; simp [hq])))
        have DF4_G1 : Hid (∀ k ∈ G1, k ∉ F4) := Lib.hid (notin (A := G1) (B := F4) (fun p hp q hq => e1 p hp q (by simp only [List.mem_append] at hq ⊢; simp [hq])))
        have DF4_H2 : Hid (∀ k ∈ H2, k ∉ F4) := Lib.hid (notin' (A := F4) (B := H2) (fun p hp q hq => e2 p (by simp only [List.mem_append] at hp ⊢; simp [hp]) q hq))
        have DK5_F3 : Hid (∀ k ∈ F3, k ∉ F5 ++ G5) := Lib.hid (notin (A := F3) (B := F5 ++ G5) (fun p hp q hq => e3 p hp q (by simp only [List.mem_append] at hq ⊢; simp [hq])))
        have DK5_F4 : Hid (∀ k ∈ F4, k ∉ F5 ++ G5) := Lib.hid (notin (A := F4) (B := F5 ++ G5) (fun p hp q hq => e4 p hp q (by simp only [List.mem_append] at hq ⊢; simp [hq])))
        have DK5_K6 : Hid (∀ k ∈ F6 ++ G6, k ∉ F5 ++ G5) := Lib.hid (notin' (A := F5 ++ G5) (B := F6 ++ G6) (fun p hp q hq => e5 p hp q (by simp only [List.mem_append] at hq ⊢; simp [hq])))
        have DK5_G1 : Hid (∀ k ∈ G1, k ∉ F5 ++ G5) := Lib.hid (notin (A := G1) (B := F5 ++ G5) (fun p hp q hq => e1 p hp q (by simp only [List.mem_append] at hq ⊢; simp [hq])))
        have DK5_H2 : Hid (∀ k ∈ H2, k ∉ F5 ++ G5) := Lib.hid (notin' (A := F5 ++ G5) (B := H2) (fun p hp q hq => e2 p (by simp only [List.mem_append] at hp ⊢; simp [hp]) q hq))
        have DK6_F3 : Hid (∀ k ∈ F3, k ∉ F6 ++ G6) := Lib.hid (notin (A := F3) (B := F6 ++ G6) (fun p hp q hq => e3 p hp q (by simp only [List.mem_append] at hq ⊢; simp [hq])))
        have DK6_F4 : Hid (∀ k ∈ F4, k ∉ F6 ++ G6) := Lib.hid (notin (A := F4) (B := F6 ++ G6) (fun p hp q hq => e4 p hp q (by simp only [List.mem_append] at hq ⊢; simp [hq])))
        have DK6_K5 : Hid (∀ k ∈ F5 ++ G5, k ∉ F6 ++ G6) := Lib.hid (notin (A := F5 ++ G5) (B := F6 ++ G6) (fun p hp q hq => e5 p hp q (by simp only [List.mem_append] at hq ⊢; simp [hq])))
        have DK6_G1 : Hid (∀ k ∈ G1, k ∉ F6 ++ G6) := Lib.hid (notin (A := G1) (B := F6 ++ G6) (fun p hp q hq => e1 p hp q (by simp only [List.mem_append] at hq ⊢; simp [hq])))
        have DK6_H2 : Hid (∀ k ∈ H2, k ∉ F6 ++ G6) := Lib.hid (notin' (A := F6 ++ G6) (B := H2) (fun p hp q hq => e2 p (by simp only [List.mem_append] at hp ⊢; simp [hp]) q hq))
        have Dg_F3 : Hid (∀ k ∈ F3, k ∉ [g]) := Lib.hid (fun k hk h => ng3 (by rw [← List.mem_singleton.1 h]; exact hk))
        have Ng_F3 : Hid (g ∉ F3) := Lib.hid (ng3)
        have Dg_F4 : Hid (∀ k ∈ F4, k ∉ [g]) := Lib.hid (fun k hk h => ng4 (by rw [← List.mem_singleton.1 h]; exact hk))
        have Ng_F4 : Hid (g ∉ F4) := Lib.hid (ng4)
        have Dg_K5 : Hid (∀ k ∈ F5 ++ G5, k ∉ [g]) := Lib.hid (fun k hk h => (by rw [List.mem_singleton.1 h] at hk; rcases List.mem_append.1 hk with h | h; exact ng5 h; exact ng5' h))
        have Ng_K5 : Hid (g ∉ F5 ++ G5) := Lib.hid (fun hk => (by rcases List.mem_append.1 hk with h | h; exact ng5 h; exact ng5' h))
        have Dg_K6 : Hid (∀ k ∈ F6 ++ G6, k ∉ [g]) := Lib.hid (fun k hk h => (by rw [List.mem_singleton.1 h] at hk; rcases List.mem_append.1 hk with h | h; exact ng6 h; exact ng6' h))
        have Ng_K6 : Hid (g ∉ F6 ++ G6) := Lib.hid (fun hk => (by rcases List.mem_append.1 hk with h | h; exact ng6 h; exact ng6' h))
        have Dg_G1 : Hid (∀ k ∈ G1, k ∉ [g]) := Lib.hid (fun k hk h => ng1 (by rw [← List.mem_singleton.1 h]; exact hk))
        have Dg_H2 : Hid (∀ k ∈ H2, k ∉ [g]) := Lib.hid (fun k hk h => ng2 (by rw [← List.mem_singleton.1 h]; exact hk))
        have NK5 := Lib.hid n56; have NK6 := Lib.hid n66
        clear nd ng1 ng2 ng3 ng4 ng5 ng5' ng6 ng6' n1 n2 n3 n4 n5 n56 n66 e1 e2 e3 e4 e5 
        have R3 := Lib.hid hr3; have R4 := Lib.hid hr4; have R5 := Lib.hid hr5; have O5 := Lib.hid ho5; have R6 := Lib.hid hr6; have O6 := Lib.hid ho6; have OD := HD; have OR := Lib.hid hrest; have B0 := HBL
        clear hr3 hr4 hr5 ho5 hr6 ho6 hrest HD HBL
        have BN := Lib.hid (But.refl ([g] ++ (F3 ++ (F4 ++ ((F5 ++ G5) ++ (F6 ++ G6))))) wr)
        have hpre1 : (j * 7) = (c1).length := by rw [hc1]
        have HPRE1 := Lib.hid hpre1; clear hpre1
        have BX1 := Lib.hid (show Blk wr g 36 (c1 ++ ([.int .i64 xs[j].kind] ++ (([.string xs[j].name, .bool xs[j].minus, v3, v4, v5, v6] : List Value) ++ (d2 ++ spare)))) by have := B0.out; simpa [List.append_assoc] using this)
        go_wp2_with ((refine wpList_store_blk g (j * 7) c1 [.int .i64 xs[j].kind] (([.string xs[j].name, .bool xs[j].minus, v3, v4, v5, v6] : List Value) ++ (d2 ++ spare)) [.int .i64 kk] 36 rfl 2 (.tmp 16) _ rfl rfl HPRE1.out rfl BX1.out rfl (by kernel_rfl) (by intro v hv; rw [List.mem_singleton.1 hv]; rfl) ?_))
        intro w1 hb hg hs
        have bg := But.of_grown hg
        have B0 := Lib.hid (show Blk w1 g 36 (c1 ++ (([.int .i64 kk, .string xs[j].name, .bool xs[j].minus, v3, v4, v5, v6] : List Value) ++ (d2 ++ spare))) by simpa [List.append_assoc] using hb)
        have R3 := Lib.hid (bg.row R3.out Dg_F3.out)
        have R4 := Lib.hid (bg.row R4.out Dg_F4.out)
        have R5 := Lib.hid (bg.row R5.out (fun k hk => Dg_K5.out k (List.mem_append_left _ hk)))
        have O5 := Lib.hid (bg.ownCs O5.out (fun k hk => Dg_K5.out k (List.mem_append_right _ hk)))
        have R6 := Lib.hid (bg.row R6.out (fun k hk => Dg_K6.out k (List.mem_append_left _ hk)))
        have O6 := Lib.hid (bg.ownAs O6.out (fun k hk => Dg_K6.out k (List.mem_append_right _ hk)))
        have OD := Lib.hid (bg.ownCs OD.out Dg_G1.out)
        have OR := Lib.hid (bg.ownCs OR.out Dg_H2.out)
        have BN := Lib.hid (BN.out.trans (bg.mono (fun k hk => by simp [List.mem_singleton.1 hk])))
        clear hb hg hs bg BX1 HPRE1
        go_wp2_with fail
        refine (markText_any (kk + 1) (by omega) (by omega) _).mono ?_
        rintro e w2 ⟨rfl, hb⟩
        have bn : But [] w1 w2 := But.of_below hb
        have B0 := Lib.hid (B0.out.below hb)
        have R3 := Lib.hid (bn.row R3.out (fun _ _ h => by cases h))
        have R4 := Lib.hid (bn.row R4.out (fun _ _ h => by cases h))
        have R5 := Lib.hid (bn.row R5.out (fun _ _ h => by cases h))
        have O5 := Lib.hid (bn.ownCs O5.out (fun _ _ h => by cases h))
        have R6 := Lib.hid (bn.row R6.out (fun _ _ h => by cases h))
        have O6 := Lib.hid (bn.ownAs O6.out (fun _ _ h => by cases h))
        have OD := Lib.hid (bn.ownCs OD.out (fun _ _ h => by cases h))
        have OR := Lib.hid (bn.ownCs OR.out (fun _ _ h => by cases h))
        have BN := Lib.hid (BN.out.trans (bn.mono (fun k hk => by cases hk)))
        clear hb bn
        have hpre3 : (j * 7 + 1) = ((c1 ++ ([.int .i64 kk] : List Value))).length := by rw [List.length_append, hc1]; rfl
        have HPRE3 := Lib.hid hpre3; clear hpre3
        have BX3 := Lib.hid (show Blk w2 g 36 ((c1 ++ ([.int .i64 kk] : List Value)) ++ ([.string xs[j].name] ++ (([.bool xs[j].minus, v3, v4, v5, v6] : List Value) ++ (d2 ++ spare)))) by have := B0.out; simpa [List.append_assoc] using this)
        go_wp2_with ((refine wpList_store_blk g (j * 7 + 1) (c1 ++ ([.int .i64 kk] : List Value)) [.string xs[j].name] (([.bool xs[j].minus, v3, v4, v5, v6] : List Value) ++ (d2 ++ spare)) [.string (markT (kk + 1))] 36 rfl 9 (.tmp 24) _ rfl rfl HPRE3.out rfl BX3.out rfl (by kernel_rfl) (by intro v hv; rw [List.mem_singleton.1 hv]; rfl) ?_))
        intro w3 hb hg hs
        have bg := But.of_grown hg
        have B0 := Lib.hid (show Blk w3 g 36 (c1 ++ (([.int .i64 kk, .string (markT (kk + 1)), .bool xs[j].minus, v3, v4, v5, v6] : List Value) ++ (d2 ++ spare))) by simpa [List.append_assoc] using hb)
        have R3 := Lib.hid (bg.row R3.out Dg_F3.out)
        have R4 := Lib.hid (bg.row R4.out Dg_F4.out)
        have R5 := Lib.hid (bg.row R5.out (fun k hk => Dg_K5.out k (List.mem_append_left _ hk)))
        have O5 := Lib.hid (bg.ownCs O5.out (fun k hk => Dg_K5.out k (List.mem_append_right _ hk)))
        have R6 := Lib.hid (bg.row R6.out (fun k hk => Dg_K6.out k (List.mem_append_left _ hk)))
        have O6 := Lib.hid (bg.ownAs O6.out (fun k hk => Dg_K6.out k (List.mem_append_right _ hk)))
        have OD := Lib.hid (bg.ownCs OD.out Dg_G1.out)
        have OR := Lib.hid (bg.ownCs OR.out Dg_H2.out)
        have BN := Lib.hid (BN.out.trans (bg.mono (fun k hk => by simp [List.mem_singleton.1 hk])))
        clear hb hg hs bg BX3 HPRE3
        have hpre4 : (j * 7 + 2) = ((c1 ++ ([.int .i64 kk, .string (markT (kk + 1))] : List Value))).length := by rw [List.length_append, hc1]; rfl
        have HPRE4 := Lib.hid hpre4; clear hpre4
        have BX4 := Lib.hid (show Blk w3 g 36 ((c1 ++ ([.int .i64 kk, .string (markT (kk + 1))] : List Value)) ++ ([.bool xs[j].minus] ++ (([v3, v4, v5, v6] : List Value) ++ (d2 ++ spare)))) by have := B0.out; simpa [List.append_assoc] using this)
        go_wp2_with ((refine wpList_store_blk g (j * 7 + 2) (c1 ++ ([.int .i64 kk, .string (markT (kk + 1))] : List Value)) [.bool xs[j].minus] (([v3, v4, v5, v6] : List Value) ++ (d2 ++ spare)) [.bool ((kk + 1 + 1) % 3 == 0)] 36 rfl 4 (.tmp 34) _ rfl rfl HPRE4.out rfl BX4.out rfl (by kernel_rfl) (by intro v hv; rw [List.mem_singleton.1 hv]; rfl) ?_))
        intro w4 hb hg hs
        have bg := But.of_grown hg
        have B0 := Lib.hid (show Blk w4 g 36 (c1 ++ (([.int .i64 kk, .string (markT (kk + 1)), .bool ((kk + 1 + 1) % 3 == 0), v3, v4, v5, v6] : List Value) ++ (d2 ++ spare))) by simpa [List.append_assoc] using hb)
        have R3 := Lib.hid (bg.row R3.out Dg_F3.out)
        have R4 := Lib.hid (bg.row R4.out Dg_F4.out)
        have R5 := Lib.hid (bg.row R5.out (fun k hk => Dg_K5.out k (List.mem_append_left _ hk)))
        have O5 := Lib.hid (bg.ownCs O5.out (fun k hk => Dg_K5.out k (List.mem_append_right _ hk)))
        have R6 := Lib.hid (bg.row R6.out (fun k hk => Dg_K6.out k (List.mem_append_left _ hk)))
        have O6 := Lib.hid (bg.ownAs O6.out (fun k hk => Dg_K6.out k (List.mem_append_right _ hk)))
        have OD := Lib.hid (bg.ownCs OD.out Dg_G1.out)
        have OR := Lib.hid (bg.ownCs OR.out Dg_H2.out)
        have BN := Lib.hid (BN.out.trans (bg.mono (fun k hk => by simp [List.mem_singleton.1 hk])))
        clear hb hg hs bg BX4 HPRE4
        have ld := Blk.at (pre := c1 ++ ([.int .i64 kk, .string (markT (kk + 1)), .bool ((kk + 1 + 1) % 3 == 0)] : List Value)) (c := v3) (post := ([v4, v5, v6] : List Value) ++ (d2 ++ spare)) (o := j * 7 + 3) (by have := B0.out; simpa [List.append_assoc] using this) (by rw [List.length_append, hc1]; rfl)
        go_wp2_with fail
        clear ld
        refine (markU_any xs[j].limbs v3 F3 (kk + 1 + 1 + 1) (by omega) (by omega) _ R3.out).mono ?_
        rintro e w5 ⟨rfl, hr, bn⟩
        have B0 := Lib.hid (bn.blk B0.out Ng_F3.out)
        have R4 := Lib.hid (bn.row R4.out DF3_F4.out)
        have R5 := Lib.hid (bn.row R5.out (fun k hk => DF3_K5.out k (List.mem_append_left _ hk)))
        have O5 := Lib.hid (bn.ownCs O5.out (fun k hk => DF3_K5.out k (List.mem_append_right _ hk)))
        have R6 := Lib.hid (bn.row R6.out (fun k hk => DF3_K6.out k (List.mem_append_left _ hk)))
        have O6 := Lib.hid (bn.ownAs O6.out (fun k hk => DF3_K6.out k (List.mem_append_right _ hk)))
        have OD := Lib.hid (bn.ownCs OD.out DF3_G1.out)
        have OR := Lib.hid (bn.ownCs OR.out DF3_H2.out)
        have R3 := Lib.hid hr
        have BN := Lib.hid (BN.out.trans (bn.mono (fun k hk => by simp [hk])))
        clear hr bn
        have ld := Blk.at (pre := c1 ++ ([.int .i64 kk, .string (markT (kk + 1)), .bool ((kk + 1 + 1) % 3 == 0), v3] : List Value)) (c := v4) (post := ([v5, v6] : List Value) ++ (d2 ++ spare)) (o := j * 7 + 4) (by have := B0.out; simpa [List.append_assoc] using this) (by rw [List.length_append, hc1]; rfl)
        go_wp2_with fail
        clear ld
        refine (markS_any xs[j].names v4 F4 (kk + 1 + 1 + 1 + xs[j].limbs.length) (by omega) (by omega) _ R4.out).mono ?_
        rintro e w6 ⟨rfl, hr, bn⟩
        have B0 := Lib.hid (bn.blk B0.out Ng_F4.out)
        have R3 := Lib.hid (bn.row R3.out DF4_F3.out)
        have R5 := Lib.hid (bn.row R5.out (fun k hk => DF4_K5.out k (List.mem_append_left _ hk)))
        have O5 := Lib.hid (bn.ownCs O5.out (fun k hk => DF4_K5.out k (List.mem_append_right _ hk)))
        have R6 := Lib.hid (bn.row R6.out (fun k hk => DF4_K6.out k (List.mem_append_left _ hk)))
        have O6 := Lib.hid (bn.ownAs O6.out (fun k hk => DF4_K6.out k (List.mem_append_right _ hk)))
        have OD := Lib.hid (bn.ownCs OD.out DF4_G1.out)
        have OR := Lib.hid (bn.ownCs OR.out DF4_H2.out)
        have R4 := Lib.hid hr
        have BN := Lib.hid (BN.out.trans (bn.mono (fun k hk => by simp [hk])))
        clear hr bn
        have ld := Blk.at (pre := c1 ++ ([.int .i64 kk, .string (markT (kk + 1)), .bool ((kk + 1 + 1) % 3 == 0), v3, v4] : List Value)) (c := v5) (post := ([v6] : List Value) ++ (d2 ++ spare)) (o := j * 7 + 5) (by have := B0.out; simpa [List.append_assoc] using this) (by rw [List.length_append, hc1]; rfl)
        go_wp2_with fail
        clear ld
        refine (HIX.out.1 v5 c5 F5 G5 (kk + 1 + 1 + 1 + xs[j].limbs.length + xs[j].names.length) _ (by omega) (by omega) R5.out O5.out NK5.out).mono ?_
        rintro e w7 ⟨rfl, ⟨c5', hr, ho⟩, bn⟩
        have B0 := Lib.hid (bn.blk B0.out Ng_K5.out)
        have R3 := Lib.hid (bn.row R3.out DK5_F3.out)
        have R4 := Lib.hid (bn.row R4.out DK5_F4.out)
        have R6 := Lib.hid (bn.row R6.out (fun k hk => DK5_K6.out k (List.mem_append_left _ hk)))
        have O6 := Lib.hid (bn.ownAs O6.out (fun k hk => DK5_K6.out k (List.mem_append_right _ hk)))
        have OD := Lib.hid (bn.ownCs OD.out DK5_G1.out)
        have OR := Lib.hid (bn.ownCs OR.out DK5_H2.out)
        have R5 := Lib.hid hr
        have O5 := Lib.hid ho
        have BN := Lib.hid (BN.out.trans (bn.mono (fun k hk => by rcases List.mem_append.1 hk with hk | hk <;> simp [hk])))
        clear hr bn ho
        have ld := Blk.at (pre := c1 ++ ([.int .i64 kk, .string (markT (kk + 1)), .bool ((kk + 1 + 1) % 3 == 0), v3, v4, v5] : List Value)) (c := v6) (post := ([] : List Value) ++ (d2 ++ spare)) (o := j * 7 + 6) (by have := B0.out; simpa [List.append_assoc] using this) (by rw [List.length_append, hc1]; rfl)
        go_wp2_with fail
        clear ld
        refine (HIX.out.2 v6 c6 F6 G6 (kk + 1 + 1 + 1 + xs[j].limbs.length + xs[j].names.length + cntCs xs[j].kids) _ (by omega) (by omega) R6.out O6.out NK6.out).mono ?_
        rintro e w8 ⟨rfl, ⟨c6', hr, ho⟩, bn⟩
        have B0 := Lib.hid (bn.blk B0.out Ng_K6.out)
        have R3 := Lib.hid (bn.row R3.out DK6_F3.out)
        have R4 := Lib.hid (bn.row R4.out DK6_F4.out)
        have R5 := Lib.hid (bn.row R5.out (fun k hk => DK6_K5.out k (List.mem_append_left _ hk)))
        have O5 := Lib.hid (bn.ownCs O5.out (fun k hk => DK6_K5.out k (List.mem_append_right _ hk)))
        have OD := Lib.hid (bn.ownCs OD.out DK6_G1.out)
        have OR := Lib.hid (bn.ownCs OR.out DK6_H2.out)
        have R6 := Lib.hid hr
        have O6 := Lib.hid ho
        have BN := Lib.hid (BN.out.trans (bn.mono (fun k hk => by rcases List.mem_append.1 hk with hk | hk <;> simp [hk])))
        clear hr bn ho
        have HEL : Hid (OwnC 36 80 w8 (mkEl xs[j] kk) [.int .i64 kk, .string (markT (kk + 1)), .bool ((kk + 1 + 1) % 3 == 0), v3, v4, v5, v6] (F3 ++ (F4 ++ ((F5 ++ G5) ++ (F6 ++ G6))))) := Lib.hid (by
          rw [mkEl_eq, OwnC_eq]
          refine ⟨v3, v4, v5, v6, F3, F4, F5, F6, G5, G6, c5', c6', ?_, rfl, ?_, ?_, ⟨?_, ?_⟩, ⟨?_, ?_⟩⟩
          · simp only [show kk + 2 = kk + 1 + 1 by omega]
          · show Row _ _ _ (mkU _ _).length _ _; rw [mkU_len, show kk + 3 = kk + 1 + 1 + 1 by omega]; exact R3.out
          · show Row _ _ _ (mkS _ _).length _ _; rw [mkS_len, show kk + 3 = kk + 1 + 1 + 1 by omega]; exact R4.out
          · show Row _ _ _ (mkCs _ _).length _ _; rw [mkCs_len]; exact R5.out
          · show OwnCs _ _ _ (mkCs _ _) _ _; rw [show kk + 3 = kk + 1 + 1 + 1 by omega]; exact O5.out
          · show Row _ _ _ (mkAs _ _).length _ _; rw [mkAs_len]; exact R6.out
          · show OwnAs _ _ _ (mkAs _ _) _ _; rw [show kk + 3 = kk + 1 + 1 + 1 by omega]; exact O6.out)
        have hend : kk + 1 + 1 + 1 + xs[j].limbs.length + xs[j].names.length + cntCs xs[j].kids + cntAs xs[j].alts = k + (cntCs (xs.take (j + 1)) : Nat) := by rw [HTAKE.out, cntCs_snoc, cntC_eq]; have := HKK.out; omega
        have HEND := Lib.hid hend; clear hend
        go_wp2
        go_roundw
        case rel =>
          refine ⟨j + 1, c1 ++ [.int .i64 kk, .string (markT (kk + 1)), .bool ((kk + 1 + 1) % 3 == 0), v3, v4, v5, v6], d2, G1 ++ (F3 ++ (F4 ++ ((F5 ++ G5) ++ (F6 ++ G6)))), H2, by omega, by rw [← HEND.out], by go_num, Lib.hid (by rw [HG.out]; simp only [List.append_assoc]), Lib.hid ?_, OR, by rw [List.length_append, hc1]; simp; omega, Lib.hid (by have := B0.out; simpa [List.append_assoc] using this), Lib.hid ?_⟩
          · rw [HTAKE.out, mkCs_snoc]
            have := HEL.out
            rw [HKK.out] at this ⊢
            exact ownCs_snoc _ _ _ _ _ _ OD.out this
          · refine (HN.out.mono ?_).trans (BN.out.mono ?_)
            · intro k hk; simp only [List.mem_append] at hk ⊢; rcases hk with h | h <;> simp [h]
            · intro k hk; simp only [List.mem_append] at hk ⊢; rcases hk with h | h <;> simp [h]
        case measure => simp [intOf]; omega
      · have hjl : j = xs.length := by omega
        subst hjl
        have hr := HR.out
        rw [List.drop_length, OwnCs] at hr
        obtain ⟨rfl, rfl⟩ := hr
        have hd := HD.out
        rw [List.take_length] at hd
        have OD := Lib.hid hd
        clear hd
        rw [List.take_length]
        go_wp2
        go_ret
        refine ⟨rfl, ⟨c1, .inr ⟨g, cap, spare, rfl, hcap, hcap2, by simpa using HBL.out, rfl⟩, ?_⟩, ?_⟩
        · rw [HG.out, List.append_nil]; exact OD.out
        · rw [HG.out, List.append_nil]; exact HN.out
set_option maxRecDepth 100000 in
set_option maxHeartbeats 4000000 in
theorem markAs_any (xs : List AltT) (ih : ∀ x ∈ xs, MkCsSaid x.body.kids ∧ MkAsSaid x.body.alts) : MkAsSaid xs := by
  intro v cells F G k w hk hk2 hr ho hnd
  rcases hr with ⟨rfl, hn, hc, rfl⟩ | ⟨g, cap, spare, rfl, hcap, hcap2, hb, rfl⟩
  · have hl : xs = [] := List.eq_nil_of_length_eq_zero hn
    subst hl
    go_enter Try.func38, Try.ntmps38
    go_wp2_with fail
    go_loopw [1, 5] (fun s1 s5 wr => s1 = .int .i64 k ∧ s5 = .int .i64 0 ∧ wr = w) (fun _ _ _ => 0)
    case atStart => exact ⟨rfl, rfl, rfl⟩
    case round =>
      obtain ⟨rfl, rfl, rfl⟩ := hrel
      go_wp2
      go_ret
      exact ⟨by simp [cntAs], ⟨cells, .inl ⟨rfl, rfl, hc, rfl⟩, by rw [mkAs]; exact ho⟩, But.refl _ _⟩
  · have HB := Lib.hid hb; have HO := Lib.hid ho; have ND := Lib.hid hnd; have IH := Lib.hid ih; have HK2 := Lib.hid hk2
    clear hb ho hnd ih
    go_enter Try.func38, Try.ntmps38
    go_wp2_with fail
    go_loopw [1, 5] (fun s1 s5 wr => ∃ (j : Nat) (c1 c2 : List Value) (G1 G2 : List Nat), j ≤ xs.length ∧ s1 = .int .i64 (k + (cntAs (xs.take j) : Nat)) ∧ s5 = .int .i64 j ∧ Hid (G = G1 ++ G2) ∧ Hid (OwnAs 36 80 wr (mkAs (xs.take j) k) c1 G1) ∧ Hid (OwnAs 36 80 wr (xs.drop j) c2 G2) ∧ c1.length = j * 9 ∧ Hid (Blk wr g 80 (c1 ++ (c2 ++ spare))) ∧ Hid (But ([g] ++ G1) w wr)) (fun _ s5 _ => xs.length - (intOf s5).toNat)
    case atStart => exact ⟨0, [], cells, [], G, Nat.zero_le _, by simp [cntAs], rfl, Lib.hid rfl, Lib.hid (by rw [List.take_zero, mkAs, OwnAs]; exact ⟨rfl, rfl⟩), Lib.hid (by rw [List.drop_zero]; exact HO.out), by simp, Lib.hid (by simpa using HB.out), Lib.hid (But.refl _ _)⟩
    case round =>
      obtain ⟨j, c1, c2, G1, G2, hj, rfl, rfl, HG, HD, HR, hc1, HBL, HN⟩ := hrel
      by_cases hlt : j < xs.length
      · have hdr : xs.drop j = xs[j] :: xs.drop (j + 1) := List.drop_eq_getElem_cons hlt
        have hr := HR.out
        rw [hdr, OwnAs] at hr
        obtain ⟨d1, d2, H1, H2, rfl, rfl, hx, hrest⟩ := hr
        rw [OwnA_eq] at hx
        obtain ⟨v1, cb, F1, FB, rfl, rfl, hr1, hx⟩ := hx
        rw [OwnC_eq] at hx
        obtain ⟨v3, v4, v5, v6, F3, F4, F5, F6, G5, G6, c5, c6, rfl, rfl, hr3, hr4, ⟨hr5, ho5⟩, ⟨hr6, ho6⟩⟩ := hx
        have hcnt : (xs.take (j + 1)) = xs.take j ++ [xs[j]] := take_snoc' hlt
        have hck := cntAs_take xs (j + 1)
        rw [hcnt, cntAs_snoc, cntA_eq, cntC_eq] at hck
        have HIX := Lib.hid (IH.out _ (List.getElem_mem hlt))
        have HTAKE := Lib.hid hcnt
        clear hcnt hdr HR
        obtain ⟨kk, hkk⟩ : ∃ kk : Int, kk = k + (cntAs (xs.take j) : Nat) := ⟨_, rfl⟩
        rw [← hkk]
        have hkk1 : 1 ≤ kk := by omega
        have hkk2 : kk + (1 + xs[j].names.length + (3 + xs[j].body.limbs.length + xs[j].body.names.length + cntCs xs[j].body.kids + cntAs xs[j].body.alts) : Nat) ≤ 1000000000 := by have := HK2.out; omega
        have HKK := Lib.hid hkk; clear hkk hck
        have nd := ND.out
        rw [HG.out, List.singleton_append] at nd
        obtain ⟨ng, n1⟩ := List.nodup_cons.1 nd
        obtain ⟨-, n2, e1⟩ := List.nodup_append.1 n1
        obtain ⟨n3, -, e2⟩ := List.nodup_append.1 n2
        obtain ⟨-, n3, e0⟩ := List.nodup_append.1 n3
        obtain ⟨-, n4, e3⟩ := List.nodup_append.1 n3
        obtain ⟨-, n5, e4⟩ := List.nodup_append.1 n4
        obtain ⟨n56, n66, e5⟩ := List.nodup_append.1 n5
        simp only [List.mem_append, not_or] at ng
        obtain ⟨ng1, ⟨ng0, ng3, ng4, ⟨ng5, ng5'⟩, ng6, ng6'⟩, ng2⟩ := ng
        have DF1_F3 : Hid (∀ k ∈ F3, k ∉ F1) := Lib.hid (notin' (A := F1) (B := F3) (fun p hp q hq => e0 p hp q (by simp only [List.mem_append] at hq ⊢; simp [hq])))
        have DF1_F4 : Hid (∀ k ∈ F4, k ∉ F1) := Lib.hid (notin' (A := F1) (B := F4) (fun p hp q hq => e0 p hp q (by simp only [List.mem_append] at hq ⊢; simp [hq])))
        have DF1_K5 : Hid (∀ k ∈ F5 ++ G5, k ∉ F1) := Lib.hid (notin' (A := F1) (B := F5 ++ G5) (fun p hp q hq => e0 p hp q (by simp only [List.mem_append] at hq ⊢; simp [hq])))
        have DF1_K6 : Hid (∀ k ∈ F6 ++ G6, k ∉ F1) := Lib.hid (notin' (A := F1) (B := F6 ++ G6) (fun p hp q hq => e0 p hp q (by simp only [List.mem_append] at hq ⊢; simp [hq])))
        have DF1_G1 : Hid (∀ k ∈ G1, k ∉ F1) := Lib.hid (notin (A := G1) (B := F1) (fun p hp q hq => e1 p hp q (by simp only [List.mem_append] at hq ⊢; simp [hq])))
        have DF1_H2 : Hid (∀ k ∈ H2, k ∉ F1) := Lib.hid (notin' (A := F1) (B := H2) (fun p hp q hq => e2 p (by simp only [List.mem_append] at hp ⊢; simp [hp]) q hq))
        have DF3_F1 : Hid (∀ k ∈ F1, k ∉ F3) := Lib.hid (notin (A := F1) (B := F3) (fun p hp q hq => e0 p hp q (by simp only [List.mem_append] at hq ⊢; simp [hq])))
        have DF3_F4 : Hid (∀ k ∈ F4, k ∉ F3) := Lib.hid (notin' (A := F3) (B := F4) (fun p hp q hq => e3 p hp q (by simp only [List.mem_append] at hq ⊢; simp [hq])))
        have DF3_K5 : Hid (∀ k ∈ F5 ++ G5, k ∉ F3) := Lib.hid (notin' (A := F3) (B := F5 ++ G5) (fun p hp q hq => e3 p hp q (by simp only [List.mem_append] at hq ⊢; simp [hq])))
        have DF3_K6 : Hid (∀ k ∈ F6 ++ G6, k ∉ F3) := Lib.hid (notin' (A := F3) (B := F6 ++ G6) (fun p hp q hq => e3 p hp q (by simp only [List.mem_append] at hq ⊢; simp [hq])))
        have DF3_G1 : Hid (∀ k ∈ G1, k ∉ F3) := Lib.hid (notin (A := G1) (B := F3) (fun p hp q hq => e1 p hp q (by simp only [List.mem_append] at hq ⊢; simp [hq])))
        have DF3_H2 : Hid (∀ k ∈ H2, k ∉ F3) := Lib.hid (notin' (A := F3) (B := H2) (fun p hp q hq => e2 p (by simp only [List.mem_append] at hp ⊢; simp [hp]) q hq))
        have DF4_F1 : Hid (∀ k ∈ F1, k ∉ F4) := Lib.hid (notin (A := F1) (B := F4) (fun p hp q hq => e0 p hp q (by simp only [List.mem_append] at hq ⊢; simp [hq])))
        have DF4_F3 : Hid (∀ k ∈ F3, k ∉ F4) := Lib.hid (notin (A := F3) (B := F4) (fun p hp q hq => e3 p hp q (by simp only [List.mem_append] at hq ⊢; simp [hq])))
        have DF4_K5 : Hid (∀ k ∈ F5 ++ G5, k ∉ F4) := Lib.hid (notin' (A := F4) (B := F5 ++ G5) (fun p hp q hq => e4 p hp q (by simp only [List.mem_append] at hq ⊢; simp [hq])))
        have DF4_K6 : Hid (∀ k ∈ F6 ++ G6, k ∉ F4) := Lib.hid (notin' (A := F4) (B := F6 ++ G6) (fun p hp q hq => e4 p hp q (by simp only [List.mem_append] at hq ⊢; simp [hq])))
        have DF4_G1 : Hid (∀ k ∈ G1, k ∉ F4) := Lib.hid (notin (A := G1) (B := F4) (fun p hp q hq => e1 p hp q (by simp only [List.mem_append] at hq ⊢; simp [hq])))
        have DF4_H2 : Hid (∀ k ∈ H2, k ∉ F4) := Lib.hid (notin' (A := F4) (B := H2) (fun p hp q hq => e2 p (by simp only [List.mem_append] at hp ⊢; simp [hp]) q hq))
        have DK5_F1 : Hid (∀ k ∈ F1, k ∉ F5 ++ G5) := Lib.hid (notin (A := F1) (B := F5 ++ G5) (fun p hp q hq => e0 p hp q (by simp only [List.mem_append] at hq ⊢; simp [hq])))
        have DK5_F3 : Hid (∀ k ∈ F3, k ∉ F5 ++ G5) := Lib.hid (notin (A := F3) (B := F5 ++ G5) (fun p hp q hq => e3 p hp q (by simp only [List.mem_append] at hq ⊢; simp [hq])))
        have DK5_F4 : Hid (∀ k ∈ F4, k ∉ F5 ++ G5) := Lib.hid (notin (A := F4) (B := F5 ++ G5) (fun p hp q hq => e4 p hp q (by simp only [List.mem_append] at hq ⊢; simp [hq])))
        have DK5_K6 : Hid (∀ k ∈ F6 ++ G6, k ∉ F5 ++ G5) := Lib.hid (notin' (A := F5 ++ G5) (B := F6 ++ G6) (fun p hp q hq => e5 p hp q (by simp only [List.mem_append] at hq ⊢; simp [hq])))
        have DK5_G1 : Hid (∀ k ∈ G1, k ∉ F5 ++ G5) := Lib.hid (notin (A := G1) (B := F5 ++ G5) (fun p hp q hq => e1 p hp q (by simp only [List.mem_append] at hq ⊢; simp [hq])))
        have DK5_H2 : Hid (∀ k ∈ H2, k ∉ F5 ++ G5) := Lib.hid (notin' (A := F5 ++ G5) (B := H2) (fun p hp q hq => e2 p (by simp only [List.mem_append] at hp ⊢; simp [hp]) q hq))
        have DK6_F1 : Hid (∀ k ∈ F1, k ∉ F6 ++ G6) := Lib.hid (notin (A := F1) (B := F6 ++ G6) (fun p hp q hq => e0 p hp q (by simp only [List.mem_append] at hq ⊢; simp [hq])))
        have DK6_F3 : Hid (∀ k ∈ F3, k ∉ F6 ++ G6) := Lib.hid (notin (A := F3) (B := F6 ++ G6) (fun p hp q hq => e3 p hp q (by simp only [List.mem_append] at hq ⊢; simp [hq])))
        have DK6_F4 : Hid (∀ k ∈ F4, k ∉ F6 ++ G6) := Lib.hid (notin (A := F4) (B := F6 ++ G6) (fun p hp q hq => e4 p hp q (by simp only [List.mem_append] at hq ⊢; simp [hq])))
        have DK6_K5 : Hid (∀ k ∈ F5 ++ G5, k ∉ F6 ++ G6) := Lib.hid (notin (A := F5 ++ G5) (B := F6 ++ G6) (fun p hp q hq => e5 p hp q (by simp only [List.mem_append] at hq ⊢; simp [hq])))
        have DK6_G1 : Hid (∀ k ∈ G1, k ∉ F6 ++ G6) := Lib.hid (notin (A := G1) (B := F6 ++ G6) (fun p hp q hq => e1 p hp q (by simp only [List.mem_append] at hq ⊢; simp [hq])))
        have DK6_H2 : Hid (∀ k ∈ H2, k ∉ F6 ++ G6) := Lib.hid (notin' (A := F6 ++ G6) (B := H2) (fun p hp q hq => e2 p (by simp only [List.mem_append] at hp ⊢; simp [hp]) q hq))
        have Dg_F1 : Hid (∀ k ∈ F1, k ∉ [g]) := Lib.hid (fun k hk h => ng0 (by rw [← List.mem_singleton.1 h]; exact hk))
        have Ng_F1 : Hid (g ∉ F1) := Lib.hid (ng0)
        have Dg_F3 : Hid (∀ k ∈ F3, k ∉ [g]) := Lib.hid (fun k hk h => ng3 (by rw [← List.mem_singleton.1 h]; exact hk))
        have Ng_F3 : Hid (g ∉ F3) := Lib.hid (ng3)
        have Dg_F4 : Hid (∀ k ∈ F4, k ∉ [g]) := Lib.hid (fun k hk h => ng4 (by rw [← List.mem_singleton.1 h]; exact hk))
        have Ng_F4 : Hid (g ∉ F4) := Lib.hid (ng4)
        have Dg_K5 : Hid (∀ k ∈ F5 ++ G5, k ∉ [g]) := Lib.hid (fun k hk h => (by rw [List.mem_singleton.1 h] at hk; rcases List.mem_append.1 hk with h | h; exact ng5 h; exact ng5' h))
        have Ng_K5 : Hid (g ∉ F5 ++ G5) := Lib.hid (fun hk => (by rcases List.mem_append.1 hk with h | h; exact ng5 h; exact ng5' h))
        have Dg_K6 : Hid (∀ k ∈ F6 ++ G6, k ∉ [g]) := Lib.hid (fun k hk h => (by rw [List.mem_singleton.1 h] at hk; rcases List.mem_append.1 hk with h | h; exact ng6 h; exact ng6' h))
        have Ng_K6 : Hid (g ∉ F6 ++ G6) := Lib.hid (fun hk => (by rcases List.mem_append.1 hk with h | h; exact ng6 h; exact ng6' h))
        have Dg_G1 : Hid (∀ k ∈ G1, k ∉ [g]) := Lib.hid (fun k hk h => ng1 (by rw [← List.mem_singleton.1 h]; exact hk))
        have Dg_H2 : Hid (∀ k ∈ H2, k ∉ [g]) := Lib.hid (fun k hk h => ng2 (by rw [← List.mem_singleton.1 h]; exact hk))
        have NK5 := Lib.hid n56; have NK6 := Lib.hid n66
        clear nd ng1 ng2 ng3 ng4 ng5 ng5' ng6 ng6' n1 n2 n3 n4 n5 n56 n66 e1 e2 e3 e4 e5 ng0 e0
        have R3 := Lib.hid hr3; have R4 := Lib.hid hr4; have R5 := Lib.hid hr5; have O5 := Lib.hid ho5; have R6 := Lib.hid hr6; have O6 := Lib.hid ho6; have OD := HD; have OR := Lib.hid hrest; have B0 := HBL; have R1 := Lib.hid hr1
        clear hr3 hr4 hr5 ho5 hr6 ho6 hrest HD HBL hr1
        have BN := Lib.hid (But.refl ([g] ++ (F1 ++ (F3 ++ (F4 ++ ((F5 ++ G5) ++ (F6 ++ G6)))))) wr)
        go_wp2_with fail
        refine (markText_any (kk) (by omega) (by omega) _).mono ?_
        rintro e w1 ⟨rfl, hb⟩
        have bn : But [] wr w1 := But.of_below hb
        have B0 := Lib.hid (B0.out.below hb)
        have R3 := Lib.hid (bn.row R3.out (fun _ _ h => by cases h))
        have R4 := Lib.hid (bn.row R4.out (fun _ _ h => by cases h))
        have R5 := Lib.hid (bn.row R5.out (fun _ _ h => by cases h))
        have O5 := Lib.hid (bn.ownCs O5.out (fun _ _ h => by cases h))
        have R6 := Lib.hid (bn.row R6.out (fun _ _ h => by cases h))
        have O6 := Lib.hid (bn.ownAs O6.out (fun _ _ h => by cases h))
        have OD := Lib.hid (bn.ownAs OD.out (fun _ _ h => by cases h))
        have OR := Lib.hid (bn.ownAs OR.out (fun _ _ h => by cases h))
        have R1 := Lib.hid (bn.row R1.out (fun _ _ h => by cases h))
        have BN := Lib.hid (BN.out.trans (bn.mono (fun k hk => by cases hk)))
        clear hb bn
        have hpre2 : (j * 9) = (c1).length := by rw [hc1]
        have HPRE2 := Lib.hid hpre2; clear hpre2
        have BX2 := Lib.hid (show Blk w1 g 80 (c1 ++ ([.string xs[j].con] ++ (([v1, .int .i64 xs[j].body.kind, .string xs[j].body.name, .bool xs[j].body.minus, v3, v4, v5, v6] : List Value) ++ (d2 ++ spare)))) by have := B0.out; simpa [List.append_assoc] using this)
        go_wp2_with ((refine wpList_store_blk g (j * 9) c1 [.string xs[j].con] (([v1, .int .i64 xs[j].body.kind, .string xs[j].body.name, .bool xs[j].body.minus, v3, v4, v5, v6] : List Value) ++ (d2 ++ spare)) [.string (markT kk)] 80 rfl 9 (.tmp 17) _ rfl rfl HPRE2.out rfl BX2.out rfl (by kernel_rfl) (by intro v hv; rw [List.mem_singleton.1 hv]; rfl) ?_))
        intro w2 hb hg hs
        have bg := But.of_grown hg
        have B0 := Lib.hid (show Blk w2 g 80 (c1 ++ (([.string (markT kk), v1, .int .i64 xs[j].body.kind, .string xs[j].body.name, .bool xs[j].body.minus, v3, v4, v5, v6] : List Value) ++ (d2 ++ spare))) by simpa [List.append_assoc] using hb)
        have R3 := Lib.hid (bg.row R3.out Dg_F3.out)
        have R4 := Lib.hid (bg.row R4.out Dg_F4.out)
        have R5 := Lib.hid (bg.row R5.out (fun k hk => Dg_K5.out k (List.mem_append_left _ hk)))
        have O5 := Lib.hid (bg.ownCs O5.out (fun k hk => Dg_K5.out k (List.mem_append_right _ hk)))
        have R6 := Lib.hid (bg.row R6.out (fun k hk => Dg_K6.out k (List.mem_append_left _ hk)))
        have O6 := Lib.hid (bg.ownAs O6.out (fun k hk => Dg_K6.out k (List.mem_append_right _ hk)))
        have OD := Lib.hid (bg.ownAs OD.out Dg_G1.out)
        have OR := Lib.hid (bg.ownAs OR.out Dg_H2.out)
        have R1 := Lib.hid (bg.row R1.out Dg_F1.out)
        have BN := Lib.hid (BN.out.trans (bg.mono (fun k hk => by simp [List.mem_singleton.1 hk])))
        clear hb hg hs bg BX2 HPRE2
        have ld := Blk.at (pre := c1 ++ ([.string (markT kk)] : List Value)) (c := v1) (post := ([.int .i64 xs[j].body.kind, .string xs[j].body.name, .bool xs[j].body.minus, v3, v4, v5, v6] : List Value) ++ (d2 ++ spare)) (o := j * 9 + 1) (by have := B0.out; simpa [List.append_assoc] using this) (by rw [List.length_append, hc1]; rfl)
        go_wp2_with fail
        clear ld
        refine (markS_any xs[j].names v1 F1 (kk + 1) (by omega) (by omega) _ R1.out).mono ?_
        rintro e w3 ⟨rfl, hr, bn⟩
        have B0 := Lib.hid (bn.blk B0.out Ng_F1.out)
        have R3 := Lib.hid (bn.row R3.out DF1_F3.out)
        have R4 := Lib.hid (bn.row R4.out DF1_F4.out)
        have R5 := Lib.hid (bn.row R5.out (fun k hk => DF1_K5.out k (List.mem_append_left _ hk)))
        have O5 := Lib.hid (bn.ownCs O5.out (fun k hk => DF1_K5.out k (List.mem_append_right _ hk)))
        have R6 := Lib.hid (bn.row R6.out (fun k hk => DF1_K6.out k (List.mem_append_left _ hk)))
        have O6 := Lib.hid (bn.ownAs O6.out (fun k hk => DF1_K6.out k (List.mem_append_right _ hk)))
        have OD := Lib.hid (bn.ownAs OD.out DF1_G1.out)
        have OR := Lib.hid (bn.ownAs OR.out DF1_H2.out)
        have R1 := Lib.hid hr
        have BN := Lib.hid (BN.out.trans (bn.mono (fun k hk => by simp [hk])))
        clear hr bn
        have hpre4 : (j * 9 + 2) = ((c1 ++ ([.string (markT kk), v1] : List Value))).length := by rw [List.length_append, hc1]; rfl
        have HPRE4 := Lib.hid hpre4; clear hpre4
        have BX4 := Lib.hid (show Blk w3 g 80 ((c1 ++ ([.string (markT kk), v1] : List Value)) ++ ([.int .i64 xs[j].body.kind] ++ (([.string xs[j].body.name, .bool xs[j].body.minus, v3, v4, v5, v6] : List Value) ++ (d2 ++ spare)))) by have := B0.out; simpa [List.append_assoc] using this)
        go_wp2_with ((refine wpList_store_blk g (j * 9 + 2) (c1 ++ ([.string (markT kk), v1] : List Value)) [.int .i64 xs[j].body.kind] (([.string xs[j].body.name, .bool xs[j].body.minus, v3, v4, v5, v6] : List Value) ++ (d2 ++ spare)) [.int .i64 (kk + 1 + xs[j].names.length)] 80 rfl 2 (.tmp 32) _ rfl rfl HPRE4.out rfl BX4.out rfl (by kernel_rfl) (by intro v hv; rw [List.mem_singleton.1 hv]; rfl) ?_))
        intro w4 hb hg hs
        have bg := But.of_grown hg
        have B0 := Lib.hid (show Blk w4 g 80 (c1 ++ (([.string (markT kk), v1, .int .i64 (kk + 1 + xs[j].names.length), .string xs[j].body.name, .bool xs[j].body.minus, v3, v4, v5, v6] : List Value) ++ (d2 ++ spare))) by simpa [List.append_assoc] using hb)
        have R3 := Lib.hid (bg.row R3.out Dg_F3.out)
        have R4 := Lib.hid (bg.row R4.out Dg_F4.out)
        have R5 := Lib.hid (bg.row R5.out (fun k hk => Dg_K5.out k (List.mem_append_left _ hk)))
        have O5 := Lib.hid (bg.ownCs O5.out (fun k hk => Dg_K5.out k (List.mem_append_right _ hk)))
        have R6 := Lib.hid (bg.row R6.out (fun k hk => Dg_K6.out k (List.mem_append_left _ hk)))
        have O6 := Lib.hid (bg.ownAs O6.out (fun k hk => Dg_K6.out k (List.mem_append_right _ hk)))
        have OD := Lib.hid (bg.ownAs OD.out Dg_G1.out)
        have OR := Lib.hid (bg.ownAs OR.out Dg_H2.out)
        have R1 := Lib.hid (bg.row R1.out Dg_F1.out)
        have BN := Lib.hid (BN.out.trans (bg.mono (fun k hk => by simp [List.mem_singleton.1 hk])))
        clear hb hg hs bg BX4 HPRE4
        go_wp2_with fail
        refine (markText_any (kk + 1 + xs[j].names.length + 1) (by omega) (by omega) _).mono ?_
        rintro e w5 ⟨rfl, hb⟩
        have bn : But [] w4 w5 := But.of_below hb
        have B0 := Lib.hid (B0.out.below hb)
        have R3 := Lib.hid (bn.row R3.out (fun _ _ h => by cases h))
        have R4 := Lib.hid (bn.row R4.out (fun _ _ h => by cases h))
        have R5 := Lib.hid (bn.row R5.out (fun _ _ h => by cases h))
        have O5 := Lib.hid (bn.ownCs O5.out (fun _ _ h => by cases h))
        have R6 := Lib.hid (bn.row R6.out (fun _ _ h => by cases h))
        have O6 := Lib.hid (bn.ownAs O6.out (fun _ _ h => by cases h))
        have OD := Lib.hid (bn.ownAs OD.out (fun _ _ h => by cases h))
        have OR := Lib.hid (bn.ownAs OR.out (fun _ _ h => by cases h))
        have R1 := Lib.hid (bn.row R1.out (fun _ _ h => by cases h))
        have BN := Lib.hid (BN.out.trans (bn.mono (fun k hk => by cases hk)))
        clear hb bn
        have hpre6 : (j * 9 + 3) = ((c1 ++ ([.string (markT kk), v1, .int .i64 (kk + 1 + xs[j].names.length)] : List Value))).length := by rw [List.length_append, hc1]; rfl
        have HPRE6 := Lib.hid hpre6; clear hpre6
        have BX6 := Lib.hid (show Blk w5 g 80 ((c1 ++ ([.string (markT kk), v1, .int .i64 (kk + 1 + xs[j].names.length)] : List Value)) ++ ([.string xs[j].body.name] ++ (([.bool xs[j].body.minus, v3, v4, v5, v6] : List Value) ++ (d2 ++ spare)))) by have := B0.out; simpa [List.append_assoc] using this)
        go_wp2_with ((refine wpList_store_blk g (j * 9 + 3) (c1 ++ ([.string (markT kk), v1, .int .i64 (kk + 1 + xs[j].names.length)] : List Value)) [.string xs[j].body.name] (([.bool xs[j].body.minus, v3, v4, v5, v6] : List Value) ++ (d2 ++ spare)) [.string (markT (kk + 1 + xs[j].names.length + 1))] 80 rfl 9 (.tmp 41) _ rfl rfl HPRE6.out rfl BX6.out rfl (by kernel_rfl) (by intro v hv; rw [List.mem_singleton.1 hv]; rfl) ?_))
        intro w6 hb hg hs
        have bg := But.of_grown hg
        have B0 := Lib.hid (show Blk w6 g 80 (c1 ++ (([.string (markT kk), v1, .int .i64 (kk + 1 + xs[j].names.length), .string (markT (kk + 1 + xs[j].names.length + 1)), .bool xs[j].body.minus, v3, v4, v5, v6] : List Value) ++ (d2 ++ spare))) by simpa [List.append_assoc] using hb)
        have R3 := Lib.hid (bg.row R3.out Dg_F3.out)
        have R4 := Lib.hid (bg.row R4.out Dg_F4.out)
        have R5 := Lib.hid (bg.row R5.out (fun k hk => Dg_K5.out k (List.mem_append_left _ hk)))
        have O5 := Lib.hid (bg.ownCs O5.out (fun k hk => Dg_K5.out k (List.mem_append_right _ hk)))
        have R6 := Lib.hid (bg.row R6.out (fun k hk => Dg_K6.out k (List.mem_append_left _ hk)))
        have O6 := Lib.hid (bg.ownAs O6.out (fun k hk => Dg_K6.out k (List.mem_append_right _ hk)))
        have OD := Lib.hid (bg.ownAs OD.out Dg_G1.out)
        have OR := Lib.hid (bg.ownAs OR.out Dg_H2.out)
        have R1 := Lib.hid (bg.row R1.out Dg_F1.out)
        have BN := Lib.hid (BN.out.trans (bg.mono (fun k hk => by simp [List.mem_singleton.1 hk])))
        clear hb hg hs bg BX6 HPRE6
        have hpre7 : (j * 9 + 4) = ((c1 ++ ([.string (markT kk), v1, .int .i64 (kk + 1 + xs[j].names.length), .string (markT (kk + 1 + xs[j].names.length + 1))] : List Value))).length := by rw [List.length_append, hc1]; rfl
        have HPRE7 := Lib.hid hpre7; clear hpre7
        have BX7 := Lib.hid (show Blk w6 g 80 ((c1 ++ ([.string (markT kk), v1, .int .i64 (kk + 1 + xs[j].names.length), .string (markT (kk + 1 + xs[j].names.length + 1))] : List Value)) ++ ([.bool xs[j].body.minus] ++ (([v3, v4, v5, v6] : List Value) ++ (d2 ++ spare)))) by have := B0.out; simpa [List.append_assoc] using this)
        go_wp2_with ((refine wpList_store_blk g (j * 9 + 4) (c1 ++ ([.string (markT kk), v1, .int .i64 (kk + 1 + xs[j].names.length), .string (markT (kk + 1 + xs[j].names.length + 1))] : List Value)) [.bool xs[j].body.minus] (([v3, v4, v5, v6] : List Value) ++ (d2 ++ spare)) [.bool ((kk + 1 + xs[j].names.length + 1 + 1) % 3 == 0)] 80 rfl 4 (.tmp 52) _ rfl rfl HPRE7.out rfl BX7.out rfl (by kernel_rfl) (by intro v hv; rw [List.mem_singleton.1 hv]; rfl) ?_))
        intro w7 hb hg hs
        have bg := But.of_grown hg
        have B0 := Lib.hid (show Blk w7 g 80 (c1 ++ (([.string (markT kk), v1, .int .i64 (kk + 1 + xs[j].names.length), .string (markT (kk + 1 + xs[j].names.length + 1)), .bool ((kk + 1 + xs[j].names.length + 1 + 1) % 3 == 0), v3, v4, v5, v6] : List Value) ++ (d2 ++ spare))) by simpa [List.append_assoc] using hb)
        have R3 := Lib.hid (bg.row R3.out Dg_F3.out)
        have R4 := Lib.hid (bg.row R4.out Dg_F4.out)
        have R5 := Lib.hid (bg.row R5.out (fun k hk => Dg_K5.out k (List.mem_append_left _ hk)))
        have O5 := Lib.hid (bg.ownCs O5.out (fun k hk => Dg_K5.out k (List.mem_append_right _ hk)))
        have R6 := Lib.hid (bg.row R6.out (fun k hk => Dg_K6.out k (List.mem_append_left _ hk)))
        have O6 := Lib.hid (bg.ownAs O6.out (fun k hk => Dg_K6.out k (List.mem_append_right _ hk)))
        have OD := Lib.hid (bg.ownAs OD.out Dg_G1.out)
        have OR := Lib.hid (bg.ownAs OR.out Dg_H2.out)
        have R1 := Lib.hid (bg.row R1.out Dg_F1.out)
        have BN := Lib.hid (BN.out.trans (bg.mono (fun k hk => by simp [List.mem_singleton.1 hk])))
        clear hb hg hs bg BX7 HPRE7
        have ld := Blk.at (pre := c1 ++ ([.string (markT kk), v1, .int .i64 (kk + 1 + xs[j].names.length), .string (markT (kk + 1 + xs[j].names.length + 1)), .bool ((kk + 1 + xs[j].names.length + 1 + 1) % 3 == 0)] : List Value)) (c := v3) (post := ([v4, v5, v6] : List Value) ++ (d2 ++ spare)) (o := j * 9 + 5) (by have := B0.out; simpa [List.append_assoc] using this) (by rw [List.length_append, hc1]; rfl)
        go_wp2_with fail
        clear ld
        refine (markU_any xs[j].body.limbs v3 F3 (kk + 1 + xs[j].names.length + 1 + 1 + 1) (by omega) (by omega) _ R3.out).mono ?_
        rintro e w8 ⟨rfl, hr, bn⟩
        have B0 := Lib.hid (bn.blk B0.out Ng_F3.out)
        have R4 := Lib.hid (bn.row R4.out DF3_F4.out)
        have R5 := Lib.hid (bn.row R5.out (fun k hk => DF3_K5.out k (List.mem_append_left _ hk)))
        have O5 := Lib.hid (bn.ownCs O5.out (fun k hk => DF3_K5.out k (List.mem_append_right _ hk)))
        have R6 := Lib.hid (bn.row R6.out (fun k hk => DF3_K6.out k (List.mem_append_left _ hk)))
        have O6 := Lib.hid (bn.ownAs O6.out (fun k hk => DF3_K6.out k (List.mem_append_right _ hk)))
        have OD := Lib.hid (bn.ownAs OD.out DF3_G1.out)
        have OR := Lib.hid (bn.ownAs OR.out DF3_H2.out)
        have R1 := Lib.hid (bn.row R1.out DF3_F1.out)
        have R3 := Lib.hid hr
        have BN := Lib.hid (BN.out.trans (bn.mono (fun k hk => by simp [hk])))
        clear hr bn
        have ld := Blk.at (pre := c1 ++ ([.string (markT kk), v1, .int .i64 (kk + 1 + xs[j].names.length), .string (markT (kk + 1 + xs[j].names.length + 1)), .bool ((kk + 1 + xs[j].names.length + 1 + 1) % 3 == 0), v3] : List Value)) (c := v4) (post := ([v5, v6] : List Value) ++ (d2 ++ spare)) (o := j * 9 + 6) (by have := B0.out; simpa [List.append_assoc] using this) (by rw [List.length_append, hc1]; rfl)
        go_wp2_with fail
        clear ld
        refine (markS_any xs[j].body.names v4 F4 (kk + 1 + xs[j].names.length + 1 + 1 + 1 + xs[j].body.limbs.length) (by omega) (by omega) _ R4.out).mono ?_
        rintro e w9 ⟨rfl, hr, bn⟩
        have B0 := Lib.hid (bn.blk B0.out Ng_F4.out)
        have R3 := Lib.hid (bn.row R3.out DF4_F3.out)
        have R5 := Lib.hid (bn.row R5.out (fun k hk => DF4_K5.out k (List.mem_append_left _ hk)))
        have O5 := Lib.hid (bn.ownCs O5.out (fun k hk => DF4_K5.out k (List.mem_append_right _ hk)))
        have R6 := Lib.hid (bn.row R6.out (fun k hk => DF4_K6.out k (List.mem_append_left _ hk)))
        have O6 := Lib.hid (bn.ownAs O6.out (fun k hk => DF4_K6.out k (List.mem_append_right _ hk)))
        have OD := Lib.hid (bn.ownAs OD.out DF4_G1.out)
        have OR := Lib.hid (bn.ownAs OR.out DF4_H2.out)
        have R1 := Lib.hid (bn.row R1.out DF4_F1.out)
        have R4 := Lib.hid hr
        have BN := Lib.hid (BN.out.trans (bn.mono (fun k hk => by simp [hk])))
        clear hr bn
        have ld := Blk.at (pre := c1 ++ ([.string (markT kk), v1, .int .i64 (kk + 1 + xs[j].names.length), .string (markT (kk + 1 + xs[j].names.length + 1)), .bool ((kk + 1 + xs[j].names.length + 1 + 1) % 3 == 0), v3, v4] : List Value)) (c := v5) (post := ([v6] : List Value) ++ (d2 ++ spare)) (o := j * 9 + 7) (by have := B0.out; simpa [List.append_assoc] using this) (by rw [List.length_append, hc1]; rfl)
        go_wp2_with fail
        clear ld
        refine (HIX.out.1 v5 c5 F5 G5 (kk + 1 + xs[j].names.length + 1 + 1 + 1 + xs[j].body.limbs.length + xs[j].body.names.length) _ (by omega) (by omega) R5.out O5.out NK5.out).mono ?_
        rintro e w10 ⟨rfl, ⟨c5', hr, ho⟩, bn⟩
        have B0 := Lib.hid (bn.blk B0.out Ng_K5.out)
        have R3 := Lib.hid (bn.row R3.out DK5_F3.out)
        have R4 := Lib.hid (bn.row R4.out DK5_F4.out)
        have R6 := Lib.hid (bn.row R6.out (fun k hk => DK5_K6.out k (List.mem_append_left _ hk)))
        have O6 := Lib.hid (bn.ownAs O6.out (fun k hk => DK5_K6.out k (List.mem_append_right _ hk)))
        have OD := Lib.hid (bn.ownAs OD.out DK5_G1.out)
        have OR := Lib.hid (bn.ownAs OR.out DK5_H2.out)
        have R1 := Lib.hid (bn.row R1.out DK5_F1.out)
        have R5 := Lib.hid hr
        have O5 := Lib.hid ho
        have BN := Lib.hid (BN.out.trans (bn.mono (fun k hk => by rcases List.mem_append.1 hk with hk | hk <;> simp [hk])))
        clear hr bn ho
        have ld := Blk.at (pre := c1 ++ ([.string (markT kk), v1, .int .i64 (kk + 1 + xs[j].names.length), .string (markT (kk + 1 + xs[j].names.length + 1)), .bool ((kk + 1 + xs[j].names.length + 1 + 1) % 3 == 0), v3, v4, v5] : List Value)) (c := v6) (post := ([] : List Value) ++ (d2 ++ spare)) (o := j * 9 + 8) (by have := B0.out; simpa [List.append_assoc] using this) (by rw [List.length_append, hc1]; rfl)
        go_wp2_with fail
        clear ld
        refine (HIX.out.2 v6 c6 F6 G6 (kk + 1 + xs[j].names.length + 1 + 1 + 1 + xs[j].body.limbs.length + xs[j].body.names.length + cntCs xs[j].body.kids) _ (by omega) (by omega) R6.out O6.out NK6.out).mono ?_
        rintro e w11 ⟨rfl, ⟨c6', hr, ho⟩, bn⟩
        have B0 := Lib.hid (bn.blk B0.out Ng_K6.out)
        have R3 := Lib.hid (bn.row R3.out DK6_F3.out)
        have R4 := Lib.hid (bn.row R4.out DK6_F4.out)
        have R5 := Lib.hid (bn.row R5.out (fun k hk => DK6_K5.out k (List.mem_append_left _ hk)))
        have O5 := Lib.hid (bn.ownCs O5.out (fun k hk => DK6_K5.out k (List.mem_append_right _ hk)))
        have OD := Lib.hid (bn.ownAs OD.out DK6_G1.out)
        have OR := Lib.hid (bn.ownAs OR.out DK6_H2.out)
        have R1 := Lib.hid (bn.row R1.out DK6_F1.out)
        have R6 := Lib.hid hr
        have O6 := Lib.hid ho
        have BN := Lib.hid (BN.out.trans (bn.mono (fun k hk => by rcases List.mem_append.1 hk with hk | hk <;> simp [hk])))
        clear hr bn ho
        have HEL : Hid (OwnA 36 80 w11 (mkA xs[j] kk) [.string (markT kk), v1, .int .i64 (kk + 1 + xs[j].names.length), .string (markT (kk + 1 + xs[j].names.length + 1)), .bool ((kk + 1 + xs[j].names.length + 1 + 1) % 3 == 0), v3, v4, v5, v6] (F1 ++ (F3 ++ (F4 ++ ((F5 ++ G5) ++ (F6 ++ G6)))))) := Lib.hid (by
          rw [mkA_eq, OwnA_eq]
          refine ⟨v1, _, F1, _, rfl, rfl, ?_, ?_⟩
          · show Row _ _ _ (mkS _ _).length _ _; rw [mkS_len]; exact R1.out
          · rw [mkEl_eq, OwnC_eq]
            refine ⟨v3, v4, v5, v6, F3, F4, F5, F6, G5, G6, c5', c6', ?_, rfl, ?_, ?_, ⟨?_, ?_⟩, ⟨?_, ?_⟩⟩
            · simp only [show (kk + 1 + (xs[j].names.length : Int)) + 2 = kk + 1 + (xs[j].names.length : Int) + 1 + 1 by omega]
            · show Row _ _ _ (mkU _ _).length _ _; rw [mkU_len, show kk + 1 + (xs[j].names.length : Int) + 3 = kk + 1 + (xs[j].names.length : Int) + 1 + 1 + 1 by omega]; exact R3.out
            · show Row _ _ _ (mkS _ _).length _ _; rw [mkS_len, show kk + 1 + (xs[j].names.length : Int) + 3 = kk + 1 + (xs[j].names.length : Int) + 1 + 1 + 1 by omega]; exact R4.out
            · show Row _ _ _ (mkCs _ _).length _ _; rw [mkCs_len]; exact R5.out
            · show OwnCs _ _ _ (mkCs _ _) _ _; rw [show kk + 1 + (xs[j].names.length : Int) + 3 = kk + 1 + (xs[j].names.length : Int) + 1 + 1 + 1 by omega]; exact O5.out
            · show Row _ _ _ (mkAs _ _).length _ _; rw [mkAs_len]; exact R6.out
            · show OwnAs _ _ _ (mkAs _ _) _ _; rw [show kk + 1 + (xs[j].names.length : Int) + 3 = kk + 1 + (xs[j].names.length : Int) + 1 + 1 + 1 by omega]; exact O6.out)
        have hend : kk + 1 + xs[j].names.length + 1 + 1 + 1 + xs[j].body.limbs.length + xs[j].body.names.length + cntCs xs[j].body.kids + cntAs xs[j].body.alts = k + (cntAs (xs.take (j + 1)) : Nat) := by rw [HTAKE.out, cntAs_snoc, cntA_eq, cntC_eq]; have := HKK.out; omega
        have HEND := Lib.hid hend; clear hend
        go_wp2
        go_roundw
        case rel =>
          refine ⟨j + 1, c1 ++ [.string (markT kk), v1, .int .i64 (kk + 1 + xs[j].names.length), .string (markT (kk + 1 + xs[j].names.length + 1)), .bool ((kk + 1 + xs[j].names.length + 1 + 1) % 3 == 0), v3, v4, v5, v6], d2, G1 ++ (F1 ++ (F3 ++ (F4 ++ ((F5 ++ G5) ++ (F6 ++ G6))))), H2, by omega, by rw [← HEND.out], by go_num, Lib.hid (by rw [HG.out]; simp only [List.append_assoc]), Lib.hid ?_, OR, by rw [List.length_append, hc1]; simp; omega, Lib.hid (by have := B0.out; simpa [List.append_assoc] using this), Lib.hid ?_⟩
          · rw [HTAKE.out, mkAs_snoc]
            have := HEL.out
            rw [HKK.out] at this ⊢
            exact ownAs_snoc _ _ _ _ _ _ OD.out this
          · refine (HN.out.mono ?_).trans (BN.out.mono ?_)
            · intro k hk; simp only [List.mem_append] at hk ⊢; rcases hk with h | h <;> simp [h]
            · intro k hk; simp only [List.mem_append] at hk ⊢; rcases hk with h | h <;> simp [h]
        case measure => simp [intOf]; omega
      · have hjl : j = xs.length := by omega
        subst hjl
        have hr := HR.out
        rw [List.drop_length, OwnAs] at hr
        obtain ⟨rfl, rfl⟩ := hr
        have hd := HD.out
        rw [List.take_length] at hd
        have OD := Lib.hid hd
        clear hd
        rw [List.take_length]
        go_wp2
        go_ret
        refine ⟨rfl, ⟨c1, .inr ⟨g, cap, spare, rfl, hcap, hcap2, by simpa using HBL.out, rfl⟩, ?_⟩, ?_⟩
        · rw [HG.out, List.append_nil]; exact OD.out
        · rw [HG.out, List.append_nil]; exact HN.out
end Go.Proofs.Ytagfphlhahiplaa.C13
namespace Go.Proofs.Ytagfphlhahiplaa.C13
open Go.RowKit Go.Proofs.YtagfphlhahiplaaW.PrintWords Go.Proofs.Ytagfphlhahiplaa.PFnExactFormatCore
set_option linter.unusedVariables false
set_option linter.unusedSimpArgs false
theorem mark_all (x : CoreT) : MkCsSaid x.kids ∧ MkAsSaid x.alts :=
  coreInd (fun x => MkCsSaid x.kids ∧ MkAsSaid x.alts) (fun c hk ha => ⟨markCs_any c.kids hk, markAs_any c.alts ha⟩) x
def mkTop (x : CoreT) (k : Int) : CoreT := ⟨x.kind, x.name, x.minus, mkU x.limbs k, mkS x.names (k + x.limbs.length), mkCs x.kids (k + x.limbs.length + x.names.length), mkAs x.alts (k + x.limbs.length + x.names.length + cntCs x.kids)⟩
def cntTop (x : CoreT) : Nat := x.limbs.length + x.names.length + cntCs x.kids + cntAs x.alts
theorem But.boxed {F : List Nat} {w W w' : World} (h : But F W w') {cs : List Value} {e : TypeId} (hb : Blk W w.heap.size e cs) (hF : ∀ k ∈ F, k < w.heap.size) : Blk w' w.heap.size e cs := h.blk hb (fun hk => by have := hF _ hk; omega)
set_option maxRecDepth 100000 in
set_option maxHeartbeats 1000000 in
theorem markBig_any (b : Bool) (l : List Int) (v : Value) (F : List Nat) (k : Int) (hk : 1 ≤ k) (hk2 : k + l.length ≤ 1000000000) (w : World) (hr : Row w 108 v l.length (encI .u32 l) F) :
    Calls Try.prog 35 #[.agg #[.bool b, v], .int .i64 k] w fun e w' => e = .returned (.int .i64 (k + l.length)) ∧ Row w' 108 v l.length (encI .u32 (mkU l k)) F ∧ But F w w' := by
  obtain ⟨B3, d3, rfl, _⟩ := hr.slice
  have HR := Lib.hid hr; clear hr
  have HB := Lib.hid (grown_box w (.cells #[.bool b, .slice B3 l.length d3] 32))
  go_enter Try.func35, Try.ntmps35
  go_wp2_with fail
  refine (markU_any l _ F k hk hk2 _ (HR.out.below HB.out)).mono ?_
  rintro e w2 ⟨rfl, h2, b2⟩
  have H2 := Lib.hid h2; have B2 := Lib.hid ((But.of_below (F := F) HB.out).trans b2)
  clear h2 b2
  go_wp2
  go_ret
  exact ⟨rfl, H2.out, B2.out⟩
set_option maxRecDepth 100000 in
set_option maxHeartbeats 2000000 in
theorem markCore_any (x : CoreT) (cs : List Value) (F : List Nat) (k : Int) (hk : 1 ≤ k) (hk2 : k + cntTop x ≤ 1000000000) (w : World) (ho : OwnC 36 80 w x cs F) (hnd : F.Nodup) :
    Calls Try.prog 12 #[.agg cs.toArray, .int .i64 k] w fun e w' => e = .returned (.int .i64 (k + cntTop x)) ∧ OwnC 36 80 w' (mkTop x k) cs F ∧ But F w w' := by
  have hlt := own_lt _ _ _ ho
  rw [OwnC_eq] at ho
  obtain ⟨v3, v4, v5, v6, F3, F4, F5, F6, G5, G6, c5, c6, rfl, rfl, hr3, hr4, ⟨hr5, ho5⟩, ⟨hr6, ho6⟩⟩ := ho
  obtain ⟨-, n4, e3⟩ := List.nodup_append.1 hnd
  obtain ⟨-, n5, e4⟩ := List.nodup_append.1 n4
  obtain ⟨n56, n66, e5⟩ := List.nodup_append.1 n5
  simp only [cntTop] at hk2 ⊢
  have L3 := Lib.hid (show ∀ k ∈ F3, k < w.heap.size from fun k hk => hlt k (by simp [hk]))
  have L4 := Lib.hid (show ∀ k ∈ F4, k < w.heap.size from fun k hk => hlt k (by simp [hk]))
  have L5 := Lib.hid (show ∀ k ∈ F5 ++ G5, k < w.heap.size from fun k hk => hlt k (by rcases List.mem_append.1 hk with h | h <;> simp [h]))
  have L6 := Lib.hid (show ∀ k ∈ F6 ++ G6, k < w.heap.size from fun k hk => hlt k (by rcases List.mem_append.1 hk with h | h <;> simp [h]))
  have D3_4 : Hid (∀ k ∈ F4, k ∉ F3) := Lib.hid (notin' (A := F3) (B := F4) (fun p hp q hq => e3 p hp q (by simp [hq])))
  have D3_5 : Hid (∀ k ∈ F5 ++ G5, k ∉ F3) := Lib.hid (notin' (A := F3) (B := F5 ++ G5) (fun p hp q hq => e3 p hp q (by rcases List.mem_append.1 hq with h | h <;> simp [h])))
  have D3_6 : Hid (∀ k ∈ F6 ++ G6, k ∉ F3) := Lib.hid (notin' (A := F3) (B := F6 ++ G6) (fun p hp q hq => e3 p hp q (by rcases List.mem_append.1 hq with h | h <;> simp [h])))
  have D4_3 : Hid (∀ k ∈ F3, k ∉ F4) := Lib.hid (notin (A := F3) (B := F4) (fun p hp q hq => e3 p hp q (by simp [hq])))
  have D4_5 : Hid (∀ k ∈ F5 ++ G5, k ∉ F4) := Lib.hid (notin' (A := F4) (B := F5 ++ G5) (fun p hp q hq => e4 p hp q (by rcases List.mem_append.1 hq with h | h <;> simp [h])))
  have D4_6 : Hid (∀ k ∈ F6 ++ G6, k ∉ F4) := Lib.hid (notin' (A := F4) (B := F6 ++ G6) (fun p hp q hq => e4 p hp q (by rcases List.mem_append.1 hq with h | h <;> simp [h])))
  have D5_3 : Hid (∀ k ∈ F3, k ∉ F5 ++ G5) := Lib.hid (notin (A := F3) (B := F5 ++ G5) (fun p hp q hq => e3 p hp q (by rcases List.mem_append.1 hq with h | h <;> simp [h])))
  have D5_4 : Hid (∀ k ∈ F4, k ∉ F5 ++ G5) := Lib.hid (notin (A := F4) (B := F5 ++ G5) (fun p hp q hq => e4 p hp q (by rcases List.mem_append.1 hq with h | h <;> simp [h])))
  have D5_6 : Hid (∀ k ∈ F6 ++ G6, k ∉ F5 ++ G5) := Lib.hid (notin' (A := F5 ++ G5) (B := F6 ++ G6) e5)
  have D6_3 : Hid (∀ k ∈ F3, k ∉ F6 ++ G6) := Lib.hid (notin (A := F3) (B := F6 ++ G6) (fun p hp q hq => e3 p hp q (by rcases List.mem_append.1 hq with h | h <;> simp [h])))
  have D6_4 : Hid (∀ k ∈ F4, k ∉ F6 ++ G6) := Lib.hid (notin (A := F4) (B := F6 ++ G6) (fun p hp q hq => e4 p hp q (by rcases List.mem_append.1 hq with h | h <;> simp [h])))
  have D6_5 : Hid (∀ k ∈ F5 ++ G5, k ∉ F6 ++ G6) := Lib.hid (notin (A := F5 ++ G5) (B := F6 ++ G6) e5)
  have NK5 := Lib.hid n56; have NK6 := Lib.hid n66
  have MALL := Lib.hid (mark_all x)
  obtain ⟨B3, d3, rfl, _⟩ := hr3.slice
  obtain ⟨B4, d4, rfl, _⟩ := hr4.slice
  obtain ⟨B5, d5, rfl, _⟩ := hr5.slice
  obtain ⟨B6, d6, rfl, _⟩ := hr6.slice
  obtain ⟨W1, hW1, hp1, hB1, hs1⟩ := boxed w [.int .i64 x.kind, .string x.name, .bool x.minus, .slice B3 x.limbs.length d3, .slice B4 x.names.length d4, .slice B5 x.kids.length d5, .slice B6 x.alts.length d6] 36
  have BP := Lib.hid hp1; have HW1 := Lib.hid hW1
  have BN := Lib.hid (But.of_below (F := F3 ++ (F4 ++ ((F5 ++ G5) ++ (F6 ++ G6)))) hB1)
  have R3 := Lib.hid (hr3.below hB1); have R4 := Lib.hid (hr4.below hB1); have R5 := Lib.hid (hr5.below hB1); have R6 := Lib.hid (hr6.below hB1)
  have O5 := Lib.hid (ownCs_move' ho5 (fun k hk => hB1.block k (ownCs_lt' ho5 k hk))); have O6 := Lib.hid (ownAs_move' ho6 (fun k hk => hB1.block k (ownAs_lt' ho6 k hk)))
  have p2 := hp1.cell (j := 2) rfl; have p3 := hp1.cell (j := 3) rfl
  rw [hW1] at p2 p3
  clear hr3 hr4 hr5 hr6 ho5 ho6 hlt hnd n4 n5 n56 n66 e3 e4 e5 hW1 hp1 hB1 hs1
  go_enter Try.func12, Try.ntmps12
  go_wp2_with fail
  rw [show _ = W1 from HW1.out.symm]
  refine (markBig_any x.minus x.limbs _ F3 k hk (by omega) _ R3.out).mono ?_
  rintro e w2 ⟨rfl, h2, b2⟩
  clear p2 p3
  have R3 := Lib.hid h2; have R4 := Lib.hid (b2.row R4.out D3_4.out); have R5 := Lib.hid (b2.row R5.out (fun k hk => D3_5.out k (List.mem_append_left _ hk))); have O5 := Lib.hid (b2.ownCs O5.out (fun k hk => D3_5.out k (List.mem_append_right _ hk)))
  have R6 := Lib.hid (b2.row R6.out (fun k hk => D3_6.out k (List.mem_append_left _ hk))); have O6 := Lib.hid (b2.ownAs O6.out (fun k hk => D3_6.out k (List.mem_append_right _ hk)))
  have BP := Lib.hid (b2.boxed BP.out L3.out)
  have BN := Lib.hid (BN.out.trans (b2.mono (fun k hk => by simp [hk])))
  have p4 := BP.out.cell (j := 4) rfl
  clear h2 b2
  go_wp2_with fail
  refine (markS_any x.names _ F4 (k + x.limbs.length) (by omega) (by omega) _ R4.out).mono ?_
  rintro e w3 ⟨rfl, h2, b2⟩
  clear p4
  have R4 := Lib.hid h2; have R3 := Lib.hid (b2.row R3.out D4_3.out); have R5 := Lib.hid (b2.row R5.out (fun k hk => D4_5.out k (List.mem_append_left _ hk))); have O5 := Lib.hid (b2.ownCs O5.out (fun k hk => D4_5.out k (List.mem_append_right _ hk)))
  have R6 := Lib.hid (b2.row R6.out (fun k hk => D4_6.out k (List.mem_append_left _ hk))); have O6 := Lib.hid (b2.ownAs O6.out (fun k hk => D4_6.out k (List.mem_append_right _ hk)))
  have BP := Lib.hid (b2.boxed BP.out L4.out)
  have BN := Lib.hid (BN.out.trans (b2.mono (fun k hk => by simp [hk])))
  have p5 := BP.out.cell (j := 5) rfl
  clear h2 b2
  go_wp2_with fail
  refine (MALL.out.1 _ c5 F5 G5 (k + x.limbs.length + x.names.length) _ (by omega) (by omega) R5.out O5.out NK5.out).mono ?_
  rintro e w4 ⟨rfl, ⟨c5', h2, h2'⟩, b2⟩
  clear p5
  have R5 := Lib.hid h2; have O5 := Lib.hid h2'; have R3 := Lib.hid (b2.row R3.out D5_3.out); have R4 := Lib.hid (b2.row R4.out D5_4.out)
  have R6 := Lib.hid (b2.row R6.out (fun k hk => D5_6.out k (List.mem_append_left _ hk))); have O6 := Lib.hid (b2.ownAs O6.out (fun k hk => D5_6.out k (List.mem_append_right _ hk)))
  have BP := Lib.hid (b2.boxed BP.out L5.out)
  have BN := Lib.hid (BN.out.trans (b2.mono (fun k hk => by rcases List.mem_append.1 hk with h | h <;> simp [h])))
  have p6 := BP.out.cell (j := 6) rfl
  clear h2 h2' b2
  go_wp2_with fail
  refine (MALL.out.2 _ c6 F6 G6 (k + x.limbs.length + x.names.length + cntCs x.kids) _ (by omega) (by omega) R6.out O6.out NK6.out).mono ?_
  rintro e w5 ⟨rfl, ⟨c6', h2, h2'⟩, b2⟩
  clear p6
  have R6 := Lib.hid h2; have O6 := Lib.hid h2'; have R3 := Lib.hid (b2.row R3.out D6_3.out); have R4 := Lib.hid (b2.row R4.out D6_4.out)
  have R5 := Lib.hid (b2.row R5.out (fun k hk => D6_5.out k (List.mem_append_left _ hk))); have O5 := Lib.hid (b2.ownCs O5.out (fun k hk => D6_5.out k (List.mem_append_right _ hk)))
  have BN := Lib.hid (BN.out.trans (b2.mono (fun k hk => by rcases List.mem_append.1 hk with h | h <;> simp [h])))
  clear h2 h2' b2
  go_wp2
  go_ret
  refine ⟨?_, ?_, BN.out⟩
  · exact congrArg (fun z => Ending.returned (Value.int .i64 z)) (by omega)
  · rw [OwnC_eq]
    refine ⟨_, _, _, _, F3, F4, F5, F6, G5, G6, c5', c6', rfl, rfl, ?_, ?_, ⟨?_, O5.out⟩, ⟨?_, O6.out⟩⟩
    · show Row _ _ _ (mkU _ _).length _ _; rw [mkU_len]; exact R3.out
    · show Row _ _ _ (mkS _ _).length _ _; rw [mkS_len]; exact R4.out
    · show Row _ _ _ (mkCs _ _).length _ _; rw [mkCs_len]; exact R5.out
    · show Row _ _ _ (mkAs _ _).length _ _; rw [mkAs_len]; exact R6.out
end Go.Proofs.Ytagfphlhahiplaa.C13
namespace Go.Proofs.Ytagfphlhahiplaa.C13
open Go.RowKit Go.Proofs.YtagfphlhahiplaaW.PrintWords Go.Proofs.Ytagfphlhahiplaa.PFnExactFormatCore
set_option linter.unusedVariables false
set_option linter.unusedSimpArgs false
theorem mkU_get (l : List Int) (k : Int) (j : Nat) (h : j < (mkU l k).length) : (mkU l k)[j] = k + j := by
  induction l generalizing k j with
  | nil => simp [mkU] at h
  | cons a r ih =>
    cases j with
    | zero => simp [mkU]
    | succ j =>
      simp only [mkU, List.getElem_cons_succ]
      rw [ih]; omega
theorem mkS_get (l : List ByteArray) (k : Int) (j : Nat) (h : j < (mkS l k).length) : (mkS l k)[j] = markT (k + j) := by
  induction l generalizing k j with
  | nil => simp [mkS] at h
  | cons a r ih =>
    cases j with
    | zero => simp [mkS]
    | succ j =>
      simp only [mkS, List.getElem_cons_succ]
      rw [ih]; congr 1; omega
set_option maxRecDepth 100000 in
set_option maxHeartbeats 1000000 in
theorem heldU_any (l : List Int) (k : Int) (hk : 1 ≤ k) (hk2 : k + l.length ≤ 1000000000) (A : Option Addr) (c : Nat) (w : World) (hC : (Kd.int .u32).C w A l.length (mkU l k)) (hc : l.length ≤ c) :
    Calls Try.prog 70 #[.slice A l.length c, .int .i64 k] w fun e w' => e = .returned (.int .i64 (k + l.length)) ∧ Below w.heap.size w w' := by
  have HC := Lib.hid hC; clear hC
  go_enter Try.func70, Try.ntmps70
  go_wp2_with fail
  go_loop [1, 5] (fun s1 s5 => ∃ j : Nat, j ≤ l.length ∧ s1 = .int .i64 (k + (j : Int)) ∧ s5 = .int .i64 j) (fun _ s5 => l.length - (intOf s5).toNat)
  case atStart => exact ⟨0, Nat.zero_le _, by simp, rfl⟩
  case round =>
    obtain ⟨j, hj, rfl, rfl⟩ := hrel
    by_cases hlt : j < l.length
    · have hlt2 : j < (mkU l k).length := by rw [mkU_len]; exact hlt
      obtain ⟨ad, rfl, g0⟩ := elem_u32 HC.out j hlt2
      rw [mkU_get] at g0
      go_wp2
      go_round
      case rel => exact ⟨j + 1, by omega, by go_num, by go_num⟩
      case measure => simp [intOf]; omega
    · have hjl : j = l.length := by omega
      subst hjl
      go_wp2
      go_ret
      exact ⟨rfl, Below.refl _ _⟩
set_option maxRecDepth 100000 in
set_option maxHeartbeats 1000000 in
theorem heldS_any (l : List ByteArray) (k : Int) (hk : 1 ≤ k) (hk2 : k + l.length ≤ 1000000000) (A : Option Addr) (c : Nat) (w : World) (hC : Kd.string.C w A l.length (mkS l k)) (hc : l.length ≤ c) :
    Calls Try.prog 40 #[.slice A l.length c, .int .i64 k] w fun e w' => e = .returned (.int .i64 (k + l.length)) ∧ Below w.heap.size w w' := by
  have HC := Lib.hid hC; clear hC
  go_enter Try.func40, Try.ntmps40
  go_wp2_with fail
  go_loopw [1, 5] (fun s1 s5 wr => ∃ j : Nat, j ≤ l.length ∧ s1 = .int .i64 (k + (j : Int)) ∧ s5 = .int .i64 j ∧ Hid (Below w.heap.size w wr)) (fun _ s5 _ => l.length - (intOf s5).toNat)
  case atStart => exact ⟨0, Nat.zero_le _, by simp, rfl, Lib.hid (Below.refl _ _)⟩
  case round =>
    obtain ⟨j, hj, rfl, rfl, HB⟩ := hrel
    by_cases hlt : j < l.length
    · have hlt2 : j < (mkS l k).length := by rw [mkS_len]; exact hlt
      obtain ⟨ad, rfl, g0⟩ := elem_str HC.out j hlt2
      rw [mkS_get] at g0
      have KEEP : Hid (∀ w', Below w.heap.size w w' → w'.cell? (ad.add j) = some (.string (markT (k + (j : Int))))) := Lib.hid (fun w' hb => cell_later' hb g0)
      have HBd := Lib.hid (below_drew HB.out)
      have hb0 : Below w.heap.size w wr.drew := HBd.out
      clear g0
      have g1 := KEEP.out _ HB.out
      go_wp2_with fail
      go_region_held3 (fun w' => w'.cell? (ad.add j) = some (.string (markT (k + (j : Int))))) (first | exact KEEP.out _ hb2 | exact KEEP.out _ hb0)
        (first
          | (go_at_call 69; refine (markText_any (k + (j : Int)) (by omega) (by omega) _).mono ?_; rintro e w2 ⟨rfl, hb⟩; have hb2 := Below.step hb0 hb))
      all_goals
        rename_i hheld
        have HB2 := Lib.hid hb2
        clear hheld hb2 hb hb0 g1
        go_wp2
        go_roundw
        case rel => exact ⟨j + 1, by omega, by go_num, by go_num, HB2⟩
        case measure => simp [intOf]; omega
    · have hjl : j = l.length := by omega
      subst hjl
      go_wp2
      go_ret
      exact ⟨rfl, HB.out⟩
end Go.Proofs.Ytagfphlhahiplaa.C13
namespace Go.Proofs.Ytagfphlhahiplaa.C13
open Go.RowKit Go.Proofs.YtagfphlhahiplaaW.PrintWords Go.Proofs.Ytagfphlhahiplaa.PFnExactFormatCore
set_option linter.unusedVariables false
set_option linter.unusedSimpArgs false
theorem mkCs_get (l : List CoreT) (k : Int) (j : Nat) (h : j < (mkCs l k).length) (h2 : j < l.length) : (mkCs l k)[j] = mkEl l[j] (k + (cntCs (l.take j) : Nat)) := by
  induction l generalizing k j with
  | nil => simp at h2
  | cons a r ih =>
    cases j with
    | zero => simp [mkCs, cntCs]
    | succ j =>
      simp only [mkCs, List.getElem_cons_succ, List.take_succ_cons, cntCs]
      rw [ih]
      · congr 1; omega
      · simpa using h2
theorem mkAs_get (l : List AltT) (k : Int) (j : Nat) (h : j < (mkAs l k).length) (h2 : j < l.length) : (mkAs l k)[j] = mkA l[j] (k + (cntAs (l.take j) : Nat)) := by
  induction l generalizing k j with
  | nil => simp at h2
  | cons a r ih =>
    cases j with
    | zero => simp [mkAs, cntAs]
    | succ j =>
      simp only [mkAs, List.getElem_cons_succ, List.take_succ_cons, cntAs]
      rw [ih]
      · congr 1; omega
      · simpa using h2
def HeldCsSaid (xs : List CoreT) : Prop := ∀ (A : Option Addr) (c : Nat) (k : Int) (w : World), 1 ≤ k → k + cntCs xs ≤ 1000000000 → IC.C w A xs.length (mkCs xs k) → xs.length ≤ c →
  Calls Try.prog 41 #[.slice A xs.length c, .int .i64 k] w fun e w' => e = .returned (.int .i64 (k + cntCs xs)) ∧ Below w.heap.size w w'
def HeldAsSaid (xs : List AltT) : Prop := ∀ (A : Option Addr) (c : Nat) (k : Int) (w : World), 1 ≤ k → k + cntAs xs ≤ 1000000000 → IA.C w A xs.length (mkAs xs k) → xs.length ≤ c →
  Calls Try.prog 42 #[.slice A xs.length c, .int .i64 k] w fun e w' => e = .returned (.int .i64 (k + cntAs xs)) ∧ Below w.heap.size w w'
set_option maxRecDepth 100000 in
set_option maxHeartbeats 4000000 in
theorem heldCs_any (xs : List CoreT) (ih : ∀ x ∈ xs, HeldCsSaid x.kids ∧ HeldAsSaid x.alts) : HeldCsSaid xs := by
  intro A c k w hk hk2 hC hc
  have HC := Lib.hid hC; have IH := Lib.hid ih; have HK2 := Lib.hid hk2
  have hlc := hC.2.1
  clear hC ih
  go_enter Try.func41, Try.ntmps41
  go_wp2_with fail
  go_loopw [1, 5] (fun s1 s5 wr => ∃ j : Nat, j ≤ xs.length ∧ s1 = .int .i64 (k + (cntCs (xs.take j) : Nat)) ∧ s5 = .int .i64 j ∧ Hid (Below w.heap.size w wr)) (fun _ s5 _ => xs.length - (intOf s5).toNat)
  case atStart => exact ⟨0, Nat.zero_le _, by simp [cntCs], rfl, Lib.hid (Below.refl _ _)⟩
  case round =>
    obtain ⟨j, hj, rfl, rfl, HB⟩ := hrel
    by_cases hlt : j < xs.length
    · have hlt2 : j < (mkCs xs k).length := by rw [mkCs_len]; exact hlt
      obtain ⟨ad, A3, c3, A4, c4, A5, c5, A6, c6, rfl, hK, g0, g1, g2, g3, g4, g5, g6⟩ := elem_core HC.out j hlt2
      obtain ⟨_, _, _, _, _, _, _, _, he, l3, h3, l4, h4, l5, h5, l6, h6⟩ := core_open hK
      simp only [cellsC, List.cons.injEq, Value.slice.injEq, true_and, and_true] at he
      obtain ⟨⟨rfl, rfl⟩, ⟨rfl, rfl⟩, ⟨rfl, rfl⟩, ⟨rfl, rfl⟩⟩ := he
      clear hK
      have hcnt : (xs.take (j + 1)) = xs.take j ++ [xs[j]] := take_snoc' hlt
      have hck := cntCs_take xs (j + 1)
      rw [hcnt, cntCs_snoc, cntC_eq] at hck
      have HIX := Lib.hid (IH.out _ (List.getElem_mem hlt))
      have HTAKE := Lib.hid hcnt
      clear hcnt
      have hget := mkCs_get xs k j hlt2 hlt
      obtain ⟨kk, hkk⟩ : ∃ kk : Int, kk = k + (cntCs (xs.take j) : Nat) := ⟨_, rfl⟩
      rw [← hkk] at hget ⊢
      have hkk1 : 1 ≤ kk := by omega
      have hkk2 : kk + (3 + xs[j].limbs.length + xs[j].names.length + cntCs xs[j].kids + cntAs xs[j].alts : Nat) ≤ 1000000000 := by have := HK2.out; omega
      have HKK := Lib.hid hkk; clear hkk hck
      rw [hget, mkEl_eq] at g0 g1 g2 g3 g4 g5 g6 h3 h4 h5 h6 l3 l4 l5 l6
      simp only [mkU_len, mkS_len, mkCs_len, mkAs_len] at g0 g1 g2 g3 g4 g5 g6 h3 h4 h5 h6 l3 l4 l5 l6
      simp only [show kk + 2 = kk + 1 + 1 by omega, show kk + 3 = kk + 1 + 1 + 1 by omega] at g2 h3 h4 h5 h6
      have H3 := Lib.hid h3; clear h3
      have H4 := Lib.hid h4; clear h4
      have H5 := Lib.hid h5; clear h5
      have H6 := Lib.hid h6; clear h6
      have Qg0 := Lib.hid g0
      have Qg1 := Lib.hid g1
      have Qg2 := Lib.hid g2
      have Qg3 := Lib.hid g3
      have Qg4 := Lib.hid g4
      have Qg5 := Lib.hid g5
      have Qg6 := Lib.hid g6
      clear g0 g1 g2 g3 g4 g5 g6
      have g0 := cell_later' HB.out Qg0.out
      have KEEP1 : Hid (∀ w', Below w.heap.size w w' → w'.cell? ⟨(ad.add (j * 7)).block, (ad.add (j * 7)).off + 1, none⟩ = some (.string (markT (kk + 1)))) := Lib.hid (fun w' hb => cell_later' hb Qg1.out)
      have g1 := cell_later' HB.out Qg1.out
      go_wp2_with fail
      have hb0 := below_drew HB.out
      go_region_held3 (fun w' => w'.cell? ⟨(ad.add (j * 7)).block, (ad.add (j * 7)).off + 1, none⟩ = some (.string (markT (kk + 1)))) (first | exact KEEP1.out _ hb2 | exact KEEP1.out _ hb0)
        (first
          | (go_at_call 69; refine (markText_any (kk + 1) (by omega) (by omega) _).mono ?_; rintro e w1 ⟨rfl, hb⟩; have hb2 := Below.step hb0 hb))
      all_goals
        rename_i hheld
        have HB := Lib.hid hb2
        clear hheld hb2 hb hb0 g1
        have g2 := cell_later' HB.out Qg2.out
        have g3 := cell_later' HB.out Qg3.out
        go_wp2_with fail
        clear g3
        refine (heldU_any xs[j].limbs (kk + 1 + 1 + 1) (by omega) (by omega) _ _ _ (Kd.C_below H3.out HB.out) l3).mono ?_
        rintro e w2 ⟨rfl, hb⟩
        have HB := Lib.hid (Below.step HB.out hb)
        clear hb
        have hp2 : decide (kk + 1 + 1 + 1 + (xs[j].limbs.length : Int) < 0) = false := decide_eq_false (by omega)
        have hq2 : ¬ (kk + 1 + 1 + 1 + (xs[j].limbs.length : Int) < 0) := by omega
        have g4 := cell_later' HB.out Qg4.out
        go_wp2_with fail
        clear g4
        refine (heldS_any xs[j].names (kk + 1 + 1 + 1 + (xs[j].limbs.length : Int)) (by omega) (by omega) _ _ _ (Kd.C_below H4.out HB.out) l4).mono ?_
        rintro e w3 ⟨rfl, hb⟩
        have HB := Lib.hid (Below.step HB.out hb)
        clear hb
        have hp3 : decide (kk + 1 + 1 + 1 + (xs[j].limbs.length : Int) + (xs[j].names.length : Int) < 0) = false := decide_eq_false (by omega)
        have hq3 : ¬ (kk + 1 + 1 + 1 + (xs[j].limbs.length : Int) + (xs[j].names.length : Int) < 0) := by omega
        have g5 := cell_later' HB.out Qg5.out
        go_wp2_with fail
        clear g5
        refine (HIX.out.1 _ _ (kk + 1 + 1 + 1 + (xs[j].limbs.length : Int) + (xs[j].names.length : Int)) _ (by omega) (by omega) (Kd.C_below H5.out HB.out) l5).mono ?_
        rintro e w4 ⟨rfl, hb⟩
        have HB := Lib.hid (Below.step HB.out hb)
        clear hb
        have hp4 : decide (kk + 1 + 1 + 1 + (xs[j].limbs.length : Int) + (xs[j].names.length : Int) + (cntCs xs[j].kids : Int) < 0) = false := decide_eq_false (by omega)
        have hq4 : ¬ (kk + 1 + 1 + 1 + (xs[j].limbs.length : Int) + (xs[j].names.length : Int) + (cntCs xs[j].kids : Int) < 0) := by omega
        have g6 := cell_later' HB.out Qg6.out
        go_wp2_with fail
        clear g6
        refine (HIX.out.2 _ _ (kk + 1 + 1 + 1 + (xs[j].limbs.length : Int) + (xs[j].names.length : Int) + (cntCs xs[j].kids : Int)) _ (by omega) (by omega) (Kd.C_below H6.out HB.out) l6).mono ?_
        rintro e w5 ⟨rfl, hb⟩
        have HB := Lib.hid (Below.step HB.out hb)
        clear hb
        have hp5 : decide (kk + 1 + 1 + 1 + (xs[j].limbs.length : Int) + (xs[j].names.length : Int) + (cntCs xs[j].kids : Int) + (cntAs xs[j].alts : Int) < 0) = false := decide_eq_false (by omega)
        have hq5 : ¬ (kk + 1 + 1 + 1 + (xs[j].limbs.length : Int) + (xs[j].names.length : Int) + (cntCs xs[j].kids : Int) + (cntAs xs[j].alts : Int) < 0) := by omega
        have hend : kk + 1 + 1 + 1 + (xs[j].limbs.length : Int) + (xs[j].names.length : Int) + (cntCs xs[j].kids : Int) + (cntAs xs[j].alts : Int) = k + (cntCs (xs.take (j + 1)) : Nat) := by rw [HTAKE.out, cntCs_snoc, cntC_eq]; have := HKK.out; omega
        have HEND := Lib.hid hend; clear hend
        go_wp2
        go_roundw
        case rel => exact ⟨j + 1, by omega, by rw [← HEND.out], by go_num, HB⟩
        case measure => simp [intOf]; omega
    · have hjl : j = xs.length := by omega
      subst hjl
      rw [List.take_length]
      go_wp2
      go_ret
      exact ⟨rfl, HB.out⟩
set_option maxRecDepth 100000 in
set_option maxHeartbeats 4000000 in
theorem heldAs_any (xs : List AltT) (ih : ∀ x ∈ xs, HeldCsSaid x.body.kids ∧ HeldAsSaid x.body.alts) : HeldAsSaid xs := by
  intro A c k w hk hk2 hC hc
  have HC := Lib.hid hC; have IH := Lib.hid ih; have HK2 := Lib.hid hk2
  have hlc := hC.2.1
  clear hC ih
  go_enter Try.func42, Try.ntmps42
  go_wp2_with fail
  go_loopw [1, 5] (fun s1 s5 wr => ∃ j : Nat, j ≤ xs.length ∧ s1 = .int .i64 (k + (cntAs (xs.take j) : Nat)) ∧ s5 = .int .i64 j ∧ Hid (Below w.heap.size w wr)) (fun _ s5 _ => xs.length - (intOf s5).toNat)
  case atStart => exact ⟨0, Nat.zero_le _, by simp [cntAs], rfl, Lib.hid (Below.refl _ _)⟩
  case round =>
    obtain ⟨j, hj, rfl, rfl, HB⟩ := hrel
    by_cases hlt : j < xs.length
    · have hlt2 : j < (mkAs xs k).length := by rw [mkAs_len]; exact hlt
      obtain ⟨ad, A1, c1, A3, c3, A4, c4, A5, c5, A6, c6, rfl, -, hK, l1, h1, a0, a1, g0, g1, g2, g3, g4, g5, g6⟩ := elem_alt HC.out j hlt2
      obtain ⟨_, _, _, _, _, _, _, _, he, l3, h3, l4, h4, l5, h5, l6, h6⟩ := core_open hK
      simp only [cellsC, List.cons.injEq, Value.slice.injEq, true_and, and_true] at he
      obtain ⟨⟨rfl, rfl⟩, ⟨rfl, rfl⟩, ⟨rfl, rfl⟩, ⟨rfl, rfl⟩⟩ := he
      clear hK
      have hcnt : (xs.take (j + 1)) = xs.take j ++ [xs[j]] := take_snoc' hlt
      have hck := cntAs_take xs (j + 1)
      rw [hcnt, cntAs_snoc, cntA_eq, cntC_eq] at hck
      have HIX := Lib.hid (IH.out _ (List.getElem_mem hlt))
      have HTAKE := Lib.hid hcnt
      clear hcnt
      have hget := mkAs_get xs k j hlt2 hlt
      obtain ⟨kk, hkk⟩ : ∃ kk : Int, kk = k + (cntAs (xs.take j) : Nat) := ⟨_, rfl⟩
      rw [← hkk] at hget ⊢
      have hkk1 : 1 ≤ kk := by omega
      have hkk2 : kk + (1 + xs[j].names.length + (3 + xs[j].body.limbs.length + xs[j].body.names.length + cntCs xs[j].body.kids + cntAs xs[j].body.alts) : Nat) ≤ 1000000000 := by have := HK2.out; omega
      have HKK := Lib.hid hkk; clear hkk hck
      rw [hget, mkA_eq] at a0 a1 h1 l1 g0 g1 g2 g3 g4 g5 g6 h3 h4 h5 h6 l3 l4 l5 l6
      simp only [mkS_len, mkEl_eq] at a0 a1 h1 l1 g0 g1 g2 g3 g4 g5 g6 h3 h4 h5 h6 l3 l4 l5 l6
      simp only [mkU_len, mkS_len, mkCs_len, mkAs_len] at a0 a1 h1 l1 g0 g1 g2 g3 g4 g5 g6 h3 h4 h5 h6 l3 l4 l5 l6
      simp only [show (kk + 1 + (xs[j].names.length : Int)) + 2 = kk + 1 + (xs[j].names.length : Int) + 1 + 1 by omega, show (kk + 1 + (xs[j].names.length : Int)) + 3 = kk + 1 + (xs[j].names.length : Int) + 1 + 1 + 1 by omega] at g2 h3 h4 h5 h6
      have H1 := Lib.hid h1; clear h1
      have H3 := Lib.hid h3; clear h3
      have H4 := Lib.hid h4; clear h4
      have H5 := Lib.hid h5; clear h5
      have H6 := Lib.hid h6; clear h6
      have Qa0 := Lib.hid a0
      have Qa1 := Lib.hid a1
      have Qg0 := Lib.hid g0
      have Qg1 := Lib.hid g1
      have Qg2 := Lib.hid g2
      have Qg3 := Lib.hid g3
      have Qg4 := Lib.hid g4
      have Qg5 := Lib.hid g5
      have Qg6 := Lib.hid g6
      clear a0 a1 g0 g1 g2 g3 g4 g5 g6
      have KEEP1 : Hid (∀ w', Below w.heap.size w w' → w'.cell? (ad.add (j * 9)) = some (.string (markT (kk)))) := Lib.hid (fun w' hb => cell_later' hb Qa0.out)
      have a0 := cell_later' HB.out Qa0.out
      go_wp2_with fail
      have hb0 := below_drew HB.out
      go_region_held3 (fun w' => w'.cell? (ad.add (j * 9)) = some (.string (markT (kk)))) (first | exact KEEP1.out _ hb2 | exact KEEP1.out _ hb0)
        (first
          | (go_at_call 69; refine (markText_any (kk) (by omega) (by omega) _).mono ?_; rintro e w1 ⟨rfl, hb⟩; have hb2 := Below.step hb0 hb))
      all_goals
        rename_i hheld
        have HB := Lib.hid hb2
        clear hheld hb2 hb hb0 a0
        have a1 := cell_later' HB.out Qa1.out
        go_wp2_with fail
        clear a1
        refine (heldS_any xs[j].names (kk + 1) (by omega) (by omega) _ _ _ (Kd.C_below H1.out HB.out) l1).mono ?_
        rintro e w2 ⟨rfl, hb⟩
        have HB := Lib.hid (Below.step HB.out hb)
        clear hb
        have hp2 : decide (kk + 1 + (xs[j].names.length : Int) < 0) = false := decide_eq_false (by omega)
        have hq2 : ¬ (kk + 1 + (xs[j].names.length : Int) < 0) := by omega
        have g0 := cell_later' HB.out Qg0.out
        have KEEP3 : Hid (∀ w', Below w.heap.size w w' → w'.cell? ⟨(ad.add (j * 9)).block, (ad.add (j * 9)).off + 3, none⟩ = some (.string (markT (kk + 1 + (xs[j].names.length : Int) + 1)))) := Lib.hid (fun w' hb => cell_later' hb Qg1.out)
        have g1 := cell_later' HB.out Qg1.out
        go_wp2_with fail
        have hb0 := below_drew HB.out
        go_region_held3 (fun w' => w'.cell? ⟨(ad.add (j * 9)).block, (ad.add (j * 9)).off + 3, none⟩ = some (.string (markT (kk + 1 + (xs[j].names.length : Int) + 1)))) (first | exact KEEP3.out _ hb2 | exact KEEP3.out _ hb0)
          (first
            | (go_at_call 69; refine (markText_any (kk + 1 + (xs[j].names.length : Int) + 1) (by omega) (by omega) _).mono ?_; rintro e w3 ⟨rfl, hb⟩; have hb2 := Below.step hb0 hb))
        all_goals
          rename_i hheld
          have HB := Lib.hid hb2
          clear hheld hb2 hb hb0 g1
          have g2 := cell_later' HB.out Qg2.out
          have g3 := cell_later' HB.out Qg3.out
          go_wp2_with fail
          clear g3
          refine (heldU_any xs[j].body.limbs (kk + 1 + (xs[j].names.length : Int) + 1 + 1 + 1) (by omega) (by omega) _ _ _ (Kd.C_below H3.out HB.out) l3).mono ?_
          rintro e w4 ⟨rfl, hb⟩
          have HB := Lib.hid (Below.step HB.out hb)
          clear hb
          have hp4 : decide (kk + 1 + (xs[j].names.length : Int) + 1 + 1 + 1 + (xs[j].body.limbs.length : Int) < 0) = false := decide_eq_false (by omega)
          have hq4 : ¬ (kk + 1 + (xs[j].names.length : Int) + 1 + 1 + 1 + (xs[j].body.limbs.length : Int) < 0) := by omega
          have g4 := cell_later' HB.out Qg4.out
          go_wp2_with fail
          clear g4
          refine (heldS_any xs[j].body.names (kk + 1 + (xs[j].names.length : Int) + 1 + 1 + 1 + (xs[j].body.limbs.length : Int)) (by omega) (by omega) _ _ _ (Kd.C_below H4.out HB.out) l4).mono ?_
          rintro e w5 ⟨rfl, hb⟩
          have HB := Lib.hid (Below.step HB.out hb)
          clear hb
          have hp5 : decide (kk + 1 + (xs[j].names.length : Int) + 1 + 1 + 1 + (xs[j].body.limbs.length : Int) + (xs[j].body.names.length : Int) < 0) = false := decide_eq_false (by omega)
          have hq5 : ¬ (kk + 1 + (xs[j].names.length : Int) + 1 + 1 + 1 + (xs[j].body.limbs.length : Int) + (xs[j].body.names.length : Int) < 0) := by omega
          have g5 := cell_later' HB.out Qg5.out
          go_wp2_with fail
          clear g5
          refine (HIX.out.1 _ _ (kk + 1 + (xs[j].names.length : Int) + 1 + 1 + 1 + (xs[j].body.limbs.length : Int) + (xs[j].body.names.length : Int)) _ (by omega) (by omega) (Kd.C_below H5.out HB.out) l5).mono ?_
          rintro e w6 ⟨rfl, hb⟩
          have HB := Lib.hid (Below.step HB.out hb)
          clear hb
          have hp6 : decide (kk + 1 + (xs[j].names.length : Int) + 1 + 1 + 1 + (xs[j].body.limbs.length : Int) + (xs[j].body.names.length : Int) + (cntCs xs[j].body.kids : Int) < 0) = false := decide_eq_false (by omega)
          have hq6 : ¬ (kk + 1 + (xs[j].names.length : Int) + 1 + 1 + 1 + (xs[j].body.limbs.length : Int) + (xs[j].body.names.length : Int) + (cntCs xs[j].body.kids : Int) < 0) := by omega
          have g6 := cell_later' HB.out Qg6.out
          go_wp2_with fail
          clear g6
          refine (HIX.out.2 _ _ (kk + 1 + (xs[j].names.length : Int) + 1 + 1 + 1 + (xs[j].body.limbs.length : Int) + (xs[j].body.names.length : Int) + (cntCs xs[j].body.kids : Int)) _ (by omega) (by omega) (Kd.C_below H6.out HB.out) l6).mono ?_
          rintro e w7 ⟨rfl, hb⟩
          have HB := Lib.hid (Below.step HB.out hb)
          clear hb
          have hp7 : decide (kk + 1 + (xs[j].names.length : Int) + 1 + 1 + 1 + (xs[j].body.limbs.length : Int) + (xs[j].body.names.length : Int) + (cntCs xs[j].body.kids : Int) + (cntAs xs[j].body.alts : Int) < 0) = false := decide_eq_false (by omega)
          have hq7 : ¬ (kk + 1 + (xs[j].names.length : Int) + 1 + 1 + 1 + (xs[j].body.limbs.length : Int) + (xs[j].body.names.length : Int) + (cntCs xs[j].body.kids : Int) + (cntAs xs[j].body.alts : Int) < 0) := by omega
          have hend : kk + 1 + (xs[j].names.length : Int) + 1 + 1 + 1 + (xs[j].body.limbs.length : Int) + (xs[j].body.names.length : Int) + (cntCs xs[j].body.kids : Int) + (cntAs xs[j].body.alts : Int) = k + (cntAs (xs.take (j + 1)) : Nat) := by rw [HTAKE.out, cntAs_snoc, cntA_eq, cntC_eq]; have := HKK.out; omega
          have HEND := Lib.hid hend; clear hend
          go_wp2
          go_roundw
          case rel => exact ⟨j + 1, by omega, by rw [← HEND.out], by go_num, HB⟩
          case measure => simp [intOf]; omega
    · have hjl : j = xs.length := by omega
      subst hjl
      rw [List.take_length]
      go_wp2
      go_ret
      exact ⟨rfl, HB.out⟩
end Go.Proofs.Ytagfphlhahiplaa.C13
namespace Go.Proofs.Ytagfphlhahiplaa.C13
open Go.RowKit Go.Proofs.YtagfphlhahiplaaW.PrintWords Go.Proofs.Ytagfphlhahiplaa.PFnExactFormatCore
set_option linter.unusedVariables false
set_option linter.unusedSimpArgs false
theorem held_all (x : CoreT) : HeldCsSaid x.kids ∧ HeldAsSaid x.alts :=
  coreInd (fun x => HeldCsSaid x.kids ∧ HeldAsSaid x.alts) (fun c hk ha => ⟨heldCs_any c.kids hk, heldAs_any c.alts ha⟩) x
set_option maxRecDepth 100000 in
set_option maxHeartbeats 1000000 in
theorem heldBig_any (b : Bool) (l : List Int) (k : Int) (hk : 1 ≤ k) (hk2 : k + l.length ≤ 1000000000) (A : Option Addr) (c : Nat) (w : World) (hC : (Kd.int .u32).C w A l.length (mkU l k)) (hc : l.length ≤ c) :
    Calls Try.prog 39 #[.agg #[.bool b, .slice A l.length c], .int .i64 k] w fun e w' => e = .returned (.int .i64 (k + l.length)) ∧ Below w.heap.size w w' := by
  have HC := Lib.hid hC; clear hC
  have HB := Lib.hid (grown_box w (.cells #[.bool b, .slice A l.length c] 32))
  go_enter Try.func39, Try.ntmps39
  go_wp2_with fail
  refine (heldU_any l k hk hk2 A c _ (Kd.C_below HC.out HB.out) hc).mono ?_
  rintro e w2 ⟨rfl, hb2⟩
  have HB2 := Lib.hid (Below.step HB.out hb2)
  have hp : decide (k + (l.length : Int) < 0) = false := decide_eq_false (by omega)
  have hq : ¬ (k + (l.length : Int) < 0) := by omega
  clear hb2
  go_wp2
  go_ret
  exact ⟨rfl, HB2.out⟩
set_option maxRecDepth 100000 in
set_option maxHeartbeats 2000000 in
theorem heldCore_any (x : CoreT) (cs : List Value) (k : Int) (hk : 1 ≤ k) (hk2 : k + cntTop x ≤ 1000000000) (w : World) (hK : IC.K w (mkTop x k) cs) :
    Calls Try.prog 13 #[.agg cs.toArray, .int .i64 k] w fun e w' => e = .returned (.int .i64 (k + cntTop x)) ∧ Below w.heap.size w w' := by
  obtain ⟨A3, c3, A4, c4, A5, c5, A6, c6, rfl, l3, h3, l4, h4, l5, h5, l6, h6⟩ := core_open hK
  simp only [cntTop] at hk2 ⊢
  simp only [mkTop, cellsC, mkU_len, mkS_len, mkCs_len, mkAs_len] at *
  have HALL := Lib.hid (held_all x)
  have H3 := Lib.hid h3; have H4 := Lib.hid h4; have H5 := Lib.hid h5; have H6 := Lib.hid h6
  clear h3 h4 h5 h6 hK
  obtain ⟨W1, hW1, hp1, hB1, hs1⟩ := boxed w [.int .i64 x.kind, .string x.name, .bool x.minus, .slice A3 x.limbs.length c3, .slice A4 x.names.length c4, .slice A5 x.kids.length c5, .slice A6 x.alts.length c6] 36
  have BP := Lib.hid hp1; have HW1 := Lib.hid hW1; have HB := Lib.hid hB1
  have p2 := hp1.cell (j := 2) rfl; have p3 := hp1.cell (j := 3) rfl
  rw [hW1] at p2 p3
  clear hW1 hp1 hB1 hs1
  go_enter Try.func13, Try.ntmps13
  go_wp2_with fail
  rw [show _ = W1 from HW1.out.symm]
  refine (heldBig_any x.minus x.limbs k hk (by omega) _ _ _ (Kd.C_below H3.out HB.out) l3).mono ?_
  rintro e w2 ⟨rfl, hb⟩
  clear p2 p3
  have BP := Lib.hid (BP.out.below hb); have HB := Lib.hid (Below.step HB.out hb); clear hb
  have p4 := BP.out.cell (j := 4) rfl
  have hp : decide (k + (x.limbs.length : Int) < 0) = false := decide_eq_false (by omega)
  have hq : ¬ (k + (x.limbs.length : Int) < 0) := by omega
  go_wp2_with fail
  refine (heldS_any x.names (k + x.limbs.length) (by omega) (by omega) _ _ _ (Kd.C_below H4.out HB.out) l4).mono ?_
  rintro e w3 ⟨rfl, hb⟩
  clear p4
  have BP := Lib.hid (BP.out.below hb); have HB := Lib.hid (Below.step HB.out hb); clear hb
  have p5 := BP.out.cell (j := 5) rfl
  have hp2 : decide (k + (x.limbs.length : Int) + (x.names.length : Int) < 0) = false := decide_eq_false (by omega)
  have hq2 : ¬ (k + (x.limbs.length : Int) + (x.names.length : Int) < 0) := by omega
  go_wp2_with fail
  refine (HALL.out.1 _ _ (k + x.limbs.length + x.names.length) _ (by omega) (by omega) (Kd.C_below H5.out HB.out) l5).mono ?_
  rintro e w4 ⟨rfl, hb⟩
  clear p5
  have BP := Lib.hid (BP.out.below hb); have HB := Lib.hid (Below.step HB.out hb); clear hb
  have p6 := BP.out.cell (j := 6) rfl
  have hp3 : decide (k + (x.limbs.length : Int) + (x.names.length : Int) + (cntCs x.kids : Int) < 0) = false := decide_eq_false (by omega)
  have hq3 : ¬ (k + (x.limbs.length : Int) + (x.names.length : Int) + (cntCs x.kids : Int) < 0) := by omega
  go_wp2_with fail
  refine (HALL.out.2 _ _ (k + x.limbs.length + x.names.length + cntCs x.kids) _ (by omega) (by omega) (Kd.C_below H6.out HB.out) l6).mono ?_
  rintro e w5 ⟨rfl, hb⟩
  clear p6
  have HB := Lib.hid (Below.step HB.out hb); clear hb
  have hp4 : decide (k + (x.limbs.length : Int) + (x.names.length : Int) + (cntCs x.kids : Int) + (cntAs x.alts : Int) < 0) = false := decide_eq_false (by omega)
  have hq4 : ¬ (k + (x.limbs.length : Int) + (x.names.length : Int) + (cntCs x.kids : Int) + (cntAs x.alts : Int) < 0) := by omega
  go_wp2
  go_ret
  exact ⟨congrArg (fun z => Ending.returned (Value.int .i64 z)) (by omega), HB.out⟩
theorem cnt_bulk (x : CoreT) : cntC x ≤ 3 + 4 * bulk x := by
  refine coreInd (fun x => cntC x ≤ 3 + 4 * bulk x) (fun c hk ha => ?_) x
  rw [cntC_eq, bulk_eq]
  have h1 : cntCs c.kids ≤ 4 * bulks c.kids := by
    have : ∀ l : List CoreT, (∀ y ∈ l, cntC y ≤ 3 + 4 * bulk y) → cntCs l ≤ 4 * bulks l := by
      intro l
      induction l with
      | nil => intro _; simp [cntCs, bulks]
      | cons a r ih =>
        intro h
        rw [cntCs, bulks]
        have := h a (by simp)
        have := ih (fun y hy => h y (by simp [hy]))
        omega
    exact this _ hk
  have h2 : cntAs c.alts ≤ 4 * abulks c.alts := by
    have : ∀ l : List AltT, (∀ y ∈ l, cntC y.body ≤ 3 + 4 * bulk y.body) → cntAs l ≤ 4 * abulks l := by
      intro l
      induction l with
      | nil => intro _; simp [cntAs, abulks]
      | cons a r ih =>
        intro h
        rw [cntAs, abulks, cntA_eq, abulk_eq]
        have := h a (by simp)
        have := ih (fun y hy => h y (by simp [hy]))
        have := len_strsB a.names
        omega
    exact this _ ha
  have := len_strsB c.names
  omega
theorem cntTop_bulk (x : CoreT) : cntTop x ≤ 4 * bulk x := by
  have h := cnt_bulk x
  rw [cntC_eq] at h
  unfold cntTop
  omega
end Go.Proofs.Ytagfphlhahiplaa.C13
namespace Go.Proofs.Ytagfphlhahiplaa.C13
open Go.RowKit Go.Proofs.YtagfphlhahiplaaW.PrintWords Go.Proofs.Ytagfphlhahiplaa.PFnExactFormatCore
set_option linter.unusedVariables false
set_option linter.unusedSimpArgs false
theorem infoU32c : (Try.prog.info? 108).map (fun i => (i.zero, i.size, i.bytes)) = some (some (.int .u32 0), 1, 4) := by kernel_rfl
theorem infoStr : (Try.prog.info? 9).map (fun i => (i.zero, i.size, i.bytes)) = some (some (.string ⟨#[]⟩), 1, 16) := by kernel_rfl
set_option maxRecDepth 100000
section
variable {ops : Array Oper} {o : Oper} {a : Act} {Q : Exit → Act → World → Prop}
theorem step_copyU {K : Act → World → Prop} {E : Prop} {w : World} (base : Nat) (hgd : o.guard = none) (sl x : Operand)
    (ho : o.op = .call { callee := .builtin .append, args := #[sl, x], argTypes := #[22, 22] }) (b : Nat) (hs : a.eval sl = .slice (some ⟨b, 0, none⟩) 0 0)
    (hown : w.ownsRow base 108 1 (.slice (some ⟨b, 0, none⟩) 0 0) 0 []) (hbase : base ≤ w.heap.size) (A : Option Addr) (c : Nat) (l : List Int) (hx : a.eval x = .slice A l.length c) (hC : (Kd.int .u32).C w A l.length l) (hl : l.length ≤ 1048576)
    (k : ∀ v w', w'.ownsRow base 108 1 v l.length (encI .u32 l) → w.grownBy w' (some b) → (v.ownBlock = some b ∨ ∃ b', v.ownBlock = some b' ∧ w.heap.size ≤ b') → K (a.put o.dst v) w') : if Region.wanted o (yielded ops a.tmps) = true then Oper.wp Try.prog o a w K Q else E := by
  have hw : Region.wanted o (yielded ops a.tmps) = true := by simp [Region.wanted, hgd]
  rw [if_pos hw]
  have := Kd.R_append_rows_step (P := Try.prog) (ops := ops) (Q := Q) (Kc := K) (d := Kd.int .u32) (w0 := w) base hw sl x 22 108 (.int .u32 0) 4 ho Try.underlying22 infoU32c rfl (by decide) (by omega) _ ([] : List Int) l A l.length c (fun _ => True) (fun _ => False) hs hx
    (Kd.R_of_own hown (fun _ _ => trivial)) hC (fun x cs h => h) (fun _ h => h.elim) (fun _ _ => trivial) (Below.refl _ _) hbase (by simp; omega)
    (fun v1 w1 hr _ hg hat => k v1 w1 (own_nums hr) hg hat)
  rwa [if_pos hw] at this
theorem step_copyS {K : Act → World → Prop} {E : Prop} {w : World} (base : Nat) (hgd : o.guard = none) (sl x : Operand)
    (ho : o.op = .call { callee := .builtin .append, args := #[sl, x], argTypes := #[25, 25] }) (b : Nat) (hs : a.eval sl = .slice (some ⟨b, 0, none⟩) 0 0)
    (hown : w.ownsRow base 9 1 (.slice (some ⟨b, 0, none⟩) 0 0) 0 []) (hbase : base ≤ w.heap.size) (A : Option Addr) (c : Nat) (l : List ByteArray) (hx : a.eval x = .slice A l.length c) (hC : Kd.string.C w A l.length l) (hl : l.length ≤ 1048576)
    (k : ∀ v w', w'.ownsRow base 9 1 v l.length (encS l) → w.grownBy w' (some b) → (v.ownBlock = some b ∨ ∃ b', v.ownBlock = some b' ∧ w.heap.size ≤ b') → K (a.put o.dst v) w') : if Region.wanted o (yielded ops a.tmps) = true then Oper.wp Try.prog o a w K Q else E := by
  have hw : Region.wanted o (yielded ops a.tmps) = true := by simp [Region.wanted, hgd]
  rw [if_pos hw]
  have := Kd.R_append_rows_step (P := Try.prog) (ops := ops) (Q := Q) (Kc := K) (d := Kd.string) (w0 := w) base hw sl x 25 9 (.string ⟨#[]⟩) 16 ho Try.underlying25 infoStr rfl (by decide) (by omega) _ ([] : List ByteArray) l A l.length c (fun _ => True) (fun _ => False) hs hx
    (Kd.R_of_own hown (fun _ _ => trivial)) hC (fun x cs h => h) (fun _ h => h.elim) (fun _ _ => trivial) (Below.refl _ _) hbase (by simp; omega)
    (fun v1 w1 hr _ hg hat => k v1 w1 (own_strs hr) hg hat)
  rwa [if_pos hw] at this
/-- a value of several cells stored into a block, at a step of a region that draws -/
theorem step_store_blk {P : Program} {K : Act → World → Prop} {E : Prop} {w : World} (g off : Nat) (pre old post new : List Value) (e : TypeId) (hgd : o.guard = none) (ty : TypeId) (x y : Operand) (ho : o.op = .store ty x y)
    (hx : a.eval x = .pointer (some ⟨g, off, none⟩)) (hoff : off = pre.length) (hy : (a.eval y).cells.toList = new) (hb : Blk w g e (pre ++ (old ++ post))) (hlen : old.length = new.length)
    (hi : (P.info? ty).map (·.size) = some new.length) (h1 : ∀ v ∈ new, v.oneCell' = true)
    (h : ∀ w' : World, Blk w' g e (pre ++ (new ++ post)) → w.grownBy w' (some g) → w'.heap.size = w.heap.size → K (a.put o.dst undef) w') : if Region.wanted o (yielded ops a.tmps) = true then Oper.wp P o a w K Q else E := by
  have hw : Region.wanted o (yielded ops a.tmps) = true := by simp [Region.wanted, hgd]
  rw [if_pos hw]
  subst hoff
  unfold Blk at hb
  have hfit : pre.length + new.length ≤ (pre ++ (old ++ post)).toArray.size := by simp; omega
  have hrun := run_store_run (P := P) ty (a.eval y) new hb hy hi hfit h1
  unfold Oper.wp execOp
  simp only [ho, hx, Sem.run_bind, Sem.run_pure, Result.andThen_ok, hrun]
  have hs := setCells_same g new pre.length w
  refine h _ ?_ ⟨hs.1, hs.2.1, hs.2.2.1, by rw [hs.2.2.2]; exact Nat.le_refl _, fun k _ hk => setCells_far new pre.length k (fun e => hk (by rw [e]))⟩ hs.2.2.2
  obtain ⟨cur', h1', h2', h3'⟩ := setCells_row new pre.length w _ hb hfit
  unfold Blk
  rw [h1']
  have : cur' = (pre ++ (new ++ post)).toArray := by
    apply Array.ext'
    rw [h3']
    simp [List.take_append, List.drop_append, ← hlen]
  rw [this]
end
end Go.Proofs.Ytagfphlhahiplaa.C13
namespace Go.Proofs.Ytagfphlhahiplaa.C13
open Go Go.RowKit Go.Proofs.YtagfphlhahiplaaW.PrintWords Go.Proofs.YtagfphlhahiplaaW.PrintLast Go.Proofs.Ytagfphlhahiplaa.PFnExactFormatCore
set_option linter.unusedVariables false
theorem cell_of_below {w w' : World} (hb : Below w.heap.size w w') {a : Addr} {v : Value} (h : w.cell? a = some v) : w'.cell? a = some v := (hb.cell (World.block_lt_of_cell? w a h)).trans h
theorem below_drewL {w w' : World} (hb : Below w.drew.heap.size w.drew w') : Below w.heap.size w w' := ⟨hb.os, hb.tape, hb.output, hb.size, hb.block⟩
theorem below_trans0 {w w1 w2 : World} (h : Below w.heap.size w w1) (k : Below w1.heap.size w1 w2) : Below w.heap.size w w2 := h.trans (k.mono h.size)
theorem Guar.new (w : World) (o : Obj) : Guar [] w (w.alloc o) [w.heap.size] :=
  ⟨But.of_below ((Below.refl _ _).alloc (Nat.le_refl _) o), fun k hk => .inr (by rw [List.mem_singleton.1 hk]; exact Nat.le_refl _), fun k hk => by rw [List.mem_singleton.1 hk]; simp, by simp⟩
theorem Guar.same {F : List Nat} {w : World} (hn : F.Nodup) (hl : ∀ k ∈ F, k < w.heap.size) : Guar F w w F := ⟨But.refl _ _, fun k hk => .inl hk, hl, hn⟩
theorem Guar.of_below {w w' : World} {F : List Nat} (hb : Below w.heap.size w w') (hn : F.Nodup) (hf : ∀ k ∈ F, w.heap.size ≤ k ∧ k < w'.heap.size) : Guar [] w w' F :=
  ⟨But.of_below hb, fun k hk => .inr (hf k hk).1, fun k hk => (hf k hk).2, hn⟩
theorem Guar.below {B : Nat} {w0 w w' : World} {F F' : List Nat} (h : Guar F w w' F') (hb : Below B w0 w) (hF : ∀ k ∈ F, B ≤ k) (hB : B ≤ w0.heap.size) : Below B w0 w' := hb.trans (h.but.below hF (Nat.le_trans hB hb.size))
theorem guar_snoc {F : List Nat} {w : World} {o : Obj} (hn : F.Nodup) (hl : ∀ k ∈ F, k < w.heap.size) : Guar F w (w.alloc o) (F ++ [w.heap.size]) :=
  ⟨But.of_below ((Below.refl _ _).alloc (Nat.le_refl _) o), fun k hk => (List.mem_append.1 hk).imp id (fun h => by rw [List.mem_singleton.1 h]; exact Nat.le_refl _), fun k hk => by rcases List.mem_append.1 hk with h | h; (have := hl k h; simp; omega); (rw [List.mem_singleton.1 h]; simp), nodup_app hn (by simp) hl (fun k hk => by rw [List.mem_singleton.1 hk]; exact Nat.le_refl _)⟩
/-- a row that has grown out of block b -/
theorem Guar.row {base b : Nat} {w w' : World} {e : TypeId} {v : Value} {n : Nat} {xs : List Value} (hg : w.grownBy w' (some b)) (hat : v.ownBlock = some b ∨ ∃ b', v.ownBlock = some b' ∧ w.heap.size ≤ b') (ho : w'.ownsRow base e 1 v n xs) :
    ∃ F B d, v = .slice B n d ∧ Row w' e (.slice B n d) n xs F ∧ Guar [b] w w' F ∧ ∀ k ∈ F, base ≤ k := by
  obtain ⟨F, hr, hn, hf⟩ := row_of_own ho
  obtain ⟨B, d, rfl, _⟩ := hr.slice
  refine ⟨F, B, d, rfl, hr, ⟨But.of_grown hg, fun k hk => ?_, hr.lt, hn⟩, hf⟩
  rcases hr with ⟨_, _, _, rfl⟩ | ⟨g, cap, spare, hv, _, _, _, rfl⟩
  · cases hk
  · rw [List.mem_singleton.1 hk]
    rw [hv] at hat
    simp only [Value.ownBlock, Option.some.injEq] at hat
    rcases hat with rfl | ⟨b', rfl, h⟩
    · exact .inl (by simp)
    · exact .inr h
theorem own_emp {base b : Nat} {w : World} {e : TypeId} (hb : Blk w b e []) (h : base ≤ b) : w.ownsRow base e 1 (.slice (some ⟨b, 0, none⟩) 0 0) 0 [] := ⟨rfl, .inr ⟨b, 0, #[], rfl, h, hb, Nat.le_refl _, Nat.zero_le _, rfl, rfl⟩⟩
theorem Keep.blk {F : List Nat} {w w' : World} (h : Keep F w w') {g : Nat} {e : TypeId} {cs : List Value} (hb : Blk w g e cs) (hg : g ∈ F) : Blk w' g e cs := hb.move (h.2 g hg)
theorem Keep.row {F : List Nat} {w w' : World} (h : Keep F w w') {e : TypeId} {v : Value} {n : Nat} {cs : List Value} {G : List Nat} (hr : Row w e v n cs G) (hG : ∀ k ∈ G, k ∈ F) : Row w' e v n cs G := hr.move (fun k hk => h.2 k (hG k hk))
theorem Keep.ownC {F : List Nat} {w w' : World} (h : Keep F w w') {e ea : TypeId} {x : CoreT} {cs : List Value} {G : List Nat} (hr : OwnC e ea w x cs G) (hG : ∀ k ∈ G, k ∈ F) : OwnC e ea w' x cs G := own_move x cs G hr (fun k hk => h.2 k (hG k hk))
section
variable {P : Program} {ops : Array Oper} {Lo : Prop} {w0 : World} {Post : (Tmp → Value) → World → List Nat → Prop}
/-- a step that leaves the world alone -/
theorem Thr.value {n i : Nat} {rest : List Nat} {a : Act} {w : World} {F : List Nat} {o : Oper} {v : Value} (N : Option Tmp) (hi : ops[i]? = some o) (hN : o.dst = N) (hB : rest.all (fun j => !rdyT ops (i :: rest) j) = true) (hg : o.guard = none) (hF : F.Nodup) (hl : ∀ k ∈ F, k < w.heap.size)
    (hy : ∀ w', Below w0.heap.size w0 w' → Keep F w w' → (execOp a.eval o).run P w' = .ok (.value v) w')
    (h : ∀ w', Below w0.heap.size w0 w' → Keep F w w' → Thr P ops Lo w0 Post n rest (a.put N v) w' F) : Thr P ops Lo w0 Post (n + 1) (i :: rest) a w F := by
  refine Thr.step N hi hN hB fun w' hb hk K hK => ?_
  rw [if_pos (by simp [Region.wanted, hg])]
  unfold Oper.wp
  rw [hy w' hb hk]
  simp only [Oper.upon]
  rw [hN]
  exact hK.out _ _ F (put_defers _ _ _) hb (Guar.same hF (fun k hk' => Nat.lt_of_lt_of_le (hl k hk') hk.1)) (h w' hb hk)
/-- a step that makes a block -/
theorem Thr.new {n i : Nat} {rest : List Nat} {a : Act} {w : World} {o : Oper} (vf : Nat → Value) (ob : Obj) (N : Option Tmp) (hi : ops[i]? = some o) (hN : o.dst = N) (hB : rest.all (fun j => !rdyT ops (i :: rest) j) = true) (hg : o.guard = none)
    (hy : ∀ w', Below w0.heap.size w0 w' → (execOp a.eval o).run P w' = .ok (.value (vf w'.heap.size)) (w'.alloc ob))
    (h : ∀ g w', w0.heap.size ≤ g → g < w'.heap.size → w'.heap[g]? = some ob → Below w0.heap.size w0 w' → Thr P ops Lo w0 Post n rest (a.put N (vf g)) w' [g]) : Thr P ops Lo w0 Post (n + 1) (i :: rest) a w [] := by
  refine Thr.step N hi hN hB fun w' hb hk K hK => ?_
  rw [if_pos (by simp [Region.wanted, hg])]
  unfold Oper.wp
  rw [hy w' hb]
  simp only [Oper.upon]
  rw [hN]
  have hb' := (Guar.new w' ob).below hb (by simp) (Nat.le_refl _)
  exact hK.out _ _ [w'.heap.size] (put_defers _ _ _) hb' (Guar.new w' ob) (h _ _ hb.size (by simp) (heap_alloc_new w' ob) hb')
end
section
variable {ops : Array Oper} {Lo : Prop} {w0 : World} {Post : (Tmp → Value) → World → List Nat → Prop}
/-- append([]uint32{}, x...), the literal made -/
theorem Thr.copyU {n i : Nat} {rest : List Nat} {a : Act} {w : World} {o : Oper} (N : Option Tmp) (hi : ops[i]? = some o) (hN : o.dst = N) (hB : rest.all (fun j => !rdyT ops (i :: rest) j) = true) (hg : o.guard = none) (sl x : Operand)
    (ho : o.op = .call { callee := .builtin .append, args := #[sl, x], argTypes := #[22, 22] }) (b : Nat) (hs : a.eval sl = .slice (some ⟨b, 0, none⟩) 0 0) (hb : Blk w b 108 []) (hbase : w0.heap.size ≤ b)
    (A : Option Addr) (c : Nat) (l : List Int) (hx : a.eval x = .slice A l.length c) (hC : ∀ w', Below w0.heap.size w0 w' → (Kd.int .u32).C w' A l.length l) (hl : l.length ≤ 1048576)
    (h : ∀ B d w' F, Row w' 108 (.slice B l.length d) l.length (encI .u32 l) F → F.Nodup → (∀ k ∈ F, w0.heap.size ≤ k ∧ k < w'.heap.size) → Below w0.heap.size w0 w' → Thr Try.prog ops Lo w0 Post n rest (a.put N (.slice B l.length d)) w' F) : Thr Try.prog ops Lo w0 Post (n + 1) (i :: rest) a w [b] := by
  refine Thr.step N hi hN hB fun w' hbl hk K hK => ?_
  have := step_copyU (K := K) (Q := NP Lo) (ops := ops) (E := K (a.put N undef) w') (w := w') (a := a) (o := o) w0.heap.size hg sl x ho b hs (own_emp (hk.blk hb (by simp)) hbase) hbl.size A c l hx (hC w' hbl) hl (fun v w3 ho3 hg3 hat => by
    obtain ⟨F, B, d, rfl, hr, hG, hF⟩ := Guar.row hg3 hat ho3
    have hb3 := hG.below hbl (by simpa using hbase) (Nat.le_refl _)
    rw [hN]
    exact hK.out _ _ F (put_defers _ _ _) hb3 hG (h B d w3 F hr hG.nd (fun k hk => ⟨hF k hk, hG.lt k hk⟩) hb3))
  exact this
/-- append([]string{}, x...), the literal made -/
theorem Thr.copyS {n i : Nat} {rest : List Nat} {a : Act} {w : World} {o : Oper} (N : Option Tmp) (hi : ops[i]? = some o) (hN : o.dst = N) (hB : rest.all (fun j => !rdyT ops (i :: rest) j) = true) (hg : o.guard = none) (sl x : Operand)
    (ho : o.op = .call { callee := .builtin .append, args := #[sl, x], argTypes := #[25, 25] }) (b : Nat) (hs : a.eval sl = .slice (some ⟨b, 0, none⟩) 0 0) (hb : Blk w b 9 []) (hbase : w0.heap.size ≤ b)
    (A : Option Addr) (c : Nat) (l : List ByteArray) (hx : a.eval x = .slice A l.length c) (hC : ∀ w', Below w0.heap.size w0 w' → Kd.string.C w' A l.length l) (hl : l.length ≤ 1048576)
    (h : ∀ B d w' F, Row w' 9 (.slice B l.length d) l.length (encS l) F → F.Nodup → (∀ k ∈ F, w0.heap.size ≤ k ∧ k < w'.heap.size) → Below w0.heap.size w0 w' → Thr Try.prog ops Lo w0 Post n rest (a.put N (.slice B l.length d)) w' F) : Thr Try.prog ops Lo w0 Post (n + 1) (i :: rest) a w [b] := by
  refine Thr.step N hi hN hB fun w' hbl hk K hK => ?_
  have := step_copyS (K := K) (Q := NP Lo) (ops := ops) (E := K (a.put N undef) w') (w := w') (a := a) (o := o) w0.heap.size hg sl x ho b hs (own_emp (hk.blk hb (by simp)) hbase) hbl.size A c l hx (hC w' hbl) hl (fun v w3 ho3 hg3 hat => by
    obtain ⟨F, B, d, rfl, hr, hG, hF⟩ := Guar.row hg3 hat ho3
    have hb3 := hG.below hbl (by simpa using hbase) (Nat.le_refl _)
    rw [hN]
    exact hK.out _ _ F (put_defers _ _ _) hb3 hG (h B d w3 F hr hG.nd (fun k hk => ⟨hF k hk, hG.lt k hk⟩) hb3))
  exact this
end
end Go.Proofs.Ytagfphlhahiplaa.C13
