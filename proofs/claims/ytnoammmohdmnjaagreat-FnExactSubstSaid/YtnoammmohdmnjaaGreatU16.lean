import Derived.Test.YtnoammmohdmnjaaGreatU15
set_option maxRecDepth 100000
set_option maxHeartbeats 16000000
set_option linter.unusedVariables false
set_option linter.unusedSimpArgs false
namespace Go.Proofs.YtnoammmohdmnjaaGreat.C13
open Go.RowKit Go.Proofs.YtnoammmohdmnjaaGreatW.PrintWords
open List renaming setIfInBounds_toArray → Jla, set_cons_zero → Jlb, set_cons_succ → Jlc
mutual
def qoj : CoreT → Nat
 | ⟨_, _, _, limbs, names, kids, alts⟩ => 3 + limbs.length + names.length + Zr kids + Jv alts
def Zr : List CoreT → Nat
 | [] => 0
 | c :: r => qoj c + Zr r
def Jv : List AltT → Nat
 | [] => 0
 | a :: r => qzx a + Jv r
def qzx : AltT → Nat
 | ⟨_, names, b⟩ => 1 + names.length + qoj b
end
mutual
def qyy : CoreT → Int → CoreT
 | ⟨_, _, _, limbs, names, kids, alts⟩, k => ⟨k, Zx (k + 1), ((k + 2) % 3 == 0), mkU limbs (k + 3), mkS names (k + 3 + limbs.length), qfc kids (k + 3 + limbs.length + names.length), qfb alts (k + 3 + limbs.length + names.length + Zr kids)⟩
def qfc : List CoreT → Int → List CoreT
 | [], _ => []
 | c :: r, k => qyy c k :: qfc r (k + qoj c)
def qfb : List AltT → Int → List AltT
 | [], _ => []
 | a :: r, k => mkA a k :: qfb r (k + qzx a)
def mkA : AltT → Int → AltT
 | ⟨_, names, b⟩, k => ⟨Zx k, mkS names (k + 1), qyy b (k + 1 + names.length)⟩
end
theorem Ga (x : CoreT) : qoj x = 3 + x.limbs.length + x.names.length + Zr x.kids + Jv x.alts := by cases x; rw [qoj]
theorem qfu (x : AltT) : qzx x = 1 + x.names.length + qoj x.body := by cases x; rw [qzx]
theorem qjm (x : CoreT) (k : Int) : qyy x k = ⟨k, Zx (k + 1), ((k + 2) % 3 == 0), mkU x.limbs (k + 3), mkS x.names (k + 3 + x.limbs.length), qfc x.kids (k + 3 + x.limbs.length + x.names.length), qfb x.alts (k + 3 + x.limbs.length + x.names.length + Zr x.kids)⟩ := by cases x; rw [qyy]
theorem qyx (a : AltT) (k : Int) : mkA a k = ⟨Zx k, mkS a.names (k + 1), qyy a.body (k + 1 + a.names.length)⟩ := by cases a; rw [mkA]
theorem qba (l : List CoreT) (x : CoreT) : Zr (l ++ [x]) = Zr l + qoj x := by
 induction l with
 | nil => simp [Zr]
 | cons c r ih => simp only [List.cons_append, Zr, ih]; omega
theorem qaz (l : List AltT) (x : AltT) : Jv (l ++ [x]) = Jv l + qzx x := by
 induction l with
 | nil => simp [Jv]
 | cons c r ih => simp only [List.cons_append, Jv, ih]; omega
theorem qsy (l : List CoreT) (x : CoreT) (k : Int) : qfc (l ++ [x]) k = qfc l k ++ [qyy x (k + Zr l)] := by
 induction l generalizing k with
 | nil => simp [qfc, Zr]
 | cons c r ih =>
  simp only [List.cons_append, qfc, ih, Zr]
  congr 4
  omega
theorem qsx (l : List AltT) (x : AltT) (k : Int) : qfb (l ++ [x]) k = qfb l k ++ [mkA x (k + Jv l)] := by
 induction l generalizing k with
 | nil => simp [qfb, Jv]
 | cons c r ih =>
  simp only [List.cons_append, qfb, ih, Jv]
  congr 4
  omega
theorem qhu (l : List CoreT) (i : Nat) : Zr (l.take i) ≤ Zr l := by
 induction l generalizing i with
 | nil => simp
 | cons c r ih => cases i with
  | zero => simp [Zr]
  | succ i => simp only [List.take_succ_cons, Zr]; have := ih i; omega
theorem qht (l : List AltT) (i : Nat) : Jv (l.take i) ≤ Jv l := by
 induction l generalizing i with
 | nil => simp
 | cons c r ih => cases i with
  | zero => simp [Jv]
  | succ i => simp only [List.take_succ_cons, Jv]; have := ih i; omega
def qcc (xs : List CoreT) : Prop := ∀ (v : Value) (cells : List Value) (F G : List Nat) (k : Int) (w : World), 1 ≤ k → k + Zr xs ≤ 1000000000 → Row w 35 v xs.length cells F → Ju 35 76 w xs cells G → (F ++ G).Nodup →
 Calls Tryz.prog 36 #[v, .int .i64 k] w fun e w' => e = .returned (.int .i64 (k + Zr xs)) ∧ (∃ cells', Row w' 35 v xs.length cells' F ∧ Ju 35 76 w' (qfc xs k) cells' G) ∧ But (F ++ G) w w'
def qcb (xs : List AltT) : Prop := ∀ (v : Value) (cells : List Value) (F G : List Nat) (k : Int) (w : World), 1 ≤ k → k + Jv xs ≤ 1000000000 → Row w 76 v xs.length cells F → Jt 35 76 w xs cells G → (F ++ G).Nodup →
 Calls Tryz.prog 37 #[v, .int .i64 k] w fun e w' => e = .returned (.int .i64 (k + Jv xs)) ∧ (∃ cells', Row w' 76 v xs.length cells' F ∧ Jt 35 76 w' (qfb xs k) cells' G) ∧ But (F ++ G) w w'
theorem qcs (l : List CoreT) (k : Int) : (qfc l k).length = l.length := by
 induction l generalizing k with
 | nil => rw [qfc]
 | cons a r ih => rw [qfc]; simp [ih]
theorem qcr (l : List AltT) (k : Int) : (qfb l k).length = l.length := by
 induction l generalizing k with
 | nil => rw [qfb]
 | cons a r ih => rw [qfb]; simp [ih]
theorem Blk.at {w : World} {g : Nat} {e : TypeId} {pre post : List Value} {c : Value} (h : Blk w g e (pre ++ (c :: post))) {o : Nat} (ho : o = pre.length) : w.cell? ⟨g, o, none⟩ = some c := by
 subst ho
 exact h.cell (by simp)
theorem But.ownCs {e ea : TypeId} {F : List Nat} {a b : World} (h : But F a b) {l : List CoreT} {cs : List Value} {G : List Nat} (ho : Ju e ea a l cs G) (hn : ∀ k ∈ G, k ∉ F) : Ju e ea b l cs G := Zs ho (fun k hk => h.block k (Yn ho k hk) (hn k hk))
theorem But.ownAs {e ea : TypeId} {F : List Nat} {a b : World} (h : But F a b) {l : List AltT} {cs : List Value} {G : List Nat} (ho : Jt e ea a l cs G) (hn : ∀ k ∈ G, k ∉ F) : Jt e ea b l cs G := Jd ho (fun k hk => h.block k (Gr ho k hk) (hn k hk))
theorem Yf {A B : List Nat} (h : ∀ a ∈ A, ∀ b ∈ B, a ≠ b) : ∀ k ∈ A, k ∉ B := fun k hk hb => h k hk k hb rfl
theorem Xk {A B : List Nat} (h : ∀ a ∈ A, ∀ b ∈ B, a ≠ b) : ∀ k ∈ B, k ∉ A := fun k hk hb => h k hb k hk rfl
theorem f45 {p : Prop} (h : p := by
 obtain ⟨rfl, rfl⟩ := hr
 have hd := HD.out
 rw [List.take_length] at hd
 have OD := Wd hd
 clear hd
 rw [List.take_length]
 go_wp2
 go_ret
 refine ⟨rfl, ⟨c1, .inr ⟨g, cap, spare, rfl, hcap, hcap2, by simpa using HBL.out, rfl⟩, ?_⟩, ?_⟩
 ·rw [HG.out, List.append_nil]; exact OD.out
 ·rw [HG.out, List.append_nil]; exact HN.out) : p := h
theorem f61 {p : Prop} (h : p := by
 intro k hk; simp only [List.mem_append] at hk ⊢; rcases hk with h | h <;> simp [h]) : p := h
theorem f106 {p : Prop} (h : p := by
 show Row _ _ _ (qfc _ _).length _ _; rw [qcs]; exact R5.out) : p := h
theorem f107 {p : Prop} (h : p := by
 show Row _ _ _ (qfb _ _).length _ _; rw [qcr]; exact R6.out) : p := h
theorem qqj (xs : List CoreT) (ih : ∀ x ∈ xs, qcc x.kids ∧ qcb x.alts) : qcc xs := by
 intro v cells F G k w hk hk2 hr ho hnd
 rcases hr with ⟨rfl, hn, hc, rfl⟩ | ⟨g, cap, spare, rfl, hcap, hcap2, hb, rfl⟩
 ·have hl : xs = [] := List.eq_nil_of_length_eq_zero hn
  subst hl
  go_enter Tryz.func36, Tryz.ntmps36
  go_wp2_with fail
  go_loopw [1, 5] (fun s1 s5 wr => s1 = .int .i64 k ∧ s5 = .int .i64 0 ∧ wr = w) (fun _ _ _ => 0)
  case atStart => exact ⟨rfl, rfl, rfl⟩
  case round =>
   obtain ⟨rfl, rfl, rfl⟩ := hrel
   go_wp2
   go_ret
   exact ⟨by simp [Zr], ⟨cells, .inl ⟨rfl, rfl, hc, rfl⟩, by rw [qfc]; exact ho⟩, But.refl _ _⟩
 ·have ⟨HB, HO, ND, IH, HK2⟩ := Wz hb ho hnd ih hk2
  clear hb ho hnd ih
  go_enter Tryz.func36, Tryz.ntmps36
  go_wp2_with fail
  go_loopw [1, 5] (fun s1 s5 wr => ∃ (j : Nat) (c1 c2 : List Value) (G1 G2 : List Nat), j ≤ xs.length ∧ s1 = .int .i64 (k + (Zr (xs.take j) : Nat)) ∧ s5 = .int .i64 j ∧ Hid (G = G1 ++ G2) ∧ Hid (Ju 35 76 wr (qfc (xs.take j) k) c1 G1) ∧ Hid (Ju 35 76 wr (xs.drop j) c2 G2) ∧ c1.length = j * 7 ∧ Hid (Blk wr g 35 (c1 ++ (c2 ++ spare))) ∧ Hid (But ([g] ++ G1) w wr)) (fun _ s5 _ => xs.length - (intOf s5).toNat)
  case atStart => exact ⟨0, [], cells, [], G, Nat.zero_le _, by simp [Zr], rfl, Wd rfl, Wd (by rw [List.take_zero, qfc, Ju]; exact ⟨rfl, rfl⟩), Wd (by rw [List.drop_zero]; exact HO.out), by simp, Wd (by simpa using HB.out), Wd (But.refl _ _)⟩
  case round =>
   obtain ⟨j, c1, c2, G1, G2, hj, rfl, rfl, HG, HD, HR, hc1, HBL, HN⟩ := hrel
   by_cases hlt : j < xs.length
   ·have hdr : xs.drop j = xs[j] :: xs.drop (j + 1) := List.drop_eq_getElem_cons hlt
    have hr := HR.out
    rw [hdr, Ju] at hr
    obtain ⟨d1, d2, H1, H2, rfl, rfl, hx, hrest⟩ := hr
    rw [Xi] at hx
    obtain ⟨v3, v4, v5, v6, F3, F4, F5, F6, G5, G6, c5, c6, rfl, rfl, hr3, hr4, ⟨hr5, ho5⟩, ⟨hr6, ho6⟩⟩ := hx
    have hcnt : (xs.take (j + 1)) = xs.take j ++ [xs[j]] := Qf hlt
    have hck := qhu xs (j + 1)
    rw [hcnt, qba, Ga] at hck
    have HIX := Wd (IH.out _ (List.getElem_mem hlt))
    have HTAKE := Wd hcnt
    clear hcnt hdr HR
    obtain ⟨kk, hkk⟩ : ∃ kk : Int, kk = k + (Zr (xs.take j) : Nat) := ⟨_, rfl⟩
    rw [← hkk]
    have hkk1 : 1 ≤ kk := by omega
    have hkk2 : kk + (3 + xs[j].limbs.length + xs[j].names.length + Zr xs[j].kids + Jv xs[j].alts : Nat) ≤ 1000000000 := by have := HK2.out; omega
    have HKK := Wd hkk; clear hkk hck
    have nd := ND.out
    rw [HG.out, List.singleton_append] at nd
    obtain ⟨ng, n1⟩ := List.nodup_cons.1 nd
    obtain ⟨-, n2, e1⟩ := List.nodup_append.1 n1
    obtain ⟨n3, -, e2⟩ := List.nodup_append.1 n2
    obtain ⟨-, n4, e3⟩ := List.nodup_append.1 n3
    obtain ⟨-, n5, e4⟩ := List.nodup_append.1 n4
    obtain ⟨n56, n66, e5⟩ := List.nodup_append.1 n5
    simp only [List.mem_append, not_or] at ng
    obtain ⟨ng1, ⟨ng3, ng4, ⟨ng5, ng5'⟩, ng6, ng6'⟩, ng2⟩ := ng
    have DF3_F4 : Hid (∀ k ∈ F4, k ∉ F3) := Wd (Xk (A := F3) (B := F4) (fun p hp q hq => e3 p hp q (by simp only [List.mem_append] at hq ⊢; simp [hq])))
    have DF3_K5 : Hid (∀ k ∈ F5 ++ G5, k ∉ F3) := Wd (Xk (A := F3) (B := F5 ++ G5) (fun p hp q hq => e3 p hp q (by simp only [List.mem_append] at hq ⊢; simp [hq])))
    have DF3_K6 : Hid (∀ k ∈ F6 ++ G6, k ∉ F3) := Wd (Xk (A := F3) (B := F6 ++ G6) (fun p hp q hq => e3 p hp q (by simp only [List.mem_append] at hq ⊢; simp [hq])))
    have DF3_G1 : Hid (∀ k ∈ G1, k ∉ F3) := Wd (Yf (A := G1) (B := F3) (fun p hp q hq => e1 p hp q (by simp only [List.mem_append] at hq ⊢; simp [hq])))
    have DF3_H2 : Hid (∀ k ∈ H2, k ∉ F3) := Wd (Xk (A := F3) (B := H2) (fun p hp q hq => e2 p (by simp only [List.mem_append] at hp ⊢; simp [hp]) q hq))
    have DF4_F3 : Hid (∀ k ∈ F3, k ∉ F4) := Wd (Yf (A := F3) (B := F4) (fun p hp q hq => e3 p hp q (by simp only [List.mem_append] at hq ⊢; simp [hq])))
    have DF4_K5 : Hid (∀ k ∈ F5 ++ G5, k ∉ F4) := Wd (Xk (A := F4) (B := F5 ++ G5) (fun p hp q hq => e4 p hp q (by simp only [List.mem_append] at hq ⊢; simp [hq])))
    have DF4_K6 : Hid (∀ k ∈ F6 ++ G6, k ∉ F4) := Wd (Xk (A := F4) (B := F6 ++ G6) (fun p hp q hq => e4 p hp q (by simp only [List.mem_append] at hq ⊢; simp [hq])))
    have DF4_G1 : Hid (∀ k ∈ G1, k ∉ F4) := Wd (Yf (A := G1) (B := F4) (fun p hp q hq => e1 p hp q (by simp only [List.mem_append] at hq ⊢; simp [hq])))
    have DF4_H2 : Hid (∀ k ∈ H2, k ∉ F4) := Wd (Xk (A := F4) (B := H2) (fun p hp q hq => e2 p (by simp only [List.mem_append] at hp ⊢; simp [hp]) q hq))
    have DK5_F3 : Hid (∀ k ∈ F3, k ∉ F5 ++ G5) := Wd (Yf (A := F3) (B := F5 ++ G5) (fun p hp q hq => e3 p hp q (by simp only [List.mem_append] at hq ⊢; simp [hq])))
    have DK5_F4 : Hid (∀ k ∈ F4, k ∉ F5 ++ G5) := Wd (Yf (A := F4) (B := F5 ++ G5) (fun p hp q hq => e4 p hp q (by simp only [List.mem_append] at hq ⊢; simp [hq])))
    have DK5_K6 : Hid (∀ k ∈ F6 ++ G6, k ∉ F5 ++ G5) := Wd (Xk (A := F5 ++ G5) (B := F6 ++ G6) (fun p hp q hq => e5 p hp q (by simp only [List.mem_append] at hq ⊢; simp [hq])))
    have DK5_G1 : Hid (∀ k ∈ G1, k ∉ F5 ++ G5) := Wd (Yf (A := G1) (B := F5 ++ G5) (fun p hp q hq => e1 p hp q (by simp only [List.mem_append] at hq ⊢; simp [hq])))
    have DK5_H2 : Hid (∀ k ∈ H2, k ∉ F5 ++ G5) := Wd (Xk (A := F5 ++ G5) (B := H2) (fun p hp q hq => e2 p (by simp only [List.mem_append] at hp ⊢; simp [hp]) q hq))
    have DK6_F3 : Hid (∀ k ∈ F3, k ∉ F6 ++ G6) := Wd (Yf (A := F3) (B := F6 ++ G6) (fun p hp q hq => e3 p hp q (by simp only [List.mem_append] at hq ⊢; simp [hq])))
    have DK6_F4 : Hid (∀ k ∈ F4, k ∉ F6 ++ G6) := Wd (Yf (A := F4) (B := F6 ++ G6) (fun p hp q hq => e4 p hp q (by simp only [List.mem_append] at hq ⊢; simp [hq])))
    have DK6_K5 : Hid (∀ k ∈ F5 ++ G5, k ∉ F6 ++ G6) := Wd (Yf (A := F5 ++ G5) (B := F6 ++ G6) (fun p hp q hq => e5 p hp q (by simp only [List.mem_append] at hq ⊢; simp [hq])))
    have DK6_G1 : Hid (∀ k ∈ G1, k ∉ F6 ++ G6) := Wd (Yf (A := G1) (B := F6 ++ G6) (fun p hp q hq => e1 p hp q (by simp only [List.mem_append] at hq ⊢; simp [hq])))
    have DK6_H2 : Hid (∀ k ∈ H2, k ∉ F6 ++ G6) := Wd (Xk (A := F6 ++ G6) (B := H2) (fun p hp q hq => e2 p (by simp only [List.mem_append] at hp ⊢; simp [hp]) q hq))
    have Dg_F3 : Hid (∀ k ∈ F3, k ∉ [g]) := Wd (fun k hk h => ng3 (by rw [← List.mem_singleton.1 h]; exact hk))
    have Ng_F3 : Hid (g ∉ F3) := Wd (ng3)
    have Dg_F4 : Hid (∀ k ∈ F4, k ∉ [g]) := Wd (fun k hk h => ng4 (by rw [← List.mem_singleton.1 h]; exact hk))
    have Ng_F4 : Hid (g ∉ F4) := Wd (ng4)
    have Dg_K5 : Hid (∀ k ∈ F5 ++ G5, k ∉ [g]) := Wd (fun k hk h => (by rw [List.mem_singleton.1 h] at hk; rcases List.mem_append.1 hk with h | h; exact ng5 h; exact ng5' h))
    have Ng_K5 : Hid (g ∉ F5 ++ G5) := Wd (fun hk => (by rcases List.mem_append.1 hk with h | h; exact ng5 h; exact ng5' h))
    have Dg_K6 : Hid (∀ k ∈ F6 ++ G6, k ∉ [g]) := Wd (fun k hk h => (by rw [List.mem_singleton.1 h] at hk; rcases List.mem_append.1 hk with h | h; exact ng6 h; exact ng6' h))
    have Ng_K6 : Hid (g ∉ F6 ++ G6) := Wd (fun hk => (by rcases List.mem_append.1 hk with h | h; exact ng6 h; exact ng6' h))
    have Dg_G1 : Hid (∀ k ∈ G1, k ∉ [g]) := Wd (fun k hk h => ng1 (by rw [← List.mem_singleton.1 h]; exact hk))
    have Dg_H2 : Hid (∀ k ∈ H2, k ∉ [g]) := Wd (fun k hk h => ng2 (by rw [← List.mem_singleton.1 h]; exact hk))
    have NK5 := Wd n56; have NK6 := Wd n66
    clear nd ng1 ng2 ng3 ng4 ng5 ng5' ng6 ng6' n1 n2 n3 n4 n5 n56 n66 e1 e2 e3 e4 e5
    have ⟨R3, R4, R5, O5, R6, O6⟩ := Wx hr3 hr4 hr5 ho5 hr6 ho6; have OD := HD; have OR := Wd hrest; have B0 := HBL
    clear hr3 hr4 hr5 ho5 hr6 ho6 hrest HD HBL
    have BN := Wd (But.refl ([g] ++ (F3 ++ (F4 ++ ((F5 ++ G5) ++ (F6 ++ G6))))) wr)
    have hpre1 : (j * 7) = (c1).length := by rw [hc1]
    have HPRE1 := Wd hpre1; clear hpre1
    have BX1 := Wd (show Blk wr g 35 (c1 ++ ([.int .i64 xs[j].kind] ++ (([.string xs[j].name, .bool xs[j].minus, v3, v4, v5, v6] : List Value) ++ (d2 ++ spare)))) by have := B0.out; simpa [List.append_assoc] using this)
    go_wp2_with ((refine Qc g (j * 7) c1 [.int .i64 xs[j].kind] (([.string xs[j].name, .bool xs[j].minus, v3, v4, v5, v6] : List Value) ++ (d2 ++ spare)) [.int .i64 kk] 35 rfl 2 (.tmp 16) _ rfl rfl HPRE1.out rfl BX1.out rfl (by kernel_rfl) (by intro v hv; rw [List.mem_singleton.1 hv]; rfl) ?_))
    intro w1 hb hg hs
    have bg := But.of_grown hg
    have B0 := Wd (show Blk w1 g 35 (c1 ++ (([.int .i64 kk, .string xs[j].name, .bool xs[j].minus, v3, v4, v5, v6] : List Value) ++ (d2 ++ spare))) by simpa [List.append_assoc] using hb)
    have R3 := Wd (bg.row R3.out Dg_F3.out)
    have R4 := Wd (bg.row R4.out Dg_F4.out)
    have R5 := Wd (bg.row R5.out (fun k hk => Dg_K5.out k (List.mem_append_left _ hk)))
    have O5 := Wd (bg.ownCs O5.out (fun k hk => Dg_K5.out k (List.mem_append_right _ hk)))
    have R6 := Wd (bg.row R6.out (fun k hk => Dg_K6.out k (List.mem_append_left _ hk)))
    have O6 := Wd (bg.ownAs O6.out (fun k hk => Dg_K6.out k (List.mem_append_right _ hk)))
    have OD := Wd (bg.ownCs OD.out Dg_G1.out)
    have OR := Wd (bg.ownCs OR.out Dg_H2.out)
    have BN := Wd (BN.out.trans (bg.mono (fun k hk => by simp [List.mem_singleton.1 hk])))
    clear hb hg hs bg BX1 HPRE1
    go_wp2_with fail
    refine (Kg (kk + 1) (by omega) (by omega) _).mono ?_
    rintro e w2 ⟨rfl, hb⟩
    have bn : But [] w1 w2 := But.of_below hb
    have B0 := Wd (B0.out.below hb)
    have R3 := Wd (bn.row R3.out (fun _ _ h => by cases h))
    have R4 := Wd (bn.row R4.out (fun _ _ h => by cases h))
    have R5 := Wd (bn.row R5.out (fun _ _ h => by cases h))
    have O5 := Wd (bn.ownCs O5.out (fun _ _ h => by cases h))
    have R6 := Wd (bn.row R6.out (fun _ _ h => by cases h))
    have O6 := Wd (bn.ownAs O6.out (fun _ _ h => by cases h))
    have OD := Wd (bn.ownCs OD.out (fun _ _ h => by cases h))
    have OR := Wd (bn.ownCs OR.out (fun _ _ h => by cases h))
    have BN := Wd (BN.out.trans (bn.mono (fun k hk => by cases hk)))
    clear hb bn
    have hpre3 : (j * 7 + 1) = ((c1 ++ ([.int .i64 kk] : List Value))).length := by rw [List.length_append, hc1]; rfl
    have HPRE3 := Wd hpre3; clear hpre3
    have BX3 := Wd (show Blk w2 g 35 ((c1 ++ ([.int .i64 kk] : List Value)) ++ ([.string xs[j].name] ++ (([.bool xs[j].minus, v3, v4, v5, v6] : List Value) ++ (d2 ++ spare)))) by have := B0.out; simpa [List.append_assoc] using this)
    go_wp2_with ((refine Qc g (j * 7 + 1) (c1 ++ ([.int .i64 kk] : List Value)) [.string xs[j].name] (([.bool xs[j].minus, v3, v4, v5, v6] : List Value) ++ (d2 ++ spare)) [.string (Zx (kk + 1))] 35 rfl 9 (.tmp 24) _ rfl rfl HPRE3.out rfl BX3.out rfl (by kernel_rfl) (by intro v hv; rw [List.mem_singleton.1 hv]; rfl) ?_))
    intro w3 hb hg hs
    have bg := But.of_grown hg
    have B0 := Wd (show Blk w3 g 35 (c1 ++ (([.int .i64 kk, .string (Zx (kk + 1)), .bool xs[j].minus, v3, v4, v5, v6] : List Value) ++ (d2 ++ spare))) by simpa [List.append_assoc] using hb)
    have R3 := Wd (bg.row R3.out Dg_F3.out)
    have R4 := Wd (bg.row R4.out Dg_F4.out)
    have R5 := Wd (bg.row R5.out (fun k hk => Dg_K5.out k (List.mem_append_left _ hk)))
    have O5 := Wd (bg.ownCs O5.out (fun k hk => Dg_K5.out k (List.mem_append_right _ hk)))
    have R6 := Wd (bg.row R6.out (fun k hk => Dg_K6.out k (List.mem_append_left _ hk)))
    have O6 := Wd (bg.ownAs O6.out (fun k hk => Dg_K6.out k (List.mem_append_right _ hk)))
    have OD := Wd (bg.ownCs OD.out Dg_G1.out)
    have OR := Wd (bg.ownCs OR.out Dg_H2.out)
    have BN := Wd (BN.out.trans (bg.mono (fun k hk => by simp [List.mem_singleton.1 hk])))
    clear hb hg hs bg BX3 HPRE3
    have hpre4 : (j * 7 + 2) = ((c1 ++ ([.int .i64 kk, .string (Zx (kk + 1))] : List Value))).length := by rw [List.length_append, hc1]; rfl
    have HPRE4 := Wd hpre4; clear hpre4
    have BX4 := Wd (show Blk w3 g 35 ((c1 ++ ([.int .i64 kk, .string (Zx (kk + 1))] : List Value)) ++ ([.bool xs[j].minus] ++ (([v3, v4, v5, v6] : List Value) ++ (d2 ++ spare)))) by have := B0.out; simpa [List.append_assoc] using this)
    go_wp2_with ((refine Qc g (j * 7 + 2) (c1 ++ ([.int .i64 kk, .string (Zx (kk + 1))] : List Value)) [.bool xs[j].minus] (([v3, v4, v5, v6] : List Value) ++ (d2 ++ spare)) [.bool ((kk + 1 + 1) % 3 == 0)] 35 rfl 4 (.tmp 34) _ rfl rfl HPRE4.out rfl BX4.out rfl (by kernel_rfl) (by intro v hv; rw [List.mem_singleton.1 hv]; rfl) ?_))
    intro w4 hb hg hs
    have bg := But.of_grown hg
    have B0 := Wd (show Blk w4 g 35 (c1 ++ (([.int .i64 kk, .string (Zx (kk + 1)), .bool ((kk + 1 + 1) % 3 == 0), v3, v4, v5, v6] : List Value) ++ (d2 ++ spare))) by simpa [List.append_assoc] using hb)
    have R3 := Wd (bg.row R3.out Dg_F3.out)
    have R4 := Wd (bg.row R4.out Dg_F4.out)
    have R5 := Wd (bg.row R5.out (fun k hk => Dg_K5.out k (List.mem_append_left _ hk)))
    have O5 := Wd (bg.ownCs O5.out (fun k hk => Dg_K5.out k (List.mem_append_right _ hk)))
    have R6 := Wd (bg.row R6.out (fun k hk => Dg_K6.out k (List.mem_append_left _ hk)))
    have O6 := Wd (bg.ownAs O6.out (fun k hk => Dg_K6.out k (List.mem_append_right _ hk)))
    have OD := Wd (bg.ownCs OD.out Dg_G1.out)
    have OR := Wd (bg.ownCs OR.out Dg_H2.out)
    have BN := Wd (BN.out.trans (bg.mono (fun k hk => by simp [List.mem_singleton.1 hk])))
    clear hb hg hs bg BX4 HPRE4
    have ld := Blk.at (pre := c1 ++ ([.int .i64 kk, .string (Zx (kk + 1)), .bool ((kk + 1 + 1) % 3 == 0)] : List Value)) (c := v3) (post := ([v4, v5, v6] : List Value) ++ (d2 ++ spare)) (o := j * 7 + 3) (by have := B0.out; simpa [List.append_assoc] using this) (by rw [List.length_append, hc1]; rfl)
    go_wp2_with fail
    clear ld
    refine (qgj xs[j].limbs v3 F3 (kk + 1 + 1 + 1) (by omega) (by omega) _ R3.out).mono ?_
    rintro e w5 ⟨rfl, hr, bn⟩
    have B0 := Wd (bn.blk B0.out Ng_F3.out)
    have R4 := Wd (bn.row R4.out DF3_F4.out)
    have R5 := Wd (bn.row R5.out (fun k hk => DF3_K5.out k (List.mem_append_left _ hk)))
    have O5 := Wd (bn.ownCs O5.out (fun k hk => DF3_K5.out k (List.mem_append_right _ hk)))
    have R6 := Wd (bn.row R6.out (fun k hk => DF3_K6.out k (List.mem_append_left _ hk)))
    have O6 := Wd (bn.ownAs O6.out (fun k hk => DF3_K6.out k (List.mem_append_right _ hk)))
    have OD := Wd (bn.ownCs OD.out DF3_G1.out)
    have OR := Wd (bn.ownCs OR.out DF3_H2.out)
    have R3 := Wd hr
    have BN := Wd (BN.out.trans (bn.mono (fun k hk => by simp [hk])))
    clear hr bn
    have ld := Blk.at (pre := c1 ++ ([.int .i64 kk, .string (Zx (kk + 1)), .bool ((kk + 1 + 1) % 3 == 0), v3] : List Value)) (c := v4) (post := ([v5, v6] : List Value) ++ (d2 ++ spare)) (o := j * 7 + 4) (by have := B0.out; simpa [List.append_assoc] using this) (by rw [List.length_append, hc1]; rfl)
    go_wp2_with fail
    clear ld
    refine (qcp xs[j].names v4 F4 (kk + 1 + 1 + 1 + xs[j].limbs.length) (by omega) (by omega) _ R4.out).mono ?_
    rintro e w6 ⟨rfl, hr, bn⟩
    have B0 := Wd (bn.blk B0.out Ng_F4.out)
    have R3 := Wd (bn.row R3.out DF4_F3.out)
    have R5 := Wd (bn.row R5.out (fun k hk => DF4_K5.out k (List.mem_append_left _ hk)))
    have O5 := Wd (bn.ownCs O5.out (fun k hk => DF4_K5.out k (List.mem_append_right _ hk)))
    have R6 := Wd (bn.row R6.out (fun k hk => DF4_K6.out k (List.mem_append_left _ hk)))
    have O6 := Wd (bn.ownAs O6.out (fun k hk => DF4_K6.out k (List.mem_append_right _ hk)))
    have OD := Wd (bn.ownCs OD.out DF4_G1.out)
    have OR := Wd (bn.ownCs OR.out DF4_H2.out)
    have R4 := Wd hr
    have BN := Wd (BN.out.trans (bn.mono (fun k hk => by simp [hk])))
    clear hr bn
    have ld := Blk.at (pre := c1 ++ ([.int .i64 kk, .string (Zx (kk + 1)), .bool ((kk + 1 + 1) % 3 == 0), v3, v4] : List Value)) (c := v5) (post := ([v6] : List Value) ++ (d2 ++ spare)) (o := j * 7 + 5) (by have := B0.out; simpa [List.append_assoc] using this) (by rw [List.length_append, hc1]; rfl)
    go_wp2_with fail
    clear ld
    refine (HIX.out.1 v5 c5 F5 G5 (kk + 1 + 1 + 1 + xs[j].limbs.length + xs[j].names.length) _ (by omega) (by omega) R5.out O5.out NK5.out).mono ?_
    rintro e w7 ⟨rfl, ⟨c5', hr, ho⟩, bn⟩
    have B0 := Wd (bn.blk B0.out Ng_K5.out)
    have R3 := Wd (bn.row R3.out DK5_F3.out)
    have R4 := Wd (bn.row R4.out DK5_F4.out)
    have R6 := Wd (bn.row R6.out (fun k hk => DK5_K6.out k (List.mem_append_left _ hk)))
    have O6 := Wd (bn.ownAs O6.out (fun k hk => DK5_K6.out k (List.mem_append_right _ hk)))
    have OD := Wd (bn.ownCs OD.out DK5_G1.out)
    have OR := Wd (bn.ownCs OR.out DK5_H2.out)
    have R5 := Wd hr
    have O5 := Wd ho
    have BN := Wd (BN.out.trans (bn.mono (fun k hk => by rcases List.mem_append.1 hk with hk | hk <;> simp [hk])))
    clear hr bn ho
    have ld := Blk.at (pre := c1 ++ ([.int .i64 kk, .string (Zx (kk + 1)), .bool ((kk + 1 + 1) % 3 == 0), v3, v4, v5] : List Value)) (c := v6) (post := ([] : List Value) ++ (d2 ++ spare)) (o := j * 7 + 6) (by have := B0.out; simpa [List.append_assoc] using this) (by rw [List.length_append, hc1]; rfl)
    go_wp2_with fail
    clear ld
    refine (HIX.out.2 v6 c6 F6 G6 (kk + 1 + 1 + 1 + xs[j].limbs.length + xs[j].names.length + Zr xs[j].kids) _ (by omega) (by omega) R6.out O6.out NK6.out).mono ?_
    rintro e w8 ⟨rfl, ⟨c6', hr, ho⟩, bn⟩
    have B0 := Wd (bn.blk B0.out Ng_K6.out)
    have R3 := Wd (bn.row R3.out DK6_F3.out)
    have R4 := Wd (bn.row R4.out DK6_F4.out)
    have R5 := Wd (bn.row R5.out (fun k hk => DK6_K5.out k (List.mem_append_left _ hk)))
    have O5 := Wd (bn.ownCs O5.out (fun k hk => DK6_K5.out k (List.mem_append_right _ hk)))
    have OD := Wd (bn.ownCs OD.out DK6_G1.out)
    have OR := Wd (bn.ownCs OR.out DK6_H2.out)
    have R6 := Wd hr
    have O6 := Wd ho
    have BN := Wd (BN.out.trans (bn.mono (fun k hk => by rcases List.mem_append.1 hk with hk | hk <;> simp [hk])))
    clear hr bn ho
    have HEL : Hid (Ke 35 76 w8 (qyy xs[j] kk) [.int .i64 kk, .string (Zx (kk + 1)), .bool ((kk + 1 + 1) % 3 == 0), v3, v4, v5, v6] (F3 ++ (F4 ++ ((F5 ++ G5) ++ (F6 ++ G6))))) := Wd (by
     rw [qjm, Xi]
     refine ⟨v3, v4, v5, v6, F3, F4, F5, F6, G5, G6, c5', c6', ?_, rfl, ?_, ?_, ⟨?_, ?_⟩, ⟨?_, ?_⟩⟩
     ·simp only [show kk + 2 = kk + 1 + 1 by omega]
     ·show Row _ _ _ (mkU _ _).length _ _; rw [Hn, show kk + 3 = kk + 1 + 1 + 1 by omega]; exact R3.out
     ·show Row _ _ _ (mkS _ _).length _ _; rw [Ul, show kk + 3 = kk + 1 + 1 + 1 by omega]; exact R4.out
     ·exact f106
     ·show Ju _ _ _ (qfc _ _) _ _; rw [show kk + 3 = kk + 1 + 1 + 1 by omega]; exact O5.out
     ·exact f107
     ·show Jt _ _ _ (qfb _ _) _ _; rw [show kk + 3 = kk + 1 + 1 + 1 by omega]; exact O6.out)
    have hend : kk + 1 + 1 + 1 + xs[j].limbs.length + xs[j].names.length + Zr xs[j].kids + Jv xs[j].alts = k + (Zr (xs.take (j + 1)) : Nat) := by rw [HTAKE.out, qba, Ga]; have := HKK.out; omega
    have HEND := Wd hend; clear hend
    go_wp2
    go_roundw
    case rel =>
     refine ⟨j + 1, c1 ++ [.int .i64 kk, .string (Zx (kk + 1)), .bool ((kk + 1 + 1) % 3 == 0), v3, v4, v5, v6], d2, G1 ++ (F3 ++ (F4 ++ ((F5 ++ G5) ++ (F6 ++ G6)))), H2, by omega, by rw [← HEND.out], by go_num, Wd (by rw [HG.out]; simp only [List.append_assoc]), Wd ?_, OR, by rw [List.length_append, hc1]; simp; omega, Wd (by have := B0.out; simpa [List.append_assoc] using this), Wd ?_⟩
     ·rw [HTAKE.out, qsy]
      have := HEL.out
      rw [HKK.out] at this ⊢
      exact qbe _ _ _ _ _ _ OD.out this
     ·refine (HN.out.mono ?_).trans (BN.out.mono ?_)
      ·exact f61
      ·exact f61
    case measure => simp [intOf]; omega
   ·have hjl : j = xs.length := by omega
    subst hjl
    have hr := HR.out
    rw [List.drop_length, Ju] at hr
    exact f45
theorem qqi (xs : List AltT) (ih : ∀ x ∈ xs, qcc x.body.kids ∧ qcb x.body.alts) : qcb xs := by
 intro v cells F G k w hk hk2 hr ho hnd
 rcases hr with ⟨rfl, hn, hc, rfl⟩ | ⟨g, cap, spare, rfl, hcap, hcap2, hb, rfl⟩
 ·have hl : xs = [] := List.eq_nil_of_length_eq_zero hn
  subst hl
  go_enter Tryz.func37, Tryz.ntmps37
  go_wp2_with fail
  go_loopw [1, 5] (fun s1 s5 wr => s1 = .int .i64 k ∧ s5 = .int .i64 0 ∧ wr = w) (fun _ _ _ => 0)
  case atStart => exact ⟨rfl, rfl, rfl⟩
  case round =>
   obtain ⟨rfl, rfl, rfl⟩ := hrel
   go_wp2
   go_ret
   exact ⟨by simp [Jv], ⟨cells, .inl ⟨rfl, rfl, hc, rfl⟩, by rw [qfb]; exact ho⟩, But.refl _ _⟩
 ·have ⟨HB, HO, ND, IH, HK2⟩ := Wz hb ho hnd ih hk2
  clear hb ho hnd ih
  go_enter Tryz.func37, Tryz.ntmps37
  go_wp2_with fail
  go_loopw [1, 5] (fun s1 s5 wr => ∃ (j : Nat) (c1 c2 : List Value) (G1 G2 : List Nat), j ≤ xs.length ∧ s1 = .int .i64 (k + (Jv (xs.take j) : Nat)) ∧ s5 = .int .i64 j ∧ Hid (G = G1 ++ G2) ∧ Hid (Jt 35 76 wr (qfb (xs.take j) k) c1 G1) ∧ Hid (Jt 35 76 wr (xs.drop j) c2 G2) ∧ c1.length = j * 9 ∧ Hid (Blk wr g 76 (c1 ++ (c2 ++ spare))) ∧ Hid (But ([g] ++ G1) w wr)) (fun _ s5 _ => xs.length - (intOf s5).toNat)
  case atStart => exact ⟨0, [], cells, [], G, Nat.zero_le _, by simp [Jv], rfl, Wd rfl, Wd (by rw [List.take_zero, qfb, Jt]; exact ⟨rfl, rfl⟩), Wd (by rw [List.drop_zero]; exact HO.out), by simp, Wd (by simpa using HB.out), Wd (But.refl _ _)⟩
  case round =>
   obtain ⟨j, c1, c2, G1, G2, hj, rfl, rfl, HG, HD, HR, hc1, HBL, HN⟩ := hrel
   by_cases hlt : j < xs.length
   ·have hdr : xs.drop j = xs[j] :: xs.drop (j + 1) := List.drop_eq_getElem_cons hlt
    have hr := HR.out
    rw [hdr, Jt] at hr
    obtain ⟨d1, d2, H1, H2, rfl, rfl, hx, hrest⟩ := hr
    rw [Xw] at hx
    obtain ⟨v1, cb, F1, FB, rfl, rfl, hr1, hx⟩ := hx
    rw [Xi] at hx
    obtain ⟨v3, v4, v5, v6, F3, F4, F5, F6, G5, G6, c5, c6, rfl, rfl, hr3, hr4, ⟨hr5, ho5⟩, ⟨hr6, ho6⟩⟩ := hx
    have hcnt : (xs.take (j + 1)) = xs.take j ++ [xs[j]] := Qf hlt
    have hck := qht xs (j + 1)
    rw [hcnt, qaz, qfu, Ga] at hck
    have HIX := Wd (IH.out _ (List.getElem_mem hlt))
    have HTAKE := Wd hcnt
    clear hcnt hdr HR
    obtain ⟨kk, hkk⟩ : ∃ kk : Int, kk = k + (Jv (xs.take j) : Nat) := ⟨_, rfl⟩
    rw [← hkk]
    have hkk1 : 1 ≤ kk := by omega
    have hkk2 : kk + (1 + xs[j].names.length + (3 + xs[j].body.limbs.length + xs[j].body.names.length + Zr xs[j].body.kids + Jv xs[j].body.alts) : Nat) ≤ 1000000000 := by have := HK2.out; omega
    have HKK := Wd hkk; clear hkk hck
    have nd := ND.out
    rw [HG.out, List.singleton_append] at nd
    obtain ⟨ng, n1⟩ := List.nodup_cons.1 nd
    obtain ⟨-, n2, e1⟩ := List.nodup_append.1 n1
    obtain ⟨n3, -, e2⟩ := List.nodup_append.1 n2
    obtain ⟨-, n3, e0⟩ := List.nodup_append.1 n3
    obtain ⟨-, n4, e3⟩ := List.nodup_append.1 n3
    obtain ⟨-, n5, e4⟩ := List.nodup_append.1 n4
    obtain ⟨n56, n66, e5⟩ := List.nodup_append.1 n5
    simp only [List.mem_append, not_or] at ng
    obtain ⟨ng1, ⟨ng0, ng3, ng4, ⟨ng5, ng5'⟩, ng6, ng6'⟩, ng2⟩ := ng
    have DF1_F3 : Hid (∀ k ∈ F3, k ∉ F1) := Wd (Xk (A := F1) (B := F3) (fun p hp q hq => e0 p hp q (by simp only [List.mem_append] at hq ⊢; simp [hq])))
    have DF1_F4 : Hid (∀ k ∈ F4, k ∉ F1) := Wd (Xk (A := F1) (B := F4) (fun p hp q hq => e0 p hp q (by simp only [List.mem_append] at hq ⊢; simp [hq])))
    have DF1_K5 : Hid (∀ k ∈ F5 ++ G5, k ∉ F1) := Wd (Xk (A := F1) (B := F5 ++ G5) (fun p hp q hq => e0 p hp q (by simp only [List.mem_append] at hq ⊢; simp [hq])))
    have DF1_K6 : Hid (∀ k ∈ F6 ++ G6, k ∉ F1) := Wd (Xk (A := F1) (B := F6 ++ G6) (fun p hp q hq => e0 p hp q (by simp only [List.mem_append] at hq ⊢; simp [hq])))
    have DF1_G1 : Hid (∀ k ∈ G1, k ∉ F1) := Wd (Yf (A := G1) (B := F1) (fun p hp q hq => e1 p hp q (by simp only [List.mem_append] at hq ⊢; simp [hq])))
    have DF1_H2 : Hid (∀ k ∈ H2, k ∉ F1) := Wd (Xk (A := F1) (B := H2) (fun p hp q hq => e2 p (by simp only [List.mem_append] at hp ⊢; simp [hp]) q hq))
    have DF3_F1 : Hid (∀ k ∈ F1, k ∉ F3) := Wd (Yf (A := F1) (B := F3) (fun p hp q hq => e0 p hp q (by simp only [List.mem_append] at hq ⊢; simp [hq])))
    have DF3_F4 : Hid (∀ k ∈ F4, k ∉ F3) := Wd (Xk (A := F3) (B := F4) (fun p hp q hq => e3 p hp q (by simp only [List.mem_append] at hq ⊢; simp [hq])))
    have DF3_K5 : Hid (∀ k ∈ F5 ++ G5, k ∉ F3) := Wd (Xk (A := F3) (B := F5 ++ G5) (fun p hp q hq => e3 p hp q (by simp only [List.mem_append] at hq ⊢; simp [hq])))
    have DF3_K6 : Hid (∀ k ∈ F6 ++ G6, k ∉ F3) := Wd (Xk (A := F3) (B := F6 ++ G6) (fun p hp q hq => e3 p hp q (by simp only [List.mem_append] at hq ⊢; simp [hq])))
    have DF3_G1 : Hid (∀ k ∈ G1, k ∉ F3) := Wd (Yf (A := G1) (B := F3) (fun p hp q hq => e1 p hp q (by simp only [List.mem_append] at hq ⊢; simp [hq])))
    have DF3_H2 : Hid (∀ k ∈ H2, k ∉ F3) := Wd (Xk (A := F3) (B := H2) (fun p hp q hq => e2 p (by simp only [List.mem_append] at hp ⊢; simp [hp]) q hq))
    have DF4_F1 : Hid (∀ k ∈ F1, k ∉ F4) := Wd (Yf (A := F1) (B := F4) (fun p hp q hq => e0 p hp q (by simp only [List.mem_append] at hq ⊢; simp [hq])))
    have DF4_F3 : Hid (∀ k ∈ F3, k ∉ F4) := Wd (Yf (A := F3) (B := F4) (fun p hp q hq => e3 p hp q (by simp only [List.mem_append] at hq ⊢; simp [hq])))
    have DF4_K5 : Hid (∀ k ∈ F5 ++ G5, k ∉ F4) := Wd (Xk (A := F4) (B := F5 ++ G5) (fun p hp q hq => e4 p hp q (by simp only [List.mem_append] at hq ⊢; simp [hq])))
    have DF4_K6 : Hid (∀ k ∈ F6 ++ G6, k ∉ F4) := Wd (Xk (A := F4) (B := F6 ++ G6) (fun p hp q hq => e4 p hp q (by simp only [List.mem_append] at hq ⊢; simp [hq])))
    have DF4_G1 : Hid (∀ k ∈ G1, k ∉ F4) := Wd (Yf (A := G1) (B := F4) (fun p hp q hq => e1 p hp q (by simp only [List.mem_append] at hq ⊢; simp [hq])))
    have DF4_H2 : Hid (∀ k ∈ H2, k ∉ F4) := Wd (Xk (A := F4) (B := H2) (fun p hp q hq => e2 p (by simp only [List.mem_append] at hp ⊢; simp [hp]) q hq))
    have DK5_F1 : Hid (∀ k ∈ F1, k ∉ F5 ++ G5) := Wd (Yf (A := F1) (B := F5 ++ G5) (fun p hp q hq => e0 p hp q (by simp only [List.mem_append] at hq ⊢; simp [hq])))
    have DK5_F3 : Hid (∀ k ∈ F3, k ∉ F5 ++ G5) := Wd (Yf (A := F3) (B := F5 ++ G5) (fun p hp q hq => e3 p hp q (by simp only [List.mem_append] at hq ⊢; simp [hq])))
    have DK5_F4 : Hid (∀ k ∈ F4, k ∉ F5 ++ G5) := Wd (Yf (A := F4) (B := F5 ++ G5) (fun p hp q hq => e4 p hp q (by simp only [List.mem_append] at hq ⊢; simp [hq])))
    have DK5_K6 : Hid (∀ k ∈ F6 ++ G6, k ∉ F5 ++ G5) := Wd (Xk (A := F5 ++ G5) (B := F6 ++ G6) (fun p hp q hq => e5 p hp q (by simp only [List.mem_append] at hq ⊢; simp [hq])))
    have DK5_G1 : Hid (∀ k ∈ G1, k ∉ F5 ++ G5) := Wd (Yf (A := G1) (B := F5 ++ G5) (fun p hp q hq => e1 p hp q (by simp only [List.mem_append] at hq ⊢; simp [hq])))
    have DK5_H2 : Hid (∀ k ∈ H2, k ∉ F5 ++ G5) := Wd (Xk (A := F5 ++ G5) (B := H2) (fun p hp q hq => e2 p (by simp only [List.mem_append] at hp ⊢; simp [hp]) q hq))
    have DK6_F1 : Hid (∀ k ∈ F1, k ∉ F6 ++ G6) := Wd (Yf (A := F1) (B := F6 ++ G6) (fun p hp q hq => e0 p hp q (by simp only [List.mem_append] at hq ⊢; simp [hq])))
    have DK6_F3 : Hid (∀ k ∈ F3, k ∉ F6 ++ G6) := Wd (Yf (A := F3) (B := F6 ++ G6) (fun p hp q hq => e3 p hp q (by simp only [List.mem_append] at hq ⊢; simp [hq])))
    have DK6_F4 : Hid (∀ k ∈ F4, k ∉ F6 ++ G6) := Wd (Yf (A := F4) (B := F6 ++ G6) (fun p hp q hq => e4 p hp q (by simp only [List.mem_append] at hq ⊢; simp [hq])))
    have DK6_K5 : Hid (∀ k ∈ F5 ++ G5, k ∉ F6 ++ G6) := Wd (Yf (A := F5 ++ G5) (B := F6 ++ G6) (fun p hp q hq => e5 p hp q (by simp only [List.mem_append] at hq ⊢; simp [hq])))
    have DK6_G1 : Hid (∀ k ∈ G1, k ∉ F6 ++ G6) := Wd (Yf (A := G1) (B := F6 ++ G6) (fun p hp q hq => e1 p hp q (by simp only [List.mem_append] at hq ⊢; simp [hq])))
    have DK6_H2 : Hid (∀ k ∈ H2, k ∉ F6 ++ G6) := Wd (Xk (A := F6 ++ G6) (B := H2) (fun p hp q hq => e2 p (by simp only [List.mem_append] at hp ⊢; simp [hp]) q hq))
    have Dg_F1 : Hid (∀ k ∈ F1, k ∉ [g]) := Wd (fun k hk h => ng0 (by rw [← List.mem_singleton.1 h]; exact hk))
    have Ng_F1 : Hid (g ∉ F1) := Wd (ng0)
    have Dg_F3 : Hid (∀ k ∈ F3, k ∉ [g]) := Wd (fun k hk h => ng3 (by rw [← List.mem_singleton.1 h]; exact hk))
    have Ng_F3 : Hid (g ∉ F3) := Wd (ng3)
    have Dg_F4 : Hid (∀ k ∈ F4, k ∉ [g]) := Wd (fun k hk h => ng4 (by rw [← List.mem_singleton.1 h]; exact hk))
    have Ng_F4 : Hid (g ∉ F4) := Wd (ng4)
    have Dg_K5 : Hid (∀ k ∈ F5 ++ G5, k ∉ [g]) := Wd (fun k hk h => (by rw [List.mem_singleton.1 h] at hk; rcases List.mem_append.1 hk with h | h; exact ng5 h; exact ng5' h))
    have Ng_K5 : Hid (g ∉ F5 ++ G5) := Wd (fun hk => (by rcases List.mem_append.1 hk with h | h; exact ng5 h; exact ng5' h))
    have Dg_K6 : Hid (∀ k ∈ F6 ++ G6, k ∉ [g]) := Wd (fun k hk h => (by rw [List.mem_singleton.1 h] at hk; rcases List.mem_append.1 hk with h | h; exact ng6 h; exact ng6' h))
    have Ng_K6 : Hid (g ∉ F6 ++ G6) := Wd (fun hk => (by rcases List.mem_append.1 hk with h | h; exact ng6 h; exact ng6' h))
    have Dg_G1 : Hid (∀ k ∈ G1, k ∉ [g]) := Wd (fun k hk h => ng1 (by rw [← List.mem_singleton.1 h]; exact hk))
    have Dg_H2 : Hid (∀ k ∈ H2, k ∉ [g]) := Wd (fun k hk h => ng2 (by rw [← List.mem_singleton.1 h]; exact hk))
    have NK5 := Wd n56; have NK6 := Wd n66
    clear nd ng1 ng2 ng3 ng4 ng5 ng5' ng6 ng6' n1 n2 n3 n4 n5 n56 n66 e1 e2 e3 e4 e5 ng0 e0
    have ⟨R3, R4, R5, O5, R6, O6⟩ := Wx hr3 hr4 hr5 ho5 hr6 ho6; have OD := HD; have OR := Wd hrest; have B0 := HBL; have R1 := Wd hr1
    clear hr3 hr4 hr5 ho5 hr6 ho6 hrest HD HBL hr1
    have BN := Wd (But.refl ([g] ++ (F1 ++ (F3 ++ (F4 ++ ((F5 ++ G5) ++ (F6 ++ G6)))))) wr)
    go_wp2_with fail
    refine (Kg (kk) (by omega) (by omega) _).mono ?_
    rintro e w1 ⟨rfl, hb⟩
    have bn : But [] wr w1 := But.of_below hb
    have B0 := Wd (B0.out.below hb)
    have R3 := Wd (bn.row R3.out (fun _ _ h => by cases h))
    have R4 := Wd (bn.row R4.out (fun _ _ h => by cases h))
    have R5 := Wd (bn.row R5.out (fun _ _ h => by cases h))
    have O5 := Wd (bn.ownCs O5.out (fun _ _ h => by cases h))
    have R6 := Wd (bn.row R6.out (fun _ _ h => by cases h))
    have O6 := Wd (bn.ownAs O6.out (fun _ _ h => by cases h))
    have OD := Wd (bn.ownAs OD.out (fun _ _ h => by cases h))
    have OR := Wd (bn.ownAs OR.out (fun _ _ h => by cases h))
    have R1 := Wd (bn.row R1.out (fun _ _ h => by cases h))
    have BN := Wd (BN.out.trans (bn.mono (fun k hk => by cases hk)))
    clear hb bn
    have hpre2 : (j * 9) = (c1).length := by rw [hc1]
    have HPRE2 := Wd hpre2; clear hpre2
    have BX2 := Wd (show Blk w1 g 76 (c1 ++ ([.string xs[j].con] ++ (([v1, .int .i64 xs[j].body.kind, .string xs[j].body.name, .bool xs[j].body.minus, v3, v4, v5, v6] : List Value) ++ (d2 ++ spare)))) by have := B0.out; simpa [List.append_assoc] using this)
    go_wp2_with ((refine Qc g (j * 9) c1 [.string xs[j].con] (([v1, .int .i64 xs[j].body.kind, .string xs[j].body.name, .bool xs[j].body.minus, v3, v4, v5, v6] : List Value) ++ (d2 ++ spare)) [.string (Zx kk)] 76 rfl 9 (.tmp 17) _ rfl rfl HPRE2.out rfl BX2.out rfl (by kernel_rfl) (by intro v hv; rw [List.mem_singleton.1 hv]; rfl) ?_))
    intro w2 hb hg hs
    have bg := But.of_grown hg
    have B0 := Wd (show Blk w2 g 76 (c1 ++ (([.string (Zx kk), v1, .int .i64 xs[j].body.kind, .string xs[j].body.name, .bool xs[j].body.minus, v3, v4, v5, v6] : List Value) ++ (d2 ++ spare))) by simpa [List.append_assoc] using hb)
    have R3 := Wd (bg.row R3.out Dg_F3.out)
    have R4 := Wd (bg.row R4.out Dg_F4.out)
    have R5 := Wd (bg.row R5.out (fun k hk => Dg_K5.out k (List.mem_append_left _ hk)))
    have O5 := Wd (bg.ownCs O5.out (fun k hk => Dg_K5.out k (List.mem_append_right _ hk)))
    have R6 := Wd (bg.row R6.out (fun k hk => Dg_K6.out k (List.mem_append_left _ hk)))
    have O6 := Wd (bg.ownAs O6.out (fun k hk => Dg_K6.out k (List.mem_append_right _ hk)))
    have OD := Wd (bg.ownAs OD.out Dg_G1.out)
    have OR := Wd (bg.ownAs OR.out Dg_H2.out)
    have R1 := Wd (bg.row R1.out Dg_F1.out)
    have BN := Wd (BN.out.trans (bg.mono (fun k hk => by simp [List.mem_singleton.1 hk])))
    clear hb hg hs bg BX2 HPRE2
    have ld := Blk.at (pre := c1 ++ ([.string (Zx kk)] : List Value)) (c := v1) (post := ([.int .i64 xs[j].body.kind, .string xs[j].body.name, .bool xs[j].body.minus, v3, v4, v5, v6] : List Value) ++ (d2 ++ spare)) (o := j * 9 + 1) (by have := B0.out; simpa [List.append_assoc] using this) (by rw [List.length_append, hc1]; rfl)
    go_wp2_with fail
    clear ld
    refine (qcp xs[j].names v1 F1 (kk + 1) (by omega) (by omega) _ R1.out).mono ?_
    rintro e w3 ⟨rfl, hr, bn⟩
    have B0 := Wd (bn.blk B0.out Ng_F1.out)
    have R3 := Wd (bn.row R3.out DF1_F3.out)
    have R4 := Wd (bn.row R4.out DF1_F4.out)
    have R5 := Wd (bn.row R5.out (fun k hk => DF1_K5.out k (List.mem_append_left _ hk)))
    have O5 := Wd (bn.ownCs O5.out (fun k hk => DF1_K5.out k (List.mem_append_right _ hk)))
    have R6 := Wd (bn.row R6.out (fun k hk => DF1_K6.out k (List.mem_append_left _ hk)))
    have O6 := Wd (bn.ownAs O6.out (fun k hk => DF1_K6.out k (List.mem_append_right _ hk)))
    have OD := Wd (bn.ownAs OD.out DF1_G1.out)
    have OR := Wd (bn.ownAs OR.out DF1_H2.out)
    have R1 := Wd hr
    have BN := Wd (BN.out.trans (bn.mono (fun k hk => by simp [hk])))
    clear hr bn
    have hpre4 : (j * 9 + 2) = ((c1 ++ ([.string (Zx kk), v1] : List Value))).length := by rw [List.length_append, hc1]; rfl
    have HPRE4 := Wd hpre4; clear hpre4
    have BX4 := Wd (show Blk w3 g 76 ((c1 ++ ([.string (Zx kk), v1] : List Value)) ++ ([.int .i64 xs[j].body.kind] ++ (([.string xs[j].body.name, .bool xs[j].body.minus, v3, v4, v5, v6] : List Value) ++ (d2 ++ spare)))) by have := B0.out; simpa [List.append_assoc] using this)
    go_wp2_with ((refine Qc g (j * 9 + 2) (c1 ++ ([.string (Zx kk), v1] : List Value)) [.int .i64 xs[j].body.kind] (([.string xs[j].body.name, .bool xs[j].body.minus, v3, v4, v5, v6] : List Value) ++ (d2 ++ spare)) [.int .i64 (kk + 1 + xs[j].names.length)] 76 rfl 2 (.tmp 32) _ rfl rfl HPRE4.out rfl BX4.out rfl (by kernel_rfl) (by intro v hv; rw [List.mem_singleton.1 hv]; rfl) ?_))
    intro w4 hb hg hs
    have bg := But.of_grown hg
    have B0 := Wd (show Blk w4 g 76 (c1 ++ (([.string (Zx kk), v1, .int .i64 (kk + 1 + xs[j].names.length), .string xs[j].body.name, .bool xs[j].body.minus, v3, v4, v5, v6] : List Value) ++ (d2 ++ spare))) by simpa [List.append_assoc] using hb)
    have R3 := Wd (bg.row R3.out Dg_F3.out)
    have R4 := Wd (bg.row R4.out Dg_F4.out)
    have R5 := Wd (bg.row R5.out (fun k hk => Dg_K5.out k (List.mem_append_left _ hk)))
    have O5 := Wd (bg.ownCs O5.out (fun k hk => Dg_K5.out k (List.mem_append_right _ hk)))
    have R6 := Wd (bg.row R6.out (fun k hk => Dg_K6.out k (List.mem_append_left _ hk)))
    have O6 := Wd (bg.ownAs O6.out (fun k hk => Dg_K6.out k (List.mem_append_right _ hk)))
    have OD := Wd (bg.ownAs OD.out Dg_G1.out)
    have OR := Wd (bg.ownAs OR.out Dg_H2.out)
    have R1 := Wd (bg.row R1.out Dg_F1.out)
    have BN := Wd (BN.out.trans (bg.mono (fun k hk => by simp [List.mem_singleton.1 hk])))
    clear hb hg hs bg BX4 HPRE4
    go_wp2_with fail
    refine (Kg (kk + 1 + xs[j].names.length + 1) (by omega) (by omega) _).mono ?_
    rintro e w5 ⟨rfl, hb⟩
    have bn : But [] w4 w5 := But.of_below hb
    have B0 := Wd (B0.out.below hb)
    have R3 := Wd (bn.row R3.out (fun _ _ h => by cases h))
    have R4 := Wd (bn.row R4.out (fun _ _ h => by cases h))
    have R5 := Wd (bn.row R5.out (fun _ _ h => by cases h))
    have O5 := Wd (bn.ownCs O5.out (fun _ _ h => by cases h))
    have R6 := Wd (bn.row R6.out (fun _ _ h => by cases h))
    have O6 := Wd (bn.ownAs O6.out (fun _ _ h => by cases h))
    have OD := Wd (bn.ownAs OD.out (fun _ _ h => by cases h))
    have OR := Wd (bn.ownAs OR.out (fun _ _ h => by cases h))
    have R1 := Wd (bn.row R1.out (fun _ _ h => by cases h))
    have BN := Wd (BN.out.trans (bn.mono (fun k hk => by cases hk)))
    clear hb bn
    have hpre6 : (j * 9 + 3) = ((c1 ++ ([.string (Zx kk), v1, .int .i64 (kk + 1 + xs[j].names.length)] : List Value))).length := by rw [List.length_append, hc1]; rfl
    have HPRE6 := Wd hpre6; clear hpre6
    have BX6 := Wd (show Blk w5 g 76 ((c1 ++ ([.string (Zx kk), v1, .int .i64 (kk + 1 + xs[j].names.length)] : List Value)) ++ ([.string xs[j].body.name] ++ (([.bool xs[j].body.minus, v3, v4, v5, v6] : List Value) ++ (d2 ++ spare)))) by have := B0.out; simpa [List.append_assoc] using this)
    go_wp2_with ((refine Qc g (j * 9 + 3) (c1 ++ ([.string (Zx kk), v1, .int .i64 (kk + 1 + xs[j].names.length)] : List Value)) [.string xs[j].body.name] (([.bool xs[j].body.minus, v3, v4, v5, v6] : List Value) ++ (d2 ++ spare)) [.string (Zx (kk + 1 + xs[j].names.length + 1))] 76 rfl 9 (.tmp 41) _ rfl rfl HPRE6.out rfl BX6.out rfl (by kernel_rfl) (by intro v hv; rw [List.mem_singleton.1 hv]; rfl) ?_))
    intro w6 hb hg hs
    have bg := But.of_grown hg
    have B0 := Wd (show Blk w6 g 76 (c1 ++ (([.string (Zx kk), v1, .int .i64 (kk + 1 + xs[j].names.length), .string (Zx (kk + 1 + xs[j].names.length + 1)), .bool xs[j].body.minus, v3, v4, v5, v6] : List Value) ++ (d2 ++ spare))) by simpa [List.append_assoc] using hb)
    have R3 := Wd (bg.row R3.out Dg_F3.out)
    have R4 := Wd (bg.row R4.out Dg_F4.out)
    have R5 := Wd (bg.row R5.out (fun k hk => Dg_K5.out k (List.mem_append_left _ hk)))
    have O5 := Wd (bg.ownCs O5.out (fun k hk => Dg_K5.out k (List.mem_append_right _ hk)))
    have R6 := Wd (bg.row R6.out (fun k hk => Dg_K6.out k (List.mem_append_left _ hk)))
    have O6 := Wd (bg.ownAs O6.out (fun k hk => Dg_K6.out k (List.mem_append_right _ hk)))
    have OD := Wd (bg.ownAs OD.out Dg_G1.out)
    have OR := Wd (bg.ownAs OR.out Dg_H2.out)
    have R1 := Wd (bg.row R1.out Dg_F1.out)
    have BN := Wd (BN.out.trans (bg.mono (fun k hk => by simp [List.mem_singleton.1 hk])))
    clear hb hg hs bg BX6 HPRE6
    have hpre7 : (j * 9 + 4) = ((c1 ++ ([.string (Zx kk), v1, .int .i64 (kk + 1 + xs[j].names.length), .string (Zx (kk + 1 + xs[j].names.length + 1))] : List Value))).length := by rw [List.length_append, hc1]; rfl
    have HPRE7 := Wd hpre7; clear hpre7
    have BX7 := Wd (show Blk w6 g 76 ((c1 ++ ([.string (Zx kk), v1, .int .i64 (kk + 1 + xs[j].names.length), .string (Zx (kk + 1 + xs[j].names.length + 1))] : List Value)) ++ ([.bool xs[j].body.minus] ++ (([v3, v4, v5, v6] : List Value) ++ (d2 ++ spare)))) by have := B0.out; simpa [List.append_assoc] using this)
    go_wp2_with ((refine Qc g (j * 9 + 4) (c1 ++ ([.string (Zx kk), v1, .int .i64 (kk + 1 + xs[j].names.length), .string (Zx (kk + 1 + xs[j].names.length + 1))] : List Value)) [.bool xs[j].body.minus] (([v3, v4, v5, v6] : List Value) ++ (d2 ++ spare)) [.bool ((kk + 1 + xs[j].names.length + 1 + 1) % 3 == 0)] 76 rfl 4 (.tmp 52) _ rfl rfl HPRE7.out rfl BX7.out rfl (by kernel_rfl) (by intro v hv; rw [List.mem_singleton.1 hv]; rfl) ?_))
    intro w7 hb hg hs
    have bg := But.of_grown hg
    have B0 := Wd (show Blk w7 g 76 (c1 ++ (([.string (Zx kk), v1, .int .i64 (kk + 1 + xs[j].names.length), .string (Zx (kk + 1 + xs[j].names.length + 1)), .bool ((kk + 1 + xs[j].names.length + 1 + 1) % 3 == 0), v3, v4, v5, v6] : List Value) ++ (d2 ++ spare))) by simpa [List.append_assoc] using hb)
    have R3 := Wd (bg.row R3.out Dg_F3.out)
    have R4 := Wd (bg.row R4.out Dg_F4.out)
    have R5 := Wd (bg.row R5.out (fun k hk => Dg_K5.out k (List.mem_append_left _ hk)))
    have O5 := Wd (bg.ownCs O5.out (fun k hk => Dg_K5.out k (List.mem_append_right _ hk)))
    have R6 := Wd (bg.row R6.out (fun k hk => Dg_K6.out k (List.mem_append_left _ hk)))
    have O6 := Wd (bg.ownAs O6.out (fun k hk => Dg_K6.out k (List.mem_append_right _ hk)))
    have OD := Wd (bg.ownAs OD.out Dg_G1.out)
    have OR := Wd (bg.ownAs OR.out Dg_H2.out)
    have R1 := Wd (bg.row R1.out Dg_F1.out)
    have BN := Wd (BN.out.trans (bg.mono (fun k hk => by simp [List.mem_singleton.1 hk])))
    clear hb hg hs bg BX7 HPRE7
    have ld := Blk.at (pre := c1 ++ ([.string (Zx kk), v1, .int .i64 (kk + 1 + xs[j].names.length), .string (Zx (kk + 1 + xs[j].names.length + 1)), .bool ((kk + 1 + xs[j].names.length + 1 + 1) % 3 == 0)] : List Value)) (c := v3) (post := ([v4, v5, v6] : List Value) ++ (d2 ++ spare)) (o := j * 9 + 5) (by have := B0.out; simpa [List.append_assoc] using this) (by rw [List.length_append, hc1]; rfl)
    go_wp2_with fail
    clear ld
    refine (qgj xs[j].body.limbs v3 F3 (kk + 1 + xs[j].names.length + 1 + 1 + 1) (by omega) (by omega) _ R3.out).mono ?_
    rintro e w8 ⟨rfl, hr, bn⟩
    have B0 := Wd (bn.blk B0.out Ng_F3.out)
    have R4 := Wd (bn.row R4.out DF3_F4.out)
    have R5 := Wd (bn.row R5.out (fun k hk => DF3_K5.out k (List.mem_append_left _ hk)))
    have O5 := Wd (bn.ownCs O5.out (fun k hk => DF3_K5.out k (List.mem_append_right _ hk)))
    have R6 := Wd (bn.row R6.out (fun k hk => DF3_K6.out k (List.mem_append_left _ hk)))
    have O6 := Wd (bn.ownAs O6.out (fun k hk => DF3_K6.out k (List.mem_append_right _ hk)))
    have OD := Wd (bn.ownAs OD.out DF3_G1.out)
    have OR := Wd (bn.ownAs OR.out DF3_H2.out)
    have R1 := Wd (bn.row R1.out DF3_F1.out)
    have R3 := Wd hr
    have BN := Wd (BN.out.trans (bn.mono (fun k hk => by simp [hk])))
    clear hr bn
    have ld := Blk.at (pre := c1 ++ ([.string (Zx kk), v1, .int .i64 (kk + 1 + xs[j].names.length), .string (Zx (kk + 1 + xs[j].names.length + 1)), .bool ((kk + 1 + xs[j].names.length + 1 + 1) % 3 == 0), v3] : List Value)) (c := v4) (post := ([v5, v6] : List Value) ++ (d2 ++ spare)) (o := j * 9 + 6) (by have := B0.out; simpa [List.append_assoc] using this) (by rw [List.length_append, hc1]; rfl)
    go_wp2_with fail
    clear ld
    refine (qcp xs[j].body.names v4 F4 (kk + 1 + xs[j].names.length + 1 + 1 + 1 + xs[j].body.limbs.length) (by omega) (by omega) _ R4.out).mono ?_
    rintro e w9 ⟨rfl, hr, bn⟩
    have B0 := Wd (bn.blk B0.out Ng_F4.out)
    have R3 := Wd (bn.row R3.out DF4_F3.out)
    have R5 := Wd (bn.row R5.out (fun k hk => DF4_K5.out k (List.mem_append_left _ hk)))
    have O5 := Wd (bn.ownCs O5.out (fun k hk => DF4_K5.out k (List.mem_append_right _ hk)))
    have R6 := Wd (bn.row R6.out (fun k hk => DF4_K6.out k (List.mem_append_left _ hk)))
    have O6 := Wd (bn.ownAs O6.out (fun k hk => DF4_K6.out k (List.mem_append_right _ hk)))
    have OD := Wd (bn.ownAs OD.out DF4_G1.out)
    have OR := Wd (bn.ownAs OR.out DF4_H2.out)
    have R1 := Wd (bn.row R1.out DF4_F1.out)
    have R4 := Wd hr
    have BN := Wd (BN.out.trans (bn.mono (fun k hk => by simp [hk])))
    clear hr bn
    have ld := Blk.at (pre := c1 ++ ([.string (Zx kk), v1, .int .i64 (kk + 1 + xs[j].names.length), .string (Zx (kk + 1 + xs[j].names.length + 1)), .bool ((kk + 1 + xs[j].names.length + 1 + 1) % 3 == 0), v3, v4] : List Value)) (c := v5) (post := ([v6] : List Value) ++ (d2 ++ spare)) (o := j * 9 + 7) (by have := B0.out; simpa [List.append_assoc] using this) (by rw [List.length_append, hc1]; rfl)
    go_wp2_with fail
    clear ld
    refine (HIX.out.1 v5 c5 F5 G5 (kk + 1 + xs[j].names.length + 1 + 1 + 1 + xs[j].body.limbs.length + xs[j].body.names.length) _ (by omega) (by omega) R5.out O5.out NK5.out).mono ?_
    rintro e w10 ⟨rfl, ⟨c5', hr, ho⟩, bn⟩
    have B0 := Wd (bn.blk B0.out Ng_K5.out)
    have R3 := Wd (bn.row R3.out DK5_F3.out)
    have R4 := Wd (bn.row R4.out DK5_F4.out)
    have R6 := Wd (bn.row R6.out (fun k hk => DK5_K6.out k (List.mem_append_left _ hk)))
    have O6 := Wd (bn.ownAs O6.out (fun k hk => DK5_K6.out k (List.mem_append_right _ hk)))
    have OD := Wd (bn.ownAs OD.out DK5_G1.out)
    have OR := Wd (bn.ownAs OR.out DK5_H2.out)
    have R1 := Wd (bn.row R1.out DK5_F1.out)
    have R5 := Wd hr
    have O5 := Wd ho
    have BN := Wd (BN.out.trans (bn.mono (fun k hk => by rcases List.mem_append.1 hk with hk | hk <;> simp [hk])))
    clear hr bn ho
    have ld := Blk.at (pre := c1 ++ ([.string (Zx kk), v1, .int .i64 (kk + 1 + xs[j].names.length), .string (Zx (kk + 1 + xs[j].names.length + 1)), .bool ((kk + 1 + xs[j].names.length + 1 + 1) % 3 == 0), v3, v4, v5] : List Value)) (c := v6) (post := ([] : List Value) ++ (d2 ++ spare)) (o := j * 9 + 8) (by have := B0.out; simpa [List.append_assoc] using this) (by rw [List.length_append, hc1]; rfl)
    go_wp2_with fail
    clear ld
    refine (HIX.out.2 v6 c6 F6 G6 (kk + 1 + xs[j].names.length + 1 + 1 + 1 + xs[j].body.limbs.length + xs[j].body.names.length + Zr xs[j].body.kids) _ (by omega) (by omega) R6.out O6.out NK6.out).mono ?_
    rintro e w11 ⟨rfl, ⟨c6', hr, ho⟩, bn⟩
    have B0 := Wd (bn.blk B0.out Ng_K6.out)
    have R3 := Wd (bn.row R3.out DK6_F3.out)
    have R4 := Wd (bn.row R4.out DK6_F4.out)
    have R5 := Wd (bn.row R5.out (fun k hk => DK6_K5.out k (List.mem_append_left _ hk)))
    have O5 := Wd (bn.ownCs O5.out (fun k hk => DK6_K5.out k (List.mem_append_right _ hk)))
    have OD := Wd (bn.ownAs OD.out DK6_G1.out)
    have OR := Wd (bn.ownAs OR.out DK6_H2.out)
    have R1 := Wd (bn.row R1.out DK6_F1.out)
    have R6 := Wd hr
    have O6 := Wd ho
    have BN := Wd (BN.out.trans (bn.mono (fun k hk => by rcases List.mem_append.1 hk with hk | hk <;> simp [hk])))
    clear hr bn ho
    have HEL : Hid (qet 35 76 w11 (mkA xs[j] kk) [.string (Zx kk), v1, .int .i64 (kk + 1 + xs[j].names.length), .string (Zx (kk + 1 + xs[j].names.length + 1)), .bool ((kk + 1 + xs[j].names.length + 1 + 1) % 3 == 0), v3, v4, v5, v6] (F1 ++ (F3 ++ (F4 ++ ((F5 ++ G5) ++ (F6 ++ G6)))))) := Wd (by
     rw [qyx, Xw]
     refine ⟨v1, _, F1, _, rfl, rfl, ?_, ?_⟩
     ·show Row _ _ _ (mkS _ _).length _ _; rw [Ul]; exact R1.out
     ·rw [qjm, Xi]
      refine ⟨v3, v4, v5, v6, F3, F4, F5, F6, G5, G6, c5', c6', ?_, rfl, ?_, ?_, ⟨?_, ?_⟩, ⟨?_, ?_⟩⟩
      ·simp only [show (kk + 1 + (xs[j].names.length : Int)) + 2 = kk + 1 + (xs[j].names.length : Int) + 1 + 1 by omega]
      ·show Row _ _ _ (mkU _ _).length _ _; rw [Hn, show kk + 1 + (xs[j].names.length : Int) + 3 = kk + 1 + (xs[j].names.length : Int) + 1 + 1 + 1 by omega]; exact R3.out
      ·show Row _ _ _ (mkS _ _).length _ _; rw [Ul, show kk + 1 + (xs[j].names.length : Int) + 3 = kk + 1 + (xs[j].names.length : Int) + 1 + 1 + 1 by omega]; exact R4.out
      ·exact f106
      ·show Ju _ _ _ (qfc _ _) _ _; rw [show kk + 1 + (xs[j].names.length : Int) + 3 = kk + 1 + (xs[j].names.length : Int) + 1 + 1 + 1 by omega]; exact O5.out
      ·exact f107
      ·show Jt _ _ _ (qfb _ _) _ _; rw [show kk + 1 + (xs[j].names.length : Int) + 3 = kk + 1 + (xs[j].names.length : Int) + 1 + 1 + 1 by omega]; exact O6.out)
    have hend : kk + 1 + xs[j].names.length + 1 + 1 + 1 + xs[j].body.limbs.length + xs[j].body.names.length + Zr xs[j].body.kids + Jv xs[j].body.alts = k + (Jv (xs.take (j + 1)) : Nat) := by rw [HTAKE.out, qaz, qfu, Ga]; have := HKK.out; omega
    have HEND := Wd hend; clear hend
    go_wp2
    go_roundw
    case rel =>
     refine ⟨j + 1, c1 ++ [.string (Zx kk), v1, .int .i64 (kk + 1 + xs[j].names.length), .string (Zx (kk + 1 + xs[j].names.length + 1)), .bool ((kk + 1 + xs[j].names.length + 1 + 1) % 3 == 0), v3, v4, v5, v6], d2, G1 ++ (F1 ++ (F3 ++ (F4 ++ ((F5 ++ G5) ++ (F6 ++ G6))))), H2, by omega, by rw [← HEND.out], by go_num, Wd (by rw [HG.out]; simp only [List.append_assoc]), Wd ?_, OR, by rw [List.length_append, hc1]; simp; omega, Wd (by have := B0.out; simpa [List.append_assoc] using this), Wd ?_⟩
     ·rw [HTAKE.out, qsx]
      have := HEL.out
      rw [HKK.out] at this ⊢
      exact qbd _ _ _ _ _ _ OD.out this
     ·refine (HN.out.mono ?_).trans (BN.out.mono ?_)
      ·exact f61
      ·exact f61
    case measure => simp [intOf]; omega
   ·have hjl : j = xs.length := by omega
    subst hjl
    have hr := HR.out
    rw [List.drop_length, Jt] at hr
    exact f45
end Go.Proofs.YtnoammmohdmnjaaGreat.C13
