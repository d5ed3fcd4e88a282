import Derived.Test.YtnoammmohdmnjaaGreatU10
set_option maxRecDepth 100000
set_option maxHeartbeats 16000000
set_option linter.unusedVariables false
set_option linter.unusedSimpArgs false
namespace Go.Proofs.YtnoammmohdmnjaaGreat.C13
open Go.RowKit Go.Proofs.YtnoammmohdmnjaaGreatW.PrintWords
open List renaming setIfInBounds_toArray → Jla, set_cons_zero → Jlb, set_cons_succ → Jlc
mutual
def Shapes : CoreT → Prop
 | ⟨kind, name, minus, limbs, names, kids, alts⟩ => Zw ⟨kind, name, minus, limbs, names, kids, alts⟩ ∧ qdg kids ∧ qdf alts
def qdg : List CoreT → Prop
 | [] => True
 | c :: r => Shapes c ∧ qdg r
def qdf : List AltT → Prop
 | [] => True
 | a :: r => qrn a ∧ qdf r
def qrn : AltT → Prop
 | ⟨_, _, b⟩ => Shapes b
end
theorem Ve (x : CoreT) : Shapes x = (Zw x ∧ qdg x.kids ∧ qdf x.alts) := by cases x; rw [Shapes]
theorem qro (a : AltT) : qrn a = Shapes a.body := by cases a; rw [qrn]
theorem Yv {l : List CoreT} : qdg l ↔ ∀ x ∈ l, Shapes x := by
 induction l with
 | nil => simp [qdg]
 | cons c r ih => simp [qdg, ih]
theorem Yu {l : List AltT} : qdf l ↔ ∀ x ∈ l, Shapes x.body := by
 induction l with
 | nil => simp [qdf]
 | cons c r ih => simp [qdf, ih, qro]
def Gl (x : CoreT) : Prop := bulk x ≤ 274877906944 → ∀ (w : World) (cs : List Value), IC.K w x cs → Qh 45 #[.agg cs.toArray] w (dec (Shapes x))
theorem f68 {p : Prop} (h : p := by
 go_wp2
 go_roundw
 case rel => exact ⟨k + 1, by omega, by go_num, HN3, HB3⟩
 case measure => simp [intOf]; omega) : p := h
theorem qji (x : CoreT) (ihk : ∀ y ∈ x.kids, Gl y) (iha : ∀ a ∈ x.alts, Gl a.body) : Gl x := by
 intro hbk w cs hK
 have hS := qla hbk
 obtain ⟨r, hr⟩ : ∃ r, r = dec (Shapes x) := ⟨_, rfl⟩
 rw [← hr]
 have HR := Wd hr; clear hr
 unfold Qh at hS ⊢
 have HSH := Wd hS; clear hS
 obtain ⟨A3, c3, A4, c4, A5, c5, A6, c6, rfl, l3, g3, l4, g4, l5, g5, l6, g6⟩ := Qk hK
 rw [Qg] at hbk
 have hla : x.alts.length ≤ 274877906944 := by have := Ks x.alts; omega
 have hlk : x.kids.length ≤ 274877906944 := by have := qah x.kids; omega
 have HBK := Wd hbk
 have IHK := Wd ihk; have IHA := Wd iha; clear ihk iha
 have HKK := Wd hK
 have G5 := Wd g5; have G6 := Wd g6; clear g3 g4 g5 g6 hK hbk
 simp only [Qb]
 go_enter Tryz.func45, Tryz.ntmps45
 go_wp2_with fail
 obtain ⟨W1, hW1, hp1, hB1, hs1⟩ := Wy w x A3 c3 A4 c4 A5 c5 A6 c6 35
 rw [← hW1]
 have HB1 := Wd hB1; have BP1 := Wd hp1
 clear hW1 hB1 hs1 hp1
 refine (HSH.out _ _ ((Ja _ _).K_below HB1.out HKK.out)).mono ?_
 rintro e w2 ⟨rfl, hb2⟩
 have HB2 := Wd (HB1.out.trans (hb2.mono HB1.out.size)); have BP2 := Wd (BP1.out.below hb2); clear hb2 BP1 HB1
 by_cases hsh : Zw x
 case neg =>
  rw [Qd hsh]
  go_wp2
  go_ret
  exact ⟨by rw [HR.out, Qd (fun h => hsh (by rw [Ve] at h; exact h.1))]; rfl, HB2.out⟩
 rw [Qm hsh]
 have HSX := Wd hsh; clear hsh
 have p5 := BP2.out.cell (j := 5) rfl
 go_wp2_with fail
 clear p5
 go_loopw [3] (fun i wr => ∃ (k : Nat), k ≤ x.kids.length ∧ i = .int .i64 k ∧ Hid (∀ y ∈ x.kids.take k, Shapes y) ∧ Hid (Below w2.heap.size w2 wr)) (fun i _ => x.kids.length - (intOf i).toNat)
 case atStart => exact ⟨0, Nat.zero_le _, rfl, Wd (by simp), Wd (Below.refl _ _)⟩
 case round =>
  obtain ⟨k, hk, rfl, HN, HB⟩ := hrel
  have HBw := Wd (Below.step HB2.out HB.out)
  have HP := Wd (BP2.out.below HB.out)
  have p5 := HP.out.cell (j := 5) rfl
  by_cases hlt : k < x.kids.length
  ·obtain ⟨ad, A3', c3', A4', c4', B5, d5, B6, d6, rfl, hK, g0, g1, g2, g3, g4, g5, g6⟩ := Ko (Kd.C_below G5.out HBw.out) k hlt
   go_wp2_with fail
   have hmb := Qx (List.getElem_mem hlt)
   refine (IHK.out _ (List.getElem_mem hlt) (by have := HBK.out; omega) _ _ hK).mono ?_
   rintro e w3 ⟨rfl, hb3⟩
   have HB3 := Wd (Below.step HB.out hb3)
   have HBw3 := Wd (Below.step HBw.out hb3)
   clear g0 g1 g2 g3 g4 g5 g6 hK p5 hmb hb3
   by_cases hsy : Shapes x.kids[k]
   ·rw [Qm hsy]
    have HN3 := Wd (show ∀ y ∈ x.kids.take (k + 1), Shapes y from by
     intro y hy
     rw [Qf hlt] at hy
     rcases List.mem_append.1 hy with hy | hy
     ·exact HN.out y hy
     ·rw [List.mem_singleton.1 hy]; exact hsy)
    clear hsy
    exact f68
   ·rw [Qd hsy]
    have HNS := Wd hsy; clear hsy
    go_wp2
    go_ret
    exact ⟨by rw [HR.out, Qd (fun h => HNS.out (by rw [Ve] at h; exact Yv.1 h.2.1 _ (List.getElem_mem hlt)))]; rfl, HBw3.out⟩
  ·have hkk : k = x.kids.length := by omega
   have hnn := HN.out
   rw [hkk, List.take_length] at hnn
   have HNK := Wd hnn; have HKK2 := Wd hkk; clear hnn hkk
   go_wp2_with fail
   clear p5
   obtain ⟨wo, rfl⟩ : ∃ wo : World, wo = wr := ⟨_, rfl⟩
   go_loopw [4] (fun i wr => ∃ (m : Nat), m ≤ x.alts.length ∧ i = .int .i64 m ∧ Hid (∀ y ∈ x.alts.take m, Shapes y.body) ∧ Hid (Below w2.heap.size w2 wr)) (fun i _ => x.alts.length - (intOf i).toNat)
   case atStart => exact ⟨0, Nat.zero_le _, rfl, Wd (by simp), HB⟩
   case round =>
    obtain ⟨m, hm, rfl, HN, HB⟩ := hrel
    have HBw := Wd (Below.step HB2.out HB.out)
    have HP := Wd (BP2.out.below HB.out)
    have p6 := HP.out.cell (j := 6) rfl
    by_cases hlt2 : m < x.alts.length
    ·obtain ⟨ad, A1, c1, A3', c3', A4', c4', B5, d5, B6, d6, rfl, _, hK, _, _, g0, g1, g2, g3, g4, g5, g6, g7, g8⟩ := Xn (Kd.C_below G6.out HBw.out) m hlt2
     go_wp2_with fail
     have hmb := Zu (List.getElem_mem hlt2)
     rw [Zo] at hmb
     refine (IHA.out _ (List.getElem_mem hlt2) (by have := HBK.out; omega) _ _ hK).mono ?_
     rintro e w3 ⟨rfl, hb3⟩
     have HB3 := Wd (Below.step HB.out hb3)
     have HBw3 := Wd (Below.step HBw.out hb3)
     clear g0 g1 g2 g3 g4 g5 g6 g7 g8 hK p6 hmb hb3
     by_cases hsy : Shapes x.alts[m].body
     ·rw [Qm hsy]
      have HN3 := Wd (show ∀ y ∈ x.alts.take (m + 1), Shapes y.body from by
       intro y hy
       rw [Qf hlt2] at hy
       rcases List.mem_append.1 hy with hy | hy
       ·exact HN.out y hy
       ·rw [List.mem_singleton.1 hy]; exact hsy)
      clear hsy
      go_wp2
      go_roundw
      case rel => exact ⟨m + 1, by omega, by go_num, HN3, HB3⟩
      case measure => simp [intOf]; omega
     ·rw [Qd hsy]
      have HNS := Wd hsy; clear hsy
      go_wp2
      go_ret
      exact ⟨by rw [HR.out, Qd (fun h => HNS.out (by rw [Ve] at h; exact Yu.1 h.2.2 _ (List.getElem_mem hlt2)))]; rfl, HBw3.out⟩
    ·have hkk : m = x.alts.length := by omega
     have hnn := HN.out
     rw [hkk, List.take_length] at hnn
     have HNA := Wd hnn; have HKK3 := Wd hkk; clear hnn hkk
     go_wp2
     go_ret
     exact ⟨by rw [HR.out, Qm (by rw [Ve]; exact ⟨HSX.out, Yv.2 HNK.out, Yu.2 HNA.out⟩)]; rfl, HBw.out⟩
theorem qqu (x : CoreT) : Gl x := Za Gl (fun c hk ha => qji c hk ha) x
def Good (x : CoreT) : Prop := Qr x ≤ 20000 ∧ dep x ≤ 1000 ∧ Shapes x
def qke (x : CoreT) (w : World) (e : Ending) (w' : World) : Prop := ∃ f : Int, e = .returned (.int .i64 f) ∧ (f = 0 ↔ Good x) ∧ Below w.heap.size w w'
theorem qgu (x : CoreT) (hbk : bulk x ≤ 274877906944) (w : World) (cs : List Value) (hK : IC.K w x cs) :
  Calls Tryz.prog 15 #[.agg cs.toArray] w (qke x w) := by
 obtain ⟨A3, c3, A4, c4, A5, c5, A6, c6, rfl, -⟩ := Qk hK
 have HKK := Wd hK
 have HBK := Wd hbk
 clear hK hbk
 simp only [Qb]
 go_enter Tryz.func15, Tryz.ntmps15
 go_wp2_with fail
 obtain ⟨W1, hW1, hp1, hB1, hs1⟩ := Wy w x A3 c3 A4 c4 A5 c5 A6 c6 35
 obtain ⟨W2, hW2, hp2, hB2, hs2⟩ := boxed W1 [.int .i64 20000] 2
 rw [← hW1, ← hW2]
 rw [hs1] at hp2
 have HB2 := Wd (Below.step hB1 hB2)
 have BP2 := Wd (hp1.below hB2)
 refine (qpa x HBK.out W1 W2 _ (w.heap.size + 1) 1 20000 (by omega) (by omega) (by omega) (by omega) ((Ja _ _).K_below hB1 HKK.out) hB2 (by omega) hp2).mono ?_
 clear hW1 hW2 hp1 hB1 hp2 hB2 hs2 hs1
 rintro e w3 ⟨hg, h3⟩
 have HB3 := Wd (Zm HB2.out hg (by omega))
 have BP3 := Wd (BP2.out.grown hg (by omega))
 clear hg HB2 BP2
 rcases h3 with ⟨rfl, h4, h5, -⟩ | ⟨rfl, h4⟩
 ·have H4 := Wd h4; have H5 := Wd h5; clear h4 h5
  have p0 := BP3.out.cell (j := 0) rfl; have p1 := BP3.out.cell (j := 1) rfl; have p2 := BP3.out.cell (j := 2) rfl; have p3 := BP3.out.cell (j := 3) rfl
  have p4 := BP3.out.cell (j := 4) rfl; have p5 := BP3.out.cell (j := 5) rfl; have p6 := BP3.out.cell (j := 6) rfl
  go_wp2_with fail
  clear p0 p1 p2 p3 p4 p5 p6
  refine (qqu x HBK.out _ _ ((Ja _ _).K_below HB3.out HKK.out)).mono ?_
  rintro e w4 ⟨rfl, hb4⟩
  have HB4 := Wd (Below.step HB3.out hb4)
  clear hb4 HB3 BP3
  by_cases hs : Shapes x
  ·rw [Qm hs]
   have HS := Wd hs; clear hs
   go_wp2
   go_ret
   exact ⟨0, rfl, ⟨fun _ => ⟨by have := H4.out; omega, by have := H5.out; omega, HS.out⟩, fun _ => rfl⟩, HB4.out⟩
  ·rw [Qd hs]
   have HS := Wd hs; clear hs
   go_wp2
   go_ret
   exact ⟨2, rfl, ⟨fun h => absurd h (by omega), fun h => absurd h.2.2 HS.out⟩, HB4.out⟩
 ·have H4 := Wd h4; clear h4
  go_wp2
  go_ret
  exact ⟨1, rfl, ⟨fun h => absurd h (by omega), fun h => absurd ⟨by have := h.1; omega, by have := h.2.1; omega⟩ H4.out⟩, HB3.out⟩
def parts : CoreT → Int → List (CoreT × Int)
 | ⟨k, n, m, l, ns, kids, alts⟩, d => (⟨k, n, m, l, ns, kids, alts⟩, d) :: (kparts kids (d + 1) ++ aparts alts (d + 1))
where
  kparts : List CoreT → Int → List (CoreT × Int)
  | [], _ => []
  | c :: r, d => parts c d ++ kparts r d
  aparts : List AltT → Int → List (CoreT × Int)
  | [], _ => []
  | a :: r, d => apart a d ++ aparts r d
  apart : AltT → Int → List (CoreT × Int)
  | ⟨_, _, b⟩, d => parts b d
def At (S : World) (x : CoreT) (p : Addr) : Prop := ∃ A3 c3 A4 c4 A5 c5 A6 c6, IC.K S x (Qb x A3 c3 A4 c4 A5 c5 A6 c6) ∧
 S.cell? p = some (.int .i64 x.kind) ∧ S.cell? ⟨p.block, p.off + 1, none⟩ = some (.string x.name) ∧ S.cell? ⟨p.block, p.off + 2, none⟩ = some (.bool x.minus) ∧
 S.cell? ⟨p.block, p.off + 3, none⟩ = some (.slice A3 x.limbs.length c3) ∧ S.cell? ⟨p.block, p.off + 4, none⟩ = some (.slice A4 x.names.length c4) ∧
 S.cell? ⟨p.block, p.off + 5, none⟩ = some (.slice A5 x.kids.length c5) ∧ S.cell? ⟨p.block, p.off + 6, none⟩ = some (.slice A6 x.alts.length c6)
theorem Ub {S : World} {A : Option Addr} {n : Nat} {xs : List CoreT} (h : IC.C S A n xs) (i : Nat) (hi : i < xs.length) :
  ∃ ad, A = some ad ∧ At S xs[i] (ad.add (i * 7)) := by
 obtain ⟨ad, A3, c3, A4, c4, A5, c5, A6, c6, rfl, hK, g0, g1, g2, g3, g4, g5, g6⟩ := Ko h i hi
 exact ⟨ad, rfl, A3, c3, A4, c4, A5, c5, A6, c6, hK, g0, g1, g2, g3, g4, g5, g6⟩
theorem qvs {S : World} {A : Option Addr} {n : Nat} {xs : List AltT} (h : IA.C S A n xs) (i : Nat) (hi : i < xs.length) :
  ∃ ad, A = some ad ∧ At S xs[i].body ⟨(ad.add (i * 9)).block, (ad.add (i * 9)).off + 2, none⟩ := by
 obtain ⟨ad, A1, c1, A3, c3, A4, c4, A5, c5, A6, c6, rfl, _, hK, _, _, _, _, g0, g1, g2, g3, g4, g5, g6⟩ := Xn h i hi
 exact ⟨ad, rfl, A3, c3, A4, c4, A5, c5, A6, c6, hK, g0, g1, g2, g3, g4, g5, g6⟩
theorem Uw (x : CoreT) (d : Int) : parts x d = (x, d) :: (parts.kparts x.kids (d + 1) ++ parts.aparts x.alts (d + 1)) := by cases x; rw [parts]
theorem qgf (l : List CoreT) (x : CoreT) (d : Int) : parts.kparts (l ++ [x]) d = parts.kparts l d ++ parts x d := by
 induction l with
 | nil => simp [parts.kparts]
 | cons c r ih => simp only [List.cons_append, parts.kparts, ih, List.append_assoc]
theorem qcj (a : AltT) (d : Int) : parts.apart a d = parts a.body d := by cases a; rw [parts.apart]
theorem qfp (l : List AltT) (x : AltT) (d : Int) : parts.aparts (l ++ [x]) d = parts.aparts l d ++ parts x.body d := by
 induction l with
 | nil => simp [parts.aparts, qcj]
 | cons c r ih => simp only [List.cons_append, parts.aparts, ih, List.append_assoc]
theorem qmw (l : List CoreT) (k : Nat) (d : Int) : parts.kparts (l.take k) d <+: parts.kparts l d := by
 induction l generalizing k with
 | nil => simp
 | cons c r ih => cases k with
  | zero => exact List.nil_prefix
  | succ k => rw [List.take_succ_cons, parts.kparts, parts.kparts]; exact (List.prefix_append_right_inj _).2 (ih k)
theorem qmm (l : List AltT) (k : Nat) (d : Int) : parts.aparts (l.take k) d <+: parts.aparts l d := by
 induction l generalizing k with
 | nil => simp
 | cons c r ih => cases k with
  | zero => exact List.nil_prefix
  | succ k => rw [List.take_succ_cons, parts.aparts, parts.aparts]; exact (List.prefix_append_right_inj _).2 (ih k)
def Sees (S : World) (fn : Nat) (caps : Array Value) (I Q : List (CoreT × Int) → World → Prop) : Prop :=
 ∀ (l : List (CoreT × Int)) (y : CoreT) (d : Int) (p : Addr) (w : World), I l w → At S y p → bulk y ≤ 274877906944 → 1 ≤ d → d ≤ 1100000000000 →
  Calls Tryz.prog fn (#[.pointer (some p), .int .i64 d] ++ caps) w fun e w' => (e = .returned (.bool true) ∧ I (l ++ [(y, d)]) w') ∨ (e = .returned (.bool false) ∧ Q (l ++ [(y, d)]) w')
def qca (x : CoreT) : Prop := bulk x ≤ 274877906944 → ∀ (S w : World) (p : Addr) (d : Int) (fn : Nat) (caps : Array Value) (I Q : List (CoreT × Int) → World → Prop) (done : List (CoreT × Int)),
 (∀ args w, (callFunc fn args).run Tryz.prog w = .ok (.enter fn args) w) → 1 ≤ d → d + dep x ≤ 1100000000000 → At S x p → (∀ l w, I l w → Below S.heap.size S w) → Sees S fn caps I Q → I done w →
 Calls Tryz.prog 53 #[.pointer (some p), .int .i64 d, .func (.func fn) #[] caps] w fun e w' =>
  (e = .returned (.bool true) ∧ I (done ++ parts x d) w') ∨ (e = .returned (.bool false) ∧ ∃ l, l <+: parts x d ∧ Q (done ++ l) w')
theorem qvx (x : CoreT) (ihk : ∀ y ∈ x.kids, qca y) (iha : ∀ a ∈ x.alts, qca a.body) : qca x := by
 intro hbk S w p d fn caps I Q done hen hd1 hd2 hat hI hsee hI0
 have AT := Wd hat
 obtain ⟨A3, c3, A4, c4, A5, c5, A6, c6, hK, -, -, -, -, -, q5, q6⟩ := hat
 obtain ⟨_, _, _, _, _, _, _, _, he, l3, g3, l4, g4, l5, g5, l6, g6⟩ := Qk hK
 simp only [Qb, List.cons.injEq, Value.slice.injEq, true_and, and_true] at he
 obtain ⟨⟨rfl, rfl⟩, ⟨rfl, rfl⟩, ⟨rfl, rfl⟩, ⟨rfl, rfl⟩⟩ := he
 clear hK
 rw [Qg] at hbk
 have hla : x.alts.length ≤ 274877906944 := by have := Ks x.alts; omega
 have hlk : x.kids.length ≤ 274877906944 := by have := qah x.kids; omega
 have hdd : d ≤ 1100000000000 := by have := Yi x; omega
 have HD := Wd hd2; have HDE := Wd (Yi x); clear hd2
 have HBK := Wd (show bulk x ≤ 274877906944 by rw [Qg]; exact hbk)
 have HBK' := Wd hbk; clear hbk
 have IHK := Wd ihk; have IHA := Wd iha; clear ihk iha
 have G5 := Wd g5; have G6 := Wd g6; clear g3 g4 g5 g6
 have Q5 := Wd q5; have Q6 := Wd q6; clear q5 q6
 have HEN := Wd hen; clear hen
 have ⟨HI, HSEE, HI0⟩ := Wq hI hsee hI0; clear hI hsee hI0
 go_enter Tryz.func53, Tryz.ntmps53
 go_wp2_with fail
 rw [HEN.out]
 go_wp2_with fail
 refine (HSEE.out done x d p w HI0.out AT.out HBK.out hd1 hdd).mono ?_
 rintro e w2 (⟨rfl, h2⟩ | ⟨rfl, h2⟩)
 case inr =>
  have H2 := Wd h2; clear h2
  go_wp2
  go_ret
  exact .inr ⟨rfl, [(x, d)], by rw [Uw]; simp, H2.out⟩
 have H2 := Wd h2; clear h2
 have HB2 := Wd (HI.out _ _ H2.out)
 have q5 := Cl HB2.out Q5.out
 go_wp2_with fail
 clear q5
 go_loopw [7, 19] (fun v7 i wr => ∃ (k : Nat), k ≤ x.kids.length ∧ i = .int .i64 k ∧ Hid (I (done ++ ((x, d) :: parts.kparts (x.kids.take k) (d + 1))) wr)) (fun _ i _ => x.kids.length - (intOf i).toNat)
 case atStart => exact ⟨0, Nat.zero_le _, rfl, Wd (by simpa [parts.kparts] using H2.out)⟩
 case round =>
  obtain ⟨k, hk, rfl, HN⟩ := hrel
  have HBr := Wd (HI.out _ _ HN.out)
  have q5 := Cl HBr.out Q5.out
  by_cases hlt : k < x.kids.length
  ·obtain ⟨ad, rfl, hA⟩ := Ub G5.out k hlt
   have HA := Wd hA; clear hA
   go_wp2_with fail
   refine (IHK.out _ (List.getElem_mem hlt) (by have := Qx (List.getElem_mem hlt); have := HBK'.out; omega) S wr _ (d + 1) fn caps I Q _ HEN.out (by omega)
    (by have := Yz (List.getElem_mem hlt); have := HD.out; have := HDE.out; omega) HA.out HI.out HSEE.out HN.out).mono ?_
   clear q5
   rintro e w3 (⟨rfl, h3⟩ | ⟨rfl, h3⟩)
   ·have HN3 := Wd (show I (done ++ ((x, d) :: parts.kparts (x.kids.take (k + 1)) (d + 1))) w3 by
     rw [Qf hlt, qgf]; simpa using h3)
    clear h3
    go_wp2
    go_roundw
    case rel => exact ⟨k + 1, by omega, by go_num, HN3⟩
    case measure => simp [intOf]; omega
   ·have H3 := Wd h3; clear h3
    go_wp2
    go_ret
    obtain ⟨l, hl, hq⟩ := H3.out
    refine .inr ⟨rfl, (x, d) :: (parts.kparts (x.kids.take k) (d + 1) ++ l), ?_, by simpa using hq⟩
    rw [Uw]
    refine List.cons_prefix_cons.2 ⟨rfl, ?_⟩
    refine List.IsPrefix.trans ?_ (List.prefix_append _ _)
    refine List.IsPrefix.trans ?_ (qmw x.kids (k + 1) (d + 1))
    rw [Qf hlt, qgf]
    exact (List.prefix_append_right_inj _).2 hl
  ·have hkk : k = x.kids.length := by omega
   have hnn := HN.out
   rw [hkk, List.take_length] at hnn
   have HNK := Wd hnn; have HKK2 := Wd hkk; clear hnn hkk
   have q6 := Cl HBr.out Q6.out
   go_wp2_with fail
   clear q5 q6
   obtain ⟨wo, rfl⟩ : ∃ wo : World, wo = wr := ⟨_, rfl⟩
   go_loopw [8, 39] (fun v8 i wr => ∃ (m : Nat), m ≤ x.alts.length ∧ i = .int .i64 m ∧ Hid (I (done ++ ((x, d) :: (parts.kparts x.kids (d + 1) ++ parts.aparts (x.alts.take m) (d + 1)))) wr)) (fun _ i _ => x.alts.length - (intOf i).toNat)
   case atStart => exact ⟨0, Nat.zero_le _, rfl, Wd (by simpa [parts.aparts] using HNK.out)⟩
   case round =>
    obtain ⟨m, hm, rfl, HN⟩ := hrel
    have HBr := Wd (HI.out _ _ HN.out)
    have q6 := Cl HBr.out Q6.out
    by_cases hlt2 : m < x.alts.length
    ·obtain ⟨ad, rfl, hA⟩ := qvs G6.out m hlt2
     have HA := Wd hA; clear hA
     go_wp2_with fail
     refine (IHA.out _ (List.getElem_mem hlt2) (by have := Zu (List.getElem_mem hlt2); rw [Zo] at this; have := HBK'.out; omega) S wr _ (d + 1) fn caps I Q _ HEN.out (by omega)
      (by have := qfo (List.getElem_mem hlt2); have := HD.out; have := HDE.out; omega) HA.out HI.out HSEE.out HN.out).mono ?_
     clear q6
     rintro e w3 (⟨rfl, h3⟩ | ⟨rfl, h3⟩)
     ·have HN3 := Wd (show I (done ++ ((x, d) :: (parts.kparts x.kids (d + 1) ++ parts.aparts (x.alts.take (m + 1)) (d + 1)))) w3 by
       rw [Qf hlt2, qfp]; simpa using h3)
      clear h3
      go_wp2
      go_roundw
      case rel => exact ⟨m + 1, by omega, by go_num, HN3⟩
      case measure => simp [intOf]; omega
     ·have H3 := Wd h3; clear h3
      go_wp2
      go_ret
      obtain ⟨l, hl, hq⟩ := H3.out
      refine .inr ⟨rfl, (x, d) :: (parts.kparts x.kids (d + 1) ++ (parts.aparts (x.alts.take m) (d + 1) ++ l)), ?_, by simpa using hq⟩
      rw [Uw]
      refine List.cons_prefix_cons.2 ⟨rfl, ?_⟩
      refine (List.prefix_append_right_inj _).2 ?_
      refine List.IsPrefix.trans ?_ (qmm x.alts (m + 1) (d + 1))
      rw [Qf hlt2, qfp]
      exact (List.prefix_append_right_inj _).2 hl
    ·have hkk : m = x.alts.length := by omega
     have hnn := HN.out
     rw [hkk, List.take_length] at hnn
     have HNA := Wd hnn; have HKK3 := Wd hkk; clear hnn hkk
     go_wp2
     go_ret
     exact .inl ⟨rfl, by rw [Uw]; exact HNA.out⟩
theorem qiz (x : CoreT) : qca x := Za qca (fun c hk ha => qvx c hk ha) x
def qzk (x : CoreT) : Nat := 1 + (if x.kind = 6 ∨ x.kind = 7 then x.names.length else 0) + Zp x.alts
def cnt : List (CoreT × Int) → Nat
 | [] => 0
 | p :: r => qzk p.1 + cnt r
def dpt : List (CoreT × Int) → Int
 | [] => 0
 | p :: r => max p.2 (dpt r)
theorem Hf (l m : List (CoreT × Int)) : cnt (l ++ m) = cnt l + cnt m := by
 induction l with
 | nil => simp [cnt]
 | cons c r ih => simp only [List.cons_append, cnt, ih]; omega
theorem qhv (l : List (CoreT × Int)) : 0 ≤ dpt l := by
 induction l with
 | nil => simp [dpt]
 | cons c r ih => simp only [dpt]; omega
theorem qfw (l m : List (CoreT × Int)) : dpt (l ++ m) = max (dpt l) (dpt m) := by
 induction l with
 | nil => have := qhv m; simp only [List.nil_append, dpt]; omega
 | cons c r ih => simp only [List.cons_append, dpt, ih]; omega
def qyq (S : World) (bc bd : Nat) (l : List (CoreT × Int)) (w : World) : Prop :=
 Below S.heap.size S w ∧ Blk w bc 3 [.int .i64 (cnt l)] ∧ Blk w bd 3 [.int .i64 (dpt l)] ∧ cnt l ≤ 20000 ∧ dpt l ≤ 1000
def qyr (S : World) (bc bd : Nat) (l : List (CoreT × Int)) (w : World) : Prop :=
 Below S.heap.size S w ∧ Blk w bc 3 [.int .i64 (cnt l)] ∧ Blk w bd 3 [.int .i64 (dpt l)] ∧ ¬ (cnt l ≤ 20000 ∧ dpt l ≤ 1000)
theorem qps (S : World) (bc bd : Nat) (h1 : S.heap.size ≤ bc) (h2 : S.heap.size ≤ bd) (hne : bc ≠ bd) :
  Sees S 54 #[.pointer (some ⟨bc, 0, none⟩), .pointer (some ⟨bd, 0, none⟩)] (qyq S bc bd) (qyr S bc bd) := by
 intro l y d p w ⟨hB, hc, hd, hcl, hdl⟩ hat hbk hd1 hd2
 obtain ⟨A3, c3, A4, c4, A5, c5, A6, c6, hK, g0, -, -, -, g4, -, g6⟩ := hat
 obtain ⟨_, _, _, _, _, _, _, _, he, -, -, -, -, -, -, l6, a6⟩ := Qk hK
 simp only [Qb, List.cons.injEq, Value.slice.injEq, true_and, and_true] at he
 obtain ⟨⟨rfl, rfl⟩, ⟨rfl, rfl⟩, ⟨rfl, rfl⟩, ⟨rfl, rfl⟩⟩ := he
 clear hK
 have hn1 : y.names.length ≤ 274877906944 := by rw [Qg] at hbk; have := Qn y.names; omega
 have hla : y.alts.length ≤ 274877906944 := by rw [Qg] at hbk; have := Ks y.alts; omega
 have hna : Zp y.alts ≤ 274877906944 := by rw [Qg] at hbk; have := qci y.alts; omega
 have HNA := Wd hna; clear hna
 have ⟨G0, G4, G6⟩ := Wq g0 g4 g6; have A6' := Wd a6; clear g0 g4 g6 a6 hbk
 have ⟨HB, HC, HD⟩ := Wq hB hc hd; clear hB
 obtain ⟨c, hcc⟩ : ∃ c : Nat, c = cnt l := ⟨_, rfl⟩
 obtain ⟨dd, hdd⟩ : ∃ c : Int, c = dpt l := ⟨_, rfl⟩
 have hdd0 : 0 ≤ dd := by rw [hdd]; exact qhv l
 rw [← hcc] at hcl hc HC
 rw [← hdd] at hdl hd HD
 have HCC := Wd hcc; have HDD := Wd hdd; clear hcc hdd
 have b0 := hc.cell (j := 0) rfl
 clear hc hd
 go_enter Tryz.func54, Tryz.ntmps54
 go_wp2_with (refine Qc bc 0 [] [_] [] [.int .i64 (c + 1)] 3 rfl 3 (.tmp 2) _ rfl rfl rfl rfl HC.out rfl (by kernel_rfl) (by intro v hv; rw [List.mem_singleton.1 hv]; rfl) ?_)
 intro W1 hb1 hg1 hs1
 have ⟨HB1, HC1, HD1⟩ := Wq (Zm HB.out hg1 h1) hb1 (HD.out.grown hg1 (by omega))
 clear hb1 hg1 hs1 HB HC HD b0
 have g0 := Cl HB1.out G0.out
 rcases (by omega : y.kind = 6 ∨ y.kind = 7 ∨ (y.kind ≠ 6 ∧ y.kind ≠ 7)) with hk | hk | ⟨hk, hk'⟩
 case' inl =>
  rw [hk] at g0
  go_wp2_with fail
  have b0 := HC1.out.cell (j := 0) rfl
  have f0 := HC1.out.frozen 0
  have g4 := Cl HB1.out G4.out
  have w1 : IntKind.i64.wrap ((c : Int) + 1 + y.names.length) = (c : Int) + 1 + y.names.length := IntWalk.i64_in _ (by omega)
  go_still_tail 7, (by kernel_rfl)
  change wpList _ _ _ _ _ W1.drew
  clear b0 f0 g4 w1
  go_wp2_with (refine Qc bc 0 [] [_] [] [.int .i64 ((c : Int) + 1 + y.names.length)] 3 rfl 3 (.tmp 2) _ rfl rfl rfl rfl HC1.out rfl (by kernel_rfl) (by intro v hv; rw [List.mem_singleton.1 hv]; rfl) ?_)
  intro W2 hb2 hg2 hs2
  obtain ⟨v, hv⟩ : ∃ v : Nat, v = c + 1 + y.names.length := ⟨_, rfl⟩
  have HV := Wd (show v = c + 1 + (if y.kind = 6 ∨ y.kind = 7 then y.names.length else 0) by rw [if_pos (by omega)]; exact hv)
  have hb2' : Blk W2 bc 3 [.int .i64 v] := by rw [hv]; push_cast; exact hb2
  have hvb : v ≤ 288000000000 := by omega
  have ⟨HB2, HC2, HD2⟩ := Wq (Zm HB1.out (Gv hg2) h1) hb2' (HD1.out.grown (Gv hg2) (by omega))
  have q6 := Cl HB2.out G6.out
  clear hb2 hb2' hv hg2 hs2 HB1 HC1 HD1 g0
  go_wp2_with fail
  clear q6
 case' inr.inl =>
  rw [hk] at g0
  go_wp2_with fail
  have b0 := HC1.out.cell (j := 0) rfl
  have f0 := HC1.out.frozen 0
  have g4 := Cl HB1.out G4.out
  have w1 : IntKind.i64.wrap ((c : Int) + 1 + y.names.length) = (c : Int) + 1 + y.names.length := IntWalk.i64_in _ (by omega)
  go_still_tail 7, (by kernel_rfl)
  change wpList _ _ _ _ _ W1.drew
  clear b0 f0 g4 w1
  go_wp2_with (refine Qc bc 0 [] [_] [] [.int .i64 ((c : Int) + 1 + y.names.length)] 3 rfl 3 (.tmp 2) _ rfl rfl rfl rfl HC1.out rfl (by kernel_rfl) (by intro v hv; rw [List.mem_singleton.1 hv]; rfl) ?_)
  intro W2 hb2 hg2 hs2
  obtain ⟨v, hv⟩ : ∃ v : Nat, v = c + 1 + y.names.length := ⟨_, rfl⟩
  have HV := Wd (show v = c + 1 + (if y.kind = 6 ∨ y.kind = 7 then y.names.length else 0) by rw [if_pos (by omega)]; exact hv)
  have hb2' : Blk W2 bc 3 [.int .i64 v] := by rw [hv]; push_cast; exact hb2
  have hvb : v ≤ 288000000000 := by omega
  have ⟨HB2, HC2, HD2⟩ := Wq (Zm HB1.out (Gv hg2) h1) hb2' (HD1.out.grown (Gv hg2) (by omega))
  have q6 := Cl HB2.out G6.out
  clear hb2 hb2' hv hg2 hs2 HB1 HC1 HD1 g0
  go_wp2_with fail
  clear q6
 case' inr.inr =>
  have q1 : (y.kind == 6) = false := by simpa using hk
  have q2 : (y.kind == 7) = false := by simpa using hk'
  have q6 := Cl HB1.out G6.out
  go_wp2_with fail
  clear q6 g0 q1 q2
  obtain ⟨W2, rfl⟩ : ∃ W2 : World, W2 = W1 := ⟨_, rfl⟩
  obtain ⟨v, hv⟩ : ∃ v : Nat, v = c + 1 := ⟨_, rfl⟩
  have HV := Wd (show v = c + 1 + (if y.kind = 6 ∨ y.kind = 7 then y.names.length else 0) by rw [if_neg (by omega)]; exact hv)
  have hc2' : Blk W2 bc 3 [.int .i64 v] := by rw [hv]; push_cast; exact HC1.out
  have hvb : v ≤ 288000000000 := by omega
  have HB2 := HB1; have HC2 := Wd hc2'; have HD2 := HD1
  clear hc2' hv HB1 HC1 HD1
 all_goals
  go_loopw [7, 34] (fun v7 i wr => ∃ (k v2 : Nat), k ≤ y.alts.length ∧ i = .int .i64 k ∧ v2 ≤ 576000000000 ∧ Hid (v2 = v + Zp (y.alts.take k)) ∧ Hid (Below S.heap.size S wr) ∧ Hid (Blk wr bc 3 [.int .i64 v2]) ∧ Hid (Blk wr bd 3 [.int .i64 dd])) (fun _ i _ => y.alts.length - (intOf i).toNat)
  case atStart => exact ⟨0, v, Nat.zero_le _, rfl, by omega, Wd (by simp [Zp]), HB2, HC2, HD2⟩
  case round =>
   obtain ⟨k, v2, hk, rfl, hv2, HVK, HBr, HCr, HDr⟩ := hrel
   by_cases hlt : k < y.alts.length
   ·obtain ⟨ad, A1, c1, A3, c3, A4, c4, A5', c5', A6', c6', rfl, _, _, _, _, g0, g1, g2, g3, g4, g5, g6, g7, g8⟩ := Yd A6'.out HBr.out k hlt
    clear g0 g2 g3 g4 g5 g6 g7 g8
    have hnl : v2 + y.alts[k].names.length ≤ 576000000000 := by
     have := HVK.out; have := qkl y.alts (k + 1); rw [Qf hlt, Vz] at this; have := HNA.out; omega
    have q6 := Cl HBr.out G6.out
    have b0 := HCr.out.cell (j := 0) rfl
    have f0 := HCr.out.frozen 0
    have w1 : IntKind.i64.wrap ((v2 : Int) + y.alts[k].names.length) = (v2 : Int) + y.alts[k].names.length := IntWalk.i64_in _ (by omega)
    go_wp2_with fail
    go_still_tail 11, (by kernel_rfl)
    change wpList _ _ _ _ _ wr.drew
    clear b0 f0 g1 w1 q6
    go_wp2_with (refine Qc bc 0 [] [_] [] [.int .i64 ((v2 : Int) + y.alts[k].names.length)] 3 rfl 3 (.tmp 2) _ rfl rfl rfl rfl HCr.out rfl (by kernel_rfl) (by intro v hv; rw [List.mem_singleton.1 hv]; rfl) ?_)
    intro W3 hb3 hg3 hs3
    have ⟨HB3, HC3, HD3⟩ := Wq (Zm HBr.out (Gv hg3) h1) hb3 (HDr.out.grown (Gv hg3) (by omega))
    clear hb3 hg3 hs3
    go_wp2
    go_roundw
    case rel => exact ⟨k + 1, v2 + y.alts[k].names.length, by omega, by go_num, hnl, Wd (by have := HVK.out; rw [Qf hlt, Vz]; omega), HB3, by push_cast; exact HC3, HD3⟩
    case measure => simp [intOf]; omega
   ·have hkk : k = y.alts.length := by omega
    have hnn := HVK.out
    rw [hkk, List.take_length] at hnn
    have HNN := Wd (show v2 = cnt (l ++ [(y, d)]) by rw [Hf, hnn, HV.out, HCC.out]; simp only [cnt, qzk]; omega)
    have HDN := Wd (show max dd d = dpt (l ++ [(y, d)]) by rw [qfw, HDD.out]; simp only [dpt]; omega)
    clear hnn hkk
    have b0 := HDr.out.cell (j := 0) rfl
    by_cases hmx : dd < d
    ·have HDM := Wd (show d = dpt (l ++ [(y, d)]) by rw [← HDN.out]; omega)
     clear HDN; have HDN := HDM; clear HDM
     go_wp2_with (refine Qc bd 0 [] [_] [] [.int .i64 d] 3 rfl 3 (.tmp 3) _ rfl rfl rfl rfl HDr.out rfl (by kernel_rfl) (by intro v hv; rw [List.mem_singleton.1 hv]; rfl) ?_)
     intro W3 hb3 hg3 hs3
     have ⟨HB3, HD3, HC3⟩ := Wq (Zm HBr.out hg3 h2) hb3 (HCr.out.grown hg3 (by omega))
     clear hb3 hg3 hs3 b0
     have c0 := HC3.out.cell (j := 0) rfl
     have d0 := HD3.out.cell (j := 0) rfl
     by_cases hc1 : v2 ≤ 20000
     ·by_cases hd3 : d ≤ 1000
      ·go_wp2
       go_ret
       exact .inl ⟨rfl, HB3.out, by rw [← HNN.out]; exact HC3.out, by rw [← HDN.out]; exact HD3.out, by rw [← HNN.out]; exact hc1, by rw [← HDN.out]; exact hd3⟩
      ·go_wp2
       go_ret
       exact .inr ⟨rfl, HB3.out, by rw [← HNN.out]; exact HC3.out, by rw [← HDN.out]; exact HD3.out, by rw [← HNN.out, ← HDN.out]; exact fun h => absurd h.2 (by omega)⟩
     ·go_wp2
      go_ret
      exact .inr ⟨rfl, HB3.out, by rw [← HNN.out]; exact HC3.out, by rw [← HDN.out]; exact HD3.out, by rw [← HNN.out, ← HDN.out]; exact fun h => absurd h.1 (by omega)⟩
    ·have HDM := Wd (show dd = dpt (l ++ [(y, d)]) by rw [← HDN.out]; omega)
     clear HDN; have HDN := HDM; clear HDM
     go_wp2_with (refine Qc bd 0 [] [_] [] [.int .i64 dd] 3 rfl 3 (.tmp 3) _ rfl rfl rfl rfl HDr.out rfl (by kernel_rfl) (by intro v hv; rw [List.mem_singleton.1 hv]; rfl) ?_)
     intro W3 hb3 hg3 hs3
     have ⟨HB3, HD3, HC3⟩ := Wq (Zm HBr.out hg3 h2) hb3 (HCr.out.grown hg3 (by omega))
     clear hb3 hg3 hs3 b0
     have c0 := HC3.out.cell (j := 0) rfl
     have d0 := HD3.out.cell (j := 0) rfl
     by_cases hc1 : v2 ≤ 20000
     ·have hd3 := hdl
      go_wp2
      go_ret
      exact .inl ⟨rfl, HB3.out, by rw [← HNN.out]; exact HC3.out, by rw [← HDN.out]; exact HD3.out, by rw [← HNN.out]; exact hc1, by rw [← HDN.out]; exact hd3⟩
     ·go_wp2
      go_ret
      exact .inr ⟨rfl, HB3.out, by rw [← HNN.out]; exact HC3.out, by rw [← HDN.out]; exact HD3.out, by rw [← HNN.out, ← HDN.out]; exact fun h => absurd h.1 (by omega)⟩
end Go.Proofs.YtnoammmohdmnjaaGreat.C13
namespace Go.Proofs.YtnoammmohdmnjaaGreat.C13
open Go.RowKit Go.Proofs.YtnoammmohdmnjaaGreatW.PrintWords Go.WideMaps Go.Maps
open List renaming setIfInBounds_toArray → Jla, set_cons_zero → Jlb, set_cons_succ → Jlc
theorem keyS : Keyed Tryz.prog 9 := string_keyed Tryz.underlying9
theorem zeroB (w : World) : (zeroValue 4).run Tryz.prog w = .ok (.bool false) w := by kernel_rfl
def qhe (s : ByteArray) : Lit := .string s.data.toList
theorem qoq {s t : ByteArray} (h : qhe s = qhe t) : s = t := by
 unfold qhe at h
 injection h with h
 cases s; cases t
 simp only [ByteArray.mk.injEq]
 exact Array.ext' h
theorem Uj {s : ByteArray} (h : s.size ≤ maxLen) : keyOf Tryz.prog 9 (.string s) = some (qhe s) := keyOf_string_mk Tryz.underlying9 h
def setB (l : List ByteArray) : DataW Unit := setOf (.lit (.bool true)) (l.map qhe)
theorem qgt (l : List ByteArray) (s : ByteArray) : setB (l ++ [s]) = (setB l).put (qhe s) (.lit (.bool true)) := by
 unfold setB; rw [List.map_append, List.map_cons, List.map_nil, setOf_snoc]
theorem qqs (l : List ByteArray) (hl : ∀ s ∈ l, s.size ≤ maxLen) : IsMap (setB l) :=
 (tidy_setOf _ _ (by
  intro x hx
  obtain ⟨s, hs, rfl⟩ := List.mem_map.1 hx
  exact keyS.key (Uj (hl s hs)))).isMap
theorem zas (s : ByteArray) (hs : s.size ≤ maxLen) : ∀ (l : List ByteArray), (∀ s ∈ l, s.size ≤ maxLen) → (setB l).atKey (qhe s) (.lit (.bool false)) = .lit (.bool (dec (s ∈ l))) := by
 intro l
 induction hn : l.length generalizing l with
 | zero =>
  intro _
  obtain rfl := List.length_eq_zero_iff.1 hn
  rw [Qd (by simp)]; rfl
 | succ n ih =>
  intro hl
  obtain ⟨l', t, rfl⟩ : ∃ l' t, l = l' ++ [t] := ⟨l.dropLast, l.getLast (by intro h; subst h; simp at hn), (List.dropLast_concat_getLast _).symm⟩
  rw [qgt]
  by_cases he : s = t
  ·subst he
   rw [atKey_put_same (qqs l' (fun x hx => hl x (by simp [hx]))) (keyS.key (Uj hs)), Qm (by simp)]
  ·rw [atKey_put_other (fun h => he (qoq h)), ih l' (by simpa using hn) (fun x hx => hl x (by simp [hx]))]
   rw [Xs (show (s ∈ l') ↔ (s ∈ l' ++ [t]) from by simp [he])]
theorem qcu {v : Value} {d : DataW Unit} {ps : List MemPlace} {x : Bool} (h : plainElem Tryz.prog 4 v = some (d, ps)) (hd : d = .lit (.bool x)) : v = .bool x := by
 subst hd
 cases v <;> simp [plainElem, Tryz.underlying4] at h
 rw [h.1]
def SetM (w : World) (b : Nat) (l : List ByteArray) : Prop := w.ownsMap Tryz.prog 9 (plainElem (H := Unit) Tryz.prog 4) b l.length (setB l)
theorem SetM.look {w : World} {b : Nat} {l : List ByteArray} (h : SetM w b l) (hl : ∀ s ∈ l, s.size ≤ maxLen) {s : ByteArray} (hs : s.size ≤ maxLen) :
  (Instr.lookup 95 (.map (some b)) (.string s) false).run Tryz.prog w = .ok (.bool (dec (s ∈ l))) w := by
 obtain ⟨v, ps, hrun, hv⟩ := h.lookup keyS Tryz.underlying95 (zeroB w) (plainElem_bool Tryz.underlying4 false) (Uj hs)
 rw [zas s hs l hl] at hv
 rw [hrun, qcu hv rfl]
theorem Vc {s : ByteArray} (he : s ≠ ⟨#[]⟩) : s.toList.isEmpty = false ∧ (s.toList = [] ↔ False) := by
 have h : s.toList ≠ [] := fun h => he (Jz (h.trans empty_toList.symm))
 exact ⟨by cases h2 : s.toList with | nil => exact absurd h2 h | cons a r => rfl, ⟨h, False.elim⟩⟩
theorem qbj (l : List ByteArray) (hl : ∀ s ∈ l, s.size ≤ 274877906944) (hn : l.length ≤ 274877906944) (A : Option Addr) (c : Nat) (w : World) (hr : Kd.string.C w A l.length l) (hc : l.length ≤ c) :
  Qh 128 #[.slice A l.length c] w (dec (Zh l)) := by
 have hmm := @run_makeMap Tryz.prog
 have HR := Wd hr; have HL := Wd hl; clear hr hl
 unfold Qh
 obtain ⟨r, hrr⟩ : ∃ r, r = dec (Zh l) := ⟨_, rfl⟩
 rw [← hrr]
 have HRR := Wd hrr; clear hrr
 go_enter Tryz.func128, Tryz.ntmps128
 go_wp2_with fail
 go_loopw [5, 9] (fun v5 i wr => ∃ (k : Nat), k ≤ l.length ∧ i = .int .i64 k ∧ Hid (Zh (l.take k)) ∧ Hid (SetM wr w.heap.size (l.take k)) ∧ Hid (Below w.heap.size w wr)) (fun _ i _ => l.length - (intOf i).toNat)
 case atStart => exact ⟨0, Nat.zero_le _, rfl, Wd ⟨by simp, by simp⟩, Wd (World.ownsMap_made _ _ _ _), Wd ((Below.refl _ _).alloc (Nat.le_refl _) _)⟩
 case round =>
  obtain ⟨k, hk, rfl, HN, HM, HB⟩ := hrel
  by_cases hlt : k < l.length
  ·obtain ⟨ad, rfl, g0⟩ := Xy (Kd.C_below HR.out HB.out) k hlt
   have hsz : l[k].size ≤ 274877906944 := HL.out _ (List.getElem_mem hlt)
   have HT := Wd (show ∀ s ∈ l.take k, s.size ≤ maxLen from fun s hs => Nat.le_trans (HL.out s (List.mem_of_mem_take hs)) (by unfold maxLen; omega))
   have hrun := HM.out.look HT.out (s := l[k]) (by unfold maxLen; omega)
   have HSN := Wd (Qf hlt)
   have HMEM := Wd (List.getElem_mem hlt)
   generalize l[k] = s at *
   by_cases he : s = ⟨#[]⟩
   ·subst he
    clear hrun
    go_wp2
    go_ret
    exact ⟨by rw [HRR.out, Qd (fun h => h.1 _ HMEM.out rfl)]; rfl, HB.out⟩
   ·obtain ⟨q1, q2⟩ := Vc he
    have HE := Wd he; clear he
    by_cases hm : s ∈ l.take k
    ·rw [Qm hm] at hrun
     have HMM := Wd hm; clear hm
     go_wp2
     go_ret
     refine ⟨?_, HB.out⟩
     rw [HRR.out, Qd]
     ·rfl
     ·intro h
      have h2 := qif h.2 (k + 1)
      rw [HSN.out, List.nodup_append] at h2
      exact h2.2.2 s HMM.out s (by simp) rfl
    ·rw [Qd hm] at hrun
     have HMM := Wd hm; clear hm
     have hkey := Uj (s := s) (by unfold maxLen; omega)
     go_wp2_with (at_mapUpdate; refine wpList_mapUpdate_own _ rfl _ _ _ 95 rfl 9 4 keyS Tryz.underlying95 _ w.heap.size (l.take k).length _ rfl HM.out (by rw [List.length_take]; unfold maxLen; omega) _ _ _ rfl rfl hkey _ [] (plainElem_bool Tryz.underlying4 true) ?_)
     intro w1 hown1 hg1
     have HB1 := Wd (HB.out.grown hg1 HB.out.size (fun j hj => by cases hj; exact Nat.le_refl _))
     have HM1 := Wd (show SetM w1 w.heap.size (l.take (k + 1)) by
      unfold SetM; rw [HSN.out, qgt]
      have e : (l.take k ++ [s]).length = k + 1 := by simp; omega
      rw [e]; exact hown1)
     have HN1 := Wd (show Zh (l.take (k + 1)) by
      rw [HSN.out]
      refine ⟨fun x hx => ?_, List.nodup_append.2 ⟨HN.out.2, by simp, fun a ha b hb he => ?_⟩⟩
      ·rcases List.mem_append.1 hx with hx | hx
       ·exact HN.out.1 x hx
       ·rw [List.mem_singleton.1 hx]; exact HE.out
      ·rw [List.mem_singleton.1 hb] at he; rw [he] at ha; exact HMM.out ha)
     clear hrun hkey hown1 hg1 g0
     go_wp2
     go_roundw
     case rel => exact ⟨k + 1, by omega, by go_num, HN1, HM1, HB1⟩
     case measure => simp [intOf]; omega
  ·have hkk : k = l.length := by omega
   have hnn := HN.out
   rw [hkk, List.take_length] at hnn
   have HNK := Wd hnn; clear hnn hkk
   go_wp2
   go_ret
   exact ⟨by rw [HRR.out, Qm HNK.out]; rfl, HB.out⟩
end Go.Proofs.YtnoammmohdmnjaaGreat.C13
