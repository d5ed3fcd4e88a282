/- Part of the proof that FnExactFormatCore answers true at every term. -/

import Derived.Test.YtagfphlhahiplaaF7
namespace Go.Proofs.Ytagfphlhahiplaa.C13
open Go.RowKit Go.Proofs.YtagfphlhahiplaaW.PrintWords Go.Proofs.Ytagfphlhahiplaa.PFnExactFormatCore
set_option linter.unusedVariables false
set_option linter.unusedSimpArgs false
/-- block b holds the one byte c, and is not the slice's own -/
def Lit (w : World) (v : Value) (b : Nat) (c : Int) : Prop := Blk w b 5 [.int .u8 c] ∧ some b ≠ v.ownBlock
theorem Lit.new {base : Nat} {w0 : World} {o0 : Value} {w : World} {v : Value} {xs : List Int} (h : Out base w0 o0 w v xs) (c : Int) : Lit (w.alloc (.cells #[.int .u8 c] 5)) v w.heap.size c :=
  ⟨blk_alloc w 5 [.int .u8 c], fun e => by have := own_ltb h.own _ e.symm; omega⟩
theorem Lit.step {w : World} {v : Value} {b : Nat} {c : Int} (h : Lit w v b c) {w' : World} {v' : Value} (hg : w.grownBy w' v.ownBlock) (hl : v'.ownBlock = v.ownBlock ∨ ∃ b, v'.ownBlock = some b ∧ w.heap.size ≤ b) : Lit w' v' b c := by
  refine ⟨h.1.grownO hg h.2, fun e => ?_⟩
  rcases hl with hl | ⟨b', hb, hbl⟩
  · exact h.2 (e.trans hl)
  · rw [hb] at e; injection e with e; have := h.1.lt; omega
theorem Lit.alloc {w : World} {v : Value} {b : Nat} {c : Int} (h : Lit w v b c) (ob : Obj) : Lit (w.alloc ob) v b c := ⟨h.1.alloc ob, h.2⟩
theorem Lit.cell {w : World} {v : Value} {b : Nat} {c : Int} (h : Lit w v b c) : w.cell? ((⟨b, 0, none⟩ : Addr).add 0) = some (.int .u8 c) := by rw [add_nought]; exact h.1.cell (j := 0) rfl
set_option maxRecDepth 100000
section
variable {ops : Array Oper} {o : Oper} {a : Act} {Q : Exit → Act → World → Prop}
/-- append(out, s...) at a step of a region that draws; literals stay -/
theorem step_strL {K : Act → World → Prop} {E : Prop} {base : Nat} {w0 : World} {o0 : Value} {w : World} {v : Value} {xs : List Int} (h : Out base w0 o0 w v xs) (hgd : o.guard = none) (sl x : Operand)
    (ho : o.op = .call { callee := .builtin .append, args := #[sl, x], argTypes := #[48, 9] }) (y : ByteArray) (hs : a.eval sl = v) (hx : a.eval x = .string y) (hl : xs.length + y.size ≤ 1000000000)
    (k : ∀ v1 w1, Out base w0 o0 w1 v1 (xs ++ bytesOf y) → (∀ b c, Lit w v b c → Lit w1 v1 b c) → K (a.put o.dst v1) w1) : if Region.wanted o (yielded ops a.tmps) = true then Oper.wp Try.prog o a w K Q else E :=
  step_str (Out.start h.own (Nat.le_trans h.ge h.gr.size)) hgd sl x ho y hs hx hl (fun v1 w1 h1 => k v1 w1 (h.trans h1) (fun _ _ l => l.step h1.gr h1.lies))
/-- append(out, c) at a step of a region that draws; literals stay -/
theorem step_byteL {K : Act → World → Prop} {E : Prop} {base : Nat} {w0 : World} {o0 : Value} {w : World} {v : Value} {xs : List Int} (h : Out base w0 o0 w v xs) (hgd : o.guard = none) (sl x : Operand)
    (ho : o.op = .call { callee := .builtin .append, args := #[sl, x], argTypes := #[48, 48] }) (y : Int) (ad : Addr) (hs : a.eval sl = v) (hx : a.eval x = .slice (some ad) 1 1) (hc : w.cell? (ad.add 0) = some (.int .u8 y)) (hl : xs.length ≤ 1000000000)
    (k : ∀ v1 w1, Out base w0 o0 w1 v1 (xs ++ [y]) → (∀ b c, Lit w v b c → Lit w1 v1 b c) → K (a.put o.dst v1) w1) : if Region.wanted o (yielded ops a.tmps) = true then Oper.wp Try.prog o a w K Q else E :=
  step_byte (Out.start h.own (Nat.le_trans h.ge h.gr.size)) hgd sl x ho y ad hs hx hc hl (fun v1 w1 h1 => k v1 w1 (h.trans h1) (fun _ _ l => l.step h1.gr h1.lies))
end
/-- l13Format called behind other appends -/
theorem FmtSaid.call {y : CoreT} (h : FmtSaid y) (hw : WfC y) (hs : Shapes y) (hb : bulk y ≤ 1048576) {S : World} {cs : List Value} (hK : IC.K S y cs) {base : Nat} {W1 : World} {o : Value} {w : World} {v : Value} {xs : List Int}
    (ho : Out base W1 o w v xs) (hB : Below S.heap.size S W1) (hSb : S.heap.size ≤ base) (hOB : ∀ k, o.ownBlock = some k → base ≤ k) (hl : xs.length + (fmt y).length ≤ 1000000000) :
    Calls Try.prog 19 #[v, .agg cs.toArray] w fun e w5 => ∃ v5, e = .returned v5 ∧ Out base W1 o w5 v5 (xs ++ fmt y) ∧ (∀ b c, Lit w v b c → Lit w5 v5 b c) :=
  (h hw hs hb S w cs base v xs hK (hB.trans ((ho.belowB hOB).mono hSb)) hSb (Nat.le_trans ho.ge ho.gr.size) ho.own hl).mono
    (fun e w5 ⟨v5, he, h5⟩ => ⟨v5, he, ho.trans h5, fun _ _ l => l.step h5.gr h5.lies⟩)
end Go.Proofs.Ytagfphlhahiplaa.C13
namespace Go.Proofs.Ytagfphlhahiplaa.C13
open Go.RowKit Go.Proofs.YtagfphlhahiplaaW.PrintWords Go.Proofs.Ytagfphlhahiplaa.PFnExactFormatCore
attribute [local go_sem ↓] Go.wp_at_zero Go.wp_at_succ
set_option linter.unusedVariables false
set_option linter.unusedSimpArgs false
section
variable {S w : World} {x : CoreT} {A3 : Option Addr} {c3 : Nat} {A4 : Option Addr} {c4 : Nat} {A5 : Option Addr} {c5 : Nat} {A6 : Option Addr} {c6 : Nat} {base : Nat} {o : Value} {xs : List Int}
def lamText (x : CoreT) (t : List Int) : List Int := [40, 92] ++ joins [32] true (x.names.map bytesOf) ++ [32, 45, 62, 32] ++ t ++ [41]
theorem getD_zero {l : List CoreT} (h : 0 < l.length) : (l.map fmt).getD 0 [] = fmt l[0] := by
  rw [List.getD_eq_getElem?_getD, List.getElem?_eq_getElem (by simpa using h)]; simp
set_option maxRecDepth 100000 in
set_option maxHeartbeats 2000000 in
theorem fmt_lam (hbk : bulk x ≤ 1048576) (hk : x.kind = 6) (hlt0 : 0 < x.kids.length) (ih : ∀ y ∈ x.kids, FmtSaid y) (hw : WfCs x.kids) (hs : ∀ y ∈ x.kids, Shapes y) (hK : IC.K S x (cellsC x A3 c3 A4 c4 A5 c5 A6 c6))
    (hB : Below S.heap.size S w) (hSb : S.heap.size ≤ base) (hge : base ≤ w.heap.size) (hown : w.ownsRow base 5 1 o xs.length (nums .u8 xs))
    (hl : xs.length + (lamText x (fmt x.kids[0])).length ≤ 1000000000) :
    Calls Try.prog 19 #[o, .agg (cellsC x A3 c3 A4 c4 A5 c5 A6 c6).toArray] w fun e w' => ∃ v, e = .returned v ∧ Out base w o w' v (xs ++ (lamText x (fmt x.kids[0]))) := by
  have HO := Lib.hid hown; clear hown
  have G5 := Lib.hid (kids_of hK); have G4 := Lib.hid (names_of hK); clear hK
  obtain ⟨b1, b2, b3, b4, b5⟩ := bounds hbk
  have IH := Lib.hid ih; have HW := Lib.hid hw; have HS := Lib.hid hs; clear ih hw hs
  have HBS := Lib.hid hB; clear hB
  have HBK := Lib.hid hbk; clear hbk
  simp only [cellsC]
  rw [hk]
  have HKK := Lib.hid hk; clear hk
  simp only [lamText, List.length_append, List.length_cons, List.length_nil] at hl
  obtain ⟨W1, hW1, hp1, hB1, hs1⟩ := boxed w [.int .i64 6, .string x.name, .bool x.minus, .slice A3 x.limbs.length c3, .slice A4 x.names.length c4, .slice A5 x.kids.length c5, .slice A6 x.alts.length c6] 36
  have BP1 := Lib.hid hp1; have HB1 := Lib.hid hB1
  have HNE := Lib.hid (show some w.heap.size ≠ o.ownBlock from fun h => by have := own_ltb HO.out _ h.symm; omega)
  have H1 := Lib.hid (Out.start (ownsRow_below HO.out hB1) (show base ≤ W1.heap.size by omega))
  have HOB := Lib.hid (own_base' HO.out)
  have HW1 := Lib.hid hW1
  clear hp1 hB1 hs1 hW1
  go_enter Try.func19, Try.ntmps19
  go_wp2_with (at_builtin; go_must (rw [show _ = W1 from HW1.out.symm]; refine app_str H1.out rfl _ _ rfl ⟨#[40, 92]⟩ rfl rfl (by show xs.length + 2 ≤ _; omega) ?_))
  intro v2 w2 h2
  have e2 : bytesOf ⟨#[40, 92]⟩ = [40, 92] := by rfl
  rw [e2] at h2
  have H2 := Lib.hid h2; clear h2 e2
  go_wp2_with fail
  go_loopw [0, 6] (fun v i wr => ∃ k : Nat, k ≤ x.names.length ∧ i = .int .i64 k ∧ Hid (Out base W1 o wr v (xs ++ [40, 92] ++ joins [32] true ((x.names.map bytesOf).take k)))) (fun _ i _ => x.names.length - (intOf i).toNat)
  case atStart => exact ⟨0, Nat.zero_le _, rfl, Lib.hid (by simpa [joins] using H2.out)⟩
  case round =>
    obtain ⟨k, hk, rfl, HQ⟩ := hrel
    have HBP := Lib.hid (HQ.out.blk BP1.out HNE.out)
    have p4 := HBP.out.cell (j := 4) rfl
    by_cases hlt : k < x.names.length
    · have hJ := joins_take_len [32] (x.names.map bytesOf) (k + 1) true
      have hsn : (x.names.map bytesOf).take (k + 1) = (x.names.map bytesOf).take k ++ [bytesOf x.names[k]] := by rw [take_snoc' (by rw [List.length_map]; exact hlt), List.getElem_map]
      rw [hsn, joins_snoc] at hJ
      have HSN := Lib.hid hsn; clear hsn
      simp only [List.length_append] at hJ
      by_cases hk0 : k = 0
      · subst hk0
        rw [if_pos (by simp)] at hJ
        have HB4 := Lib.hid ((Below.step HBS.out HB1.out).trans ((HQ.out.belowB HOB.out).mono hSb))
        obtain ⟨ad, rfl, g0⟩ := elem_str (Kd.C_below G4.out.2 HB4.out) 0 hlt
        rw [add_nought] at g0
        go_wp2_with (at_builtin; refine app_str HQ.out rfl _ _ rfl x.names[0] rfl rfl (by simp only [List.length_append, List.length_cons, List.length_nil, bytesOf_length] at hJ ⊢; omega) ?_)
        intro v5 w5 h5
        have H5 := Lib.hid h5
        clear h5 p4 g0
        go_wp2
        go_roundw
        case rel => exact ⟨0 + 1, by omega, by go_num, Lib.hid (by have := H5.out; rw [HSN.out, joins_snoc, if_pos (by simp)]; simpa [List.append_assoc] using this)⟩
        case measure => simp [intOf]; omega
      · have q0 : decide (0 < (k : Int)) = true := decide_eq_true (by omega)
        have hne : ¬ ((x.names.map bytesOf).take k = []) := by intro h; have := congrArg List.length h; rw [List.length_take, List.length_map, List.length_nil] at this; omega
        rw [if_neg (fun h => hne h.2)] at hJ
        have HNE0 := Lib.hid hne; clear hne
        go_wp2_with (at_builtin; refine app_byte HQ.out rfl _ _ rfl 32 rfl rfl (by simp only [List.length_append, List.length_cons, List.length_nil] at hJ ⊢; omega) ?_)
        intro v4 w4 h4
        have H4 := Lib.hid h4
        clear h4 p4
        have HB4 := Lib.hid ((Below.step HBS.out HB1.out).trans ((H4.out.belowB HOB.out).mono hSb))
        have p4 := (H4.out.blk BP1.out HNE.out).cell (j := 4) rfl
        obtain ⟨ad, rfl, g0⟩ := elem_str (Kd.C_below G4.out.2 HB4.out) k hlt
        go_wp2_with (at_builtin; refine app_str H4.out rfl _ _ rfl x.names[k] rfl rfl (by simp only [List.length_append, List.length_cons, List.length_nil, bytesOf_length] at hJ ⊢; omega) ?_)
        intro v5 w5 h5
        have H5 := Lib.hid h5
        clear h5 p4 g0
        go_wp2
        go_roundw
        case rel => exact ⟨k + 1, by omega, by go_num, Lib.hid (by have := H5.out; rw [HSN.out, joins_snoc, if_neg (fun h => HNE0.out h.2)]; simpa [List.append_assoc] using this)⟩
        case measure => simp [intOf]; omega
    · have hkk : k = x.names.length := by omega
      have hq := HQ.out
      rw [hkk, List.take_of_length_le (by rw [List.length_map]; exact Nat.le_refl _)] at hq
      have HQ2 := Lib.hid hq; clear hq hkk
      have HB4 := Lib.hid ((Below.step HBS.out HB1.out).trans ((HQ2.out.belowB HOB.out).mono hSb))
      have p5 := HBP.out.cell (j := 5) rfl
      obtain ⟨ad, A3', c3', A4', c4', B5, d5, B6, d6, rfl, hKk, g0, g1, g2, g3, g4, g5, g6⟩ := elem_core G5.out 0 hlt0
      rw [Nat.zero_mul, add_nought] at g0 g1 g2 g3 g4 g5 g6
      have KEEP := Lib.hid (show ∀ (w' : World) (v : Value) (ys : List Int), Out base W1 o w' v ys → (w'.cell? ⟨w.heap.size, 5, none⟩ = some (.slice (some ad) x.kids.length c5) ∧ w'.cell? ad = some (.int .i64 x.kids[0].kind) ∧ w'.cell? ⟨ad.block, ad.off + 1, none⟩ = some (.string x.kids[0].name) ∧
          w'.cell? ⟨ad.block, ad.off + 2, none⟩ = some (.bool x.kids[0].minus) ∧ w'.cell? ⟨ad.block, ad.off + 3, none⟩ = some (.slice A3' x.kids[0].limbs.length c3') ∧ w'.cell? ⟨ad.block, ad.off + 4, none⟩ = some (.slice A4' x.kids[0].names.length c4') ∧
          w'.cell? ⟨ad.block, ad.off + 5, none⟩ = some (.slice B5 x.kids[0].kids.length d5) ∧ w'.cell? ⟨ad.block, ad.off + 6, none⟩ = some (.slice B6 x.kids[0].alts.length d6)) from fun w' v ys h => by
        have hb := (Below.step HBS.out HB1.out).trans ((h.belowB HOB.out).mono hSb)
        exact ⟨(h.blk BP1.out HNE.out).cell (j := 5) rfl, cell_later' hb g0, cell_later' hb g1, cell_later' hb g2, cell_later' hb g3, cell_later' hb g4, cell_later' hb g5, cell_later' hb g6⟩)
      have HKk := Lib.hid hKk
      have BSW := Lib.hid (Below.step HBS.out HB1.out)
      have EQ := Lib.hid (show bytesOf ⟨#[32, 45, 62, 32]⟩ = ([32, 45, 62, 32] : List Int) from rfl)
      clear hKk g0 g1 g2 g3 g4 g5 g6
      obtain ⟨p5, g0, g1, g2, g3, g4, g5, g6⟩ := KEEP.out _ _ _ HQ2.out
      have L0 : bulk x.kids[0] ≤ 1048576 := by have := mem_bulks (List.getElem_mem hlt0); have := HBK.out; rw [bulk_eq] at this; omega
      have L1 : (xs ++ ([40, 92] : List Int) ++ joins [32] true (x.names.map bytesOf)).length + (⟨#[32, 45, 62, 32]⟩ : ByteArray).size ≤ 1000000000 := by
        show (xs ++ ([40, 92] : List Int) ++ joins [32] true (x.names.map bytesOf)).length + 4 ≤ _
        simp only [List.length_append, List.length_cons, List.length_nil]; omega
      have L2 : (xs ++ ([40, 92] : List Int) ++ joins [32] true (x.names.map bytesOf) ++ bytesOf ⟨#[32, 45, 62, 32]⟩).length + (fmt x.kids[0]).length ≤ 1000000000 := by
        rw [List.length_append, bytesOf_length]
        show (xs ++ ([40, 92] : List Int) ++ joins [32] true (x.names.map bytesOf)).length + 4 + _ ≤ _
        simp only [List.length_append, List.length_cons, List.length_nil]; omega
      have L3 : (xs ++ ([40, 92] : List Int) ++ joins [32] true (x.names.map bytesOf) ++ bytesOf ⟨#[32, 45, 62, 32]⟩ ++ fmt x.kids[0]).length ≤ 1000000000 := by rw [List.length_append]; exact L2
      go_wp2_with fail
      go_region_held3 (fun w' => w'.cell? ⟨w.heap.size, 5, none⟩ = some (.slice (some ad) x.kids.length c5) ∧ w'.cell? ad = some (.int .i64 x.kids[0].kind) ∧ w'.cell? ⟨ad.block, ad.off + 1, none⟩ = some (.string x.kids[0].name) ∧
          w'.cell? ⟨ad.block, ad.off + 2, none⟩ = some (.bool x.kids[0].minus) ∧ w'.cell? ⟨ad.block, ad.off + 3, none⟩ = some (.slice A3' x.kids[0].limbs.length c3') ∧ w'.cell? ⟨ad.block, ad.off + 4, none⟩ = some (.slice A4' x.kids[0].names.length c4') ∧
          w'.cell? ⟨ad.block, ad.off + 5, none⟩ = some (.slice B5 x.kids[0].kids.length d5) ∧ w'.cell? ⟨ad.block, ad.off + 6, none⟩ = some (.slice B6 x.kids[0].alts.length d6)) (first | go_keep | exact KEEP.out _ _ _ (by assumption))
        (first
          | (refine step_strL (by first | exact Out.drew HQ2.out | exact Out.alloc (Out.drew HQ2.out) _) (by rfl) _ _ (by rfl) ⟨#[32, 45, 62, 32]⟩ (by rfl) (by rfl) L1 ?_; intro v3 w3 h3 l3)
          | (go_at_call 19; refine (FmtSaid.call (IH.out _ (List.getElem_mem hlt0)) (WfCs_mem HW.out _ (List.getElem_mem hlt0)) (HS.out _ (List.getElem_mem hlt0)) L0 HKk.out (by first | exact h3 | exact Out.alloc h3 _) BSW.out hSb HOB.out L2).mono ?_; rintro e w5 ⟨v5, rfl, h5, l5⟩)
          | (refine step_byte (by first | exact h5 | exact Out.alloc h5 _) (by rfl) _ _ (by rfl) 41 _ (by rfl) (by rfl) (by first | exact (l5 _ _ (l3 _ _ (Lit.new (Out.drew HQ2.out) 41))).cell | exact (l5 _ _ (Lit.new h3 41)).cell | exact (Lit.new h5 41).cell) L3 ?_; intro v7 w7 h7))
      all_goals
        rename_i hheld
        have H7 := Lib.hid h7
        clear hheld h7
        go_wp2
        go_ret
        exact ⟨_, rfl, Out.pre HB1.out (by have := H7.out; rw [EQ.out] at this; simpa [lamText, List.append_assoc] using this) hge⟩
end
end Go.Proofs.Ytagfphlhahiplaa.C13
namespace Go.Proofs.Ytagfphlhahiplaa.C13
open Go.RowKit Go.Proofs.YtagfphlhahiplaaW.PrintWords Go.Proofs.Ytagfphlhahiplaa.PFnExactFormatCore
attribute [local go_sem ↓] Go.wp_at_zero Go.wp_at_succ
set_option linter.unusedVariables false
set_option linter.unusedSimpArgs false
theorem zipLet_take (ns : List ByteArray) (ts : List (List Int)) (k : Nat) (hk : k < ns.length) (hk2 : k < ts.length) : (List.zipWith letPart ns ts).take (k + 1) = (List.zipWith letPart ns ts).take k ++ [letPart ns[k] ts[k]] := by
  rw [take_snoc' (by rw [List.length_zipWith]; omega), List.getElem_zipWith]
theorem getD_at {l : List CoreT} (n : Nat) (h : n < l.length) : (l.map fmt).getD n [] = fmt l[n] := by
  rw [List.getD_eq_getElem?_getD, List.getElem?_eq_getElem (by simpa using h)]; simp
section
variable {S w : World} {x : CoreT} {A3 : Option Addr} {c3 : Nat} {A4 : Option Addr} {c4 : Nat} {A5 : Option Addr} {c5 : Nat} {A6 : Option Addr} {c6 : Nat} {base : Nat} {o : Value} {xs : List Int}
def letText (x : CoreT) (t : List Int) : List Int := [40, 108, 101, 116, 32] ++ joins [59, 32] true (List.zipWith letPart x.names (x.kids.map fmt)) ++ [32, 105, 110, 32] ++ t ++ [41]
set_option maxRecDepth 100000 in
set_option maxHeartbeats 4000000 in
theorem fmt_let (hbk : bulk x ≤ 1048576) (hk : x.kind = 7) (hnk1 : x.names.length < x.kids.length) (hn0 : 0 < x.names.length) (ih : ∀ y ∈ x.kids, FmtSaid y) (hw : WfCs x.kids) (hs : ∀ y ∈ x.kids, Shapes y) (hK : IC.K S x (cellsC x A3 c3 A4 c4 A5 c5 A6 c6))
    (hB : Below S.heap.size S w) (hSb : S.heap.size ≤ base) (hge : base ≤ w.heap.size) (hown : w.ownsRow base 5 1 o xs.length (nums .u8 xs))
    (hl : xs.length + (letText x (fmt x.kids[x.names.length])).length ≤ 1000000000) :
    Calls Try.prog 19 #[o, .agg (cellsC x A3 c3 A4 c4 A5 c5 A6 c6).toArray] w fun e w' => ∃ v, e = .returned v ∧ Out base w o w' v (xs ++ (letText x (fmt x.kids[x.names.length]))) := by
  have HO := Lib.hid hown; clear hown
  have G5 := Lib.hid (kids_of hK); have G4 := Lib.hid (names_of hK); clear hK
  obtain ⟨b1, b2, b3, b4, b5⟩ := bounds hbk
  have IH := Lib.hid ih; have HW := Lib.hid hw; have HS := Lib.hid hs; clear ih hw hs
  have HBS := Lib.hid hB; clear hB
  have HBK := Lib.hid hbk; clear hbk
  simp only [cellsC]
  rw [hk]
  have HKK := Lib.hid hk; clear hk
  simp only [letText, List.length_append, List.length_cons, List.length_nil] at hl
  obtain ⟨W1, hW1, hp1, hB1, hs1⟩ := boxed w [.int .i64 7, .string x.name, .bool x.minus, .slice A3 x.limbs.length c3, .slice A4 x.names.length c4, .slice A5 x.kids.length c5, .slice A6 x.alts.length c6] 36
  have BP1 := Lib.hid hp1; have HB1 := Lib.hid hB1
  have BSW := Lib.hid (Below.step HBS.out hB1)
  have HNE := Lib.hid (show some w.heap.size ≠ o.ownBlock from fun h => by have := own_ltb HO.out _ h.symm; omega)
  have H1 := Lib.hid (Out.start (ownsRow_below HO.out hB1) (show base ≤ W1.heap.size by omega))
  have HOB := Lib.hid (own_base' HO.out)
  have HW1 := Lib.hid hW1
  have E1 := Lib.hid (show bytesOf ⟨#[40, 108, 101, 116, 32]⟩ = ([40, 108, 101, 116, 32] : List Int) from rfl)
  have E2 := Lib.hid (show bytesOf ⟨#[59, 32]⟩ = ([59, 32] : List Int) from rfl)
  have E3 := Lib.hid (show bytesOf ⟨#[32, 61, 32]⟩ = ([32, 61, 32] : List Int) from rfl)
  have E4 := Lib.hid (show bytesOf ⟨#[32, 105, 110, 32]⟩ = ([32, 105, 110, 32] : List Int) from rfl)
  clear hp1 hB1 hs1 hW1
  go_enter Try.func19, Try.ntmps19
  go_wp2_with (at_builtin; go_must (rw [show _ = W1 from HW1.out.symm]; refine app_str H1.out rfl _ _ rfl ⟨#[40, 108, 101, 116, 32]⟩ rfl rfl (by show xs.length + 5 ≤ _; omega) ?_))
  intro v2 w2 h2
  rw [E1.out] at h2
  have H2 := Lib.hid h2; clear h2
  go_wp2_with fail
  go_loopw [0, 7] (fun v i wr => ∃ k : Nat, k ≤ x.names.length ∧ i = .int .i64 k ∧ Hid (Out base W1 o wr v (xs ++ [40, 108, 101, 116, 32] ++ joins [59, 32] true ((List.zipWith letPart x.names (x.kids.map fmt)).take k)))) (fun _ i _ => x.names.length - (intOf i).toNat)
  case atStart => exact ⟨0, Nat.zero_le _, rfl, Lib.hid (by simpa [joins] using H2.out)⟩
  case round =>
    obtain ⟨k, hk, rfl, HQ⟩ := hrel
    have HBP := Lib.hid (HQ.out.blk BP1.out HNE.out)
    have p4 := HBP.out.cell (j := 4) rfl
    by_cases hlt : k < x.names.length
    · have hltk : k < x.kids.length := by omega
      have hJ := joins_take_len [59, 32] (List.zipWith letPart x.names (x.kids.map fmt)) (k + 1) true
      have hsn := zipLet_take x.names (x.kids.map fmt) k hlt (by rw [List.length_map]; exact hltk)
      rw [List.getElem_map] at hsn
      rw [hsn, joins_snoc] at hJ
      have HSN := Lib.hid hsn; clear hsn
      simp only [List.length_append, letPart, bytesOf_length, List.length_cons, List.length_nil] at hJ
      by_cases hk0 : k = 0
      · subst hk0
        rw [if_pos (by simp)] at hJ
        obtain ⟨an, hean, g0n⟩ := elem_str G4.out.2 0 hlt
        obtain ⟨ad, A3', c3', A4', c4', B5, d5, B6, d6, head, hKk, g0, g1, g2, g3, g4, g5, g6⟩ := elem_core G5.out 0 hltk
        subst hean; subst head
        rw [add_nought] at g0n
        rw [Nat.zero_mul, add_nought] at g0 g1 g2 g3 g4 g5 g6
        have KEEP := Lib.hid (show ∀ (W_ : World) (v : Value) (ys : List Int), Out base W1 o W_ v ys → (W_.cell? ⟨w.heap.size, 4, none⟩ = some (.slice (some an) x.names.length c4) ∧ W_.cell? ⟨w.heap.size, 5, none⟩ = some (.slice (some ad) x.kids.length c5) ∧ W_.cell? an = some (.string x.names[0]) ∧ W_.cell? ad = some (.int .i64 x.kids[0].kind) ∧ W_.cell? ⟨ad.block, ad.off + 1, none⟩ = some (.string x.kids[0].name) ∧ W_.cell? ⟨ad.block, ad.off + 2, none⟩ = some (.bool x.kids[0].minus) ∧ W_.cell? ⟨ad.block, ad.off + 3, none⟩ = some (.slice A3' x.kids[0].limbs.length c3') ∧ W_.cell? ⟨ad.block, ad.off + 4, none⟩ = some (.slice A4' x.kids[0].names.length c4') ∧ W_.cell? ⟨ad.block, ad.off + 5, none⟩ = some (.slice B5 x.kids[0].kids.length d5) ∧ W_.cell? ⟨ad.block, ad.off + 6, none⟩ = some (.slice B6 x.kids[0].alts.length d6)) from fun W_ v ys h => by
          have hb := BSW.out.trans ((h.belowB HOB.out).mono hSb)
          have hq := h.blk BP1.out HNE.out
          exact ⟨hq.cell (j := 4) rfl, hq.cell (j := 5) rfl, cell_later' hb g0n, cell_later' hb g0, cell_later' hb g1, cell_later' hb g2, cell_later' hb g3, cell_later' hb g4, cell_later' hb g5, cell_later' hb g6⟩)
        have HKk := Lib.hid hKk
        clear hKk g0n g0 g1 g2 g3 g4 g5 g6 p4
        obtain ⟨p4, p5, g0n, g0, g1, g2, g3, g4, g5, g6⟩ := KEEP.out _ _ _ HQ.out
        have L0 : bulk x.kids[0] ≤ 1048576 := by have := mem_bulks (List.getElem_mem hltk); have := HBK.out; rw [bulk_eq] at this; omega
        have L1 : (xs ++ ([40, 108, 101, 116, 32] : List Int) ++ joins [59, 32] true ((List.zipWith letPart x.names (x.kids.map fmt)).take 0)).length + x.names[0].size ≤ 1000000000 := by simp only [List.length_append, List.length_cons, List.length_nil]; simp only [List.length_append, List.length_cons, List.length_nil, List.nil_append] at hJ; omega
        have L2 : ((xs ++ ([40, 108, 101, 116, 32] : List Int) ++ joins [59, 32] true ((List.zipWith letPart x.names (x.kids.map fmt)).take 0)) ++ bytesOf x.names[0]).length + (⟨#[32, 61, 32]⟩ : ByteArray).size ≤ 1000000000 := by
          show ((xs ++ ([40, 108, 101, 116, 32] : List Int) ++ joins [59, 32] true ((List.zipWith letPart x.names (x.kids.map fmt)).take 0)) ++ bytesOf x.names[0]).length + 3 ≤ _
          simp only [List.length_append, List.length_cons, List.length_nil, bytesOf_length]; simp only [List.length_append, List.length_cons, List.length_nil, List.nil_append] at hJ; omega
        have L3 : ((xs ++ ([40, 108, 101, 116, 32] : List Int) ++ joins [59, 32] true ((List.zipWith letPart x.names (x.kids.map fmt)).take 0)) ++ bytesOf x.names[0] ++ bytesOf ⟨#[32, 61, 32]⟩).length + (fmt x.kids[0]).length ≤ 1000000000 := by
          have e3 : (⟨#[32, 61, 32]⟩ : ByteArray).size = 3 := rfl
          simp only [List.length_append, List.length_cons, List.length_nil, bytesOf_length, e3]; simp only [List.length_append, List.length_cons, List.length_nil, List.nil_append] at hJ; omega
        go_wp2_with fail
        go_region_held3 (fun W_ => W_.cell? ⟨w.heap.size, 4, none⟩ = some (.slice (some an) x.names.length c4) ∧ W_.cell? ⟨w.heap.size, 5, none⟩ = some (.slice (some ad) x.kids.length c5) ∧ W_.cell? an = some (.string x.names[0]) ∧ W_.cell? ad = some (.int .i64 x.kids[0].kind) ∧ W_.cell? ⟨ad.block, ad.off + 1, none⟩ = some (.string x.kids[0].name) ∧ W_.cell? ⟨ad.block, ad.off + 2, none⟩ = some (.bool x.kids[0].minus) ∧ W_.cell? ⟨ad.block, ad.off + 3, none⟩ = some (.slice A3' x.kids[0].limbs.length c3') ∧ W_.cell? ⟨ad.block, ad.off + 4, none⟩ = some (.slice A4' x.kids[0].names.length c4') ∧ W_.cell? ⟨ad.block, ad.off + 5, none⟩ = some (.slice B5 x.kids[0].kids.length d5) ∧ W_.cell? ⟨ad.block, ad.off + 6, none⟩ = some (.slice B6 x.kids[0].alts.length d6)) (first | go_keep | exact KEEP.out _ _ _ (by assumption))
          (first
            | (refine step_strL (Out.drew HQ.out) (by rfl) _ _ (by rfl) x.names[0] (by rfl) (by rfl) L1 ?_; intro v5 w5 h5 l5)
            | (refine step_strL h5 (by rfl) _ _ (by rfl) ⟨#[32, 61, 32]⟩ (by rfl) (by rfl) L2 ?_; intro v6 w6 h6 l6)
            | (go_at_call 19; refine (FmtSaid.call (IH.out _ (List.getElem_mem hltk)) (WfCs_mem HW.out _ (List.getElem_mem hltk)) (HS.out _ (List.getElem_mem hltk)) L0 HKk.out h6 BSW.out hSb HOB.out L3).mono ?_; rintro e w7 ⟨v7, rfl, h7, l7⟩))
        rename_i hheld
        have H7 := Lib.hid h7
        clear hheld h5 l5 h6 l6 h7 l7 p4 p5 g0n g0 g1 g2 g3 g4 g5 g6
        go_wp2
        go_roundw
        case rel => exact ⟨0 + 1, by omega, by go_num, Lib.hid (by have := H7.out; rw [E3.out] at this; rw [HSN.out, joins_snoc, if_pos (by simp)]; simpa [letPart, List.append_assoc] using this)⟩
        case measure => simp [intOf]; omega
      · have q0 : decide (0 < (k : Int)) = true := decide_eq_true (by omega)
        have hne : ¬ ((List.zipWith letPart x.names (x.kids.map fmt)).take k = []) := by intro h; have := congrArg List.length h; rw [List.length_take, List.length_zipWith, List.length_map, List.length_nil] at this; omega
        rw [if_neg (fun h => hne h.2)] at hJ
        have HNE0 := Lib.hid hne; clear hne
        go_wp2_with (at_builtin; refine app_str HQ.out rfl _ _ rfl ⟨#[59, 32]⟩ rfl rfl (by show _ + 2 ≤ _; simp only [List.length_append, List.length_cons, List.length_nil] at hJ ⊢; omega) ?_)
        intro v4 w4 h4
        rw [E2.out] at h4
        have H4 := Lib.hid (show Out base W1 o w4 v4 (xs ++ ([40, 108, 101, 116, 32] : List Int) ++ joins [59, 32] true ((List.zipWith letPart x.names (x.kids.map fmt)).take k) ++ [59, 32]) from by simpa [List.append_assoc] using h4)
        clear h4 p4 q0
        obtain ⟨an, hean, g0n⟩ := elem_str G4.out.2 k hlt
        obtain ⟨ad, A3', c3', A4', c4', B5, d5, B6, d6, head, hKk, g0, g1, g2, g3, g4, g5, g6⟩ := elem_core G5.out k hltk
        subst hean; subst head
        have KEEP := Lib.hid (show ∀ (W_ : World) (v : Value) (ys : List Int), Out base W1 o W_ v ys → (W_.cell? ⟨w.heap.size, 4, none⟩ = some (.slice (some an) x.names.length c4) ∧ W_.cell? ⟨w.heap.size, 5, none⟩ = some (.slice (some ad) x.kids.length c5) ∧ W_.cell? (an.add k) = some (.string x.names[k]) ∧ W_.cell? (ad.add (k * 7)) = some (.int .i64 x.kids[k].kind) ∧ W_.cell? ⟨(ad.add (k * 7)).block, (ad.add (k * 7)).off + 1, none⟩ = some (.string x.kids[k].name) ∧ W_.cell? ⟨(ad.add (k * 7)).block, (ad.add (k * 7)).off + 2, none⟩ = some (.bool x.kids[k].minus) ∧ W_.cell? ⟨(ad.add (k * 7)).block, (ad.add (k * 7)).off + 3, none⟩ = some (.slice A3' x.kids[k].limbs.length c3') ∧ W_.cell? ⟨(ad.add (k * 7)).block, (ad.add (k * 7)).off + 4, none⟩ = some (.slice A4' x.kids[k].names.length c4') ∧ W_.cell? ⟨(ad.add (k * 7)).block, (ad.add (k * 7)).off + 5, none⟩ = some (.slice B5 x.kids[k].kids.length d5) ∧ W_.cell? ⟨(ad.add (k * 7)).block, (ad.add (k * 7)).off + 6, none⟩ = some (.slice B6 x.kids[k].alts.length d6)) from fun W_ v ys h => by
          have hb := BSW.out.trans ((h.belowB HOB.out).mono hSb)
          have hq := h.blk BP1.out HNE.out
          exact ⟨hq.cell (j := 4) rfl, hq.cell (j := 5) rfl, cell_later' hb g0n, cell_later' hb g0, cell_later' hb g1, cell_later' hb g2, cell_later' hb g3, cell_later' hb g4, cell_later' hb g5, cell_later' hb g6⟩)
        have HKk := Lib.hid hKk
        clear hKk g0n g0 g1 g2 g3 g4 g5 g6
        obtain ⟨p4, p5, g0n, g0, g1, g2, g3, g4, g5, g6⟩ := KEEP.out _ _ _ H4.out
        have L0 : bulk x.kids[k] ≤ 1048576 := by have := mem_bulks (List.getElem_mem hltk); have := HBK.out; rw [bulk_eq] at this; omega
        have L1 : (xs ++ ([40, 108, 101, 116, 32] : List Int) ++ joins [59, 32] true ((List.zipWith letPart x.names (x.kids.map fmt)).take k) ++ [59, 32]).length + x.names[k].size ≤ 1000000000 := by simp only [List.length_append, List.length_cons, List.length_nil]; simp only [List.length_append, List.length_cons, List.length_nil] at hJ; omega
        have L2 : ((xs ++ ([40, 108, 101, 116, 32] : List Int) ++ joins [59, 32] true ((List.zipWith letPart x.names (x.kids.map fmt)).take k) ++ [59, 32]) ++ bytesOf x.names[k]).length + (⟨#[32, 61, 32]⟩ : ByteArray).size ≤ 1000000000 := by
          show ((xs ++ ([40, 108, 101, 116, 32] : List Int) ++ joins [59, 32] true ((List.zipWith letPart x.names (x.kids.map fmt)).take k) ++ [59, 32]) ++ bytesOf x.names[k]).length + 3 ≤ _
          simp only [List.length_append, List.length_cons, List.length_nil, bytesOf_length]; simp only [List.length_append, List.length_cons, List.length_nil] at hJ; omega
        have L3 : ((xs ++ ([40, 108, 101, 116, 32] : List Int) ++ joins [59, 32] true ((List.zipWith letPart x.names (x.kids.map fmt)).take k) ++ [59, 32]) ++ bytesOf x.names[k] ++ bytesOf ⟨#[32, 61, 32]⟩).length + (fmt x.kids[k]).length ≤ 1000000000 := by
          have e3 : (⟨#[32, 61, 32]⟩ : ByteArray).size = 3 := rfl
          simp only [List.length_append, List.length_cons, List.length_nil, bytesOf_length, e3]; simp only [List.length_append, List.length_cons, List.length_nil] at hJ; omega
        go_wp2_with fail
        go_region_held3 (fun W_ => W_.cell? ⟨w.heap.size, 4, none⟩ = some (.slice (some an) x.names.length c4) ∧ W_.cell? ⟨w.heap.size, 5, none⟩ = some (.slice (some ad) x.kids.length c5) ∧ W_.cell? (an.add k) = some (.string x.names[k]) ∧ W_.cell? (ad.add (k * 7)) = some (.int .i64 x.kids[k].kind) ∧ W_.cell? ⟨(ad.add (k * 7)).block, (ad.add (k * 7)).off + 1, none⟩ = some (.string x.kids[k].name) ∧ W_.cell? ⟨(ad.add (k * 7)).block, (ad.add (k * 7)).off + 2, none⟩ = some (.bool x.kids[k].minus) ∧ W_.cell? ⟨(ad.add (k * 7)).block, (ad.add (k * 7)).off + 3, none⟩ = some (.slice A3' x.kids[k].limbs.length c3') ∧ W_.cell? ⟨(ad.add (k * 7)).block, (ad.add (k * 7)).off + 4, none⟩ = some (.slice A4' x.kids[k].names.length c4') ∧ W_.cell? ⟨(ad.add (k * 7)).block, (ad.add (k * 7)).off + 5, none⟩ = some (.slice B5 x.kids[k].kids.length d5) ∧ W_.cell? ⟨(ad.add (k * 7)).block, (ad.add (k * 7)).off + 6, none⟩ = some (.slice B6 x.kids[k].alts.length d6)) (first | go_keep | exact KEEP.out _ _ _ (by assumption))
          (first
            | (refine step_strL (Out.drew H4.out) (by rfl) _ _ (by rfl) x.names[k] (by rfl) (by rfl) L1 ?_; intro v5 w5 h5 l5)
            | (refine step_strL h5 (by rfl) _ _ (by rfl) ⟨#[32, 61, 32]⟩ (by rfl) (by rfl) L2 ?_; intro v6 w6 h6 l6)
            | (go_at_call 19; refine (FmtSaid.call (IH.out _ (List.getElem_mem hltk)) (WfCs_mem HW.out _ (List.getElem_mem hltk)) (HS.out _ (List.getElem_mem hltk)) L0 HKk.out h6 BSW.out hSb HOB.out L3).mono ?_; rintro e w7 ⟨v7, rfl, h7, l7⟩))
        rename_i hheld
        have H7 := Lib.hid h7
        clear hheld h5 l5 h6 l6 h7 l7 p4 p5 g0n g0 g1 g2 g3 g4 g5 g6
        go_wp2
        go_roundw
        case rel => exact ⟨k + 1, by omega, by go_num, Lib.hid (by have := H7.out; rw [E3.out] at this; rw [HSN.out, joins_snoc, if_neg (fun h => HNE0.out h.2)]; simpa [letPart, List.append_assoc] using this)⟩
        case measure => simp [intOf]; omega
    · have hkk : k = x.names.length := by omega
      have hq := HQ.out
      rw [hkk, List.take_of_length_le (by rw [List.length_zipWith, List.length_map]; omega)] at hq
      have HQ2 := Lib.hid hq; clear hq hkk
      obtain ⟨ad, A3', c3', A4', c4', B5, d5, B6, d6, head, hKk, g0, g1, g2, g3, g4, g5, g6⟩ := elem_core G5.out x.names.length hnk1
      subst head
      have KEEP := Lib.hid (show ∀ (W_ : World) (v : Value) (ys : List Int), Out base W1 o W_ v ys → (W_.cell? ⟨w.heap.size, 4, none⟩ = some (.slice A4 x.names.length c4) ∧ W_.cell? ⟨w.heap.size, 5, none⟩ = some (.slice (some ad) x.kids.length c5) ∧ W_.cell? (ad.add (x.names.length * 7)) = some (.int .i64 x.kids[x.names.length].kind) ∧ W_.cell? ⟨(ad.add (x.names.length * 7)).block, (ad.add (x.names.length * 7)).off + 1, none⟩ = some (.string x.kids[x.names.length].name) ∧ W_.cell? ⟨(ad.add (x.names.length * 7)).block, (ad.add (x.names.length * 7)).off + 2, none⟩ = some (.bool x.kids[x.names.length].minus) ∧ W_.cell? ⟨(ad.add (x.names.length * 7)).block, (ad.add (x.names.length * 7)).off + 3, none⟩ = some (.slice A3' x.kids[x.names.length].limbs.length c3') ∧ W_.cell? ⟨(ad.add (x.names.length * 7)).block, (ad.add (x.names.length * 7)).off + 4, none⟩ = some (.slice A4' x.kids[x.names.length].names.length c4') ∧ W_.cell? ⟨(ad.add (x.names.length * 7)).block, (ad.add (x.names.length * 7)).off + 5, none⟩ = some (.slice B5 x.kids[x.names.length].kids.length d5) ∧ W_.cell? ⟨(ad.add (x.names.length * 7)).block, (ad.add (x.names.length * 7)).off + 6, none⟩ = some (.slice B6 x.kids[x.names.length].alts.length d6)) from fun W_ v ys h => by
        have hb := BSW.out.trans ((h.belowB HOB.out).mono hSb)
        have hq := h.blk BP1.out HNE.out
        exact ⟨hq.cell (j := 4) rfl, hq.cell (j := 5) rfl, cell_later' hb g0, cell_later' hb g1, cell_later' hb g2, cell_later' hb g3, cell_later' hb g4, cell_later' hb g5, cell_later' hb g6⟩)
      have HKk := Lib.hid hKk
      clear hKk g0 g1 g2 g3 g4 g5 g6 p4
      obtain ⟨p4, p5, g0, g1, g2, g3, g4, g5, g6⟩ := KEEP.out _ _ _ HQ2.out
      have L0 : bulk x.kids[x.names.length] ≤ 1048576 := by have := mem_bulks (List.getElem_mem hnk1); have := HBK.out; rw [bulk_eq] at this; omega
      have L1 : (xs ++ ([40, 108, 101, 116, 32] : List Int) ++ joins [59, 32] true (List.zipWith letPart x.names (x.kids.map fmt))).length + (⟨#[32, 105, 110, 32]⟩ : ByteArray).size ≤ 1000000000 := by
        have e3 : (⟨#[32, 105, 110, 32]⟩ : ByteArray).size = 4 := rfl
        simp only [List.length_append, List.length_cons, List.length_nil, e3]; omega
      have L2 : ((xs ++ ([40, 108, 101, 116, 32] : List Int) ++ joins [59, 32] true (List.zipWith letPart x.names (x.kids.map fmt))) ++ bytesOf ⟨#[32, 105, 110, 32]⟩).length + (fmt x.kids[x.names.length]).length ≤ 1000000000 := by
        have e3 : (⟨#[32, 105, 110, 32]⟩ : ByteArray).size = 4 := rfl
        simp only [List.length_append, List.length_cons, List.length_nil, bytesOf_length, e3]; omega
      have L3 : ((xs ++ ([40, 108, 101, 116, 32] : List Int) ++ joins [59, 32] true (List.zipWith letPart x.names (x.kids.map fmt))) ++ bytesOf ⟨#[32, 105, 110, 32]⟩ ++ fmt x.kids[x.names.length]).length ≤ 1000000000 := by rw [List.length_append]; exact L2
      go_wp2_with fail
      go_region_held3 (fun W_ => W_.cell? ⟨w.heap.size, 4, none⟩ = some (.slice A4 x.names.length c4) ∧ W_.cell? ⟨w.heap.size, 5, none⟩ = some (.slice (some ad) x.kids.length c5) ∧ W_.cell? (ad.add (x.names.length * 7)) = some (.int .i64 x.kids[x.names.length].kind) ∧ W_.cell? ⟨(ad.add (x.names.length * 7)).block, (ad.add (x.names.length * 7)).off + 1, none⟩ = some (.string x.kids[x.names.length].name) ∧ W_.cell? ⟨(ad.add (x.names.length * 7)).block, (ad.add (x.names.length * 7)).off + 2, none⟩ = some (.bool x.kids[x.names.length].minus) ∧ W_.cell? ⟨(ad.add (x.names.length * 7)).block, (ad.add (x.names.length * 7)).off + 3, none⟩ = some (.slice A3' x.kids[x.names.length].limbs.length c3') ∧ W_.cell? ⟨(ad.add (x.names.length * 7)).block, (ad.add (x.names.length * 7)).off + 4, none⟩ = some (.slice A4' x.kids[x.names.length].names.length c4') ∧ W_.cell? ⟨(ad.add (x.names.length * 7)).block, (ad.add (x.names.length * 7)).off + 5, none⟩ = some (.slice B5 x.kids[x.names.length].kids.length d5) ∧ W_.cell? ⟨(ad.add (x.names.length * 7)).block, (ad.add (x.names.length * 7)).off + 6, none⟩ = some (.slice B6 x.kids[x.names.length].alts.length d6)) (first | go_keep | exact KEEP.out _ _ _ (by assumption))
        (first
          | (refine step_strL (by first | exact Out.drew HQ2.out | exact Out.alloc (Out.drew HQ2.out) _) (by rfl) _ _ (by rfl) ⟨#[32, 105, 110, 32]⟩ (by rfl) (by rfl) L1 ?_; intro v3 w3 h3 l3)
          | (go_at_call 19; refine (FmtSaid.call (IH.out _ (List.getElem_mem hnk1)) (WfCs_mem HW.out _ (List.getElem_mem hnk1)) (HS.out _ (List.getElem_mem hnk1)) L0 HKk.out (by first | exact h3 | exact Out.alloc h3 _) BSW.out hSb HOB.out L2).mono ?_; rintro e w5 ⟨v5, rfl, h5, l5⟩)
          | (refine step_byte (by first | exact h5 | exact Out.alloc h5 _) (by rfl) _ _ (by rfl) 41 _ (by rfl) (by rfl) (by first | exact (l5 _ _ (l3 _ _ (Lit.new (Out.drew HQ2.out) 41))).cell | exact (l5 _ _ (Lit.new h3 41)).cell | exact (Lit.new h5 41).cell) L3 ?_; intro v7 w7 h7))
      all_goals
        rename_i hheld
        have H7 := Lib.hid h7
        clear hheld h7
        go_wp2
        go_ret
        exact ⟨_, rfl, Out.pre HB1.out (by have := H7.out; rw [E4.out] at this; simpa [letText, List.append_assoc] using this) hge⟩
end
end Go.Proofs.Ytagfphlhahiplaa.C13
namespace Go.Proofs.Ytagfphlhahiplaa.C13
open Go.RowKit Go.Proofs.YtagfphlhahiplaaW.PrintWords Go.Proofs.Ytagfphlhahiplaa.PFnExactFormatCore
attribute [local go_sem ↓] Go.wp_at_zero Go.wp_at_succ
set_option linter.unusedVariables false
set_option linter.unusedSimpArgs false
theorem zipAlt_take (l : List AltT) (ts : List (List Int)) (k : Nat) (hk : k < l.length) (hk2 : k < ts.length) : (List.zipWith altPart l ts).take (k + 1) = (List.zipWith altPart l ts).take k ++ [altPart l[k] ts[k]] := by
  rw [take_snoc' (by rw [List.length_zipWith]; omega), List.getElem_zipWith]
section
variable {S w : World} {x : CoreT} {A3 : Option Addr} {c3 : Nat} {A4 : Option Addr} {c4 : Nat} {A5 : Option Addr} {c5 : Nat} {A6 : Option Addr} {c6 : Nat} {base : Nat} {o : Value} {xs : List Int}
theorem add_seven (a : Addr) : a.add 7 = ⟨a.block, a.off + 7, none⟩ := by simp [Addr.add]
theorem E40 : bytesOf ⟨#[40, 99, 97, 115, 101, 32]⟩ = ([40, 99, 97, 115, 101, 32] : List Int) := rfl
theorem E32 : bytesOf ⟨#[32, 111, 102, 32]⟩ = ([32, 111, 102, 32] : List Int) := rfl
theorem E123 : bytesOf ⟨#[123, 32]⟩ = ([123, 32] : List Int) := rfl
def altsText (x : CoreT) : List Int := joins [59, 32] true (List.zipWith altPart x.alts (x.alts.map (fun a : AltT => fmt a.body)))
def caseEnd (x : CoreT) : List Int := (if x.kids.length = 2 then (if 0 < x.alts.length then [59, 32] else []) ++ [95, 32, 45, 62, 32] ++ (x.kids.map fmt).getD 1 [] else []) ++ [32, 125, 41]
set_option maxRecDepth 100000 in
set_option maxHeartbeats 8000000 in
theorem fmt_case0 (hbk : bulk x ≤ 1048576) (hk : x.kind = 8) (hk0 : 0 < x.kids.length) (hk2 : x.kids.length ≤ 2) (hn : x.name.size = 0) (ih : ∀ y ∈ x.kids, FmtSaid y) (iha : ∀ a ∈ x.alts, FmtSaid a.body) (hw : WfCs x.kids) (hwa : WfAs x.alts)
    (hs : ∀ y ∈ x.kids, Shapes y) (hsa : ∀ a ∈ x.alts, Shapes a.body) (hK : IC.K S x (cellsC x A3 c3 A4 c4 A5 c5 A6 c6))
    (hB : Below S.heap.size S w) (hSb : S.heap.size ≤ base) (hge : base ≤ w.heap.size) (hown : w.ownsRow base 5 1 o xs.length (nums .u8 xs))
    (hl : xs.length + 12 + (fmt x.kids[0]).length + (altsText x).length + (caseEnd x).length ≤ 1000000000) :
    Calls Try.prog 19 #[o, .agg (cellsC x A3 c3 A4 c4 A5 c5 A6 c6).toArray] w fun e w' => ∃ v, e = .returned v ∧ Out base w o w' v (xs ++ ([40, 99, 97, 115, 101, 32] : List Int) ++ fmt x.kids[0] ++ ([32, 111, 102, 32] : List Int) ++ (([] : List Int)) ++ ([123, 32] : List Int) ++ altsText x ++ caseEnd x) := by
  have HO := Lib.hid hown; clear hown
  have G5 := Lib.hid (kids_of hK); have G6 := Lib.hid (alts_of hK); clear hK
  obtain ⟨b1, b2, b3, b4, b5⟩ := bounds hbk
  have IH := Lib.hid ih; have HW := Lib.hid hw; have HS := Lib.hid hs; clear ih hw hs
  have IHA := Lib.hid iha; have HWA := Lib.hid hwa; have HSA := Lib.hid hsa; clear iha hwa hsa
  have HBS := Lib.hid hB; clear hB
  have HBK := Lib.hid hbk; clear hbk
  simp only [cellsC]
  rw [hk]
  have HKK := Lib.hid hk; clear hk
  have hne : x.name = ⟨#[]⟩ := size_zero.1 hn
  rw [hne]
  have HN := Lib.hid hne; clear hne hn
  obtain ⟨W1, hW1, hp1, hB1, hs1⟩ := boxed w [.int .i64 8, .string ⟨#[]⟩, .bool x.minus, .slice A3 x.limbs.length c3, .slice A4 x.names.length c4, .slice A5 x.kids.length c5, .slice A6 x.alts.length c6] 36
  have BP1 := Lib.hid hp1; have HB1 := Lib.hid hB1
  have BSW := Lib.hid (Below.step HBS.out hB1)
  have HNE := Lib.hid (show some w.heap.size ≠ o.ownBlock from fun h => by have := own_ltb HO.out _ h.symm; omega)
  have H1 := Lib.hid (Out.start (ownsRow_below HO.out hB1) (show base ≤ W1.heap.size by omega))
  have HOB := Lib.hid (own_base' HO.out)
  have HW1 := Lib.hid hW1
  obtain ⟨ad, A3', c3', A4', c4', B5, d5, B6, d6, head, hKk, g0, g1, g2, g3, g4, g5, g6⟩ := elem_core G5.out 0 hk0
  subst head
  rw [Nat.zero_mul, add_nought] at g0 g1 g2 g3 g4 g5 g6
  have KEEP := Lib.hid (show ∀ (W_ : World) (v : Value) (ys : List Int), Out base W1 o W_ v ys → (W_.cell? ⟨w.heap.size, 5, none⟩ = some (.slice (some ad) x.kids.length c5) ∧ W_.cell? ad = some (.int .i64 x.kids[0].kind) ∧ W_.cell? ⟨ad.block, ad.off + 1, none⟩ = some (.string x.kids[0].name) ∧ W_.cell? ⟨ad.block, ad.off + 2, none⟩ = some (.bool x.kids[0].minus) ∧ W_.cell? ⟨ad.block, ad.off + 3, none⟩ = some (.slice A3' x.kids[0].limbs.length c3') ∧ W_.cell? ⟨ad.block, ad.off + 4, none⟩ = some (.slice A4' x.kids[0].names.length c4') ∧ W_.cell? ⟨ad.block, ad.off + 5, none⟩ = some (.slice B5 x.kids[0].kids.length d5) ∧ W_.cell? ⟨ad.block, ad.off + 6, none⟩ = some (.slice B6 x.kids[0].alts.length d6)) from fun W_ v ys h => by
    have hb := BSW.out.trans ((h.belowB HOB.out).mono hSb)
    have hq := h.blk BP1.out HNE.out
    exact ⟨hq.cell (j := 5) rfl, cell_later' hb g0, cell_later' hb g1, cell_later' hb g2, cell_later' hb g3, cell_later' hb g4, cell_later' hb g5, cell_later' hb g6⟩)
  have HKk := Lib.hid hKk
  have L0 : bulk x.kids[0] ≤ 1048576 := by have := mem_bulks (List.getElem_mem hk0); have := HBK.out; rw [bulk_eq] at this; omega
  have L1 : xs.length + (⟨#[40, 99, 97, 115, 101, 32]⟩ : ByteArray).size ≤ 1000000000 := by show xs.length + 6 ≤ _; omega
  have L2 : (xs ++ bytesOf ⟨#[40, 99, 97, 115, 101, 32]⟩).length + (fmt x.kids[0]).length ≤ 1000000000 := by
    have e3 : (⟨#[40, 99, 97, 115, 101, 32]⟩ : ByteArray).size = 6 := rfl
    simp only [List.length_append, bytesOf_length, e3]; omega
  clear hp1 hB1 hs1 hW1 hKk g0 g1 g2 g3 g4 g5 g6
  go_enter Try.func19, Try.ntmps19
  go_wp2_with fail
  rw [show _ = W1 from HW1.out.symm]
  obtain ⟨p5, g0, g1, g2, g3, g4, g5, g6⟩ := KEEP.out _ _ _ H1.out
  go_region_held3 (fun W_ => W_.cell? ⟨w.heap.size, 5, none⟩ = some (.slice (some ad) x.kids.length c5) ∧ W_.cell? ad = some (.int .i64 x.kids[0].kind) ∧ W_.cell? ⟨ad.block, ad.off + 1, none⟩ = some (.string x.kids[0].name) ∧ W_.cell? ⟨ad.block, ad.off + 2, none⟩ = some (.bool x.kids[0].minus) ∧ W_.cell? ⟨ad.block, ad.off + 3, none⟩ = some (.slice A3' x.kids[0].limbs.length c3') ∧ W_.cell? ⟨ad.block, ad.off + 4, none⟩ = some (.slice A4' x.kids[0].names.length c4') ∧ W_.cell? ⟨ad.block, ad.off + 5, none⟩ = some (.slice B5 x.kids[0].kids.length d5) ∧ W_.cell? ⟨ad.block, ad.off + 6, none⟩ = some (.slice B6 x.kids[0].alts.length d6)) (first | go_keep | exact KEEP.out _ _ _ (by assumption))
    (first
      | (refine step_strL (Out.drew H1.out) (by rfl) _ _ (by rfl) ⟨#[40, 99, 97, 115, 101, 32]⟩ (by rfl) (by rfl) L1 ?_; intro v2 w2 h2 l2)
      | (go_at_call 19; refine (FmtSaid.call (IH.out _ (List.getElem_mem hk0)) (WfCs_mem HW.out _ (List.getElem_mem hk0)) (HS.out _ (List.getElem_mem hk0)) L0 HKk.out h2 BSW.out hSb HOB.out L2).mono ?_; rintro e w3 ⟨v3, rfl, h3, l3⟩))
  rename_i hheld
  obtain ⟨p1, hp1, hp1l⟩ : ∃ p, p = xs ++ bytesOf ⟨#[40, 99, 97, 115, 101, 32]⟩ ++ fmt x.kids[0] ∧ p.length = xs.length + 6 + (fmt x.kids[0]).length := ⟨_, rfl, by
    have e3 : (⟨#[40, 99, 97, 115, 101, 32]⟩ : ByteArray).size = 6 := rfl
    simp only [List.length_append, bytesOf_length, e3]⟩
  rw [← hp1] at h3
  have hp1b : p1.length ≤ xs.length + 6 + (fmt x.kids[0]).length := by omega
  have HP1 := Lib.hid hp1
  have H3 := Lib.hid h3
  clear hheld h2 l2 h3 l3 hp1 hp1l p5 g0 g1 g2 g3 g4 g5 g6 KEEP HKk
  have q1 := (H3.out.blk BP1.out HNE.out).cell (j := 1) rfl
  go_wp2_with (at_builtin; refine app_str H3.out rfl _ _ rfl ⟨#[32, 111, 102, 32]⟩ rfl rfl (by show p1.length + 4 ≤ _; omega) ?_)
  intro v4 w4 h4
  have H4 := Lib.hid (show Out base W1 o w4 v4 (p1 ++ bytesOf ⟨#[32, 111, 102, 32]⟩) from h4)
  clear h4 q1
  have q1 := (H4.out.blk BP1.out HNE.out).cell (j := 1) rfl
  go_wp2_with (at_builtin; refine app_str H4.out rfl _ _ rfl ⟨#[123, 32]⟩ rfl rfl (by rw [List.length_append, bytesOf_length]; show p1.length + 4 + 2 ≤ _; omega) ?_)
  intro v7 w7 h7
  clear q1
  obtain ⟨p2, hp2, hp2l⟩ : ∃ p, p = p1 ++ bytesOf ⟨#[32, 111, 102, 32]⟩ ++ bytesOf ⟨#[123, 32]⟩ ∧ p.length = p1.length + 4 + 2 := ⟨_, rfl, by
    have e1 : (⟨#[32, 111, 102, 32]⟩ : ByteArray).size = 4 := rfl
    have e3 : (⟨#[123, 32]⟩ : ByteArray).size = 2 := rfl
    simp only [List.length_append, bytesOf_length, e1, e3]⟩
  have H7 := Lib.hid (show Out base W1 o w7 v7 p2 from by rw [hp2]; simpa [List.append_assoc] using h7)
  have hp2b : p2.length ≤ xs.length + 12 + (fmt x.kids[0]).length := by omega
  have HP2 := Lib.hid hp2
  clear h7 hp2 hp2l
  go_wp2_with fail
  go_loopw [0, 8] (fun v i wr => ∃ k : Nat, k ≤ x.alts.length ∧ i = .int .i64 k ∧ Hid (Out base W1 o wr v (p2 ++ joins [59, 32] true ((List.zipWith altPart x.alts (x.alts.map (fun a : AltT => fmt a.body))).take k)))) (fun _ i _ => x.alts.length - (intOf i).toNat)
  case atStart => exact ⟨0, Nat.zero_le _, rfl, Lib.hid (by simpa [joins] using H7.out)⟩
  case round =>
    obtain ⟨k, hk, rfl, HQ⟩ := hrel
    have HBP := Lib.hid (HQ.out.blk BP1.out HNE.out)
    have p6 := HBP.out.cell (j := 6) rfl
    by_cases hlt : k < x.alts.length
    · have hJ := joins_take_len [59, 32] (List.zipWith altPart x.alts (x.alts.map (fun a : AltT => fmt a.body))) (k + 1) true
      have hsn := zipAlt_take x.alts (x.alts.map (fun a : AltT => fmt a.body)) k hlt (by rw [List.length_map]; exact hlt)
      rw [List.getElem_map] at hsn
      rw [hsn, joins_snoc] at hJ
      have HSN := Lib.hid hsn; clear hsn
      have hat : (altsText x).length = (joins [59, 32] true (List.zipWith altPart x.alts (x.alts.map (fun a : AltT => fmt a.body)))).length := rfl
      simp only [List.length_append, altPart, bytesOf_length, List.length_cons, List.length_nil] at hJ
      by_cases hz : k = 0
      · subst hz
        rw [if_pos (by simp)] at hJ
        obtain ⟨ada, A1, c1, A3', c3', A4', c4', B5, d5, B6, d6, heada, hKa, hKb, l1n, gsn, g0, g1, g2, g3, g4, g5, g6, g7, g8⟩ := elem_alt G6.out 0 hlt
        subst heada
        rw [Nat.zero_mul, add_nought] at g0 g1 g2 g3 g4 g5 g6 g7 g8
        have KEEPA := Lib.hid (show ∀ (W_ : World) (v : Value) (ys : List Int), Out base W1 o W_ v ys → (W_.cell? ⟨w.heap.size, 6, none⟩ = some (.slice (some ada) x.alts.length c6) ∧ W_.cell? ada = some (.string x.alts[0].con) ∧ W_.cell? ⟨ada.block, ada.off + 1, none⟩ = some (.slice A1 x.alts[0].names.length c1) ∧ W_.cell? ⟨ada.block, ada.off + 2, none⟩ = some (.int .i64 x.alts[0].body.kind) ∧ W_.cell? ⟨ada.block, ada.off + 3, none⟩ = some (.string x.alts[0].body.name) ∧ W_.cell? ⟨ada.block, ada.off + 4, none⟩ = some (.bool x.alts[0].body.minus) ∧ W_.cell? ⟨ada.block, ada.off + 5, none⟩ = some (.slice A3' x.alts[0].body.limbs.length c3') ∧ W_.cell? ⟨ada.block, ada.off + 6, none⟩ = some (.slice A4' x.alts[0].body.names.length c4') ∧ W_.cell? ⟨ada.block, ada.off + 7, none⟩ = some (.slice B5 x.alts[0].body.kids.length d5) ∧ W_.cell? ⟨ada.block, ada.off + 8, none⟩ = some (.slice B6 x.alts[0].body.alts.length d6)) from fun W_ v ys h => by
          have hb := BSW.out.trans ((h.belowB HOB.out).mono hSb)
          have hq := h.blk BP1.out HNE.out
          exact ⟨hq.cell (j := 6) rfl, cell_later' hb g0, cell_later' hb g1, cell_later' hb g2, cell_later' hb g3, cell_later' hb g4, cell_later' hb g5, cell_later' hb g6, cell_later' hb g7, cell_later' hb g8⟩)
        have GS := Lib.hid gsn; have HKB := Lib.hid hKb
        clear hKa hKb gsn g0 g1 g2 g3 g4 g5 g6 g7 g8 p6
        obtain ⟨p6, g0, g1, g2, g3, g4, g5, g6, g7, g8⟩ := KEEPA.out _ _ _ HQ.out
        have hab := mem_abulks (List.getElem_mem hlt)
        rw [abulk_eq] at hab
        have hbks := HBK.out
        rw [bulk_eq] at hbks
        have hnl := len_strsB x.alts[0].names
        have hnl2 : x.alts[0].names.length ≤ 1048576 := by omega
        have L0 : bulk x.alts[0].body ≤ 1048576 := by omega
        clear hab hbks hnl
        go_wp2_with (at_builtin; refine app_str HQ.out rfl _ _ rfl x.alts[0].con rfl rfl (by simp only [List.length_append, List.length_cons, List.length_nil] at hJ ⊢; omega) ?_)
        intro v5 w5 h5
        obtain ⟨q2, hq2, hq2l⟩ : ∃ p, p = (p2 ++ joins [59, 32] true ((List.zipWith altPart x.alts (x.alts.map (fun a : AltT => fmt a.body))).take 0)) ++ bytesOf x.alts[0].con ∧ p.length = ((p2 ++ joins [59, 32] true ((List.zipWith altPart x.alts (x.alts.map (fun a : AltT => fmt a.body))).take 0))).length + x.alts[0].con.size := ⟨_, rfl, by rw [List.length_append, bytesOf_length]⟩
        have H5 := Lib.hid (show Out base W1 o w5 v5 q2 from by rw [hq2]; simpa [List.append_assoc] using h5)
        simp only [List.length_append, List.length_cons, List.length_nil] at hq2l hJ
        have hq2b : q2.length + (joins [32] false (x.alts[0].names.map bytesOf)).length + 4 + (fmt x.alts[0].body).length ≤ p2.length + (altsText x).length := by omega
        have HQ2 := Lib.hid hq2
        clear h5 hq2 hq2l hJ p6 g0 g1 g2 g3 g4 g5 g6 g7 g8
        obtain ⟨p6, g0, g1, g2, g3, g4, g5, g6, g7, g8⟩ := KEEPA.out _ _ _ H5.out
        go_wp2_with fail
        clear p6 g0 g1 g2 g3 g4 g5 g6 g7 g8
        go_loopw [0, 9] (fun v i wq => ∃ m : Nat, m ≤ x.alts[0].names.length ∧ i = .int .i64 m ∧ Hid (Out base W1 o wq v (q2 ++ joins [32] false ((x.alts[0].names.map bytesOf).take m)))) (fun _ i _ => x.alts[0].names.length - (intOf i).toNat)
        case atStart => exact ⟨0, Nat.zero_le _, rfl, Lib.hid (by simpa [joins] using H5.out)⟩
        case round =>
          obtain ⟨m, hm, rfl, HM⟩ := hrel
          obtain ⟨p6, g0, g1, g2, g3, g4, g5, g6, g7, g8⟩ := KEEPA.out _ _ _ HM.out
          by_cases hmt : m < x.alts[0].names.length
          · have hJ2 := joins_take_len [32] (x.alts[0].names.map bytesOf) (m + 1) false
            have hsn2 : (x.alts[0].names.map bytesOf).take (m + 1) = (x.alts[0].names.map bytesOf).take m ++ [bytesOf x.alts[0].names[m]] := by rw [take_snoc' (by rw [List.length_map]; exact hmt), List.getElem_map]
            rw [hsn2, joins_snoc, if_neg (fun h => by cases h.1)] at hJ2
            have HSN2 := Lib.hid hsn2; clear hsn2
            simp only [List.length_append, bytesOf_length, List.length_cons, List.length_nil] at hJ2
            obtain ⟨an, hean, gn⟩ := elem_str GS.out m hmt
            subst hean
            have KEEPN := Lib.hid (show ∀ (W_ : World) (v : Value) (ys : List Int), Out base W1 o W_ v ys → (W_.cell? ⟨w.heap.size, 6, none⟩ = some (.slice (some ada) x.alts.length c6) ∧ W_.cell? ⟨ada.block, ada.off + 1, none⟩ = some (.slice (some an) x.alts[0].names.length c1) ∧ W_.cell? (an.add m) = some (.string x.alts[0].names[m])) from fun W_ v ys h => by
              have hb := BSW.out.trans ((h.belowB HOB.out).mono hSb)
              obtain ⟨q6, r0, r1, -⟩ := KEEPA.out _ _ _ h
              exact ⟨q6, r1, cell_later' hb gn⟩)
            clear gn g0 g2 g3 g4 g5 g6 g7 g8 p6 g1
            obtain ⟨p6, g1, gn⟩ := KEEPN.out _ _ _ HM.out
            have LM1 : (q2 ++ joins [32] false ((x.alts[0].names.map bytesOf).take m)).length ≤ 1000000000 := by rw [List.length_append]; omega
            have LM2 : (q2 ++ joins [32] false ((x.alts[0].names.map bytesOf).take m) ++ [32]).length + x.alts[0].names[m].size ≤ 1000000000 := by
              simp only [List.length_append, List.length_cons, List.length_nil]; omega
            go_wp2_with fail
            go_region_held3 (fun W_ => W_.cell? ⟨w.heap.size, 6, none⟩ = some (.slice (some ada) x.alts.length c6) ∧ W_.cell? ⟨ada.block, ada.off + 1, none⟩ = some (.slice (some an) x.alts[0].names.length c1) ∧ W_.cell? (an.add m) = some (.string x.alts[0].names[m])) (first | go_keep | exact KEEPN.out _ _ _ (by assumption))
              (first
                | (refine step_byteL (Out.alloc (Out.drew HM.out) _) (by rfl) _ _ (by rfl) 32 _ (by rfl) (by rfl) (Lit.new (Out.drew HM.out) 32).cell LM1 ?_; intro v6 w6 h6 l6)
                | (refine step_strL h6 (by rfl) _ _ (by rfl) x.alts[0].names[m] (by rfl) (by rfl) LM2 ?_; intro v7 w7 h7 l7))
            rename_i hheld
            have H7 := Lib.hid h7
            clear hheld h6 l6 h7 l7 p6 g1 gn
            go_wp2
            go_roundw
            case rel => exact ⟨m + 1, by omega, by go_num, Lib.hid (by have := H7.out; rw [HSN2.out, joins_snoc, if_neg (fun h => by cases h.1)]; simpa [List.append_assoc] using this)⟩
            case measure => simp [intOf]; omega
          · have hmm : m = x.alts[0].names.length := by omega
            have hq := HM.out
            rw [hmm, List.take_of_length_le (by rw [List.length_map]; exact Nat.le_refl _)] at hq
            have HM2 := Lib.hid hq; clear hq hmm
            have LM1 : (q2 ++ joins [32] false (x.alts[0].names.map bytesOf)).length + (⟨#[32, 45, 62, 32]⟩ : ByteArray).size ≤ 1000000000 := by
              have e3 : (⟨#[32, 45, 62, 32]⟩ : ByteArray).size = 4 := rfl
              rw [List.length_append, e3]; omega
            have LM2 : (q2 ++ joins [32] false (x.alts[0].names.map bytesOf) ++ bytesOf ⟨#[32, 45, 62, 32]⟩).length + (fmt x.alts[0].body).length ≤ 1000000000 := by
              have e3 : (⟨#[32, 45, 62, 32]⟩ : ByteArray).size = 4 := rfl
              rw [List.length_append, List.length_append, bytesOf_length, e3]; omega
            go_wp2_with fail
            go_region_held3 (fun W_ => W_.cell? ⟨w.heap.size, 6, none⟩ = some (.slice (some ada) x.alts.length c6) ∧ W_.cell? ada = some (.string x.alts[0].con) ∧ W_.cell? ⟨ada.block, ada.off + 1, none⟩ = some (.slice A1 x.alts[0].names.length c1) ∧ W_.cell? ⟨ada.block, ada.off + 2, none⟩ = some (.int .i64 x.alts[0].body.kind) ∧ W_.cell? ⟨ada.block, ada.off + 3, none⟩ = some (.string x.alts[0].body.name) ∧ W_.cell? ⟨ada.block, ada.off + 4, none⟩ = some (.bool x.alts[0].body.minus) ∧ W_.cell? ⟨ada.block, ada.off + 5, none⟩ = some (.slice A3' x.alts[0].body.limbs.length c3') ∧ W_.cell? ⟨ada.block, ada.off + 6, none⟩ = some (.slice A4' x.alts[0].body.names.length c4') ∧ W_.cell? ⟨ada.block, ada.off + 7, none⟩ = some (.slice B5 x.alts[0].body.kids.length d5) ∧ W_.cell? ⟨ada.block, ada.off + 8, none⟩ = some (.slice B6 x.alts[0].body.alts.length d6)) (first | go_keep | exact KEEPA.out _ _ _ (by assumption))
              (first
                | (refine step_strL (Out.drew HM2.out) (by rfl) _ _ (by rfl) ⟨#[32, 45, 62, 32]⟩ (by rfl) (by rfl) LM1 ?_; intro v6 w6 h6 l6)
                | (go_at_call 19; refine (FmtSaid.call (IHA.out _ (List.getElem_mem hlt)) (WfAs_mem HWA.out _ (List.getElem_mem hlt)) (HSA.out _ (List.getElem_mem hlt)) L0 HKB.out h6 BSW.out hSb HOB.out LM2).mono ?_; rintro e w8 ⟨v8, rfl, h8, l8⟩))
            rename_i hheld
            have H8 := Lib.hid h8
            clear hheld h6 l6 h8 l8 p6 g0 g1 g2 g3 g4 g5 g6 g7 g8
            go_wp2
            go_roundw
            case rel => exact ⟨0 + 1, by omega, by go_num, Lib.hid (by have := H8.out; rw [HQ2.out, show bytesOf ⟨#[32, 45, 62, 32]⟩ = ([32, 45, 62, 32] : List Int) from rfl] at this; rw [HSN.out, joins_snoc, if_pos (by simp)]; simpa [altPart, joins, List.append_assoc] using this)⟩
            case measure => simp [intOf]; omega
      · have q0 : decide (0 < (k : Int)) = true := decide_eq_true (by omega)
        have hne : ¬ (((List.zipWith altPart x.alts (x.alts.map (fun a : AltT => fmt a.body))).take k) = []) := by intro h; have := congrArg List.length h; rw [List.length_take, List.length_zipWith, List.length_map, List.length_nil] at this; omega
        rw [if_neg (fun h => hne h.2)] at hJ
        have HNE0 := Lib.hid hne; clear hne
        go_wp2_with (at_builtin; refine app_str HQ.out rfl _ _ rfl ⟨#[59, 32]⟩ rfl rfl (by show _ + 2 ≤ _; simp only [List.length_append, List.length_cons, List.length_nil] at hJ ⊢; omega) ?_)
        intro v4 w4 h4
        rw [show bytesOf ⟨#[59, 32]⟩ = ([59, 32] : List Int) from rfl] at h4
        have H4 := Lib.hid (show Out base W1 o w4 v4 (p2 ++ joins [59, 32] true ((List.zipWith altPart x.alts (x.alts.map (fun a : AltT => fmt a.body))).take k) ++ [59, 32]) from by simpa [List.append_assoc] using h4)
        clear h4 p6 q0
        obtain ⟨ada, A1, c1, A3', c3', A4', c4', B5, d5, B6, d6, heada, hKa, hKb, l1n, gsn, g0, g1, g2, g3, g4, g5, g6, g7, g8⟩ := elem_alt G6.out k hlt
        subst heada
        have KEEPA := Lib.hid (show ∀ (W_ : World) (v : Value) (ys : List Int), Out base W1 o W_ v ys → (W_.cell? ⟨w.heap.size, 6, none⟩ = some (.slice (some ada) x.alts.length c6) ∧ W_.cell? (ada.add (k * 9)) = some (.string x.alts[k].con) ∧ W_.cell? ⟨(ada.add (k * 9)).block, (ada.add (k * 9)).off + 1, none⟩ = some (.slice A1 x.alts[k].names.length c1) ∧ W_.cell? ⟨(ada.add (k * 9)).block, (ada.add (k * 9)).off + 2, none⟩ = some (.int .i64 x.alts[k].body.kind) ∧ W_.cell? ⟨(ada.add (k * 9)).block, (ada.add (k * 9)).off + 3, none⟩ = some (.string x.alts[k].body.name) ∧ W_.cell? ⟨(ada.add (k * 9)).block, (ada.add (k * 9)).off + 4, none⟩ = some (.bool x.alts[k].body.minus) ∧ W_.cell? ⟨(ada.add (k * 9)).block, (ada.add (k * 9)).off + 5, none⟩ = some (.slice A3' x.alts[k].body.limbs.length c3') ∧ W_.cell? ⟨(ada.add (k * 9)).block, (ada.add (k * 9)).off + 6, none⟩ = some (.slice A4' x.alts[k].body.names.length c4') ∧ W_.cell? ⟨(ada.add (k * 9)).block, (ada.add (k * 9)).off + 7, none⟩ = some (.slice B5 x.alts[k].body.kids.length d5) ∧ W_.cell? ⟨(ada.add (k * 9)).block, (ada.add (k * 9)).off + 8, none⟩ = some (.slice B6 x.alts[k].body.alts.length d6)) from fun W_ v ys h => by
          have hb := BSW.out.trans ((h.belowB HOB.out).mono hSb)
          have hq := h.blk BP1.out HNE.out
          exact ⟨hq.cell (j := 6) rfl, cell_later' hb g0, cell_later' hb g1, cell_later' hb g2, cell_later' hb g3, cell_later' hb g4, cell_later' hb g5, cell_later' hb g6, cell_later' hb g7, cell_later' hb g8⟩)
        have GS := Lib.hid gsn; have HKB := Lib.hid hKb
        clear hKa hKb gsn g0 g1 g2 g3 g4 g5 g6 g7 g8 
        obtain ⟨p6, g0, g1, g2, g3, g4, g5, g6, g7, g8⟩ := KEEPA.out _ _ _ H4.out
        have hab := mem_abulks (List.getElem_mem hlt)
        rw [abulk_eq] at hab
        have hbks := HBK.out
        rw [bulk_eq] at hbks
        have hnl := len_strsB x.alts[k].names
        have hnl2 : x.alts[k].names.length ≤ 1048576 := by omega
        have L0 : bulk x.alts[k].body ≤ 1048576 := by omega
        clear hab hbks hnl
        go_wp2_with (at_builtin; refine app_str H4.out rfl _ _ rfl x.alts[k].con rfl rfl (by simp only [List.length_append, List.length_cons, List.length_nil] at hJ ⊢; omega) ?_)
        intro v5 w5 h5
        obtain ⟨q2, hq2, hq2l⟩ : ∃ p, p = (p2 ++ joins [59, 32] true ((List.zipWith altPart x.alts (x.alts.map (fun a : AltT => fmt a.body))).take k) ++ [59, 32]) ++ bytesOf x.alts[k].con ∧ p.length = ((p2 ++ joins [59, 32] true ((List.zipWith altPart x.alts (x.alts.map (fun a : AltT => fmt a.body))).take k) ++ [59, 32])).length + x.alts[k].con.size := ⟨_, rfl, by rw [List.length_append, bytesOf_length]⟩
        have H5 := Lib.hid (show Out base W1 o w5 v5 q2 from by rw [hq2]; simpa [List.append_assoc] using h5)
        simp only [List.length_append, List.length_cons, List.length_nil] at hq2l hJ
        have hq2b : q2.length + (joins [32] false (x.alts[k].names.map bytesOf)).length + 4 + (fmt x.alts[k].body).length ≤ p2.length + (altsText x).length := by omega
        have HQ2 := Lib.hid hq2
        clear h5 hq2 hq2l hJ p6 g0 g1 g2 g3 g4 g5 g6 g7 g8
        obtain ⟨p6, g0, g1, g2, g3, g4, g5, g6, g7, g8⟩ := KEEPA.out _ _ _ H5.out
        go_wp2_with fail
        clear p6 g0 g1 g2 g3 g4 g5 g6 g7 g8
        go_loopw [0, 9] (fun v i wq => ∃ m : Nat, m ≤ x.alts[k].names.length ∧ i = .int .i64 m ∧ Hid (Out base W1 o wq v (q2 ++ joins [32] false ((x.alts[k].names.map bytesOf).take m)))) (fun _ i _ => x.alts[k].names.length - (intOf i).toNat)
        case atStart => exact ⟨0, Nat.zero_le _, rfl, Lib.hid (by simpa [joins] using H5.out)⟩
        case round =>
          obtain ⟨m, hm, rfl, HM⟩ := hrel
          obtain ⟨p6, g0, g1, g2, g3, g4, g5, g6, g7, g8⟩ := KEEPA.out _ _ _ HM.out
          by_cases hmt : m < x.alts[k].names.length
          · have hJ2 := joins_take_len [32] (x.alts[k].names.map bytesOf) (m + 1) false
            have hsn2 : (x.alts[k].names.map bytesOf).take (m + 1) = (x.alts[k].names.map bytesOf).take m ++ [bytesOf x.alts[k].names[m]] := by rw [take_snoc' (by rw [List.length_map]; exact hmt), List.getElem_map]
            rw [hsn2, joins_snoc, if_neg (fun h => by cases h.1)] at hJ2
            have HSN2 := Lib.hid hsn2; clear hsn2
            simp only [List.length_append, bytesOf_length, List.length_cons, List.length_nil] at hJ2
            obtain ⟨an, hean, gn⟩ := elem_str GS.out m hmt
            subst hean
            have KEEPN := Lib.hid (show ∀ (W_ : World) (v : Value) (ys : List Int), Out base W1 o W_ v ys → (W_.cell? ⟨w.heap.size, 6, none⟩ = some (.slice (some ada) x.alts.length c6) ∧ W_.cell? ⟨(ada.add (k * 9)).block, (ada.add (k * 9)).off + 1, none⟩ = some (.slice (some an) x.alts[k].names.length c1) ∧ W_.cell? (an.add m) = some (.string x.alts[k].names[m])) from fun W_ v ys h => by
              have hb := BSW.out.trans ((h.belowB HOB.out).mono hSb)
              obtain ⟨q6, r0, r1, -⟩ := KEEPA.out _ _ _ h
              exact ⟨q6, r1, cell_later' hb gn⟩)
            clear gn g0 g2 g3 g4 g5 g6 g7 g8 p6 g1
            obtain ⟨p6, g1, gn⟩ := KEEPN.out _ _ _ HM.out
            have LM1 : (q2 ++ joins [32] false ((x.alts[k].names.map bytesOf).take m)).length ≤ 1000000000 := by rw [List.length_append]; omega
            have LM2 : (q2 ++ joins [32] false ((x.alts[k].names.map bytesOf).take m) ++ [32]).length + x.alts[k].names[m].size ≤ 1000000000 := by
              simp only [List.length_append, List.length_cons, List.length_nil]; omega
            go_wp2_with fail
            go_region_held3 (fun W_ => W_.cell? ⟨w.heap.size, 6, none⟩ = some (.slice (some ada) x.alts.length c6) ∧ W_.cell? ⟨(ada.add (k * 9)).block, (ada.add (k * 9)).off + 1, none⟩ = some (.slice (some an) x.alts[k].names.length c1) ∧ W_.cell? (an.add m) = some (.string x.alts[k].names[m])) (first | go_keep | exact KEEPN.out _ _ _ (by assumption))
              (first
                | (refine step_byteL (Out.alloc (Out.drew HM.out) _) (by rfl) _ _ (by rfl) 32 _ (by rfl) (by rfl) (Lit.new (Out.drew HM.out) 32).cell LM1 ?_; intro v6 w6 h6 l6)
                | (refine step_strL h6 (by rfl) _ _ (by rfl) x.alts[k].names[m] (by rfl) (by rfl) LM2 ?_; intro v7 w7 h7 l7))
            rename_i hheld
            have H7 := Lib.hid h7
            clear hheld h6 l6 h7 l7 p6 g1 gn
            go_wp2
            go_roundw
            case rel => exact ⟨m + 1, by omega, by go_num, Lib.hid (by have := H7.out; rw [HSN2.out, joins_snoc, if_neg (fun h => by cases h.1)]; simpa [List.append_assoc] using this)⟩
            case measure => simp [intOf]; omega
          · have hmm : m = x.alts[k].names.length := by omega
            have hq := HM.out
            rw [hmm, List.take_of_length_le (by rw [List.length_map]; exact Nat.le_refl _)] at hq
            have HM2 := Lib.hid hq; clear hq hmm
            have LM1 : (q2 ++ joins [32] false (x.alts[k].names.map bytesOf)).length + (⟨#[32, 45, 62, 32]⟩ : ByteArray).size ≤ 1000000000 := by
              have e3 : (⟨#[32, 45, 62, 32]⟩ : ByteArray).size = 4 := rfl
              rw [List.length_append, e3]; omega
            have LM2 : (q2 ++ joins [32] false (x.alts[k].names.map bytesOf) ++ bytesOf ⟨#[32, 45, 62, 32]⟩).length + (fmt x.alts[k].body).length ≤ 1000000000 := by
              have e3 : (⟨#[32, 45, 62, 32]⟩ : ByteArray).size = 4 := rfl
              rw [List.length_append, List.length_append, bytesOf_length, e3]; omega
            go_wp2_with fail
            go_region_held3 (fun W_ => W_.cell? ⟨w.heap.size, 6, none⟩ = some (.slice (some ada) x.alts.length c6) ∧ W_.cell? (ada.add (k * 9)) = some (.string x.alts[k].con) ∧ W_.cell? ⟨(ada.add (k * 9)).block, (ada.add (k * 9)).off + 1, none⟩ = some (.slice A1 x.alts[k].names.length c1) ∧ W_.cell? ⟨(ada.add (k * 9)).block, (ada.add (k * 9)).off + 2, none⟩ = some (.int .i64 x.alts[k].body.kind) ∧ W_.cell? ⟨(ada.add (k * 9)).block, (ada.add (k * 9)).off + 3, none⟩ = some (.string x.alts[k].body.name) ∧ W_.cell? ⟨(ada.add (k * 9)).block, (ada.add (k * 9)).off + 4, none⟩ = some (.bool x.alts[k].body.minus) ∧ W_.cell? ⟨(ada.add (k * 9)).block, (ada.add (k * 9)).off + 5, none⟩ = some (.slice A3' x.alts[k].body.limbs.length c3') ∧ W_.cell? ⟨(ada.add (k * 9)).block, (ada.add (k * 9)).off + 6, none⟩ = some (.slice A4' x.alts[k].body.names.length c4') ∧ W_.cell? ⟨(ada.add (k * 9)).block, (ada.add (k * 9)).off + 7, none⟩ = some (.slice B5 x.alts[k].body.kids.length d5) ∧ W_.cell? ⟨(ada.add (k * 9)).block, (ada.add (k * 9)).off + 8, none⟩ = some (.slice B6 x.alts[k].body.alts.length d6)) (first | go_keep | exact KEEPA.out _ _ _ (by assumption))
              (first
                | (refine step_strL (Out.drew HM2.out) (by rfl) _ _ (by rfl) ⟨#[32, 45, 62, 32]⟩ (by rfl) (by rfl) LM1 ?_; intro v6 w6 h6 l6)
                | (go_at_call 19; refine (FmtSaid.call (IHA.out _ (List.getElem_mem hlt)) (WfAs_mem HWA.out _ (List.getElem_mem hlt)) (HSA.out _ (List.getElem_mem hlt)) L0 HKB.out h6 BSW.out hSb HOB.out LM2).mono ?_; rintro e w8 ⟨v8, rfl, h8, l8⟩))
            rename_i hheld
            have H8 := Lib.hid h8
            clear hheld h6 l6 h8 l8 p6 g0 g1 g2 g3 g4 g5 g6 g7 g8
            go_wp2
            go_roundw
            case rel => exact ⟨k + 1, by omega, by go_num, Lib.hid (by have := H8.out; rw [HQ2.out, show bytesOf ⟨#[32, 45, 62, 32]⟩ = ([32, 45, 62, 32] : List Int) from rfl] at this; rw [HSN.out, joins_snoc, if_neg (fun h => HNE0.out h.2)]; simpa [altPart, joins, List.append_assoc] using this)⟩
            case measure => simp [intOf]; omega
    · have hkk : k = x.alts.length := by omega
      have hq := HQ.out
      rw [hkk, List.take_of_length_le (by rw [List.length_zipWith, List.length_map]; omega)] at hq
      have HQ2 := Lib.hid (show Out base W1 o wr _ (p2 ++ altsText x) from hq); clear hq hkk
      have p5 := HBP.out.cell (j := 5) rfl
      have EE := Lib.hid (show bytesOf ⟨#[32, 125, 41]⟩ = ([32, 125, 41] : List Int) from rfl)
      have ED := Lib.hid (show bytesOf ⟨#[95, 32, 45, 62, 32]⟩ = ([95, 32, 45, 62, 32] : List Int) from rfl)
      have ES := Lib.hid (show bytesOf ⟨#[59, 32]⟩ = ([59, 32] : List Int) from rfl)
      by_cases hk1 : 1 < x.kids.length
      · have hk22 : x.kids.length = 2 := by omega
        have qk : ((x.kids.length : Int) == 2) = true := beq_iff_eq.2 (by omega)
        have hce := getD_at 1 hk1
        by_cases ha : 0 < x.alts.length
        · have qa : decide (0 < (x.alts.length : Int)) = true := decide_eq_true (by omega)
          have hcl : caseEnd x = ([59, 32] : List Int) ++ ([95, 32, 45, 62, 32] : List Int) ++ fmt x.kids[1] ++ ([32, 125, 41] : List Int) := by unfold caseEnd; rw [if_pos hk22, if_pos ha, hce]
          rw [hcl] at hl
          simp only [List.length_append, List.length_cons, List.length_nil] at hl
          have HCL := Lib.hid hcl
          clear hcl hce hk22
          go_wp2_with (at_builtin; refine app_str HQ2.out rfl _ _ rfl ⟨#[59, 32]⟩ rfl rfl (by rw [List.length_append]; show p2.length + _ + 2 ≤ _; omega) ?_)
          intro v4 w4 h4
          rw [ES.out] at h4
          have H4 := Lib.hid (show Out base W1 o w4 v4 (p2 ++ altsText x ++ [59, 32]) from by simpa [List.append_assoc] using h4)
          clear h4 p5 p6 qk qa
          obtain ⟨adx, A3', c3', A4', c4', B5, d5, B6, d6, head, hKk, g0, g1, g2, g3, g4, g5, g6⟩ := elem_core G5.out 1 hk1
          injection head with head
          subst head
          rw [Nat.one_mul, add_seven] at g0 g1 g2 g3 g4 g5 g6
          dsimp only at g0 g1 g2 g3 g4 g5 g6
          have i1 : (1 : Int) < (x.kids.length : Int) := by omega
          have KEEP := Lib.hid (show ∀ (W_ : World) (v : Value) (ys : List Int), Out base W1 o W_ v ys → (W_.cell? ⟨w.heap.size, 5, none⟩ = some (.slice (some ad) x.kids.length c5) ∧ W_.cell? ⟨ad.block, ad.off + 7, none⟩ = some (.int .i64 x.kids[1].kind) ∧ W_.cell? ⟨ad.block, ad.off + 7 + 1, none⟩ = some (.string x.kids[1].name) ∧ W_.cell? ⟨ad.block, ad.off + 7 + 2, none⟩ = some (.bool x.kids[1].minus) ∧ W_.cell? ⟨ad.block, ad.off + 7 + 3, none⟩ = some (.slice A3' x.kids[1].limbs.length c3') ∧ W_.cell? ⟨ad.block, ad.off + 7 + 4, none⟩ = some (.slice A4' x.kids[1].names.length c4') ∧ W_.cell? ⟨ad.block, ad.off + 7 + 5, none⟩ = some (.slice B5 x.kids[1].kids.length d5) ∧ W_.cell? ⟨ad.block, ad.off + 7 + 6, none⟩ = some (.slice B6 x.kids[1].alts.length d6)) from fun W_ v ys h => by
            have hb := BSW.out.trans ((h.belowB HOB.out).mono hSb)
            have hq := h.blk BP1.out HNE.out
            exact ⟨hq.cell (j := 5) rfl, cell_later' hb g0, cell_later' hb g1, cell_later' hb g2, cell_later' hb g3, cell_later' hb g4, cell_later' hb g5, cell_later' hb g6⟩)
          have HKk := Lib.hid hKk
          clear hKk g0 g1 g2 g3 g4 g5 g6
          obtain ⟨p5, g0, g1, g2, g3, g4, g5, g6⟩ := KEEP.out _ _ _ H4.out
          have L0 : bulk x.kids[1] ≤ 1048576 := by have := mem_bulks (List.getElem_mem hk1); have := HBK.out; rw [bulk_eq] at this; omega
          have L1 : (p2 ++ altsText x ++ [59, 32]).length + (⟨#[95, 32, 45, 62, 32]⟩ : ByteArray).size ≤ 1000000000 := by
            have e3 : (⟨#[95, 32, 45, 62, 32]⟩ : ByteArray).size = 5 := rfl
            simp only [List.length_append, List.length_cons, List.length_nil, e3]; omega
          have L2 : (p2 ++ altsText x ++ [59, 32] ++ bytesOf ⟨#[95, 32, 45, 62, 32]⟩).length + (fmt x.kids[1]).length ≤ 1000000000 := by
            have e3 : (⟨#[95, 32, 45, 62, 32]⟩ : ByteArray).size = 5 := rfl
            simp only [List.length_append, List.length_cons, List.length_nil, bytesOf_length, e3]; omega
          go_wp2_with fail
          go_region_held3 (fun W_ => W_.cell? ⟨w.heap.size, 5, none⟩ = some (.slice (some ad) x.kids.length c5) ∧ W_.cell? ⟨ad.block, ad.off + 7, none⟩ = some (.int .i64 x.kids[1].kind) ∧ W_.cell? ⟨ad.block, ad.off + 7 + 1, none⟩ = some (.string x.kids[1].name) ∧ W_.cell? ⟨ad.block, ad.off + 7 + 2, none⟩ = some (.bool x.kids[1].minus) ∧ W_.cell? ⟨ad.block, ad.off + 7 + 3, none⟩ = some (.slice A3' x.kids[1].limbs.length c3') ∧ W_.cell? ⟨ad.block, ad.off + 7 + 4, none⟩ = some (.slice A4' x.kids[1].names.length c4') ∧ W_.cell? ⟨ad.block, ad.off + 7 + 5, none⟩ = some (.slice B5 x.kids[1].kids.length d5) ∧ W_.cell? ⟨ad.block, ad.off + 7 + 6, none⟩ = some (.slice B6 x.kids[1].alts.length d6)) (first | go_keep | exact KEEP.out _ _ _ (by assumption))
            (first
              | (refine step_strL (Out.drew H4.out) (by rfl) _ _ (by rfl) ⟨#[95, 32, 45, 62, 32]⟩ (by rfl) (by rfl) L1 ?_; intro v5 w5 h5 l5)
              | (go_at_call 19; refine (FmtSaid.call (IH.out _ (List.getElem_mem hk1)) (WfCs_mem HW.out _ (List.getElem_mem hk1)) (HS.out _ (List.getElem_mem hk1)) L0 HKk.out h5 BSW.out hSb HOB.out L2).mono ?_; rintro e w6 ⟨v6, rfl, h6, l6⟩))
          rename_i hheld
          have H6 := Lib.hid h6
          clear hheld h5 l5 h6 l6 p5 g0 g1 g2 g3 g4 g5 g6
          go_wp2_with (at_builtin; refine app_str H6.out rfl _ _ rfl ⟨#[32, 125, 41]⟩ rfl rfl (by have e3 : (⟨#[32, 125, 41]⟩ : ByteArray).size = 3 := rfl; have e4 : (⟨#[95, 32, 45, 62, 32]⟩ : ByteArray).size = 5 := rfl; simp only [List.length_append, List.length_cons, List.length_nil, bytesOf_length, e3, e4]; omega) ?_)
          intro v9 w9 h9
          have H9 := Lib.hid h9; clear h9
          go_wp2
          go_ret
          exact ⟨_, rfl, Out.pre HB1.out (by have := H9.out; rw [EE.out, ED.out, HP2.out, HP1.out] at this; rw [HCL.out]; simpa [E40, E32, E123, List.append_assoc] using this) hge⟩
        · have qa : decide (0 < (x.alts.length : Int)) = false := decide_eq_false (by omega)
          have hcl : caseEnd x = ([95, 32, 45, 62, 32] : List Int) ++ fmt x.kids[1] ++ ([32, 125, 41] : List Int) := by unfold caseEnd; rw [if_pos hk22, if_neg ha, hce]; rfl
          rw [hcl] at hl
          simp only [List.length_append, List.length_cons, List.length_nil] at hl
          have HCL := Lib.hid hcl
          clear hcl hce hk22
          go_wp2_with fail
          clear p5 p6 qk qa
          obtain ⟨adx, A3', c3', A4', c4', B5, d5, B6, d6, head, hKk, g0, g1, g2, g3, g4, g5, g6⟩ := elem_core G5.out 1 hk1
          injection head with head
          subst head
          rw [Nat.one_mul, add_seven] at g0 g1 g2 g3 g4 g5 g6
          dsimp only at g0 g1 g2 g3 g4 g5 g6
          have i1 : (1 : Int) < (x.kids.length : Int) := by omega
          have KEEP := Lib.hid (show ∀ (W_ : World) (v : Value) (ys : List Int), Out base W1 o W_ v ys → (W_.cell? ⟨w.heap.size, 5, none⟩ = some (.slice (some ad) x.kids.length c5) ∧ W_.cell? ⟨ad.block, ad.off + 7, none⟩ = some (.int .i64 x.kids[1].kind) ∧ W_.cell? ⟨ad.block, ad.off + 7 + 1, none⟩ = some (.string x.kids[1].name) ∧ W_.cell? ⟨ad.block, ad.off + 7 + 2, none⟩ = some (.bool x.kids[1].minus) ∧ W_.cell? ⟨ad.block, ad.off + 7 + 3, none⟩ = some (.slice A3' x.kids[1].limbs.length c3') ∧ W_.cell? ⟨ad.block, ad.off + 7 + 4, none⟩ = some (.slice A4' x.kids[1].names.length c4') ∧ W_.cell? ⟨ad.block, ad.off + 7 + 5, none⟩ = some (.slice B5 x.kids[1].kids.length d5) ∧ W_.cell? ⟨ad.block, ad.off + 7 + 6, none⟩ = some (.slice B6 x.kids[1].alts.length d6)) from fun W_ v ys h => by
            have hb := BSW.out.trans ((h.belowB HOB.out).mono hSb)
            have hq := h.blk BP1.out HNE.out
            exact ⟨hq.cell (j := 5) rfl, cell_later' hb g0, cell_later' hb g1, cell_later' hb g2, cell_later' hb g3, cell_later' hb g4, cell_later' hb g5, cell_later' hb g6⟩)
          have HKk := Lib.hid hKk
          clear hKk g0 g1 g2 g3 g4 g5 g6
          obtain ⟨p5, g0, g1, g2, g3, g4, g5, g6⟩ := KEEP.out _ _ _ HQ2.out
          have L0 : bulk x.kids[1] ≤ 1048576 := by have := mem_bulks (List.getElem_mem hk1); have := HBK.out; rw [bulk_eq] at this; omega
          have L1 : (p2 ++ altsText x).length + (⟨#[95, 32, 45, 62, 32]⟩ : ByteArray).size ≤ 1000000000 := by
            have e3 : (⟨#[95, 32, 45, 62, 32]⟩ : ByteArray).size = 5 := rfl
            simp only [List.length_append, List.length_cons, List.length_nil, e3]; omega
          have L2 : (p2 ++ altsText x ++ bytesOf ⟨#[95, 32, 45, 62, 32]⟩).length + (fmt x.kids[1]).length ≤ 1000000000 := by
            have e3 : (⟨#[95, 32, 45, 62, 32]⟩ : ByteArray).size = 5 := rfl
            simp only [List.length_append, List.length_cons, List.length_nil, bytesOf_length, e3]; omega
          go_region_held3 (fun W_ => W_.cell? ⟨w.heap.size, 5, none⟩ = some (.slice (some ad) x.kids.length c5) ∧ W_.cell? ⟨ad.block, ad.off + 7, none⟩ = some (.int .i64 x.kids[1].kind) ∧ W_.cell? ⟨ad.block, ad.off + 7 + 1, none⟩ = some (.string x.kids[1].name) ∧ W_.cell? ⟨ad.block, ad.off + 7 + 2, none⟩ = some (.bool x.kids[1].minus) ∧ W_.cell? ⟨ad.block, ad.off + 7 + 3, none⟩ = some (.slice A3' x.kids[1].limbs.length c3') ∧ W_.cell? ⟨ad.block, ad.off + 7 + 4, none⟩ = some (.slice A4' x.kids[1].names.length c4') ∧ W_.cell? ⟨ad.block, ad.off + 7 + 5, none⟩ = some (.slice B5 x.kids[1].kids.length d5) ∧ W_.cell? ⟨ad.block, ad.off + 7 + 6, none⟩ = some (.slice B6 x.kids[1].alts.length d6)) (first | go_keep | exact KEEP.out _ _ _ (by assumption))
            (first
              | (refine step_strL (Out.drew HQ2.out) (by rfl) _ _ (by rfl) ⟨#[95, 32, 45, 62, 32]⟩ (by rfl) (by rfl) L1 ?_; intro v5 w5 h5 l5)
              | (go_at_call 19; refine (FmtSaid.call (IH.out _ (List.getElem_mem hk1)) (WfCs_mem HW.out _ (List.getElem_mem hk1)) (HS.out _ (List.getElem_mem hk1)) L0 HKk.out h5 BSW.out hSb HOB.out L2).mono ?_; rintro e w6 ⟨v6, rfl, h6, l6⟩))
          rename_i hheld
          have H6 := Lib.hid h6
          clear hheld h5 l5 h6 l6 p5 g0 g1 g2 g3 g4 g5 g6
          go_wp2_with (at_builtin; refine app_str H6.out rfl _ _ rfl ⟨#[32, 125, 41]⟩ rfl rfl (by have e3 : (⟨#[32, 125, 41]⟩ : ByteArray).size = 3 := rfl; have e4 : (⟨#[95, 32, 45, 62, 32]⟩ : ByteArray).size = 5 := rfl; simp only [List.length_append, List.length_cons, List.length_nil, bytesOf_length, e3, e4]; omega) ?_)
          intro v9 w9 h9
          have H9 := Lib.hid h9; clear h9
          go_wp2
          go_ret
          exact ⟨_, rfl, Out.pre HB1.out (by have := H9.out; rw [EE.out, ED.out, HP2.out, HP1.out] at this; rw [HCL.out]; simpa [E40, E32, E123, List.append_assoc] using this) hge⟩
      · have qk : ((x.kids.length : Int) == 2) = false := beq_eq_false_iff_ne.2 (by omega)
        have hcl : caseEnd x = [32, 125, 41] := by unfold caseEnd; rw [if_neg (by omega)]; rfl
        have HCL := Lib.hid hcl
        rw [hcl] at hl
        simp only [List.length_append, List.length_cons, List.length_nil] at hl
        clear hcl
        go_wp2_with (at_builtin; refine app_str HQ2.out rfl _ _ rfl ⟨#[32, 125, 41]⟩ rfl rfl (by have e3 : (⟨#[32, 125, 41]⟩ : ByteArray).size = 3 := rfl; simp only [List.length_append, e3]; omega) ?_)
        intro v9 w9 h9
        have H9 := Lib.hid h9; clear h9
        go_wp2
        go_ret
        exact ⟨_, rfl, Out.pre HB1.out (by have := H9.out; rw [EE.out, HP2.out, HP1.out] at this; rw [HCL.out]; simpa [E40, E32, E123, List.append_assoc] using this) hge⟩
set_option maxRecDepth 100000 in
set_option maxHeartbeats 8000000 in
theorem fmt_case1 (hbk : bulk x ≤ 1048576) (hk : x.kind = 8) (hk0 : 0 < x.kids.length) (hk2 : x.kids.length ≤ 2) (hn : 0 < x.name.size) (ih : ∀ y ∈ x.kids, FmtSaid y) (iha : ∀ a ∈ x.alts, FmtSaid a.body) (hw : WfCs x.kids) (hwa : WfAs x.alts)
    (hs : ∀ y ∈ x.kids, Shapes y) (hsa : ∀ a ∈ x.alts, Shapes a.body) (hK : IC.K S x (cellsC x A3 c3 A4 c4 A5 c5 A6 c6))
    (hB : Below S.heap.size S w) (hSb : S.heap.size ≤ base) (hge : base ≤ w.heap.size) (hown : w.ownsRow base 5 1 o xs.length (nums .u8 xs))
    (hl : xs.length + (13 + x.name.size) + (fmt x.kids[0]).length + (altsText x).length + (caseEnd x).length ≤ 1000000000) :
    Calls Try.prog 19 #[o, .agg (cellsC x A3 c3 A4 c4 A5 c5 A6 c6).toArray] w fun e w' => ∃ v, e = .returned v ∧ Out base w o w' v (xs ++ ([40, 99, 97, 115, 101, 32] : List Int) ++ fmt x.kids[0] ++ ([32, 111, 102, 32] : List Int) ++ (bytesOf x.name ++ ([32] : List Int)) ++ ([123, 32] : List Int) ++ altsText x ++ caseEnd x) := by
  have HO := Lib.hid hown; clear hown
  have G5 := Lib.hid (kids_of hK); have G6 := Lib.hid (alts_of hK); clear hK
  obtain ⟨b1, b2, b3, b4, b5⟩ := bounds hbk
  have IH := Lib.hid ih; have HW := Lib.hid hw; have HS := Lib.hid hs; clear ih hw hs
  have IHA := Lib.hid iha; have HWA := Lib.hid hwa; have HSA := Lib.hid hsa; clear iha hwa hsa
  have HBS := Lib.hid hB; clear hB
  have HBK := Lib.hid hbk; clear hbk
  simp only [cellsC]
  rw [hk]
  have HKK := Lib.hid hk; clear hk
  have qe := isEmpty_of (s := x.name) (by omega); have qt := toList_ne (s := x.name) (by omega)
  obtain ⟨W1, hW1, hp1, hB1, hs1⟩ := boxed w [.int .i64 8, .string x.name, .bool x.minus, .slice A3 x.limbs.length c3, .slice A4 x.names.length c4, .slice A5 x.kids.length c5, .slice A6 x.alts.length c6] 36
  have BP1 := Lib.hid hp1; have HB1 := Lib.hid hB1
  have BSW := Lib.hid (Below.step HBS.out hB1)
  have HNE := Lib.hid (show some w.heap.size ≠ o.ownBlock from fun h => by have := own_ltb HO.out _ h.symm; omega)
  have H1 := Lib.hid (Out.start (ownsRow_below HO.out hB1) (show base ≤ W1.heap.size by omega))
  have HOB := Lib.hid (own_base' HO.out)
  have HW1 := Lib.hid hW1
  obtain ⟨ad, A3', c3', A4', c4', B5, d5, B6, d6, head, hKk, g0, g1, g2, g3, g4, g5, g6⟩ := elem_core G5.out 0 hk0
  subst head
  rw [Nat.zero_mul, add_nought] at g0 g1 g2 g3 g4 g5 g6
  have KEEP := Lib.hid (show ∀ (W_ : World) (v : Value) (ys : List Int), Out base W1 o W_ v ys → (W_.cell? ⟨w.heap.size, 5, none⟩ = some (.slice (some ad) x.kids.length c5) ∧ W_.cell? ad = some (.int .i64 x.kids[0].kind) ∧ W_.cell? ⟨ad.block, ad.off + 1, none⟩ = some (.string x.kids[0].name) ∧ W_.cell? ⟨ad.block, ad.off + 2, none⟩ = some (.bool x.kids[0].minus) ∧ W_.cell? ⟨ad.block, ad.off + 3, none⟩ = some (.slice A3' x.kids[0].limbs.length c3') ∧ W_.cell? ⟨ad.block, ad.off + 4, none⟩ = some (.slice A4' x.kids[0].names.length c4') ∧ W_.cell? ⟨ad.block, ad.off + 5, none⟩ = some (.slice B5 x.kids[0].kids.length d5) ∧ W_.cell? ⟨ad.block, ad.off + 6, none⟩ = some (.slice B6 x.kids[0].alts.length d6)) from fun W_ v ys h => by
    have hb := BSW.out.trans ((h.belowB HOB.out).mono hSb)
    have hq := h.blk BP1.out HNE.out
    exact ⟨hq.cell (j := 5) rfl, cell_later' hb g0, cell_later' hb g1, cell_later' hb g2, cell_later' hb g3, cell_later' hb g4, cell_later' hb g5, cell_later' hb g6⟩)
  have HKk := Lib.hid hKk
  have L0 : bulk x.kids[0] ≤ 1048576 := by have := mem_bulks (List.getElem_mem hk0); have := HBK.out; rw [bulk_eq] at this; omega
  have L1 : xs.length + (⟨#[40, 99, 97, 115, 101, 32]⟩ : ByteArray).size ≤ 1000000000 := by show xs.length + 6 ≤ _; omega
  have L2 : (xs ++ bytesOf ⟨#[40, 99, 97, 115, 101, 32]⟩).length + (fmt x.kids[0]).length ≤ 1000000000 := by
    have e3 : (⟨#[40, 99, 97, 115, 101, 32]⟩ : ByteArray).size = 6 := rfl
    simp only [List.length_append, bytesOf_length, e3]; omega
  clear hp1 hB1 hs1 hW1 hKk g0 g1 g2 g3 g4 g5 g6
  go_enter Try.func19, Try.ntmps19
  go_wp2_with fail
  rw [show _ = W1 from HW1.out.symm]
  obtain ⟨p5, g0, g1, g2, g3, g4, g5, g6⟩ := KEEP.out _ _ _ H1.out
  go_region_held3 (fun W_ => W_.cell? ⟨w.heap.size, 5, none⟩ = some (.slice (some ad) x.kids.length c5) ∧ W_.cell? ad = some (.int .i64 x.kids[0].kind) ∧ W_.cell? ⟨ad.block, ad.off + 1, none⟩ = some (.string x.kids[0].name) ∧ W_.cell? ⟨ad.block, ad.off + 2, none⟩ = some (.bool x.kids[0].minus) ∧ W_.cell? ⟨ad.block, ad.off + 3, none⟩ = some (.slice A3' x.kids[0].limbs.length c3') ∧ W_.cell? ⟨ad.block, ad.off + 4, none⟩ = some (.slice A4' x.kids[0].names.length c4') ∧ W_.cell? ⟨ad.block, ad.off + 5, none⟩ = some (.slice B5 x.kids[0].kids.length d5) ∧ W_.cell? ⟨ad.block, ad.off + 6, none⟩ = some (.slice B6 x.kids[0].alts.length d6)) (first | go_keep | exact KEEP.out _ _ _ (by assumption))
    (first
      | (refine step_strL (Out.drew H1.out) (by rfl) _ _ (by rfl) ⟨#[40, 99, 97, 115, 101, 32]⟩ (by rfl) (by rfl) L1 ?_; intro v2 w2 h2 l2)
      | (go_at_call 19; refine (FmtSaid.call (IH.out _ (List.getElem_mem hk0)) (WfCs_mem HW.out _ (List.getElem_mem hk0)) (HS.out _ (List.getElem_mem hk0)) L0 HKk.out h2 BSW.out hSb HOB.out L2).mono ?_; rintro e w3 ⟨v3, rfl, h3, l3⟩))
  rename_i hheld
  obtain ⟨p1, hp1, hp1l⟩ : ∃ p, p = xs ++ bytesOf ⟨#[40, 99, 97, 115, 101, 32]⟩ ++ fmt x.kids[0] ∧ p.length = xs.length + 6 + (fmt x.kids[0]).length := ⟨_, rfl, by
    have e3 : (⟨#[40, 99, 97, 115, 101, 32]⟩ : ByteArray).size = 6 := rfl
    simp only [List.length_append, bytesOf_length, e3]⟩
  rw [← hp1] at h3
  have hp1b : p1.length ≤ xs.length + 6 + (fmt x.kids[0]).length := by omega
  have HP1 := Lib.hid hp1
  have H3 := Lib.hid h3
  clear hheld h2 l2 h3 l3 hp1 hp1l p5 g0 g1 g2 g3 g4 g5 g6 KEEP HKk
  have q1 := (H3.out.blk BP1.out HNE.out).cell (j := 1) rfl
  go_wp2_with (at_builtin; refine app_str H3.out rfl _ _ rfl ⟨#[32, 111, 102, 32]⟩ rfl rfl (by show p1.length + 4 ≤ _; omega) ?_)
  intro v4 w4 h4
  have H4 := Lib.hid (show Out base W1 o w4 v4 (p1 ++ bytesOf ⟨#[32, 111, 102, 32]⟩) from h4)
  clear h4 q1
  have q1 := (H4.out.blk BP1.out HNE.out).cell (j := 1) rfl
  go_wp2_with (at_builtin; refine app_str H4.out rfl _ _ rfl x.name rfl rfl (by rw [List.length_append, bytesOf_length]; show p1.length + 4 + _ ≤ _; omega) ?_)
  intro v5 w5 h5
  have H5 := Lib.hid (show Out base W1 o w5 v5 (p1 ++ bytesOf ⟨#[32, 111, 102, 32]⟩ ++ bytesOf x.name) from by simpa [List.append_assoc] using h5)
  clear h5 q1
  go_wp2_with (at_builtin; refine app_byte H5.out rfl _ _ rfl 32 rfl rfl (by rw [List.length_append, List.length_append, bytesOf_length, bytesOf_length]; show p1.length + 4 + _ ≤ _; omega) ?_)
  intro v6 w6 h6
  have H6 := Lib.hid (show Out base W1 o w6 v6 (p1 ++ bytesOf ⟨#[32, 111, 102, 32]⟩ ++ bytesOf x.name ++ [32]) from by simpa [List.append_assoc] using h6)
  clear h6
  go_wp2_with (at_builtin; refine app_str H6.out rfl _ _ rfl ⟨#[123, 32]⟩ rfl rfl (by rw [List.length_append, List.length_append, List.length_append, bytesOf_length, bytesOf_length]; show p1.length + 4 + _ + 1 + 2 ≤ _; omega) ?_)
  intro v7 w7 h7
  obtain ⟨p2, hp2, hp2l⟩ : ∃ p, p = p1 ++ bytesOf ⟨#[32, 111, 102, 32]⟩ ++ bytesOf x.name ++ [32] ++ bytesOf ⟨#[123, 32]⟩ ∧ p.length = p1.length + 4 + x.name.size + 1 + 2 := ⟨_, rfl, by
    have e1 : (⟨#[32, 111, 102, 32]⟩ : ByteArray).size = 4 := rfl
    have e3 : (⟨#[123, 32]⟩ : ByteArray).size = 2 := rfl
    simp only [List.length_append, bytesOf_length, e1, e3, List.length_cons, List.length_nil]⟩
  have H7 := Lib.hid (show Out base W1 o w7 v7 p2 from by rw [hp2]; simpa [List.append_assoc] using h7)
  have hp2b : p2.length ≤ xs.length + (13 + x.name.size) + (fmt x.kids[0]).length := by omega
  have HP2 := Lib.hid hp2
  clear h7 hp2 hp2l
  go_wp2_with fail
  go_loopw [0, 8] (fun v i wr => ∃ k : Nat, k ≤ x.alts.length ∧ i = .int .i64 k ∧ Hid (Out base W1 o wr v (p2 ++ joins [59, 32] true ((List.zipWith altPart x.alts (x.alts.map (fun a : AltT => fmt a.body))).take k)))) (fun _ i _ => x.alts.length - (intOf i).toNat)
  case atStart => exact ⟨0, Nat.zero_le _, rfl, Lib.hid (by simpa [joins] using H7.out)⟩
  case round =>
    obtain ⟨k, hk, rfl, HQ⟩ := hrel
    have HBP := Lib.hid (HQ.out.blk BP1.out HNE.out)
    have p6 := HBP.out.cell (j := 6) rfl
    by_cases hlt : k < x.alts.length
    · have hJ := joins_take_len [59, 32] (List.zipWith altPart x.alts (x.alts.map (fun a : AltT => fmt a.body))) (k + 1) true
      have hsn := zipAlt_take x.alts (x.alts.map (fun a : AltT => fmt a.body)) k hlt (by rw [List.length_map]; exact hlt)
      rw [List.getElem_map] at hsn
      rw [hsn, joins_snoc] at hJ
      have HSN := Lib.hid hsn; clear hsn
      have hat : (altsText x).length = (joins [59, 32] true (List.zipWith altPart x.alts (x.alts.map (fun a : AltT => fmt a.body)))).length := rfl
      simp only [List.length_append, altPart, bytesOf_length, List.length_cons, List.length_nil] at hJ
      by_cases hz : k = 0
      · subst hz
        rw [if_pos (by simp)] at hJ
        obtain ⟨ada, A1, c1, A3', c3', A4', c4', B5, d5, B6, d6, heada, hKa, hKb, l1n, gsn, g0, g1, g2, g3, g4, g5, g6, g7, g8⟩ := elem_alt G6.out 0 hlt
        subst heada
        rw [Nat.zero_mul, add_nought] at g0 g1 g2 g3 g4 g5 g6 g7 g8
        have KEEPA := Lib.hid (show ∀ (W_ : World) (v : Value) (ys : List Int), Out base W1 o W_ v ys → (W_.cell? ⟨w.heap.size, 6, none⟩ = some (.slice (some ada) x.alts.length c6) ∧ W_.cell? ada = some (.string x.alts[0].con) ∧ W_.cell? ⟨ada.block, ada.off + 1, none⟩ = some (.slice A1 x.alts[0].names.length c1) ∧ W_.cell? ⟨ada.block, ada.off + 2, none⟩ = some (.int .i64 x.alts[0].body.kind) ∧ W_.cell? ⟨ada.block, ada.off + 3, none⟩ = some (.string x.alts[0].body.name) ∧ W_.cell? ⟨ada.block, ada.off + 4, none⟩ = some (.bool x.alts[0].body.minus) ∧ W_.cell? ⟨ada.block, ada.off + 5, none⟩ = some (.slice A3' x.alts[0].body.limbs.length c3') ∧ W_.cell? ⟨ada.block, ada.off + 6, none⟩ = some (.slice A4' x.alts[0].body.names.length c4') ∧ W_.cell? ⟨ada.block, ada.off + 7, none⟩ = some (.slice B5 x.alts[0].body.kids.length d5) ∧ W_.cell? ⟨ada.block, ada.off + 8, none⟩ = some (.slice B6 x.alts[0].body.alts.length d6)) from fun W_ v ys h => by
          have hb := BSW.out.trans ((h.belowB HOB.out).mono hSb)
          have hq := h.blk BP1.out HNE.out
          exact ⟨hq.cell (j := 6) rfl, cell_later' hb g0, cell_later' hb g1, cell_later' hb g2, cell_later' hb g3, cell_later' hb g4, cell_later' hb g5, cell_later' hb g6, cell_later' hb g7, cell_later' hb g8⟩)
        have GS := Lib.hid gsn; have HKB := Lib.hid hKb
        clear hKa hKb gsn g0 g1 g2 g3 g4 g5 g6 g7 g8 p6
        obtain ⟨p6, g0, g1, g2, g3, g4, g5, g6, g7, g8⟩ := KEEPA.out _ _ _ HQ.out
        have hab := mem_abulks (List.getElem_mem hlt)
        rw [abulk_eq] at hab
        have hbks := HBK.out
        rw [bulk_eq] at hbks
        have hnl := len_strsB x.alts[0].names
        have hnl2 : x.alts[0].names.length ≤ 1048576 := by omega
        have L0 : bulk x.alts[0].body ≤ 1048576 := by omega
        clear hab hbks hnl
        go_wp2_with (at_builtin; refine app_str HQ.out rfl _ _ rfl x.alts[0].con rfl rfl (by simp only [List.length_append, List.length_cons, List.length_nil] at hJ ⊢; omega) ?_)
        intro v5 w5 h5
        obtain ⟨q2, hq2, hq2l⟩ : ∃ p, p = (p2 ++ joins [59, 32] true ((List.zipWith altPart x.alts (x.alts.map (fun a : AltT => fmt a.body))).take 0)) ++ bytesOf x.alts[0].con ∧ p.length = ((p2 ++ joins [59, 32] true ((List.zipWith altPart x.alts (x.alts.map (fun a : AltT => fmt a.body))).take 0))).length + x.alts[0].con.size := ⟨_, rfl, by rw [List.length_append, bytesOf_length]⟩
        have H5 := Lib.hid (show Out base W1 o w5 v5 q2 from by rw [hq2]; simpa [List.append_assoc] using h5)
        simp only [List.length_append, List.length_cons, List.length_nil] at hq2l hJ
        have hq2b : q2.length + (joins [32] false (x.alts[0].names.map bytesOf)).length + 4 + (fmt x.alts[0].body).length ≤ p2.length + (altsText x).length := by omega
        have HQ2 := Lib.hid hq2
        clear h5 hq2 hq2l hJ p6 g0 g1 g2 g3 g4 g5 g6 g7 g8
        obtain ⟨p6, g0, g1, g2, g3, g4, g5, g6, g7, g8⟩ := KEEPA.out _ _ _ H5.out
        go_wp2_with fail
        clear p6 g0 g1 g2 g3 g4 g5 g6 g7 g8
        go_loopw [0, 9] (fun v i wq => ∃ m : Nat, m ≤ x.alts[0].names.length ∧ i = .int .i64 m ∧ Hid (Out base W1 o wq v (q2 ++ joins [32] false ((x.alts[0].names.map bytesOf).take m)))) (fun _ i _ => x.alts[0].names.length - (intOf i).toNat)
        case atStart => exact ⟨0, Nat.zero_le _, rfl, Lib.hid (by simpa [joins] using H5.out)⟩
        case round =>
          obtain ⟨m, hm, rfl, HM⟩ := hrel
          obtain ⟨p6, g0, g1, g2, g3, g4, g5, g6, g7, g8⟩ := KEEPA.out _ _ _ HM.out
          by_cases hmt : m < x.alts[0].names.length
          · have hJ2 := joins_take_len [32] (x.alts[0].names.map bytesOf) (m + 1) false
            have hsn2 : (x.alts[0].names.map bytesOf).take (m + 1) = (x.alts[0].names.map bytesOf).take m ++ [bytesOf x.alts[0].names[m]] := by rw [take_snoc' (by rw [List.length_map]; exact hmt), List.getElem_map]
            rw [hsn2, joins_snoc, if_neg (fun h => by cases h.1)] at hJ2
            have HSN2 := Lib.hid hsn2; clear hsn2
            simp only [List.length_append, bytesOf_length, List.length_cons, List.length_nil] at hJ2
            obtain ⟨an, hean, gn⟩ := elem_str GS.out m hmt
            subst hean
            have KEEPN := Lib.hid (show ∀ (W_ : World) (v : Value) (ys : List Int), Out base W1 o W_ v ys → (W_.cell? ⟨w.heap.size, 6, none⟩ = some (.slice (some ada) x.alts.length c6) ∧ W_.cell? ⟨ada.block, ada.off + 1, none⟩ = some (.slice (some an) x.alts[0].names.length c1) ∧ W_.cell? (an.add m) = some (.string x.alts[0].names[m])) from fun W_ v ys h => by
              have hb := BSW.out.trans ((h.belowB HOB.out).mono hSb)
              obtain ⟨q6, r0, r1, -⟩ := KEEPA.out _ _ _ h
              exact ⟨q6, r1, cell_later' hb gn⟩)
            clear gn g0 g2 g3 g4 g5 g6 g7 g8 p6 g1
            obtain ⟨p6, g1, gn⟩ := KEEPN.out _ _ _ HM.out
            have LM1 : (q2 ++ joins [32] false ((x.alts[0].names.map bytesOf).take m)).length ≤ 1000000000 := by rw [List.length_append]; omega
            have LM2 : (q2 ++ joins [32] false ((x.alts[0].names.map bytesOf).take m) ++ [32]).length + x.alts[0].names[m].size ≤ 1000000000 := by
              simp only [List.length_append, List.length_cons, List.length_nil]; omega
            go_wp2_with fail
            go_region_held3 (fun W_ => W_.cell? ⟨w.heap.size, 6, none⟩ = some (.slice (some ada) x.alts.length c6) ∧ W_.cell? ⟨ada.block, ada.off + 1, none⟩ = some (.slice (some an) x.alts[0].names.length c1) ∧ W_.cell? (an.add m) = some (.string x.alts[0].names[m])) (first | go_keep | exact KEEPN.out _ _ _ (by assumption))
              (first
                | (refine step_byteL (Out.alloc (Out.drew HM.out) _) (by rfl) _ _ (by rfl) 32 _ (by rfl) (by rfl) (Lit.new (Out.drew HM.out) 32).cell LM1 ?_; intro v6 w6 h6 l6)
                | (refine step_strL h6 (by rfl) _ _ (by rfl) x.alts[0].names[m] (by rfl) (by rfl) LM2 ?_; intro v7 w7 h7 l7))
            rename_i hheld
            have H7 := Lib.hid h7
            clear hheld h6 l6 h7 l7 p6 g1 gn
            go_wp2
            go_roundw
            case rel => exact ⟨m + 1, by omega, by go_num, Lib.hid (by have := H7.out; rw [HSN2.out, joins_snoc, if_neg (fun h => by cases h.1)]; simpa [List.append_assoc] using this)⟩
            case measure => simp [intOf]; omega
          · have hmm : m = x.alts[0].names.length := by omega
            have hq := HM.out
            rw [hmm, List.take_of_length_le (by rw [List.length_map]; exact Nat.le_refl _)] at hq
            have HM2 := Lib.hid hq; clear hq hmm
            have LM1 : (q2 ++ joins [32] false (x.alts[0].names.map bytesOf)).length + (⟨#[32, 45, 62, 32]⟩ : ByteArray).size ≤ 1000000000 := by
              have e3 : (⟨#[32, 45, 62, 32]⟩ : ByteArray).size = 4 := rfl
              rw [List.length_append, e3]; omega
            have LM2 : (q2 ++ joins [32] false (x.alts[0].names.map bytesOf) ++ bytesOf ⟨#[32, 45, 62, 32]⟩).length + (fmt x.alts[0].body).length ≤ 1000000000 := by
              have e3 : (⟨#[32, 45, 62, 32]⟩ : ByteArray).size = 4 := rfl
              rw [List.length_append, List.length_append, bytesOf_length, e3]; omega
            go_wp2_with fail
            go_region_held3 (fun W_ => W_.cell? ⟨w.heap.size, 6, none⟩ = some (.slice (some ada) x.alts.length c6) ∧ W_.cell? ada = some (.string x.alts[0].con) ∧ W_.cell? ⟨ada.block, ada.off + 1, none⟩ = some (.slice A1 x.alts[0].names.length c1) ∧ W_.cell? ⟨ada.block, ada.off + 2, none⟩ = some (.int .i64 x.alts[0].body.kind) ∧ W_.cell? ⟨ada.block, ada.off + 3, none⟩ = some (.string x.alts[0].body.name) ∧ W_.cell? ⟨ada.block, ada.off + 4, none⟩ = some (.bool x.alts[0].body.minus) ∧ W_.cell? ⟨ada.block, ada.off + 5, none⟩ = some (.slice A3' x.alts[0].body.limbs.length c3') ∧ W_.cell? ⟨ada.block, ada.off + 6, none⟩ = some (.slice A4' x.alts[0].body.names.length c4') ∧ W_.cell? ⟨ada.block, ada.off + 7, none⟩ = some (.slice B5 x.alts[0].body.kids.length d5) ∧ W_.cell? ⟨ada.block, ada.off + 8, none⟩ = some (.slice B6 x.alts[0].body.alts.length d6)) (first | go_keep | exact KEEPA.out _ _ _ (by assumption))
              (first
                | (refine step_strL (Out.drew HM2.out) (by rfl) _ _ (by rfl) ⟨#[32, 45, 62, 32]⟩ (by rfl) (by rfl) LM1 ?_; intro v6 w6 h6 l6)
                | (go_at_call 19; refine (FmtSaid.call (IHA.out _ (List.getElem_mem hlt)) (WfAs_mem HWA.out _ (List.getElem_mem hlt)) (HSA.out _ (List.getElem_mem hlt)) L0 HKB.out h6 BSW.out hSb HOB.out LM2).mono ?_; rintro e w8 ⟨v8, rfl, h8, l8⟩))
            rename_i hheld
            have H8 := Lib.hid h8
            clear hheld h6 l6 h8 l8 p6 g0 g1 g2 g3 g4 g5 g6 g7 g8
            go_wp2
            go_roundw
            case rel => exact ⟨0 + 1, by omega, by go_num, Lib.hid (by have := H8.out; rw [HQ2.out, show bytesOf ⟨#[32, 45, 62, 32]⟩ = ([32, 45, 62, 32] : List Int) from rfl] at this; rw [HSN.out, joins_snoc, if_pos (by simp)]; simpa [altPart, joins, List.append_assoc] using this)⟩
            case measure => simp [intOf]; omega
      · have q0 : decide (0 < (k : Int)) = true := decide_eq_true (by omega)
        have hne : ¬ (((List.zipWith altPart x.alts (x.alts.map (fun a : AltT => fmt a.body))).take k) = []) := by intro h; have := congrArg List.length h; rw [List.length_take, List.length_zipWith, List.length_map, List.length_nil] at this; omega
        rw [if_neg (fun h => hne h.2)] at hJ
        have HNE0 := Lib.hid hne; clear hne
        go_wp2_with (at_builtin; refine app_str HQ.out rfl _ _ rfl ⟨#[59, 32]⟩ rfl rfl (by show _ + 2 ≤ _; simp only [List.length_append, List.length_cons, List.length_nil] at hJ ⊢; omega) ?_)
        intro v4 w4 h4
        rw [show bytesOf ⟨#[59, 32]⟩ = ([59, 32] : List Int) from rfl] at h4
        have H4 := Lib.hid (show Out base W1 o w4 v4 (p2 ++ joins [59, 32] true ((List.zipWith altPart x.alts (x.alts.map (fun a : AltT => fmt a.body))).take k) ++ [59, 32]) from by simpa [List.append_assoc] using h4)
        clear h4 p6 q0
        obtain ⟨ada, A1, c1, A3', c3', A4', c4', B5, d5, B6, d6, heada, hKa, hKb, l1n, gsn, g0, g1, g2, g3, g4, g5, g6, g7, g8⟩ := elem_alt G6.out k hlt
        subst heada
        have KEEPA := Lib.hid (show ∀ (W_ : World) (v : Value) (ys : List Int), Out base W1 o W_ v ys → (W_.cell? ⟨w.heap.size, 6, none⟩ = some (.slice (some ada) x.alts.length c6) ∧ W_.cell? (ada.add (k * 9)) = some (.string x.alts[k].con) ∧ W_.cell? ⟨(ada.add (k * 9)).block, (ada.add (k * 9)).off + 1, none⟩ = some (.slice A1 x.alts[k].names.length c1) ∧ W_.cell? ⟨(ada.add (k * 9)).block, (ada.add (k * 9)).off + 2, none⟩ = some (.int .i64 x.alts[k].body.kind) ∧ W_.cell? ⟨(ada.add (k * 9)).block, (ada.add (k * 9)).off + 3, none⟩ = some (.string x.alts[k].body.name) ∧ W_.cell? ⟨(ada.add (k * 9)).block, (ada.add (k * 9)).off + 4, none⟩ = some (.bool x.alts[k].body.minus) ∧ W_.cell? ⟨(ada.add (k * 9)).block, (ada.add (k * 9)).off + 5, none⟩ = some (.slice A3' x.alts[k].body.limbs.length c3') ∧ W_.cell? ⟨(ada.add (k * 9)).block, (ada.add (k * 9)).off + 6, none⟩ = some (.slice A4' x.alts[k].body.names.length c4') ∧ W_.cell? ⟨(ada.add (k * 9)).block, (ada.add (k * 9)).off + 7, none⟩ = some (.slice B5 x.alts[k].body.kids.length d5) ∧ W_.cell? ⟨(ada.add (k * 9)).block, (ada.add (k * 9)).off + 8, none⟩ = some (.slice B6 x.alts[k].body.alts.length d6)) from fun W_ v ys h => by
          have hb := BSW.out.trans ((h.belowB HOB.out).mono hSb)
          have hq := h.blk BP1.out HNE.out
          exact ⟨hq.cell (j := 6) rfl, cell_later' hb g0, cell_later' hb g1, cell_later' hb g2, cell_later' hb g3, cell_later' hb g4, cell_later' hb g5, cell_later' hb g6, cell_later' hb g7, cell_later' hb g8⟩)
        have GS := Lib.hid gsn; have HKB := Lib.hid hKb
        clear hKa hKb gsn g0 g1 g2 g3 g4 g5 g6 g7 g8 
        obtain ⟨p6, g0, g1, g2, g3, g4, g5, g6, g7, g8⟩ := KEEPA.out _ _ _ H4.out
        have hab := mem_abulks (List.getElem_mem hlt)
        rw [abulk_eq] at hab
        have hbks := HBK.out
        rw [bulk_eq] at hbks
        have hnl := len_strsB x.alts[k].names
        have hnl2 : x.alts[k].names.length ≤ 1048576 := by omega
        have L0 : bulk x.alts[k].body ≤ 1048576 := by omega
        clear hab hbks hnl
        go_wp2_with (at_builtin; refine app_str H4.out rfl _ _ rfl x.alts[k].con rfl rfl (by simp only [List.length_append, List.length_cons, List.length_nil] at hJ ⊢; omega) ?_)
        intro v5 w5 h5
        obtain ⟨q2, hq2, hq2l⟩ : ∃ p, p = (p2 ++ joins [59, 32] true ((List.zipWith altPart x.alts (x.alts.map (fun a : AltT => fmt a.body))).take k) ++ [59, 32]) ++ bytesOf x.alts[k].con ∧ p.length = ((p2 ++ joins [59, 32] true ((List.zipWith altPart x.alts (x.alts.map (fun a : AltT => fmt a.body))).take k) ++ [59, 32])).length + x.alts[k].con.size := ⟨_, rfl, by rw [List.length_append, bytesOf_length]⟩
        have H5 := Lib.hid (show Out base W1 o w5 v5 q2 from by rw [hq2]; simpa [List.append_assoc] using h5)
        simp only [List.length_append, List.length_cons, List.length_nil] at hq2l hJ
        have hq2b : q2.length + (joins [32] false (x.alts[k].names.map bytesOf)).length + 4 + (fmt x.alts[k].body).length ≤ p2.length + (altsText x).length := by omega
        have HQ2 := Lib.hid hq2
        clear h5 hq2 hq2l hJ p6 g0 g1 g2 g3 g4 g5 g6 g7 g8
        obtain ⟨p6, g0, g1, g2, g3, g4, g5, g6, g7, g8⟩ := KEEPA.out _ _ _ H5.out
        go_wp2_with fail
        clear p6 g0 g1 g2 g3 g4 g5 g6 g7 g8
        go_loopw [0, 9] (fun v i wq => ∃ m : Nat, m ≤ x.alts[k].names.length ∧ i = .int .i64 m ∧ Hid (Out base W1 o wq v (q2 ++ joins [32] false ((x.alts[k].names.map bytesOf).take m)))) (fun _ i _ => x.alts[k].names.length - (intOf i).toNat)
        case atStart => exact ⟨0, Nat.zero_le _, rfl, Lib.hid (by simpa [joins] using H5.out)⟩
        case round =>
          obtain ⟨m, hm, rfl, HM⟩ := hrel
          obtain ⟨p6, g0, g1, g2, g3, g4, g5, g6, g7, g8⟩ := KEEPA.out _ _ _ HM.out
          by_cases hmt : m < x.alts[k].names.length
          · have hJ2 := joins_take_len [32] (x.alts[k].names.map bytesOf) (m + 1) false
            have hsn2 : (x.alts[k].names.map bytesOf).take (m + 1) = (x.alts[k].names.map bytesOf).take m ++ [bytesOf x.alts[k].names[m]] := by rw [take_snoc' (by rw [List.length_map]; exact hmt), List.getElem_map]
            rw [hsn2, joins_snoc, if_neg (fun h => by cases h.1)] at hJ2
            have HSN2 := Lib.hid hsn2; clear hsn2
            simp only [List.length_append, bytesOf_length, List.length_cons, List.length_nil] at hJ2
            obtain ⟨an, hean, gn⟩ := elem_str GS.out m hmt
            subst hean
            have KEEPN := Lib.hid (show ∀ (W_ : World) (v : Value) (ys : List Int), Out base W1 o W_ v ys → (W_.cell? ⟨w.heap.size, 6, none⟩ = some (.slice (some ada) x.alts.length c6) ∧ W_.cell? ⟨(ada.add (k * 9)).block, (ada.add (k * 9)).off + 1, none⟩ = some (.slice (some an) x.alts[k].names.length c1) ∧ W_.cell? (an.add m) = some (.string x.alts[k].names[m])) from fun W_ v ys h => by
              have hb := BSW.out.trans ((h.belowB HOB.out).mono hSb)
              obtain ⟨q6, r0, r1, -⟩ := KEEPA.out _ _ _ h
              exact ⟨q6, r1, cell_later' hb gn⟩)
            clear gn g0 g2 g3 g4 g5 g6 g7 g8 p6 g1
            obtain ⟨p6, g1, gn⟩ := KEEPN.out _ _ _ HM.out
            have LM1 : (q2 ++ joins [32] false ((x.alts[k].names.map bytesOf).take m)).length ≤ 1000000000 := by rw [List.length_append]; omega
            have LM2 : (q2 ++ joins [32] false ((x.alts[k].names.map bytesOf).take m) ++ [32]).length + x.alts[k].names[m].size ≤ 1000000000 := by
              simp only [List.length_append, List.length_cons, List.length_nil]; omega
            go_wp2_with fail
            go_region_held3 (fun W_ => W_.cell? ⟨w.heap.size, 6, none⟩ = some (.slice (some ada) x.alts.length c6) ∧ W_.cell? ⟨(ada.add (k * 9)).block, (ada.add (k * 9)).off + 1, none⟩ = some (.slice (some an) x.alts[k].names.length c1) ∧ W_.cell? (an.add m) = some (.string x.alts[k].names[m])) (first | go_keep | exact KEEPN.out _ _ _ (by assumption))
              (first
                | (refine step_byteL (Out.alloc (Out.drew HM.out) _) (by rfl) _ _ (by rfl) 32 _ (by rfl) (by rfl) (Lit.new (Out.drew HM.out) 32).cell LM1 ?_; intro v6 w6 h6 l6)
                | (refine step_strL h6 (by rfl) _ _ (by rfl) x.alts[k].names[m] (by rfl) (by rfl) LM2 ?_; intro v7 w7 h7 l7))
            rename_i hheld
            have H7 := Lib.hid h7
            clear hheld h6 l6 h7 l7 p6 g1 gn
            go_wp2
            go_roundw
            case rel => exact ⟨m + 1, by omega, by go_num, Lib.hid (by have := H7.out; rw [HSN2.out, joins_snoc, if_neg (fun h => by cases h.1)]; simpa [List.append_assoc] using this)⟩
            case measure => simp [intOf]; omega
          · have hmm : m = x.alts[k].names.length := by omega
            have hq := HM.out
            rw [hmm, List.take_of_length_le (by rw [List.length_map]; exact Nat.le_refl _)] at hq
            have HM2 := Lib.hid hq; clear hq hmm
            have LM1 : (q2 ++ joins [32] false (x.alts[k].names.map bytesOf)).length + (⟨#[32, 45, 62, 32]⟩ : ByteArray).size ≤ 1000000000 := by
              have e3 : (⟨#[32, 45, 62, 32]⟩ : ByteArray).size = 4 := rfl
              rw [List.length_append, e3]; omega
            have LM2 : (q2 ++ joins [32] false (x.alts[k].names.map bytesOf) ++ bytesOf ⟨#[32, 45, 62, 32]⟩).length + (fmt x.alts[k].body).length ≤ 1000000000 := by
              have e3 : (⟨#[32, 45, 62, 32]⟩ : ByteArray).size = 4 := rfl
              rw [List.length_append, List.length_append, bytesOf_length, e3]; omega
            go_wp2_with fail
            go_region_held3 (fun W_ => W_.cell? ⟨w.heap.size, 6, none⟩ = some (.slice (some ada) x.alts.length c6) ∧ W_.cell? (ada.add (k * 9)) = some (.string x.alts[k].con) ∧ W_.cell? ⟨(ada.add (k * 9)).block, (ada.add (k * 9)).off + 1, none⟩ = some (.slice A1 x.alts[k].names.length c1) ∧ W_.cell? ⟨(ada.add (k * 9)).block, (ada.add (k * 9)).off + 2, none⟩ = some (.int .i64 x.alts[k].body.kind) ∧ W_.cell? ⟨(ada.add (k * 9)).block, (ada.add (k * 9)).off + 3, none⟩ = some (.string x.alts[k].body.name) ∧ W_.cell? ⟨(ada.add (k * 9)).block, (ada.add (k * 9)).off + 4, none⟩ = some (.bool x.alts[k].body.minus) ∧ W_.cell? ⟨(ada.add (k * 9)).block, (ada.add (k * 9)).off + 5, none⟩ = some (.slice A3' x.alts[k].body.limbs.length c3') ∧ W_.cell? ⟨(ada.add (k * 9)).block, (ada.add (k * 9)).off + 6, none⟩ = some (.slice A4' x.alts[k].body.names.length c4') ∧ W_.cell? ⟨(ada.add (k * 9)).block, (ada.add (k * 9)).off + 7, none⟩ = some (.slice B5 x.alts[k].body.kids.length d5) ∧ W_.cell? ⟨(ada.add (k * 9)).block, (ada.add (k * 9)).off + 8, none⟩ = some (.slice B6 x.alts[k].body.alts.length d6)) (first | go_keep | exact KEEPA.out _ _ _ (by assumption))
              (first
                | (refine step_strL (Out.drew HM2.out) (by rfl) _ _ (by rfl) ⟨#[32, 45, 62, 32]⟩ (by rfl) (by rfl) LM1 ?_; intro v6 w6 h6 l6)
                | (go_at_call 19; refine (FmtSaid.call (IHA.out _ (List.getElem_mem hlt)) (WfAs_mem HWA.out _ (List.getElem_mem hlt)) (HSA.out _ (List.getElem_mem hlt)) L0 HKB.out h6 BSW.out hSb HOB.out LM2).mono ?_; rintro e w8 ⟨v8, rfl, h8, l8⟩))
            rename_i hheld
            have H8 := Lib.hid h8
            clear hheld h6 l6 h8 l8 p6 g0 g1 g2 g3 g4 g5 g6 g7 g8
            go_wp2
            go_roundw
            case rel => exact ⟨k + 1, by omega, by go_num, Lib.hid (by have := H8.out; rw [HQ2.out, show bytesOf ⟨#[32, 45, 62, 32]⟩ = ([32, 45, 62, 32] : List Int) from rfl] at this; rw [HSN.out, joins_snoc, if_neg (fun h => HNE0.out h.2)]; simpa [altPart, joins, List.append_assoc] using this)⟩
            case measure => simp [intOf]; omega
    · have hkk : k = x.alts.length := by omega
      have hq := HQ.out
      rw [hkk, List.take_of_length_le (by rw [List.length_zipWith, List.length_map]; omega)] at hq
      have HQ2 := Lib.hid (show Out base W1 o wr _ (p2 ++ altsText x) from hq); clear hq hkk
      have p5 := HBP.out.cell (j := 5) rfl
      have EE := Lib.hid (show bytesOf ⟨#[32, 125, 41]⟩ = ([32, 125, 41] : List Int) from rfl)
      have ED := Lib.hid (show bytesOf ⟨#[95, 32, 45, 62, 32]⟩ = ([95, 32, 45, 62, 32] : List Int) from rfl)
      have ES := Lib.hid (show bytesOf ⟨#[59, 32]⟩ = ([59, 32] : List Int) from rfl)
      by_cases hk1 : 1 < x.kids.length
      · have hk22 : x.kids.length = 2 := by omega
        have qk : ((x.kids.length : Int) == 2) = true := beq_iff_eq.2 (by omega)
        have hce := getD_at 1 hk1
        by_cases ha : 0 < x.alts.length
        · have qa : decide (0 < (x.alts.length : Int)) = true := decide_eq_true (by omega)
          have hcl : caseEnd x = ([59, 32] : List Int) ++ ([95, 32, 45, 62, 32] : List Int) ++ fmt x.kids[1] ++ ([32, 125, 41] : List Int) := by unfold caseEnd; rw [if_pos hk22, if_pos ha, hce]
          rw [hcl] at hl
          simp only [List.length_append, List.length_cons, List.length_nil] at hl
          have HCL := Lib.hid hcl
          clear hcl hce hk22
          go_wp2_with (at_builtin; refine app_str HQ2.out rfl _ _ rfl ⟨#[59, 32]⟩ rfl rfl (by rw [List.length_append]; show p2.length + _ + 2 ≤ _; omega) ?_)
          intro v4 w4 h4
          rw [ES.out] at h4
          have H4 := Lib.hid (show Out base W1 o w4 v4 (p2 ++ altsText x ++ [59, 32]) from by simpa [List.append_assoc] using h4)
          clear h4 p5 p6 qk qa
          obtain ⟨adx, A3', c3', A4', c4', B5, d5, B6, d6, head, hKk, g0, g1, g2, g3, g4, g5, g6⟩ := elem_core G5.out 1 hk1
          injection head with head
          subst head
          rw [Nat.one_mul, add_seven] at g0 g1 g2 g3 g4 g5 g6
          dsimp only at g0 g1 g2 g3 g4 g5 g6
          have i1 : (1 : Int) < (x.kids.length : Int) := by omega
          have KEEP := Lib.hid (show ∀ (W_ : World) (v : Value) (ys : List Int), Out base W1 o W_ v ys → (W_.cell? ⟨w.heap.size, 5, none⟩ = some (.slice (some ad) x.kids.length c5) ∧ W_.cell? ⟨ad.block, ad.off + 7, none⟩ = some (.int .i64 x.kids[1].kind) ∧ W_.cell? ⟨ad.block, ad.off + 7 + 1, none⟩ = some (.string x.kids[1].name) ∧ W_.cell? ⟨ad.block, ad.off + 7 + 2, none⟩ = some (.bool x.kids[1].minus) ∧ W_.cell? ⟨ad.block, ad.off + 7 + 3, none⟩ = some (.slice A3' x.kids[1].limbs.length c3') ∧ W_.cell? ⟨ad.block, ad.off + 7 + 4, none⟩ = some (.slice A4' x.kids[1].names.length c4') ∧ W_.cell? ⟨ad.block, ad.off + 7 + 5, none⟩ = some (.slice B5 x.kids[1].kids.length d5) ∧ W_.cell? ⟨ad.block, ad.off + 7 + 6, none⟩ = some (.slice B6 x.kids[1].alts.length d6)) from fun W_ v ys h => by
            have hb := BSW.out.trans ((h.belowB HOB.out).mono hSb)
            have hq := h.blk BP1.out HNE.out
            exact ⟨hq.cell (j := 5) rfl, cell_later' hb g0, cell_later' hb g1, cell_later' hb g2, cell_later' hb g3, cell_later' hb g4, cell_later' hb g5, cell_later' hb g6⟩)
          have HKk := Lib.hid hKk
          clear hKk g0 g1 g2 g3 g4 g5 g6
          obtain ⟨p5, g0, g1, g2, g3, g4, g5, g6⟩ := KEEP.out _ _ _ H4.out
          have L0 : bulk x.kids[1] ≤ 1048576 := by have := mem_bulks (List.getElem_mem hk1); have := HBK.out; rw [bulk_eq] at this; omega
          have L1 : (p2 ++ altsText x ++ [59, 32]).length + (⟨#[95, 32, 45, 62, 32]⟩ : ByteArray).size ≤ 1000000000 := by
            have e3 : (⟨#[95, 32, 45, 62, 32]⟩ : ByteArray).size = 5 := rfl
            simp only [List.length_append, List.length_cons, List.length_nil, e3]; omega
          have L2 : (p2 ++ altsText x ++ [59, 32] ++ bytesOf ⟨#[95, 32, 45, 62, 32]⟩).length + (fmt x.kids[1]).length ≤ 1000000000 := by
            have e3 : (⟨#[95, 32, 45, 62, 32]⟩ : ByteArray).size = 5 := rfl
            simp only [List.length_append, List.length_cons, List.length_nil, bytesOf_length, e3]; omega
          go_wp2_with fail
          go_region_held3 (fun W_ => W_.cell? ⟨w.heap.size, 5, none⟩ = some (.slice (some ad) x.kids.length c5) ∧ W_.cell? ⟨ad.block, ad.off + 7, none⟩ = some (.int .i64 x.kids[1].kind) ∧ W_.cell? ⟨ad.block, ad.off + 7 + 1, none⟩ = some (.string x.kids[1].name) ∧ W_.cell? ⟨ad.block, ad.off + 7 + 2, none⟩ = some (.bool x.kids[1].minus) ∧ W_.cell? ⟨ad.block, ad.off + 7 + 3, none⟩ = some (.slice A3' x.kids[1].limbs.length c3') ∧ W_.cell? ⟨ad.block, ad.off + 7 + 4, none⟩ = some (.slice A4' x.kids[1].names.length c4') ∧ W_.cell? ⟨ad.block, ad.off + 7 + 5, none⟩ = some (.slice B5 x.kids[1].kids.length d5) ∧ W_.cell? ⟨ad.block, ad.off + 7 + 6, none⟩ = some (.slice B6 x.kids[1].alts.length d6)) (first | go_keep | exact KEEP.out _ _ _ (by assumption))
            (first
              | (refine step_strL (Out.drew H4.out) (by rfl) _ _ (by rfl) ⟨#[95, 32, 45, 62, 32]⟩ (by rfl) (by rfl) L1 ?_; intro v5 w5 h5 l5)
              | (go_at_call 19; refine (FmtSaid.call (IH.out _ (List.getElem_mem hk1)) (WfCs_mem HW.out _ (List.getElem_mem hk1)) (HS.out _ (List.getElem_mem hk1)) L0 HKk.out h5 BSW.out hSb HOB.out L2).mono ?_; rintro e w6 ⟨v6, rfl, h6, l6⟩))
          rename_i hheld
          have H6 := Lib.hid h6
          clear hheld h5 l5 h6 l6 p5 g0 g1 g2 g3 g4 g5 g6
          go_wp2_with (at_builtin; refine app_str H6.out rfl _ _ rfl ⟨#[32, 125, 41]⟩ rfl rfl (by have e3 : (⟨#[32, 125, 41]⟩ : ByteArray).size = 3 := rfl; have e4 : (⟨#[95, 32, 45, 62, 32]⟩ : ByteArray).size = 5 := rfl; simp only [List.length_append, List.length_cons, List.length_nil, bytesOf_length, e3, e4]; omega) ?_)
          intro v9 w9 h9
          have H9 := Lib.hid h9; clear h9
          go_wp2
          go_ret
          exact ⟨_, rfl, Out.pre HB1.out (by have := H9.out; rw [EE.out, ED.out, HP2.out, HP1.out] at this; rw [HCL.out]; simpa [E40, E32, E123, List.append_assoc] using this) hge⟩
        · have qa : decide (0 < (x.alts.length : Int)) = false := decide_eq_false (by omega)
          have hcl : caseEnd x = ([95, 32, 45, 62, 32] : List Int) ++ fmt x.kids[1] ++ ([32, 125, 41] : List Int) := by unfold caseEnd; rw [if_pos hk22, if_neg ha, hce]; rfl
          rw [hcl] at hl
          simp only [List.length_append, List.length_cons, List.length_nil] at hl
          have HCL := Lib.hid hcl
          clear hcl hce hk22
          go_wp2_with fail
          clear p5 p6 qk qa
          obtain ⟨adx, A3', c3', A4', c4', B5, d5, B6, d6, head, hKk, g0, g1, g2, g3, g4, g5, g6⟩ := elem_core G5.out 1 hk1
          injection head with head
          subst head
          rw [Nat.one_mul, add_seven] at g0 g1 g2 g3 g4 g5 g6
          dsimp only at g0 g1 g2 g3 g4 g5 g6
          have i1 : (1 : Int) < (x.kids.length : Int) := by omega
          have KEEP := Lib.hid (show ∀ (W_ : World) (v : Value) (ys : List Int), Out base W1 o W_ v ys → (W_.cell? ⟨w.heap.size, 5, none⟩ = some (.slice (some ad) x.kids.length c5) ∧ W_.cell? ⟨ad.block, ad.off + 7, none⟩ = some (.int .i64 x.kids[1].kind) ∧ W_.cell? ⟨ad.block, ad.off + 7 + 1, none⟩ = some (.string x.kids[1].name) ∧ W_.cell? ⟨ad.block, ad.off + 7 + 2, none⟩ = some (.bool x.kids[1].minus) ∧ W_.cell? ⟨ad.block, ad.off + 7 + 3, none⟩ = some (.slice A3' x.kids[1].limbs.length c3') ∧ W_.cell? ⟨ad.block, ad.off + 7 + 4, none⟩ = some (.slice A4' x.kids[1].names.length c4') ∧ W_.cell? ⟨ad.block, ad.off + 7 + 5, none⟩ = some (.slice B5 x.kids[1].kids.length d5) ∧ W_.cell? ⟨ad.block, ad.off + 7 + 6, none⟩ = some (.slice B6 x.kids[1].alts.length d6)) from fun W_ v ys h => by
            have hb := BSW.out.trans ((h.belowB HOB.out).mono hSb)
            have hq := h.blk BP1.out HNE.out
            exact ⟨hq.cell (j := 5) rfl, cell_later' hb g0, cell_later' hb g1, cell_later' hb g2, cell_later' hb g3, cell_later' hb g4, cell_later' hb g5, cell_later' hb g6⟩)
          have HKk := Lib.hid hKk
          clear hKk g0 g1 g2 g3 g4 g5 g6
          obtain ⟨p5, g0, g1, g2, g3, g4, g5, g6⟩ := KEEP.out _ _ _ HQ2.out
          have L0 : bulk x.kids[1] ≤ 1048576 := by have := mem_bulks (List.getElem_mem hk1); have := HBK.out; rw [bulk_eq] at this; omega
          have L1 : (p2 ++ altsText x).length + (⟨#[95, 32, 45, 62, 32]⟩ : ByteArray).size ≤ 1000000000 := by
            have e3 : (⟨#[95, 32, 45, 62, 32]⟩ : ByteArray).size = 5 := rfl
            simp only [List.length_append, List.length_cons, List.length_nil, e3]; omega
          have L2 : (p2 ++ altsText x ++ bytesOf ⟨#[95, 32, 45, 62, 32]⟩).length + (fmt x.kids[1]).length ≤ 1000000000 := by
            have e3 : (⟨#[95, 32, 45, 62, 32]⟩ : ByteArray).size = 5 := rfl
            simp only [List.length_append, List.length_cons, List.length_nil, bytesOf_length, e3]; omega
          go_region_held3 (fun W_ => W_.cell? ⟨w.heap.size, 5, none⟩ = some (.slice (some ad) x.kids.length c5) ∧ W_.cell? ⟨ad.block, ad.off + 7, none⟩ = some (.int .i64 x.kids[1].kind) ∧ W_.cell? ⟨ad.block, ad.off + 7 + 1, none⟩ = some (.string x.kids[1].name) ∧ W_.cell? ⟨ad.block, ad.off + 7 + 2, none⟩ = some (.bool x.kids[1].minus) ∧ W_.cell? ⟨ad.block, ad.off + 7 + 3, none⟩ = some (.slice A3' x.kids[1].limbs.length c3') ∧ W_.cell? ⟨ad.block, ad.off + 7 + 4, none⟩ = some (.slice A4' x.kids[1].names.length c4') ∧ W_.cell? ⟨ad.block, ad.off + 7 + 5, none⟩ = some (.slice B5 x.kids[1].kids.length d5) ∧ W_.cell? ⟨ad.block, ad.off + 7 + 6, none⟩ = some (.slice B6 x.kids[1].alts.length d6)) (first | go_keep | exact KEEP.out _ _ _ (by assumption))
            (first
              | (refine step_strL (Out.drew HQ2.out) (by rfl) _ _ (by rfl) ⟨#[95, 32, 45, 62, 32]⟩ (by rfl) (by rfl) L1 ?_; intro v5 w5 h5 l5)
              | (go_at_call 19; refine (FmtSaid.call (IH.out _ (List.getElem_mem hk1)) (WfCs_mem HW.out _ (List.getElem_mem hk1)) (HS.out _ (List.getElem_mem hk1)) L0 HKk.out h5 BSW.out hSb HOB.out L2).mono ?_; rintro e w6 ⟨v6, rfl, h6, l6⟩))
          rename_i hheld
          have H6 := Lib.hid h6
          clear hheld h5 l5 h6 l6 p5 g0 g1 g2 g3 g4 g5 g6
          go_wp2_with (at_builtin; refine app_str H6.out rfl _ _ rfl ⟨#[32, 125, 41]⟩ rfl rfl (by have e3 : (⟨#[32, 125, 41]⟩ : ByteArray).size = 3 := rfl; have e4 : (⟨#[95, 32, 45, 62, 32]⟩ : ByteArray).size = 5 := rfl; simp only [List.length_append, List.length_cons, List.length_nil, bytesOf_length, e3, e4]; omega) ?_)
          intro v9 w9 h9
          have H9 := Lib.hid h9; clear h9
          go_wp2
          go_ret
          exact ⟨_, rfl, Out.pre HB1.out (by have := H9.out; rw [EE.out, ED.out, HP2.out, HP1.out] at this; rw [HCL.out]; simpa [E40, E32, E123, List.append_assoc] using this) hge⟩
      · have qk : ((x.kids.length : Int) == 2) = false := beq_eq_false_iff_ne.2 (by omega)
        have hcl : caseEnd x = [32, 125, 41] := by unfold caseEnd; rw [if_neg (by omega)]; rfl
        have HCL := Lib.hid hcl
        rw [hcl] at hl
        simp only [List.length_append, List.length_cons, List.length_nil] at hl
        clear hcl
        go_wp2_with (at_builtin; refine app_str HQ2.out rfl _ _ rfl ⟨#[32, 125, 41]⟩ rfl rfl (by have e3 : (⟨#[32, 125, 41]⟩ : ByteArray).size = 3 := rfl; simp only [List.length_append, e3]; omega) ?_)
        intro v9 w9 h9
        have H9 := Lib.hid h9; clear h9
        go_wp2
        go_ret
        exact ⟨_, rfl, Out.pre HB1.out (by have := H9.out; rw [EE.out, HP2.out, HP1.out] at this; rw [HCL.out]; simpa [E40, E32, E123, List.append_assoc] using this) hge⟩
end
end Go.Proofs.Ytagfphlhahiplaa.C13
namespace Go.Proofs.Ytagfphlhahiplaa.C13
open Go.RowKit Go.Proofs.YtagfphlhahiplaaW.PrintWords Go.Proofs.Ytagfphlhahiplaa.PFnExactFormatCore
set_option linter.unusedVariables false
set_option linter.unusedSimpArgs false
theorem fmt_all (x : CoreT) : FmtSaid x := by
  refine coreInd FmtSaid (fun x ihk iha => ?_) x
  intro hw hsh hbk S w cs base o xs hK hB hSb hge hown hl
  obtain ⟨A3, c3, A4, c4, A5, c5, A6, c6, rfl, -⟩ := core_open hK
  rw [WfC_eq] at hw
  obtain ⟨hw1, hw2, hw3⟩ := hw
  rw [Shapes_eq] at hsh
  obtain ⟨hS, hks, has⟩ := hsh
  have hks := KShapes_iff.1 hks
  have has := AShapes_iff.1 has
  obtain ⟨b1, b2, b3, b4, b5⟩ := bounds hbk
  rw [fmt_eq] at hl ⊢
  obtain ⟨s1, s2, s3, s4, hkind⟩ := hS
  rcases hkind with ⟨hk, h1, h2⟩ | ⟨hk, h1, h2, h3⟩ | ⟨hk, h1, h2⟩ | ⟨hk, h1⟩ | ⟨hk, h1, h2, h3⟩ | ⟨hk, h1, h2⟩ | ⟨hk, h1, h2, h3, -⟩ | ⟨hk, h1, h2, h3, -⟩ | ⟨hk, h1, -⟩ | ⟨hk, h1, h2⟩
  · have e : fmtOf x.kind x.name x.minus x.limbs x.names x.kids x.alts (x.kids.map fmt) (x.alts.map (fun a => fmt a.body)) = bytesOf x.name := by unfold fmtOf; rw [if_pos hk]
    rw [e] at hl ⊢
    rw [bytesOf_length] at hl
    exact fmt_var hk hge hown hl
  · have e : fmtOf x.kind x.name x.minus x.limbs x.names x.kids x.alts (x.kids.map fmt) (x.alts.map (fun a => fmt a.body)) = decimal x.minus x.limbs := by unfold fmtOf; rw [hk]; rfl
    rw [e] at hl ⊢
    exact fmt_num hbk hk hw1 hK hB hge hown hl
  · have e : fmtOf x.kind x.name x.minus x.limbs x.names x.kids x.alts (x.kids.map fmt) (x.alts.map (fun a => fmt a.body)) = esc 39 x.name := by unfold fmtOf; rw [hk]; rfl
    rw [e] at hl ⊢
    exact fmt_chr hk b1 hge hown hl
  · by_cases hn : x.kids.length = 0
    · have e : fmtOf x.kind x.name x.minus x.limbs x.names x.kids x.alts (x.kids.map fmt) (x.alts.map (fun a => fmt a.body)) = bytesOf x.name := by unfold fmtOf; rw [hk, if_pos hn]; rfl
      rw [e] at hl ⊢
      rw [bytesOf_length] at hl
      exact fmt_bare4 hk hn hge hown hl
    · have e : fmtOf x.kind x.name x.minus x.limbs x.names x.kids x.alts (x.kids.map fmt) (x.alts.map (fun a => fmt a.body)) = [40] ++ bytesOf x.name ++ joins [32] false (x.kids.map fmt) ++ [41] := by unfold fmtOf; rw [hk, if_neg hn]; rfl
      rw [e] at hl ⊢
      exact fmt_app4 hbk hk (by omega) ihk hw2 hks hK hB hSb hge hown hl
  · have e : fmtOf x.kind x.name x.minus x.limbs x.names x.kids x.alts (x.kids.map fmt) (x.alts.map (fun a => fmt a.body)) = esc 34 x.name := by unfold fmtOf; rw [hk]; rfl
    rw [e] at hl ⊢
    exact fmt_txt hk b1 hge hown hl
  · have e : fmtOf x.kind x.name x.minus x.limbs x.names x.kids x.alts (x.kids.map fmt) (x.alts.map (fun a => fmt a.body)) = [40] ++ bytesOf x.name ++ joins [32] true (x.kids.map fmt) ++ [41] := by unfold fmtOf; rw [hk, if_neg (show ¬ x.kids.length = 0 by omega)]; rfl
    rw [e] at hl ⊢
    exact fmt_app5 hbk hk (by omega) ihk hw2 hks hK hB hSb hge hown hl
  · have hlt0 : 0 < x.kids.length := by omega
    have e : fmtOf x.kind x.name x.minus x.limbs x.names x.kids x.alts (x.kids.map fmt) (x.alts.map (fun a => fmt a.body)) = lamText x (fmt x.kids[0]) := by unfold fmtOf lamText; rw [hk, getD_zero hlt0]; rfl
    rw [e] at hl ⊢
    exact fmt_lam hbk hk hlt0 ihk hw2 hks hK hB hSb hge hown hl
  · have hlt : x.names.length < x.kids.length := by omega
    have e : fmtOf x.kind x.name x.minus x.limbs x.names x.kids x.alts (x.kids.map fmt) (x.alts.map (fun a => fmt a.body)) = letText x (fmt x.kids[x.names.length]) := by unfold fmtOf letText; rw [hk, getD_at _ hlt]; rfl
    rw [e] at hl ⊢
    exact fmt_let hbk hk hlt h3 ihk hw2 hks hK hB hSb hge hown hl
  · have hlt0 : 0 < x.kids.length := by omega
    have e : fmtOf x.kind x.name x.minus x.limbs x.names x.kids x.alts (x.kids.map fmt) (x.alts.map (fun a => fmt a.body)) = ([40, 99, 97, 115, 101, 32] : List Int) ++ fmt x.kids[0] ++ ([32, 111, 102, 32] : List Int) ++ (if x.name.size = 0 then [] else bytesOf x.name ++ [32]) ++ ([123, 32] : List Int) ++ altsText x ++ caseEnd x := by
      unfold fmtOf altsText caseEnd; rw [hk, getD_zero hlt0]; simp [List.append_assoc]
    rw [e] at hl ⊢
    by_cases hn : x.name.size = 0
    · rw [if_pos hn] at hl ⊢
      simp only [List.length_append, List.length_cons, List.length_nil] at hl
      have hr := fmt_case0 (S := S) (w := w) (base := base) (o := o) (xs := xs) hbk hk hlt0 (by omega) hn ihk iha hw2 hw3 hks has hK hB hSb hge hown (by omega)
      simpa only [List.append_assoc] using hr
    · rw [if_neg hn] at hl ⊢
      simp only [List.length_append, List.length_cons, List.length_nil, bytesOf_length] at hl
      have hr := fmt_case1 (S := S) (w := w) (base := base) (o := o) (xs := xs) hbk hk hlt0 (by omega) (by omega) ihk iha hw2 hw3 hks has hK hB hSb hge hown (by omega)
      simpa only [List.append_assoc] using hr
  · by_cases hn : x.kids.length = 0
    · have e : fmtOf x.kind x.name x.minus x.limbs x.names x.kids x.alts (x.kids.map fmt) (x.alts.map (fun a => fmt a.body)) = bytesOf x.name := by unfold fmtOf; rw [hk, if_pos hn]; rfl
      rw [e] at hl ⊢
      rw [bytesOf_length] at hl
      exact fmt_bare9 hk hn hge hown hl
    · have e : fmtOf x.kind x.name x.minus x.limbs x.names x.kids x.alts (x.kids.map fmt) (x.alts.map (fun a => fmt a.body)) = [40] ++ bytesOf x.name ++ joins [32] false (x.kids.map fmt) ++ [41] := by unfold fmtOf; rw [hk, if_neg hn]; rfl
      rw [e] at hl ⊢
      exact fmt_app9 hbk hk (by omega) ihk hw2 hks hK hB hSb hge hown hl
end Go.Proofs.Ytagfphlhahiplaa.C13
