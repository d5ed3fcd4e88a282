/- Part of the proof that FnExactFormatCore answers true at every term. -/
import Derived.Below
import Derived.ChangeArms
import Derived.ChangeOld
import Derived.DataReads
import Derived.OpenShut
import Derived.ProofKit
import Derived.ShutString
import Derived.Test.YtagfphlhahiplaaRows
import Derived.WalkKit
import Derived.Test.YtagfphlhahiplaaF9
namespace Go.Proofs.Ytagfphlhahiplaa.C13
open Go.RowKit Go.Proofs.YtagfphlhahiplaaW.PrintWords Go.Proofs.Ytagfphlhahiplaa.PFnExactFormatCore
set_option linter.unusedVariables false
set_option linter.unusedSimpArgs false
section
variable {S w : World} {x : CoreT} {p : Addr} {B b : Nat} {xs : List Int}
def caseText (x : CoreT) (t : List Int) : List Int := [40, 99, 97, 115, 101, 32] ++ t ++ [32, 111, 102, 32] ++ (if x.name.size = 0 then [] else bytesOf x.name ++ [32]) ++ [123, 32] ++ altsText x ++ caseEnd x
set_option maxRecDepth 100000 in
set_option maxHeartbeats 4000000 in
theorem fcase0 (hn : x.name.size = 0) (hk0 : 0 < x.kids.length) (hk2 : x.kids.length ≤ 2) (hw : WfC x) (hs : Shapes x) (hbk : bulk x ≤ 1048576) (ih : ∀ y ∈ x.kids, FcSaid y) (iha : ∀ a ∈ x.alts, FcSaid a.body) (hat : At S x p) (hB : Below S.heap.size S w) (hSB : S.heap.size ≤ B) (hb : Bld B b xs w) (hl : xs.length + (caseText x (fmt x.kids[0])).length ≤ 1000000000) :
    Calls Try.prog 61 #[.pointer (some ⟨b, 0, none⟩), .pointer (some p)] w fun e w' => FcPost (caseText x (fmt x.kids[0])) B b xs w e w' := by
  obtain ⟨A3, c3, A4, c4, A5, c5, A6, c6, hK, g0, g1, g2, g3, g4, g5, g6⟩ := hat
  obtain ⟨b1, b2, b3, b4, b5⟩ := bounds hbk
  have IH := Lib.hid ih; have IHA := Lib.hid iha
  have HW := Lib.hid (show ∀ y ∈ x.kids, WfC y by rw [WfC_eq] at hw; exact WfCs_mem hw.2.1)
  have HWA := Lib.hid (show ∀ a ∈ x.alts, WfC a.body by rw [WfC_eq] at hw; exact WfAs_mem hw.2.2)
  have HS := Lib.hid (show ∀ y ∈ x.kids, Shapes y by rw [Shapes_eq] at hs; exact KShapes_iff.1 hs.2.1)
  have HSA := Lib.hid (show ∀ a ∈ x.alts, Shapes a.body by rw [Shapes_eq] at hs; exact AShapes_iff.1 hs.2.2)
  have HBK := Lib.hid (show ∀ y ∈ x.kids, bulk y ≤ 1048576 from fun y hy => by have := mem_bulks hy; rw [bulk_eq] at hbk; omega)
  have HBKA := Lib.hid (show ∀ a ∈ x.alts, bulk a.body ≤ 1048576 from fun a ha => by have := mem_abulks ha; rw [abulk_eq] at this; rw [bulk_eq] at hbk; omega)
  have ABULK := Lib.hid (show ∀ a ∈ x.alts, a.names.length ≤ 1048576 from fun a ha => by have := mem_abulks ha; rw [abulk_eq] at this; rw [bulk_eq] at hbk; have := len_strsB a.names; omega)
  have KC := Lib.hid hK
  have KKC := Lib.hid (kids_of hK)
  have KAC := Lib.hid (alts_of hK)
  have CAPS := Lib.hid (caps_of hK)
  have Q1 := Lib.hid g1; have Q5 := Lib.hid g5; have Q6 := Lib.hid g6
  have HBS := Lib.hid hB
  have H1 := Lib.hid hb
  have K1 := Lib.hid (Kept.refl B b w)
  have hl2 := hl
  simp only [caseText, List.length_append, List.length_cons, List.length_nil] at hl2
  rw [if_pos hn, List.length_nil] at hl2
  have HL2 := Lib.hid hl2
  have HNM := Lib.hid hn
  clear ih iha hw hs hbk hK hb hB hl hl2 g0 g1 g2 g3 g4 g5 g6
  have e1 : x.name = ⟨#[]⟩ := size_zero.1 hn
  clear hn
  obtain ⟨ak, hA5, hA⟩ := at_elem KKC.out 0 hk0
  subst hA5
  rw [Nat.zero_mul, add_nought] at hA
  have HA := Lib.hid hA; clear hA
  have i0 : (0 : Int) < (x.kids.length : Int) := by omega
  go_enter Try.func61, Try.ntmps61
  go_wp2_with fail
  refine (writeStr B b _ ⟨#[40, 99, 97, 115, 101, 32]⟩ ([40, 99, 97, 115, 101, 32] : List Int) _ rfl H1.out (by have := HL2.out; simp only [List.length_append, List.length_cons, List.length_nil, bytesOf_length]; omega)).mono ?_
  rintro e w2 ⟨rfl, h, k⟩
  have H2 := Lib.hid h; have K2 := Lib.hid (K1.out.trans k)
  clear h k 
  have D2 := Lib.hid (HBS.out.trans (K2.out.below.mono hSB))
  have g5 := cell_later' D2.out Q5.out
  go_wp2_with fail
  refine (IH.out _ (List.getElem_mem hk0) (HW.out _ (List.getElem_mem hk0)) (HS.out _ (List.getElem_mem hk0)) (HBK.out _ (List.getElem_mem hk0)) S _ _ B b _ HA.out (HBS.out.trans (K2.out.below.mono hSB)) hSB H2.out (by have := HL2.out; simp only [List.length_append, List.length_cons, List.length_nil, bytesOf_length]; omega)).mono ?_
  rintro e w3 ⟨rfl, h, k⟩
  have H3 := Lib.hid h; have K3 := Lib.hid (K2.out.trans k)
  clear h k g5
  have D3 := Lib.hid (HBS.out.trans (K3.out.below.mono hSB))
  go_wp2_with fail
  refine (writeStr B b _ ⟨#[32, 111, 102, 32]⟩ ([32, 111, 102, 32] : List Int) _ rfl H3.out (by have := HL2.out; simp only [List.length_append, List.length_cons, List.length_nil, bytesOf_length]; omega)).mono ?_
  rintro e w4 ⟨rfl, h, k⟩
  have H4 := Lib.hid h; have K4 := Lib.hid (K3.out.trans k)
  clear h k 
  have D4 := Lib.hid (HBS.out.trans (K4.out.below.mono hSB))
  have g1 := cell_later' D4.out Q1.out
  rw [e1] at g1
  go_wp2_with fail
  refine (writeStr B b _ ⟨#[123, 32]⟩ ([123, 32] : List Int) _ rfl H4.out (by have := HL2.out; simp only [List.length_append, List.length_cons, List.length_nil, bytesOf_length]; omega)).mono ?_
  rintro e w5 ⟨rfl, h, k⟩
  have H5 := Lib.hid h; have K5 := Lib.hid (K4.out.trans k)
  clear h k g1
  obtain ⟨p2, hp2, hp2l⟩ : ∃ p2 : List Int, p2 = (xs ++ ([40, 99, 97, 115, 101, 32] : List Int) ++ fmt x.kids[0] ++ ([32, 111, 102, 32] : List Int) ++ ([123, 32] : List Int)) ∧ p2.length + (altsText x).length + (caseEnd x).length ≤ 1000000000 := ⟨_, rfl, (by have := HL2.out; simp only [List.length_append, List.length_cons, List.length_nil, bytesOf_length]; omega)⟩
  rw [← hp2] at H5
  have HP2 := Lib.hid hp2
  clear hp2
  have D5 := Lib.hid (HBS.out.trans (K5.out.below.mono hSB))
  have g6 := cell_later' D5.out Q6.out
  go_wp2_with fail
  clear g6
  go_loopw [38] (fun i wr => ∃ k : Nat, k ≤ x.alts.length ∧ i = .int .i64 k ∧ Hid (Bld B b (p2 ++ joins [59, 32] true ((List.zipWith altPart x.alts (x.alts.map (fun a : AltT => fmt a.body))).take k)) wr) ∧ Hid (Kept B b w wr)) (fun i _ => x.alts.length - (intOf i).toNat)
  case atStart => exact ⟨0, Nat.zero_le _, rfl, Lib.hid (by simpa [joins] using H5.out), K5⟩
  case round =>
    obtain ⟨k, hk, rfl, H20, K20⟩ := hrel
    by_cases hlt : k < x.alts.length
    · have hJ := joins_take_len [59, 32] (List.zipWith altPart x.alts (x.alts.map (fun a : AltT => fmt a.body))) (k + 1) true
      have hsn := zipAlt_take x.alts (x.alts.map (fun a : AltT => fmt a.body)) k hlt (by rw [List.length_map]; exact hlt)
      rw [List.getElem_map] at hsn
      have hsep : (if true = true ∧ (List.zipWith altPart x.alts (x.alts.map (fun a : AltT => fmt a.body))).take k = [] then [] else [59, 32] : List Int) = (if k = 0 then [] else [59, 32]) := by
        by_cases h0 : k = 0
        · subst h0; simp
        · rw [if_neg h0, if_neg]
          rintro ⟨_, h⟩
          have := congrArg List.length h
          rw [List.length_take, List.length_zipWith, List.length_map, List.length_nil] at this
          omega
      have hjs := joins_snoc [59, 32] (altPart x.alts[k] (fmt x.alts[k].body)) ((List.zipWith altPart x.alts (x.alts.map (fun a : AltT => fmt a.body))).take k) true
      rw [hsep] at hjs
      rw [hsn, hjs] at hJ
      rw [← hsn] at hjs
      have hJ2 : _ ≤ (altsText x).length := hJ
      clear hJ
      simp only [altPart, List.length_append, List.length_cons, List.length_nil, bytesOf_length] at hJ2
      have HJS := Lib.hid hjs; have HJL := Lib.hid hJ2
      obtain ⟨ada, A1, c1, A3', c3', A4', c4', A5', c5', A6', c6', hA6, -, hKb, hc1, hNs, a0, a1, a2, a3, a4, a5, a6, a7, a8⟩ := elem_alt KAC.out k hlt
      subst hA6
      have HAB := Lib.hid (show At S x.alts[k].body ⟨(ada.add (k * 9)).block, (ada.add (k * 9)).off + 2, none⟩ from ⟨A3', c3', A4', c4', A5', c5', A6', c6', hKb, a2, a3, a4, a5, a6, a7, a8⟩)
      have QA0 := Lib.hid a0; have QA1 := Lib.hid a1; have NSC := Lib.hid hNs
      have hnl2 : x.alts[k].names.length ≤ 1048576 := by
        have := HBKA.out x.alts[k] (List.getElem_mem hlt)
        have h3 := hNs.2.1
        have := ABULK.out x.alts[k] (List.getElem_mem hlt)
        omega
      clear hjs hJ2 hsn hsep hKb hNs a0 a1 a2 a3 a4 a5 a6 a7 a8
      have D20 := Lib.hid (HBS.out.trans (K20.out.below.mono hSB))
      have g6 := cell_later' D20.out Q6.out
      have gA0 := cell_later' D20.out QA0.out
      by_cases hk00 : k = 0
      · have hkd : decide (0 < (k : Int)) = false := by simp; omega
        have hkd2 : ¬ 0 < k := by omega
        have hkd3 : ¬ (0 : Int) < (k : Int) := by omega
        have HK00 := Lib.hid hk00
        clear hk00
        go_wp2_with fail
        refine (writeString B b _ x.alts[k].con _ H20.out (by have h2 := HJL.out; rw [if_pos HK00.out] at h2; simp only [List.length_append, List.length_cons, List.length_nil, bytesOf_length] at h2 ⊢; omega)).mono ?_
        rintro e w21 ⟨rfl, h, k⟩
        have H21 := Lib.hid h; have K21 := Lib.hid (K20.out.trans k)
        clear h k g6 gA0
        obtain ⟨q2, hq2, hq2l⟩ : ∃ q2 : List Int, q2 = p2 ++ joins [59, 32] true ((List.zipWith altPart x.alts (x.alts.map (fun a : AltT => fmt a.body))).take k) ++ bytesOf x.alts[k].con ∧ q2.length + (joins [32] false (x.alts[k].names.map bytesOf)).length + 4 + (fmt x.alts[k].body).length + (caseEnd x).length ≤ 1000000000 := ⟨_, rfl, (by have h2 := HJL.out; rw [if_pos HK00.out] at h2; simp only [List.length_append, List.length_cons, List.length_nil, bytesOf_length] at h2 ⊢; omega)⟩
        rw [← hq2] at H21
        have HQ2 := Lib.hid hq2
        clear hq2
        have D21 := Lib.hid (HBS.out.trans (K21.out.below.mono hSB))
        have gA1 := cell_later' D21.out QA1.out
        go_wp2_with fail
        clear gA1
        go_loopw [62] (fun i wq => ∃ m : Nat, m ≤ x.alts[k].names.length ∧ i = .int .i64 m ∧ Hid (Bld B b (q2 ++ joins [32] false ((x.alts[k].names.map bytesOf).take m)) wq) ∧ Hid (Kept B b w wq)) (fun i _ => x.alts[k].names.length - (intOf i).toNat)
        case atStart => exact ⟨0, Nat.zero_le _, rfl, Lib.hid (by simpa [joins] using H21.out), K21⟩
        case round =>
          obtain ⟨m, hm, rfl, H30, K30⟩ := hrel
          by_cases hmt : m < x.alts[k].names.length
          · have hJ3 := joins_take_len [32] (x.alts[k].names.map bytesOf) (m + 1) false
            have hsn2 : (x.alts[k].names.map bytesOf).take (m + 1) = (x.alts[k].names.map bytesOf).take m ++ [bytesOf x.alts[k].names[m]] := by rw [take_snoc' (by rw [List.length_map]; exact hmt), List.getElem_map]
            rw [hsn2, joins_snoc, if_neg (fun h => by cases h.1)] at hJ3
            have HSN2 := Lib.hid hsn2; clear hsn2
            simp only [List.length_append, bytesOf_length, List.length_cons, List.length_nil] at hJ3
            obtain ⟨an, hean, gn⟩ := elem_str NSC.out m hmt
            subst hean
            have D30 := Lib.hid (HBS.out.trans (K30.out.below.mono hSB))
            have gn := cell_later' D30.out gn
            have hcat : ¬ (9223372036854775807 < 1 + x.alts[k].names[m].size) := by omega
            obtain ⟨t3, ht3⟩ : ∃ t3, t3 = (⟨#[32]⟩ : ByteArray) ++ x.alts[k].names[m] := ⟨_, rfl⟩
            have e43 : bytesOf t3 = ([32] : List Int) ++ bytesOf x.alts[k].names[m] := by rw [ht3, bytesOf_app]; rfl
            have HT3 := Lib.hid ht3; have ET3 := Lib.hid e43
            clear ht3 e43
            go_wp2_with fail
            rw [← HT3.out]
            refine (writeStr B b _ t3 _ _ ET3.out H30.out (by simp only [List.length_append, List.length_cons, List.length_nil, bytesOf_length]; omega)).mono ?_
            rintro e w31 ⟨rfl, h, kk⟩
            have H31 := Lib.hid h; have K31 := Lib.hid (K30.out.trans kk)
            clear h kk gn hcat
            go_wp2
            go_roundw
            case rel => exact ⟨m + 1, by omega, by go_num, Lib.hid (by have := H31.out; rw [HSN2.out, joins_snoc, if_neg (fun h => by cases h.1)]; simpa [List.append_assoc] using this), K31⟩
            case measure => simp [intOf]; omega
          · have hmm : m = x.alts[k].names.length := by omega
            have hq := H30.out
            rw [hmm, List.take_of_length_le (by rw [List.length_map]; exact Nat.le_refl _)] at hq
            have H40 := Lib.hid hq; have K40 := K30
            clear hq hmm
            go_wp2_with fail
            refine (writeStr B b _ ⟨#[32, 45, 62, 32]⟩ ([32, 45, 62, 32] : List Int) _ rfl H40.out (by simp only [List.length_append, List.length_cons, List.length_nil, bytesOf_length]; omega)).mono ?_
            rintro e w41 ⟨rfl, h, k⟩
            have H41 := Lib.hid h; have K41 := Lib.hid (K40.out.trans k)
            clear h k 
            have D41 := Lib.hid (HBS.out.trans (K41.out.below.mono hSB))
            go_wp2_with fail
            refine (IHA.out _ (List.getElem_mem hlt) (HWA.out _ (List.getElem_mem hlt)) (HSA.out _ (List.getElem_mem hlt)) (HBKA.out _ (List.getElem_mem hlt)) S _ _ B b _ HAB.out (HBS.out.trans (K41.out.below.mono hSB)) hSB H41.out (by simp only [List.length_append, List.length_cons, List.length_nil, bytesOf_length]; omega)).mono ?_
            rintro e w42 ⟨rfl, h, k⟩
            have H42 := Lib.hid h; have K42 := Lib.hid (K41.out.trans k)
            clear h k 
            go_wp2
            go_roundw
            case rel => exact ⟨k + 1, by omega, by go_num, Lib.hid (by have := H42.out; rw [HQ2.out] at this; rw [HJS.out, if_pos HK00.out]; simpa [altPart, List.append_assoc] using this), K42⟩
            case measure => simp [intOf]; omega
      · have hkp : decide (0 < (k : Int)) = true := by simp; omega
        have hkp2 : 0 < k := by omega
        have hkp3 : (0 : Int) < (k : Int) := by omega
        go_wp2_with fail
        refine (writeStr B b _ ⟨#[59, 32]⟩ ([59, 32] : List Int) _ rfl H20.out (by have h2 := HJL.out; rw [if_neg hk00] at h2; simp only [List.length_append, List.length_cons, List.length_nil, bytesOf_length] at h2 ⊢; omega)).mono ?_
        rintro e w21 ⟨rfl, h, k⟩
        have H21 := Lib.hid h; have K21 := Lib.hid (K20.out.trans k)
        clear h k g6 gA0
        have D21 := Lib.hid (HBS.out.trans (K21.out.below.mono hSB))
        have gA0 := cell_later' D21.out QA0.out
        go_wp2_with fail
        refine (writeString B b _ x.alts[k].con _ H21.out (by have h2 := HJL.out; rw [if_neg hk00] at h2; simp only [List.length_append, List.length_cons, List.length_nil, bytesOf_length] at h2 ⊢; omega)).mono ?_
        rintro e w22 ⟨rfl, h, k⟩
        have H22 := Lib.hid h; have K22 := Lib.hid (K21.out.trans k)
        clear h k gA0
        obtain ⟨q2, hq2, hq2l⟩ : ∃ q2 : List Int, q2 = p2 ++ joins [59, 32] true ((List.zipWith altPart x.alts (x.alts.map (fun a : AltT => fmt a.body))).take k) ++ ([59, 32] : List Int) ++ bytesOf x.alts[k].con ∧ q2.length + (joins [32] false (x.alts[k].names.map bytesOf)).length + 4 + (fmt x.alts[k].body).length + (caseEnd x).length ≤ 1000000000 := ⟨_, rfl, (by have h2 := HJL.out; rw [if_neg hk00] at h2; simp only [List.length_append, List.length_cons, List.length_nil, bytesOf_length] at h2 ⊢; omega)⟩
        rw [← hq2] at H22
        have HQ2 := Lib.hid hq2
        clear hq2
        have D22 := Lib.hid (HBS.out.trans (K22.out.below.mono hSB))
        have gA1 := cell_later' D22.out QA1.out
        go_wp2_with fail
        clear gA1
        go_loopw [62] (fun i wq => ∃ m : Nat, m ≤ x.alts[k].names.length ∧ i = .int .i64 m ∧ Hid (Bld B b (q2 ++ joins [32] false ((x.alts[k].names.map bytesOf).take m)) wq) ∧ Hid (Kept B b w wq)) (fun i _ => x.alts[k].names.length - (intOf i).toNat)
        case atStart => exact ⟨0, Nat.zero_le _, rfl, Lib.hid (by simpa [joins] using H22.out), K22⟩
        case round =>
          obtain ⟨m, hm, rfl, H30, K30⟩ := hrel
          by_cases hmt : m < x.alts[k].names.length
          · have hJ3 := joins_take_len [32] (x.alts[k].names.map bytesOf) (m + 1) false
            have hsn2 : (x.alts[k].names.map bytesOf).take (m + 1) = (x.alts[k].names.map bytesOf).take m ++ [bytesOf x.alts[k].names[m]] := by rw [take_snoc' (by rw [List.length_map]; exact hmt), List.getElem_map]
            rw [hsn2, joins_snoc, if_neg (fun h => by cases h.1)] at hJ3
            have HSN2 := Lib.hid hsn2; clear hsn2
            simp only [List.length_append, bytesOf_length, List.length_cons, List.length_nil] at hJ3
            obtain ⟨an, hean, gn⟩ := elem_str NSC.out m hmt
            subst hean
            have D30 := Lib.hid (HBS.out.trans (K30.out.below.mono hSB))
            have gn := cell_later' D30.out gn
            have hcat : ¬ (9223372036854775807 < 1 + x.alts[k].names[m].size) := by omega
            obtain ⟨t3, ht3⟩ : ∃ t3, t3 = (⟨#[32]⟩ : ByteArray) ++ x.alts[k].names[m] := ⟨_, rfl⟩
            have e43 : bytesOf t3 = ([32] : List Int) ++ bytesOf x.alts[k].names[m] := by rw [ht3, bytesOf_app]; rfl
            have HT3 := Lib.hid ht3; have ET3 := Lib.hid e43
            clear ht3 e43
            go_wp2_with fail
            rw [← HT3.out]
            refine (writeStr B b _ t3 _ _ ET3.out H30.out (by simp only [List.length_append, List.length_cons, List.length_nil, bytesOf_length]; omega)).mono ?_
            rintro e w31 ⟨rfl, h, kk⟩
            have H31 := Lib.hid h; have K31 := Lib.hid (K30.out.trans kk)
            clear h kk gn hcat
            go_wp2
            go_roundw
            case rel => exact ⟨m + 1, by omega, by go_num, Lib.hid (by have := H31.out; rw [HSN2.out, joins_snoc, if_neg (fun h => by cases h.1)]; simpa [List.append_assoc] using this), K31⟩
            case measure => simp [intOf]; omega
          · have hmm : m = x.alts[k].names.length := by omega
            have hq := H30.out
            rw [hmm, List.take_of_length_le (by rw [List.length_map]; exact Nat.le_refl _)] at hq
            have H40 := Lib.hid hq; have K40 := K30
            clear hq hmm
            go_wp2_with fail
            refine (writeStr B b _ ⟨#[32, 45, 62, 32]⟩ ([32, 45, 62, 32] : List Int) _ rfl H40.out (by simp only [List.length_append, List.length_cons, List.length_nil, bytesOf_length]; omega)).mono ?_
            rintro e w41 ⟨rfl, h, k⟩
            have H41 := Lib.hid h; have K41 := Lib.hid (K40.out.trans k)
            clear h k 
            have D41 := Lib.hid (HBS.out.trans (K41.out.below.mono hSB))
            go_wp2_with fail
            refine (IHA.out _ (List.getElem_mem hlt) (HWA.out _ (List.getElem_mem hlt)) (HSA.out _ (List.getElem_mem hlt)) (HBKA.out _ (List.getElem_mem hlt)) S _ _ B b _ HAB.out (HBS.out.trans (K41.out.below.mono hSB)) hSB H41.out (by simp only [List.length_append, List.length_cons, List.length_nil, bytesOf_length]; omega)).mono ?_
            rintro e w42 ⟨rfl, h, k⟩
            have H42 := Lib.hid h; have K42 := Lib.hid (K41.out.trans k)
            clear h k 
            go_wp2
            go_roundw
            case rel => exact ⟨k + 1, by omega, by go_num, Lib.hid (by have := H42.out; rw [HQ2.out] at this; rw [HJS.out, if_neg hk00]; simpa [altPart, List.append_assoc] using this), K42⟩
            case measure => simp [intOf]; omega
    · have hkk : k = x.alts.length := by omega
      have hq := H20.out
      rw [hkk, List.take_of_length_le (by rw [List.length_zipWith, List.length_map]; omega)] at hq
      have H50 := Lib.hid (show Bld B b (p2 ++ altsText x) wr from hq); have K50 := K20
      clear hq hkk
      have D50 := Lib.hid (HBS.out.trans (K50.out.below.mono hSB))
      have g5 := cell_later' D50.out Q5.out
      have g6 := cell_later' D50.out Q6.out
      by_cases hk1 : x.kids.length = 2
      · have hk1b : ((x.kids.length : Int) == 2) = true := beq_iff_eq.2 (by omega)
        have HK1 := Lib.hid hk1
        clear hk1
        have h1lt : 1 < x.kids.length := by have := HK1.out; omega
        obtain ⟨ak', hA5, hA⟩ := at_elem KKC.out 1 h1lt
        injection hA5 with hA5
        subst hA5
        rw [Nat.one_mul, add_seven] at hA
        have HA1 := Lib.hid hA; clear hA
        have i1 : (1 : Int) < (x.kids.length : Int) := by omega
        have hgd : Hid ((x.kids.map fmt).getD 1 [] = fmt x.kids[1]) := Lib.hid (getD_at 1 h1lt)
        have hce : p2.length + (altsText x).length + ((if 0 < x.alts.length then [59, 32] else [] : List Int).length + 5 + (fmt x.kids[1]).length) + 3 ≤ 1000000000 := by
          have := hp2l
          unfold caseEnd at this
          rw [if_pos HK1.out, hgd.out] at this
          simp only [List.length_append, List.length_cons, List.length_nil] at this
          omega
        by_cases hal : 0 < x.alts.length
        · have hal2 : (0 : Int) < (x.alts.length : Int) := by omega
          have hal3 : decide ((0 : Int) < (x.alts.length : Int)) = true := decide_eq_true (by omega)
          rw [if_pos hal] at hce
          go_wp2_with fail
          refine (writeStr B b _ ⟨#[59, 32]⟩ ([59, 32] : List Int) _ rfl H50.out (by simp only [List.length_append, List.length_cons, List.length_nil] at hce ⊢; omega)).mono ?_
          rintro e w51 ⟨rfl, h, k⟩
          have H51 := Lib.hid h; have K51 := Lib.hid (K50.out.trans k)
          clear h k g5 g6
          have D51 := Lib.hid (HBS.out.trans (K51.out.below.mono hSB))
          go_wp2_with fail
          refine (writeStr B b _ ⟨#[95, 32, 45, 62, 32]⟩ ([95, 32, 45, 62, 32] : List Int) _ rfl H51.out (by simp only [List.length_append, List.length_cons, List.length_nil] at hce ⊢; omega)).mono ?_
          rintro e w52 ⟨rfl, h, k⟩
          have H52 := Lib.hid h; have K52 := Lib.hid (K51.out.trans k)
          clear h k 
          have D52 := Lib.hid (HBS.out.trans (K52.out.below.mono hSB))
          have g5 := cell_later' D52.out Q5.out
          go_wp2_with fail
          refine (IH.out _ (List.getElem_mem h1lt) (HW.out _ (List.getElem_mem h1lt)) (HS.out _ (List.getElem_mem h1lt)) (HBK.out _ (List.getElem_mem h1lt)) S _ _ B b _ HA1.out (HBS.out.trans (K52.out.below.mono hSB)) hSB H52.out (by simp only [List.length_append, List.length_cons, List.length_nil] at hce ⊢; omega)).mono ?_
          rintro e w53 ⟨rfl, h, k⟩
          have H53 := Lib.hid h; have K53 := Lib.hid (K52.out.trans k)
          clear h k g5
          have D53 := Lib.hid (HBS.out.trans (K53.out.below.mono hSB))
          go_wp2_with fail
          refine (writeStr B b _ ⟨#[32, 125, 41]⟩ ([32, 125, 41] : List Int) _ rfl H53.out (by simp only [List.length_append, List.length_cons, List.length_nil] at hce ⊢; omega)).mono ?_
          rintro e w54 ⟨rfl, h, k⟩
          have H54 := Lib.hid h; have K54 := Lib.hid (K53.out.trans k)
          clear h k 
          go_wp2
          go_end0
          refine ⟨rfl, ?_, K54.out⟩
          have := H54.out
          rw [HP2.out] at this
          unfold caseText caseEnd
          rw [if_pos HNM.out]
          rw [if_pos HK1.out, if_pos hal, hgd.out]
          simpa [List.append_assoc] using this
        · have hal2 : ¬ (0 : Int) < (x.alts.length : Int) := by omega
          have hal3 : decide ((0 : Int) < (x.alts.length : Int)) = false := decide_eq_false (by omega)
          rw [if_neg hal] at hce
          go_wp2_with fail
          refine (writeStr B b _ ⟨#[95, 32, 45, 62, 32]⟩ ([95, 32, 45, 62, 32] : List Int) _ rfl H50.out (by simp only [List.length_append, List.length_cons, List.length_nil] at hce ⊢; omega)).mono ?_
          rintro e w51 ⟨rfl, h, k⟩
          have H51 := Lib.hid h; have K51 := Lib.hid (K50.out.trans k)
          clear h k g5 g6
          have D51 := Lib.hid (HBS.out.trans (K51.out.below.mono hSB))
          have g5 := cell_later' D51.out Q5.out
          go_wp2_with fail
          refine (IH.out _ (List.getElem_mem h1lt) (HW.out _ (List.getElem_mem h1lt)) (HS.out _ (List.getElem_mem h1lt)) (HBK.out _ (List.getElem_mem h1lt)) S _ _ B b _ HA1.out (HBS.out.trans (K51.out.below.mono hSB)) hSB H51.out (by simp only [List.length_append, List.length_cons, List.length_nil] at hce ⊢; omega)).mono ?_
          rintro e w52 ⟨rfl, h, k⟩
          have H52 := Lib.hid h; have K52 := Lib.hid (K51.out.trans k)
          clear h k g5
          have D52 := Lib.hid (HBS.out.trans (K52.out.below.mono hSB))
          go_wp2_with fail
          refine (writeStr B b _ ⟨#[32, 125, 41]⟩ ([32, 125, 41] : List Int) _ rfl H52.out (by simp only [List.length_append, List.length_cons, List.length_nil] at hce ⊢; omega)).mono ?_
          rintro e w53 ⟨rfl, h, k⟩
          have H53 := Lib.hid h; have K53 := Lib.hid (K52.out.trans k)
          clear h k 
          go_wp2
          go_end0
          refine ⟨rfl, ?_, K53.out⟩
          have := H53.out
          rw [HP2.out] at this
          unfold caseText caseEnd
          rw [if_pos HNM.out]
          rw [if_pos HK1.out, if_neg hal, hgd.out]
          simpa [List.append_assoc] using this
      · have hk1b : ((x.kids.length : Int) == 2) = false := beq_eq_false_iff_ne.2 (by omega)
        have hce : p2.length + (altsText x).length + 3 ≤ 1000000000 := by
          have := hp2l
          unfold caseEnd at this
          rw [if_neg hk1] at this
          simp only [List.length_append, List.length_cons, List.length_nil] at this
          omega
        go_wp2_with fail
        refine (writeStr B b _ ⟨#[32, 125, 41]⟩ ([32, 125, 41] : List Int) _ rfl H50.out (by simp only [List.length_append, List.length_cons, List.length_nil] at hce ⊢; omega)).mono ?_
        rintro e w51 ⟨rfl, h, k⟩
        have H51 := Lib.hid h; have K51 := Lib.hid (K50.out.trans k)
        clear h k g5 g6
        go_wp2
        go_end0
        refine ⟨rfl, ?_, K51.out⟩
        have := H51.out
        rw [HP2.out] at this
        unfold caseText caseEnd
        rw [if_pos HNM.out]
        rw [if_neg hk1]
        simpa [List.append_assoc] using this
set_option maxRecDepth 100000 in
set_option maxHeartbeats 4000000 in
theorem fcase1 (hn : 0 < x.name.size) (hk0 : 0 < x.kids.length) (hk2 : x.kids.length ≤ 2) (hw : WfC x) (hs : Shapes x) (hbk : bulk x ≤ 1048576) (ih : ∀ y ∈ x.kids, FcSaid y) (iha : ∀ a ∈ x.alts, FcSaid a.body) (hat : At S x p) (hB : Below S.heap.size S w) (hSB : S.heap.size ≤ B) (hb : Bld B b xs w) (hl : xs.length + (caseText x (fmt x.kids[0])).length ≤ 1000000000) :
    Calls Try.prog 61 #[.pointer (some ⟨b, 0, none⟩), .pointer (some p)] w fun e w' => FcPost (caseText x (fmt x.kids[0])) B b xs w e w' := by
  obtain ⟨A3, c3, A4, c4, A5, c5, A6, c6, hK, g0, g1, g2, g3, g4, g5, g6⟩ := hat
  obtain ⟨b1, b2, b3, b4, b5⟩ := bounds hbk
  have IH := Lib.hid ih; have IHA := Lib.hid iha
  have HW := Lib.hid (show ∀ y ∈ x.kids, WfC y by rw [WfC_eq] at hw; exact WfCs_mem hw.2.1)
  have HWA := Lib.hid (show ∀ a ∈ x.alts, WfC a.body by rw [WfC_eq] at hw; exact WfAs_mem hw.2.2)
  have HS := Lib.hid (show ∀ y ∈ x.kids, Shapes y by rw [Shapes_eq] at hs; exact KShapes_iff.1 hs.2.1)
  have HSA := Lib.hid (show ∀ a ∈ x.alts, Shapes a.body by rw [Shapes_eq] at hs; exact AShapes_iff.1 hs.2.2)
  have HBK := Lib.hid (show ∀ y ∈ x.kids, bulk y ≤ 1048576 from fun y hy => by have := mem_bulks hy; rw [bulk_eq] at hbk; omega)
  have HBKA := Lib.hid (show ∀ a ∈ x.alts, bulk a.body ≤ 1048576 from fun a ha => by have := mem_abulks ha; rw [abulk_eq] at this; rw [bulk_eq] at hbk; omega)
  have ABULK := Lib.hid (show ∀ a ∈ x.alts, a.names.length ≤ 1048576 from fun a ha => by have := mem_abulks ha; rw [abulk_eq] at this; rw [bulk_eq] at hbk; have := len_strsB a.names; omega)
  have KC := Lib.hid hK
  have KKC := Lib.hid (kids_of hK)
  have KAC := Lib.hid (alts_of hK)
  have CAPS := Lib.hid (caps_of hK)
  have Q1 := Lib.hid g1; have Q5 := Lib.hid g5; have Q6 := Lib.hid g6
  have HBS := Lib.hid hB
  have H1 := Lib.hid hb
  have K1 := Lib.hid (Kept.refl B b w)
  have hl2 := hl
  simp only [caseText, List.length_append, List.length_cons, List.length_nil] at hl2
  rw [if_neg (by omega)] at hl2
  rw [List.length_append, bytesOf_length, List.length_singleton] at hl2
  have HL2 := Lib.hid hl2
  have HNM := Lib.hid hn
  clear ih iha hw hs hbk hK hb hB hl hl2 g0 g1 g2 g3 g4 g5 g6
  obtain ⟨t, ht⟩ : ∃ t, t = x.name ++ (⟨#[32]⟩ : ByteArray) := ⟨_, rfl⟩
  have e40 : bytesOf t = bytesOf x.name ++ ([32] : List Int) := by rw [ht, bytesOf_app]; rfl
  have HT := Lib.hid ht; have ET := Lib.hid e40
  have hcat : ¬ (9223372036854775807 < x.name.size + 1) := by omega
  have hne := toList_ne (s := x.name) hn
  have hne2 := isEmpty_of (s := x.name) hn
  clear ht e40 hn
  obtain ⟨ak, hA5, hA⟩ := at_elem KKC.out 0 hk0
  subst hA5
  rw [Nat.zero_mul, add_nought] at hA
  have HA := Lib.hid hA; clear hA
  have i0 : (0 : Int) < (x.kids.length : Int) := by omega
  go_enter Try.func61, Try.ntmps61
  go_wp2_with fail
  refine (writeStr B b _ ⟨#[40, 99, 97, 115, 101, 32]⟩ ([40, 99, 97, 115, 101, 32] : List Int) _ rfl H1.out (by have := HL2.out; simp only [List.length_append, List.length_cons, List.length_nil, bytesOf_length]; omega)).mono ?_
  rintro e w2 ⟨rfl, h, k⟩
  have H2 := Lib.hid h; have K2 := Lib.hid (K1.out.trans k)
  clear h k 
  have D2 := Lib.hid (HBS.out.trans (K2.out.below.mono hSB))
  have g5 := cell_later' D2.out Q5.out
  go_wp2_with fail
  refine (IH.out _ (List.getElem_mem hk0) (HW.out _ (List.getElem_mem hk0)) (HS.out _ (List.getElem_mem hk0)) (HBK.out _ (List.getElem_mem hk0)) S _ _ B b _ HA.out (HBS.out.trans (K2.out.below.mono hSB)) hSB H2.out (by have := HL2.out; simp only [List.length_append, List.length_cons, List.length_nil, bytesOf_length]; omega)).mono ?_
  rintro e w3 ⟨rfl, h, k⟩
  have H3 := Lib.hid h; have K3 := Lib.hid (K2.out.trans k)
  clear h k g5
  have D3 := Lib.hid (HBS.out.trans (K3.out.below.mono hSB))
  go_wp2_with fail
  refine (writeStr B b _ ⟨#[32, 111, 102, 32]⟩ ([32, 111, 102, 32] : List Int) _ rfl H3.out (by have := HL2.out; simp only [List.length_append, List.length_cons, List.length_nil, bytesOf_length]; omega)).mono ?_
  rintro e w4 ⟨rfl, h, k⟩
  have H4 := Lib.hid h; have K4 := Lib.hid (K3.out.trans k)
  clear h k 
  have D4 := Lib.hid (HBS.out.trans (K4.out.below.mono hSB))
  have g1 := cell_later' D4.out Q1.out
  go_wp2_with fail
  rw [← HT.out]
  go_wp2_with fail
  refine (writeStr B b _ t _ _ ET.out H4.out (by have := HL2.out; simp only [List.length_append, List.length_cons, List.length_nil, bytesOf_length]; omega)).mono ?_
  rintro e w5 ⟨rfl, h, k⟩
  have H5 := Lib.hid h; have K5 := Lib.hid (K4.out.trans k)
  clear h k g1
  clear hne hne2 hcat
  have D5 := Lib.hid (HBS.out.trans (K5.out.below.mono hSB))
  go_wp2_with fail
  refine (writeStr B b _ ⟨#[123, 32]⟩ ([123, 32] : List Int) _ rfl H5.out (by have := HL2.out; simp only [List.length_append, List.length_cons, List.length_nil, bytesOf_length]; omega)).mono ?_
  rintro e w6 ⟨rfl, h, k⟩
  have H6 := Lib.hid h; have K6 := Lib.hid (K5.out.trans k)
  clear h k 
  obtain ⟨p2, hp2, hp2l⟩ : ∃ p2 : List Int, p2 = (xs ++ ([40, 99, 97, 115, 101, 32] : List Int) ++ fmt x.kids[0] ++ ([32, 111, 102, 32] : List Int) ++ (bytesOf x.name ++ ([32] : List Int)) ++ ([123, 32] : List Int)) ∧ p2.length + (altsText x).length + (caseEnd x).length ≤ 1000000000 := ⟨_, rfl, (by have := HL2.out; simp only [List.length_append, List.length_cons, List.length_nil, bytesOf_length]; omega)⟩
  rw [← hp2] at H6
  have HP2 := Lib.hid hp2
  clear hp2
  have D6 := Lib.hid (HBS.out.trans (K6.out.below.mono hSB))
  have g6 := cell_later' D6.out Q6.out
  go_wp2_with fail
  clear g6
  go_loopw [38] (fun i wr => ∃ k : Nat, k ≤ x.alts.length ∧ i = .int .i64 k ∧ Hid (Bld B b (p2 ++ joins [59, 32] true ((List.zipWith altPart x.alts (x.alts.map (fun a : AltT => fmt a.body))).take k)) wr) ∧ Hid (Kept B b w wr)) (fun i _ => x.alts.length - (intOf i).toNat)
  case atStart => exact ⟨0, Nat.zero_le _, rfl, Lib.hid (by simpa [joins] using H6.out), K6⟩
  case round =>
    obtain ⟨k, hk, rfl, H20, K20⟩ := hrel
    by_cases hlt : k < x.alts.length
    · have hJ := joins_take_len [59, 32] (List.zipWith altPart x.alts (x.alts.map (fun a : AltT => fmt a.body))) (k + 1) true
      have hsn := zipAlt_take x.alts (x.alts.map (fun a : AltT => fmt a.body)) k hlt (by rw [List.length_map]; exact hlt)
      rw [List.getElem_map] at hsn
      have hsep : (if true = true ∧ (List.zipWith altPart x.alts (x.alts.map (fun a : AltT => fmt a.body))).take k = [] then [] else [59, 32] : List Int) = (if k = 0 then [] else [59, 32]) := by
        by_cases h0 : k = 0
        · subst h0; simp
        · rw [if_neg h0, if_neg]
          rintro ⟨_, h⟩
          have := congrArg List.length h
          rw [List.length_take, List.length_zipWith, List.length_map, List.length_nil] at this
          omega
      have hjs := joins_snoc [59, 32] (altPart x.alts[k] (fmt x.alts[k].body)) ((List.zipWith altPart x.alts (x.alts.map (fun a : AltT => fmt a.body))).take k) true
      rw [hsep] at hjs
      rw [hsn, hjs] at hJ
      rw [← hsn] at hjs
      have hJ2 : _ ≤ (altsText x).length := hJ
      clear hJ
      simp only [altPart, List.length_append, List.length_cons, List.length_nil, bytesOf_length] at hJ2
      have HJS := Lib.hid hjs; have HJL := Lib.hid hJ2
      obtain ⟨ada, A1, c1, A3', c3', A4', c4', A5', c5', A6', c6', hA6, -, hKb, hc1, hNs, a0, a1, a2, a3, a4, a5, a6, a7, a8⟩ := elem_alt KAC.out k hlt
      subst hA6
      have HAB := Lib.hid (show At S x.alts[k].body ⟨(ada.add (k * 9)).block, (ada.add (k * 9)).off + 2, none⟩ from ⟨A3', c3', A4', c4', A5', c5', A6', c6', hKb, a2, a3, a4, a5, a6, a7, a8⟩)
      have QA0 := Lib.hid a0; have QA1 := Lib.hid a1; have NSC := Lib.hid hNs
      have hnl2 : x.alts[k].names.length ≤ 1048576 := by
        have := HBKA.out x.alts[k] (List.getElem_mem hlt)
        have h3 := hNs.2.1
        have := ABULK.out x.alts[k] (List.getElem_mem hlt)
        omega
      clear hjs hJ2 hsn hsep hKb hNs a0 a1 a2 a3 a4 a5 a6 a7 a8
      have D20 := Lib.hid (HBS.out.trans (K20.out.below.mono hSB))
      have g6 := cell_later' D20.out Q6.out
      have gA0 := cell_later' D20.out QA0.out
      by_cases hk00 : k = 0
      · have hkd : decide (0 < (k : Int)) = false := by simp; omega
        have hkd2 : ¬ 0 < k := by omega
        have hkd3 : ¬ (0 : Int) < (k : Int) := by omega
        have HK00 := Lib.hid hk00
        clear hk00
        go_wp2_with fail
        refine (writeString B b _ x.alts[k].con _ H20.out (by have h2 := HJL.out; rw [if_pos HK00.out] at h2; simp only [List.length_append, List.length_cons, List.length_nil, bytesOf_length] at h2 ⊢; omega)).mono ?_
        rintro e w21 ⟨rfl, h, k⟩
        have H21 := Lib.hid h; have K21 := Lib.hid (K20.out.trans k)
        clear h k g6 gA0
        obtain ⟨q2, hq2, hq2l⟩ : ∃ q2 : List Int, q2 = p2 ++ joins [59, 32] true ((List.zipWith altPart x.alts (x.alts.map (fun a : AltT => fmt a.body))).take k) ++ bytesOf x.alts[k].con ∧ q2.length + (joins [32] false (x.alts[k].names.map bytesOf)).length + 4 + (fmt x.alts[k].body).length + (caseEnd x).length ≤ 1000000000 := ⟨_, rfl, (by have h2 := HJL.out; rw [if_pos HK00.out] at h2; simp only [List.length_append, List.length_cons, List.length_nil, bytesOf_length] at h2 ⊢; omega)⟩
        rw [← hq2] at H21
        have HQ2 := Lib.hid hq2
        clear hq2
        have D21 := Lib.hid (HBS.out.trans (K21.out.below.mono hSB))
        have gA1 := cell_later' D21.out QA1.out
        go_wp2_with fail
        clear gA1
        go_loopw [62] (fun i wq => ∃ m : Nat, m ≤ x.alts[k].names.length ∧ i = .int .i64 m ∧ Hid (Bld B b (q2 ++ joins [32] false ((x.alts[k].names.map bytesOf).take m)) wq) ∧ Hid (Kept B b w wq)) (fun i _ => x.alts[k].names.length - (intOf i).toNat)
        case atStart => exact ⟨0, Nat.zero_le _, rfl, Lib.hid (by simpa [joins] using H21.out), K21⟩
        case round =>
          obtain ⟨m, hm, rfl, H30, K30⟩ := hrel
          by_cases hmt : m < x.alts[k].names.length
          · have hJ3 := joins_take_len [32] (x.alts[k].names.map bytesOf) (m + 1) false
            have hsn2 : (x.alts[k].names.map bytesOf).take (m + 1) = (x.alts[k].names.map bytesOf).take m ++ [bytesOf x.alts[k].names[m]] := by rw [take_snoc' (by rw [List.length_map]; exact hmt), List.getElem_map]
            rw [hsn2, joins_snoc, if_neg (fun h => by cases h.1)] at hJ3
            have HSN2 := Lib.hid hsn2; clear hsn2
            simp only [List.length_append, bytesOf_length, List.length_cons, List.length_nil] at hJ3
            obtain ⟨an, hean, gn⟩ := elem_str NSC.out m hmt
            subst hean
            have D30 := Lib.hid (HBS.out.trans (K30.out.below.mono hSB))
            have gn := cell_later' D30.out gn
            have hcat : ¬ (9223372036854775807 < 1 + x.alts[k].names[m].size) := by omega
            obtain ⟨t3, ht3⟩ : ∃ t3, t3 = (⟨#[32]⟩ : ByteArray) ++ x.alts[k].names[m] := ⟨_, rfl⟩
            have e43 : bytesOf t3 = ([32] : List Int) ++ bytesOf x.alts[k].names[m] := by rw [ht3, bytesOf_app]; rfl
            have HT3 := Lib.hid ht3; have ET3 := Lib.hid e43
            clear ht3 e43
            go_wp2_with fail
            rw [← HT3.out]
            refine (writeStr B b _ t3 _ _ ET3.out H30.out (by simp only [List.length_append, List.length_cons, List.length_nil, bytesOf_length]; omega)).mono ?_
            rintro e w31 ⟨rfl, h, kk⟩
            have H31 := Lib.hid h; have K31 := Lib.hid (K30.out.trans kk)
            clear h kk gn hcat
            go_wp2
            go_roundw
            case rel => exact ⟨m + 1, by omega, by go_num, Lib.hid (by have := H31.out; rw [HSN2.out, joins_snoc, if_neg (fun h => by cases h.1)]; simpa [List.append_assoc] using this), K31⟩
            case measure => simp [intOf]; omega
          · have hmm : m = x.alts[k].names.length := by omega
            have hq := H30.out
            rw [hmm, List.take_of_length_le (by rw [List.length_map]; exact Nat.le_refl _)] at hq
            have H40 := Lib.hid hq; have K40 := K30
            clear hq hmm
            go_wp2_with fail
            refine (writeStr B b _ ⟨#[32, 45, 62, 32]⟩ ([32, 45, 62, 32] : List Int) _ rfl H40.out (by simp only [List.length_append, List.length_cons, List.length_nil, bytesOf_length]; omega)).mono ?_
            rintro e w41 ⟨rfl, h, k⟩
            have H41 := Lib.hid h; have K41 := Lib.hid (K40.out.trans k)
            clear h k 
            have D41 := Lib.hid (HBS.out.trans (K41.out.below.mono hSB))
            go_wp2_with fail
            refine (IHA.out _ (List.getElem_mem hlt) (HWA.out _ (List.getElem_mem hlt)) (HSA.out _ (List.getElem_mem hlt)) (HBKA.out _ (List.getElem_mem hlt)) S _ _ B b _ HAB.out (HBS.out.trans (K41.out.below.mono hSB)) hSB H41.out (by simp only [List.length_append, List.length_cons, List.length_nil, bytesOf_length]; omega)).mono ?_
            rintro e w42 ⟨rfl, h, k⟩
            have H42 := Lib.hid h; have K42 := Lib.hid (K41.out.trans k)
            clear h k 
            go_wp2
            go_roundw
            case rel => exact ⟨k + 1, by omega, by go_num, Lib.hid (by have := H42.out; rw [HQ2.out] at this; rw [HJS.out, if_pos HK00.out]; simpa [altPart, List.append_assoc] using this), K42⟩
            case measure => simp [intOf]; omega
      · have hkp : decide (0 < (k : Int)) = true := by simp; omega
        have hkp2 : 0 < k := by omega
        have hkp3 : (0 : Int) < (k : Int) := by omega
        go_wp2_with fail
        refine (writeStr B b _ ⟨#[59, 32]⟩ ([59, 32] : List Int) _ rfl H20.out (by have h2 := HJL.out; rw [if_neg hk00] at h2; simp only [List.length_append, List.length_cons, List.length_nil, bytesOf_length] at h2 ⊢; omega)).mono ?_
        rintro e w21 ⟨rfl, h, k⟩
        have H21 := Lib.hid h; have K21 := Lib.hid (K20.out.trans k)
        clear h k g6 gA0
        have D21 := Lib.hid (HBS.out.trans (K21.out.below.mono hSB))
        have gA0 := cell_later' D21.out QA0.out
        go_wp2_with fail
        refine (writeString B b _ x.alts[k].con _ H21.out (by have h2 := HJL.out; rw [if_neg hk00] at h2; simp only [List.length_append, List.length_cons, List.length_nil, bytesOf_length] at h2 ⊢; omega)).mono ?_
        rintro e w22 ⟨rfl, h, k⟩
        have H22 := Lib.hid h; have K22 := Lib.hid (K21.out.trans k)
        clear h k gA0
        obtain ⟨q2, hq2, hq2l⟩ : ∃ q2 : List Int, q2 = p2 ++ joins [59, 32] true ((List.zipWith altPart x.alts (x.alts.map (fun a : AltT => fmt a.body))).take k) ++ ([59, 32] : List Int) ++ bytesOf x.alts[k].con ∧ q2.length + (joins [32] false (x.alts[k].names.map bytesOf)).length + 4 + (fmt x.alts[k].body).length + (caseEnd x).length ≤ 1000000000 := ⟨_, rfl, (by have h2 := HJL.out; rw [if_neg hk00] at h2; simp only [List.length_append, List.length_cons, List.length_nil, bytesOf_length] at h2 ⊢; omega)⟩
        rw [← hq2] at H22
        have HQ2 := Lib.hid hq2
        clear hq2
        have D22 := Lib.hid (HBS.out.trans (K22.out.below.mono hSB))
        have gA1 := cell_later' D22.out QA1.out
        go_wp2_with fail
        clear gA1
        go_loopw [62] (fun i wq => ∃ m : Nat, m ≤ x.alts[k].names.length ∧ i = .int .i64 m ∧ Hid (Bld B b (q2 ++ joins [32] false ((x.alts[k].names.map bytesOf).take m)) wq) ∧ Hid (Kept B b w wq)) (fun i _ => x.alts[k].names.length - (intOf i).toNat)
        case atStart => exact ⟨0, Nat.zero_le _, rfl, Lib.hid (by simpa [joins] using H22.out), K22⟩
        case round =>
          obtain ⟨m, hm, rfl, H30, K30⟩ := hrel
          by_cases hmt : m < x.alts[k].names.length
          · have hJ3 := joins_take_len [32] (x.alts[k].names.map bytesOf) (m + 1) false
            have hsn2 : (x.alts[k].names.map bytesOf).take (m + 1) = (x.alts[k].names.map bytesOf).take m ++ [bytesOf x.alts[k].names[m]] := by rw [take_snoc' (by rw [List.length_map]; exact hmt), List.getElem_map]
            rw [hsn2, joins_snoc, if_neg (fun h => by cases h.1)] at hJ3
            have HSN2 := Lib.hid hsn2; clear hsn2
            simp only [List.length_append, bytesOf_length, List.length_cons, List.length_nil] at hJ3
            obtain ⟨an, hean, gn⟩ := elem_str NSC.out m hmt
            subst hean
            have D30 := Lib.hid (HBS.out.trans (K30.out.below.mono hSB))
            have gn := cell_later' D30.out gn
            have hcat : ¬ (9223372036854775807 < 1 + x.alts[k].names[m].size) := by omega
            obtain ⟨t3, ht3⟩ : ∃ t3, t3 = (⟨#[32]⟩ : ByteArray) ++ x.alts[k].names[m] := ⟨_, rfl⟩
            have e43 : bytesOf t3 = ([32] : List Int) ++ bytesOf x.alts[k].names[m] := by rw [ht3, bytesOf_app]; rfl
            have HT3 := Lib.hid ht3; have ET3 := Lib.hid e43
            clear ht3 e43
            go_wp2_with fail
            rw [← HT3.out]
            refine (writeStr B b _ t3 _ _ ET3.out H30.out (by simp only [List.length_append, List.length_cons, List.length_nil, bytesOf_length]; omega)).mono ?_
            rintro e w31 ⟨rfl, h, kk⟩
            have H31 := Lib.hid h; have K31 := Lib.hid (K30.out.trans kk)
            clear h kk gn hcat
            go_wp2
            go_roundw
            case rel => exact ⟨m + 1, by omega, by go_num, Lib.hid (by have := H31.out; rw [HSN2.out, joins_snoc, if_neg (fun h => by cases h.1)]; simpa [List.append_assoc] using this), K31⟩
            case measure => simp [intOf]; omega
          · have hmm : m = x.alts[k].names.length := by omega
            have hq := H30.out
            rw [hmm, List.take_of_length_le (by rw [List.length_map]; exact Nat.le_refl _)] at hq
            have H40 := Lib.hid hq; have K40 := K30
            clear hq hmm
            go_wp2_with fail
            refine (writeStr B b _ ⟨#[32, 45, 62, 32]⟩ ([32, 45, 62, 32] : List Int) _ rfl H40.out (by simp only [List.length_append, List.length_cons, List.length_nil, bytesOf_length]; omega)).mono ?_
            rintro e w41 ⟨rfl, h, k⟩
            have H41 := Lib.hid h; have K41 := Lib.hid (K40.out.trans k)
            clear h k 
            have D41 := Lib.hid (HBS.out.trans (K41.out.below.mono hSB))
            go_wp2_with fail
            refine (IHA.out _ (List.getElem_mem hlt) (HWA.out _ (List.getElem_mem hlt)) (HSA.out _ (List.getElem_mem hlt)) (HBKA.out _ (List.getElem_mem hlt)) S _ _ B b _ HAB.out (HBS.out.trans (K41.out.below.mono hSB)) hSB H41.out (by simp only [List.length_append, List.length_cons, List.length_nil, bytesOf_length]; omega)).mono ?_
            rintro e w42 ⟨rfl, h, k⟩
            have H42 := Lib.hid h; have K42 := Lib.hid (K41.out.trans k)
            clear h k 
            go_wp2
            go_roundw
            case rel => exact ⟨k + 1, by omega, by go_num, Lib.hid (by have := H42.out; rw [HQ2.out] at this; rw [HJS.out, if_neg hk00]; simpa [altPart, List.append_assoc] using this), K42⟩
            case measure => simp [intOf]; omega
    · have hkk : k = x.alts.length := by omega
      have hq := H20.out
      rw [hkk, List.take_of_length_le (by rw [List.length_zipWith, List.length_map]; omega)] at hq
      have H50 := Lib.hid (show Bld B b (p2 ++ altsText x) wr from hq); have K50 := K20
      clear hq hkk
      have D50 := Lib.hid (HBS.out.trans (K50.out.below.mono hSB))
      have g5 := cell_later' D50.out Q5.out
      have g6 := cell_later' D50.out Q6.out
      by_cases hk1 : x.kids.length = 2
      · have hk1b : ((x.kids.length : Int) == 2) = true := beq_iff_eq.2 (by omega)
        have HK1 := Lib.hid hk1
        clear hk1
        have h1lt : 1 < x.kids.length := by have := HK1.out; omega
        obtain ⟨ak', hA5, hA⟩ := at_elem KKC.out 1 h1lt
        injection hA5 with hA5
        subst hA5
        rw [Nat.one_mul, add_seven] at hA
        have HA1 := Lib.hid hA; clear hA
        have i1 : (1 : Int) < (x.kids.length : Int) := by omega
        have hgd : Hid ((x.kids.map fmt).getD 1 [] = fmt x.kids[1]) := Lib.hid (getD_at 1 h1lt)
        have hce : p2.length + (altsText x).length + ((if 0 < x.alts.length then [59, 32] else [] : List Int).length + 5 + (fmt x.kids[1]).length) + 3 ≤ 1000000000 := by
          have := hp2l
          unfold caseEnd at this
          rw [if_pos HK1.out, hgd.out] at this
          simp only [List.length_append, List.length_cons, List.length_nil] at this
          omega
        by_cases hal : 0 < x.alts.length
        · have hal2 : (0 : Int) < (x.alts.length : Int) := by omega
          have hal3 : decide ((0 : Int) < (x.alts.length : Int)) = true := decide_eq_true (by omega)
          rw [if_pos hal] at hce
          go_wp2_with fail
          refine (writeStr B b _ ⟨#[59, 32]⟩ ([59, 32] : List Int) _ rfl H50.out (by simp only [List.length_append, List.length_cons, List.length_nil] at hce ⊢; omega)).mono ?_
          rintro e w51 ⟨rfl, h, k⟩
          have H51 := Lib.hid h; have K51 := Lib.hid (K50.out.trans k)
          clear h k g5 g6
          have D51 := Lib.hid (HBS.out.trans (K51.out.below.mono hSB))
          go_wp2_with fail
          refine (writeStr B b _ ⟨#[95, 32, 45, 62, 32]⟩ ([95, 32, 45, 62, 32] : List Int) _ rfl H51.out (by simp only [List.length_append, List.length_cons, List.length_nil] at hce ⊢; omega)).mono ?_
          rintro e w52 ⟨rfl, h, k⟩
          have H52 := Lib.hid h; have K52 := Lib.hid (K51.out.trans k)
          clear h k 
          have D52 := Lib.hid (HBS.out.trans (K52.out.below.mono hSB))
          have g5 := cell_later' D52.out Q5.out
          go_wp2_with fail
          refine (IH.out _ (List.getElem_mem h1lt) (HW.out _ (List.getElem_mem h1lt)) (HS.out _ (List.getElem_mem h1lt)) (HBK.out _ (List.getElem_mem h1lt)) S _ _ B b _ HA1.out (HBS.out.trans (K52.out.below.mono hSB)) hSB H52.out (by simp only [List.length_append, List.length_cons, List.length_nil] at hce ⊢; omega)).mono ?_
          rintro e w53 ⟨rfl, h, k⟩
          have H53 := Lib.hid h; have K53 := Lib.hid (K52.out.trans k)
          clear h k g5
          have D53 := Lib.hid (HBS.out.trans (K53.out.below.mono hSB))
          go_wp2_with fail
          refine (writeStr B b _ ⟨#[32, 125, 41]⟩ ([32, 125, 41] : List Int) _ rfl H53.out (by simp only [List.length_append, List.length_cons, List.length_nil] at hce ⊢; omega)).mono ?_
          rintro e w54 ⟨rfl, h, k⟩
          have H54 := Lib.hid h; have K54 := Lib.hid (K53.out.trans k)
          clear h k 
          go_wp2
          go_end0
          refine ⟨rfl, ?_, K54.out⟩
          have := H54.out
          rw [HP2.out] at this
          unfold caseText caseEnd
          rw [if_neg (by have := HNM.out; omega)]
          rw [if_pos HK1.out, if_pos hal, hgd.out]
          simpa [List.append_assoc] using this
        · have hal2 : ¬ (0 : Int) < (x.alts.length : Int) := by omega
          have hal3 : decide ((0 : Int) < (x.alts.length : Int)) = false := decide_eq_false (by omega)
          rw [if_neg hal] at hce
          go_wp2_with fail
          refine (writeStr B b _ ⟨#[95, 32, 45, 62, 32]⟩ ([95, 32, 45, 62, 32] : List Int) _ rfl H50.out (by simp only [List.length_append, List.length_cons, List.length_nil] at hce ⊢; omega)).mono ?_
          rintro e w51 ⟨rfl, h, k⟩
          have H51 := Lib.hid h; have K51 := Lib.hid (K50.out.trans k)
          clear h k g5 g6
          have D51 := Lib.hid (HBS.out.trans (K51.out.below.mono hSB))
          have g5 := cell_later' D51.out Q5.out
          go_wp2_with fail
          refine (IH.out _ (List.getElem_mem h1lt) (HW.out _ (List.getElem_mem h1lt)) (HS.out _ (List.getElem_mem h1lt)) (HBK.out _ (List.getElem_mem h1lt)) S _ _ B b _ HA1.out (HBS.out.trans (K51.out.below.mono hSB)) hSB H51.out (by simp only [List.length_append, List.length_cons, List.length_nil] at hce ⊢; omega)).mono ?_
          rintro e w52 ⟨rfl, h, k⟩
          have H52 := Lib.hid h; have K52 := Lib.hid (K51.out.trans k)
          clear h k g5
          have D52 := Lib.hid (HBS.out.trans (K52.out.below.mono hSB))
          go_wp2_with fail
          refine (writeStr B b _ ⟨#[32, 125, 41]⟩ ([32, 125, 41] : List Int) _ rfl H52.out (by simp only [List.length_append, List.length_cons, List.length_nil] at hce ⊢; omega)).mono ?_
          rintro e w53 ⟨rfl, h, k⟩
          have H53 := Lib.hid h; have K53 := Lib.hid (K52.out.trans k)
          clear h k 
          go_wp2
          go_end0
          refine ⟨rfl, ?_, K53.out⟩
          have := H53.out
          rw [HP2.out] at this
          unfold caseText caseEnd
          rw [if_neg (by have := HNM.out; omega)]
          rw [if_pos HK1.out, if_neg hal, hgd.out]
          simpa [List.append_assoc] using this
      · have hk1b : ((x.kids.length : Int) == 2) = false := beq_eq_false_iff_ne.2 (by omega)
        have hce : p2.length + (altsText x).length + 3 ≤ 1000000000 := by
          have := hp2l
          unfold caseEnd at this
          rw [if_neg hk1] at this
          simp only [List.length_append, List.length_cons, List.length_nil] at this
          omega
        go_wp2_with fail
        refine (writeStr B b _ ⟨#[32, 125, 41]⟩ ([32, 125, 41] : List Int) _ rfl H50.out (by simp only [List.length_append, List.length_cons, List.length_nil] at hce ⊢; omega)).mono ?_
        rintro e w51 ⟨rfl, h, k⟩
        have H51 := Lib.hid h; have K51 := Lib.hid (K50.out.trans k)
        clear h k g5 g6
        go_wp2
        go_end0
        refine ⟨rfl, ?_, K51.out⟩
        have := H51.out
        rw [HP2.out] at this
        unfold caseText caseEnd
        rw [if_neg (by have := HNM.out; omega)]
        rw [if_neg hk1]
        simpa [List.append_assoc] using this
end
end Go.Proofs.Ytagfphlhahiplaa.C13
namespace Go.Proofs.Ytagfphlhahiplaa.C13
open Go.RowKit Go.Proofs.YtagfphlhahiplaaW.PrintWords Go.Proofs.Ytagfphlhahiplaa.PFnExactFormatCore
set_option linter.unusedVariables false
set_option linter.unusedSimpArgs false
section
variable {S w : World} {x : CoreT} {p : Addr} {B b : Nat} {xs : List Int}
set_option maxRecDepth 100000 in
set_option maxHeartbeats 1000000 in
theorem fc_case (hk : x.kind = 8) (T : List Int) (hc : ∀ w', Below S.heap.size S w' → Bld B b xs w' → Calls Try.prog 61 #[.pointer (some ⟨b, 0, none⟩), .pointer (some p)] w' fun e w'' => FcPost T B b xs w' e w'') (hat : At S x p) (hB : Below S.heap.size S w) (hSB : S.heap.size ≤ B) (hb : Bld B b xs w) :
    Calls Try.prog 25 #[.pointer (some ⟨b, 0, none⟩), .pointer (some p)] w fun e w' => FcPost T B b xs w e w' := by
  obtain ⟨A3, c3, A4, c4, A5, c5, A6, c6, hK, g0, g1, g2, g3, g4, g5, g6⟩ := hat
  rw [hk] at g0
  have HC := Lib.hid hc; clear hc
  have HBX := Lib.hid (grown_box w (.cells #[.pointer (some ⟨b, 0, none⟩)] 54))
  have HBS := Lib.hid (Below.step hB HBX.out)
  have g0 := cell_later' HBS.out g0
  have BOX := Lib.hid (blk_alloc w 54 [.pointer (some ⟨b, 0, none⟩)])
  have bx := BOX.out.cell (j := 0) rfl
  have HBD := Lib.hid (hb.alloc (.cells #[.pointer (some ⟨b, 0, none⟩)] 54))
  have HK0 := Lib.hid (Kept.of_below (b := b) HBX.out (hb.hge (Nat.le_refl _)))
  clear hb hK g1 g2 g3 g4 g5 g6
  go_enter Try.func25, Try.ntmps25
  go_wp2_with fail
  refine (HC.out _ HBS.out HBD.out).mono ?_
  rintro e w3 ⟨rfl, h3, k3⟩
  have H3 := Lib.hid h3; have K3 := Lib.hid (HK0.out.trans k3)
  clear h3 k3
  go_wp2
  go_end0
  exact ⟨rfl, H3.out, K3.out⟩
end
theorem fc_all (x : CoreT) : FcSaid x := by
  refine coreInd FcSaid (fun x ihk iha => ?_) x
  intro hw hsh hbk S w p B b xs hat hB hSB hb hl
  have hw' := hw
  have hsh' := hsh
  rw [WfC_eq] at hw
  obtain ⟨hw1, hw2, hw3⟩ := hw
  rw [Shapes_eq] at hsh
  obtain ⟨hS, hks, has⟩ := hsh
  obtain ⟨b1, b2, b3, b4, b5⟩ := bounds hbk
  rw [fmt_eq] at hl ⊢
  obtain ⟨s1, s2, s3, s4, hkind⟩ := hS
  rcases hkind with ⟨hk, h1, h2⟩ | ⟨hk, h1, h2, h3⟩ | ⟨hk, h1, h2⟩ | ⟨hk, h1⟩ | ⟨hk, h1, h2, h3⟩ | ⟨hk, h1, h2⟩ | ⟨hk, h1, h2, h3, -⟩ | ⟨hk, h1, h2, h3, -⟩ | ⟨hk, h1, -⟩ | ⟨hk, h1, h2⟩
  · have e : fmtOf x.kind x.name x.minus x.limbs x.names x.kids x.alts (x.kids.map fmt) (x.alts.map (fun a => fmt a.body)) = bytesOf x.name := by unfold fmtOf; rw [if_pos hk]
    rw [e] at hl ⊢
    exact fc_var hk hat hB hSB hb hl
  · have e : fmtOf x.kind x.name x.minus x.limbs x.names x.kids x.alts (x.kids.map fmt) (x.alts.map (fun a => fmt a.body)) = decimal x.minus x.limbs := by unfold fmtOf; rw [hk]; rfl
    rw [e] at hl ⊢
    exact fc_num hk hw1 h3 hat hB hSB hb hl
  · have e : fmtOf x.kind x.name x.minus x.limbs x.names x.kids x.alts (x.kids.map fmt) (x.alts.map (fun a => fmt a.body)) = esc 39 x.name := by unfold fmtOf; rw [hk]; rfl
    rw [e] at hl ⊢
    exact fc_chr hk b1 hat hB hSB hb hl
  · by_cases hn : x.kids.length = 0
    · have e : fmtOf x.kind x.name x.minus x.limbs x.names x.kids x.alts (x.kids.map fmt) (x.alts.map (fun a => fmt a.body)) = bytesOf x.name := by unfold fmtOf; rw [hk, if_pos hn]; rfl
      rw [e] at hl ⊢
      exact fc_bare4 hk hn hat hB hSB hb hl
    · have e : fmtOf x.kind x.name x.minus x.limbs x.names x.kids x.alts (x.kids.map fmt) (x.alts.map (fun a => fmt a.body)) = [40] ++ bytesOf x.name ++ joins [32] false (x.kids.map fmt) ++ [41] := by unfold fmtOf; rw [hk, if_neg hn]; rfl
      rw [e] at hl ⊢
      exact fc_app4 hk hw' hsh' hbk ihk (by omega) hat hB hSB hb hl
  · have e : fmtOf x.kind x.name x.minus x.limbs x.names x.kids x.alts (x.kids.map fmt) (x.alts.map (fun a => fmt a.body)) = esc 34 x.name := by unfold fmtOf; rw [hk]; rfl
    rw [e] at hl ⊢
    exact fc_txt hk b1 hat hB hSB hb hl
  · have hlt0 : 0 < x.kids.length := by omega
    have e : fmtOf x.kind x.name x.minus x.limbs x.names x.kids x.alts (x.kids.map fmt) (x.alts.map (fun a => fmt a.body)) = ([40] : List Int) ++ (fmt x.kids[0] ++ joins [32] false ((x.kids.drop 1).map fmt)) ++ [41] := by
      have e1 : bytesOf x.name = [] := by rw [size_zero.1 h1]; rfl
      have e2 : x.kids.map fmt = fmt x.kids[0] :: (x.kids.drop 1).map fmt := by
        have h0 := List.drop_eq_getElem_cons hlt0
        rw [List.drop_zero] at h0
        conv => lhs; rw [h0]
        rfl
      unfold fmtOf; rw [hk, if_neg (show ¬ x.kids.length = 0 by omega), e1, e2]; simp [joins]
    rw [e] at hl ⊢
    exact fc_app5 hk hw' hsh' hbk ihk h2 hat hB hSB hb hl
  · have hlt0 : 0 < x.kids.length := by omega
    have e : fmtOf x.kind x.name x.minus x.limbs x.names x.kids x.alts (x.kids.map fmt) (x.alts.map (fun a => fmt a.body)) = ([40, 92] : List Int) ++ joins [32] true (x.names.map bytesOf) ++ ([32, 45, 62, 32] : List Int) ++ fmt x.kids[0] ++ ([41] : List Int) := by unfold fmtOf; rw [hk, getD_zero hlt0]; rfl
    rw [e] at hl ⊢
    exact fc_lam hk hw' hsh' hbk ihk hlt0 h3 hat hB hSB hb hl
  · have hlt : x.names.length < x.kids.length := by omega
    have e : fmtOf x.kind x.name x.minus x.limbs x.names x.kids x.alts (x.kids.map fmt) (x.alts.map (fun a => fmt a.body)) = letText x (fmt x.kids[x.names.length]) := by unfold fmtOf letText; rw [hk, getD_at _ hlt]; rfl
    rw [e] at hl ⊢
    exact fc_let hk hw' hsh' hbk ihk hlt hat hB hSB hb hl
  · have hlt0 : 0 < x.kids.length := by omega
    have e : fmtOf x.kind x.name x.minus x.limbs x.names x.kids x.alts (x.kids.map fmt) (x.alts.map (fun a => fmt a.body)) = caseText x (fmt x.kids[0]) := by
      unfold fmtOf caseText altsText caseEnd; rw [hk, getD_zero hlt0]; simp [List.append_assoc]
    rw [e] at hl ⊢
    refine fc_case hk _ (fun w' hB' hb' => ?_) hat hB hSB hb
    by_cases hn : x.name.size = 0
    · exact fcase0 hn hlt0 (by omega) hw' hsh' hbk ihk iha hat hB' hSB hb' hl
    · exact fcase1 (by omega) hlt0 (by omega) hw' hsh' hbk ihk iha hat hB' hSB hb' hl
  · by_cases hn : x.kids.length = 0
    · have e : fmtOf x.kind x.name x.minus x.limbs x.names x.kids x.alts (x.kids.map fmt) (x.alts.map (fun a => fmt a.body)) = bytesOf x.name := by unfold fmtOf; rw [hk, if_pos hn]; rfl
      rw [e] at hl ⊢
      exact fc_bare9 hk hn hat hB hSB hb hl
    · have e : fmtOf x.kind x.name x.minus x.limbs x.names x.kids x.alts (x.kids.map fmt) (x.alts.map (fun a => fmt a.body)) = [40] ++ bytesOf x.name ++ joins [32] false (x.kids.map fmt) ++ [41] := by unfold fmtOf; rw [hk, if_neg hn]; rfl
      rw [e] at hl ⊢
      exact fc_app9 hk hw' hsh' hbk ihk (by omega) hat hB hSB hb hl
end Go.Proofs.Ytagfphlhahiplaa.C13
namespace Go.Proofs.Ytagfphlhahiplaa.C13
open Go.RowKit Go.Proofs.YtagfphlhahiplaaW.PrintWords Go.Proofs.Ytagfphlhahiplaa.PFnExactFormatCore
set_option linter.unusedVariables false
set_option linter.unusedSimpArgs false
theorem okB_nil : okB [] := fun b hb => by cases hb
theorem okB_joins {sep : List Int} (hs : okB sep) : ∀ (l : List (List Int)) (f : Bool), (∀ t ∈ l, okB t) → okB (joins sep f l) := by
  intro l
  induction l with
  | nil => intro f _; exact okB_nil
  | cons a r ih =>
    intro f h
    simp only [joins]
    refine okB_app (okB_app ?_ (h a (by simp))) (ih false (fun t ht => h t (by simp [ht])))
    split
    · exact okB_nil
    · exact hs
theorem okB_lit {l : List Int} (h : l.all (fun b => decide (0 ≤ b ∧ b < 256)) = true) : okB l := fun b hb => by simpa using List.all_eq_true.1 h b hb
theorem okB_names (l : List ByteArray) (f : Bool) : okB (joins [32] f (l.map bytesOf)) := okB_joins (okB_lit (by decide)) _ _ (fun t ht => by
  obtain ⟨n, _, rfl⟩ := List.mem_map.1 ht
  exact okB_bytes n)
theorem okB_getD {l : List (List Int)} (h : ∀ t ∈ l, okB t) (i : Nat) : okB (l.getD i []) := by
  rw [List.getD_eq_getElem?_getD]
  rcases Nat.lt_or_ge i l.length with hi | hi
  · rw [List.getElem?_eq_getElem hi]; exact h _ (List.getElem_mem hi)
  · rw [List.getElem?_eq_none hi]; exact okB_nil
theorem okB_zip {α : Type} {f : α → List Int → List Int} (hf : ∀ a t, okB t → okB (f a t)) : ∀ (l : List α) (ts : List (List Int)), (∀ t ∈ ts, okB t) → ∀ t ∈ List.zipWith f l ts, okB t := by
  intro l
  induction l with
  | nil => intro ts _ t ht; simp at ht
  | cons a r ih =>
    intro ts h t ht
    cases ts with
    | nil => simp at ht
    | cons u us =>
      rw [List.zipWith_cons_cons] at ht
      rcases List.mem_cons.1 ht with rfl | ht
      · exact hf _ _ (h u (by simp))
      · exact ih us (fun v hv => h v (by simp [hv])) t ht
theorem okB_fmt (x : CoreT) : okB (fmt x) := by
  refine coreInd (fun x => okB (fmt x)) (fun c hk ha => ?_) x
  rw [fmt_eq]
  have hts : ∀ t ∈ c.kids.map fmt, okB t := fun t ht => by
    obtain ⟨y, hy, rfl⟩ := List.mem_map.1 ht
    exact hk y hy
  have hus : ∀ t ∈ c.alts.map (fun a => fmt a.body), okB t := fun t ht => by
    obtain ⟨y, hy, rfl⟩ := List.mem_map.1 ht
    exact ha y hy
  unfold fmtOf
  split
  · exact okB_bytes _
  · split
    · exact okB_decimal _ _
    · split
      · exact okB_esc (by omega) _
      · split
        · exact okB_esc (by omega) _
        · split
          · split
            · exact okB_bytes _
            · exact okB_app (okB_app (okB_app (okB_lit (by decide)) (okB_bytes _)) (okB_joins (okB_lit (by decide)) _ _ hts)) (okB_lit (by decide))
          · split
            · exact okB_app (okB_app (okB_app (okB_app (okB_lit (by decide)) (okB_names _ _)) (okB_lit (by decide))) (okB_getD hts _)) (okB_lit (by decide))
            · split
              · exact okB_app (okB_app (okB_app (okB_app (okB_lit (by decide)) (okB_joins (okB_lit (by decide)) _ _ (okB_zip (fun n t ht => okB_app (okB_app (okB_bytes _) (okB_lit (by decide))) ht) _ _ hts))) (okB_lit (by decide))) (okB_getD hts _)) (okB_lit (by decide))
              · refine okB_app (okB_app (okB_app (okB_app (okB_app (okB_app (okB_app (okB_lit (by decide)) (okB_getD hts _)) (okB_lit (by decide))) ?_) (okB_lit (by decide)))
                  (okB_joins (okB_lit (by decide)) _ _ (okB_zip (fun a t ht => okB_app (okB_app (okB_app (okB_bytes _) (okB_names _ _)) (okB_lit (by decide))) ht) _ _ hus))) ?_) (okB_lit (by decide))
                · split
                  · exact okB_nil
                  · exact okB_app (okB_bytes _) (okB_lit (by decide))
                · split
                  · refine okB_app (okB_app ?_ (okB_lit (by decide))) (okB_getD hts _)
                    split
                    · exact okB_lit (by decide)
                    · exact okB_nil
                  · exact okB_nil
/-- the text of a term that is right; of another there is none -/
noncomputable def textOf (x : CoreT) : ByteArray := open Classical in if Good x then strOfNums (fmt x) else ⟨#[]⟩
theorem textOf_good {x : CoreT} (h : Good x) : textOf x = strOfNums (fmt x) := by unfold textOf; exact if_pos h
theorem textOf_bad {x : CoreT} (h : ¬ Good x) : textOf x = ⟨#[]⟩ := by unfold textOf; exact if_neg h
set_option maxRecDepth 100000 in
set_option maxHeartbeats 1000000 in
theorem specText (x : CoreT) (hbk : bulk x ≤ 1048576) (hw : WfC x) (w : World) (cs : List Value) (hK : IC.K w x cs) :
    Calls Try.prog 6 #[.agg cs.toArray] w fun e w' => e = .returned (.string (textOf x)) ∧ Below w.heap.size w w' := by
  have hsf : ∀ w', Below w.heap.size w w' → Calls Try.prog 18 #[.agg cs.toArray] w' (FaultPost x w') := fun w' hb => specFault x hbk w' cs ((kCore _ _).K_below hb hK)
  have hfm : Shapes x → ∀ w', Below w.heap.size w w' → Calls Try.prog 19 #[.slice none 0 0, .agg cs.toArray] w' fun e w'' => ∃ v, e = .returned v ∧ (convert 48 9 v).run Try.prog w'' = .ok (.string (strOfNums (fmt x))) w'' ∧ Below w.heap.size w' w'' := fun hs w' hb => by
    refine (fmt_all x hw hs hbk w w' cs w.heap.size (.slice none 0 0) [] hK hb (Nat.le_refl _) hb.size ⟨rfl, .inl ⟨rfl, rfl⟩⟩ (by have := fmt_len x hw; simp; omega)).mono ?_
    rintro e w'' ⟨v, rfl, h⟩
    exact ⟨v, rfl, own_string Try.underlying48 Try.underlying5 Try.underlying9 h.own, h.belowB (fun k hk => by cases hk)⟩
  obtain ⟨A3, c3, A4, c4, A5, c5, A6, c6, rfl, -⟩ := core_open hK
  have HSF := Lib.hid hsf; clear hsf
  have HFM := Lib.hid hfm; clear hfm hK hw
  obtain ⟨W1, hW1, hp1, hB1, hs1⟩ := boxed w (cellsC x A3 c3 A4 c4 A5 c5 A6 c6) 36
  have BP1 := Lib.hid hp1; have HB1 := Lib.hid hB1; have HW1 := Lib.hid hW1
  clear hp1 hB1 hs1 hW1
  simp only [cellsC] at *
  go_enter Try.func6, Try.ntmps6
  go_wp2_with fail
  rw [show _ = W1 from HW1.out.symm]
  refine (HSF.out _ HB1.out).mono ?_
  rintro e w2 ⟨f, rfl, hf, hb⟩
  have BP2 := Lib.hid (BP1.out.below hb)
  have HB2 := Lib.hid (Below.step HB1.out hb)
  clear hb
  by_cases hg : Good x
  · have hf0 := hf.2 hg
    subst hf0
    have HG := Lib.hid hg
    clear hg hf
    have p0 := BP2.out.cell (j := 0) rfl
    have p1 := BP2.out.cell (j := 1) rfl
    have p2 := BP2.out.cell (j := 2) rfl
    have p3 := BP2.out.cell (j := 3) rfl
    have p4 := BP2.out.cell (j := 4) rfl
    have p5 := BP2.out.cell (j := 5) rfl
    have p6 := BP2.out.cell (j := 6) rfl
    go_wp2_with fail
    refine (HFM.out HG.out.2.2 _ HB2.out).mono ?_
    rintro e w3 ⟨v, rfl, hconv, hb3⟩
    have HB3 := Lib.hid (HB2.out.trans hb3)
    clear hb3 p0 p1 p2 p3 p4 p5 p6
    go_wp2
    go_ret
    exact ⟨by rw [textOf_good HG.out]; rfl, HB3.out⟩
  · have hf0 : f ≠ 0 := fun h => hg (hf.1 h)
    have hfb : (f != 0) = true := bne_iff_ne.2 hf0
    have HG := Lib.hid hg
    clear hg hf
    go_wp2
    go_ret
    exact ⟨by rw [textOf_bad HG.out]; rfl, HB2.out⟩
set_option maxRecDepth 100000 in
set_option maxHeartbeats 1000000 in
theorem implText (x : CoreT) (hbk : bulk x ≤ 1048576) (hw : WfC x) (w : World) (cs : List Value) (hK : IC.K w x cs) :
    Calls Try.prog 8 #[.agg cs.toArray] w fun e w' => e = .returned (.string (textOf x)) ∧ Below w.heap.size w w' := by
  have hsf : ∀ w', Below w.heap.size w w' → Calls Try.prog 24 #[.agg cs.toArray] w' (FaultPost x w') := fun w' hb => implFault x hbk w' cs ((kCore _ _).K_below hb hK)
  obtain ⟨A3, c3, A4, c4, A5, c5, A6, c6, rfl, -⟩ := core_open hK
  have HKX := Lib.hid hK
  have HSF := Lib.hid hsf; clear hsf
  have HFL := Lib.hid (show (fmt x).length ≤ 1000000000 by have := fmt_len x hw; omega)
  have HW := Lib.hid hw
  clear hK hw
  obtain ⟨W1, hW1, hp1, hB1, hs1⟩ := boxed w (cellsC x A3 c3 A4 c4 A5 c5 A6 c6) 36
  have BP1 := Lib.hid hp1; have HB1 := Lib.hid hB1; have HW1 := Lib.hid hW1
  clear hp1 hB1 hs1 hW1
  simp only [cellsC] at *
  go_enter Try.func8, Try.ntmps8
  go_wp2_with fail
  rw [show _ = W1 from HW1.out.symm]
  refine (HSF.out _ HB1.out).mono ?_
  rintro e w2 ⟨f, rfl, hf, hb⟩
  have BP2 := Lib.hid (BP1.out.below hb)
  have HB2 := Lib.hid (Below.step HB1.out hb)
  clear hb
  by_cases hg : Good x
  · have hf0 := hf.2 hg
    subst hf0
    have HG := Lib.hid hg
    clear hg hf
    have p0 := BP2.out.cell (j := 0) rfl
    have p1 := BP2.out.cell (j := 1) rfl
    have p2 := BP2.out.cell (j := 2) rfl
    have p3 := BP2.out.cell (j := 3) rfl
    have p4 := BP2.out.cell (j := 4) rfl
    have p5 := BP2.out.cell (j := 5) rfl
    have p6 := BP2.out.cell (j := 6) rfl
    have HAT := Lib.hid (show At w2 x ⟨w.heap.size, 0, none⟩ from ⟨A3, c3, A4, c4, A5, c5, A6, c6, (kCore _ _).K_below HB2.out HKX.out, p0, p1, p2, p3, p4, p5, p6⟩)
    have BF := Lib.hid (Bld.fresh w2)
    have HB3 := Lib.hid (grown_box w2 (.cells #[.pointer none, .slice none 0 0] 56))
    clear p0 p1 p2 p3 p4 p5 p6
    go_wp2_with fail
    refine (fc_all x HW.out HG.out.2.2 hbk w2 _ _ w2.heap.size w2.heap.size [] HAT.out HB3.out (Nat.le_refl _) BF.out (by have := HFL.out; simp; omega)).mono ?_
    rintro e w4 ⟨rfl, h4, k4⟩
    have H4 := Lib.hid h4; have K4 := Lib.hid k4
    clear h4 k4
    go_wp2_with fail
    refine (stringOf _ _ (fmt x) _ (by simpa using H4.out) (okB_fmt x)).mono ?_
    rintro e w5 ⟨rfl, k5⟩
    have HB5 := Lib.hid (HB2.out.trans ((HB3.out.trans (K4.out.below.trans k5.below)).mono HB2.out.size))
    clear k5
    go_wp2
    go_ret
    exact ⟨by rw [textOf_good HG.out]; rfl, HB5.out⟩
  · have hf0 : f ≠ 0 := fun h => hg (hf.1 h)
    have hfb : (f != 0) = true := bne_iff_ne.2 hf0
    have HG := Lib.hid hg
    clear hg hf
    go_wp2
    go_ret
    exact ⟨by rw [textOf_bad HG.out]; rfl, HB2.out⟩
end Go.Proofs.Ytagfphlhahiplaa.C13
namespace Go.Proofs.Ytagfphlhahiplaa.C13
open Go.RowKit Go.Proofs.YtagfphlhahiplaaW.PrintWords Go.Proofs.Ytagfphlhahiplaa.PFnExactFormatCore
set_option linter.unusedVariables false
set_option linter.unusedSimpArgs false
section
variable {H : Type} {enc : TypeId × Value → H} {w : World} {sp : Nat → Bool} {held : Bool}
/-- a slice opened, of which each element is told -/
theorem row_open {α : Type} {P : Program} (d : Kd α) (G : α → Prop) {t e : TypeId} {n : Nat} {cs : List Value} {y : DataW H × List MemPlace} (ht : P.underlying t = some (.slice e)) (hz : P.cellsOf e = d.sz)
    (hel : ∀ m, n = m + 1 → ∀ cs y, DataW.trod enc P w 0 sp held m e cs = some y → ∃ x, d.K w x cs ∧ G x) (h : DataW.trod enc P w 0 sp held n t cs = some y) :
    ∃ xs A c, cs = [.slice A xs.length c] ∧ xs.length ≤ c ∧ d.C w A xs.length xs ∧ ∀ x ∈ xs, G x := by
  rcases DataW.trod_slice ht h with ⟨rfl, _⟩ | ⟨ad, len, cap, elems, rest, m, hn, rfl, _, _, hlc, hcm, hlen, hget, _, _⟩
  · exact ⟨[], none, 0, rfl, Nat.le_refl _, ⟨rfl, Nat.zero_le _, fun h => absurd h (Nat.lt_irrefl _)⟩, fun x hx => by cases hx⟩
  · have key : ∀ k, k ≤ len → ∃ xs : List α, xs.length = k ∧ ∀ i x, xs[i]? = some x → G x ∧ ∃ c, c.length = d.sz ∧ d.K w x c ∧ ∀ j u, c[j]? = some u → w.cell? (ad.add (i * d.sz + j)) = some u := by
      intro k
      induction k with
      | zero => intro _; exact ⟨[], rfl, fun i x hx => by simp at hx⟩
      | succ k ih =>
        intro hk
        obtain ⟨xs, hxl, hx⟩ := ih (by omega)
        have h1 := hget k (by omega)
        rw [List.getElem?_eq_getElem (by omega)] at h1
        obtain ⟨cs', h2, h3⟩ := Option.bind_eq_some_iff.1 h1
        obtain ⟨x, hK, hG⟩ := hel m hn _ _ h3
        obtain ⟨_, hl', hc'⟩ := World.cells?_some h2
        refine ⟨xs ++ [x], by simp [hxl], fun i z hz' => ?_⟩
        by_cases hi : i < xs.length
        · rw [List.getElem?_append_left hi] at hz'
          exact hx i z hz'
        · rw [List.getElem?_append_right (by omega)] at hz'
          have hik : i = k := by
            rcases Nat.lt_or_ge (i - xs.length) 1 with h | h
            · omega
            · rw [List.getElem?_eq_none (by simpa using h)] at hz'; cases hz'
          subst hik
          rw [hxl, Nat.sub_self] at hz'
          injection hz' with hz'
          subst hz'
          refine ⟨hG, cs', by rw [hl', hz], hK, fun j u hj => ?_⟩
          have hjl : j < cs'.length := by
            rcases Nat.lt_or_ge j cs'.length with h | h
            · exact h
            · rw [List.getElem?_eq_none h] at hj; cases hj
          have := hc' j (by omega)
          rw [hj, hz] at this
          rw [← this]
          unfold Addr.add
          by_cases ha : i * d.sz = 0 <;> by_cases hb : j = 0 <;> simp [ha, hb, Nat.add_assoc]
    obtain ⟨xs, hxl, hx⟩ := key len (Nat.le_refl _)
    refine ⟨xs, some ad, cap, by rw [hxl], by omega, ⟨rfl, by unfold maxLen at hcm; omega, fun _ => ⟨ad, rfl, fun i x hi => (hx i x hi).2⟩⟩, fun x hxm => ?_⟩
    obtain ⟨i, hi, rfl⟩ := List.getElem_of_mem hxm
    exact (hx i _ (List.getElem?_eq_getElem hi)).1
theorem open_strs {n : Nat} {cs : List Value} {y : DataW H × List MemPlace} (h : DataW.trod enc Try.prog w 0 sp held n 25 cs = some y) :
    ∃ xs A c, cs = [.slice A xs.length c] ∧ xs.length ≤ c ∧ Kd.string.C w A xs.length xs ∧ ∀ x ∈ xs, x.size ≤ 9223372036854775807 :=
  row_open Kd.string (fun x => x.size ≤ 9223372036854775807) Try.underlying25 (by kernel_rfl) (fun m _ cs y hy => by
    obtain ⟨s, rfl, _, hs⟩ := DataW.trod_string Try.underlying9 hy
    exact ⟨s, rfl, hs⟩) h
theorem open_u32s {n : Nat} {cs : List Value} {y : DataW H × List MemPlace} (h : DataW.trod enc Try.prog w 0 sp held n 22 cs = some y) :
    ∃ xs A c, cs = [.slice A xs.length c] ∧ xs.length ≤ c ∧ (Kd.int .u32).C w A xs.length xs ∧ ∀ x ∈ xs, 0 ≤ x ∧ x < 4294967296 :=
  row_open (Kd.int .u32) (fun x => 0 ≤ x ∧ x < 4294967296) Try.underlying22 (by kernel_rfl) (fun m _ cs y hy => by
    obtain ⟨s, rfl, _, hs⟩ := DataW.trod_int Try.underlying108 hy
    simp [Lit.wf, IntKind.min, IntKind.max, IntKind.signed, IntKind.bits] at hs
    exact ⟨s, rfl, by omega⟩) h
set_option maxRecDepth 100000 in
theorem open_big {n : Nat} {cs : List Value} {y : DataW H × List MemPlace} (h : DataW.trod enc Try.prog w 0 sp held n 24 cs = some y) :
    ∃ b l A c, cs = [.bool b, .slice A l.length c] ∧ l.length ≤ c ∧ (Kd.int .u32).C w A l.length l ∧ okLimbs l := by
  obtain ⟨xs, m, rfl, rfl, hl, hxl, hf⟩ := DataW.trod_struct Try.underlying24 h
  have hc2 : Try.prog.cellsOf 24 = 2 := by kernel_rfl
  have hcb : Try.prog.cellsOf 4 = 1 := by kernel_rfl
  have hcs : Try.prog.cellsOf 22 = 1 := by kernel_rfl
  rw [hc2] at hl
  match xs, hxl, cs, hl with
  | [y0, y1], _, [v0, v1], _ =>
    have h0 : DataW.trod enc Try.prog w 0 sp held m 4 (([v0, v1].drop 0).take (Try.prog.cellsOf 4)) = some y0 := hf 0 _ rfl
    have h1 : DataW.trod enc Try.prog w 0 sp held m 22 (([v0, v1].drop 1).take (Try.prog.cellsOf 22)) = some y1 := hf 1 _ rfl
    simp only [hcb, hcs] at h0 h1
    obtain ⟨b, e0, _⟩ := DataW.trod_bool Try.underlying4 h0
    obtain ⟨l, A, c, e1, h2, h3, h4⟩ := open_u32s h1
    simp at e0 e1
    subst e0 e1
    exact ⟨b, l, A, c, rfl, h2, h3, h4⟩
abbrev UP (n : Nat) : Kd CoreT := Kd.upto (fCore 29 73) 7 (eCore 29 73) n
theorem UP_le {n m : Nat} (h : n ≤ m) {x : CoreT} {cs : List Value} (hk : (UP n).K w x cs) : (UP m).K w x cs := Kd.upto_K_le (mono_core _ _) (sz_core _ _) h hk
def CoreOpen (enc : TypeId × Value → H) (w : World) (sp : Nat → Bool) (held : Bool) (n : Nat) : Prop :=
  ∀ (cs : List Value) (y : DataW H × List MemPlace), DataW.trod enc Try.prog w 0 sp held n 29 cs = some y → ∃ x, (UP n).K w x cs ∧ Fine x ∧ WfC x
set_option maxRecDepth 100000 in
theorem open_alt {n N : Nat} (hN : n ≤ N + 1) (ih : ∀ m, m < n → CoreOpen enc w sp held m) {cs : List Value} {y : DataW H × List MemPlace} (h : DataW.trod enc Try.prog w 0 sp held n 73 cs = some y) :
    ∃ a : AltT, (kAlt (UP N)).K w a cs ∧ Afine a ∧ WfC a.body := by
  obtain ⟨xs, m, rfl, rfl, hl, hxl, hf⟩ := DataW.trod_struct Try.underlying73 h
  have hc9 : Try.prog.cellsOf 73 = 9 := by kernel_rfl
  have hc1 : Try.prog.cellsOf 9 = 1 := by kernel_rfl
  have hc2 : Try.prog.cellsOf 25 = 1 := by kernel_rfl
  have hc7 : Try.prog.cellsOf 29 = 7 := by kernel_rfl
  rw [hc9] at hl
  match xs, hxl, cs, hl with
  | [y0, y1, y2], _, [v0, v1, v2, v3, v4, v5, v6, v7, v8], _ =>
    have h0 : DataW.trod enc Try.prog w 0 sp held m 9 (([v0, v1, v2, v3, v4, v5, v6, v7, v8].drop 0).take (Try.prog.cellsOf 9)) = some y0 := hf 0 _ rfl
    have h1 : DataW.trod enc Try.prog w 0 sp held m 25 (([v0, v1, v2, v3, v4, v5, v6, v7, v8].drop 1).take (Try.prog.cellsOf 25)) = some y1 := hf 1 _ rfl
    have h2 : DataW.trod enc Try.prog w 0 sp held m 29 (([v0, v1, v2, v3, v4, v5, v6, v7, v8].drop 2).take (Try.prog.cellsOf 29)) = some y2 := hf 2 _ rfl
    simp only [hc1, hc2, hc7] at h0 h1 h2
    obtain ⟨s, e0, _, hs⟩ := DataW.trod_string Try.underlying9 h0
    obtain ⟨l, A, c, e1, l1, g1, f1⟩ := open_strs h1
    obtain ⟨x, hK, hF, hW⟩ := ih m (by omega) _ _ h2
    simp at e0 e1 hK
    subst e0 e1
    refine ⟨⟨s, l, x⟩, ⟨[_], _, rfl, rfl, ⟨[_], _, rfl, ⟨A, c, rfl, l1, g1⟩, UP_le (by omega) hK⟩⟩, ?_, hW⟩
    rw [Afine]
    exact ⟨hs, f1, hF⟩
theorem Fines_of {l : List CoreT} (h : ∀ x ∈ l, Fine x) : Fines l := by
  induction l with
  | nil => trivial
  | cons c r ih => exact ⟨h c (by simp), ih (fun x hx => h x (by simp [hx]))⟩
theorem Afines_of {l : List AltT} (h : ∀ x ∈ l, Afine x) : Afines l := by
  induction l with
  | nil => trivial
  | cons c r ih => exact ⟨h c (by simp), ih (fun x hx => h x (by simp [hx]))⟩
theorem WfCs_of {l : List CoreT} (h : ∀ x ∈ l, WfC x) : WfCs l := by
  induction l with
  | nil => trivial
  | cons c r ih => exact ⟨h c (by simp), ih (fun x hx => h x (by simp [hx]))⟩
theorem WfAs_of {l : List AltT} (h : ∀ x ∈ l, WfC x.body) : WfAs l := by
  induction l with
  | nil => trivial
  | cons c r ih =>
    rw [WfAs, WfA_eq]
    exact ⟨h c (by simp), ih (fun x hx => h x (by simp [hx]))⟩
set_option maxRecDepth 100000 in
theorem open_core : ∀ n, CoreOpen enc w sp held n := by
  intro n
  induction n using Nat.strongRecOn with
  | _ n ih =>
  intro cs y h
  obtain ⟨xs, m, rfl, rfl, hl, hxl, hf⟩ := DataW.trod_struct Try.underlying29 h
  have hc7 : Try.prog.cellsOf 29 = 7 := by kernel_rfl
  have hci : Try.prog.cellsOf 2 = 1 := by kernel_rfl
  have hcs : Try.prog.cellsOf 9 = 1 := by kernel_rfl
  have hcb : Try.prog.cellsOf 24 = 2 := by kernel_rfl
  have hcn : Try.prog.cellsOf 25 = 1 := by kernel_rfl
  have hck : Try.prog.cellsOf 26 = 1 := by kernel_rfl
  have hca : Try.prog.cellsOf 27 = 1 := by kernel_rfl
  rw [hc7] at hl
  match xs, hxl, cs, hl with
  | [y0, y1, y2, y3, y4, y5], _, [v0, v1, v2, v3, v4, v5, v6], _ =>
    have h0 : DataW.trod enc Try.prog w 0 sp held m 2 (([v0, v1, v2, v3, v4, v5, v6].drop 0).take (Try.prog.cellsOf 2)) = some y0 := hf 0 _ rfl
    have h1 : DataW.trod enc Try.prog w 0 sp held m 9 (([v0, v1, v2, v3, v4, v5, v6].drop 1).take (Try.prog.cellsOf 9)) = some y1 := hf 1 _ rfl
    have h2 : DataW.trod enc Try.prog w 0 sp held m 24 (([v0, v1, v2, v3, v4, v5, v6].drop 2).take (Try.prog.cellsOf 24)) = some y2 := hf 2 _ rfl
    have h3 : DataW.trod enc Try.prog w 0 sp held m 25 (([v0, v1, v2, v3, v4, v5, v6].drop 4).take (Try.prog.cellsOf 25)) = some y3 := hf 3 _ rfl
    have h4 : DataW.trod enc Try.prog w 0 sp held m 26 (([v0, v1, v2, v3, v4, v5, v6].drop 5).take (Try.prog.cellsOf 26)) = some y4 := hf 4 _ rfl
    have h5 : DataW.trod enc Try.prog w 0 sp held m 27 (([v0, v1, v2, v3, v4, v5, v6].drop 6).take (Try.prog.cellsOf 27)) = some y5 := hf 5 _ rfl
    simp only [hci, hcs, hcb, hcn, hck, hca] at h0 h1 h2 h3 h4 h5
    obtain ⟨k, e0, _, -⟩ := DataW.trod_int Try.underlying2 h0
    obtain ⟨s, e1, _, hs⟩ := DataW.trod_string Try.underlying9 h1
    obtain ⟨b, ls, A3, c3, e2, l3, g3, o3⟩ := open_big h2
    obtain ⟨ns, A4, c4, e3, l4, g4, f4⟩ := open_strs h3
    obtain ⟨ks, A5, c5, e4, l5, g5, f5⟩ := row_open (UP m) (fun x => Fine x ∧ WfC x) Try.underlying26 (show Try.prog.cellsOf 29 = _ by rw [hc7, sz_core]) (fun j hj cs y hy => by
      obtain ⟨x, hx, hF, hW⟩ := ih j (by omega) cs y hy
      exact ⟨x, UP_le (by omega) hx, hF, hW⟩) h4
    obtain ⟨als, A6, c6, e5, l6, g6, f6⟩ := row_open (kAlt (UP m)) (fun a => Afine a ∧ WfC a.body) Try.underlying27 (show Try.prog.cellsOf 73 = _ by rw [show Try.prog.cellsOf 73 = 9 by kernel_rfl]; show 9 = 1 + (1 + (UP m).sz); rw [sz_core]) (fun j hj cs y hy =>
      open_alt (by omega) (fun i hi => ih i (by omega)) hy) h5
    simp at e0 e1 e2 e3 e4 e5
    obtain ⟨rfl, rfl⟩ := e2
    subst e0 e1 e3 e4 e5
    refine ⟨⟨k, s, b, ls, ns, ks, als⟩, ⟨[_], _, rfl, rfl, ⟨[_], _, rfl, rfl, ⟨[_], _, rfl, rfl, ⟨[_], _, rfl, ⟨A3, c3, rfl, l3, g3⟩, ⟨[_], _, rfl, ⟨A4, c4, rfl, l4, g4⟩, ⟨[_], _, rfl, ⟨A5, c5, rfl, l5, g5⟩, ⟨A6, c6, rfl, l6, g6⟩⟩⟩⟩⟩⟩⟩, ?_, ?_⟩
    · rw [Fine]
      exact ⟨hs, f4, Fines_of (fun x hx => (f5 x hx).1), Afines_of (fun x hx => (f6 x hx).1)⟩
    · rw [WfC]
      exact ⟨o3, WfCs_of (fun x hx => (f5 x hx).2), WfAs_of (fun x hx => (f6 x hx).2)⟩
theorem open_arg {n : Nat} {cs : List Value} {y : DataW H × List MemPlace} (h : DataW.trod enc Try.prog w 0 sp held n 29 cs = some y) : ∃ x, LC.K w x cs ∧ Fine x ∧ WfC x := by
  obtain ⟨x, hK, h1, h2⟩ := open_core n cs y h
  exact ⟨x, ⟨n, hK⟩, h1, h2⟩
end
end Go.Proofs.Ytagfphlhahiplaa.C13
namespace Go.Proofs.Ytagfphlhahiplaa.C13
open Go.RowKit Go.Proofs.YtagfphlhahiplaaW.PrintWords Go.Proofs.Ytagfphlhahiplaa.PFnExactFormatCore
set_option linter.unusedVariables false
set_option linter.unusedSimpArgs false
set_option maxRecDepth 100000 in
set_option maxHeartbeats 2000000 in
theorem law_fc (x : CoreT) (hf : Fine x) (hw : WfC x) (w : World) (cs : List Value) (hK : LC.K w x cs) :
    Calls Try.prog 3 #[.agg cs.toArray] w fun e w' => e = .returned (.bool true) ∧ Below w.heap.size w w' := by
  have hsz : ∀ w', Below w.heap.size w w' → Calls Try.prog 5 #[.agg cs.toArray, .int .i64 1048576] w' fun e w'' => e = .returned (.int .i64 (cut (bulk x) 1048576)) ∧ Below w'.heap.size w' w'' := fun w' hb =>
    sz_all x hf w' cs 1048576 (by omega) (by omega) ((kCore _ _).K_below hb hK)
  have hto : bulk x ≤ 1048576 → ∀ w', Below w.heap.size w w' → Calls Try.prog 7 #[.agg cs.toArray] w' (ToPost 36 80 x w') := fun hbk w' hb =>
    to_all x hbk w' cs ((kCore _ _).K_below hb hK)
  obtain ⟨A3, c3, A4, c4, A5, c5, A6, c6, rfl, -⟩ := core_open hK
  have HSZ := Lib.hid hsz; have HTO := Lib.hid hto; have HW := Lib.hid hw
  clear hsz hto hK hf hw
  obtain ⟨W1, hW1, hp1, hB1, hs1⟩ := boxed w (cellsC x A3 c3 A4 c4 A5 c5 A6 c6) 29
  have BP1 := Lib.hid hp1; have HB1 := Lib.hid hB1; have HW1 := Lib.hid hW1
  have p0 := hp1.cell (j := 0) rfl; have p1 := hp1.cell (j := 1) rfl; have p2 := hp1.cell (j := 2) rfl; have p3 := hp1.cell (j := 3) rfl
  have p4 := hp1.cell (j := 4) rfl; have p5 := hp1.cell (j := 5) rfl; have p6 := hp1.cell (j := 6) rfl
  rw [hW1] at p0 p1 p2 p3 p4 p5 p6
  clear hp1 hB1 hs1 hW1
  simp only [cellsC] at *
  go_enter Try.func3, Try.ntmps3
  go_wp2_with fail
  rw [show _ = W1 from HW1.out.symm]
  refine (HSZ.out _ HB1.out).mono ?_
  rintro e w2 ⟨rfl, hb2⟩
  clear p0 p1 p2 p3 p4 p5 p6
  have BP2 := Lib.hid (BP1.out.below hb2)
  have HB2 := Lib.hid (Below.step HB1.out hb2)
  clear hb2
  by_cases hn : (1048576 : Int) < bulk x
  · rw [cut_neg hn]
    go_wp2
    go_ret
    exact ⟨rfl, HB2.out⟩
  · have hbk : bulk x ≤ 1048576 := by omega
    rw [cut_pos hn]
    have hlf : decide ((1048576 : Int) - bulk x < 0) = false := decide_eq_false (by omega)
    have hl2 : ¬ ((1048576 : Int) - bulk x < 0) := by omega
    generalize (1048576 : Int) - bulk x = lf at *
    have HTO := Lib.hid (HTO.out hbk)
    have p0 := BP2.out.cell (j := 0) rfl; have p1 := BP2.out.cell (j := 1) rfl; have p2 := BP2.out.cell (j := 2) rfl; have p3 := BP2.out.cell (j := 3) rfl
    have p4 := BP2.out.cell (j := 4) rfl; have p5 := BP2.out.cell (j := 5) rfl; have p6 := BP2.out.cell (j := 6) rfl
    go_wp2_with fail
    refine (HTO.out _ HB2.out).mono ?_
    rintro e w3 ⟨cs1, F1, rfl, ho1, -, -, hb3⟩
    clear p0 p1 p2 p3 p4 p5 p6
    have BP3 := Lib.hid (BP2.out.below hb3)
    have HB3 := Lib.hid (Below.step HB2.out hb3)
    have HO1 := Lib.hid (own_K ho1)
    clear hb3 ho1
    go_wp2_with fail
    refine (specText x hbk HW.out _ cs1 HO1.out).mono ?_
    rintro e w4 ⟨rfl, hb4⟩
    have BP4 := Lib.hid (BP3.out.below hb4)
    have HB4 := Lib.hid (Below.step HB3.out hb4)
    clear hb4 HO1
    have p0 := BP4.out.cell (j := 0) rfl; have p1 := BP4.out.cell (j := 1) rfl; have p2 := BP4.out.cell (j := 2) rfl; have p3 := BP4.out.cell (j := 3) rfl
    have p4 := BP4.out.cell (j := 4) rfl; have p5 := BP4.out.cell (j := 5) rfl; have p6 := BP4.out.cell (j := 6) rfl
    go_wp2_with fail
    refine (HTO.out _ HB4.out).mono ?_
    rintro e w5 ⟨cs2, F2, rfl, ho2, -, -, hb5⟩
    clear p0 p1 p2 p3 p4 p5 p6
    have BP5 := Lib.hid (BP4.out.below hb5)
    have HB5 := Lib.hid (Below.step HB4.out hb5)
    have hK2 := own_K ho2
    obtain ⟨D3, d3, D4, d4, D5, d5, D6, d6, rfl, -⟩ := core_open hK2
    have HK2 := Lib.hid hK2
    clear hb5 ho2 hK2
    simp only [cellsC] at *
    have hzero : Hid (Below w5.heap.size w5 (w5.alloc (.cells #[.int .i64 x.kind, .string x.name, .bool x.minus, .slice D3 x.limbs.length d3, .slice D4 x.names.length d4, .slice D5 x.kids.length d5, .slice D6 x.alts.length d6] 36))) := Lib.hid (grown_box w5 _)
    go_wp2_with fail
    have BX0 := Lib.hid (blk_alloc w5 36 [.int .i64 x.kind, .string x.name, .bool x.minus, .slice D3 x.limbs.length d3, .slice D4 x.names.length d4, .slice D5 x.kids.length d5, .slice D6 x.alts.length d6])
    have BP6 := Lib.hid (BP5.out.alloc (.cells #[.int .i64 x.kind, .string x.name, .bool x.minus, .slice D3 x.limbs.length d3, .slice D4 x.names.length d4, .slice D5 x.kids.length d5, .slice D6 x.alts.length d6] 36))
    have HB6 := Lib.hid (Below.step HB5.out hzero.out)
    have HK6 := Lib.hid ((kCore _ _).K_below hzero.out HK2.out)
    refine (implText x hbk HW.out _ _ HK6.out).mono ?_
    rintro e w7 ⟨rfl, hb7⟩
    have BX7 := Lib.hid (BX0.out.below hb7)
    have BP7 := Lib.hid (BP6.out.below hb7)
    have HB7 := Lib.hid (Below.step HB6.out hb7)
    have HK7 := Lib.hid ((kCore _ _).K_below hb7 HK6.out)
    clear hb7
    go_wp2_with fail
    have KEEP : Hid (∀ w', Below w7.heap.size w7.drew w' → w'.cell? ⟨w.heap.size, 0, none⟩ = some (.int .i64 x.kind) ∧ w'.cell? ⟨w.heap.size, 1, none⟩ = some (.string x.name) ∧ w'.cell? ⟨w.heap.size, 2, none⟩ = some (.bool x.minus) ∧ w'.cell? ⟨w.heap.size, 3, none⟩ = some (.slice A3 x.limbs.length c3) ∧ w'.cell? ⟨w.heap.size, 4, none⟩ = some (.slice A4 x.names.length c4) ∧ w'.cell? ⟨w.heap.size, 5, none⟩ = some (.slice A5 x.kids.length c5) ∧ w'.cell? ⟨w.heap.size, 6, none⟩ = some (.slice A6 x.alts.length c6) ∧ w'.cell? ⟨w5.heap.size, 0, none⟩ = some (.int .i64 x.kind) ∧ w'.cell? ⟨w5.heap.size, 1, none⟩ = some (.string x.name) ∧ w'.cell? ⟨w5.heap.size, 2, none⟩ = some (.bool x.minus) ∧ w'.cell? ⟨w5.heap.size, 3, none⟩ = some (.slice D3 x.limbs.length d3) ∧ w'.cell? ⟨w5.heap.size, 4, none⟩ = some (.slice D4 x.names.length d4) ∧ w'.cell? ⟨w5.heap.size, 5, none⟩ = some (.slice D5 x.kids.length d5) ∧ w'.cell? ⟨w5.heap.size, 6, none⟩ = some (.slice D6 x.alts.length d6)) := Lib.hid (fun w' hb => by
      have h1 := BP7.out.below (show Below w7.heap.size w7 w' from (below_drew (Below.refl _ _)).trans hb)
      have h2 := BX7.out.below (show Below w7.heap.size w7 w' from (below_drew (Below.refl _ _)).trans hb)
      exact ⟨h1.cell (j := 0) rfl, h1.cell (j := 1) rfl, h1.cell (j := 2) rfl, h1.cell (j := 3) rfl, h1.cell (j := 4) rfl, h1.cell (j := 5) rfl, h1.cell (j := 6) rfl, h2.cell (j := 0) rfl, h2.cell (j := 1) rfl, h2.cell (j := 2) rfl, h2.cell (j := 3) rfl, h2.cell (j := 4) rfl, h2.cell (j := 5) rfl, h2.cell (j := 6) rfl⟩)
    have HB7d := Lib.hid (show Below w.heap.size w w7.drew from below_drew HB7.out)
    have hb0 : Below w7.heap.size w7.drew w7.drew := Below.refl _ _
    go_region_held3 (fun w' => w'.cell? ⟨w.heap.size, 0, none⟩ = some (.int .i64 x.kind) ∧ w'.cell? ⟨w.heap.size, 1, none⟩ = some (.string x.name) ∧ w'.cell? ⟨w.heap.size, 2, none⟩ = some (.bool x.minus) ∧ w'.cell? ⟨w.heap.size, 3, none⟩ = some (.slice A3 x.limbs.length c3) ∧ w'.cell? ⟨w.heap.size, 4, none⟩ = some (.slice A4 x.names.length c4) ∧ w'.cell? ⟨w.heap.size, 5, none⟩ = some (.slice A5 x.kids.length c5) ∧ w'.cell? ⟨w.heap.size, 6, none⟩ = some (.slice A6 x.alts.length c6) ∧ w'.cell? ⟨w5.heap.size, 0, none⟩ = some (.int .i64 x.kind) ∧ w'.cell? ⟨w5.heap.size, 1, none⟩ = some (.string x.name) ∧ w'.cell? ⟨w5.heap.size, 2, none⟩ = some (.bool x.minus) ∧ w'.cell? ⟨w5.heap.size, 3, none⟩ = some (.slice D3 x.limbs.length d3) ∧ w'.cell? ⟨w5.heap.size, 4, none⟩ = some (.slice D4 x.names.length d4) ∧ w'.cell? ⟨w5.heap.size, 5, none⟩ = some (.slice D5 x.kids.length d5) ∧ w'.cell? ⟨w5.heap.size, 6, none⟩ = some (.slice D6 x.alts.length d6)) (first | exact KEEP.out _ (hb8.trans (hb9.mono hb8.size)) | exact KEEP.out _ hb8 | exact KEEP.out _ hb0)
      (first
        | (go_at_call 7; refine (HTO.out _ HB7d.out).mono ?_; rintro e w8 ⟨cs3, F3, rfl, ho3, -, -, hb8⟩)
        | (go_at_call 9; refine (eq_all x _ _ cs3 ((kCore _ _).K_below hb8 ((kCore _ _).K_below (below_drew (Below.refl _ _)) HK7.out)) (own_K ho3)).mono ?_; rintro e w9 ⟨rfl, hb9⟩))
    all_goals
      rename_i hheld
      have HB9 := Lib.hid (below_drew HB7.out |>.trans ((hb8.trans (hb9.mono hb8.size)).mono HB7.out.size))
      clear hheld hb8 hb9 ho3 hb0
      go_wp2
      go_ret
      exact ⟨rfl, HB9.out⟩
end Go.Proofs.Ytagfphlhahiplaa.C13
namespace Go.Proofs.Ytagfphlhahiplaa.C13
open Go.ChangeShapes Go.WideShapes Go.ChangeAt Go.RowKit
set_option linter.unusedVariables false
theorem own_knob : ownKnob Try.prog.godebug = none := by kernel_rfl
theorem laid_out : laidOutB Try.prog = true := by kernel_rfl
set_option maxRecDepth 100000 in
theorem fc_lifted (os : Os) (started : os.Started) (H : Type) (enc : TypeId × Value → H) :
    ReturnsInHanded {} Try.checked os 3 .any (Rows.fnExactFormatCoreSpec.pre6 enc Try.prog Try.f3 Rows.fnExactFormatCoreRow.domain false) (Rows.fnExactFormatCoreSpec.post enc Try.prog Try.f3 false true false false) := by
  refine returnsInHanded_of_change (C := Try.checked) own_knob started (by kernel_rfl) Try.func3
    (ChangeSpec.witness6 (enc := enc) (C := Try.checked) false ⟨#[], #[.agg #[.int .i64 0, .string ⟨#[]⟩, .bool false, .slice none 0 0, .slice none 0 0, .slice none 0 0, .slice none 0 0]], []⟩ 8 (by kernel_rfl) (by kernel_rfl) (by kernel_rfl) (by kernel_rfl)) ?_
  intro W base args ds gs before hval0 hW _ _
  have hval : ∀ (j : Nat) t v, Try.f3.params[j]? = some t → args[j]? = some v → Value.okWide Try.prog W .any base t v := hval0
  have hW' := hW
  obtain ⟨p, q, hA0, hV, rfl, _, _⟩ := hW
  have hA : DataW.TrodAll enc Try.prog W 0 (fun _ => true) true Try.f3.params.toList args.toList ds p := hA0
  rw [Try.params3] at hA hval
  obtain ⟨v0, d0, rfl, rfl, h0⟩ := trodAll_one hA
  obtain ⟨rfl, rfl⟩ := trodVars_none hV
  obtain ⟨cs, rfl, _⟩ := okWide_struct Try.underlying29 (hval 0 29 v0 rfl rfl)
  have k0 := h0
  have lt0 : ∀ x ∈ p, x.block < W.heap.size := by obtain ⟨m, hm⟩ := k0; exact DataW.trod_lt m _ _ _ hm
  obtain ⟨fuel, hf⟩ := h0
  obtain ⟨x, hK, hF, hw⟩ := open_arg (cs := cs.toList) hf
  clear hA0 hval0 hf
  have hlaw := law_fc x hF hw W cs.toList hK
  rw [Array.toArray_toList] at hlaw
  refine hlaw.mono fun e W' ⟨he, bel⟩ => ?_
  subst he
  exact ⟨_, rfl, _, _, _, [], _, [], hW', trodAll_mk1 (shut_bool Try.underlying4 _), trodAll_mk1 (Below.trod laid_out (by kernel_rfl) (of_decide_eq_true (by kernel_rfl)) k0 bel lt0), rfl, bel.frame _, fun h => by cases h⟩
theorem fc_over : Rows.fnExactFormatCoreRow.holds Try.pinned (OpenSpec.ofChange Rows.fnExactFormatCoreSpec) :=
  OpenClaim.holds_of_wide 3 Try.f3 rfl rfl rfl rfl rfl rfl rfl ⟨rfl, rfl, rfl, rfl, rfl⟩ rfl rfl rfl rfl rfl (by kernel_rfl) Try.func3 (by kernel_rfl)
    (of_decide_eq_true (by kernel_rfl)) (by unfold Func.isWrapper; first | (rw [if_pos (by decide +kernel)]; kernel_rfl) | (rw [if_neg (by decide +kernel)]; exact ⟨rfl, rfl⟩))
    (fun os started H enc _ => fc_lifted os started H enc)
end Go.Proofs.Ytagfphlhahiplaa.C13
namespace Go.Proofs.Ytagfphlhahiplaa
/-- FnExactFormatCore answers true at every term. -/
theorem fnExactFormatCore_holds : Rows.FnExactFormatCoreSaid := C13.fc_over
#print axioms fnExactFormatCore_holds
end Go.Proofs.Ytagfphlhahiplaa
