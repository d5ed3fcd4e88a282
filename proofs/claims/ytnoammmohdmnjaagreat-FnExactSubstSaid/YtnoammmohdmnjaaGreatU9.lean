import Derived.Test.YtnoammmohdmnjaaGreatU8
set_option maxRecDepth 100000
set_option maxHeartbeats 16000000
set_option linter.unusedVariables false
set_option linter.unusedSimpArgs false
namespace Go.Proofs.YtnoammmohdmnjaaGreat.C13
open Go.RowKit Go.Proofs.YtnoammmohdmnjaaGreatW.PrintWords
open List renaming setIfInBounds_toArray → Jla, set_cons_zero → Jlb, set_cons_succ → Jlc
def Zp : List AltT → Nat
 | [] => 0
 | a :: r => a.names.length + Zp r
mutual
def Qr : CoreT → Nat
 | ⟨_, _, _, _, names, kids, alts⟩ => 1 + names.length + Zp alts + Zb kids + Qy alts
def Zb : List CoreT → Nat
 | [] => 0
 | c :: r => Qr c + Zb r
def Qy : List AltT → Nat
 | [] => 0
 | a :: r => qrx a + Qy r
def qrx : AltT → Nat
 | ⟨_, _, b⟩ => Qr b
end
theorem Zj (c : CoreT) : Qr c = 1 + c.names.length + Zp c.alts + Zb c.kids + Qy c.alts := by cases c; rw [Qr]
theorem Xr (a : AltT) : qrx a = Qr a.body := by cases a; rw [qrx]
theorem qha (l : List CoreT) (x : CoreT) : Zb (l ++ [x]) = Zb l + Qr x := by
 induction l with
 | nil => simp [Zb]
 | cons c r ih => simp only [List.cons_append, Zb, ih]; omega
theorem qeb (l : List AltT) (x : AltT) : Qy (l ++ [x]) = Qy l + Qr x.body := by
 induction l with
 | nil => simp [Qy, Xr]
 | cons c r ih => simp only [List.cons_append, Qy, ih]; omega
theorem Vz (l : List AltT) (x : AltT) : Zp (l ++ [x]) = Zp l + x.names.length := by
 induction l with
 | nil => simp [Zp]
 | cons c r ih => simp only [List.cons_append, Zp, ih]; omega
theorem qks (l : List CoreT) (x : CoreT) : qdd (l ++ [x]) = max (qdd l) (dep x) := by
 induction l with
 | nil => simp [qdd]
 | cons c r ih => simp only [List.cons_append, qdd, ih]; omega
theorem qho (l : List AltT) (x : AltT) : Yt (l ++ [x]) = max (Yt l) (dep x.body) := by
 induction l with
 | nil => simp [Yt, qdl]
 | cons c r ih => simp only [List.cons_append, Yt, ih]; omega
theorem quy (l : List CoreT) (k : Nat) : Zb (l.take k) ≤ Zb l := by
 induction l generalizing k with
 | nil => simp
 | cons c r ih => cases k with
  | zero => simp [Zb]
  | succ k => simp only [List.take_succ_cons, Zb]; have := ih k; omega
theorem qpn (l : List AltT) (k : Nat) : Qy (l.take k) ≤ Qy l := by
 induction l generalizing k with
 | nil => simp
 | cons c r ih => cases k with
  | zero => simp [Qy]
  | succ k => simp only [List.take_succ_cons, Qy]; have := ih k; omega
theorem qkl (l : List AltT) (k : Nat) : Zp (l.take k) ≤ Zp l := by
 induction l generalizing k with
 | nil => simp
 | cons c r ih => cases k with
  | zero => simp [Zp]
  | succ k => simp only [List.take_succ_cons, Zp]; have := ih k; omega
theorem qzy (l : List CoreT) (k : Nat) : qdd (l.take k) ≤ qdd l := by
 induction l generalizing k with
 | nil => simp
 | cons c r ih => cases k with
  | zero => simp [qdd]
  | succ k => simp only [List.take_succ_cons, qdd]; have := ih k; omega
theorem qvm (l : List AltT) (k : Nat) : Yt (l.take k) ≤ Yt l := by
 induction l generalizing k with
 | nil => simp
 | cons c r ih => cases k with
  | zero => simp [Yt]
  | succ k => simp only [List.take_succ_cons, Yt]; have := ih k; omega
theorem Qf {α : Type} {l : List α} {k : Nat} (h : k < l.length) : l.take (k + 1) = l.take k ++ [l[k]] := List.take_succ_eq_append_getElem h
theorem qci (l : List AltT) : Zp l ≤ Qq l := by
 induction l with
 | nil => simp [Zp]
 | cons c r ih => rw [Zp, Qq, Zo]; have := Qn c.names; omega
theorem Kh {w a b : World} {g : Option Nat} (h : w.grownBy a g) (k : a.grownBy b g) : w.grownBy b g :=
 ⟨k.os.trans h.os, k.tape.trans h.tape, k.output.trans h.output, Nat.le_trans h.size k.size, fun i hi hn => (k.block i (Nat.lt_of_lt_of_le hi h.size) hn).trans (h.block i hi hn)⟩
theorem Ky {w w' : World} (h : Below w.heap.size w w') (g : Option Nat) : w.grownBy w' g := ⟨h.os, h.tape, h.output, h.size, fun i hi _ => h.block i hi⟩
theorem Zm {S w w' : World} {b : Nat} (h : Below S.heap.size S w) (hg : w.grownBy w' (some b)) (hb : S.heap.size ≤ b) : Below S.heap.size S w' := Ze h hg hb
theorem Gv {w w' : World} {r : Option Nat} (h : w.drew.grownBy w' r) : w.grownBy w' r := ⟨h.os, h.tape, h.output, h.size, h.block⟩
def qvk (x : CoreT) (deep L : Int) (b : Nat) (w : World) (e : Ending) (w' : World) : Prop :=
 w.grownBy w' (some b) ∧ ((e = .returned (.bool true) ∧ (Qr x : Int) ≤ L ∧ deep - 1 + dep x ≤ 1000 ∧ Blk w' b 2 [.int .i64 (L - Qr x)]) ∨
  (e = .returned (.bool false) ∧ ¬ ((Qr x : Int) ≤ L ∧ deep - 1 + dep x ≤ 1000)))
def qcd (x : CoreT) : Prop := bulk x ≤ 274877906944 → ∀ (S w : World) (cs : List Value) (b : Nat) (deep L : Int), 1 ≤ deep → deep ≤ 1001 → 0 ≤ L → L ≤ 20000 → IC.K S x cs → Below S.heap.size S w → S.heap.size ≤ b → Blk w b 2 [.int .i64 L] →
 Calls Tryz.prog 44 #[.agg cs.toArray, .int .i64 deep, .pointer (some ⟨b, 0, none⟩)] w (qvk x deep L b w)
theorem qmy (x : CoreT) (ihk : ∀ y ∈ x.kids, qcd y) (iha : ∀ a ∈ x.alts, qcd a.body) : qcd x := by
 intro hbk S w cs b deep L hd1 hd2 hL0 hL1 hK hB hSb hblk
 obtain ⟨A3, c3, A4, c4, A5, c5, A6, c6, rfl, l3, g3, l4, g4, l5, g5, l6, g6⟩ := Qk hK
 rw [Qg] at hbk
 have hbn := Qn x.names
 have hba := qci x.alts
 have hbl := hblk.lt
 have hla : x.alts.length ≤ 274877906944 := by have := Ks x.alts; omega
 have hlk : x.kids.length ≤ 274877906944 := by have := qah x.kids; omega
 have hT := Zj x
 have hD := Yi x
 have HT := Wd hT; have HD := Wd hD; clear hT hD
 have HBK := Wd hbk
 have IHK := Wd ihk; have IHA := Wd iha; clear ihk iha
 have G5 := Wd g5; have G6 := Wd g6; clear g3 g4 g5 g6 hK
 simp only [Qb]
 go_enter Tryz.func44, Tryz.ntmps44
 have hne : b ≠ w.heap.size := by omega
 go_wp2_with fail
 obtain ⟨W1, hW1, hp1, hB1, hs1⟩ := Wy w x A3 c3 A4 c4 A5 c5 A6 c6 35
 rw [← hW1]
 have hb1 := hblk.below hB1
 have GR1 := Wd (Ky hB1 (some b))
 have HB1 := Wd (Below.step hB hB1)
 have BL1 := Wd hb1; have BP1 := Wd hp1
 have HS1 := Wd hs1
 clear hW1 hB1 hB hblk hs1
 have b0 := hb1.cell (j := 0) rfl
 have f0 := hb1.frozen 0
 have p4 := hp1.cell (j := 4) rfl
 clear hp1 hb1
 have w1 : IntKind.i64.wrap (L - 1) = L - 1 := IntWalk.i64_in _ (by omega)
 have w2 : IntKind.i64.wrap (L - 1 - x.names.length) = L - 1 - x.names.length := IntWalk.i64_in _ (by omega)
 go_still_tail 10, (by kernel_rfl)
 change wpList _ _ _ _ _ W1.drew
 clear b0 f0 p4 w1 w2
 go_wp2_with (refine Qc b 0 [] [_] [] [.int .i64 (L - 1 - x.names.length)] 2 rfl 2 (.tmp 19) _ rfl rfl rfl rfl BL1.out rfl (by kernel_rfl) (by intro v hv; rw [List.mem_singleton.1 hv]; rfl) ?_)
 intro W2 hb2 hg2 hs2
 have ⟨GR2, HB2, BL2, BP2⟩ := Wj (Kh GR1.out (Gv hg2)) (Zm HB1.out (Gv hg2) hSb) hb2 (BP1.out.grown (Gv hg2) (by omega))
 have hs2' : W2.heap.size = w.heap.size + 1 := hs2.trans HS1.out
 clear hb2 hg2 hs2 GR1 HB1 BL1 BP1
 have p6 := BP2.out.cell (j := 6) rfl
 go_wp2_with fail
 clear p6
 go_loopw [7] (fun i wr => ∃ (k : Nat) (l : Int), k ≤ x.alts.length ∧ i = .int .i64 k ∧ -549755813888 ≤ l ∧ l ≤ 20000 ∧ Hid (l = L - 1 - x.names.length - Zp (x.alts.take k)) ∧ Hid (Blk wr b 2 [.int .i64 l]) ∧ Hid (W2.grownBy wr (some b))) (fun i _ => x.alts.length - (intOf i).toNat)
 case atStart => exact ⟨0, L - 1 - x.names.length, Nat.zero_le _, rfl, by omega, by omega, Wd (by simp [Zp]), BL2, Wd (Ky (Below.refl _ _) _)⟩
 case round =>
  obtain ⟨k, l, hk, rfl, hl0, hl1, HL, HBl, HG⟩ := hrel
  have HBr := Wd (Zm HB2.out HG.out hSb)
  have HPr := Wd (BP2.out.grown HG.out (by omega))
  have p6 := HPr.out.cell (j := 6) rfl
  by_cases hlt : k < x.alts.length
  ·have hal := qkl x.alts (k + 1)
   rw [Qf hlt, Vz] at hal
   have hlv := HL.out
   obtain ⟨ad, A1, c1, A3, c3, A4, c4, A5', c5', A6', c6', rfl, hK, _, _, _, g0, g1, g2, g3, g4, g5, g6, g7, g8⟩ := Xn (Kd.C_below G6.out HBr.out) k hlt
   clear g0 g2 g3 g4 g5 g6 g7 g8 hK
   have b0 := HBl.out.cell (j := 0) rfl
   have f0 := HBl.out.frozen 0
   go_wp2_with fail
   have hl3 : -549755813888 ≤ l - x.alts[k].names.length := by omega
   clear hal hlv
   have w1 : IntKind.i64.wrap (l - x.alts[k].names.length) = l - x.alts[k].names.length := IntWalk.i64_in _ (by omega)
   go_still_tail 13, (by kernel_rfl)
   change wpList _ _ _ _ _ wr.drew
   clear b0 f0 p6 w1 g1
   go_wp2_with (refine Qc b 0 [] [_] [] [.int .i64 (l - x.alts[k].names.length)] 2 rfl 2 (.tmp 39) _ rfl rfl rfl rfl HBl.out rfl (by kernel_rfl) (by intro v hv; rw [List.mem_singleton.1 hv]; rfl) ?_)
   intro w3 hb3 hg3 hs3
   have HB3 := Wd hb3; have HG3 := Wd (Kh HG.out (Gv hg3)); clear hb3 hg3 hs3
   go_wp2
   go_roundw
   case rel => exact ⟨k + 1, _, by omega, by go_num, hl3, by omega, Wd (by have := HL.out; rw [Qf hlt, Vz]; omega), HB3, HG3⟩
   case measure => simp [intOf]; omega
  ·have hkk : k = x.alts.length := by omega
   have hlv := HL.out
   rw [hkk, List.take_length] at hlv
   have HK := Wd hkk; clear hkk
   have HLV := Wd hlv; clear hlv
   have b0 := HBl.out.cell (j := 0) rfl
   by_cases hneg : l < 0
   ·go_wp2
    go_ret
    exact ⟨Kh GR2.out HG.out, .inr ⟨rfl, by have := HLV.out; have := HT.out; omega⟩⟩
   ·by_cases hdp : 1000 < deep
    ·go_wp2
     go_ret
     exact ⟨Kh GR2.out HG.out, .inr ⟨rfl, by have := HD.out; omega⟩⟩
    ·go_wp2_with fail
     clear b0 p6 BL2 HL HPr HBr
     go_loopw [8] (fun i wq => ∃ (m : Nat) (l2 : Int), m ≤ x.kids.length ∧ i = .int .i64 m ∧ 0 ≤ l2 ∧ l2 ≤ 20000 ∧ Hid (l2 = l - Zb (x.kids.take m)) ∧ Hid (deep + qdd (x.kids.take m) ≤ 1000) ∧ Hid (Blk wq b 2 [.int .i64 l2]) ∧ Hid (W2.grownBy wq (some b))) (fun i _ => x.kids.length - (intOf i).toNat)
     case atStart => exact ⟨0, l, Nat.zero_le _, rfl, by omega, by omega, Wd (by simp [Zb]), Wd (by simp [qdd]; omega), HBl, HG⟩
     case round =>
      obtain ⟨m, l2, hm, rfl, hq0, hq1, HQ, HDq, HBq, HGq⟩ := hrel
      have HBr := Wd (Zm HB2.out HGq.out hSb)
      have HPr := Wd (BP2.out.grown HGq.out (by omega))
      have p5 := HPr.out.cell (j := 5) rfl
      by_cases hlt2 : m < x.kids.length
      ·obtain ⟨ad, A3', c3', A4', c4', B5, d5, B6, d6, rfl, hK, g0, g1, g2, g3, g4, g5, g6⟩ := Kp G5.out HBr.out m hlt2
       go_wp2_with fail
       have hmb := Qx (List.getElem_mem hlt2)
       refine (IHK.out _ (List.getElem_mem hlt2) (by have := HBK.out; omega) S _ _ b (deep + 1) l2 (by omega) (by omega) hq0 hq1 hK HBr.out hSb HBq.out).mono ?_
       rintro e w3 ⟨hg3, h3⟩
       clear g0 g1 g2 g3 g4 g5 g6 hK p5 hmb
       have HG3 := Wd (Kh HGq.out hg3); clear hg3
       have htl := quy x.kids (m + 1)
       have hdl := qzy x.kids (m + 1)
       rw [Qf hlt2, qha] at htl
       rw [Qf hlt2, qks] at hdl
       have HTL := Wd htl; have HDL := Wd hdl; clear htl hdl
       rcases h3 with ⟨rfl, h4, h5, h6⟩ | ⟨rfl, h4⟩
       ·have ⟨H4, H5, H6⟩ := Wq h4 h5 h6
        have hn0 : 0 ≤ l2 - Qr x.kids[m] := by omega
        have hn1 : l2 - Qr x.kids[m] ≤ 20000 := by omega
        clear h4 h5 h6
        go_wp2
        go_roundw
        case rel => exact ⟨m + 1, _, by omega, by go_num, hn0, hn1, Wd (by have := HQ.out; rw [Qf hlt2, qha]; omega), Wd (by have := HDq.out; have := H5.out; rw [Qf hlt2, qks]; omega), H6, HG3⟩
        case measure => simp [intOf]; omega
       ·have H4 := Wd h4; clear h4
        go_wp2
        go_ret
        exact ⟨Kh GR2.out HG3.out, .inr ⟨rfl, by have := H4.out; have := HTL.out; have := HDL.out; have := HQ.out; have := HT.out; have := HD.out; have := HLV.out; omega⟩⟩
      ·have hkk : m = x.kids.length := by omega
       have hlv := HQ.out
       have hdv := HDq.out
       rw [hkk, List.take_length] at hlv hdv
       have HK2 := Wd hkk; clear hkk
       have HLV2 := Wd hlv; have HDV2 := Wd hdv; clear hlv hdv
       go_wp2_with fail
       clear p5 HQ HDq HPr HBr
       go_loopw [9] (fun i wq => ∃ (m : Nat) (l3 : Int), m ≤ x.alts.length ∧ i = .int .i64 m ∧ 0 ≤ l3 ∧ l3 ≤ 20000 ∧ Hid (l3 = l2 - Qy (x.alts.take m)) ∧ Hid (deep + Yt (x.alts.take m) ≤ 1000) ∧ Hid (Blk wq b 2 [.int .i64 l3]) ∧ Hid (W2.grownBy wq (some b))) (fun i _ => x.alts.length - (intOf i).toNat)
       case atStart => exact ⟨0, l2, Nat.zero_le _, rfl, by omega, by omega, Wd (by simp [Qy]), Wd (by simp [Yt]; omega), HBq, HGq⟩
       case round =>
        obtain ⟨m3, l3, hm3, rfl, hr0, hr1, HQ, HDq, HBq3, HGq3⟩ := hrel
        have HBr := Wd (Zm HB2.out HGq3.out hSb)
        have HPr := Wd (BP2.out.grown HGq3.out (by omega))
        have p6 := HPr.out.cell (j := 6) rfl
        by_cases hlt3 : m3 < x.alts.length
        ·obtain ⟨ad, A1, c1, A3', c3', A4', c4', B5, d5, B6, d6, rfl, _, hK, _, _, g0, g1, g2, g3, g4, g5, g6, g7, g8⟩ := Yd G6.out HBr.out m3 hlt3
         go_wp2_with fail
         have hmb := Zu (List.getElem_mem hlt3)
         rw [Zo] at hmb
         refine (IHA.out _ (List.getElem_mem hlt3) (by have := HBK.out; omega) S _ _ b (deep + 1) l3 (by omega) (by omega) hr0 hr1 hK HBr.out hSb HBq3.out).mono ?_
         rintro e w3 ⟨hg3, h3⟩
         clear g0 g1 g2 g3 g4 g5 g6 g7 g8 hK p6 hmb
         have HG3 := Wd (Kh HGq3.out hg3); clear hg3
         have htl := qpn x.alts (m3 + 1)
         have hdl := qvm x.alts (m3 + 1)
         rw [Qf hlt3, qeb] at htl
         rw [Qf hlt3, qho] at hdl
         have HTL := Wd htl; have HDL := Wd hdl; clear htl hdl
         rcases h3 with ⟨rfl, h4, h5, h6⟩ | ⟨rfl, h4⟩
         ·have ⟨H4, H5, H6⟩ := Wq h4 h5 h6
          have hn0 : 0 ≤ l3 - Qr x.alts[m3].body := by omega
          have hn1 : l3 - Qr x.alts[m3].body ≤ 20000 := by omega
          clear h4 h5 h6
          go_wp2
          go_roundw
          case rel => exact ⟨m3 + 1, _, by omega, by go_num, hn0, hn1, Wd (by have := HQ.out; rw [Qf hlt3, qeb]; omega), Wd (by have := HDq.out; have := H5.out; rw [Qf hlt3, qho]; omega), H6, HG3⟩
          case measure => simp [intOf]; omega
         ·have H4 := Wd h4; clear h4
          go_wp2
          go_ret
          exact ⟨Kh GR2.out HG3.out, .inr ⟨rfl, by have := H4.out; have := HTL.out; have := HDL.out; have := HQ.out; have := HT.out; have := HD.out; have := HLV.out; have := HLV2.out; omega⟩⟩
        ·have hkk : m3 = x.alts.length := by omega
         have hlv := HQ.out
         have hdv := HDq.out
         rw [hkk, List.take_length] at hlv hdv
         have HK3 := Wd hkk; clear hkk
         have HLV3 := Wd hlv; have HDV3 := Wd hdv; clear hlv hdv
         go_wp2
         go_ret
         have e1 : (Qr x : Int) ≤ L := by have := HT.out; have := HLV.out; have := HLV2.out; have := HLV3.out; omega
         have e2 : L - Qr x = l3 := by have := HT.out; have := HLV.out; have := HLV2.out; have := HLV3.out; omega
         exact ⟨Kh GR2.out HGq3.out, .inl ⟨rfl, e1, by have := HD.out; have := HDV2.out; have := HDV3.out; omega, by rw [e2]; exact HBq3.out⟩⟩
theorem qpa (x : CoreT) : qcd x := Za qcd (fun c hk ha => qmy c hk ha) x
theorem Jz {s t : ByteArray} (h : s.toList = t.toList) : s = t := by
 rw [ByteArray.toList_eq, ByteArray.toList_eq] at h
 cases s; cases t
 simp only [ByteArray.mk.injEq]
 exact Array.ext' h
def Jl (m : Bool) (l : List Int) : Bool := if l.length > 40 then true else if l.length > 0 then decide (rd l (l.length - 1 : Int) = 0) else m
def Zh (l : List ByteArray) : Prop := (∀ s ∈ l, s ≠ ⟨#[]⟩) ∧ l.Nodup
noncomputable def dec (p : Prop) : Bool := @decide p (Classical.propDecidable p)
theorem Qm {p : Prop} (h : p) : dec p = true := @decide_eq_true p (Classical.propDecidable p) h
theorem Qd {p : Prop} (h : ¬ p) : dec p = false := @decide_eq_false p (Classical.propDecidable p) h
theorem qix {p : Prop} : dec p = true ↔ p := @decide_eq_true_iff p (Classical.propDecidable p)
theorem Xs {p q : Prop} (h : p ↔ q) : dec p = dec q := by
 by_cases hp : p
 ·rw [Qm hp, Qm (h.1 hp)]
 ·rw [Qd hp, Qd (fun hq => hp (h.2 hq))]
theorem qsc {p : Prop} : (!dec p) = dec (¬ p) := by
 by_cases hp : p
 ·rw [Qm hp, Qd (fun h => h hp)]; rfl
 ·rw [Qd hp, Qm hp]; rfl
theorem qal {l : List ByteArray} {i : Nat} (hi : i < l.length) : (l.take (i + 1)).Nodup ↔ (l.take i).Nodup ∧ ∀ j (hj : j < i), l[j] ≠ l[i] := by
 rw [List.take_succ_eq_append_getElem hi, List.nodup_append]
 constructor
 ·rintro ⟨h1, _, h3⟩
  refine ⟨h1, fun j hj he => ?_⟩
  exact h3 l[j] (List.mem_take_iff_getElem.2 ⟨j, by omega, rfl⟩) l[i] (by simp) he
 ·rintro ⟨h1, h2⟩
  refine ⟨h1, by simp, fun a ha b hb he => ?_⟩
  rw [List.mem_singleton] at hb
  subst hb
  obtain ⟨j, hj, rfl⟩ := List.mem_take_iff_getElem.1 ha
  exact h2 j (by omega) he
theorem qif {l : List ByteArray} (h : l.Nodup) (i : Nat) : (l.take i).Nodup := List.Sublist.nodup (List.take_sublist i l) h
theorem empty_toList : (⟨#[]⟩ : ByteArray).toList = [] := by rw [ByteArray.toList_eq]
theorem Kk {a b : ByteArray} (h : a = b) : (a.toList == b.toList) = true ∧ (a.toList = b.toList ↔ True) := by subst h; simp
theorem Xt {a b : ByteArray} (h : a ≠ b) : (a.toList == b.toList) = false ∧ (a.toList = b.toList ↔ False) :=
 ⟨beq_eq_false_iff_ne.2 (fun e => h (Jz e)), ⟨fun e => h (Jz e), False.elim⟩⟩
section
set_option maxRecDepth 100000
set_option maxHeartbeats 4000000
theorem f102 {p : Prop} (h : p := by
 simp [rd, List.getD_eq_getElem?_getD, show ((l.length : Int) - 1).toNat = l.length - 1 by omega, show l.length - 1 < l.length by omega]) : p := h
theorem qup (m : Bool) (l : List Int) (A : Option Addr) (c : Nat) (w : World) (hr : (Kd.int .u32).C w A l.length l) (hc : l.length ≤ c) :
  Calls Tryz.prog 84 #[.agg #[.bool m, .slice A l.length c]] w fun e w' => e = .returned (.bool (Jl m l)) ∧ Below w.heap.size w w' := by
 have hn := hr.2.1
 have HR := Wd hr; clear hr
 have HB := Wd (show Below w.heap.size w (w.alloc (.cells #[.bool m, .slice A l.length c] 31)) from (Below.refl _ _).alloc (Nat.le_refl _) _)
 obtain ⟨r, hrr⟩ : ∃ r, r = Jl m l := ⟨_, rfl⟩
 rw [← hrr]
 unfold Jl at hrr
 by_cases h0 : l.length = 0
 ·rw [if_neg (by omega), if_neg (by omega)] at hrr
  subst hrr
  have q0 : ((l.length : Int) == 0) = true := beq_iff_eq.2 (by omega)
  go_enter Tryz.func84, Tryz.ntmps84
  go_wp2
  go_ret
  exact ⟨rfl, by have := HB.out; rw [h0] at this; exact this⟩
 ·have q0 : ((l.length : Int) == 0) = false := beq_eq_false_iff_ne.2 (by omega)
  by_cases h1 : l.length > 40
  ·rw [if_pos h1] at hrr
   subst hrr
   go_enter Tryz.func84, Tryz.ntmps84
   go_wp2
   go_ret
   exact ⟨rfl, HB.out⟩
  ·rw [if_neg h1, if_pos (by omega)] at hrr
   have q40 : decide (40 < (l.length : Int)) = false := decide_eq_false (by omega)
   have qp : decide (0 < (l.length : Int)) = true := decide_eq_true (by omega)
   obtain ⟨ad, rfl, g0⟩ := qbb HR.out (l.length - 1) (by omega)
   have hrd : rd l (l.length - 1 : Int) = l[l.length - 1]'(by omega) := by
    exact f102
   rw [hrd] at hrr
   have HRR := Wd hrr; clear hrr hrd
   have g1 := Cl HB.out g0
   clear g0
   generalize l[l.length - 1]'(by omega) = z at *
   by_cases hz : z = 0
   ·go_enter Tryz.func84, Tryz.ntmps84
    go_wp2
    go_ret
    exact ⟨by rw [HRR.out, hz]; rfl, HB.out⟩
   ·have q2 : (z == 0) = false := beq_eq_false_iff_ne.2 hz
    have HZ := Wd hz; clear hz
    go_enter Tryz.func84, Tryz.ntmps84
    go_wp2
    go_ret
    exact ⟨by rw [HRR.out, decide_eq_false HZ.out]; rfl, HB.out⟩
theorem qmc (l : List ByteArray) (hl : l.length ≤ 274877906944) (A : Option Addr) (c : Nat) (w : World) (hr : Kd.string.C w A l.length l) (hc : l.length ≤ c) :
  Calls Tryz.prog 86 #[.slice A l.length c] w fun e w' => e = .returned (.bool (dec (¬ l.Nodup))) ∧ Below w.heap.size w w' := by
 have HR := Wd hr; clear hr
 go_enter Tryz.func86, Tryz.ntmps86
 go_wp2
 go_loopw [3] (fun i wr => ∃ (k : Nat), k ≤ l.length ∧ i = .int .i64 k ∧ Hid ((l.take k).Nodup) ∧ Hid (Below w.heap.size w wr)) (fun i _ => l.length - (intOf i).toNat)
 case atStart => exact ⟨0, Nat.zero_le _, rfl, Wd (by simp), Wd (Below.refl _ _)⟩
 case round =>
  obtain ⟨k, hk, rfl, HN, HB⟩ := hrel
  by_cases hlt : k < l.length
  ·go_wp2
   go_loopw [4] (fun j wr => ∃ (q : Nat), q ≤ k ∧ j = .int .i64 q ∧ Hid (∀ p, p < q → l[p]? ≠ l[k]?) ∧ Hid (Below w.heap.size w wr)) (fun j _ => k - (intOf j).toNat)
   case atStart => exact ⟨0, Nat.zero_le _, rfl, Wd (fun p hp => absurd hp (by omega)), HB⟩
   case round =>
    clear HB
    obtain ⟨q, hq, rfl, HQ, HB⟩ := hrel
    by_cases hlq : q < k
    ·obtain ⟨ad, rfl, g0⟩ := Xy (Kd.C_below HR.out HB.out) k hlt
     obtain ⟨ad', e', g1⟩ := Xy (Kd.C_below HR.out HB.out) q (by omega)
     injection e' with e'
     subst e'
     have hql : q < l.length := by omega
     by_cases he : l[k] = l[q]
     ·have ⟨q1, q2⟩ := Kk he
      have HE := Wd he; clear he
      go_wp2_with fail
      go_still (by kernel_rfl)
      go_wp2
      go_ret
      exact ⟨by rw [Qm (fun hn => ((qal hlt).1 (qif hn (k + 1))).2 q hlq HE.out.symm)]; rfl, HB.out.drew⟩
     ·have ⟨q1, q2⟩ := Xt he
      have HE := Wd he; clear he
      go_wp2_with fail
      go_still (by kernel_rfl)
      go_wp2
      go_roundw
      case rel => exact ⟨q + 1, by omega, by go_num, Wd (fun p hp => by
       rcases Nat.lt_or_ge p q with h | h
       ·exact HQ.out p h
       ·obtain rfl : p = q := by omega
        rw [List.getElem?_eq_getElem (by omega), List.getElem?_eq_getElem hlt]
        exact fun h => HE.out (Option.some.inj h).symm), Wd HB.out.drew⟩
      case measure => simp [intOf]; omega
    ·obtain rfl : q = k := by omega
     go_wp2
     go_roundw
     case rel => exact ⟨q + 1, by omega, by go_num, Wd ((qal hlt).2 ⟨HN.out, fun j hj h => HQ.out j hj (by rw [List.getElem?_eq_getElem (by omega), List.getElem?_eq_getElem hlt, h])⟩), HB⟩
     case measure => simp [intOf]; omega
  ·have hkk : k = l.length := by omega
   have HK := Wd hkk; clear hkk
   go_wp2
   go_ret
   exact ⟨by rw [Qd (fun h => h (by have := HN.out; rwa [HK.out, List.take_length] at this))]; rfl, HB.out⟩
theorem qlf (l : List ByteArray) (hl : l.length ≤ 274877906944) (A : Option Addr) (c : Nat) (w : World) (hr : Kd.string.C w A l.length l) (hc : l.length ≤ c) :
  Calls Tryz.prog 85 #[.slice A l.length c] w fun e w' => e = .returned (.bool (dec (Zh l))) ∧ Below w.heap.size w w' := by
 have HR := Wd hr; clear hr
 go_enter Tryz.func85, Tryz.ntmps85
 go_wp2
 go_loopw [3] (fun i wr => ∃ (k : Nat), k ≤ l.length ∧ i = .int .i64 k ∧ Hid (∀ s ∈ l.take k, s ≠ ⟨#[]⟩) ∧ Hid (Below w.heap.size w wr)) (fun i _ => l.length - (intOf i).toNat)
 case atStart => exact ⟨0, Nat.zero_le _, rfl, Wd (by simp), Wd (Below.refl _ _)⟩
 case round =>
  obtain ⟨k, hk, rfl, HN, HB⟩ := hrel
  by_cases hlt : k < l.length
  ·obtain ⟨ad, rfl, g0⟩ := Xy (Kd.C_below HR.out HB.out) k hlt
   by_cases he : l[k] = ⟨#[]⟩
   ·have HE := Wd he
    rw [he] at g0
    clear he
    go_wp2
    go_ret
    exact ⟨by rw [Qd (fun h => h.1 l[k] (List.getElem_mem hlt) HE.out)]; rfl, HB.out⟩
   ·have q1 : l[k].toList.isEmpty = false := by
     cases h2 : l[k].toList with
     | nil => exact absurd (Jz (h2.trans empty_toList.symm)) he
     | cons a r => rfl
    have q2 : l[k].toList = [] ↔ False := ⟨(fun h => by rw [h] at q1; cases q1), False.elim⟩
    have HE := Wd he; clear he
    go_wp2
    go_roundw
    case rel => exact ⟨k + 1, by omega, by go_num, Wd (fun s hs => by
     rw [List.take_succ_eq_append_getElem hlt] at hs
     rcases List.mem_append.1 hs with hs | hs
     ·exact HN.out s hs
     ·rw [List.mem_singleton.1 hs]; exact HE.out), HB⟩
    case measure => simp [intOf]; omega
  ·have hkk : k = l.length := by omega
   have HK := Wd hkk; clear hkk
   go_wp2_with fail
   refine (qmc l hl A c wr (Kd.C_below HR.out HB.out) hc).mono ?_
   rintro e w2 ⟨rfl, hb⟩
   have HB2 := Wd (HB.out.trans (hb.mono HB.out.size)); clear hb
   go_wp2
   go_ret
   refine ⟨?_, HB2.out⟩
   show Ending.returned (Value.bool (!dec _)) = _
   rw [qsc]
   congr 2
   exact Xs ⟨fun h => ⟨by have := HN.out; rwa [HK.out, List.take_length] at this, Classical.not_not.1 h⟩, fun h h' => h' h.2⟩
end
def qtp : List (List UInt8) := [[112, 114, 105, 109, 65, 100, 100], [112, 114, 105, 109, 83, 117, 98], [112, 114, 105, 109, 77, 117, 108], [112, 114, 105, 109, 68, 105, 118], [112, 114, 105, 109, 77, 111, 100], [112, 114, 105, 109, 69, 113], [112, 114, 105, 109, 76, 101, 115, 115], [112, 114, 105, 109, 83, 101, 113]]
def qto : List (List UInt8) := [[112, 114, 105, 109, 79, 114, 100], [112, 114, 105, 109, 67, 104, 114], [112, 114, 105, 109, 83, 104, 111, 119], [112, 114, 105, 109, 69, 114, 114, 111, 114]]
def Qi (s : ByteArray) : Int := if s.toList ∈ qtp then 2 else if s.toList ∈ qto then 1 else 0
theorem qgq (s : ByteArray) : 0 ≤ Qi s ∧ Qi s ≤ 2 := by
 unfold Qi; split
 ·omega
 ·split <;> omega
theorem f17 {p : Prop} (h : p := by
 go_wp2
 go_ret
 exact ⟨by rw [P.out]; first | done | rfl, Below.refl _ _⟩) : p := h
theorem qyl (s : ByteArray) (w : World) : Calls Tryz.prog 87 #[.string s] w fun e w' => e = .returned (.int .i64 (Qi s)) ∧ Below w.heap.size w w' := by
 by_cases h0 : s.toList = [112, 114, 105, 109, 65, 100, 100]
 case pos =>
  have q0 : (s.toList == [112, 114, 105, 109, 65, 100, 100]) = true := beq_iff_eq.2 h0
  have P := Wd (show Qi s = 2 by unfold Qi; rw [h0]; decide); clear h0
  go_enter Tryz.func87, Tryz.ntmps87
  exact f17
 have q0 : (s.toList == [112, 114, 105, 109, 65, 100, 100]) = false := beq_eq_false_iff_ne.2 h0
 by_cases h1 : s.toList = [112, 114, 105, 109, 83, 117, 98]
 case pos =>
  have q1 : (s.toList == [112, 114, 105, 109, 83, 117, 98]) = true := beq_iff_eq.2 h1
  have P := Wd (show Qi s = 2 by unfold Qi; rw [h1]; decide); clear h1
  go_enter Tryz.func87, Tryz.ntmps87
  exact f17
 have q1 : (s.toList == [112, 114, 105, 109, 83, 117, 98]) = false := beq_eq_false_iff_ne.2 h1
 by_cases h2 : s.toList = [112, 114, 105, 109, 77, 117, 108]
 case pos =>
  have q2 : (s.toList == [112, 114, 105, 109, 77, 117, 108]) = true := beq_iff_eq.2 h2
  have P := Wd (show Qi s = 2 by unfold Qi; rw [h2]; decide); clear h2
  go_enter Tryz.func87, Tryz.ntmps87
  exact f17
 have q2 : (s.toList == [112, 114, 105, 109, 77, 117, 108]) = false := beq_eq_false_iff_ne.2 h2
 by_cases h3 : s.toList = [112, 114, 105, 109, 68, 105, 118]
 case pos =>
  have q3 : (s.toList == [112, 114, 105, 109, 68, 105, 118]) = true := beq_iff_eq.2 h3
  have P := Wd (show Qi s = 2 by unfold Qi; rw [h3]; decide); clear h3
  go_enter Tryz.func87, Tryz.ntmps87
  exact f17
 have q3 : (s.toList == [112, 114, 105, 109, 68, 105, 118]) = false := beq_eq_false_iff_ne.2 h3
 by_cases h4 : s.toList = [112, 114, 105, 109, 77, 111, 100]
 case pos =>
  have q4 : (s.toList == [112, 114, 105, 109, 77, 111, 100]) = true := beq_iff_eq.2 h4
  have P := Wd (show Qi s = 2 by unfold Qi; rw [h4]; decide); clear h4
  go_enter Tryz.func87, Tryz.ntmps87
  exact f17
 have q4 : (s.toList == [112, 114, 105, 109, 77, 111, 100]) = false := beq_eq_false_iff_ne.2 h4
 by_cases h5 : s.toList = [112, 114, 105, 109, 69, 113]
 case pos =>
  have q5 : (s.toList == [112, 114, 105, 109, 69, 113]) = true := beq_iff_eq.2 h5
  have P := Wd (show Qi s = 2 by unfold Qi; rw [h5]; decide); clear h5
  go_enter Tryz.func87, Tryz.ntmps87
  exact f17
 have q5 : (s.toList == [112, 114, 105, 109, 69, 113]) = false := beq_eq_false_iff_ne.2 h5
 by_cases h6 : s.toList = [112, 114, 105, 109, 76, 101, 115, 115]
 case pos =>
  have q6 : (s.toList == [112, 114, 105, 109, 76, 101, 115, 115]) = true := beq_iff_eq.2 h6
  have P := Wd (show Qi s = 2 by unfold Qi; rw [h6]; decide); clear h6
  go_enter Tryz.func87, Tryz.ntmps87
  exact f17
 have q6 : (s.toList == [112, 114, 105, 109, 76, 101, 115, 115]) = false := beq_eq_false_iff_ne.2 h6
 by_cases h7 : s.toList = [112, 114, 105, 109, 83, 101, 113]
 case pos =>
  have q7 : (s.toList == [112, 114, 105, 109, 83, 101, 113]) = true := beq_iff_eq.2 h7
  have P := Wd (show Qi s = 2 by unfold Qi; rw [h7]; decide); clear h7
  go_enter Tryz.func87, Tryz.ntmps87
  exact f17
 have q7 : (s.toList == [112, 114, 105, 109, 83, 101, 113]) = false := beq_eq_false_iff_ne.2 h7
 by_cases h8 : s.toList = [112, 114, 105, 109, 79, 114, 100]
 case pos =>
  have q8 : (s.toList == [112, 114, 105, 109, 79, 114, 100]) = true := beq_iff_eq.2 h8
  have P := Wd (show Qi s = 1 by unfold Qi; rw [h8]; decide); clear h8
  go_enter Tryz.func87, Tryz.ntmps87
  exact f17
 have q8 : (s.toList == [112, 114, 105, 109, 79, 114, 100]) = false := beq_eq_false_iff_ne.2 h8
 by_cases h9 : s.toList = [112, 114, 105, 109, 67, 104, 114]
 case pos =>
  have q9 : (s.toList == [112, 114, 105, 109, 67, 104, 114]) = true := beq_iff_eq.2 h9
  have P := Wd (show Qi s = 1 by unfold Qi; rw [h9]; decide); clear h9
  go_enter Tryz.func87, Tryz.ntmps87
  exact f17
 have q9 : (s.toList == [112, 114, 105, 109, 67, 104, 114]) = false := beq_eq_false_iff_ne.2 h9
 by_cases h10 : s.toList = [112, 114, 105, 109, 83, 104, 111, 119]
 case pos =>
  have q10 : (s.toList == [112, 114, 105, 109, 83, 104, 111, 119]) = true := beq_iff_eq.2 h10
  have P := Wd (show Qi s = 1 by unfold Qi; rw [h10]; decide); clear h10
  go_enter Tryz.func87, Tryz.ntmps87
  exact f17
 have q10 : (s.toList == [112, 114, 105, 109, 83, 104, 111, 119]) = false := beq_eq_false_iff_ne.2 h10
 by_cases h11 : s.toList = [112, 114, 105, 109, 69, 114, 114, 111, 114]
 case pos =>
  have q11 : (s.toList == [112, 114, 105, 109, 69, 114, 114, 111, 114]) = true := beq_iff_eq.2 h11
  have P := Wd (show Qi s = 1 by unfold Qi; rw [h11]; decide); clear h11
  go_enter Tryz.func87, Tryz.ntmps87
  exact f17
 have q11 : (s.toList == [112, 114, 105, 109, 69, 114, 114, 111, 114]) = false := beq_eq_false_iff_ne.2 h11
 have P := Wd (show Qi s = 0 by unfold Qi; simp only [qtp, qto, List.mem_cons, List.not_mem_nil, or_false, h0, h1, h2, h3, h4, h5, h6, h7, h8, h9, h10, h11, or_self, if_false])
 clear h0 h1 h2 h3 h4 h5 h6 h7 h8 h9 h10 h11
 go_enter Tryz.func87, Tryz.ntmps87
 exact f17
end Go.Proofs.YtnoammmohdmnjaaGreat.C13
