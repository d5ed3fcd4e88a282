import Derived.Test.YtnoammmohdmnjaaGreatU20
import Derived.Test.YtnoammmohdmnjaaGreatU21
set_option maxRecDepth 100000
set_option maxHeartbeats 16000000
set_option linter.unusedVariables false
set_option linter.unusedSimpArgs false
namespace Go.Proofs.YtnoammmohdmnjaaGreat.C13
open Go.RowKit Go.Proofs.YtnoammmohdmnjaaGreatW.PrintWords
open List renaming setIfInBounds_toArray → Jla, set_cons_zero → Jlb, set_cons_succ → Jlc
theorem f23 {p : Prop} (h : p := by
 obtain ⟨k, hk, rfl, HN, HB⟩ := hrel
 by_cases hlt : k < l.length
 ·obtain ⟨ad, rfl, g0⟩ := Xy (Kd.C_below HR.out HB.out) k hlt
  by_cases he : l[k] = s
  ·have ⟨q1, q2⟩ := Kk he
   have HE := Wd he; clear he
   go_wp2
   go_ret
   exact ⟨by rw [decide_eq_true (HE.out ▸ List.getElem_mem hlt)]; rfl, HB.out⟩
  ·have ⟨q1, q2⟩ := Xt he
   have HE := Wd he; clear he
   go_wp2
   go_roundw
   case rel => exact ⟨k + 1, by omega, by go_num, Wd (fun hm => by
    rw [List.take_succ_eq_append_getElem hlt] at hm
    rcases List.mem_append.1 hm with hm | hm
    ·exact HN.out hm
    ·exact HE.out (List.mem_singleton.1 hm).symm), HB⟩
   case measure => simp [intOf]; omega
 ·have hkk : k = l.length := by omega
  have HK := Wd hkk; clear hkk
  go_wp2
  go_ret
  exact ⟨by rw [decide_eq_false (by have := HN.out; rwa [HK.out, List.take_length] at this)]; rfl, HB.out⟩) : p := h
theorem Jj (l : List ByteArray) (s : ByteArray) (hl : l.length ≤ 274877906944) (A : Option Addr) (c : Nat) (w : World) (hr : Kd.string.C w A l.length l) (hc : l.length ≤ c) :
  Calls Tryz.prog 46 #[.slice A l.length c, .string s] w fun e w' => e = .returned (.bool (decide (s ∈ l))) ∧ Below w.heap.size w w' := by
 have HR := Wd hr; clear hr
 go_enter Tryz.func46, Tryz.ntmps46
 go_wp2
 go_loopw [5] (fun i wr => ∃ (k : Nat), k ≤ l.length ∧ i = .int .i64 k ∧ Hid (s ∉ l.take k) ∧ Hid (Below w.heap.size w wr)) (fun i _ => l.length - (intOf i).toNat)
 case atStart => exact ⟨0, Nat.zero_le _, rfl, Wd (by simp), Wd (Below.refl _ _)⟩
 case round =>
  exact f23
def RnPost (fr tn : ByteArray) (x : CoreT) (F : List Nat) (w : World) (e : Ending) (w' : World) : Prop := ∃ cs', e = .returned (.agg cs'.toArray) ∧ Ke 35 76 w' (rn fr tn x) cs' F ∧ But F w w'
def Vd (fr tn : ByteArray) (x : CoreT) : Prop := bulk x ≤ 274877906944 → ∀ (w : World) (cs : List Value) (F : List Nat), Ke 35 76 w x cs F → F.Nodup →
 Calls Tryz.prog 99 #[.agg cs.toArray, .string fr, .string tn] w (RnPost fr tn x F w)
theorem but_boxes {F : List Nat} {w W2 w3 w5 : World} {g : Nat} (hb : Below w.heap.size w W2) (h3 : But F W2 w3) (h5 : w3.grownBy w5 (some g)) (hg : w.heap.size ≤ g) : But F w w5 :=
 ⟨(h5.os.trans h3.os).trans hb.os, (h5.tape.trans h3.tape).trans hb.tape, (h5.output.trans h3.output).trans hb.output, Nat.le_trans hb.size (Nat.le_trans h3.size h5.size), fun i hi hn => by
  rw [h5.block i (Nat.lt_of_lt_of_le hi (Nat.le_trans hb.size h3.size)) (fun e => by injection e with e; omega), h3.block i (Nat.lt_of_lt_of_le hi hb.size) hn, hb.block i hi]⟩
theorem rn_var (fr tn : ByteArray) (x : CoreT) (hk : x.kind = 1) : Vd fr tn x := by
 intro hbk w cs F hO hnd
 have hlt := Je _ _ _ hO
 obtain ⟨v3, v4, v5, v6, F3, F4, F5, F6, G5, G6, rfl, rfl, hX⟩ := RnX.open hO hnd
 obtain ⟨A3, c3, rfl, l3⟩ := hX.r3.slice; obtain ⟨A4, c4, rfl, l4⟩ := hX.r4.slice
 obtain ⟨_, h5, -⟩ := hX.r5; obtain ⟨_, h6, -⟩ := hX.r6
 obtain ⟨A5, c5, rfl, l5⟩ := h5.slice; obtain ⟨A6, c6, rfl, l6⟩ := h6.slice
 obtain ⟨b1, b2, b3, b4, b5⟩ := Qz hbk
 have ⟨HX, HLT, HBK⟩ := Wq hX hlt hbk
 clear hX hlt h5 h6 hO hnd hbk
 rw [hk]
 have HK := Wd hk; clear hk
 obtain ⟨W1, hW1, hp1, hB1, hs1⟩ := boxed w [.int .i64 1, .string x.name, .bool x.minus, .slice A3 x.limbs.length c3, .slice A4 x.names.length c4, .slice A5 x.kids.length c5, .slice A6 x.alts.length c6] 35
 obtain ⟨W2, hW2, hp2, hB2, hs2⟩ := Wh W1 35
 have BP := Wd (hp1.below hB2)
 have BR := Wd (show Blk W2 (w.heap.size + 1) _ _ from by have h := hp2; rw [hs1] at h; exact h)
 have HB2 := Wd (Below.step hB1 hB2)
 have HS2 := Wd hs2
 clear hp1 hp2 hB1 hB2 hs2
 subst hW2; subst hW1
 by_cases hn : x.name = fr
 ·subst hn
  go_enter Tryz.func99, Tryz.ntmps99
  go_wp2_with (refine Qc w.heap.size 1 [.int .i64 1] [.string x.name] [.bool x.minus, .slice A3 x.limbs.length c3, .slice A4 x.names.length c4, .slice A5 x.kids.length c5, .slice A6 x.alts.length c6] [.string tn] 35 (by rfl) 9 _ _ (by rfl) (by rfl) rfl (by rfl) BP.out rfl (by kernel_rfl) (by intro v hv; rw [List.mem_singleton.1 hv]; rfl) ?_)
  intro w3 hb3 hg3 hsz3
  have ⟨BW3, BR3, BB3⟩ := Wq hb3 (BR.out.grownO hg3 (by simp)) (Ze HB2.out hg3 (Nat.le_refl _))
  have ⟨p0, p1, p2, p3, p4, p5, p6⟩ := Cz hb3
  clear hb3 hg3
  go_wp2_with (refine Wv (w.heap.size + 1) [.int .i64 1, .string tn, .bool x.minus, .slice A3 x.limbs.length c3, .slice A4 x.names.length c4, .slice A5 x.kids.length c5, .slice A6 x.alts.length c6] BR3.out ?_)
  intro w5 hblk5 hg5 hsz5
  clear p0 p1 p2 p3 p4 p5 p6
  have ⟨q0, q1, q2, q3, q4, q5, q6⟩ := Cz hblk5
  have HB5 := Wd (Ze BB3.out hg5 (by omega))
  clear hblk5 hg5
  go_wp2
  refine bodyPost_ret (v := .agg #[.int .i64 1, .string tn, .bool x.minus, .slice A3 x.limbs.length c3, .slice A4 x.names.length c4, .slice A5 x.kids.length c5, .slice A6 x.alts.length c6]) (by simp [results, Tryz.results99, go_sem, q0, q1, q2, q3, q4, q5, q6]) rfl ⟨_, rfl, ?_, ?hbut⟩
  case hbut => exact But.of_below HB5.out
  rw [qjr, if_pos HK.out, if_pos (show x.name = x.name from rfl)]
  have := (HX.out.move (fun k hk => HB5.out.block k (HLT.out k hk))).own x.kind tn x.minus
  rwa [HK.out] at this ⊢
 ·have hne : (x.name.toList == fr.toList) = false := beq_eq_false_iff_ne.2 (fun h => hn (Jz h))
  have hne2 : ¬ x.name.toList = fr.toList := fun h => hn (Jz h)
  have HN := Wd hn; clear hn
  go_enter Tryz.func99, Tryz.ntmps99
  have ⟨p0, p1, p2, p3, p4, p5, p6⟩ := Cz BP.out
  go_wp2_with (refine Wv (w.heap.size + 1) [.int .i64 1, .string x.name, .bool x.minus, .slice A3 x.limbs.length c3, .slice A4 x.names.length c4, .slice A5 x.kids.length c5, .slice A6 x.alts.length c6] BR.out ?_)
  intro w5 hblk5 hg5 hsz5
  clear p0 p1 p2 p3 p4 p5 p6
  have ⟨q0, q1, q2, q3, q4, q5, q6⟩ := Cz hblk5
  have HB5 := Wd (Ze HB2.out hg5 (by omega))
  clear hblk5 hg5
  go_wp2
  refine bodyPost_ret (v := .agg #[.int .i64 1, .string x.name, .bool x.minus, .slice A3 x.limbs.length c3, .slice A4 x.names.length c4, .slice A5 x.kids.length c5, .slice A6 x.alts.length c6]) (by simp [results, Tryz.results99, go_sem, q0, q1, q2, q3, q4, q5, q6]) rfl ⟨_, rfl, ?_, ?hbut⟩
  case hbut => exact But.of_below HB5.out
  rw [qjr, if_pos HK.out, if_neg HN.out]
  have := (HX.out.move (fun k hk => HB5.out.block k (HLT.out k hk))).own x.kind x.name x.minus
  rwa [HK.out] at this ⊢
theorem qwz {w : World} {x : CoreT} {r : List Value} {F : List Nat} {c : Int} (h : Ke 35 76 w ⟨x.kind, x.name, x.minus, x.limbs, x.names, x.kids, x.alts⟩ (.int .i64 x.kind :: r) F) (hk : x.kind = c) : Ke 35 76 w x (.int .i64 c :: r) F := by
 cases x
 simp only at hk
 subst hk
 exact h
theorem f36 {p : Prop} (h : p := by
 obtain ⟨A, c, e, _, hC⟩ := (HX.out.r4.move (fun i hi => hb.block i (HLT.out i (by simp [hi])))).readsS
 injection e with e1 e2 e3
 subst e1
 exact hC) : p := h
theorem f73 {p : Prop} (h : p := by
 have hk := HK.out
 rw [qjr, if_neg (show ¬ x.kind = 1 by omega), if_pos ⟨by omega, HM.out⟩]
 exact qwz ((HX.out.move (fun k hk => HB5.out.block k (HLT.out k hk))).own x.kind x.name x.minus) hk) : p := h
theorem qqq (fr tn : ByteArray) (x : CoreT) (hk : x.kind = 6) (hm : fr ∈ x.names) : Vd fr tn x := by
 intro hbk w cs F hO hnd
 have hlt := Je _ _ _ hO
 obtain ⟨v3, v4, v5, v6, F3, F4, F5, F6, G5, G6, rfl, rfl, hX⟩ := RnX.open hO hnd
 obtain ⟨A3, c3, rfl, l3⟩ := hX.r3.slice; obtain ⟨A4, c4, rfl, l4⟩ := hX.r4.slice
 obtain ⟨_, h5, -⟩ := hX.r5; obtain ⟨_, h6, -⟩ := hX.r6
 obtain ⟨A5, c5, rfl, l5⟩ := h5.slice; obtain ⟨A6, c6, rfl, l6⟩ := h6.slice
 obtain ⟨b1, b2, b3, b4, b5⟩ := Qz hbk
 have ⟨HX, HLT, HBK⟩ := Wq hX hlt hbk
 clear hX hlt h5 h6 hO hnd hbk
 rw [hk]
 have HK := Wd hk; clear hk
 obtain ⟨W1, hW1, hp1, hB1, hs1⟩ := boxed w [.int .i64 6, .string x.name, .bool x.minus, .slice A3 x.limbs.length c3, .slice A4 x.names.length c4, .slice A5 x.kids.length c5, .slice A6 x.alts.length c6] 35
 obtain ⟨W2, hW2, hp2, hB2, hs2⟩ := Wh W1 35
 have BP := Wd (hp1.below hB2)
 have BR := Wd (show Blk W2 (w.heap.size + 1) _ _ from by have h := hp2; rw [hs1] at h; exact h)
 have HB2 := Wd (Below.step hB1 hB2)
 have HS2 := Wd hs2
 clear hp1 hp2 hB1 hB2 hs2
 have HM := Wd hm; clear hm
 have HRN := Wd (show ∀ w', Below w.heap.size w w' → Kd.string.C w' A4 x.names.length x.names from fun w' hb => by
  exact f36)
 subst hW2; subst hW1
 go_enter Tryz.func99, Tryz.ntmps99
 have ⟨p0, p1, p2, p3, p4, p5, p6⟩ := Cz BP.out
 go_wp2_with fail
 refine (Jj x.names fr b4 A4 c4 _ (HRN.out _ HB2.out) l4).mono ?_
 rintro e w3 ⟨rfl, hb3⟩
 rw [decide_eq_true HM.out]
 have ⟨BP3, BR3, BB3⟩ := Wq (BP.out.below hb3) (BR.out.below hb3) (Qa HB2.out hb3)
 clear p0 p1 p2 p3 p4 p5 p6 hb3
 have ⟨p0, p1, p2, p3, p4, p5, p6⟩ := Cz BP3.out
 go_wp2_with (refine Wv (w.heap.size + 1) [.int .i64 6, .string x.name, .bool x.minus, .slice A3 x.limbs.length c3, .slice A4 x.names.length c4, .slice A5 x.kids.length c5, .slice A6 x.alts.length c6] BR3.out ?_)
 intro w5 hblk5 hg5 hsz5
 clear p0 p1 p2 p3 p4 p5 p6
 have ⟨q0, q1, q2, q3, q4, q5, q6⟩ := Cz hblk5
 have HB5 := Wd (Ze BB3.out hg5 (by omega))
 clear hblk5 hg5
 go_wp2
 refine bodyPost_ret (v := .agg #[.int .i64 6, .string x.name, .bool x.minus, .slice A3 x.limbs.length c3, .slice A4 x.names.length c4, .slice A5 x.kids.length c5, .slice A6 x.alts.length c6]) (by simp [results, Tryz.results99, go_sem, q0, q1, q2, q3, q4, q5, q6]) rfl ⟨_, rfl, ?_, ?hbut⟩
 case hbut => exact But.of_below HB5.out
 exact f73
theorem qqr (fr tn : ByteArray) (x : CoreT) (hk : x.kind = 7) (hm : fr ∈ x.names) : Vd fr tn x := by
 intro hbk w cs F hO hnd
 have hlt := Je _ _ _ hO
 obtain ⟨v3, v4, v5, v6, F3, F4, F5, F6, G5, G6, rfl, rfl, hX⟩ := RnX.open hO hnd
 obtain ⟨A3, c3, rfl, l3⟩ := hX.r3.slice; obtain ⟨A4, c4, rfl, l4⟩ := hX.r4.slice
 obtain ⟨_, h5, -⟩ := hX.r5; obtain ⟨_, h6, -⟩ := hX.r6
 obtain ⟨A5, c5, rfl, l5⟩ := h5.slice; obtain ⟨A6, c6, rfl, l6⟩ := h6.slice
 obtain ⟨b1, b2, b3, b4, b5⟩ := Qz hbk
 have ⟨HX, HLT, HBK⟩ := Wq hX hlt hbk
 clear hX hlt h5 h6 hO hnd hbk
 rw [hk]
 have HK := Wd hk; clear hk
 obtain ⟨W1, hW1, hp1, hB1, hs1⟩ := boxed w [.int .i64 7, .string x.name, .bool x.minus, .slice A3 x.limbs.length c3, .slice A4 x.names.length c4, .slice A5 x.kids.length c5, .slice A6 x.alts.length c6] 35
 obtain ⟨W2, hW2, hp2, hB2, hs2⟩ := Wh W1 35
 have BP := Wd (hp1.below hB2)
 have BR := Wd (show Blk W2 (w.heap.size + 1) _ _ from by have h := hp2; rw [hs1] at h; exact h)
 have HB2 := Wd (Below.step hB1 hB2)
 have HS2 := Wd hs2
 clear hp1 hp2 hB1 hB2 hs2
 have HM := Wd hm; clear hm
 have HRN := Wd (show ∀ w', Below w.heap.size w w' → Kd.string.C w' A4 x.names.length x.names from fun w' hb => by
  exact f36)
 subst hW2; subst hW1
 go_enter Tryz.func99, Tryz.ntmps99
 have ⟨p0, p1, p2, p3, p4, p5, p6⟩ := Cz BP.out
 go_wp2_with fail
 refine (Jj x.names fr b4 A4 c4 _ (HRN.out _ HB2.out) l4).mono ?_
 rintro e w3 ⟨rfl, hb3⟩
 rw [decide_eq_true HM.out]
 have ⟨BP3, BR3, BB3⟩ := Wq (BP.out.below hb3) (BR.out.below hb3) (Qa HB2.out hb3)
 clear p0 p1 p2 p3 p4 p5 p6 hb3
 have ⟨p0, p1, p2, p3, p4, p5, p6⟩ := Cz BP3.out
 go_wp2_with (refine Wv (w.heap.size + 1) [.int .i64 7, .string x.name, .bool x.minus, .slice A3 x.limbs.length c3, .slice A4 x.names.length c4, .slice A5 x.kids.length c5, .slice A6 x.alts.length c6] BR3.out ?_)
 intro w5 hblk5 hg5 hsz5
 clear p0 p1 p2 p3 p4 p5 p6
 have ⟨q0, q1, q2, q3, q4, q5, q6⟩ := Cz hblk5
 have HB5 := Wd (Ze BB3.out hg5 (by omega))
 clear hblk5 hg5
 go_wp2
 refine bodyPost_ret (v := .agg #[.int .i64 7, .string x.name, .bool x.minus, .slice A3 x.limbs.length c3, .slice A4 x.names.length c4, .slice A5 x.kids.length c5, .slice A6 x.alts.length c6]) (by simp [results, Tryz.results99, go_sem, q0, q1, q2, q3, q4, q5, q6]) rfl ⟨_, rfl, ?_, ?hbut⟩
 case hbut => exact But.of_below HB5.out
 exact f73
theorem Vt (fr tn : ByteArray) (skip : Bool) (l : List AltT) : (qbl fr tn skip l).length = l.length := by rw [Vu, List.length_map]
theorem qtx {Sub : (CoreT → World → Prop)} {FF : List Nat} {w wr w4 w5 : World} {b1 b2 : List Value} {y : CoreT} {cx' : List Value} {Gx : List Nat} {g : Nat} {e : TypeId} {pre post : List Value}
  (hB : But FF w wr) (hb1 : Blk wr w.heap.size 35 b1) (hb2 : Blk wr (w.heap.size + 1) 35 b2)
  (h4 : But Gx wr.drew w4) (ho : Ke 35 76 w4 y cx' Gx) (h5 : w4.grownBy w5 (some g)) (hb5 : Blk w5 g e (pre ++ (cx' ++ post))) (hgx : g ∉ Gx) (hsub : ∀ i ∈ Gx, i ∈ FF) (hg : g ∈ FF) (hlt : ∀ i ∈ FF, i < w.heap.size)
  (hcl : ∀ y cx' w', Ke 35 76 w' y cx' Gx → Blk w' g e (pre ++ (cx' ++ post)) → (∀ i ∈ FF, i ≠ g → i ∉ Gx → w'.heap[i]? = wr.heap[i]?) → Sub y w') : Sub y w5 ∧ But FF w w5 ∧ Blk w5 w.heap.size 35 b1 ∧ Blk w5 (w.heap.size + 1) 35 b2 := by
 have h4' : But Gx wr w4 := ⟨h4.os, h4.tape, h4.output, h4.size, h4.block⟩
 have far : ∀ i, i < wr.heap.size → i ≠ g → i ∉ Gx → w5.heap[i]? = wr.heap[i]? := fun i hi h1 h2 => by
  rw [h5.block i (Nat.lt_of_lt_of_le hi h4'.size) (fun e => h1 (by injection e)), h4'.block i hi h2]
 have hlt' := hlt g hg
 refine ⟨hcl y cx' w5 (Xv ho h5 (fun k hk e => hgx (e ▸ hk))) hb5 (fun i hi h1 h2 => far i (Nat.lt_of_lt_of_le (hlt i hi) hB.size) h1 h2), ?_, hb1.move (far _ hb1.lt (by omega) (fun h => by have := hlt _ (hsub _ h); omega)), hb2.move (far _ hb2.lt (by omega) (fun h => by have := hlt _ (hsub _ h); omega))⟩
 exact hB.trans ⟨h5.os.trans h4'.os, h5.tape.trans h4'.tape, h5.output.trans h4'.output, Nat.le_trans h4'.size h5.size, fun i hi hn => far i hi (fun e => hn (e ▸ hg)) (fun h => hn (hsub i h))⟩
theorem qtw {x : CoreT} {v3 v4 v5 v6 : Value} {F3 F4 F5 F6 G5 G6 : List Nat} {n m : Nat} {w wr w3 : World} {b1 b2 : List Value} {ks : List CoreT} {ls : List AltT} (hX : RnX x v3 v4 v5 v6 F3 F4 F5 F6 G5 G6 n m ks ls wr) (hB : But (F3 ++ (F4 ++ ((F5 ++ G5) ++ (F6 ++ G6)))) w wr) (hb1 : Blk wr w.heap.size 35 b1) (hb2 : Blk wr (w.heap.size + 1) 35 b2) (h3 : Below wr.heap.size wr w3) (hlt : ∀ i ∈ (F3 ++ (F4 ++ ((F5 ++ G5) ++ (F6 ++ G6)))), i < w.heap.size) :
  RnX x v3 v4 v5 v6 F3 F4 F5 F6 G5 G6 n m ks ls w3 ∧ But (F3 ++ (F4 ++ ((F5 ++ G5) ++ (F6 ++ G6)))) w w3 ∧ Blk w3 w.heap.size 35 b1 ∧ Blk w3 (w.heap.size + 1) 35 b2 :=
 ⟨hX.move (fun i hi => h3.block i (Nat.lt_of_lt_of_le (hlt i hi) hB.size)), hB.trans (But.of_below h3), hb1.below h3, hb2.below h3⟩
theorem qfs {F : List Nat} {w w3 w5 : World} {g : Nat} (h3 : But F w w3) (h5 : w3.grownBy w5 (some g)) (hg : w.heap.size ≤ g) : But F w w5 :=
 ⟨h5.os.trans h3.os, h5.tape.trans h3.tape, h5.output.trans h3.output, Nat.le_trans h3.size h5.size, fun i hi hn => by
  rw [h5.block i (Nat.lt_of_lt_of_le hi h3.size) (fun e => by injection e with e; omega), h3.block i hi hn]⟩
theorem qct {w : World} {k : Int} {nm : ByteArray} {mi : Bool} {li : List Int} {ns : List ByteArray} {ks : List CoreT} {ls : List AltT} {r : List Value} {F : List Nat} {c : Int} (h : Ke 35 76 w ⟨k, nm, mi, li, ns, ks, ls⟩ (.int .i64 k :: r) F) (hk : k = c) : Ke 35 76 w ⟨k, nm, mi, li, ns, ks, ls⟩ (.int .i64 c :: r) F := by
 subst hk
 exact h
theorem qjs {x : CoreT} {v3 v4 v5 v6 : Value} {F3 F4 F5 F6 G5 G6 : List Nat} {n m : Nat} {w W2 w3 : World} {b1 b2 : List Value} {A : List CoreT} {B : List AltT} (hX : RnX x v3 v4 v5 v6 F3 F4 F5 F6 G5 G6 n m x.kids x.alts w) (hlt : ∀ i ∈ (F3 ++ (F4 ++ ((F5 ++ G5) ++ (F6 ++ G6)))), i < w.heap.size) (h2 : Below w.heap.size w W2) (hb1 : Blk W2 w.heap.size 35 b1) (hb2 : Blk W2 (w.heap.size + 1) 35 b2) (h3 : Below W2.heap.size W2 w3) :
  RnX x v3 v4 v5 v6 F3 F4 F5 F6 G5 G6 n m (mix A x.kids 0) (mix B x.alts 0) w3 ∧ But (F3 ++ (F4 ++ ((F5 ++ G5) ++ (F6 ++ G6)))) w w3 ∧ Blk w3 w.heap.size 35 b1 ∧ Blk w3 (w.heap.size + 1) 35 b2 := by
 rw [Jc, Jc]
 have hb := Qa h2 h3
 exact ⟨hX.move (fun i hi => hb.block i (hlt i hi)), But.of_below hb, hb1.below h3, hb2.below h3⟩
theorem f120 {p : Prop} (h : p := by
 have t0 := Qp hSw.2 g0; have t1 := Qp hSw.2 g1; have t2 := Qp hSw.2 g2; have t3 := Qp hSw.2 g3; have t4 := Qp hSw.2 g4; have t5 := Qp hSw.2 g5; have t6 := Qp hSw.2 g6
 go_simp
 try with_reducible rfl) : p := h
theorem f7 {p : Prop} (h : p := by
 by_cases hn : x.name = fr
 ·have hset : ((qbl fr tn (decide (x.name = fr)) x.alts))[k]'(by rw [Vt]; exact hlt) = x.alts[k] := by simp only [Vu, List.getElem_map, qgs]; rw [if_pos (.inl (decide_eq_true hn))]
  have HSET := Wd hset; clear hset
  have hnb : (x.name.toList == fr.toList) = true := by rw [hn]; exact beq_self_eq_true _
  have hnb2 : x.name.toList = fr.toList := by rw [hn]
  have HN := Wd hn; clear hn
  go_wp2_with fail
  go_roundw
  case rel => exact ⟨k + 1, by omega, by go_num, Wd (by have h := HI.out; rw [Vq (Vt _ _ _ _) hlt HSET.out] at h; exact h)⟩
  case measure => simp [intOf]; omega
 ·have hnb : (x.name.toList == fr.toList) = false := beq_eq_false_iff_ne.2 (fun h => hn (Jz h))
  have hnb2 : ¬ x.name.toList = fr.toList := fun h => hn (Jz h)
  have HN := Wd hn; clear hn
  obtain ⟨g, cap, c1, v1, cx, post, Gx, hv6, hcap, hl, hblk, ⟨F1, hrow, hF1⟩, hox, hnx, hsub, hgF, hgx, hcl⟩ := HI.out.1.alt (k := k) (by rw [Zg (Vt _ _ _ _)]; exact hlt)
  simp only [Value.slice.injEq, true_and] at hv6
  obtain ⟨rfl, rfl⟩ := hv6
  have hmg := Xf (Vt fr tn (decide (x.name = fr)) x.alts) hlt
  rw [hmg] at hblk hrow hox hcl
  obtain ⟨A1, cc1, rfl, l1, hC1⟩ := hrow.readsS
  obtain ⟨Y3, y3, Y4, y4, Y5, y5, Y6, y6, rfl⟩ := Zi hox
  have hl2 : (c1 ++ [Value.string x.alts[k].con, .slice A1 x.alts[k].names.length cc1]).length = k * 9 + 2 := by rw [List.length_append, hl]; rfl
  obtain ⟨g0, g1, g2, g3, g4, g5, g6⟩ := Blk.seven (show Blk wr g _ ((c1 ++ [_, _]) ++ ([_, _, _, _, _, _, _] ++ post)) from hblk) hl2
  have gn := Blk.at (o := k * 9 + 1) (pre := c1 ++ [.string x.alts[k].con]) (c := .slice A1 x.alts[k].names.length cc1) (post := Qb x.alts[k].body Y3 y3 Y4 y4 Y5 y5 Y6 y6 ++ post) (by simpa using hblk) (by rw [List.length_append, hl]; rfl)
  have HCN := Wd hC1; have hl := hl2; clear hl2 hC1 hrow hF1 hmg
  have ⟨HBK7, HOX, HNX, HSUB, HGF, HCL, HL⟩ := Wk hblk hox (show Gx.Nodup ∧ g ∉ Gx from ⟨hnx, hgx⟩) hsub hgF hcl hl
  clear hblk hox hnx hgx hsub hgF hcl hl
  have qk0 : (0 : Int) ≤ (k : Int) := by omega
  have qk1 : (k : Int) < x.alts.length := by omega
  go_wp2_with fail
  refine (Jj x.alts[k].names fr (Hd HBK.out (List.getElem_mem hlt)) A1 cc1 _ HCN.out l1).mono ?_
  rintro e wc ⟨rfl, hbc⟩
  by_cases hm : fr ∈ x.alts[k].names
  ·have hset : ((qbl fr tn (decide (x.name = fr)) x.alts))[k]'(by rw [Vt]; exact hlt) = x.alts[k] := by simp only [Vu, List.getElem_map, qgs]; rw [if_pos (.inr hm)]
   have HSET := Wd hset; clear hset
   rw [decide_eq_true hm]
   have HIc := Wd (qtw HI.out.1 HI.out.2.1 HI.out.2.2.1 HI.out.2.2.2 hbc HLT.out)
   clear hm hbc
   go_wp2_with fail
   go_roundw
   case rel => exact ⟨k + 1, by omega, by go_num, Wd (by have h := HIc.out; rw [Vq (Vt _ _ _ _) hlt HSET.out] at h; exact h)⟩
   case measure => simp [intOf]; omega
  ·have hset : ({ x.alts[k] with body := rn fr tn x.alts[k].body } : AltT) = ((qbl fr tn (decide (x.name = fr)) x.alts))[k]'(by rw [Vt]; exact hlt) := by simp only [Vu, List.getElem_map, qgs]; rw [if_neg (fun h => h.elim (fun h => HN.out (of_decide_eq_true h)) hm)]
   have HSET := Wd hset; clear hset
   rw [decide_eq_false hm]
   clear hm
   have HIc := Wd (qtw HI.out.1 HI.out.2.1 HI.out.2.2.1 HI.out.2.2.2 hbc HLT.out)
   have HCLc := Wd (show ∀ y cx' w', Ke 35 76 w' y cx' Gx → Blk w' g 76 ((c1 ++ [.string x.alts[k].con, .slice A1 x.alts[k].names.length cc1]) ++ (cx' ++ post)) → (∀ i ∈ (F3 ++ (F4 ++ ((F5 ++ G5) ++ (F6 ++ G6)))), i ≠ g → i ∉ Gx → w'.heap[i]? = wc.heap[i]?) → RnX x (.slice A3 x.limbs.length c3) (.slice A4 x.names.length c4) (.slice A5 x.kids.length c5) (.slice (some ⟨g, 0, none⟩) x.alts.length c6) F3 F4 F5 F6 G5 G6 x.kids.length x.alts.length (mix (Un fr tn (decide (x.kind = 8 ∧ x.name = fr)) 0 x.kids) x.kids x.kids.length) ((mix (qbl fr tn (decide (x.name = fr)) x.alts) x.alts k).set k { x.alts[k] with body := y }) w' from
    fun y cx' w' h1 h2 h3 => HCL.out y cx' w' h1 h2 (fun i hi h4 h5 => (h3 i hi h4 h5).trans (hbc.block i (Nat.lt_of_lt_of_le (HLT.out i hi) HI.out.2.1.size))))
   have HBKc := Wd (HBK7.out.below hbc); have HOXc := Wd (qan HOX.out hbc)
   clear p0 p1 p2 p3 p4 p5 p6 g0 g1 g2 g3 g4 g5 g6 gn HBK7 HOX HCL HI hbc
   obtain ⟨g0, g1, g2, g3, g4, g5, g6⟩ := Blk.seven (show Blk wc g _ ((c1 ++ [_, _]) ++ ([_, _, _, _, _, _, _] ++ post)) from HBKc.out) HL.out
   have ⟨p0, p1, p2, p3, p4, p5, p6⟩ := Cz HIc.out.2.2.1
   go_wp2_with fail
   refine Ys [0, 1, 2, 3, 4, 5, 6, 7, 8, 9, 10] [] [11, 12, 13, 14] [12, 13, 14] (fun W' => W'.heap[w.heap.size]? = wc.heap[w.heap.size]? ∧ W'.heap[g]? = wc.heap[g]?) (by kernel_rfl) (by kernel_rfl) (fun _ _ d _ _ h => by cases d <;> exact h) ⟨rfl, rfl⟩ ?_
   iterate 11
    refine Yb 88 (y := fun w' hSw => by
     have hS1 := Qp hSw.1 p6
     exact f120) (h := ?_)
   refine YAll.nil (YAll.nil ?_)
   refine wpListS.step (some 99) (by rfl) rfl ?_
   intro K hK
   go_simp
   refine (IHA.out _ (List.getElem_mem hlt) (Vp HBK.out (List.getElem_mem hlt)) wc.drew _ Gx (Jy _ _ _ HOXc.out (fun _ _ => rfl)) HNX.out.1).mono ?_
   rintro e w4 ⟨cs', rfl, ho4, hb4⟩
   obtain ⟨Z3, z3, Z4, z4, Z5, z5, Z6, z6, rfl⟩ := Zi ho4
   have HO4 := Wd ho4; have HB4 := Wd hb4
   clear ho4 hb4
   refine hK.out _ _ (fun _ => ⟨HB4.out.block _ HIc.out.2.2.1.lt (fun h => by have := HLT.out _ (HSUB.out _ h); omega), HB4.out.block _ HBKc.out.lt HNX.out.2⟩) ?_
   clear hK K
   refine wpListS.step (some 100) (by rfl) rfl ?_
   intro K hK
   go_simp
   refine hK.out _ _ (fun h => absurd (by decide) h) ?_
   clear hK K
   refine wpListS.step (some 101) (by rfl) rfl ?_
   intro K hK
   go_simp
   refine hK.out _ _ (fun h => absurd (by decide) h) ?_
   clear hK K
   refine wpListS.step none (by rfl) rfl ?_
   intro K hK
   refine Qw g (k * 9 + 2) _ (Qb x.alts[k].body Y3 y3 Y4 y4 Y5 y5 Y6 y6) post (Qb (rn fr tn x.alts[k].body) Z3 z3 Z4 z4 Z5 z5 Z6 z6) 76 (by rfl) 35 _ _ (by rfl) (by rfl) HL.out.symm (by rfl) (But.blk HB4.out (show Blk wc.drew g _ _ from HBKc.out) HNX.out.2) rfl (by kernel_rfl) (Xg _ _ _ _ _ _ _ _ _) ?_
   intro w5 hb5 hg5 hs5
   have HI5 := Wd (qtx HIc.out.2.1 HIc.out.2.2.1 HIc.out.2.2.2 HB4.out HO4.out hg5 hb5 HNX.out.2 HSUB.out HGF.out HLT.out HCLc.out)
   refine hK.out _ _ (fun h => absurd (by decide) h) ?_
   clear hK K hb5 hg5 hs5 HB4 HO4 p0 p1 p2 p3 p4 p5 p6 g0 g1 g2 g3 g4 g5 g6
   refine wpListS.nil ?_
   go_wp2
   go_roundw
   case rel => exact ⟨k + 1, by omega, by go_num, Wd (by have h := HI5.out; rw [Ki (Vt _ _ _ _) hlt HSET.out] at h; exact h)⟩
   case measure => simp [intOf]; omega) : p := h
theorem f8 {p : Prop} (h : p := by
 obtain ⟨g, cap, c1, cx, post, Gx, hv5, hcap, hl, hblk, hox, hnx, hsub, hgF, hgx, hcl⟩ := HI.out.1.kid (k := k) (by rw [Zg (Km _ _ _ _ _)]; exact hlt)
 simp only [Value.slice.injEq, true_and] at hv5
 obtain ⟨rfl, rfl⟩ := hv5
 rw [Xf (Km _ _ _ _ _) hlt] at hox
 obtain ⟨Y3, y3, Y4, y4, Y5, y5, Y6, y6, rfl⟩ := Zi hox
 obtain ⟨g0, g1, g2, g3, g4, g5, g6⟩ := Blk.seven (show Blk wr g _ (c1 ++ ([_, _, _, _, _, _, _] ++ post)) from hblk) hl
 have ⟨HBK7, HOX, HNX, HSUB, HGF, HCL, HL⟩ := Wk hblk hox (show Gx.Nodup ∧ g ∉ Gx from ⟨hnx, hgx⟩) hsub hgF hcl hl
 clear hblk hox hnx hgx hsub hgF hcl hl
 have qk0 : (0 : Int) ≤ (k : Int) := by omega
 have qk1 : (k : Int) < x.kids.length := by omega
 go_wp2_with fail
 refine Ys [0, 1, 2, 3, 4, 5, 6, 7, 8, 9] [] [10, 11, 12] [11, 12] (fun W' => W'.heap[w.heap.size]? = wr.heap[w.heap.size]? ∧ W'.heap[g]? = wr.heap[g]?) (by kernel_rfl) (by kernel_rfl) (fun _ _ d _ _ h => by cases d <;> exact h) ⟨rfl, rfl⟩ ?_
 iterate 10
  refine Yb 54 (y := fun w' hSw => by
   have hS1 := Qp hSw.1 p5
   exact f120) (h := ?_)
 refine YAll.nil (YAll.nil ?_)
 refine wpListS.step (some 64) (by rfl) rfl ?_
 intro K hK
 go_simp
 refine (IHK.out _ (List.getElem_mem hlt) (by have := Qx (List.getElem_mem hlt); have := HBK.out; rw [Qg] at this; omega) wr.drew _ Gx (Jy _ _ _ HOX.out (fun _ _ => rfl)) HNX.out.1).mono ?_
 rintro e w4 ⟨cs', rfl, ho4, hb4⟩
 obtain ⟨Z3, z3, Z4, z4, Z5, z5, Z6, z6, rfl⟩ := Zi ho4
 have HO4 := Wd ho4; have HB4 := Wd hb4
 clear ho4 hb4
 refine hK.out _ _ (fun _ => ⟨HB4.out.block _ HI.out.2.2.1.lt (fun h => by have := HLT.out _ (HSUB.out _ h); omega), HB4.out.block _ HBK7.out.lt HNX.out.2⟩) ?_
 clear hK K
 refine wpListS.step (some 65) (by rfl) rfl ?_
 intro K hK
 go_simp
 refine hK.out _ _ (fun h => absurd (by decide) h) ?_
 clear hK K
 refine wpListS.step none (by rfl) rfl ?_
 intro K hK
 refine Qw g (k * 7) _ (Qb x.kids[k] Y3 y3 Y4 y4 Y5 y5 Y6 y6) post (Qb (rn fr tn x.kids[k]) Z3 z3 Z4 z4 Z5 z5 Z6 z6) 35 (by rfl) 35 _ _ (by rfl) (by rfl) HL.out.symm (by rfl) (But.blk HB4.out (show Blk wr.drew g _ _ from HBK7.out) HNX.out.2) rfl (by kernel_rfl) (Xg _ _ _ _ _ _ _ _ _) ?_
 intro w5 hb5 hg5 hs5
 have HI5 := Wd (qtx HI.out.2.1 HI.out.2.2.1 HI.out.2.2.2 HB4.out HO4.out hg5 hb5 HNX.out.2 HSUB.out HGF.out HLT.out HCL.out)
 refine hK.out _ _ (fun h => absurd (by decide) h) ?_
 clear hK K hb5 hg5 hs5 HB4 HO4 p0 p1 p2 p3 p4 p5 p6 g0 g1 g2 g3 g4 g5 g6
 refine wpListS.nil ?_
 go_wp2
 go_roundw
 case rel => exact ⟨k + 1, by omega, by go_num, Wd (by have h := HI5.out; rw [Ki (Km _ _ _ _ _) hlt HSET.out] at h; exact h)⟩
 case measure => simp [intOf]; omega) : p := h
theorem f59 {p : Prop} (h : p := by
 have hx := (HI2.out.1.move (fun i hi => HB5.out.block i (Nat.lt_of_lt_of_le (HLT.out i hi) HI2.out.2.1.size) (fun e => by injection e with e; have := HLT.out i hi; omega))).own x.kind x.name x.minus
 rw [HRNX.out]
 exact qct hx HK.out) : p := h
theorem f63 {p : Prop} (h : p := by
 have h := HI.out
 rw [hkk, Xj (Km _ _ _ _ _), Xj (Vt _ _ _ _)] at h
 exact ⟨h.1, h.2.1, h.2.2.2⟩) : p := h
theorem f119 {p : Prop} (h : p := by
 have HSET := Wd (show rn fr tn x.kids[k] = ((Un fr tn (decide (x.kind = 8 ∧ x.name = fr)) 0 x.kids))[k]'(by rw [Km]; exact hlt) by rw [Uy _ _ _ 0 x.kids k hlt, if_neg (fun h => by have := HK.out; have := h.1; simp at this; omega)])
 exact f8) : p := h
theorem qtt (fr tn : ByteArray) (x : CoreT) (hk : x.kind = 6) (hm : fr ∉ x.names) (ihk : ∀ y ∈ x.kids, Vd fr tn y) (iha : ∀ a ∈ x.alts, Vd fr tn a.body) : Vd fr tn x := by
 intro hbk w cs F hO hnd
 have hlt := Je _ _ _ hO
 obtain ⟨v3, v4, v5, v6, F3, F4, F5, F6, G5, G6, rfl, rfl, hX⟩ := RnX.open hO hnd
 obtain ⟨A3, c3, rfl, l3⟩ := hX.r3.slice; obtain ⟨A4, c4, rfl, l4⟩ := hX.r4.slice
 obtain ⟨_, h5, -⟩ := hX.r5; obtain ⟨_, h6, -⟩ := hX.r6
 obtain ⟨A5, c5, rfl, l5⟩ := h5.slice; obtain ⟨A6, c6, rfl, l6⟩ := h6.slice
 obtain ⟨b1, b2, b3, b4, b5⟩ := Qz hbk
 have ⟨HX, HLT, HBK⟩ := Wq hX hlt hbk
 clear hX hlt h5 h6 hO hnd hbk
 rw [hk]
 have HK := Wd hk; clear hk
 obtain ⟨W1, hW1, hp1, hB1, hs1⟩ := boxed w [.int .i64 6, .string x.name, .bool x.minus, .slice A3 x.limbs.length c3, .slice A4 x.names.length c4, .slice A5 x.kids.length c5, .slice A6 x.alts.length c6] 35
 obtain ⟨W2, hW2, hp2, hB2, hs2⟩ := Wh W1 35
 have BP := Wd (hp1.below hB2)
 have BR := Wd (show Blk W2 (w.heap.size + 1) _ _ from by have h := hp2; rw [hs1] at h; exact h)
 have HB2 := Wd (Below.step hB1 hB2)
 have HS2 := Wd hs2
 clear hp1 hp2 hB1 hB2 hs2
 have IHK := Wd ihk; have IHA := Wd iha; clear ihk iha
 have HRNX := Wd (show rn fr tn x = ⟨x.kind, x.name, x.minus, x.limbs, x.names, (Un fr tn (decide (x.kind = 8 ∧ x.name = fr)) 0 x.kids), (qbl fr tn (decide (x.name = fr)) x.alts)⟩ from by rw [qjr, if_neg (show ¬ x.kind = 1 by have := HK.out; omega), if_neg (fun h => hm h.2)])
 have HM := Wd hm; clear hm
 have HRN := Wd (show ∀ w', Below w.heap.size w w' → Kd.string.C w' A4 x.names.length x.names from fun w' hb => by
  exact f36)
 subst hW2; subst hW1
 go_enter Tryz.func99, Tryz.ntmps99
 have ⟨p0, p1, p2, p3, p4, p5, p6⟩ := Cz BP.out
 go_wp2_with fail
 refine (Jj x.names fr b4 A4 c4 _ (HRN.out _ HB2.out) l4).mono ?_
 rintro e w3 ⟨rfl, hb3⟩
 rw [decide_eq_false HM.out]
 have HI0 := Wd (qjs (A := (Un fr tn (decide (x.kind = 8 ∧ x.name = fr)) 0 x.kids)) (B := (qbl fr tn (decide (x.name = fr)) x.alts)) HX.out HLT.out HB2.out BP.out BR.out hb3)
 have hb5 := HI0.out.2.2.1
 clear p0 p1 p2 p3 p4 p5 p6 hb3
 have ⟨p0, p1, p2, p3, p4, p5, p6⟩ := Cz hb5
 clear hb5
 go_wp2_with fail
 clear p0 p1 p2 p3 p4 p5 p6
 go_loopw [7] (fun s7 wr => ∃ k : Nat, k ≤ x.kids.length ∧ s7 = .int .i64 k ∧ Hid (RnX x (.slice A3 x.limbs.length c3) (.slice A4 x.names.length c4) (.slice A5 x.kids.length c5) (.slice A6 x.alts.length c6) F3 F4 F5 F6 G5 G6 x.kids.length x.alts.length (mix (Un fr tn (decide (x.kind = 8 ∧ x.name = fr)) 0 x.kids) x.kids k) (mix (qbl fr tn (decide (x.name = fr)) x.alts) x.alts 0) wr ∧ But (F3 ++ (F4 ++ ((F5 ++ G5) ++ (F6 ++ G6)))) w wr ∧ Blk wr w.heap.size 35 [.int .i64 6, .string x.name, .bool x.minus, .slice A3 x.limbs.length c3, .slice A4 x.names.length c4, .slice A5 x.kids.length c5, .slice A6 x.alts.length c6] ∧ Blk wr (w.heap.size + 1) 35 [.int .i64 0, .string ⟨#[]⟩, .bool false, .slice none 0 0, .slice none 0 0, .slice none 0 0, .slice none 0 0])) (fun s7 _ => x.kids.length - (intOf s7).toNat)
 case atStart => exact ⟨0, Nat.zero_le _, rfl, HI0⟩
 clear HI0
 case round =>
  obtain ⟨k, hk, rfl, HI⟩ := hrel
  have ⟨p0, p1, p2, p3, p4, p5, p6⟩ := Cz HI.out.2.2.1
  by_cases hlt : k < x.kids.length
  ·exact f119
  ·have hkk : k = x.kids.length := by omega
   have HI1 := Wd (show RnX x (.slice A3 x.limbs.length c3) (.slice A4 x.names.length c4) (.slice A5 x.kids.length c5) (.slice A6 x.alts.length c6) F3 F4 F5 F6 G5 G6 x.kids.length x.alts.length (mix (Un fr tn (decide (x.kind = 8 ∧ x.name = fr)) 0 x.kids) x.kids x.kids.length) (mix (qbl fr tn (decide (x.name = fr)) x.alts) x.alts 0) wr ∧ But (F3 ++ (F4 ++ ((F5 ++ G5) ++ (F6 ++ G6)))) w wr ∧ Blk wr w.heap.size 35 [.int .i64 6, .string x.name, .bool x.minus, .slice A3 x.limbs.length c3, .slice A4 x.names.length c4, .slice A5 x.kids.length c5, .slice A6 x.alts.length c6] ∧ Blk wr (w.heap.size + 1) 35 [.int .i64 0, .string ⟨#[]⟩, .bool false, .slice none 0 0, .slice none 0 0, .slice none 0 0, .slice none 0 0] from by have h := HI.out; rw [hkk] at h; exact h)
   clear HI hkk
   go_wp2_with fail
   clear p0 p1 p2 p3 p4 p5 p6 hlt hk
   go_loopw [8] (fun s8 wr => ∃ k : Nat, k ≤ x.alts.length ∧ s8 = .int .i64 k ∧ Hid (RnX x (.slice A3 x.limbs.length c3) (.slice A4 x.names.length c4) (.slice A5 x.kids.length c5) (.slice A6 x.alts.length c6) F3 F4 F5 F6 G5 G6 x.kids.length x.alts.length (mix (Un fr tn (decide (x.kind = 8 ∧ x.name = fr)) 0 x.kids) x.kids x.kids.length) (mix (qbl fr tn (decide (x.name = fr)) x.alts) x.alts k) wr ∧ But (F3 ++ (F4 ++ ((F5 ++ G5) ++ (F6 ++ G6)))) w wr ∧ Blk wr w.heap.size 35 [.int .i64 6, .string x.name, .bool x.minus, .slice A3 x.limbs.length c3, .slice A4 x.names.length c4, .slice A5 x.kids.length c5, .slice A6 x.alts.length c6] ∧ Blk wr (w.heap.size + 1) 35 [.int .i64 0, .string ⟨#[]⟩, .bool false, .slice none 0 0, .slice none 0 0, .slice none 0 0, .slice none 0 0])) (fun s8 _ => x.alts.length - (intOf s8).toNat)
   case atStart => exact ⟨0, Nat.zero_le _, rfl, HI1⟩
   clear HI1
   case round =>
    obtain ⟨k, hk, rfl, HI⟩ := hrel
    have ⟨p0, p1, p2, p3, p4, p5, p6⟩ := Cz HI.out.2.2.1
    by_cases hlt : k < x.alts.length
    ·exact f7
    ·have hkk : k = x.alts.length := by omega
     have HI2 := Wd (show RnX x (.slice A3 x.limbs.length c3) (.slice A4 x.names.length c4) (.slice A5 x.kids.length c5) (.slice A6 x.alts.length c6) F3 F4 F5 F6 G5 G6 x.kids.length x.alts.length (Un fr tn (decide (x.kind = 8 ∧ x.name = fr)) 0 x.kids) (qbl fr tn (decide (x.name = fr)) x.alts) wr ∧ But (F3 ++ (F4 ++ ((F5 ++ G5) ++ (F6 ++ G6)))) w wr ∧ Blk wr (w.heap.size + 1) 35 [.int .i64 0, .string ⟨#[]⟩, .bool false, .slice none 0 0, .slice none 0 0, .slice none 0 0, .slice none 0 0] from by
      exact f63)
     clear HI hkk
     go_wp2_with (refine Wv (w.heap.size + 1) [.int .i64 6, .string x.name, .bool x.minus, .slice A3 x.limbs.length c3, .slice A4 x.names.length c4, .slice A5 x.kids.length c5, .slice A6 x.alts.length c6] HI2.out.2.2 ?_)
     intro w5 hblk5 hg5 hsz5
     clear p0 p1 p2 p3 p4 p5 p6
     have ⟨q0, q1, q2, q3, q4, q5, q6⟩ := Cz hblk5
     have HB5 := Wd hg5
     clear hblk5 hg5
     go_wp2
     refine bodyPost_ret (v := .agg #[.int .i64 6, .string x.name, .bool x.minus, .slice A3 x.limbs.length c3, .slice A4 x.names.length c4, .slice A5 x.kids.length c5, .slice A6 x.alts.length c6]) (by simp [results, Tryz.results99, go_sem, q0, q1, q2, q3, q4, q5, q6]) rfl ⟨_, rfl, ?_, ?hbut⟩
     case hbut => exact qfs HI2.out.2.1 HB5.out (by omega)
     exact f59
theorem qtu (fr tn : ByteArray) (x : CoreT) (hk : x.kind = 7) (hm : fr ∉ x.names) (ihk : ∀ y ∈ x.kids, Vd fr tn y) (iha : ∀ a ∈ x.alts, Vd fr tn a.body) : Vd fr tn x := by
 intro hbk w cs F hO hnd
 have hlt := Je _ _ _ hO
 obtain ⟨v3, v4, v5, v6, F3, F4, F5, F6, G5, G6, rfl, rfl, hX⟩ := RnX.open hO hnd
 obtain ⟨A3, c3, rfl, l3⟩ := hX.r3.slice; obtain ⟨A4, c4, rfl, l4⟩ := hX.r4.slice
 obtain ⟨_, h5, -⟩ := hX.r5; obtain ⟨_, h6, -⟩ := hX.r6
 obtain ⟨A5, c5, rfl, l5⟩ := h5.slice; obtain ⟨A6, c6, rfl, l6⟩ := h6.slice
 obtain ⟨b1, b2, b3, b4, b5⟩ := Qz hbk
 have ⟨HX, HLT, HBK⟩ := Wq hX hlt hbk
 clear hX hlt h5 h6 hO hnd hbk
 rw [hk]
 have HK := Wd hk; clear hk
 obtain ⟨W1, hW1, hp1, hB1, hs1⟩ := boxed w [.int .i64 7, .string x.name, .bool x.minus, .slice A3 x.limbs.length c3, .slice A4 x.names.length c4, .slice A5 x.kids.length c5, .slice A6 x.alts.length c6] 35
 obtain ⟨W2, hW2, hp2, hB2, hs2⟩ := Wh W1 35
 have BP := Wd (hp1.below hB2)
 have BR := Wd (show Blk W2 (w.heap.size + 1) _ _ from by have h := hp2; rw [hs1] at h; exact h)
 have HB2 := Wd (Below.step hB1 hB2)
 have HS2 := Wd hs2
 clear hp1 hp2 hB1 hB2 hs2
 have IHK := Wd ihk; have IHA := Wd iha; clear ihk iha
 have HRNX := Wd (show rn fr tn x = ⟨x.kind, x.name, x.minus, x.limbs, x.names, (Un fr tn (decide (x.kind = 8 ∧ x.name = fr)) 0 x.kids), (qbl fr tn (decide (x.name = fr)) x.alts)⟩ from by rw [qjr, if_neg (show ¬ x.kind = 1 by have := HK.out; omega), if_neg (fun h => hm h.2)])
 have HM := Wd hm; clear hm
 have HRN := Wd (show ∀ w', Below w.heap.size w w' → Kd.string.C w' A4 x.names.length x.names from fun w' hb => by
  exact f36)
 subst hW2; subst hW1
 go_enter Tryz.func99, Tryz.ntmps99
 have ⟨p0, p1, p2, p3, p4, p5, p6⟩ := Cz BP.out
 go_wp2_with fail
 refine (Jj x.names fr b4 A4 c4 _ (HRN.out _ HB2.out) l4).mono ?_
 rintro e w3 ⟨rfl, hb3⟩
 rw [decide_eq_false HM.out]
 have HI0 := Wd (qjs (A := (Un fr tn (decide (x.kind = 8 ∧ x.name = fr)) 0 x.kids)) (B := (qbl fr tn (decide (x.name = fr)) x.alts)) HX.out HLT.out HB2.out BP.out BR.out hb3)
 have hb5 := HI0.out.2.2.1
 clear p0 p1 p2 p3 p4 p5 p6 hb3
 have ⟨p0, p1, p2, p3, p4, p5, p6⟩ := Cz hb5
 clear hb5
 go_wp2_with fail
 clear p0 p1 p2 p3 p4 p5 p6
 go_loopw [7] (fun s7 wr => ∃ k : Nat, k ≤ x.kids.length ∧ s7 = .int .i64 k ∧ Hid (RnX x (.slice A3 x.limbs.length c3) (.slice A4 x.names.length c4) (.slice A5 x.kids.length c5) (.slice A6 x.alts.length c6) F3 F4 F5 F6 G5 G6 x.kids.length x.alts.length (mix (Un fr tn (decide (x.kind = 8 ∧ x.name = fr)) 0 x.kids) x.kids k) (mix (qbl fr tn (decide (x.name = fr)) x.alts) x.alts 0) wr ∧ But (F3 ++ (F4 ++ ((F5 ++ G5) ++ (F6 ++ G6)))) w wr ∧ Blk wr w.heap.size 35 [.int .i64 7, .string x.name, .bool x.minus, .slice A3 x.limbs.length c3, .slice A4 x.names.length c4, .slice A5 x.kids.length c5, .slice A6 x.alts.length c6] ∧ Blk wr (w.heap.size + 1) 35 [.int .i64 0, .string ⟨#[]⟩, .bool false, .slice none 0 0, .slice none 0 0, .slice none 0 0, .slice none 0 0])) (fun s7 _ => x.kids.length - (intOf s7).toNat)
 case atStart => exact ⟨0, Nat.zero_le _, rfl, HI0⟩
 clear HI0
 case round =>
  obtain ⟨k, hk, rfl, HI⟩ := hrel
  have ⟨p0, p1, p2, p3, p4, p5, p6⟩ := Cz HI.out.2.2.1
  by_cases hlt : k < x.kids.length
  ·exact f119
  ·have hkk : k = x.kids.length := by omega
   have HI1 := Wd (show RnX x (.slice A3 x.limbs.length c3) (.slice A4 x.names.length c4) (.slice A5 x.kids.length c5) (.slice A6 x.alts.length c6) F3 F4 F5 F6 G5 G6 x.kids.length x.alts.length (mix (Un fr tn (decide (x.kind = 8 ∧ x.name = fr)) 0 x.kids) x.kids x.kids.length) (mix (qbl fr tn (decide (x.name = fr)) x.alts) x.alts 0) wr ∧ But (F3 ++ (F4 ++ ((F5 ++ G5) ++ (F6 ++ G6)))) w wr ∧ Blk wr w.heap.size 35 [.int .i64 7, .string x.name, .bool x.minus, .slice A3 x.limbs.length c3, .slice A4 x.names.length c4, .slice A5 x.kids.length c5, .slice A6 x.alts.length c6] ∧ Blk wr (w.heap.size + 1) 35 [.int .i64 0, .string ⟨#[]⟩, .bool false, .slice none 0 0, .slice none 0 0, .slice none 0 0, .slice none 0 0] from by have h := HI.out; rw [hkk] at h; exact h)
   clear HI hkk
   go_wp2_with fail
   clear p0 p1 p2 p3 p4 p5 p6 hlt hk
   go_loopw [8] (fun s8 wr => ∃ k : Nat, k ≤ x.alts.length ∧ s8 = .int .i64 k ∧ Hid (RnX x (.slice A3 x.limbs.length c3) (.slice A4 x.names.length c4) (.slice A5 x.kids.length c5) (.slice A6 x.alts.length c6) F3 F4 F5 F6 G5 G6 x.kids.length x.alts.length (mix (Un fr tn (decide (x.kind = 8 ∧ x.name = fr)) 0 x.kids) x.kids x.kids.length) (mix (qbl fr tn (decide (x.name = fr)) x.alts) x.alts k) wr ∧ But (F3 ++ (F4 ++ ((F5 ++ G5) ++ (F6 ++ G6)))) w wr ∧ Blk wr w.heap.size 35 [.int .i64 7, .string x.name, .bool x.minus, .slice A3 x.limbs.length c3, .slice A4 x.names.length c4, .slice A5 x.kids.length c5, .slice A6 x.alts.length c6] ∧ Blk wr (w.heap.size + 1) 35 [.int .i64 0, .string ⟨#[]⟩, .bool false, .slice none 0 0, .slice none 0 0, .slice none 0 0, .slice none 0 0])) (fun s8 _ => x.alts.length - (intOf s8).toNat)
   case atStart => exact ⟨0, Nat.zero_le _, rfl, HI1⟩
   clear HI1
   case round =>
    obtain ⟨k, hk, rfl, HI⟩ := hrel
    have ⟨p0, p1, p2, p3, p4, p5, p6⟩ := Cz HI.out.2.2.1
    by_cases hlt : k < x.alts.length
    ·exact f7
    ·have hkk : k = x.alts.length := by omega
     have HI2 := Wd (show RnX x (.slice A3 x.limbs.length c3) (.slice A4 x.names.length c4) (.slice A5 x.kids.length c5) (.slice A6 x.alts.length c6) F3 F4 F5 F6 G5 G6 x.kids.length x.alts.length (Un fr tn (decide (x.kind = 8 ∧ x.name = fr)) 0 x.kids) (qbl fr tn (decide (x.name = fr)) x.alts) wr ∧ But (F3 ++ (F4 ++ ((F5 ++ G5) ++ (F6 ++ G6)))) w wr ∧ Blk wr (w.heap.size + 1) 35 [.int .i64 0, .string ⟨#[]⟩, .bool false, .slice none 0 0, .slice none 0 0, .slice none 0 0, .slice none 0 0] from by
      exact f63)
     clear HI hkk
     go_wp2_with (refine Wv (w.heap.size + 1) [.int .i64 7, .string x.name, .bool x.minus, .slice A3 x.limbs.length c3, .slice A4 x.names.length c4, .slice A5 x.kids.length c5, .slice A6 x.alts.length c6] HI2.out.2.2 ?_)
     intro w5 hblk5 hg5 hsz5
     clear p0 p1 p2 p3 p4 p5 p6
     have ⟨q0, q1, q2, q3, q4, q5, q6⟩ := Cz hblk5
     have HB5 := Wd hg5
     clear hblk5 hg5
     go_wp2
     refine bodyPost_ret (v := .agg #[.int .i64 7, .string x.name, .bool x.minus, .slice A3 x.limbs.length c3, .slice A4 x.names.length c4, .slice A5 x.kids.length c5, .slice A6 x.alts.length c6]) (by simp [results, Tryz.results99, go_sem, q0, q1, q2, q3, q4, q5, q6]) rfl ⟨_, rfl, ?_, ?hbut⟩
     case hbut => exact qfs HI2.out.2.1 HB5.out (by omega)
     exact f59
theorem qtv (fr tn : ByteArray) (x : CoreT) (hk1 : x.kind ≠ 1) (hk6 : x.kind ≠ 6) (hk7 : x.kind ≠ 7) (ihk : ∀ y ∈ x.kids, Vd fr tn y) (iha : ∀ a ∈ x.alts, Vd fr tn a.body) : Vd fr tn x := by
 intro hbk w cs F hO hnd
 have hlt := Je _ _ _ hO
 obtain ⟨v3, v4, v5, v6, F3, F4, F5, F6, G5, G6, rfl, rfl, hX⟩ := RnX.open hO hnd
 obtain ⟨A3, c3, rfl, l3⟩ := hX.r3.slice; obtain ⟨A4, c4, rfl, l4⟩ := hX.r4.slice
 obtain ⟨_, h5, -⟩ := hX.r5; obtain ⟨_, h6, -⟩ := hX.r6
 obtain ⟨A5, c5, rfl, l5⟩ := h5.slice; obtain ⟨A6, c6, rfl, l6⟩ := h6.slice
 obtain ⟨b1, b2, b3, b4, b5⟩ := Qz hbk
 have ⟨HX, HLT, HBK⟩ := Wq hX hlt hbk
 clear hX hlt h5 h6 hO hnd hbk
 obtain ⟨W1, hW1, hp1, hB1, hs1⟩ := Wy w x A3 c3 A4 c4 A5 c5 A6 c6 35
 obtain ⟨W2, hW2, hp2, hB2, hs2⟩ := Wh W1 35
 have BP := Wd (hp1.below hB2)
 have BR := Wd (show Blk W2 (w.heap.size + 1) _ _ from by have h := hp2; rw [hs1] at h; exact h)
 have HB2 := Wd (Below.step hB1 hB2)
 have HS2 := Wd hs2
 clear hp1 hp2 hB1 hB2 hs2
 have IHK := Wd ihk; have IHA := Wd iha; clear ihk iha
 have HRNX := Wd (show rn fr tn x = ⟨x.kind, x.name, x.minus, x.limbs, x.names, (Un fr tn (decide (x.kind = 8 ∧ x.name = fr)) 0 x.kids), (qbl fr tn (decide (x.name = fr)) x.alts)⟩ from by rw [qjr, if_neg hk1, if_neg (fun h => h.1.elim hk6 hk7)])
 have e1 : (x.kind == 1) = false := beq_eq_false_iff_ne.2 hk1
 have e6 : (x.kind == 6) = false := beq_eq_false_iff_ne.2 hk6
 have e7 : (x.kind == 7) = false := beq_eq_false_iff_ne.2 hk7
 have HI0 := Wd (qjs (A := (Un fr tn (decide (x.kind = 8 ∧ x.name = fr)) 0 x.kids)) (B := (qbl fr tn (decide (x.name = fr)) x.alts)) HX.out HLT.out HB2.out BP.out BR.out (Below.refl _ _))
 clear hk1 hk6 hk7
 subst hW2; subst hW1
 go_enter Tryz.func99, Tryz.ntmps99
 have ⟨p0, p1, p2, p3, p4, p5, p6⟩ := Cz BP.out
 go_wp2_with fail
 clear p0 p1 p2 p3 p4 p5 p6
 go_loopw [7] (fun s7 wr => ∃ k : Nat, k ≤ x.kids.length ∧ s7 = .int .i64 k ∧ Hid (RnX x (.slice A3 x.limbs.length c3) (.slice A4 x.names.length c4) (.slice A5 x.kids.length c5) (.slice A6 x.alts.length c6) F3 F4 F5 F6 G5 G6 x.kids.length x.alts.length (mix (Un fr tn (decide (x.kind = 8 ∧ x.name = fr)) 0 x.kids) x.kids k) (mix (qbl fr tn (decide (x.name = fr)) x.alts) x.alts 0) wr ∧ But (F3 ++ (F4 ++ ((F5 ++ G5) ++ (F6 ++ G6)))) w wr ∧ Blk wr w.heap.size 35 [.int .i64 x.kind, .string x.name, .bool x.minus, .slice A3 x.limbs.length c3, .slice A4 x.names.length c4, .slice A5 x.kids.length c5, .slice A6 x.alts.length c6] ∧ Blk wr (w.heap.size + 1) 35 [.int .i64 0, .string ⟨#[]⟩, .bool false, .slice none 0 0, .slice none 0 0, .slice none 0 0, .slice none 0 0])) (fun s7 _ => x.kids.length - (intOf s7).toNat)
 case atStart => exact ⟨0, Nat.zero_le _, rfl, HI0⟩
 clear HI0
 case round =>
  obtain ⟨k, hk, rfl, HI⟩ := hrel
  have ⟨p0, p1, p2, p3, p4, p5, p6⟩ := Cz HI.out.2.2.1
  by_cases hlt : k < x.kids.length
  ·by_cases h8 : x.kind = 8
   ·have e8 : (x.kind == 8) = true := beq_iff_eq.2 h8
    have HE8 := Wd h8; clear h8
    by_cases h1 : k = 1
    ·have e1k : ((k : Int) == 1) = true := beq_iff_eq.2 (by omega)
     have HE1 := Wd h1; clear h1
     by_cases hn : x.name = fr
     ·have hnb : (x.name.toList == fr.toList) = true := by rw [hn]; exact beq_self_eq_true _
      have hnb2 : x.name.toList = fr.toList := by rw [hn]
      have HN := Wd hn; clear hn
      have hset : ((Un fr tn (decide (x.kind = 8 ∧ x.name = fr)) 0 x.kids))[k]'(by rw [Km]; exact hlt) = x.kids[k] := by rw [Uy _ _ _ 0 x.kids k hlt, if_pos ⟨decide_eq_true ⟨HE8.out, HN.out⟩, by have := HE1.out; omega⟩]
      have HSET := Wd hset; clear hset
      go_wp2_with fail
      go_roundw
      case rel => exact ⟨k + 1, by omega, by go_num, Wd (by have h := HI.out; rw [Vq (Km _ _ _ _ _) hlt HSET.out] at h; exact h)⟩
      case measure => simp [intOf]; omega
     ·have hnb : (x.name.toList == fr.toList) = false := beq_eq_false_iff_ne.2 (fun h => hn (Jz h))
      have hnb2 : ¬ x.name.toList = fr.toList := fun h => hn (Jz h)
      have HN := Wd hn; clear hn
      have HSET := Wd (show rn fr tn x.kids[k] = ((Un fr tn (decide (x.kind = 8 ∧ x.name = fr)) 0 x.kids))[k]'(by rw [Km]; exact hlt) by rw [Uy _ _ _ 0 x.kids k hlt, if_neg (fun h => HN.out (of_decide_eq_true h.1).2)])
      exact f8
    ·have e1k : ((k : Int) == 1) = false := beq_eq_false_iff_ne.2 (by omega)
     have HE1 := Wd h1; clear h1
     have HSET := Wd (show rn fr tn x.kids[k] = ((Un fr tn (decide (x.kind = 8 ∧ x.name = fr)) 0 x.kids))[k]'(by rw [Km]; exact hlt) by rw [Uy _ _ _ 0 x.kids k hlt, if_neg (fun h => HE1.out (by have := h.2; omega))])
     exact f8
   ·have e8 : (x.kind == 8) = false := beq_eq_false_iff_ne.2 h8
    have HE8 := Wd h8; clear h8
    have HSET := Wd (show rn fr tn x.kids[k] = ((Un fr tn (decide (x.kind = 8 ∧ x.name = fr)) 0 x.kids))[k]'(by rw [Km]; exact hlt) by rw [Uy _ _ _ 0 x.kids k hlt, if_neg (fun h => HE8.out (of_decide_eq_true h.1).1)])
    exact f8
  ·have hkk : k = x.kids.length := by omega
   have HI1 := Wd (show RnX x (.slice A3 x.limbs.length c3) (.slice A4 x.names.length c4) (.slice A5 x.kids.length c5) (.slice A6 x.alts.length c6) F3 F4 F5 F6 G5 G6 x.kids.length x.alts.length (mix (Un fr tn (decide (x.kind = 8 ∧ x.name = fr)) 0 x.kids) x.kids x.kids.length) (mix (qbl fr tn (decide (x.name = fr)) x.alts) x.alts 0) wr ∧ But (F3 ++ (F4 ++ ((F5 ++ G5) ++ (F6 ++ G6)))) w wr ∧ Blk wr w.heap.size 35 [.int .i64 x.kind, .string x.name, .bool x.minus, .slice A3 x.limbs.length c3, .slice A4 x.names.length c4, .slice A5 x.kids.length c5, .slice A6 x.alts.length c6] ∧ Blk wr (w.heap.size + 1) 35 [.int .i64 0, .string ⟨#[]⟩, .bool false, .slice none 0 0, .slice none 0 0, .slice none 0 0, .slice none 0 0] from by have h := HI.out; rw [hkk] at h; exact h)
   clear HI hkk
   go_wp2_with fail
   clear p0 p1 p2 p3 p4 p5 p6 hlt hk
   go_loopw [8] (fun s8 wr => ∃ k : Nat, k ≤ x.alts.length ∧ s8 = .int .i64 k ∧ Hid (RnX x (.slice A3 x.limbs.length c3) (.slice A4 x.names.length c4) (.slice A5 x.kids.length c5) (.slice A6 x.alts.length c6) F3 F4 F5 F6 G5 G6 x.kids.length x.alts.length (mix (Un fr tn (decide (x.kind = 8 ∧ x.name = fr)) 0 x.kids) x.kids x.kids.length) (mix (qbl fr tn (decide (x.name = fr)) x.alts) x.alts k) wr ∧ But (F3 ++ (F4 ++ ((F5 ++ G5) ++ (F6 ++ G6)))) w wr ∧ Blk wr w.heap.size 35 [.int .i64 x.kind, .string x.name, .bool x.minus, .slice A3 x.limbs.length c3, .slice A4 x.names.length c4, .slice A5 x.kids.length c5, .slice A6 x.alts.length c6] ∧ Blk wr (w.heap.size + 1) 35 [.int .i64 0, .string ⟨#[]⟩, .bool false, .slice none 0 0, .slice none 0 0, .slice none 0 0, .slice none 0 0])) (fun s8 _ => x.alts.length - (intOf s8).toNat)
   case atStart => exact ⟨0, Nat.zero_le _, rfl, HI1⟩
   clear HI1
   case round =>
    obtain ⟨k, hk, rfl, HI⟩ := hrel
    have ⟨p0, p1, p2, p3, p4, p5, p6⟩ := Cz HI.out.2.2.1
    by_cases hlt : k < x.alts.length
    ·exact f7
    ·have hkk : k = x.alts.length := by omega
     have HI2 := Wd (show RnX x (.slice A3 x.limbs.length c3) (.slice A4 x.names.length c4) (.slice A5 x.kids.length c5) (.slice A6 x.alts.length c6) F3 F4 F5 F6 G5 G6 x.kids.length x.alts.length (Un fr tn (decide (x.kind = 8 ∧ x.name = fr)) 0 x.kids) (qbl fr tn (decide (x.name = fr)) x.alts) wr ∧ But (F3 ++ (F4 ++ ((F5 ++ G5) ++ (F6 ++ G6)))) w wr ∧ Blk wr (w.heap.size + 1) 35 [.int .i64 0, .string ⟨#[]⟩, .bool false, .slice none 0 0, .slice none 0 0, .slice none 0 0, .slice none 0 0] from by
      exact f63)
     clear HI hkk
     go_wp2_with (refine Wv (w.heap.size + 1) [.int .i64 x.kind, .string x.name, .bool x.minus, .slice A3 x.limbs.length c3, .slice A4 x.names.length c4, .slice A5 x.kids.length c5, .slice A6 x.alts.length c6] HI2.out.2.2 ?_)
     intro w5 hblk5 hg5 hsz5
     clear p0 p1 p2 p3 p4 p5 p6
     have ⟨q0, q1, q2, q3, q4, q5, q6⟩ := Cz hblk5
     have HB5 := Wd hg5
     clear hblk5 hg5
     go_wp2
     refine bodyPost_ret (v := .agg #[.int .i64 x.kind, .string x.name, .bool x.minus, .slice A3 x.limbs.length c3, .slice A4 x.names.length c4, .slice A5 x.kids.length c5, .slice A6 x.alts.length c6]) (by simp [results, Tryz.results99, go_sem, q0, q1, q2, q3, q4, q5, q6]) rfl ⟨_, rfl, ?_, ?hbut⟩
     case hbut => exact qfs HI2.out.2.1 HB5.out (by omega)
     have hx := (HI2.out.1.move (fun i hi => HB5.out.block i (Nat.lt_of_lt_of_le (HLT.out i hi) HI2.out.2.1.size) (fun e => by injection e with e; have := HLT.out i hi; omega))).own x.kind x.name x.minus
     rw [HRNX.out]
     exact hx
theorem rn_any (fr tn : ByteArray) (x : CoreT) (ihk : ∀ y ∈ x.kids, Vd fr tn y) (iha : ∀ a ∈ x.alts, Vd fr tn a.body) : Vd fr tn x := by
 by_cases h1 : x.kind = 1
 ·exact rn_var fr tn x h1
 by_cases h6 : x.kind = 6
 ·by_cases hm : fr ∈ x.names
  ·exact qqq fr tn x h6 hm
  ·exact qtt fr tn x h6 hm ihk iha
 by_cases h7 : x.kind = 7
 ·by_cases hm : fr ∈ x.names
  ·exact qqr fr tn x h7 hm
  ·exact qtu fr tn x h7 hm ihk iha
 exact qtv fr tn x h1 h6 h7 ihk iha
theorem rn_all (fr tn : ByteArray) (x : CoreT) : Vd fr tn x := Za (Vd fr tn) (rn_any fr tn) x
end Go.Proofs.YtnoammmohdmnjaaGreat.C13
