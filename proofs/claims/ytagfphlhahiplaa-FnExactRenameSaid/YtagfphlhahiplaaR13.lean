/- Part of the proof that FnExactFormatCore answers true at every term. -/
import Derived.Below
import Derived.ChangeOld
import Derived.OpenShut
import Derived.ProofKit
import Derived.ShutString
import Derived.Test.YtagfphlhahiplaaRows
import Derived.WalkKit
import Derived.Test.YtagfphlhahiplaaR12
namespace Go.Proofs.Ytagfphlhahiplaa.C13
open Go.RowKit Go.Proofs.YtagfphlhahiplaaW.PrintWords Go.Proofs.Ytagfphlhahiplaa.PFnExactFormatCore
set_option linter.unusedVariables false
set_option linter.unusedSimpArgs false
def RenPost (fr tn : ByteArray) (x : CoreT) (g : Nat) (e : TypeId) (pre post : List Value) (F : List Nat) (w : World) (en : Ending) (w' : World) : Prop :=
  en = .returned (.tuple #[]) ∧ ∃ cx', OwnC 36 80 w' (rn fr tn x) cx' F ∧ Blk w' g e (pre ++ (cx' ++ post)) ∧ But (g :: F) w w'
set_option maxRecDepth 100000 in
set_option maxHeartbeats 4000000 in
theorem rename_any (fr tn : ByteArray) (x : CoreT) (hsh : Shapes x) (hbk : bulk x ≤ 1048576) (w : World) (g off : Nat) (e : TypeId) (pre cx post : List Value) (F : List Nat) (hoff : pre.length = off) (hb : Blk w g e (pre ++ (cx ++ post))) (hO : OwnC 36 80 w x cx F) (hnd : F.Nodup) (hg : g ∉ F) :
    Calls Try.prog 34 #[.pointer (some ⟨g, off, none⟩), .string fr, .string tn] w (RenPost fr tn x g e pre post F w) := by
  have hmm := @run_makeMap Try.prog
  have hmf : ∀ (fn : Fn) (first cap : Array Value) (w : World), (Instr.makeFunc fn first cap).run Try.prog w = .ok (.func fn first cap) w := fun _ _ _ _ => rfl
  have hlt := own_lt _ _ _ hO
  have hgl := hb.lt
  have HO := Lib.hid hO; have HB := Lib.hid hb; have HLT := Lib.hid hlt; have HG := Lib.hid hg; have HN := Lib.hid hnd; have HSH := Lib.hid hsh; have HBK := Lib.hid hbk; have HOFF := Lib.hid hoff
  clear hO hb hlt hg hnd hsh hbk hoff
  obtain ⟨W1, hW1, hp1, hB1, hs1⟩ := boxed w [.string fr] 9
  obtain ⟨W2, hW2, hp2, hB2, hs2⟩ := boxed W1 [.string tn] 9
  obtain ⟨W3, hW3⟩ : ∃ W3, W3 = W2.alloc (.map #[] 0) := ⟨_, rfl⟩
  have hB3 : Below W2.heap.size W2 W3 := by rw [hW3]; exact (Below.refl _ _).alloc (Nat.le_refl _) _
  have hM : CountM W3 W2.heap.size 0 (fun _ => 0) := by rw [hW3]; exact CountM.made W2
  have HB3 := Lib.hid (below_trans0 (Below.step hB1 hB2) hB3)
  have H1 := Lib.hid ((hp1.below hB2).below hB3)
  have H2 := Lib.hid (hp2.below hB3)
  have HM := Lib.hid hM
  rw [hs1] at H2
  rw [hs2, hs1] at HM
  have HS1 := Lib.hid (show W2.heap.size = w.heap.size + 1 + 1 by omega)
  clear hp1 hp2 hB1 hB2 hB3 hM hs1 hs2
  subst hW3; subst hW2; subst hW1
  go_enter Try.func34, Try.ntmps34
  go_wp2_with fail
  refine (fv_all fr tn x HSH.out HBK.out _ g off e pre cx post F (w.heap.size + 1 + 1) w.heap.size (w.heap.size + 1) 0 (fun _ => 0) HOFF.out (HB.out.below HB3.out) (own_below HO.out HB3.out) HN.out ⟨HG.out, by omega, fun h => by have := HLT.out _ h; omega, by omega, by omega, fun h => by have := HLT.out _ h; omega, by omega, by omega, fun h => by have := HLT.out _ h; omega⟩ H1.out H2.out HM.out (by have := HBK.out; omega)).mono ?_
  rintro en w4 ⟨rfl, cx', ho4, hb4, hm4, hbt4⟩
  have HO4 := Lib.hid ho4; have HB4 := Lib.hid hb4; have HT4 := Lib.hid hbt4
  clear ho4 hb4 hm4 hbt4
  go_wp2
  go_end0
  refine ⟨rfl, cx', ?_, HB4.out, ?_⟩
  · have h := HO4.out
    rw [show hidB (fun _ => 0) fr = false from decide_eq_false (by simp), fv_rn fr tn x HSH.out] at h
    exact h
  · have hb := HB3.out
    exact ⟨HT4.out.os.trans hb.os, HT4.out.tape.trans hb.tape, HT4.out.output.trans hb.output, Nat.le_trans hb.size HT4.out.size, fun i hi hn => (HT4.out.block i (Nat.lt_of_lt_of_le hi hb.size) (fun h => by
      rcases List.mem_cons.1 h with h | h
      · omega
      · exact hn h)).trans (hb.block i hi)⟩
set_option maxRecDepth 100000 in
set_option maxHeartbeats 4000000 in
theorem implRename (fr tn : ByteArray) (x : CoreT) (hbk : bulk x ≤ 1048576) (w : World) (cs : List Value) (hK : IC.K w x cs) :
    Calls Try.prog 11 #[.agg cs.toArray, .string fr, .string tn] w (ToPost 36 80 (renT fr tn x) w) := by
  obtain ⟨A3, a3, A4, a4, A5, a5, A6, a6, rfl, -⟩ := core_open hK
  have HK := Lib.hid hK; have HBK := Lib.hid hbk
  clear hK hbk
  simp only [cellsC]
  obtain ⟨W1, hW1, hp1, hB1, hs1⟩ := boxed w [.int .i64 x.kind, .string x.name, .bool x.minus, .slice A3 x.limbs.length a3, .slice A4 x.names.length a4, .slice A5 x.kids.length a5, .slice A6 x.alts.length a6] 36
  obtain ⟨W2, hW2, hp2, hB2, hs2⟩ := boxed W1 [.int .i64 0, .string ⟨#[]⟩, .bool false, .slice none 0 0, .slice none 0 0, .slice none 0 0, .slice none 0 0] 36
  have BP := Lib.hid (hp1.below hB2)
  have BR := Lib.hid (show Blk W2 (w.heap.size + 1) _ _ from by have h := hp2; rw [hs1] at h; exact h)
  have HB2 := Lib.hid (Below.step hB1 hB2)
  have HAT := Lib.hid (show At W2 x ⟨w.heap.size, 0, none⟩ from ⟨A3, a3, A4, a4, A5, a5, A6, a6, (kCore _ _).K_below HB2.out HK.out, BP.out.cell (j := 0) rfl, BP.out.cell (j := 1) rfl, BP.out.cell (j := 2) rfl, BP.out.cell (j := 3) rfl, BP.out.cell (j := 4) rfl, BP.out.cell (j := 5) rfl, BP.out.cell (j := 6) rfl⟩)
  have HS2 := Lib.hid hs2
  clear hp1 hp2 hB1 hB2 hs2
  subst hW2; subst hW1
  go_enter Try.func11, Try.ntmps11
  go_wp2_with fail
  refine (copyCore_all x HBK.out _ _ HAT.out).mono ?_
  rintro e w3 ⟨c1, F, rfl, ho, hn, hf, hb3⟩
  obtain ⟨Y3, y3, Y4, y4, Y5, y5, Y6, y6, rfl⟩ := own_open ho
  have HO := Lib.hid ho; have HN := Lib.hid hn; have HF := Lib.hid hf; have HB3 := Lib.hid hb3
  have hz : w.heap.size + 1 < w3.heap.size := Nat.lt_of_lt_of_le BR.out.lt hb3.size
  clear ho hn hf hb3
  simp only [cellsC]
  obtain ⟨g7, hg7⟩ : ∃ g7, g7 = w3.heap.size := ⟨_, rfl⟩
  have HG7 := Lib.hid hg7
  have hal := (Below.refl w3.heap.size w3).alloc (Nat.le_refl _) (.cells #[.int .i64 0, .string ⟨#[]⟩, .bool false, .slice none 0 0, .slice none 0 0, .slice none 0 0, .slice none 0 0] 36)
  have HAL := Lib.hid hal
  have BZ := Lib.hid (show Blk (w3.alloc (.cells #[.int .i64 0, .string ⟨#[]⟩, .bool false, .slice none 0 0, .slice none 0 0, .slice none 0 0, .slice none 0 0] 36)) w3.heap.size 36 [.int .i64 0, .string ⟨#[]⟩, .bool false, .slice none 0 0, .slice none 0 0, .slice none 0 0, .slice none 0 0] from blk_alloc w3 _ _)
  clear hal hg7
  go_wp2_with (refine wpList_store_blk w3.heap.size 0 [] [.int .i64 0, .string ⟨#[]⟩, .bool false, .slice none 0 0, .slice none 0 0, .slice none 0 0, .slice none 0 0] [] [.int .i64 x.kind, .string x.name, .bool x.minus, .slice Y3 x.limbs.length y3, .slice Y4 x.names.length y4, .slice Y5 x.kids.length y5, .slice Y6 x.alts.length y6] 36 (by rfl) 36 _ _ (by rfl) (by rfl) rfl (by rfl) BZ.out rfl (by kernel_rfl) ?honea ?_)
  case honea => intro v hv; simp at hv; rcases hv with rfl | rfl | rfl | rfl | rfl | rfl | rfl <;> rfl
  intro w5 hb5 hg5 hsz5
  have HB5 := Lib.hid (show Blk w5 w3.heap.size 36 [.int .i64 x.kind, .string x.name, .bool x.minus, .slice Y3 x.limbs.length y3, .slice Y4 x.names.length y4, .slice Y5 x.kids.length y5, .slice Y6 x.alts.length y6] from by simpa using hb5)
  have HO5 := Lib.hid (own_grown (own_below HO.out HAL.out) hg5 (fun k hk e => by have := own_lt _ _ _ HO.out k hk; omega))
  have HBW5 := Lib.hid (below_grown (below_trans0 HB3.out HAL.out) hg5 HB3.out.size)
  have HFG := Lib.hid (show ∀ k ∈ F, k < w3.heap.size from own_lt _ _ _ HO.out)
  clear hb5 hg5 hsz5 BZ HAL HO
  by_cases he : tn = ⟨#[]⟩
  · subst he
    have HR := Lib.hid (show renT fr ⟨#[]⟩ x = x from if_neg (fun h => h.2 rfl))
    have HBZ := HB5; have HOZ := HO5; have HBW := HBW5
    clear HB5 HO5 HBW5
    have p0 := HBZ.out.cell (j := 0) rfl; have p1 := HBZ.out.cell (j := 1) rfl; have p2 := HBZ.out.cell (j := 2) rfl; have p3 := HBZ.out.cell (j := 3) rfl; have p4 := HBZ.out.cell (j := 4) rfl; have p5 := HBZ.out.cell (j := 5) rfl; have p6 := HBZ.out.cell (j := 6) rfl
    have BRZ := Lib.hid (BR.out.below HBW.out)
    go_wp2_with (refine wpList_store_blk (w.heap.size + 1) 0 [] [.int .i64 0, .string ⟨#[]⟩, .bool false, .slice none 0 0, .slice none 0 0, .slice none 0 0, .slice none 0 0] [] [.int .i64 x.kind, .string x.name, .bool x.minus, .slice Y3 x.limbs.length y3, .slice Y4 x.names.length y4, .slice Y5 x.kids.length y5, .slice Y6 x.alts.length y6] 36 (by rfl) 36 _ _ (by rfl) (by rfl) rfl (by rfl) BRZ.out rfl (by kernel_rfl) ?honez ?_)
    case honez => intro v hv; simp at hv; rcases hv with rfl | rfl | rfl | rfl | rfl | rfl | rfl <;> rfl
    intro w9 hblk9 hg9 hsz9
    clear p0 p1 p2 p3 p4 p5 p6
    have q0 := hblk9.cell (j := 0) rfl; have q1 := hblk9.cell (j := 1) rfl; have q2 := hblk9.cell (j := 2) rfl; have q3 := hblk9.cell (j := 3) rfl; have q4 := hblk9.cell (j := 4) rfl; have q5 := hblk9.cell (j := 5) rfl; have q6 := hblk9.cell (j := 6) rfl
    have HG9 := Lib.hid hg9
    clear hblk9 hg9
    go_wp2
    refine bodyPost_ret (v := .agg #[.int .i64 x.kind, .string x.name, .bool x.minus, .slice Y3 x.limbs.length y3, .slice Y4 x.names.length y4, .slice Y5 x.kids.length y5, .slice Y6 x.alts.length y6]) (by simp [results, Try.results11, go_sem, q0, q1, q2, q3, q4, q5, q6]) rfl ⟨_, F, rfl, ?_, HN.out, ?_, ?_⟩
    · rw [HR.out]; exact (to_done HB2.out BR.out.lt (by omega) HBW.out HOZ.out HF.out HG9.out).1
    · exact (to_done HB2.out BR.out.lt (by omega) HBW.out HOZ.out HF.out HG9.out).2.1
    · exact (to_done HB2.out BR.out.lt (by omega) HBW.out HOZ.out HF.out HG9.out).2.2
  · obtain ⟨q1, q2⟩ := str_some he
    have HE := Lib.hid he; clear he
    have BP5 := Lib.hid (BP.out.below HBW5.out)
    have p0 := BP5.out.cell (j := 0) rfl; have p1 := BP5.out.cell (j := 1) rfl; have p2 := BP5.out.cell (j := 2) rfl; have p3 := BP5.out.cell (j := 3) rfl; have p4 := BP5.out.cell (j := 4) rfl; have p5 := BP5.out.cell (j := 5) rfl; have p6 := BP5.out.cell (j := 6) rfl
    go_wp2_with fail
    refine (implFault x HBK.out _ _ ((kCore _ _).K_below (below_trans0 HB2.out HBW5.out) HK.out)).mono ?_
    rintro e wf ⟨f, rfl, hgood, hbf⟩
    have HB6 := Lib.hid (HB5.out.below hbf); have HO6 := Lib.hid (own_below HO5.out hbf); have HBW6 := Lib.hid (below_trans0 HBW5.out hbf)
    have HSZ := Lib.hid (show w3.heap.size < wf.heap.size from Nat.lt_of_lt_of_le HB5.out.lt hbf.size)
    clear p0 p1 p2 p3 p4 p5 p6 hbf HB5 HO5 HBW5 BP5
    by_cases hg : Good x
    · obtain rfl := hgood.2 hg
      have HR := Lib.hid (show renT fr tn x = rn fr tn x from if_pos ⟨dec_true hg, HE.out⟩)
      have HSH := Lib.hid hg.2.2
      clear hgood hg
      go_wp2_with fail
      refine (rename_any fr tn x HSH.out HBK.out _ w3.heap.size 0 36 [] _ [] F rfl (by have h := HB6.out; simpa [cellsC] using h) HO6.out HN.out (fun h => by have := HFG.out _ h; omega)).mono ?_
      rintro e w8 ⟨rfl, cx', ho8, hb8, hbt8⟩
      obtain ⟨Z3, z3, Z4, z4, Z5, z5, Z6, z6, rfl⟩ := own_open ho8
      have HOZ := Lib.hid ho8
      have HBZ := Lib.hid (show Blk w8 w3.heap.size 36 [.int .i64 (rn fr tn x).kind, .string (rn fr tn x).name, .bool (rn fr tn x).minus, .slice Z3 (rn fr tn x).limbs.length z3, .slice Z4 (rn fr tn x).names.length z4, .slice Z5 (rn fr tn x).kids.length z5, .slice Z6 (rn fr tn x).alts.length z6] from by simpa [cellsC] using hb8)
      have HBW := Lib.hid (HBW6.out.trans (hbt8.below (fun k hk => by
        rcases List.mem_cons.1 hk with h | h
        · rw [h]; exact HB3.out.size
        · exact HF.out k h) HBW6.out.size))
      clear ho8 hb8 hbt8 HB6 HO6 HBW6 q1 q2
      have p0 := HBZ.out.cell (j := 0) rfl; have p1 := HBZ.out.cell (j := 1) rfl; have p2 := HBZ.out.cell (j := 2) rfl; have p3 := HBZ.out.cell (j := 3) rfl; have p4 := HBZ.out.cell (j := 4) rfl; have p5 := HBZ.out.cell (j := 5) rfl; have p6 := HBZ.out.cell (j := 6) rfl
      have BRZ := Lib.hid (BR.out.below HBW.out)
      go_wp2_with (refine wpList_store_blk (w.heap.size + 1) 0 [] [.int .i64 0, .string ⟨#[]⟩, .bool false, .slice none 0 0, .slice none 0 0, .slice none 0 0, .slice none 0 0] [] [.int .i64 (rn fr tn x).kind, .string (rn fr tn x).name, .bool (rn fr tn x).minus, .slice Z3 (rn fr tn x).limbs.length z3, .slice Z4 (rn fr tn x).names.length z4, .slice Z5 (rn fr tn x).kids.length z5, .slice Z6 (rn fr tn x).alts.length z6] 36 (by rfl) 36 _ _ (by rfl) (by rfl) rfl (by rfl) BRZ.out rfl (by kernel_rfl) ?honez ?_)
      case honez => intro v hv; simp at hv; rcases hv with rfl | rfl | rfl | rfl | rfl | rfl | rfl <;> rfl
      intro w9 hblk9 hg9 hsz9
      clear p0 p1 p2 p3 p4 p5 p6
      have q0 := hblk9.cell (j := 0) rfl; have q1 := hblk9.cell (j := 1) rfl; have q2 := hblk9.cell (j := 2) rfl; have q3 := hblk9.cell (j := 3) rfl; have q4 := hblk9.cell (j := 4) rfl; have q5 := hblk9.cell (j := 5) rfl; have q6 := hblk9.cell (j := 6) rfl
      have HG9 := Lib.hid hg9
      clear hblk9 hg9
      go_wp2
      refine bodyPost_ret (v := .agg #[.int .i64 (rn fr tn x).kind, .string (rn fr tn x).name, .bool (rn fr tn x).minus, .slice Z3 (rn fr tn x).limbs.length z3, .slice Z4 (rn fr tn x).names.length z4, .slice Z5 (rn fr tn x).kids.length z5, .slice Z6 (rn fr tn x).alts.length z6]) (by simp [results, Try.results11, go_sem, q0, q1, q2, q3, q4, q5, q6]) rfl ⟨_, F, rfl, ?_, HN.out, ?_, ?_⟩
      · rw [HR.out]; exact (to_done HB2.out BR.out.lt (by omega) HBW.out HOZ.out HF.out HG9.out).1
      · exact (to_done HB2.out BR.out.lt (by omega) HBW.out HOZ.out HF.out HG9.out).2.1
      · exact (to_done HB2.out BR.out.lt (by omega) HBW.out HOZ.out HF.out HG9.out).2.2
    · have hf0 : ¬ f = 0 := fun h => hg (hgood.1 h)
      have hf1 : (f == 0) = false := beq_eq_false_iff_ne.2 hf0
      have HR := Lib.hid (show renT fr tn x = x from if_neg (fun h => hg (dec_iff.1 h.1)))
      have HBZ := HB6; have HOZ := HO6; have HBW := HBW6
      clear hgood hg HB6 HO6 HBW6
      have p0 := HBZ.out.cell (j := 0) rfl; have p1 := HBZ.out.cell (j := 1) rfl; have p2 := HBZ.out.cell (j := 2) rfl; have p3 := HBZ.out.cell (j := 3) rfl; have p4 := HBZ.out.cell (j := 4) rfl; have p5 := HBZ.out.cell (j := 5) rfl; have p6 := HBZ.out.cell (j := 6) rfl
      have BRZ := Lib.hid (BR.out.below HBW.out)
      go_wp2_with (refine wpList_store_blk (w.heap.size + 1) 0 [] [.int .i64 0, .string ⟨#[]⟩, .bool false, .slice none 0 0, .slice none 0 0, .slice none 0 0, .slice none 0 0] [] [.int .i64 x.kind, .string x.name, .bool x.minus, .slice Y3 x.limbs.length y3, .slice Y4 x.names.length y4, .slice Y5 x.kids.length y5, .slice Y6 x.alts.length y6] 36 (by rfl) 36 _ _ (by rfl) (by rfl) rfl (by rfl) BRZ.out rfl (by kernel_rfl) ?honez ?_)
      case honez => intro v hv; simp at hv; rcases hv with rfl | rfl | rfl | rfl | rfl | rfl | rfl <;> rfl
      intro w9 hblk9 hg9 hsz9
      clear p0 p1 p2 p3 p4 p5 p6
      have q0 := hblk9.cell (j := 0) rfl; have q1 := hblk9.cell (j := 1) rfl; have q2 := hblk9.cell (j := 2) rfl; have q3 := hblk9.cell (j := 3) rfl; have q4 := hblk9.cell (j := 4) rfl; have q5 := hblk9.cell (j := 5) rfl; have q6 := hblk9.cell (j := 6) rfl
      have HG9 := Lib.hid hg9
      clear hblk9 hg9
      go_wp2
      refine bodyPost_ret (v := .agg #[.int .i64 x.kind, .string x.name, .bool x.minus, .slice Y3 x.limbs.length y3, .slice Y4 x.names.length y4, .slice Y5 x.kids.length y5, .slice Y6 x.alts.length y6]) (by simp [results, Try.results11, go_sem, q0, q1, q2, q3, q4, q5, q6]) rfl ⟨_, F, rfl, ?_, HN.out, ?_, ?_⟩
      · rw [HR.out]; exact (to_done HB2.out BR.out.lt (by omega) HBW.out HOZ.out HF.out HG9.out).1
      · exact (to_done HB2.out BR.out.lt (by omega) HBW.out HOZ.out HF.out HG9.out).2.1
      · exact (to_done HB2.out BR.out.lt (by omega) HBW.out HOZ.out HF.out HG9.out).2.2
end Go.Proofs.Ytagfphlhahiplaa.C13
namespace Go.Proofs.Ytagfphlhahiplaa.C13
open Go.RowKit Go.Proofs.YtagfphlhahiplaaW.PrintWords Go.Proofs.Ytagfphlhahiplaa.PFnExactFormatCore
set_option linter.unusedVariables false
set_option linter.unusedSimpArgs false
theorem cntCs_sum : ∀ l : List CoreT, cntCs l = (l.map cntC).sum
  | [] => by rw [cntCs]; rfl
  | c :: r => by rw [cntCs, cntCs_sum r]; rfl
theorem cntAs_sum : ∀ l : List AltT, cntAs l = (l.map cntA).sum
  | [] => by rw [cntAs]; rfl
  | c :: r => by rw [cntAs, cntAs_sum r]; rfl
theorem cntC_top (x : CoreT) : cntC x = 3 + cntTop x := by cases x; rw [cntC]; simp only [cntTop]; omega
theorem cntA_eq' (a : AltT) : cntA a = 1 + a.names.length + cntC a.body := by cases a; rw [cntA]
theorem rn_cnt (fr tn : ByteArray) : ∀ x : CoreT, cntTop (rn fr tn x) = cntTop x := by
  refine coreInd (fun x => cntTop (rn fr tn x) = cntTop x) (fun x ihk iha => ?_)
  rw [rn_eq]
  split
  · rfl
  · split
    · rfl
    · have hk : ((rnKs fr tn (decide (x.kind = 8 ∧ x.name = fr)) 0 x.kids).map cntC) = x.kids.map cntC := by
        apply List.ext_getElem
        · simp [rnKs_len]
        · intro i h1 h2
          simp only [List.getElem_map]
          rw [rnKs_get _ _ _ 0 x.kids i (by simpa [rnKs_len] using h1)]
          split
          · rfl
          · rw [cntC_top, cntC_top, ihk _ (List.getElem_mem _)]
      have ha : ((rnAs fr tn (decide (x.name = fr)) x.alts).map cntA) = x.alts.map cntA := by
        rw [rnAs_map, List.map_map]
        refine List.map_congr_left fun a ha => ?_
        simp only [Function.comp_apply, rnA_eq, cntA_eq']
        split
        · rfl
        · rw [cntC_top, cntC_top, iha a ha]
      simp only [cntTop, cntCs_sum, cntAs_sum, hk, ha]
theorem renT_cnt (fr tn : ByteArray) (x : CoreT) : cntTop (renT fr tn x) = cntTop x := by
  unfold renT
  split
  · exact rn_cnt fr tn x
  · rfl
/-- what stands on the way through the law: the argument's box, boxes of terms, terms of one's own -/
def LS (w : World) (ca : List Value) (bs : List (Nat × List Value)) (os : List (CoreT × List Value × List Nat)) (W : World) : Prop :=
  Below w.heap.size w W ∧ Blk W w.heap.size 29 ca ∧ (∀ p ∈ bs, Blk W p.1 36 p.2) ∧ ∀ q ∈ os, OwnC 36 80 W q.1 q.2.1 q.2.2
theorem LS.but {w : World} {ca : List Value} {bs : List (Nat × List Value)} {os : List (CoreT × List Value × List Nat)} {W W' : World} {F : List Nat} (h : LS w ca bs os W) (hB : But F W W') (hw : ∀ k ∈ F, w.heap.size < k) (hb : ∀ p ∈ bs, p.1 ∉ F) (ho : ∀ q ∈ os, ∀ k ∈ q.2.2, k ∉ F) : LS w ca bs os W' :=
  ⟨h.1.trans (hB.below (fun k hk => Nat.le_of_lt (hw k hk)) h.1.size), hB.blk h.2.1 (fun hk => by have := hw _ hk; omega), fun p hp => hB.blk (h.2.2.1 p hp) (hb p hp), fun q hq => own_move _ _ _ (h.2.2.2 q hq) (fun k hk => hB.block k (own_lt _ _ _ (h.2.2.2 q hq) k hk) (ho q hq k hk))⟩
theorem LS.below {w : World} {ca : List Value} {bs : List (Nat × List Value)} {os : List (CoreT × List Value × List Nat)} {W W' : World} (h : LS w ca bs os W) (hB : Below W.heap.size W W') : LS w ca bs os W' :=
  h.but (F := []) (But.of_below hB) (by simp) (by simp) (by simp)
theorem LS.addB {w : World} {ca : List Value} {bs : List (Nat × List Value)} {os : List (CoreT × List Value × List Nat)} {W : World} (h : LS w ca bs os W) {g : Nat} {cs : List Value} (hb : Blk W g 36 cs) : LS w ca ((g, cs) :: bs) os W :=
  ⟨h.1, h.2.1, fun p hp => by rcases List.mem_cons.1 hp with rfl | hp; exact hb; exact h.2.2.1 p hp, h.2.2.2⟩
theorem LS.addO {w : World} {ca : List Value} {bs : List (Nat × List Value)} {os : List (CoreT × List Value × List Nat)} {W : World} (h : LS w ca bs os W) {x : CoreT} {cs : List Value} {F : List Nat} (ho : OwnC 36 80 W x cs F) : LS w ca bs ((x, cs, F) :: os) W :=
  ⟨h.1, h.2.1, h.2.2.1, fun q hq => by rcases List.mem_cons.1 hq with rfl | hq; exact ho; exact h.2.2.2 q hq⟩
theorem LS.sub {w : World} {ca : List Value} {bs bs' : List (Nat × List Value)} {os os' : List (CoreT × List Value × List Nat)} {W : World} (h : LS w ca bs os W) (hb : ∀ p ∈ bs', p ∈ bs) (ho : ∀ q ∈ os', q ∈ os) : LS w ca bs' os' W := ⟨h.1, h.2.1, fun p hp => h.2.2.1 p (hb p hp), fun q hq => h.2.2.2 q (ho q hq)⟩
/-- a new box, filled -/
theorem LS.box {w : World} {ca : List Value} {bs : List (Nat × List Value)} {os : List (CoreT × List Value × List Nat)} {W W' : World} {z cs : List Value} (h : LS w ca bs os W) (hg : (W.alloc (.cells z.toArray 36)).grownBy W' (some W.heap.size)) (hb : Blk W' W.heap.size 36 cs) : LS w ca ((W.heap.size, cs) :: bs) os W' := by
  have h1 := h.below ((Below.refl _ _).alloc (Nat.le_refl _) (.cells z.toArray 36))
  exact (h1.but (But.of_grown hg) (fun k hk => by rw [List.mem_singleton.1 hk]; have := h.2.1.lt; omega) (fun p hp hk => by have := (h.2.2.1 p hp).lt; rw [List.mem_singleton.1 hk] at this; omega) (fun q hq k hk hk' => by have := own_lt _ _ _ (h.2.2.2 q hq) k hk; rw [List.mem_singleton.1 hk'] at this; omega)).addB hb
set_option maxRecDepth 100000 in
set_option maxHeartbeats 8000000 in
theorem law_rn (x : CoreT) (hf : Fine x) (fr tn : ByteArray) (w : World) (cs : List Value) (hK : LC.K w x cs) :
    Calls Try.prog 4 #[.agg cs.toArray, .string fr, .string tn] w fun e w' => e = .returned (.bool true) ∧ Below w.heap.size w w' := by
  have hsz : ∀ w', Below w.heap.size w w' → Calls Try.prog 5 #[.agg cs.toArray, .int .i64 1048576] w' fun e w'' => e = .returned (.int .i64 (cut (bulk x) 1048576)) ∧ Below w'.heap.size w' w'' := fun w' hb =>
    sz_all x hf w' cs 1048576 (by omega) (by omega) ((kCore _ _).K_below hb hK)
  have hto : bulk x ≤ 1048576 → ∀ w', Below w.heap.size w w' → Calls Try.prog 7 #[.agg cs.toArray] w' (ToPost 36 80 x w') := fun hbk w' hb =>
    to_all x hbk w' cs ((kCore _ _).K_below hb hK)
  obtain ⟨A3, a3, A4, a4, A5, a5, A6, a6, rfl, -⟩ := core_open hK
  have HSZ := Lib.hid hsz; have HTO := Lib.hid hto
  clear hsz hto hK hf
  obtain ⟨W1, hW1, hp1, hB1, hs1⟩ := boxed w (cellsC x A3 a3 A4 a4 A5 a5 A6 a6) 29
  have LW1 := Lib.hid (show LS w (cellsC x A3 a3 A4 a4 A5 a5 A6 a6) [] [] W1 from ⟨hB1, hp1, by simp, by simp⟩)
  clear hp1 hB1 hs1
  simp only [cellsC] at *
  subst hW1
  by_cases hfr : (1048576 : Int) < fr.size
  · go_enter Try.func4, Try.ntmps4
    go_wp2
    go_ret
    exact ⟨rfl, LW1.out.1⟩
  by_cases htn : (1048576 : Int) < tn.size
  · go_enter Try.func4, Try.ntmps4
    go_wp2
    go_ret
    exact ⟨rfl, LW1.out.1⟩
  have p0 := LW1.out.2.1.cell (j := 0) rfl; have p1 := LW1.out.2.1.cell (j := 1) rfl; have p2 := LW1.out.2.1.cell (j := 2) rfl; have p3 := LW1.out.2.1.cell (j := 3) rfl; have p4 := LW1.out.2.1.cell (j := 4) rfl; have p5 := LW1.out.2.1.cell (j := 5) rfl; have p6 := LW1.out.2.1.cell (j := 6) rfl
  go_enter Try.func4, Try.ntmps4
  go_wp2_with fail
  refine (HSZ.out _ LW1.out.1).mono ?_
  rintro e w2 ⟨rfl, hb2⟩
  clear p0 p1 p2 p3 p4 p5 p6 hfr htn
  have L2 := Lib.hid (LW1.out.below hb2)
  clear hb2 LW1
  by_cases hn : (1048576 : Int) < bulk x
  · rw [cut_neg hn]
    go_wp2
    go_ret
    exact ⟨rfl, L2.out.1⟩
  have hbk : bulk x ≤ 1048576 := by omega
  rw [cut_pos hn]
  have hlf : decide ((1048576 : Int) - bulk x < 0) = false := decide_eq_false (by omega)
  have hl2 : ¬ ((1048576 : Int) - bulk x < 0) := by omega
  generalize (1048576 : Int) - bulk x = lf at *
  have HTO := Lib.hid (HTO.out hbk); have HBK := Lib.hid hbk
  have HCNT := Lib.hid (show cntTop x ≤ 4194304 by have := cntTop_bulk x; omega)
  clear hbk hn
  have p0 := L2.out.2.1.cell (j := 0) rfl; have p1 := L2.out.2.1.cell (j := 1) rfl; have p2 := L2.out.2.1.cell (j := 2) rfl; have p3 := L2.out.2.1.cell (j := 3) rfl; have p4 := L2.out.2.1.cell (j := 4) rfl; have p5 := L2.out.2.1.cell (j := 5) rfl; have p6 := L2.out.2.1.cell (j := 6) rfl
  go_wp2_with fail
  refine (HTO.out _ L2.out.1).mono ?_
  rintro e w3 ⟨c0, F0, rfl, ho, -, -, hb⟩
  clear p0 p1 p2 p3 p4 p5 p6
  have K3 := Lib.hid (own_K ho); have L3 := Lib.hid (L2.out.below hb)
  clear ho hb L2
  go_wp2_with fail
  refine (specRename fr tn x HBK.out _ c0 K3.out).mono ?_
  rintro e w4 ⟨c1, F1, rfl, ho, -, hF1, hb⟩
  obtain ⟨B3, b3, B4, b4, B5, b5, B6, b6, rfl⟩ := own_open ho
  have L4 := Lib.hid ((L3.out.below hb).addO ho)
  have HF1 := Lib.hid (show ∀ k ∈ F1, w.heap.size < k ∧ k < w4.heap.size from fun k hk => ⟨Nat.lt_of_lt_of_le L3.out.2.1.lt (hF1 k hk), own_lt _ _ _ ho k hk⟩)
  have HLT4 := Lib.hid (show w.heap.size < w4.heap.size from Nat.lt_of_lt_of_le L3.out.2.1.lt hb.size)
  clear ho hb hF1 L3 K3
  simp only [cellsC] at *
  have hzw5 := Lib.hid (blk_alloc w4 36 [.int .i64 0, .string ⟨#[]⟩, .bool false, .slice none 0 0, .slice none 0 0, .slice none 0 0, .slice none 0 0])
  go_wp2_with (refine wpList_store_blk w4.heap.size 0 [] [.int .i64 0, .string ⟨#[]⟩, .bool false, .slice none 0 0, .slice none 0 0, .slice none 0 0, .slice none 0 0] [] [.int .i64 (renT fr tn x).kind, .string (renT fr tn x).name, .bool (renT fr tn x).minus, .slice B3 (renT fr tn x).limbs.length b3, .slice B4 (renT fr tn x).names.length b4, .slice B5 (renT fr tn x).kids.length b5, .slice B6 (renT fr tn x).alts.length b6] 36 (by rfl) 36 _ _ (by rfl) (by rfl) rfl (by rfl) hzw5.out rfl (by kernel_rfl) ?honew5 ?_)
  case honew5 => intro v hv; simp at hv; rcases hv with rfl | rfl | rfl | rfl | rfl | rfl | rfl <;> rfl
  intro w5 hbw5 hgw5 hsw5
  have Lw5 := Lib.hid (LS.box L4.out hgw5 hbw5)
  have Sw5 := Lib.hid (show w4.heap.size < w5.heap.size by have h := (show (w4.alloc (.cells #[.int .i64 0, .string ⟨#[]⟩, .bool false, .slice none 0 0, .slice none 0 0, .slice none 0 0, .slice none 0 0] 36)).heap.size = w4.heap.size + 1 by simp); omega)
  clear hzw5 hbw5 hgw5 hsw5
  have p0 := Lw5.out.2.1.cell (j := 0) rfl; have p1 := Lw5.out.2.1.cell (j := 1) rfl; have p2 := Lw5.out.2.1.cell (j := 2) rfl; have p3 := Lw5.out.2.1.cell (j := 3) rfl; have p4 := Lw5.out.2.1.cell (j := 4) rfl; have p5 := Lw5.out.2.1.cell (j := 5) rfl; have p6 := Lw5.out.2.1.cell (j := 6) rfl
  go_wp2_with fail
  refine (HTO.out _ Lw5.out.1).mono ?_
  rintro e w6 ⟨c2, F2, rfl, ho, hn2, hF2, hb⟩
  clear p0 p1 p2 p3 p4 p5 p6
  obtain ⟨D3, d3, D4, d4, D5, d5, D6, d6, rfl⟩ := own_open ho
  have L6 := Lib.hid ((Lw5.out.below hb).addO ho)
  have HF2 := Lib.hid (show ∀ k ∈ F2, w4.heap.size < k ∧ k < w6.heap.size from fun k hk => ⟨Nat.lt_of_lt_of_le Sw5.out (hF2 k hk), own_lt _ _ _ ho k hk⟩)
  have HN2 := Lib.hid hn2
  have hb56 := Lib.hid hb.size
  clear ho hb hF2 Lw5 hn2
  simp only [cellsC] at *
  have hzw7 := Lib.hid (blk_alloc w6 36 [.int .i64 0, .string ⟨#[]⟩, .bool false, .slice none 0 0, .slice none 0 0, .slice none 0 0, .slice none 0 0])
  go_wp2_with (refine wpList_store_blk w6.heap.size 0 [] [.int .i64 0, .string ⟨#[]⟩, .bool false, .slice none 0 0, .slice none 0 0, .slice none 0 0, .slice none 0 0] [] [.int .i64 x.kind, .string x.name, .bool x.minus, .slice D3 x.limbs.length d3, .slice D4 x.names.length d4, .slice D5 x.kids.length d5, .slice D6 x.alts.length d6] 36 (by rfl) 36 _ _ (by rfl) (by rfl) rfl (by rfl) hzw7.out rfl (by kernel_rfl) ?honew7 ?_)
  case honew7 => intro v hv; simp at hv; rcases hv with rfl | rfl | rfl | rfl | rfl | rfl | rfl <;> rfl
  intro w7 hbw7 hgw7 hsw7
  have Lw7 := Lib.hid (LS.box L6.out hgw7 hbw7)
  have Sw7 := Lib.hid (show w6.heap.size < w7.heap.size by have h := (show (w6.alloc (.cells #[.int .i64 0, .string ⟨#[]⟩, .bool false, .slice none 0 0, .slice none 0 0, .slice none 0 0, .slice none 0 0] 36)).heap.size = w6.heap.size + 1 by simp); omega)
  clear hzw7 hbw7 hgw7 hsw7
  have p0 := (Lw7.out.2.2.1 (w6.heap.size, [.int .i64 x.kind, .string x.name, .bool x.minus, .slice D3 x.limbs.length d3, .slice D4 x.names.length d4, .slice D5 x.kids.length d5, .slice D6 x.alts.length d6]) (by simp)).cell (j := 0) rfl; have p1 := (Lw7.out.2.2.1 (w6.heap.size, [.int .i64 x.kind, .string x.name, .bool x.minus, .slice D3 x.limbs.length d3, .slice D4 x.names.length d4, .slice D5 x.kids.length d5, .slice D6 x.alts.length d6]) (by simp)).cell (j := 1) rfl; have p2 := (Lw7.out.2.2.1 (w6.heap.size, [.int .i64 x.kind, .string x.name, .bool x.minus, .slice D3 x.limbs.length d3, .slice D4 x.names.length d4, .slice D5 x.kids.length d5, .slice D6 x.alts.length d6]) (by simp)).cell (j := 2) rfl; have p3 := (Lw7.out.2.2.1 (w6.heap.size, [.int .i64 x.kind, .string x.name, .bool x.minus, .slice D3 x.limbs.length d3, .slice D4 x.names.length d4, .slice D5 x.kids.length d5, .slice D6 x.alts.length d6]) (by simp)).cell (j := 3) rfl; have p4 := (Lw7.out.2.2.1 (w6.heap.size, [.int .i64 x.kind, .string x.name, .bool x.minus, .slice D3 x.limbs.length d3, .slice D4 x.names.length d4, .slice D5 x.kids.length d5, .slice D6 x.alts.length d6]) (by simp)).cell (j := 4) rfl; have p5 := (Lw7.out.2.2.1 (w6.heap.size, [.int .i64 x.kind, .string x.name, .bool x.minus, .slice D3 x.limbs.length d3, .slice D4 x.names.length d4, .slice D5 x.kids.length d5, .slice D6 x.alts.length d6]) (by simp)).cell (j := 5) rfl; have p6 := (Lw7.out.2.2.1 (w6.heap.size, [.int .i64 x.kind, .string x.name, .bool x.minus, .slice D3 x.limbs.length d3, .slice D4 x.names.length d4, .slice D5 x.kids.length d5, .slice D6 x.alts.length d6]) (by simp)).cell (j := 6) rfl
  go_wp2_with fail
  refine (implRename fr tn x HBK.out _ _ (own_K (Lw7.out.2.2.2 (x, [.int .i64 x.kind, .string x.name, .bool x.minus, .slice D3 x.limbs.length d3, .slice D4 x.names.length d4, .slice D5 x.kids.length d5, .slice D6 x.alts.length d6], F2) (by simp)))).mono ?_
  rintro e w8 ⟨c3, F3, rfl, ho, hn3, hF3, hb⟩
  clear p0 p1 p2 p3 p4 p5 p6
  obtain ⟨E3, e3, E4, e4, E5, e5, E6, e6, rfl⟩ := own_open ho
  have L8 := Lib.hid ((Lw7.out.below hb).addO ho)
  have HF3 := Lib.hid (show ∀ k ∈ F3, w6.heap.size < k ∧ k < w8.heap.size from fun k hk => ⟨Nat.lt_of_lt_of_le Sw7.out (hF3 k hk), own_lt _ _ _ ho k hk⟩)
  have HN3 := Lib.hid hn3
  have HZ := Lib.hid (show w4.heap.size < w6.heap.size ∧ w6.heap.size < w8.heap.size ∧ w.heap.size < w4.heap.size from ⟨Nat.lt_of_lt_of_le Sw5.out (Nat.le_trans hb56.out (Nat.le_refl _)), Nat.lt_of_lt_of_le Sw7.out hb.size, HLT4.out⟩)
  have HF1B := Lib.hid HLT4.out
  clear ho hb hF3 Lw7 hn3
  simp only [cellsC] at *
  have hzw9 := Lib.hid (blk_alloc w8 36 [.int .i64 0, .string ⟨#[]⟩, .bool false, .slice none 0 0, .slice none 0 0, .slice none 0 0, .slice none 0 0])
  go_wp2_with (refine wpList_store_blk w8.heap.size 0 [] [.int .i64 0, .string ⟨#[]⟩, .bool false, .slice none 0 0, .slice none 0 0, .slice none 0 0, .slice none 0 0] [] [.int .i64 (renT fr tn x).kind, .string (renT fr tn x).name, .bool (renT fr tn x).minus, .slice E3 (renT fr tn x).limbs.length e3, .slice E4 (renT fr tn x).names.length e4, .slice E5 (renT fr tn x).kids.length e5, .slice E6 (renT fr tn x).alts.length e6] 36 (by rfl) 36 _ _ (by rfl) (by rfl) rfl (by rfl) hzw9.out rfl (by kernel_rfl) ?honew9 ?_)
  case honew9 => intro v hv; simp at hv; rcases hv with rfl | rfl | rfl | rfl | rfl | rfl | rfl <;> rfl
  intro w9 hbw9 hgw9 hsw9
  have Lw9 := Lib.hid (LS.box L8.out hgw9 hbw9)
  have Sw9 := Lib.hid (show w8.heap.size < w9.heap.size by have h := (show (w8.alloc (.cells #[.int .i64 0, .string ⟨#[]⟩, .bool false, .slice none 0 0, .slice none 0 0, .slice none 0 0, .slice none 0 0] 36)).heap.size = w8.heap.size + 1 by simp); omega)
  clear hzw9 hbw9 hgw9 hsw9
  have p0 := (Lw9.out.2.2.1 (w8.heap.size, [.int .i64 (renT fr tn x).kind, .string (renT fr tn x).name, .bool (renT fr tn x).minus, .slice E3 (renT fr tn x).limbs.length e3, .slice E4 (renT fr tn x).names.length e4, .slice E5 (renT fr tn x).kids.length e5, .slice E6 (renT fr tn x).alts.length e6]) (by simp)).cell (j := 0) rfl; have p1 := (Lw9.out.2.2.1 (w8.heap.size, [.int .i64 (renT fr tn x).kind, .string (renT fr tn x).name, .bool (renT fr tn x).minus, .slice E3 (renT fr tn x).limbs.length e3, .slice E4 (renT fr tn x).names.length e4, .slice E5 (renT fr tn x).kids.length e5, .slice E6 (renT fr tn x).alts.length e6]) (by simp)).cell (j := 1) rfl; have p2 := (Lw9.out.2.2.1 (w8.heap.size, [.int .i64 (renT fr tn x).kind, .string (renT fr tn x).name, .bool (renT fr tn x).minus, .slice E3 (renT fr tn x).limbs.length e3, .slice E4 (renT fr tn x).names.length e4, .slice E5 (renT fr tn x).kids.length e5, .slice E6 (renT fr tn x).alts.length e6]) (by simp)).cell (j := 2) rfl; have p3 := (Lw9.out.2.2.1 (w8.heap.size, [.int .i64 (renT fr tn x).kind, .string (renT fr tn x).name, .bool (renT fr tn x).minus, .slice E3 (renT fr tn x).limbs.length e3, .slice E4 (renT fr tn x).names.length e4, .slice E5 (renT fr tn x).kids.length e5, .slice E6 (renT fr tn x).alts.length e6]) (by simp)).cell (j := 3) rfl; have p4 := (Lw9.out.2.2.1 (w8.heap.size, [.int .i64 (renT fr tn x).kind, .string (renT fr tn x).name, .bool (renT fr tn x).minus, .slice E3 (renT fr tn x).limbs.length e3, .slice E4 (renT fr tn x).names.length e4, .slice E5 (renT fr tn x).kids.length e5, .slice E6 (renT fr tn x).alts.length e6]) (by simp)).cell (j := 4) rfl; have p5 := (Lw9.out.2.2.1 (w8.heap.size, [.int .i64 (renT fr tn x).kind, .string (renT fr tn x).name, .bool (renT fr tn x).minus, .slice E3 (renT fr tn x).limbs.length e3, .slice E4 (renT fr tn x).names.length e4, .slice E5 (renT fr tn x).kids.length e5, .slice E6 (renT fr tn x).alts.length e6]) (by simp)).cell (j := 5) rfl; have p6 := (Lw9.out.2.2.1 (w8.heap.size, [.int .i64 (renT fr tn x).kind, .string (renT fr tn x).name, .bool (renT fr tn x).minus, .slice E3 (renT fr tn x).limbs.length e3, .slice E4 (renT fr tn x).names.length e4, .slice E5 (renT fr tn x).kids.length e5, .slice E6 (renT fr tn x).alts.length e6]) (by simp)).cell (j := 6) rfl
  have q0 := (Lw9.out.2.2.1 (w4.heap.size, [.int .i64 (renT fr tn x).kind, .string (renT fr tn x).name, .bool (renT fr tn x).minus, .slice B3 (renT fr tn x).limbs.length b3, .slice B4 (renT fr tn x).names.length b4, .slice B5 (renT fr tn x).kids.length b5, .slice B6 (renT fr tn x).alts.length b6]) (by simp)).cell (j := 0) rfl; have q1 := (Lw9.out.2.2.1 (w4.heap.size, [.int .i64 (renT fr tn x).kind, .string (renT fr tn x).name, .bool (renT fr tn x).minus, .slice B3 (renT fr tn x).limbs.length b3, .slice B4 (renT fr tn x).names.length b4, .slice B5 (renT fr tn x).kids.length b5, .slice B6 (renT fr tn x).alts.length b6]) (by simp)).cell (j := 1) rfl; have q2 := (Lw9.out.2.2.1 (w4.heap.size, [.int .i64 (renT fr tn x).kind, .string (renT fr tn x).name, .bool (renT fr tn x).minus, .slice B3 (renT fr tn x).limbs.length b3, .slice B4 (renT fr tn x).names.length b4, .slice B5 (renT fr tn x).kids.length b5, .slice B6 (renT fr tn x).alts.length b6]) (by simp)).cell (j := 2) rfl; have q3 := (Lw9.out.2.2.1 (w4.heap.size, [.int .i64 (renT fr tn x).kind, .string (renT fr tn x).name, .bool (renT fr tn x).minus, .slice B3 (renT fr tn x).limbs.length b3, .slice B4 (renT fr tn x).names.length b4, .slice B5 (renT fr tn x).kids.length b5, .slice B6 (renT fr tn x).alts.length b6]) (by simp)).cell (j := 3) rfl; have q4 := (Lw9.out.2.2.1 (w4.heap.size, [.int .i64 (renT fr tn x).kind, .string (renT fr tn x).name, .bool (renT fr tn x).minus, .slice B3 (renT fr tn x).limbs.length b3, .slice B4 (renT fr tn x).names.length b4, .slice B5 (renT fr tn x).kids.length b5, .slice B6 (renT fr tn x).alts.length b6]) (by simp)).cell (j := 4) rfl; have q5 := (Lw9.out.2.2.1 (w4.heap.size, [.int .i64 (renT fr tn x).kind, .string (renT fr tn x).name, .bool (renT fr tn x).minus, .slice B3 (renT fr tn x).limbs.length b3, .slice B4 (renT fr tn x).names.length b4, .slice B5 (renT fr tn x).kids.length b5, .slice B6 (renT fr tn x).alts.length b6]) (by simp)).cell (j := 5) rfl; have q6 := (Lw9.out.2.2.1 (w4.heap.size, [.int .i64 (renT fr tn x).kind, .string (renT fr tn x).name, .bool (renT fr tn x).minus, .slice B3 (renT fr tn x).limbs.length b3, .slice B4 (renT fr tn x).names.length b4, .slice B5 (renT fr tn x).kids.length b5, .slice B6 (renT fr tn x).alts.length b6]) (by simp)).cell (j := 6) rfl
  go_wp2_with fail
  refine (eq_all (renT fr tn x) _ _ _ (own_K (Lw9.out.2.2.2 ((renT fr tn x), [.int .i64 (renT fr tn x).kind, .string (renT fr tn x).name, .bool (renT fr tn x).minus, .slice E3 (renT fr tn x).limbs.length e3, .slice E4 (renT fr tn x).names.length e4, .slice E5 (renT fr tn x).kids.length e5, .slice E6 (renT fr tn x).alts.length e6], F3) (by simp))) (own_K (Lw9.out.2.2.2 ((renT fr tn x), [.int .i64 (renT fr tn x).kind, .string (renT fr tn x).name, .bool (renT fr tn x).minus, .slice B3 (renT fr tn x).limbs.length b3, .slice B4 (renT fr tn x).names.length b4, .slice B5 (renT fr tn x).kids.length b5, .slice B6 (renT fr tn x).alts.length b6], F1) (by simp)))).mono ?_
  rintro e w10 ⟨rfl, hb⟩
  clear p0 p1 p2 p3 p4 p5 p6 q0 q1 q2 q3 q4 q5 q6
  have Lw10 := Lib.hid (Lw9.out.below hb)
  clear hb
  have p0 := (Lw10.out.2.2.1 (w6.heap.size, [.int .i64 x.kind, .string x.name, .bool x.minus, .slice D3 x.limbs.length d3, .slice D4 x.names.length d4, .slice D5 x.kids.length d5, .slice D6 x.alts.length d6]) (by simp)).cell (j := 0) rfl; have p1 := (Lw10.out.2.2.1 (w6.heap.size, [.int .i64 x.kind, .string x.name, .bool x.minus, .slice D3 x.limbs.length d3, .slice D4 x.names.length d4, .slice D5 x.kids.length d5, .slice D6 x.alts.length d6]) (by simp)).cell (j := 1) rfl; have p2 := (Lw10.out.2.2.1 (w6.heap.size, [.int .i64 x.kind, .string x.name, .bool x.minus, .slice D3 x.limbs.length d3, .slice D4 x.names.length d4, .slice D5 x.kids.length d5, .slice D6 x.alts.length d6]) (by simp)).cell (j := 2) rfl; have p3 := (Lw10.out.2.2.1 (w6.heap.size, [.int .i64 x.kind, .string x.name, .bool x.minus, .slice D3 x.limbs.length d3, .slice D4 x.names.length d4, .slice D5 x.kids.length d5, .slice D6 x.alts.length d6]) (by simp)).cell (j := 3) rfl; have p4 := (Lw10.out.2.2.1 (w6.heap.size, [.int .i64 x.kind, .string x.name, .bool x.minus, .slice D3 x.limbs.length d3, .slice D4 x.names.length d4, .slice D5 x.kids.length d5, .slice D6 x.alts.length d6]) (by simp)).cell (j := 4) rfl; have p5 := (Lw10.out.2.2.1 (w6.heap.size, [.int .i64 x.kind, .string x.name, .bool x.minus, .slice D3 x.limbs.length d3, .slice D4 x.names.length d4, .slice D5 x.kids.length d5, .slice D6 x.alts.length d6]) (by simp)).cell (j := 5) rfl; have p6 := (Lw10.out.2.2.1 (w6.heap.size, [.int .i64 x.kind, .string x.name, .bool x.minus, .slice D3 x.limbs.length d3, .slice D4 x.names.length d4, .slice D5 x.kids.length d5, .slice D6 x.alts.length d6]) (by simp)).cell (j := 6) rfl
  have q0 := Lw10.out.2.1.cell (j := 0) rfl; have q1 := Lw10.out.2.1.cell (j := 1) rfl; have q2 := Lw10.out.2.1.cell (j := 2) rfl; have q3 := Lw10.out.2.1.cell (j := 3) rfl; have q4 := Lw10.out.2.1.cell (j := 4) rfl; have q5 := Lw10.out.2.1.cell (j := 5) rfl; have q6 := Lw10.out.2.1.cell (j := 6) rfl
  go_wp2_with fail
  refine wp_region_chain [0, 1] [] [2, 3, 4] [3, 4] (fun W' => Below w10.heap.size w10 W') (by kernel_rfl) (by kernel_rfl) (fun _ _ d _ _ h => by cases d <;> exact h) ⟨rfl, rfl, rfl, Nat.le_refl _, fun _ _ => rfl⟩ ?_
  refine YAll.cons (v := ?_) (some 41) (by rfl) (by rfl) (by rfl) ?_ ?_
  rotate_left
  · intro w' hSw
    have u0 := cell_of_below hSw p0; have v0 := cell_of_below hSw q0; have u1 := cell_of_below hSw p1; have v1 := cell_of_below hSw q1; have u2 := cell_of_below hSw p2; have v2 := cell_of_below hSw q2; have u3 := cell_of_below hSw p3; have v3 := cell_of_below hSw q3; have u4 := cell_of_below hSw p4; have v4 := cell_of_below hSw q4; have u5 := cell_of_below hSw p5; have v5 := cell_of_below hSw q5; have u6 := cell_of_below hSw p6; have v6 := cell_of_below hSw q6
    go_simp
    try (with_reducible rfl)
  simp only [Act.put, List.setIfInBounds_toArray, List.set_cons_zero, List.set_cons_succ]
  refine YAll.cons (v := ?_) (some 42) (by rfl) (by rfl) (by rfl) ?_ ?_
  rotate_left
  · intro w' hSw
    have u0 := cell_of_below hSw p0; have v0 := cell_of_below hSw q0; have u1 := cell_of_below hSw p1; have v1 := cell_of_below hSw q1; have u2 := cell_of_below hSw p2; have v2 := cell_of_below hSw q2; have u3 := cell_of_below hSw p3; have v3 := cell_of_below hSw q3; have u4 := cell_of_below hSw p4; have v4 := cell_of_below hSw q4; have u5 := cell_of_below hSw p5; have v5 := cell_of_below hSw q5; have u6 := cell_of_below hSw p6; have v6 := cell_of_below hSw q6
    go_simp
    try (with_reducible rfl)
  simp only [Act.put, List.setIfInBounds_toArray, List.set_cons_zero, List.set_cons_succ]
  refine YAll.nil (YAll.nil ?_)
  refine wpListS.step (some 43) (by rfl) rfl ?_
  intro K hK
  go_simp
  have hbd : Below w10.heap.size w10 w10.drew := ⟨rfl, rfl, rfl, Nat.le_refl _, fun _ _ => rfl⟩
  have Ld := Lib.hid (Lw10.out.below hbd)
  refine (HTO.out _ Ld.out.1).mono ?_
  rintro e w11 ⟨c4, F4, rfl, ho, -, -, hb⟩
  have hb10 : Below w10.heap.size w10 w11 := below_trans0 hbd hb
  have L11 := Lib.hid ((Lw10.out.below hb10).addO ho)
  refine hK.out _ _ (fun _ => hb10) ?_
  clear hK K hbd Ld ho hb hb10
  refine wpListS.step (some 44) (by rfl) rfl ?_
  intro K hK
  go_simp
  refine (eq_all x _ _ c4 (own_K (L11.out.2.2.2 (x, [.int .i64 x.kind, .string x.name, .bool x.minus, .slice D3 x.limbs.length d3, .slice D4 x.names.length d4, .slice D5 x.kids.length d5, .slice D6 x.alts.length d6], F2) (by simp))) (own_K (L11.out.2.2.2 (x, c4, F4) (by simp)))).mono ?_
  rintro e w12 ⟨rfl, hb⟩
  have Lw12 := Lib.hid (show LS w _ _ _ w12 from L11.out.below hb)
  refine hK.out _ _ (fun h => absurd (by decide) h) ?_
  clear hK K hb
  refine wpListS.step (some 45) (by rfl) rfl ?_
  intro K hK
  go_simp
  refine hK.out _ _ (fun h => absurd (by decide) h) ?_
  clear hK K L11 Lw10 p0 p1 p2 p3 p4 p5 p6 q0 q1 q2 q3 q4 q5 q6
  refine wpListS.nil ?_
  have p0 := (Lw12.out.2.2.1 (w6.heap.size, [.int .i64 x.kind, .string x.name, .bool x.minus, .slice D3 x.limbs.length d3, .slice D4 x.names.length d4, .slice D5 x.kids.length d5, .slice D6 x.alts.length d6]) (by simp)).cell (j := 0) rfl; have p1 := (Lw12.out.2.2.1 (w6.heap.size, [.int .i64 x.kind, .string x.name, .bool x.minus, .slice D3 x.limbs.length d3, .slice D4 x.names.length d4, .slice D5 x.kids.length d5, .slice D6 x.alts.length d6]) (by simp)).cell (j := 1) rfl; have p2 := (Lw12.out.2.2.1 (w6.heap.size, [.int .i64 x.kind, .string x.name, .bool x.minus, .slice D3 x.limbs.length d3, .slice D4 x.names.length d4, .slice D5 x.kids.length d5, .slice D6 x.alts.length d6]) (by simp)).cell (j := 2) rfl; have p3 := (Lw12.out.2.2.1 (w6.heap.size, [.int .i64 x.kind, .string x.name, .bool x.minus, .slice D3 x.limbs.length d3, .slice D4 x.names.length d4, .slice D5 x.kids.length d5, .slice D6 x.alts.length d6]) (by simp)).cell (j := 3) rfl; have p4 := (Lw12.out.2.2.1 (w6.heap.size, [.int .i64 x.kind, .string x.name, .bool x.minus, .slice D3 x.limbs.length d3, .slice D4 x.names.length d4, .slice D5 x.kids.length d5, .slice D6 x.alts.length d6]) (by simp)).cell (j := 4) rfl; have p5 := (Lw12.out.2.2.1 (w6.heap.size, [.int .i64 x.kind, .string x.name, .bool x.minus, .slice D3 x.limbs.length d3, .slice D4 x.names.length d4, .slice D5 x.kids.length d5, .slice D6 x.alts.length d6]) (by simp)).cell (j := 5) rfl; have p6 := (Lw12.out.2.2.1 (w6.heap.size, [.int .i64 x.kind, .string x.name, .bool x.minus, .slice D3 x.limbs.length d3, .slice D4 x.names.length d4, .slice D5 x.kids.length d5, .slice D6 x.alts.length d6]) (by simp)).cell (j := 6) rfl
  go_wp2_with fail
  refine (markCore_any x _ F2 1 (by omega) (by have := HCNT.out; omega) _ (Lw12.out.2.2.2 (x, [.int .i64 x.kind, .string x.name, .bool x.minus, .slice D3 x.limbs.length d3, .slice D4 x.names.length d4, .slice D5 x.kids.length d5, .slice D6 x.alts.length d6], F2) (by simp)) HN2.out).mono ?_
  rintro e w13 ⟨rfl, ho, hbt⟩
  clear p0 p1 p2 p3 p4 p5 p6
  have L13 := Lib.hid (show LS w [.int .i64 x.kind, .string x.name, .bool x.minus, .slice A3 x.limbs.length a3, .slice A4 x.names.length a4, .slice A5 x.kids.length a5, .slice A6 x.alts.length a6] [(w8.heap.size, [.int .i64 (renT fr tn x).kind, .string (renT fr tn x).name, .bool (renT fr tn x).minus, .slice E3 (renT fr tn x).limbs.length e3, .slice E4 (renT fr tn x).names.length e4, .slice E5 (renT fr tn x).kids.length e5, .slice E6 (renT fr tn x).alts.length e6]), (w6.heap.size, [.int .i64 x.kind, .string x.name, .bool x.minus, .slice D3 x.limbs.length d3, .slice D4 x.names.length d4, .slice D5 x.kids.length d5, .slice D6 x.alts.length d6]), (w4.heap.size, [.int .i64 (renT fr tn x).kind, .string (renT fr tn x).name, .bool (renT fr tn x).minus, .slice B3 (renT fr tn x).limbs.length b3, .slice B4 (renT fr tn x).names.length b4, .slice B5 (renT fr tn x).kids.length b5, .slice B6 (renT fr tn x).alts.length b6])] [((renT fr tn x), [.int .i64 (renT fr tn x).kind, .string (renT fr tn x).name, .bool (renT fr tn x).minus, .slice E3 (renT fr tn x).limbs.length e3, .slice E4 (renT fr tn x).names.length e4, .slice E5 (renT fr tn x).kids.length e5, .slice E6 (renT fr tn x).alts.length e6], F3), ((renT fr tn x), [.int .i64 (renT fr tn x).kind, .string (renT fr tn x).name, .bool (renT fr tn x).minus, .slice B3 (renT fr tn x).limbs.length b3, .slice B4 (renT fr tn x).names.length b4, .slice B5 (renT fr tn x).kids.length b5, .slice B6 (renT fr tn x).alts.length b6], F1)] w13 from
    (LS.sub Lw12.out (by simp) (by simp)).but hbt (fun k hk => by have := (HF2.out k hk).1; have := (HF1B.out); omega) (fun p hp hk => by
      have h2 := HF2.out _ hk
      simp only [List.mem_cons, List.not_mem_nil, or_false] at hp
      have := HZ.out
      rcases hp with rfl | rfl | rfl <;> simp only at h2 <;> omega) (fun q hq k hk hk' => by
      have h2 := HF2.out _ hk'
      have := HZ.out
      simp only [List.mem_cons, List.not_mem_nil, or_false] at hq
      rcases hq with rfl | rfl
      · have := HF3.out k hk; omega
      · have := HF1.out k hk; omega))
  clear ho hbt Lw12
  have p0 := (L13.out.2.2.1 (w8.heap.size, [.int .i64 (renT fr tn x).kind, .string (renT fr tn x).name, .bool (renT fr tn x).minus, .slice E3 (renT fr tn x).limbs.length e3, .slice E4 (renT fr tn x).names.length e4, .slice E5 (renT fr tn x).kids.length e5, .slice E6 (renT fr tn x).alts.length e6]) (by simp)).cell (j := 0) rfl; have p1 := (L13.out.2.2.1 (w8.heap.size, [.int .i64 (renT fr tn x).kind, .string (renT fr tn x).name, .bool (renT fr tn x).minus, .slice E3 (renT fr tn x).limbs.length e3, .slice E4 (renT fr tn x).names.length e4, .slice E5 (renT fr tn x).kids.length e5, .slice E6 (renT fr tn x).alts.length e6]) (by simp)).cell (j := 1) rfl; have p2 := (L13.out.2.2.1 (w8.heap.size, [.int .i64 (renT fr tn x).kind, .string (renT fr tn x).name, .bool (renT fr tn x).minus, .slice E3 (renT fr tn x).limbs.length e3, .slice E4 (renT fr tn x).names.length e4, .slice E5 (renT fr tn x).kids.length e5, .slice E6 (renT fr tn x).alts.length e6]) (by simp)).cell (j := 2) rfl; have p3 := (L13.out.2.2.1 (w8.heap.size, [.int .i64 (renT fr tn x).kind, .string (renT fr tn x).name, .bool (renT fr tn x).minus, .slice E3 (renT fr tn x).limbs.length e3, .slice E4 (renT fr tn x).names.length e4, .slice E5 (renT fr tn x).kids.length e5, .slice E6 (renT fr tn x).alts.length e6]) (by simp)).cell (j := 3) rfl; have p4 := (L13.out.2.2.1 (w8.heap.size, [.int .i64 (renT fr tn x).kind, .string (renT fr tn x).name, .bool (renT fr tn x).minus, .slice E3 (renT fr tn x).limbs.length e3, .slice E4 (renT fr tn x).names.length e4, .slice E5 (renT fr tn x).kids.length e5, .slice E6 (renT fr tn x).alts.length e6]) (by simp)).cell (j := 4) rfl; have p5 := (L13.out.2.2.1 (w8.heap.size, [.int .i64 (renT fr tn x).kind, .string (renT fr tn x).name, .bool (renT fr tn x).minus, .slice E3 (renT fr tn x).limbs.length e3, .slice E4 (renT fr tn x).names.length e4, .slice E5 (renT fr tn x).kids.length e5, .slice E6 (renT fr tn x).alts.length e6]) (by simp)).cell (j := 5) rfl; have p6 := (L13.out.2.2.1 (w8.heap.size, [.int .i64 (renT fr tn x).kind, .string (renT fr tn x).name, .bool (renT fr tn x).minus, .slice E3 (renT fr tn x).limbs.length e3, .slice E4 (renT fr tn x).names.length e4, .slice E5 (renT fr tn x).kids.length e5, .slice E6 (renT fr tn x).alts.length e6]) (by simp)).cell (j := 6) rfl
  have q0 := (L13.out.2.2.1 (w4.heap.size, [.int .i64 (renT fr tn x).kind, .string (renT fr tn x).name, .bool (renT fr tn x).minus, .slice B3 (renT fr tn x).limbs.length b3, .slice B4 (renT fr tn x).names.length b4, .slice B5 (renT fr tn x).kids.length b5, .slice B6 (renT fr tn x).alts.length b6]) (by simp)).cell (j := 0) rfl; have q1 := (L13.out.2.2.1 (w4.heap.size, [.int .i64 (renT fr tn x).kind, .string (renT fr tn x).name, .bool (renT fr tn x).minus, .slice B3 (renT fr tn x).limbs.length b3, .slice B4 (renT fr tn x).names.length b4, .slice B5 (renT fr tn x).kids.length b5, .slice B6 (renT fr tn x).alts.length b6]) (by simp)).cell (j := 1) rfl; have q2 := (L13.out.2.2.1 (w4.heap.size, [.int .i64 (renT fr tn x).kind, .string (renT fr tn x).name, .bool (renT fr tn x).minus, .slice B3 (renT fr tn x).limbs.length b3, .slice B4 (renT fr tn x).names.length b4, .slice B5 (renT fr tn x).kids.length b5, .slice B6 (renT fr tn x).alts.length b6]) (by simp)).cell (j := 2) rfl; have q3 := (L13.out.2.2.1 (w4.heap.size, [.int .i64 (renT fr tn x).kind, .string (renT fr tn x).name, .bool (renT fr tn x).minus, .slice B3 (renT fr tn x).limbs.length b3, .slice B4 (renT fr tn x).names.length b4, .slice B5 (renT fr tn x).kids.length b5, .slice B6 (renT fr tn x).alts.length b6]) (by simp)).cell (j := 3) rfl; have q4 := (L13.out.2.2.1 (w4.heap.size, [.int .i64 (renT fr tn x).kind, .string (renT fr tn x).name, .bool (renT fr tn x).minus, .slice B3 (renT fr tn x).limbs.length b3, .slice B4 (renT fr tn x).names.length b4, .slice B5 (renT fr tn x).kids.length b5, .slice B6 (renT fr tn x).alts.length b6]) (by simp)).cell (j := 4) rfl; have q5 := (L13.out.2.2.1 (w4.heap.size, [.int .i64 (renT fr tn x).kind, .string (renT fr tn x).name, .bool (renT fr tn x).minus, .slice B3 (renT fr tn x).limbs.length b3, .slice B4 (renT fr tn x).names.length b4, .slice B5 (renT fr tn x).kids.length b5, .slice B6 (renT fr tn x).alts.length b6]) (by simp)).cell (j := 5) rfl; have q6 := (L13.out.2.2.1 (w4.heap.size, [.int .i64 (renT fr tn x).kind, .string (renT fr tn x).name, .bool (renT fr tn x).minus, .slice B3 (renT fr tn x).limbs.length b3, .slice B4 (renT fr tn x).names.length b4, .slice B5 (renT fr tn x).kids.length b5, .slice B6 (renT fr tn x).alts.length b6]) (by simp)).cell (j := 6) rfl
  go_wp2_with fail
  refine (eq_all (renT fr tn x) _ _ _ (own_K (L13.out.2.2.2 ((renT fr tn x), [.int .i64 (renT fr tn x).kind, .string (renT fr tn x).name, .bool (renT fr tn x).minus, .slice E3 (renT fr tn x).limbs.length e3, .slice E4 (renT fr tn x).names.length e4, .slice E5 (renT fr tn x).kids.length e5, .slice E6 (renT fr tn x).alts.length e6], F3) (by simp))) (own_K (L13.out.2.2.2 ((renT fr tn x), [.int .i64 (renT fr tn x).kind, .string (renT fr tn x).name, .bool (renT fr tn x).minus, .slice B3 (renT fr tn x).limbs.length b3, .slice B4 (renT fr tn x).names.length b4, .slice B5 (renT fr tn x).kids.length b5, .slice B6 (renT fr tn x).alts.length b6], F1) (by simp)))).mono ?_
  rintro e w14 ⟨rfl, hb⟩
  clear p0 p1 p2 p3 p4 p5 p6 q0 q1 q2 q3 q4 q5 q6
  have Lw14 := Lib.hid (L13.out.below hb)
  clear hb
  have p0 := (Lw14.out.2.2.1 (w8.heap.size, [.int .i64 (renT fr tn x).kind, .string (renT fr tn x).name, .bool (renT fr tn x).minus, .slice E3 (renT fr tn x).limbs.length e3, .slice E4 (renT fr tn x).names.length e4, .slice E5 (renT fr tn x).kids.length e5, .slice E6 (renT fr tn x).alts.length e6]) (by simp)).cell (j := 0) rfl; have p1 := (Lw14.out.2.2.1 (w8.heap.size, [.int .i64 (renT fr tn x).kind, .string (renT fr tn x).name, .bool (renT fr tn x).minus, .slice E3 (renT fr tn x).limbs.length e3, .slice E4 (renT fr tn x).names.length e4, .slice E5 (renT fr tn x).kids.length e5, .slice E6 (renT fr tn x).alts.length e6]) (by simp)).cell (j := 1) rfl; have p2 := (Lw14.out.2.2.1 (w8.heap.size, [.int .i64 (renT fr tn x).kind, .string (renT fr tn x).name, .bool (renT fr tn x).minus, .slice E3 (renT fr tn x).limbs.length e3, .slice E4 (renT fr tn x).names.length e4, .slice E5 (renT fr tn x).kids.length e5, .slice E6 (renT fr tn x).alts.length e6]) (by simp)).cell (j := 2) rfl; have p3 := (Lw14.out.2.2.1 (w8.heap.size, [.int .i64 (renT fr tn x).kind, .string (renT fr tn x).name, .bool (renT fr tn x).minus, .slice E3 (renT fr tn x).limbs.length e3, .slice E4 (renT fr tn x).names.length e4, .slice E5 (renT fr tn x).kids.length e5, .slice E6 (renT fr tn x).alts.length e6]) (by simp)).cell (j := 3) rfl; have p4 := (Lw14.out.2.2.1 (w8.heap.size, [.int .i64 (renT fr tn x).kind, .string (renT fr tn x).name, .bool (renT fr tn x).minus, .slice E3 (renT fr tn x).limbs.length e3, .slice E4 (renT fr tn x).names.length e4, .slice E5 (renT fr tn x).kids.length e5, .slice E6 (renT fr tn x).alts.length e6]) (by simp)).cell (j := 4) rfl; have p5 := (Lw14.out.2.2.1 (w8.heap.size, [.int .i64 (renT fr tn x).kind, .string (renT fr tn x).name, .bool (renT fr tn x).minus, .slice E3 (renT fr tn x).limbs.length e3, .slice E4 (renT fr tn x).names.length e4, .slice E5 (renT fr tn x).kids.length e5, .slice E6 (renT fr tn x).alts.length e6]) (by simp)).cell (j := 5) rfl; have p6 := (Lw14.out.2.2.1 (w8.heap.size, [.int .i64 (renT fr tn x).kind, .string (renT fr tn x).name, .bool (renT fr tn x).minus, .slice E3 (renT fr tn x).limbs.length e3, .slice E4 (renT fr tn x).names.length e4, .slice E5 (renT fr tn x).kids.length e5, .slice E6 (renT fr tn x).alts.length e6]) (by simp)).cell (j := 6) rfl
  go_wp2_with fail
  refine (markCore_any (renT fr tn x) _ F3 1 (by omega) (by have := HCNT.out; rw [renT_cnt]; omega) _ (Lw14.out.2.2.2 ((renT fr tn x), [.int .i64 (renT fr tn x).kind, .string (renT fr tn x).name, .bool (renT fr tn x).minus, .slice E3 (renT fr tn x).limbs.length e3, .slice E4 (renT fr tn x).names.length e4, .slice E5 (renT fr tn x).kids.length e5, .slice E6 (renT fr tn x).alts.length e6], F3) (by simp)) HN3.out).mono ?_
  rintro e w15 ⟨rfl, ho, hbt⟩
  clear p0 p1 p2 p3 p4 p5 p6
  have L15 := Lib.hid (show LS w [.int .i64 x.kind, .string x.name, .bool x.minus, .slice A3 x.limbs.length a3, .slice A4 x.names.length a4, .slice A5 x.kids.length a5, .slice A6 x.alts.length a6] [(w8.heap.size, [.int .i64 (renT fr tn x).kind, .string (renT fr tn x).name, .bool (renT fr tn x).minus, .slice E3 (renT fr tn x).limbs.length e3, .slice E4 (renT fr tn x).names.length e4, .slice E5 (renT fr tn x).kids.length e5, .slice E6 (renT fr tn x).alts.length e6]), (w4.heap.size, [.int .i64 (renT fr tn x).kind, .string (renT fr tn x).name, .bool (renT fr tn x).minus, .slice B3 (renT fr tn x).limbs.length b3, .slice B4 (renT fr tn x).names.length b4, .slice B5 (renT fr tn x).kids.length b5, .slice B6 (renT fr tn x).alts.length b6])] [(mkTop (renT fr tn x) 1, [.int .i64 (renT fr tn x).kind, .string (renT fr tn x).name, .bool (renT fr tn x).minus, .slice E3 (renT fr tn x).limbs.length e3, .slice E4 (renT fr tn x).names.length e4, .slice E5 (renT fr tn x).kids.length e5, .slice E6 (renT fr tn x).alts.length e6], F3), ((renT fr tn x), [.int .i64 (renT fr tn x).kind, .string (renT fr tn x).name, .bool (renT fr tn x).minus, .slice B3 (renT fr tn x).limbs.length b3, .slice B4 (renT fr tn x).names.length b4, .slice B5 (renT fr tn x).kids.length b5, .slice B6 (renT fr tn x).alts.length b6], F1)] w15 from
    ((LS.sub (bs' := [(w8.heap.size, [.int .i64 (renT fr tn x).kind, .string (renT fr tn x).name, .bool (renT fr tn x).minus, .slice E3 (renT fr tn x).limbs.length e3, .slice E4 (renT fr tn x).names.length e4, .slice E5 (renT fr tn x).kids.length e5, .slice E6 (renT fr tn x).alts.length e6]), (w4.heap.size, [.int .i64 (renT fr tn x).kind, .string (renT fr tn x).name, .bool (renT fr tn x).minus, .slice B3 (renT fr tn x).limbs.length b3, .slice B4 (renT fr tn x).names.length b4, .slice B5 (renT fr tn x).kids.length b5, .slice B6 (renT fr tn x).alts.length b6])]) (os' := [((renT fr tn x), [.int .i64 (renT fr tn x).kind, .string (renT fr tn x).name, .bool (renT fr tn x).minus, .slice B3 (renT fr tn x).limbs.length b3, .slice B4 (renT fr tn x).names.length b4, .slice B5 (renT fr tn x).kids.length b5, .slice B6 (renT fr tn x).alts.length b6], F1)]) Lw14.out (by simp) (by simp)).but hbt (fun k hk => by have := (HF3.out k hk).1; have := HZ.out; omega) (fun p hp hk => by
      have h2 := HF3.out _ hk
      simp only [List.mem_cons, List.not_mem_nil, or_false] at hp
      have := HZ.out
      rcases hp with rfl | rfl <;> simp only at h2 <;> omega) (fun q hq k hk hk' => by
      have h2 := HF3.out _ hk'
      have := HZ.out
      simp only [List.mem_cons, List.not_mem_nil, or_false] at hq
      rcases hq with rfl
      have := HF1.out k hk; omega)).addO ho)
  clear ho hbt Lw14
  have p0 := (L15.out.2.2.1 (w8.heap.size, [.int .i64 (renT fr tn x).kind, .string (renT fr tn x).name, .bool (renT fr tn x).minus, .slice E3 (renT fr tn x).limbs.length e3, .slice E4 (renT fr tn x).names.length e4, .slice E5 (renT fr tn x).kids.length e5, .slice E6 (renT fr tn x).alts.length e6]) (by simp)).cell (j := 0) rfl; have p1 := (L15.out.2.2.1 (w8.heap.size, [.int .i64 (renT fr tn x).kind, .string (renT fr tn x).name, .bool (renT fr tn x).minus, .slice E3 (renT fr tn x).limbs.length e3, .slice E4 (renT fr tn x).names.length e4, .slice E5 (renT fr tn x).kids.length e5, .slice E6 (renT fr tn x).alts.length e6]) (by simp)).cell (j := 1) rfl; have p2 := (L15.out.2.2.1 (w8.heap.size, [.int .i64 (renT fr tn x).kind, .string (renT fr tn x).name, .bool (renT fr tn x).minus, .slice E3 (renT fr tn x).limbs.length e3, .slice E4 (renT fr tn x).names.length e4, .slice E5 (renT fr tn x).kids.length e5, .slice E6 (renT fr tn x).alts.length e6]) (by simp)).cell (j := 2) rfl; have p3 := (L15.out.2.2.1 (w8.heap.size, [.int .i64 (renT fr tn x).kind, .string (renT fr tn x).name, .bool (renT fr tn x).minus, .slice E3 (renT fr tn x).limbs.length e3, .slice E4 (renT fr tn x).names.length e4, .slice E5 (renT fr tn x).kids.length e5, .slice E6 (renT fr tn x).alts.length e6]) (by simp)).cell (j := 3) rfl; have p4 := (L15.out.2.2.1 (w8.heap.size, [.int .i64 (renT fr tn x).kind, .string (renT fr tn x).name, .bool (renT fr tn x).minus, .slice E3 (renT fr tn x).limbs.length e3, .slice E4 (renT fr tn x).names.length e4, .slice E5 (renT fr tn x).kids.length e5, .slice E6 (renT fr tn x).alts.length e6]) (by simp)).cell (j := 4) rfl; have p5 := (L15.out.2.2.1 (w8.heap.size, [.int .i64 (renT fr tn x).kind, .string (renT fr tn x).name, .bool (renT fr tn x).minus, .slice E3 (renT fr tn x).limbs.length e3, .slice E4 (renT fr tn x).names.length e4, .slice E5 (renT fr tn x).kids.length e5, .slice E6 (renT fr tn x).alts.length e6]) (by simp)).cell (j := 5) rfl; have p6 := (L15.out.2.2.1 (w8.heap.size, [.int .i64 (renT fr tn x).kind, .string (renT fr tn x).name, .bool (renT fr tn x).minus, .slice E3 (renT fr tn x).limbs.length e3, .slice E4 (renT fr tn x).names.length e4, .slice E5 (renT fr tn x).kids.length e5, .slice E6 (renT fr tn x).alts.length e6]) (by simp)).cell (j := 6) rfl
  go_wp2_with fail
  refine (heldCore_any (renT fr tn x) _ 1 (by omega) (by have := HCNT.out; rw [renT_cnt]; omega) _ (own_K (L15.out.2.2.2 (mkTop (renT fr tn x) 1, [.int .i64 (renT fr tn x).kind, .string (renT fr tn x).name, .bool (renT fr tn x).minus, .slice E3 (renT fr tn x).limbs.length e3, .slice E4 (renT fr tn x).names.length e4, .slice E5 (renT fr tn x).kids.length e5, .slice E6 (renT fr tn x).alts.length e6], F3) (by simp)))).mono ?_
  rintro e w16 ⟨rfl, hb⟩
  clear p0 p1 p2 p3 p4 p5 p6
  have Lw16 := Lib.hid (L15.out.below hb)
  clear hb
  have hm1 : ¬ (1 + ((cntTop (renT fr tn x) : Nat) : Int) < 0) := by omega
  have p0 := Lw16.out.2.1.cell (j := 0) rfl; have p1 := Lw16.out.2.1.cell (j := 1) rfl; have p2 := Lw16.out.2.1.cell (j := 2) rfl; have p3 := Lw16.out.2.1.cell (j := 3) rfl; have p4 := Lw16.out.2.1.cell (j := 4) rfl; have p5 := Lw16.out.2.1.cell (j := 5) rfl; have p6 := Lw16.out.2.1.cell (j := 6) rfl
  go_wp2_with fail
  refine (HTO.out _ Lw16.out.1).mono ?_
  rintro e w17 ⟨c5, F5, rfl, ho, -, -, hb⟩
  clear p0 p1 p2 p3 p4 p5 p6
  have K17 := Lib.hid (own_K ho); have L17 := Lib.hid (Lw16.out.below hb)
  clear ho hb Lw16 hm1
  go_wp2_with fail
  refine (implRename fr tn x HBK.out _ c5 K17.out).mono ?_
  rintro e w18 ⟨c6, F6, rfl, ho, -, -, hb⟩
  obtain ⟨G3, g3, G4, g4, G5, g5, G6, g6, rfl⟩ := own_open ho
  have L18 := Lib.hid ((L17.out.below hb).addO ho)
  clear ho hb L17 K17
  simp only [cellsC] at *
  have hzw19 := Lib.hid (blk_alloc w18 36 [.int .i64 0, .string ⟨#[]⟩, .bool false, .slice none 0 0, .slice none 0 0, .slice none 0 0, .slice none 0 0])
  go_wp2_with (refine wpList_store_blk w18.heap.size 0 [] [.int .i64 0, .string ⟨#[]⟩, .bool false, .slice none 0 0, .slice none 0 0, .slice none 0 0, .slice none 0 0] [] [.int .i64 (renT fr tn x).kind, .string (renT fr tn x).name, .bool (renT fr tn x).minus, .slice G3 (renT fr tn x).limbs.length g3, .slice G4 (renT fr tn x).names.length g4, .slice G5 (renT fr tn x).kids.length g5, .slice G6 (renT fr tn x).alts.length g6] 36 (by rfl) 36 _ _ (by rfl) (by rfl) rfl (by rfl) hzw19.out rfl (by kernel_rfl) ?honew19 ?_)
  case honew19 => intro v hv; simp at hv; rcases hv with rfl | rfl | rfl | rfl | rfl | rfl | rfl <;> rfl
  intro w19 hbw19 hgw19 hsw19
  have Lw19 := Lib.hid (LS.box L18.out hgw19 hbw19)
  have Sw19 := Lib.hid (show w18.heap.size < w19.heap.size by have h := (show (w18.alloc (.cells #[.int .i64 0, .string ⟨#[]⟩, .bool false, .slice none 0 0, .slice none 0 0, .slice none 0 0, .slice none 0 0] 36)).heap.size = w18.heap.size + 1 by simp); omega)
  clear hzw19 hbw19 hgw19 hsw19
  have p0 := (Lw19.out.2.2.1 (w18.heap.size, [.int .i64 (renT fr tn x).kind, .string (renT fr tn x).name, .bool (renT fr tn x).minus, .slice G3 (renT fr tn x).limbs.length g3, .slice G4 (renT fr tn x).names.length g4, .slice G5 (renT fr tn x).kids.length g5, .slice G6 (renT fr tn x).alts.length g6]) (by simp)).cell (j := 0) rfl; have p1 := (Lw19.out.2.2.1 (w18.heap.size, [.int .i64 (renT fr tn x).kind, .string (renT fr tn x).name, .bool (renT fr tn x).minus, .slice G3 (renT fr tn x).limbs.length g3, .slice G4 (renT fr tn x).names.length g4, .slice G5 (renT fr tn x).kids.length g5, .slice G6 (renT fr tn x).alts.length g6]) (by simp)).cell (j := 1) rfl; have p2 := (Lw19.out.2.2.1 (w18.heap.size, [.int .i64 (renT fr tn x).kind, .string (renT fr tn x).name, .bool (renT fr tn x).minus, .slice G3 (renT fr tn x).limbs.length g3, .slice G4 (renT fr tn x).names.length g4, .slice G5 (renT fr tn x).kids.length g5, .slice G6 (renT fr tn x).alts.length g6]) (by simp)).cell (j := 2) rfl; have p3 := (Lw19.out.2.2.1 (w18.heap.size, [.int .i64 (renT fr tn x).kind, .string (renT fr tn x).name, .bool (renT fr tn x).minus, .slice G3 (renT fr tn x).limbs.length g3, .slice G4 (renT fr tn x).names.length g4, .slice G5 (renT fr tn x).kids.length g5, .slice G6 (renT fr tn x).alts.length g6]) (by simp)).cell (j := 3) rfl; have p4 := (Lw19.out.2.2.1 (w18.heap.size, [.int .i64 (renT fr tn x).kind, .string (renT fr tn x).name, .bool (renT fr tn x).minus, .slice G3 (renT fr tn x).limbs.length g3, .slice G4 (renT fr tn x).names.length g4, .slice G5 (renT fr tn x).kids.length g5, .slice G6 (renT fr tn x).alts.length g6]) (by simp)).cell (j := 4) rfl; have p5 := (Lw19.out.2.2.1 (w18.heap.size, [.int .i64 (renT fr tn x).kind, .string (renT fr tn x).name, .bool (renT fr tn x).minus, .slice G3 (renT fr tn x).limbs.length g3, .slice G4 (renT fr tn x).names.length g4, .slice G5 (renT fr tn x).kids.length g5, .slice G6 (renT fr tn x).alts.length g6]) (by simp)).cell (j := 5) rfl; have p6 := (Lw19.out.2.2.1 (w18.heap.size, [.int .i64 (renT fr tn x).kind, .string (renT fr tn x).name, .bool (renT fr tn x).minus, .slice G3 (renT fr tn x).limbs.length g3, .slice G4 (renT fr tn x).names.length g4, .slice G5 (renT fr tn x).kids.length g5, .slice G6 (renT fr tn x).alts.length g6]) (by simp)).cell (j := 6) rfl
  have q0 := (Lw19.out.2.2.1 (w4.heap.size, [.int .i64 (renT fr tn x).kind, .string (renT fr tn x).name, .bool (renT fr tn x).minus, .slice B3 (renT fr tn x).limbs.length b3, .slice B4 (renT fr tn x).names.length b4, .slice B5 (renT fr tn x).kids.length b5, .slice B6 (renT fr tn x).alts.length b6]) (by simp)).cell (j := 0) rfl; have q1 := (Lw19.out.2.2.1 (w4.heap.size, [.int .i64 (renT fr tn x).kind, .string (renT fr tn x).name, .bool (renT fr tn x).minus, .slice B3 (renT fr tn x).limbs.length b3, .slice B4 (renT fr tn x).names.length b4, .slice B5 (renT fr tn x).kids.length b5, .slice B6 (renT fr tn x).alts.length b6]) (by simp)).cell (j := 1) rfl; have q2 := (Lw19.out.2.2.1 (w4.heap.size, [.int .i64 (renT fr tn x).kind, .string (renT fr tn x).name, .bool (renT fr tn x).minus, .slice B3 (renT fr tn x).limbs.length b3, .slice B4 (renT fr tn x).names.length b4, .slice B5 (renT fr tn x).kids.length b5, .slice B6 (renT fr tn x).alts.length b6]) (by simp)).cell (j := 2) rfl; have q3 := (Lw19.out.2.2.1 (w4.heap.size, [.int .i64 (renT fr tn x).kind, .string (renT fr tn x).name, .bool (renT fr tn x).minus, .slice B3 (renT fr tn x).limbs.length b3, .slice B4 (renT fr tn x).names.length b4, .slice B5 (renT fr tn x).kids.length b5, .slice B6 (renT fr tn x).alts.length b6]) (by simp)).cell (j := 3) rfl; have q4 := (Lw19.out.2.2.1 (w4.heap.size, [.int .i64 (renT fr tn x).kind, .string (renT fr tn x).name, .bool (renT fr tn x).minus, .slice B3 (renT fr tn x).limbs.length b3, .slice B4 (renT fr tn x).names.length b4, .slice B5 (renT fr tn x).kids.length b5, .slice B6 (renT fr tn x).alts.length b6]) (by simp)).cell (j := 4) rfl; have q5 := (Lw19.out.2.2.1 (w4.heap.size, [.int .i64 (renT fr tn x).kind, .string (renT fr tn x).name, .bool (renT fr tn x).minus, .slice B3 (renT fr tn x).limbs.length b3, .slice B4 (renT fr tn x).names.length b4, .slice B5 (renT fr tn x).kids.length b5, .slice B6 (renT fr tn x).alts.length b6]) (by simp)).cell (j := 5) rfl; have q6 := (Lw19.out.2.2.1 (w4.heap.size, [.int .i64 (renT fr tn x).kind, .string (renT fr tn x).name, .bool (renT fr tn x).minus, .slice B3 (renT fr tn x).limbs.length b3, .slice B4 (renT fr tn x).names.length b4, .slice B5 (renT fr tn x).kids.length b5, .slice B6 (renT fr tn x).alts.length b6]) (by simp)).cell (j := 6) rfl
  go_wp2_with fail
  refine (eq_all (renT fr tn x) _ _ _ (own_K (Lw19.out.2.2.2 ((renT fr tn x), [.int .i64 (renT fr tn x).kind, .string (renT fr tn x).name, .bool (renT fr tn x).minus, .slice G3 (renT fr tn x).limbs.length g3, .slice G4 (renT fr tn x).names.length g4, .slice G5 (renT fr tn x).kids.length g5, .slice G6 (renT fr tn x).alts.length g6], F6) (by simp))) (own_K (Lw19.out.2.2.2 ((renT fr tn x), [.int .i64 (renT fr tn x).kind, .string (renT fr tn x).name, .bool (renT fr tn x).minus, .slice B3 (renT fr tn x).limbs.length b3, .slice B4 (renT fr tn x).names.length b4, .slice B5 (renT fr tn x).kids.length b5, .slice B6 (renT fr tn x).alts.length b6], F1) (by simp)))).mono ?_
  rintro e w20 ⟨rfl, hb⟩
  clear p0 p1 p2 p3 p4 p5 p6 q0 q1 q2 q3 q4 q5 q6
  have Lw20 := Lib.hid (Lw19.out.below hb)
  clear hb
  have p0 := (Lw20.out.2.2.1 (w8.heap.size, [.int .i64 (renT fr tn x).kind, .string (renT fr tn x).name, .bool (renT fr tn x).minus, .slice E3 (renT fr tn x).limbs.length e3, .slice E4 (renT fr tn x).names.length e4, .slice E5 (renT fr tn x).kids.length e5, .slice E6 (renT fr tn x).alts.length e6]) (by simp)).cell (j := 0) rfl; have p1 := (Lw20.out.2.2.1 (w8.heap.size, [.int .i64 (renT fr tn x).kind, .string (renT fr tn x).name, .bool (renT fr tn x).minus, .slice E3 (renT fr tn x).limbs.length e3, .slice E4 (renT fr tn x).names.length e4, .slice E5 (renT fr tn x).kids.length e5, .slice E6 (renT fr tn x).alts.length e6]) (by simp)).cell (j := 1) rfl; have p2 := (Lw20.out.2.2.1 (w8.heap.size, [.int .i64 (renT fr tn x).kind, .string (renT fr tn x).name, .bool (renT fr tn x).minus, .slice E3 (renT fr tn x).limbs.length e3, .slice E4 (renT fr tn x).names.length e4, .slice E5 (renT fr tn x).kids.length e5, .slice E6 (renT fr tn x).alts.length e6]) (by simp)).cell (j := 2) rfl; have p3 := (Lw20.out.2.2.1 (w8.heap.size, [.int .i64 (renT fr tn x).kind, .string (renT fr tn x).name, .bool (renT fr tn x).minus, .slice E3 (renT fr tn x).limbs.length e3, .slice E4 (renT fr tn x).names.length e4, .slice E5 (renT fr tn x).kids.length e5, .slice E6 (renT fr tn x).alts.length e6]) (by simp)).cell (j := 3) rfl; have p4 := (Lw20.out.2.2.1 (w8.heap.size, [.int .i64 (renT fr tn x).kind, .string (renT fr tn x).name, .bool (renT fr tn x).minus, .slice E3 (renT fr tn x).limbs.length e3, .slice E4 (renT fr tn x).names.length e4, .slice E5 (renT fr tn x).kids.length e5, .slice E6 (renT fr tn x).alts.length e6]) (by simp)).cell (j := 4) rfl; have p5 := (Lw20.out.2.2.1 (w8.heap.size, [.int .i64 (renT fr tn x).kind, .string (renT fr tn x).name, .bool (renT fr tn x).minus, .slice E3 (renT fr tn x).limbs.length e3, .slice E4 (renT fr tn x).names.length e4, .slice E5 (renT fr tn x).kids.length e5, .slice E6 (renT fr tn x).alts.length e6]) (by simp)).cell (j := 5) rfl; have p6 := (Lw20.out.2.2.1 (w8.heap.size, [.int .i64 (renT fr tn x).kind, .string (renT fr tn x).name, .bool (renT fr tn x).minus, .slice E3 (renT fr tn x).limbs.length e3, .slice E4 (renT fr tn x).names.length e4, .slice E5 (renT fr tn x).kids.length e5, .slice E6 (renT fr tn x).alts.length e6]) (by simp)).cell (j := 6) rfl
  go_wp2_with fail
  refine (heldCore_any (renT fr tn x) _ 1 (by omega) (by have := HCNT.out; rw [renT_cnt]; omega) _ (own_K (Lw20.out.2.2.2 (mkTop (renT fr tn x) 1, [.int .i64 (renT fr tn x).kind, .string (renT fr tn x).name, .bool (renT fr tn x).minus, .slice E3 (renT fr tn x).limbs.length e3, .slice E4 (renT fr tn x).names.length e4, .slice E5 (renT fr tn x).kids.length e5, .slice E6 (renT fr tn x).alts.length e6], F3) (by simp)))).mono ?_
  rintro e w21 ⟨rfl, hb⟩
  clear p0 p1 p2 p3 p4 p5 p6
  have Lw21 := Lib.hid (Lw20.out.below hb)
  clear hb
  have hm1 : ¬ (1 + ((cntTop (renT fr tn x) : Nat) : Int) < 0) := by omega
  go_wp2
  go_ret
  exact ⟨rfl, Lw21.out.1⟩
end Go.Proofs.Ytagfphlhahiplaa.C13
namespace Go.Proofs.Ytagfphlhahiplaa.C13
open Go.ChangeShapes Go.WideShapes Go.ChangeAt Go.RowKit
set_option linter.unusedVariables false
theorem own_knob : ownKnob Try.prog.godebug = none := by kernel_rfl
theorem laid_out : laidOutB Try.prog = true := by kernel_rfl
set_option maxRecDepth 100000 in
theorem ren_lifted (os : Os) (started : os.Started) (H : Type) (enc : TypeId × Value → H) :
    ReturnsInHanded {} Try.checked os 4 .any (Rows.fnExactRenameSpec.pre6 enc Try.prog Try.f4 Rows.fnExactRenameRow.domain false) (Rows.fnExactRenameSpec.post enc Try.prog Try.f4 false true false false) := by
  refine returnsInHanded_of_change (C := Try.checked) own_knob started (by kernel_rfl) Try.func4
    (ChangeSpec.witness6 (enc := enc) (C := Try.checked) false ⟨#[], #[.agg #[.int .i64 0, .string ⟨#[]⟩, .bool false, .slice none 0 0, .slice none 0 0, .slice none 0 0, .slice none 0 0], .string ⟨#[]⟩, .string ⟨#[]⟩], []⟩ 8 (by kernel_rfl) (by kernel_rfl) (by kernel_rfl) (by kernel_rfl)) ?_
  intro W base args ds gs before hval0 hW _ _
  have hval : ∀ (j : Nat) t v, Try.f4.params[j]? = some t → args[j]? = some v → Value.okWide Try.prog W .any base t v := hval0
  have hW' := hW
  obtain ⟨p, q, hA0, hV, rfl, _, _⟩ := hW
  have hA : DataW.TrodAll enc Try.prog W 0 (fun _ => true) true Try.f4.params.toList args.toList ds p := hA0
  rw [Try.params4] at hA hval
  obtain ⟨v0, v1, v2, d0, d1, d2, p0, p1, p2, rfl, rfl, rfl, h0, h1, h2⟩ := trodAll_three hA
  obtain ⟨rfl, rfl⟩ := trodVars_none hV
  obtain ⟨cs, rfl, _⟩ := okWide_struct Try.underlying29 (hval 0 29 v0 rfl rfl)
  obtain ⟨fr, rfl⟩ := okWide_string Try.underlying9 (hval 1 9 v1 rfl rfl)
  obtain ⟨tn, rfl⟩ := okWide_string Try.underlying9 (hval 2 9 v2 rfl rfl)
  have k0 := h0; have k1 := h1; have k2 := h2
  have lt0 : ∀ x ∈ p0, x.block < W.heap.size := by obtain ⟨m, hm⟩ := k0; exact DataW.trod_lt m _ _ _ hm
  have lt1 : ∀ x ∈ p1, x.block < W.heap.size := by obtain ⟨m, hm⟩ := k1; exact DataW.trod_lt m _ _ _ hm
  have lt2 : ∀ x ∈ p2, x.block < W.heap.size := by obtain ⟨m, hm⟩ := k2; exact DataW.trod_lt m _ _ _ hm
  obtain ⟨fuel, hf⟩ := h0
  obtain ⟨x, hK, hF, hw⟩ := open_arg (cs := cs.toList) hf
  clear hA0 hval0 hf
  have hlaw := law_rn x hF fr tn W cs.toList hK
  rw [Array.toArray_toList] at hlaw
  refine hlaw.mono fun e W' ⟨he, bel⟩ => ?_
  subst he
  exact ⟨_, rfl, _, _, _, [], _, [], hW', trodAll_mk1 (shut_bool Try.underlying4 _), trodAll_mk3 (Below.trod laid_out (by kernel_rfl) (of_decide_eq_true (by kernel_rfl)) k0 bel lt0) (Below.trod laid_out (by kernel_rfl) (of_decide_eq_true (by kernel_rfl)) k1 bel lt1) (Below.trod laid_out (by kernel_rfl) (of_decide_eq_true (by kernel_rfl)) k2 bel lt2), rfl, bel.frame _, fun h => by cases h⟩
theorem ren_over : Rows.fnExactRenameRow.holds Try.pinned (OpenSpec.ofChange Rows.fnExactRenameSpec) :=
  OpenClaim.holds_of_wide 4 Try.f4 rfl rfl rfl rfl rfl rfl rfl ⟨rfl, rfl, rfl, rfl, rfl⟩ rfl rfl rfl rfl rfl (by kernel_rfl) Try.func4 (by kernel_rfl)
    (of_decide_eq_true (by kernel_rfl)) (by unfold Func.isWrapper; first | (rw [if_pos (by decide +kernel)]; kernel_rfl) | (rw [if_neg (by decide +kernel)]; exact ⟨rfl, rfl⟩))
    (fun os started H enc _ => ren_lifted os started H enc)
end Go.Proofs.Ytagfphlhahiplaa.C13
namespace Go.Proofs.Ytagfphlhahiplaa
/-- FnExactRename answers true at every term. -/
theorem fnExactRename_holds : Rows.FnExactRenameSaid := C13.ren_over
#print axioms fnExactRename_holds
end Go.Proofs.Ytagfphlhahiplaa
