import Derived.Test.YtnoammmohdmnjaaGreatU22
import Derived.Test.YtnoammmohdmnjaaGreatU23
set_option maxRecDepth 100000
set_option maxHeartbeats 16000000
set_option linter.unusedVariables false
set_option linter.unusedSimpArgs false
namespace Go.Proofs.YtnoammmohdmnjaaGreat.C13
open Go.RowKit Go.Proofs.YtnoammmohdmnjaaGreatW.PrintWords
open List renaming setIfInBounds_toArray → Jla, set_cons_zero → Jlb, set_cons_succ → Jlc
structure FvS (g b b1 b2 : Nat) (F : List Nat) : Prop where
 gF : g ∉ F
 bg : b ≠ g
 bF : b ∉ F
 xb : b1 ≠ b
 xg : b1 ≠ g
 xF : b1 ∉ F
 yb : b2 ≠ b
 yg : b2 ≠ g
 yF : b2 ∉ F
theorem FvS.sub {g b b1 b2 g' : Nat} {F G : List Nat} (h : FvS g b b1 b2 F) (hg : g' ∈ F) (hG : ∀ i ∈ G, i ∈ F) (hn : g' ∉ G) : FvS g' b b1 b2 G :=
 ⟨hn, fun e => h.bF (e ▸ hg), fun hh => h.bF (hG _ hh), h.xb, fun e => h.xF (e ▸ hg), fun hh => h.xF (hG _ hh), h.yb, fun e => h.yF (e ▸ hg), fun hh => h.yF (hG _ hh)⟩
def Jn (H : ByteArray → Int) (fr : ByteArray) : Bool := decide (H fr ≠ 0)
def FvPost (fr tn : ByteArray) (x : CoreT) (g : Nat) (e : TypeId) (pre post : List Value) (F : List Nat) (b n : Nat) (H : ByteArray → Int) (w : World) (en : Ending) (w' : World) : Prop :=
 en = .returned (.tuple #[]) ∧ ∃ cx', Ke 35 76 w' (fv fr tn (Jn H fr) x) cx' F ∧ Blk w' g e (pre ++ (cx' ++ post)) ∧ CountM w' b (n + 2 * bulk x) H ∧ But (b :: g :: F) w w'
def Vx (fr tn : ByteArray) (x : CoreT) : Prop := Vn x → bulk x ≤ 274877906944 → ∀ (w : World) (g off : Nat) (e : TypeId) (pre cx post : List Value) (F : List Nat) (b b1 b2 n : Nat) (H : ByteArray → Int), pre.length = off → Blk w g e (pre ++ (cx ++ post)) → Ke 35 76 w x cx F → F.Nodup → FvS g b b1 b2 F →
 Blk w b1 9 [.string fr] → Blk w b2 9 [.string tn] → CountM w b n H → n + 2 * bulk x ≤ 900000000000 →
 Calls Tryz.prog 26 #[.pointer (some ⟨g, off, none⟩), .map (some b), .func (.func 95) #[] #[.pointer (some ⟨b1, 0, none⟩), .pointer (some ⟨b2, 0, none⟩)]] w (FvPost fr tn x g e pre post F b n H w)
theorem fv_var (fr tn : ByteArray) (x : CoreT) (hk : x.kind = 1) : Vx fr tn x := by
 intro hsh hbk w g off e pre cx post F b b1 b2 n H hoff hblk hO hnd hS hb1 hb2 hm hn
 obtain ⟨v3, v4, v5, v6, F3, F4, F5, F6, G5, G6, rfl, rfl, hX⟩ := RnX.open hO hnd
 obtain ⟨A3, c3, rfl, l3⟩ := hX.r3.slice; obtain ⟨A4, c4, rfl, l4⟩ := hX.r4.slice
 obtain ⟨_, h5, -⟩ := hX.r5; obtain ⟨_, h6, -⟩ := hX.r6
 obtain ⟨A5, c5, rfl, l5⟩ := h5.slice; obtain ⟨A6, c6, rfl, l6⟩ := h6.slice
 obtain ⟨n1, n2, n3, n4, n5⟩ := Qz hbk
 rw [Kn] at hsh
 obtain ⟨hs1, hs2, hs3⟩ := hsh
 have ⟨HSH, HKS, HLS⟩ := Wq hs1 (Js.1 hs2) (Jr.1 hs3)
 have ⟨HX, HBK, HN, HM, HS, HB1⟩ := Wx hX hbk hn hm hS hb1; have ⟨HB2, HOFF, HB⟩ := Wq hb2 hoff hblk
 clear hX h5 h6 hO hnd hbk hn hm hS hb1 hb2 hs1 hs2 hs3
 obtain ⟨p0, p1, p2, p3, p4, p5, p6⟩ := Blk.seven hblk hoff
 clear hblk hoff
 rw [hk] at p0
 have HK := Wd hk; clear hk
 have hrun := HM.out.look (s := x.name) (by unfold maxLen; omega)
 by_cases hc : H x.name = 0
 ·have HC := Wd hc
  rw [hc] at hrun
  clear hc
  go_enter_defers Tryz.func26, Tryz.ntmps26
  go_wp2_with fail
  refine (qxf g off b1 b2 (pre ++ [.int .i64 x.kind]) ([.bool x.minus, .slice A3 x.limbs.length c3, .slice A4 x.names.length c4, .slice A5 x.kids.length c5, .slice A6 x.alts.length c6] ++ post) e x.name fr tn _ (by rw [List.length_append, HOFF.out]; rfl) (by have h := HB.out; simpa [List.append_assoc] using h) HB1.out HB2.out).mono ?_
  rintro en w3 ⟨rfl, hb3, hbt3⟩
  clear p0 p1 p2 p3 p4 p5 p6 hrun
  have H3 := Wd hb3; have HT3 := Wd hbt3
  clear hb3 hbt3
  go_wp2
  refine ⟨_, results_none rfl _ _ _, rfl, [.int .i64 x.kind, .string (if x.name = fr then tn else x.name), .bool x.minus, .slice A3 x.limbs.length c3, .slice A4 x.names.length c4, .slice A5 x.kids.length c5, .slice A6 x.alts.length c6], ?_, ?_, ?_, ?_⟩
  ·have hrn : fv fr tn (Jn H fr) x = ⟨x.kind, if x.name = fr then tn else x.name, x.minus, x.limbs, x.names, x.kids, x.alts⟩ := by
    rw [qjc, if_pos HK.out]
    by_cases he : x.name = fr
    ·rw [if_pos ⟨decide_eq_false (by rw [← he, HC.out]; simp), he⟩, if_pos he]
    ·rw [if_neg (fun h => he h.2), if_neg he]
   rw [hrn]
   exact (HX.out.move (fun i hi => HT3.out.block i (HX.out.lt i hi) (fun h => HS.out.gF (by rw [← List.mem_singleton.1 h]; exact hi)))).own _ _ _
  ·simpa [List.append_assoc] using H3.out
  ·exact (HM.out.move (HT3.out.block b HM.out.lt (fun h => HS.out.bg (List.mem_singleton.1 h)))).mono (by omega)
  ·exact HT3.out.mono (by simp)
 ·have HC := Wd hc
  have hc1 : (H x.name == 0) = false := beq_eq_false_iff_ne.2 hc
  go_enter_defers Tryz.func26, Tryz.ntmps26
  go_wp2
  refine ⟨_, results_none rfl _ _ _, rfl, [.int .i64 x.kind, .string x.name, .bool x.minus, .slice A3 x.limbs.length c3, .slice A4 x.names.length c4, .slice A5 x.kids.length c5, .slice A6 x.alts.length c6], ?_, HB.out, HM.out.mono (by omega), But.refl _ _⟩
  have hrn : fv fr tn (Jn H fr) x = ⟨x.kind, x.name, x.minus, x.limbs, x.names, x.kids, x.alts⟩ := by
   rw [qjc, if_pos HK.out, if_neg (fun h => HC.out (by have := of_decide_eq_false h.1; rw [h.2]; omega))]
  rw [hrn]
  exact HX.out.own _ _ _
theorem qjf {H : ByteArray → Int} {fr : ByteArray} {l : List ByteArray} (h : 0 ≤ H fr) : Jn (Xh H 1 l) fr = (Jn H fr || decide (fr ∈ l)) := by
 have e : Xh H 1 l fr = H fr + (nIn l fr : Int) := by simp [Xh]
 unfold Jn
 rw [e]
 have hp := qnc (l := l) (s := fr)
 by_cases h0 : H fr = 0
 ·by_cases hm : fr ∈ l
  ·have := hp.2 hm
   rw [decide_eq_true (show H fr + (nIn l fr : Int) ≠ 0 by omega), decide_eq_true hm, Bool.or_true]
  ·have : ¬ 0 < nIn l fr := fun h => hm (hp.1 h)
   rw [decide_eq_false (show ¬ (H fr + (nIn l fr : Int) ≠ 0) by omega), decide_eq_false hm, decide_eq_false (show ¬ (H fr ≠ 0) by omega)]
   rfl
 ·rw [decide_eq_true (show H fr + (nIn l fr : Int) ≠ 0 by omega), decide_eq_true h0, Bool.true_or]
theorem qhs : ∀ (l : List CoreT) (x : CoreT), Qo (l ++ [x]) = Qo l + (1 + bulk x)
 | [], x => by simp [Qo]
 | c :: r, x => by rw [List.cons_append, Qo, Qo, qhs r x]; omega
theorem Xp (l : List CoreT) (k : Nat) (hk : k < l.length) : Qo (l.take (k + 1)) = Qo (l.take k) + (1 + bulk l[k]) := by rw [Qf hk, qhs]
theorem Zq : ∀ (l : List CoreT) (k : Nat), Qo (l.take k) ≤ Qo l
 | [], k => by simp
 | c :: r, 0 => by simp [Qo]
 | c :: r, k + 1 => by rw [List.take_succ_cons, Qo, Qo]; have := Zq r k; omega
theorem qbo {g b b1 b2 : Nat} {F : List Nat} {e : TypeId} {cs : List Value} {w wr w' : World} {n' : Nat} {H' : ByteArray → Int} {c1 c2 : List Value} {Sub : World → Prop} (hS : FvS g b b1 b2 F) (hlt : ∀ i ∈ F, i < w.heap.size) (hb : Blk wr g e cs) (hB : But (b :: g :: F) w wr) (h1 : Blk wr b1 9 c1) (h2 : Blk wr b2 9 c2) (hg : wr.grownBy w' (some b)) (hm : CountM w' b n' H')
  (hsub : (∀ i ∈ F, w'.heap[i]? = wr.heap[i]?) → Sub w') : Sub w' ∧ Blk w' g e cs ∧ CountM w' b n' H' ∧ But (b :: g :: F) w w' ∧ Blk w' b1 9 c1 ∧ Blk w' b2 9 c2 :=
 ⟨hsub (fun i hi => hg.block i (Nat.lt_of_lt_of_le (hlt i hi) hB.size) (fun h => hS.bF (by injection h with h; exact h ▸ hi))), hb.grownO hg (fun h => hS.bg (by injection h with h; exact h.symm)), hm, hB.trans ((But.of_grown hg).mono (by simp)), h1.grownO hg (fun h => hS.xb (by injection h)), h2.grownO hg (fun h => hS.yb (by injection h))⟩
theorem qaf {g b b1 b2 g' : Nat} {F G : List Nat} {e e' : TypeId} {cs : List Value} {w wr w' : World} {n' : Nat} {H' : ByteArray → Int} {c1 c2 pre' post' cx' : List Value} {y : CoreT} {Sub : CoreT → World → Prop} (hS : FvS g b b1 b2 F) (hlt : ∀ i ∈ F, i < w.heap.size) (hgF : g' ∈ F) (hGF : ∀ i ∈ G, i ∈ F) (hb : Blk wr g e cs) (hB : But (b :: g :: F) w wr) (h1 : Blk wr b1 9 c1) (h2 : Blk wr b2 9 c2)
  (ho : Ke 35 76 w' y cx' G) (hb' : Blk w' g' e' (pre' ++ (cx' ++ post'))) (hm : CountM w' b n' H') (hB' : But (b :: g' :: G) wr w')
  (hcl : ∀ y cx' w', Ke 35 76 w' y cx' G → Blk w' g' e' (pre' ++ (cx' ++ post')) → (∀ i ∈ F, i ≠ g' → i ∉ G → w'.heap[i]? = wr.heap[i]?) → Sub y w') : Sub y w' ∧ Blk w' g e cs ∧ CountM w' b n' H' ∧ But (b :: g :: F) w w' ∧ Blk w' b1 9 c1 ∧ Blk w' b2 9 c2 := by
 have out : ∀ i, i ≠ b → i ∉ F → i ∉ b :: g' :: G := fun i h1 h2 h => by
  rcases List.mem_cons.1 h with h | h
  ·exact h1 h
  ·rcases List.mem_cons.1 h with h | h
   ·exact h2 (h ▸ hgF)
   ·exact h2 (hGF i h)
 refine ⟨hcl y cx' w' ho hb' (fun i hi h1 h2 => hB'.block i (Nat.lt_of_lt_of_le (hlt i hi) hB.size) (fun h => ?_)), hB'.blk hb (out g (Ne.symm hS.bg) hS.gF), hm, hB.trans (hB'.mono (fun k hk => ?_)), hB'.blk h1 (out b1 hS.xb hS.xF), hB'.blk h2 (out b2 hS.yb hS.yF)⟩
 ·rcases List.mem_cons.1 h with h | h
  ·exact hS.bF (h ▸ hi)
  ·rcases List.mem_cons.1 h with h | h
   ·exact h1 h
   ·exact h2 h
 ·rcases List.mem_cons.1 hk with h | h
  ·subst h; simp
  ·rcases List.mem_cons.1 h with h | h
   ·subst h; exact List.mem_cons_of_mem _ (List.mem_cons_of_mem _ hgF)
   ·exact List.mem_cons_of_mem _ (List.mem_cons_of_mem _ (hGF k h))
theorem f16 {p : Prop} (h : p := by
 obtain ⟨gk, cap, c1, cx, pk, Gx, hv5, hcap, hl, hblk, hox, hnx, hsub, hgF, hgx, hcl⟩ := HI.out.1.kid (k := k) (by rw [Zg (by simp)]; exact hlt)
 simp only [Value.slice.injEq, true_and] at hv5
 obtain ⟨rfl, rfl⟩ := hv5
 rw [Xf (by simp) hlt] at hox
 have ⟨HBK7, HOX, HNX, HSUB, HGF, HCL, HL⟩ := Wk hblk hox (show Gx.Nodup ∧ gk ∉ Gx from ⟨hnx, hgx⟩) hsub hgF hcl hl
 clear hblk hox hnx hgx hsub hgF hcl hl
 have qk0 : (0 : Int) ≤ (k : Int) := by omega
 have qk1 : (k : Int) < x.kids.length := by omega
 have HLE := Wd (show Qo (x.kids.take (k + 1)) = Qo (x.kids.take k) + (1 + bulk x.kids[k]) ∧ Qo (x.kids.take (k + 1)) ≤ Qo x.kids from ⟨Xp _ _ hlt, Zq _ _⟩)
 go_wp2_with fail
 refine (IHK.out _ (List.getElem_mem hlt) (HKS.out _ (List.getElem_mem hlt)) (by have := Qx (List.getElem_mem hlt); have := HBK.out; rw [Qg] at this; omega) _ gk (k * 7) _ c1 cx pk Gx b b1 b2 (n + x.names.length + 2 * Qo (x.kids.take k)) (Xh H 1 x.names) HL.out HBK7.out HOX.out HNX.out.1 (HS.out.sub HGF.out HSUB.out HNX.out.2) HI.out.2.2.2.2.1 HI.out.2.2.2.2.2 HI.out.2.2.1 (by have := HN.out; have := HLE.out; rw [Qg] at *; have := Qn x.names; omega)).mono ?_
 rintro en w3 ⟨rfl, cx', ho3, hb3, hm3, hbt3⟩
 have HI3 := Wd (qaf HS.out HX.out.lt HGF.out HSUB.out HI.out.2.1 HI.out.2.2.2.1 HI.out.2.2.2.2.1 HI.out.2.2.2.2.2 ho3 hb3 hm3 hbt3 HCL.out)
 clear ho3 hb3 hm3 hbt3
 clear p0 p1 p2 p3 p4 p5 p6
 go_wp2
 go_roundw
 case rel => exact ⟨k + 1, by omega, by go_num, Wd (by
  have h := HI3.out
  rw [Ki (by simp) hlt (by simp)] at h
  exact ⟨h.1, h.2.1, h.2.2.1.mono (by have := HLE.out; omega), h.2.2.2⟩)⟩
 case measure => simp [intOf]; omega) : p := h
theorem f44 {p : Prop} (h : p := by
 rw [Jc, Jc]
 exact qbo (Sub := RnX x (.slice A3 x.limbs.length c3) (.slice A4 x.names.length c4) (.slice A5 x.kids.length c5) (.slice A6 x.alts.length c6) F3 F4 F5 F6 G5 G6 x.kids.length x.alts.length x.kids x.alts) HS.out HX.out.lt HB.out (But.refl _ _) HB1.out HB2.out hg1 (hm1.mono (by omega)) (fun hm => HX.out.move hm)) : p := h
theorem f51 {p : Prop} (h : p := by
 have hrn : fv fr tn (Jn H fr) x = ⟨x.kind, x.name, x.minus, x.limbs, x.names, (x.kids.map (fv fr tn (Jn (Xh H 1 x.names) fr))), x.alts⟩ := by
  have hk := HK.out
  rw [qjc, if_neg (by omega), if_pos (by omega), qjf (HM.out.2 fr).1, Va]
 rw [hrn]
 exact qct (h3.1.own _ _ _) HK.out) : p := h
theorem f65 {p : Prop} (h : p := by
 have h4 : Row wr 9 (.slice A4 x.names.length c4) x.names.length (Xa x.names) F4 := by
  rcases h with h | ⟨_, _, h⟩
  ·exact h.r4
  ·exact h.r4
 obtain ⟨A, c, e, _, hC⟩ := h4.readsS
 injection e with e1 e2 e3
 subst e1
 exact hC) : p := h
theorem qwe (fr tn : ByteArray) (x : CoreT) (hk : x.kind = 6) (ihk : ∀ y ∈ x.kids, Vx fr tn y) : Vx fr tn x := by
 intro hsh hbk w g off e pre cx post F b b1 b2 n H hoff hblk hO hnd hS hb1 hb2 hm hn
 obtain ⟨v3, v4, v5, v6, F3, F4, F5, F6, G5, G6, rfl, rfl, hX⟩ := RnX.open hO hnd
 obtain ⟨A3, c3, rfl, l3⟩ := hX.r3.slice; obtain ⟨A4, c4, rfl, l4⟩ := hX.r4.slice
 obtain ⟨_, h5, -⟩ := hX.r5; obtain ⟨_, h6, -⟩ := hX.r6
 obtain ⟨A5, c5, rfl, l5⟩ := h5.slice; obtain ⟨A6, c6, rfl, l6⟩ := h6.slice
 obtain ⟨n1, n2, n3, n4, n5⟩ := Qz hbk
 rw [Kn] at hsh
 obtain ⟨hs1, hs2, hs3⟩ := hsh
 have ⟨HSH, HKS, HLS⟩ := Wq hs1 (Js.1 hs2) (Jr.1 hs3)
 have ⟨HX, HBK, HN, HM, HS, HB1⟩ := Wx hX hbk hn hm hS hb1; have ⟨HB2, HOFF, HB⟩ := Wq hb2 hoff hblk
 clear hX h5 h6 hO hnd hbk hn hm hS hb1 hb2 hs1 hs2 hs3
 obtain ⟨p0, p1, p2, p3, p4, p5, p6⟩ := Blk.seven hblk hoff
 clear hblk hoff
 rw [hk] at p0
 have HK := Wd hk
 have IHK := Wd ihk; clear ihk
 have HNM := Wd (show ∀ s ∈ x.names, s.size ≤ 274877906944 from fun s hs => by have h := HBK.out; rw [Qg] at h; have := Ka hs; omega)
 have HRN := Wd (show ∀ wr, RnX x (.slice A3 x.limbs.length c3) (.slice A4 x.names.length c4) (.slice A5 x.kids.length c5) (.slice A6 x.alts.length c6) F3 F4 F5 F6 G5 G6 x.kids.length x.alts.length x.kids x.alts wr ∨ (∃ ks ls, RnX x (.slice A3 x.limbs.length c3) (.slice A4 x.names.length c4) (.slice A5 x.kids.length c5) (.slice A6 x.alts.length c6) F3 F4 F5 F6 G5 G6 x.kids.length x.alts.length ks ls wr) → Kd.string.C wr A4 x.names.length x.names from fun wr h => by
  exact f65)
 rw [hk] at HB
 clear hk
 go_enter_defers Tryz.func26, Tryz.ntmps26
 go_wp2_with fail
 refine (Yw x.names HNM.out 1 (by omega) b n H (by have := HN.out; rw [Qg] at this; have := Qn x.names; omega) (fun s => by have h0 := (HM.out.2 s).1; exact ⟨by omega, fun k => by omega⟩) A4 c4 _ (HRN.out _ (.inl HX.out)) l4 HM.out).mono ?_
 rintro en w1 ⟨rfl, hm1, hg1⟩
 have HI0 := Wd (show RnX x (.slice A3 x.limbs.length c3) (.slice A4 x.names.length c4) (.slice A5 x.kids.length c5) (.slice A6 x.alts.length c6) F3 F4 F5 F6 G5 G6 x.kids.length x.alts.length (mix (x.kids.map (fv fr tn (Jn (Xh H 1 x.names) fr))) x.kids 0) (mix x.alts x.alts 0) w1 ∧ Blk w1 g e (pre ++ ([.int .i64 6, .string x.name, .bool x.minus, .slice A3 x.limbs.length c3, .slice A4 x.names.length c4, .slice A5 x.kids.length c5, .slice A6 x.alts.length c6] ++ post)) ∧ CountM w1 b (n + x.names.length + 2 * Qo (x.kids.take 0)) (Xh H 1 x.names) ∧ But (b :: g :: (F3 ++ (F4 ++ ((F5 ++ G5) ++ (F6 ++ G6))))) w w1 ∧ Blk w1 b1 9 [.string fr] ∧ Blk w1 b2 9 [.string tn] from by
  exact f44)
 clear p0 p1 p2 p3 p4 p5 p6 hm1 hg1
 obtain ⟨p0, p1, p2, p3, p4, p5, p6⟩ := Blk.seven HI0.out.2.1 HOFF.out
 go_wp2_with fail
 clear p0 p1 p2 p3 p4 p5 p6
 go_loopw [131] (fun s wr => ∃ k : Nat, k ≤ x.kids.length ∧ s = .int .i64 k ∧ Hid (RnX x (.slice A3 x.limbs.length c3) (.slice A4 x.names.length c4) (.slice A5 x.kids.length c5) (.slice A6 x.alts.length c6) F3 F4 F5 F6 G5 G6 x.kids.length x.alts.length (mix (x.kids.map (fv fr tn (Jn (Xh H 1 x.names) fr))) x.kids k) (mix x.alts x.alts 0) wr ∧ Blk wr g e (pre ++ ([.int .i64 6, .string x.name, .bool x.minus, .slice A3 x.limbs.length c3, .slice A4 x.names.length c4, .slice A5 x.kids.length c5, .slice A6 x.alts.length c6] ++ post)) ∧ CountM wr b (n + x.names.length + 2 * Qo (x.kids.take k)) (Xh H 1 x.names) ∧ But (b :: g :: (F3 ++ (F4 ++ ((F5 ++ G5) ++ (F6 ++ G6))))) w wr ∧ Blk wr b1 9 [.string fr] ∧ Blk wr b2 9 [.string tn])) (fun s _ => x.kids.length - (intOf s).toNat)
 case atStart => exact ⟨0, Nat.zero_le _, rfl, HI0⟩
 clear HI0
 case round =>
  obtain ⟨k, hk, rfl, HI⟩ := hrel
  obtain ⟨p0, p1, p2, p3, p4, p5, p6⟩ := Blk.seven HI.out.2.1 HOFF.out
  by_cases hlt : k < x.kids.length
  ·exact f16
  ·have hkk : k = x.kids.length := by omega
   have HI1 := Wd (show RnX x (.slice A3 x.limbs.length c3) (.slice A4 x.names.length c4) (.slice A5 x.kids.length c5) (.slice A6 x.alts.length c6) F3 F4 F5 F6 G5 G6 x.kids.length x.alts.length (mix (x.kids.map (fv fr tn (Jn (Xh H 1 x.names) fr))) x.kids x.kids.length) (mix x.alts x.alts 0) wr ∧ Blk wr g e (pre ++ ([.int .i64 6, .string x.name, .bool x.minus, .slice A3 x.limbs.length c3, .slice A4 x.names.length c4, .slice A5 x.kids.length c5, .slice A6 x.alts.length c6] ++ post)) ∧ CountM wr b (n + x.names.length + 2 * Qo x.kids) (Xh H 1 x.names) ∧ But (b :: g :: (F3 ++ (F4 ++ ((F5 ++ G5) ++ (F6 ++ G6))))) w wr ∧ Blk wr b1 9 [.string fr] ∧ Blk wr b2 9 [.string tn] from by have h := HI.out; rw [hkk, List.take_length] at h; exact h)
   clear HI hkk
   go_wp2_with fail
   clear p0 p1 p2 p3 p4 p5 p6
   refine leaves_cons (f := 57) (args := #[.map (some b), .int .i64 (-1), .slice A4 x.names.length c4]) (by simp) (by simp [go_sem]) ?_
   refine (Yg x.names HNM.out (-1) (by omega) b _ (Xh H 1 x.names) (by have := HN.out; rw [Qg] at this; have := Qn x.names; omega) (fun s => by have h0 := (HM.out.2 s).1; have h1 := Vb x.names s; simp only [Xh]; exact ⟨by omega, fun k => by have := h1 k; omega⟩) A4 c4 .returning wr (HRN.out _ (.inr ⟨_, _, HI1.out.1⟩)) l4 HI1.out.2.2.1).mono ?_
   rintro en u' w3 ⟨rfl, rfl, hm3, hg3⟩
   have h3 := qbo (Sub := RnX x (.slice A3 x.limbs.length c3) (.slice A4 x.names.length c4) (.slice A5 x.kids.length c5) (.slice A6 x.alts.length c6) F3 F4 F5 F6 G5 G6 x.kids.length x.alts.length (x.kids.map (fv fr tn (Jn (Xh H 1 x.names) fr))) x.alts) HS.out HX.out.lt HI1.out.2.1 HI1.out.2.2.2.1 HI1.out.2.2.2.2.1 HI1.out.2.2.2.2.2 hg3 hm3 (fun hm => by have h := HI1.out.1.move hm; rw [Xj (by simp), Jc] at h; exact h)
   rw [Vf] at h3
   refine ⟨_, results_none rfl _ _ _, rfl, [.int .i64 6, .string x.name, .bool x.minus, .slice A3 x.limbs.length c3, .slice A4 x.names.length c4, .slice A5 x.kids.length c5, .slice A6 x.alts.length c6], ?_, h3.2.1, h3.2.2.1.mono (by rw [Qg]; have := Qn x.names; omega), h3.2.2.2.1⟩
   exact f51
theorem qwf (fr tn : ByteArray) (x : CoreT) (hk : x.kind = 7) (ihk : ∀ y ∈ x.kids, Vx fr tn y) : Vx fr tn x := by
 intro hsh hbk w g off e pre cx post F b b1 b2 n H hoff hblk hO hnd hS hb1 hb2 hm hn
 obtain ⟨v3, v4, v5, v6, F3, F4, F5, F6, G5, G6, rfl, rfl, hX⟩ := RnX.open hO hnd
 obtain ⟨A3, c3, rfl, l3⟩ := hX.r3.slice; obtain ⟨A4, c4, rfl, l4⟩ := hX.r4.slice
 obtain ⟨_, h5, -⟩ := hX.r5; obtain ⟨_, h6, -⟩ := hX.r6
 obtain ⟨A5, c5, rfl, l5⟩ := h5.slice; obtain ⟨A6, c6, rfl, l6⟩ := h6.slice
 obtain ⟨n1, n2, n3, n4, n5⟩ := Qz hbk
 rw [Kn] at hsh
 obtain ⟨hs1, hs2, hs3⟩ := hsh
 have ⟨HSH, HKS, HLS⟩ := Wq hs1 (Js.1 hs2) (Jr.1 hs3)
 have ⟨HX, HBK, HN, HM, HS, HB1⟩ := Wx hX hbk hn hm hS hb1; have ⟨HB2, HOFF, HB⟩ := Wq hb2 hoff hblk
 clear hX h5 h6 hO hnd hbk hn hm hS hb1 hb2 hs1 hs2 hs3
 obtain ⟨p0, p1, p2, p3, p4, p5, p6⟩ := Blk.seven hblk hoff
 clear hblk hoff
 rw [hk] at p0
 have HK := Wd hk
 have IHK := Wd ihk; clear ihk
 have HNM := Wd (show ∀ s ∈ x.names, s.size ≤ 274877906944 from fun s hs => by have h := HBK.out; rw [Qg] at h; have := Ka hs; omega)
 have HRN := Wd (show ∀ wr, RnX x (.slice A3 x.limbs.length c3) (.slice A4 x.names.length c4) (.slice A5 x.kids.length c5) (.slice A6 x.alts.length c6) F3 F4 F5 F6 G5 G6 x.kids.length x.alts.length x.kids x.alts wr ∨ (∃ ks ls, RnX x (.slice A3 x.limbs.length c3) (.slice A4 x.names.length c4) (.slice A5 x.kids.length c5) (.slice A6 x.alts.length c6) F3 F4 F5 F6 G5 G6 x.kids.length x.alts.length ks ls wr) → Kd.string.C wr A4 x.names.length x.names from fun wr h => by
  exact f65)
 rw [hk] at HB
 clear hk
 go_enter_defers Tryz.func26, Tryz.ntmps26
 go_wp2_with fail
 refine (Yw x.names HNM.out 1 (by omega) b n H (by have := HN.out; rw [Qg] at this; have := Qn x.names; omega) (fun s => by have h0 := (HM.out.2 s).1; exact ⟨by omega, fun k => by omega⟩) A4 c4 _ (HRN.out _ (.inl HX.out)) l4 HM.out).mono ?_
 rintro en w1 ⟨rfl, hm1, hg1⟩
 have HI0 := Wd (show RnX x (.slice A3 x.limbs.length c3) (.slice A4 x.names.length c4) (.slice A5 x.kids.length c5) (.slice A6 x.alts.length c6) F3 F4 F5 F6 G5 G6 x.kids.length x.alts.length (mix (x.kids.map (fv fr tn (Jn (Xh H 1 x.names) fr))) x.kids 0) (mix x.alts x.alts 0) w1 ∧ Blk w1 g e (pre ++ ([.int .i64 7, .string x.name, .bool x.minus, .slice A3 x.limbs.length c3, .slice A4 x.names.length c4, .slice A5 x.kids.length c5, .slice A6 x.alts.length c6] ++ post)) ∧ CountM w1 b (n + x.names.length + 2 * Qo (x.kids.take 0)) (Xh H 1 x.names) ∧ But (b :: g :: (F3 ++ (F4 ++ ((F5 ++ G5) ++ (F6 ++ G6))))) w w1 ∧ Blk w1 b1 9 [.string fr] ∧ Blk w1 b2 9 [.string tn] from by
  exact f44)
 clear p0 p1 p2 p3 p4 p5 p6 hm1 hg1
 obtain ⟨p0, p1, p2, p3, p4, p5, p6⟩ := Blk.seven HI0.out.2.1 HOFF.out
 go_wp2_with fail
 clear p0 p1 p2 p3 p4 p5 p6
 go_loopw [131] (fun s wr => ∃ k : Nat, k ≤ x.kids.length ∧ s = .int .i64 k ∧ Hid (RnX x (.slice A3 x.limbs.length c3) (.slice A4 x.names.length c4) (.slice A5 x.kids.length c5) (.slice A6 x.alts.length c6) F3 F4 F5 F6 G5 G6 x.kids.length x.alts.length (mix (x.kids.map (fv fr tn (Jn (Xh H 1 x.names) fr))) x.kids k) (mix x.alts x.alts 0) wr ∧ Blk wr g e (pre ++ ([.int .i64 7, .string x.name, .bool x.minus, .slice A3 x.limbs.length c3, .slice A4 x.names.length c4, .slice A5 x.kids.length c5, .slice A6 x.alts.length c6] ++ post)) ∧ CountM wr b (n + x.names.length + 2 * Qo (x.kids.take k)) (Xh H 1 x.names) ∧ But (b :: g :: (F3 ++ (F4 ++ ((F5 ++ G5) ++ (F6 ++ G6))))) w wr ∧ Blk wr b1 9 [.string fr] ∧ Blk wr b2 9 [.string tn])) (fun s _ => x.kids.length - (intOf s).toNat)
 case atStart => exact ⟨0, Nat.zero_le _, rfl, HI0⟩
 clear HI0
 case round =>
  obtain ⟨k, hk, rfl, HI⟩ := hrel
  obtain ⟨p0, p1, p2, p3, p4, p5, p6⟩ := Blk.seven HI.out.2.1 HOFF.out
  by_cases hlt : k < x.kids.length
  ·exact f16
  ·have hkk : k = x.kids.length := by omega
   have HI1 := Wd (show RnX x (.slice A3 x.limbs.length c3) (.slice A4 x.names.length c4) (.slice A5 x.kids.length c5) (.slice A6 x.alts.length c6) F3 F4 F5 F6 G5 G6 x.kids.length x.alts.length (mix (x.kids.map (fv fr tn (Jn (Xh H 1 x.names) fr))) x.kids x.kids.length) (mix x.alts x.alts 0) wr ∧ Blk wr g e (pre ++ ([.int .i64 7, .string x.name, .bool x.minus, .slice A3 x.limbs.length c3, .slice A4 x.names.length c4, .slice A5 x.kids.length c5, .slice A6 x.alts.length c6] ++ post)) ∧ CountM wr b (n + x.names.length + 2 * Qo x.kids) (Xh H 1 x.names) ∧ But (b :: g :: (F3 ++ (F4 ++ ((F5 ++ G5) ++ (F6 ++ G6))))) w wr ∧ Blk wr b1 9 [.string fr] ∧ Blk wr b2 9 [.string tn] from by have h := HI.out; rw [hkk, List.take_length] at h; exact h)
   clear HI hkk
   go_wp2_with fail
   clear p0 p1 p2 p3 p4 p5 p6
   refine leaves_cons (f := 57) (args := #[.map (some b), .int .i64 (-1), .slice A4 x.names.length c4]) (by simp) (by simp [go_sem]) ?_
   refine (Yg x.names HNM.out (-1) (by omega) b _ (Xh H 1 x.names) (by have := HN.out; rw [Qg] at this; have := Qn x.names; omega) (fun s => by have h0 := (HM.out.2 s).1; have h1 := Vb x.names s; simp only [Xh]; exact ⟨by omega, fun k => by have := h1 k; omega⟩) A4 c4 .returning wr (HRN.out _ (.inr ⟨_, _, HI1.out.1⟩)) l4 HI1.out.2.2.1).mono ?_
   rintro en u' w3 ⟨rfl, rfl, hm3, hg3⟩
   have h3 := qbo (Sub := RnX x (.slice A3 x.limbs.length c3) (.slice A4 x.names.length c4) (.slice A5 x.kids.length c5) (.slice A6 x.alts.length c6) F3 F4 F5 F6 G5 G6 x.kids.length x.alts.length (x.kids.map (fv fr tn (Jn (Xh H 1 x.names) fr))) x.alts) HS.out HX.out.lt HI1.out.2.1 HI1.out.2.2.2.1 HI1.out.2.2.2.2.1 HI1.out.2.2.2.2.2 hg3 hm3 (fun hm => by have h := HI1.out.1.move hm; rw [Xj (by simp), Jc] at h; exact h)
   rw [Vf] at h3
   refine ⟨_, results_none rfl _ _ _, rfl, [.int .i64 7, .string x.name, .bool x.minus, .slice A3 x.limbs.length c3, .slice A4 x.names.length c4, .slice A5 x.kids.length c5, .slice A6 x.alts.length c6], ?_, h3.2.1, h3.2.2.1.mono (by rw [Qg]; have := Qn x.names; omega), h3.2.2.2.1⟩
   exact f51
theorem f53 {p : Prop} (h : p := by
 exact ⟨h.1, h.2.1, h.2.2.1.mono (by have := HLE.out; omega), h.2.2.2⟩) : p := h
theorem qwi (fr tn : ByteArray) (x : CoreT) (hk1 : x.kind ≠ 1) (hk6 : x.kind ≠ 6) (hk7 : x.kind ≠ 7) (hk8 : x.kind ≠ 8) (ihk : ∀ y ∈ x.kids, Vx fr tn y) : Vx fr tn x := by
 intro hsh hbk w g off e pre cx post F b b1 b2 n H hoff hblk hO hnd hS hb1 hb2 hm hn
 obtain ⟨v3, v4, v5, v6, F3, F4, F5, F6, G5, G6, rfl, rfl, hX⟩ := RnX.open hO hnd
 obtain ⟨A3, c3, rfl, l3⟩ := hX.r3.slice; obtain ⟨A4, c4, rfl, l4⟩ := hX.r4.slice
 obtain ⟨_, h5, -⟩ := hX.r5; obtain ⟨_, h6, -⟩ := hX.r6
 obtain ⟨A5, c5, rfl, l5⟩ := h5.slice; obtain ⟨A6, c6, rfl, l6⟩ := h6.slice
 obtain ⟨n1, n2, n3, n4, n5⟩ := Qz hbk
 rw [Kn] at hsh
 obtain ⟨hs1, hs2, hs3⟩ := hsh
 have ⟨HSH, HKS, HLS⟩ := Wq hs1 (Js.1 hs2) (Jr.1 hs3)
 have ⟨HX, HBK, HN, HM, HS, HB1⟩ := Wx hX hbk hn hm hS hb1; have ⟨HB2, HOFF, HB⟩ := Wq hb2 hoff hblk
 clear hX h5 h6 hO hnd hbk hn hm hS hb1 hb2 hs1 hs2 hs3
 obtain ⟨p0, p1, p2, p3, p4, p5, p6⟩ := Blk.seven hblk hoff
 clear hblk hoff
 have HK := Wd (show x.kind ≠ 1 ∧ x.kind ≠ 6 ∧ x.kind ≠ 7 ∧ x.kind ≠ 8 from ⟨hk1, hk6, hk7, hk8⟩)
 have e1 : (x.kind == 1) = false := beq_eq_false_iff_ne.2 hk1
 have e6 : (x.kind == 6) = false := beq_eq_false_iff_ne.2 hk6
 have e7 : (x.kind == 7) = false := beq_eq_false_iff_ne.2 hk7
 have e8 : (x.kind == 8) = false := beq_eq_false_iff_ne.2 hk8
 have IHK := Wd ihk
 clear hk1 hk6 hk7 hk8 ihk
 go_enter_defers Tryz.func26, Tryz.ntmps26
 have HI0 := Wd (show RnX x (.slice A3 x.limbs.length c3) (.slice A4 x.names.length c4) (.slice A5 x.kids.length c5) (.slice A6 x.alts.length c6) F3 F4 F5 F6 G5 G6 x.kids.length x.alts.length (mix (x.kids.map (fv fr tn (Jn H fr))) x.kids 0) (mix x.alts x.alts 0) w ∧ Blk w g e (pre ++ ([.int .i64 x.kind, .string x.name, .bool x.minus, .slice A3 x.limbs.length c3, .slice A4 x.names.length c4, .slice A5 x.kids.length c5, .slice A6 x.alts.length c6] ++ post)) ∧ CountM w b (n + 2 * Qo (x.kids.take 0)) (H) ∧ But (b :: g :: (F3 ++ (F4 ++ ((F5 ++ G5) ++ (F6 ++ G6))))) w w ∧ Blk w b1 9 [.string fr] ∧ Blk w b2 9 [.string tn] from by
  rw [Jc, Jc]
  exact ⟨HX.out, HB.out, HM.out.mono (by omega), But.refl _ _, HB1.out, HB2.out⟩)
 go_wp2_with fail
 clear p0 p1 p2 p3 p4 p5 p6
 go_loopw [131] (fun s wr => ∃ k : Nat, k ≤ x.kids.length ∧ s = .int .i64 k ∧ Hid (RnX x (.slice A3 x.limbs.length c3) (.slice A4 x.names.length c4) (.slice A5 x.kids.length c5) (.slice A6 x.alts.length c6) F3 F4 F5 F6 G5 G6 x.kids.length x.alts.length (mix (x.kids.map (fv fr tn (Jn H fr))) x.kids k) (mix x.alts x.alts 0) wr ∧ Blk wr g e (pre ++ ([.int .i64 x.kind, .string x.name, .bool x.minus, .slice A3 x.limbs.length c3, .slice A4 x.names.length c4, .slice A5 x.kids.length c5, .slice A6 x.alts.length c6] ++ post)) ∧ CountM wr b (n + 2 * Qo (x.kids.take k)) (H) ∧ But (b :: g :: (F3 ++ (F4 ++ ((F5 ++ G5) ++ (F6 ++ G6))))) w wr ∧ Blk wr b1 9 [.string fr] ∧ Blk wr b2 9 [.string tn])) (fun s _ => x.kids.length - (intOf s).toNat)
 case atStart => exact ⟨0, Nat.zero_le _, rfl, HI0⟩
 clear HI0
 case round =>
  obtain ⟨k, hk, rfl, HI⟩ := hrel
  obtain ⟨p0, p1, p2, p3, p4, p5, p6⟩ := Blk.seven HI.out.2.1 HOFF.out
  by_cases hlt : k < x.kids.length
  ·obtain ⟨gk, cap, c1, cx, pk, Gx, hv5, hcap, hl, hblk, hox, hnx, hsub, hgF, hgx, hcl⟩ := HI.out.1.kid (k := k) (by rw [Zg (by simp)]; exact hlt)
   simp only [Value.slice.injEq, true_and] at hv5
   obtain ⟨rfl, rfl⟩ := hv5
   rw [Xf (by simp) hlt] at hox
   have ⟨HBK7, HOX, HNX, HSUB, HGF, HCL, HL⟩ := Wk hblk hox (show Gx.Nodup ∧ gk ∉ Gx from ⟨hnx, hgx⟩) hsub hgF hcl hl
   clear hblk hox hnx hgx hsub hgF hcl hl
   have qk0 : (0 : Int) ≤ (k : Int) := by omega
   have qk1 : (k : Int) < x.kids.length := by omega
   have HLE := Wd (show Qo (x.kids.take (k + 1)) = Qo (x.kids.take k) + (1 + bulk x.kids[k]) ∧ Qo (x.kids.take (k + 1)) ≤ Qo x.kids from ⟨Xp _ _ hlt, Zq _ _⟩)
   go_wp2_with fail
   refine (IHK.out _ (List.getElem_mem hlt) (HKS.out _ (List.getElem_mem hlt)) (by have := Qx (List.getElem_mem hlt); have := HBK.out; rw [Qg] at this; omega) _ gk (k * 7) _ c1 cx pk Gx b b1 b2 (n + 2 * Qo (x.kids.take k)) (H) HL.out HBK7.out HOX.out HNX.out.1 (HS.out.sub HGF.out HSUB.out HNX.out.2) HI.out.2.2.2.2.1 HI.out.2.2.2.2.2 HI.out.2.2.1 (by have := HN.out; have := HLE.out; rw [Qg] at *; have := Qn x.names; omega)).mono ?_
   rintro en w3 ⟨rfl, cx', ho3, hb3, hm3, hbt3⟩
   have HI3 := Wd (qaf HS.out HX.out.lt HGF.out HSUB.out HI.out.2.1 HI.out.2.2.2.1 HI.out.2.2.2.2.1 HI.out.2.2.2.2.2 ho3 hb3 hm3 hbt3 HCL.out)
   clear ho3 hb3 hm3 hbt3
   clear p0 p1 p2 p3 p4 p5 p6
   go_wp2
   go_roundw
   case rel => exact ⟨k + 1, by omega, by go_num, Wd (by
    have h := HI3.out
    rw [Ki (by simp) hlt (by simp)] at h
    exact f53)⟩
   case measure => simp [intOf]; omega
  ·have hkk : k = x.kids.length := by omega
   have HI1 := Wd (show RnX x (.slice A3 x.limbs.length c3) (.slice A4 x.names.length c4) (.slice A5 x.kids.length c5) (.slice A6 x.alts.length c6) F3 F4 F5 F6 G5 G6 x.kids.length x.alts.length (mix (x.kids.map (fv fr tn (Jn H fr))) x.kids x.kids.length) (mix x.alts x.alts 0) wr ∧ Blk wr g e (pre ++ ([.int .i64 x.kind, .string x.name, .bool x.minus, .slice A3 x.limbs.length c3, .slice A4 x.names.length c4, .slice A5 x.kids.length c5, .slice A6 x.alts.length c6] ++ post)) ∧ CountM wr b (n + 2 * Qo x.kids) (H) ∧ But (b :: g :: (F3 ++ (F4 ++ ((F5 ++ G5) ++ (F6 ++ G6))))) w wr ∧ Blk wr b1 9 [.string fr] ∧ Blk wr b2 9 [.string tn] from by have h := HI.out; rw [hkk, List.take_length] at h; exact h)
   clear HI hkk
   go_wp2_with fail
   clear p0 p1 p2 p3 p4 p5 p6
   have h3 := HI1.out
   rw [Xj (by simp), Jc] at h3
   refine ⟨_, results_none rfl _ _ _, rfl, [.int .i64 x.kind, .string x.name, .bool x.minus, .slice A3 x.limbs.length c3, .slice A4 x.names.length c4, .slice A5 x.kids.length c5, .slice A6 x.alts.length c6], ?_, h3.2.1, h3.2.2.1.mono (by rw [Qg]; omega), h3.2.2.2.1⟩
   have hrn : fv fr tn (Jn H fr) x = ⟨x.kind, x.name, x.minus, x.limbs, x.names, (x.kids.map (fv fr tn (Jn H fr))), x.alts⟩ := by
    rw [qjc, if_neg HK.out.1, if_neg (by have := HK.out; omega), if_neg HK.out.2.2.2, Va]
   rw [hrn]
   exact h3.1.own _ _ _
end Go.Proofs.YtnoammmohdmnjaaGreat.C13
