/- Part of the proof that FnExactFormatCore answers true at every term. -/
import Derived.Defers
import Derived.Orders
import Derived.Tactics
import Derived.Test.YtagfphlhahiplaaR11
namespace Go.Proofs.Ytagfphlhahiplaa.C13
open Go.RowKit Go.Proofs.YtagfphlhahiplaaW.PrintWords Go.Proofs.Ytagfphlhahiplaa.PFnExactFormatCore Go.WideMaps Go.Maps
set_option linter.unusedVariables false
set_option linter.unusedSimpArgs false
/-- how often a name stands in a list -/
def nIn (l : List ByteArray) (s : ByteArray) : Nat := (l.filter (fun t => decide (t = s))).length
theorem nIn_nil (s : ByteArray) : nIn [] s = 0 := rfl
theorem nIn_snoc (l : List ByteArray) (t s : ByteArray) : nIn (l ++ [t]) s = nIn l s + (if t = s then 1 else 0) := by
  unfold nIn
  rw [List.filter_append, List.length_append]
  by_cases h : t = s <;> simp [h]
theorem nIn_cons (l : List ByteArray) (t s : ByteArray) : nIn (t :: l) s = (if t = s then 1 else 0) + nIn l s := by
  unfold nIn
  by_cases h : t = s <;> simp [h]; omega
theorem nIn_take (l : List ByteArray) (s : ByteArray) (k : Nat) : nIn (l.take k) s ≤ nIn l s := by
  induction l generalizing k with
  | nil => simp
  | cons t r ih =>
    cases k with
    | zero => simp [nIn_nil]
    | succ k => rw [List.take_succ_cons, nIn_cons, nIn_cons]; have := ih k; omega
theorem nIn_pos {l : List ByteArray} {s : ByteArray} : 0 < nIn l s ↔ s ∈ l := by
  unfold nIn
  rw [List.length_pos_iff_exists_mem]
  constructor
  · rintro ⟨t, ht⟩
    rw [List.mem_filter] at ht
    have := of_decide_eq_true ht.2
    exact this ▸ ht.1
  · intro h
    exact ⟨s, List.mem_filter.2 ⟨h, by simp⟩⟩
def addH (H : ByteArray → Int) (by_ : Int) (l : List ByteArray) : ByteArray → Int := fun s => H s + by_ * (nIn l s : Int)
theorem addH_nil (H : ByteArray → Int) (by_ : Int) : addH H by_ [] = H := by funext s; simp [addH, nIn_nil]
theorem addH_back (H : ByteArray → Int) (l : List ByteArray) : addH (addH H 1 l) (-1) l = H := by funext s; simp only [addH]; omega
/-- the map at b counts H; n bounds its keys and its counts -/
def CountM (w : World) (b n : Nat) (H : ByteArray → Int) : Prop :=
  (∃ D, w.ownsMap Try.prog 9 (plainElem (H := Unit) Try.prog 3) b n D ∧ IsMap D ∧ ∀ s : ByteArray, s.size ≤ maxLen → D.atKey (litS s) (.lit (.int .i64 0)) = .lit (.int .i64 (H s))) ∧ ∀ s, 0 ≤ H s ∧ H s ≤ n
theorem zeroI (w : World) : (zeroValue 3).run Try.prog w = .ok (.int .i64 0) w := by kernel_rfl
set_option maxRecDepth 100000 in
theorem CountM.look {w : World} {b n : Nat} {H : ByteArray → Int} (h : CountM w b n H) {s : ByteArray} (hs : s.size ≤ maxLen) :
    (Instr.lookup 103 (.map (some b)) (.string s) false).run Try.prog w = .ok (.int .i64 (H s)) w := by
  obtain ⟨⟨D, hm, hD, hat⟩, _⟩ := h
  obtain ⟨c, hrun, hc, _⟩ := hm.lookup_int keyS Try.underlying103 Try.underlying3 (zeroI w) (key_ok hs)
  rw [hat s hs] at hc
  injection hc with hc
  injection hc with _ hc
  rw [hrun, hc]
theorem CountM.mono {w : World} {b n n' : Nat} {H : ByteArray → Int} (h : CountM w b n H) (hn : n ≤ n') : CountM w b n' H := by
  obtain ⟨⟨D, hm, hD, hat⟩, hH⟩ := h
  exact ⟨⟨D, hm.mono hn, hD, hat⟩, fun s => ⟨(hH s).1, by have := (hH s).2; omega⟩⟩
theorem CountM.lt {w : World} {b n : Nat} {H : ByteArray → Int} (h : CountM w b n H) : b < w.heap.size := by obtain ⟨⟨D, hm, _⟩, _⟩ := h; exact hm.lt
theorem CountM.move {w w' : World} {b n : Nat} {H : ByteArray → Int} (h : CountM w b n H) (hb : w'.heap[b]? = w.heap[b]?) : CountM w' b n H := by
  obtain ⟨⟨D, ⟨es, clock, h1, h2⟩, hD, hat⟩, hH⟩ := h
  exact ⟨⟨D, ⟨es, clock, hb.trans h1, h2⟩, hD, hat⟩, hH⟩
/-- no cell lies in the map's block -/
theorem CountM.far {w : World} {b n : Nat} {H : ByteArray → Int} (h : CountM w b n H) {a : Addr} {v : Value} (ha : w.cell? a = some v) : a.block ≠ b := by
  obtain ⟨⟨D, ⟨es, clock, h1, _⟩, _⟩, _⟩ := h
  intro e
  subst e
  simp [World.cell?, h1] at ha
set_option maxRecDepth 100000 in
theorem CountM.made (w : World) : CountM (w.alloc (.map #[] 0)) w.heap.size 0 (fun _ => 0) :=
  ⟨⟨_, World.ownsMap_made w _ _ _, ⟨_, rfl⟩, fun s _ => rfl⟩, fun s => ⟨Int.le_refl _, Int.le_refl _⟩⟩
theorem litS_ne {s t : ByteArray} (h : t ≠ s) : litS s ≠ litS t := fun e => h (litS_inj e).symm
/-- add: the walk, called -/
theorem wf64 {a : Int} (h1 : -1000000000000 ≤ a) (h2 : a ≤ 1000000000000) : (Lit.int .i64 a).wf = true := by
  have e1 : IntKind.i64.min = -9223372036854775808 := by decide
  have e2 : IntKind.i64.max = 9223372036854775807 := by decide
  simp only [Lit.wf, Bool.and_eq_true, decide_eq_true_eq]
  omega
theorem addH_snoc (H : ByteArray → Int) (by_ : Int) (l : List ByteArray) (t s : ByteArray) : addH H by_ (l ++ [t]) s = addH H by_ l s + (if t = s then by_ else 0) := by
  simp only [addH, nIn_snoc]
  by_cases h : t = s
  · rw [if_pos h, if_pos h, show ((nIn l s + 1 : Nat) : Int) = (nIn l s : Int) + 1 by omega, Int.mul_add]; omega
  · rw [if_neg h, if_neg h, Nat.add_zero, Int.add_zero]
theorem count_snoc {w1 : World} {b n k : Nat} {H : ByteArray → Int} {by_ : Int} {l : List ByteArray} {D : DataW Unit} {cc : Int} {hk : k < l.length} (h1 : by_ ≤ 1) (hD : IsMap D) (hat : ∀ s : ByteArray, s.size ≤ maxLen → D.atKey (litS s) (.lit (.int .i64 0)) = .lit (.int .i64 (addH H by_ (l.take k) s))) (hH : ∀ s, 0 ≤ addH H by_ (l.take k) s ∧ addH H by_ (l.take k) s ≤ ((n + k : Nat) : Int))
    (hown : w1.ownsMap Try.prog 9 (plainElem (H := Unit) Try.prog 3) b (n + k + 1) (D.put (litS l[k]) (.lit (.int .i64 (cc + by_))))) (hs : l.take (k + 1) = l.take k ++ [l[k]]) (hcc : cc = addH H by_ (l.take k) l[k]) (hP : ∀ s, 0 ≤ H s + by_ * (nIn l s : Int) ∧ ∀ k, 0 ≤ H s + by_ * (nIn (l.take k) s : Int)) : CountM w1 b (n + (k + 1)) (addH H by_ (l.take (k + 1))) := by
  refine ⟨⟨_, hown, ?_, fun s hsz => ?_⟩, fun s => ⟨(hP s).2 (k + 1), ?_⟩⟩
  · obtain ⟨es, rfl⟩ := hD
    exact ⟨_, rfl⟩
  · rw [hs, addH_snoc]
    by_cases h : l[k] = s
    · subst h
      rw [atKey_put_same hD (keyS.key (key_ok hsz)), if_pos rfl, hcc]
    · rw [atKey_put_other (litS_ne h), hat s hsz, if_neg h, Int.add_zero]
  · rw [hs, addH_snoc]
    have := (hH s).2
    split <;> omega
set_option maxRecDepth 100000 in
set_option maxHeartbeats 2000000 in
theorem add_any (l : List ByteArray) (hl : ∀ s ∈ l, s.size ≤ 1048576) (by_ : Int) (h1 : -1 ≤ by_ ∧ by_ ≤ 1) (b n : Nat) (H : ByteArray → Int) (hn : n + l.length ≤ 1000000000) (hpos : ∀ s, 0 ≤ H s + by_ * (nIn l s : Int) ∧ ∀ k, 0 ≤ H s + by_ * (nIn (l.take k) s : Int)) (A : Option Addr) (c : Nat) (w : World) (hr : Kd.string.C w A l.length l) (hc : l.length ≤ c) (hm : CountM w b n H) : Calls Try.prog 81 #[.map (some b), .int .i64 by_, .slice A l.length c] w fun e w' => e = .returned (.tuple #[]) ∧ CountM w' b (n + l.length) (addH H by_ l) ∧ w.grownBy w' (some b) := by
  have HR := Lib.hid hr; have HL := Lib.hid hl; have HM0 := Lib.hid hm; have HP := Lib.hid hpos
  clear hr hl hm hpos
  go_enter Try.func81, Try.ntmps81
  go_wp2_with fail
  go_loopw [10] (fun s10 wr => ∃ k : Nat, k ≤ l.length ∧ s10 = .int .i64 k ∧ Hid (CountM wr b (n + k) (addH H by_ (l.take k))) ∧ Hid (w.grownBy wr (some b))) (fun s10 _ => l.length - (intOf s10).toNat)
  case atStart => exact ⟨0, Nat.zero_le _, rfl, Lib.hid (by rw [List.take_zero, addH_nil]; exact HM0.out), Lib.hid ⟨rfl, rfl, rfl, Nat.le_refl _, fun _ _ _ => rfl⟩⟩
  case round =>
    obtain ⟨k, hk, rfl, HM, HG⟩ := hrel
    by_cases hlt : k < l.length
    · obtain ⟨ad, rfl, g0'⟩ := elem_str HR.out k hlt
      have g0 := HG.out.cell_far _ (World.block_lt_of_cell? w _ g0') (fun e => HM0.out.far g0' (by injection e)) |>.trans g0'
      have hsz : l[k].size ≤ 1048576 := HL.out _ (List.getElem_mem hlt)
      have hrun := HM.out.look (s := l[k]) (by unfold maxLen; omega)
      have hb1 := (HM.out.2 l[k])
      have hv := (HP.out l[k]).2 (k + 1)
      have HSN := Lib.hid (take_snoc' hlt)
      have hsn2 : H l[k] + by_ * (nIn (l.take (k + 1)) l[k] : Int) = addH H by_ (l.take k) l[k] + by_ := by rw [HSN.out, nIn_snoc, if_pos rfl]; simp only [addH]; rw [show ((nIn (l.take k) l[k] + 1 : Nat) : Int) = (nIn (l.take k) l[k] : Int) + 1 by omega, Int.mul_add]; omega
      rw [hsn2] at hv
      have HSZ := Lib.hid hsz; have HV := Lib.hid hsn2; clear hsn2 hsz g0'
      obtain ⟨cc, hcc⟩ : ∃ cc, cc = addH H by_ (l.take k) l[k] := ⟨_, rfl⟩
      rw [← hcc] at hrun hb1 hv
      have HCC := Lib.hid hcc; clear hcc
      have hw1 : 0 ≤ cc := hb1.1
      have hw2 : cc ≤ 1000000000 := by have := hb1.2; omega
      clear hb1
      have hkey := Lib.hid (key_ok (s := l[k]) (by have := HSZ.out; unfold maxLen; omega))
      obtain ⟨⟨D, hD0, hD1, hD2⟩, hH⟩ := HM.out
      have HD0 := Lib.hid hD0; have HD1 := Lib.hid hD1; have HD2 := Lib.hid hD2; have HH := Lib.hid hH
      clear hD0 hD1 hD2 hH
      go_wp2_with (at_mapUpdate; refine wpList_mapUpdate_own _ rfl _ _ _ 103 rfl 9 3 keyS Try.underlying103 _ b (n + k) D rfl HD0.out (by unfold maxLen; omega) _ (.int .i64 (cc + by_)) _ rfl rfl hkey.out _ [] (plainElem_int Try.underlying3 (wf64 (by omega) (by omega))) ?_)
      intro w1 hown1 hg1
      have HM1 := Lib.hid (show CountM w1 b (n + (k + 1)) (addH H by_ (l.take (k + 1))) from count_snoc h1.2 HD1.out HD2.out HH.out hown1 HSN.out HCC.out HP.out)
      have HG1 := Lib.hid (HG.out.trans hg1)
      clear hrun hown1 hg1 g0 hv hw1 hw2 HD0 HD1 HD2 HH
      go_wp2
      go_roundw
      case rel => exact ⟨k + 1, by omega, by go_num, HM1, HG1⟩
      case measure => simp [intOf]; omega
    · have hkk : k = l.length := by omega
      have hm := HM.out
      rw [hkk, List.take_length] at hm
      have HMK := Lib.hid hm; clear hm hkk
      go_wp2
      go_end0
      exact ⟨rfl, HMK.out, HG.out⟩
set_option maxRecDepth 100000 in
set_option maxHeartbeats 2000000 in
theorem add_deferred (l : List ByteArray) (hl : ∀ s ∈ l, s.size ≤ 1048576) (by_ : Int) (h1 : -1 ≤ by_ ∧ by_ ≤ 1) (b n : Nat) (H : ByteArray → Int) (hn : n + l.length ≤ 1000000000) (hpos : ∀ s, 0 ≤ H s + by_ * (nIn l s : Int) ∧ ∀ k, 0 ≤ H s + by_ * (nIn (l.take k) s : Int)) (A : Option Addr) (c : Nat) (u : FrameMode) (w : World) (hr : Kd.string.C w A l.length l) (hc : l.length ≤ c) (hm : CountM w b n H) : CallsD Try.prog 81 #[.map (some b), .int .i64 by_, .slice A l.length c] u w fun e u' w' => u' = u ∧ (e = .returned (.tuple #[]) ∧ CountM w' b (n + l.length) (addH H by_ l) ∧ w.grownBy w' (some b)) := by
  have HR := Lib.hid hr; have HL := Lib.hid hl; have HM0 := Lib.hid hm; have HP := Lib.hid hpos
  clear hr hl hm hpos
  go_enter_d Try.func81, Try.ntmps81
  go_wp2_with fail
  go_loopw [10] (fun s10 wr => ∃ k : Nat, k ≤ l.length ∧ s10 = .int .i64 k ∧ Hid (CountM wr b (n + k) (addH H by_ (l.take k))) ∧ Hid (w.grownBy wr (some b))) (fun s10 _ => l.length - (intOf s10).toNat)
  case atStart => exact ⟨0, Nat.zero_le _, rfl, Lib.hid (by rw [List.take_zero, addH_nil]; exact HM0.out), Lib.hid ⟨rfl, rfl, rfl, Nat.le_refl _, fun _ _ _ => rfl⟩⟩
  case round =>
    obtain ⟨k, hk, rfl, HM, HG⟩ := hrel
    by_cases hlt : k < l.length
    · obtain ⟨ad, rfl, g0'⟩ := elem_str HR.out k hlt
      have g0 := HG.out.cell_far _ (World.block_lt_of_cell? w _ g0') (fun e => HM0.out.far g0' (by injection e)) |>.trans g0'
      have hsz : l[k].size ≤ 1048576 := HL.out _ (List.getElem_mem hlt)
      have hrun := HM.out.look (s := l[k]) (by unfold maxLen; omega)
      have hb1 := (HM.out.2 l[k])
      have hv := (HP.out l[k]).2 (k + 1)
      have HSN := Lib.hid (take_snoc' hlt)
      have hsn2 : H l[k] + by_ * (nIn (l.take (k + 1)) l[k] : Int) = addH H by_ (l.take k) l[k] + by_ := by rw [HSN.out, nIn_snoc, if_pos rfl]; simp only [addH]; rw [show ((nIn (l.take k) l[k] + 1 : Nat) : Int) = (nIn (l.take k) l[k] : Int) + 1 by omega, Int.mul_add]; omega
      rw [hsn2] at hv
      have HSZ := Lib.hid hsz; have HV := Lib.hid hsn2; clear hsn2 hsz g0'
      obtain ⟨cc, hcc⟩ : ∃ cc, cc = addH H by_ (l.take k) l[k] := ⟨_, rfl⟩
      rw [← hcc] at hrun hb1 hv
      have HCC := Lib.hid hcc; clear hcc
      have hw1 : 0 ≤ cc := hb1.1
      have hw2 : cc ≤ 1000000000 := by have := hb1.2; omega
      clear hb1
      have hkey := Lib.hid (key_ok (s := l[k]) (by have := HSZ.out; unfold maxLen; omega))
      obtain ⟨⟨D, hD0, hD1, hD2⟩, hH⟩ := HM.out
      have HD0 := Lib.hid hD0; have HD1 := Lib.hid hD1; have HD2 := Lib.hid hD2; have HH := Lib.hid hH
      clear hD0 hD1 hD2 hH
      go_wp2_with (at_mapUpdate; refine wpList_mapUpdate_own _ rfl _ _ _ 103 rfl 9 3 keyS Try.underlying103 _ b (n + k) D rfl HD0.out (by unfold maxLen; omega) _ (.int .i64 (cc + by_)) _ rfl rfl hkey.out _ [] (plainElem_int Try.underlying3 (wf64 (by omega) (by omega))) ?_)
      intro w1 hown1 hg1
      have HM1 := Lib.hid (show CountM w1 b (n + (k + 1)) (addH H by_ (l.take (k + 1))) from count_snoc h1.2 HD1.out HD2.out HH.out hown1 HSN.out HCC.out HP.out)
      have HG1 := Lib.hid (HG.out.trans hg1)
      clear hrun hown1 hg1 g0 hv hw1 hw2 HD0 HD1 HD2 HH
      go_wp2
      go_roundw
      case rel => exact ⟨k + 1, by omega, by go_num, HM1, HG1⟩
      case measure => simp [intOf]; omega
    · have hkk : k = l.length := by omega
      have hm := HM.out
      rw [hkk, List.take_length] at hm
      have HMK := Lib.hid hm; clear hm hkk
      go_wp2
      go_end0
      exact ⟨rfl, HMK.out, HG.out⟩
end Go.Proofs.Ytagfphlhahiplaa.C13
namespace Go.Proofs.Ytagfphlhahiplaa.C13
open Go.RowKit Go.Proofs.YtagfphlhahiplaaW.PrintWords Go.Proofs.Ytagfphlhahiplaa.PFnExactFormatCore
set_option linter.unusedVariables false
set_option maxRecDepth 100000 in
theorem wpList_oneS {ops : Array Oper} {rest : List Oper} {dst : Option Tmp} {type : TypeId} {pos : String} {after : Array Edge} {a : Act} {w : World} {Q : Exit → Act → World → Prop} (x : Operand) (s : ByteArray) (hx : a.eval x = .string s)
    (h : ∀ w', Blk w' w.heap.size 9 [.string s] → Below w.heap.size w w' → w'.heap.size = w.heap.size + 1 → wpList Try.prog ops Q rest (a.put dst (.slice (some ⟨w.heap.size, 0, none⟩) 1 1)) w') :
    wpList Try.prog ops Q ({ dst, op := .buildSlice 25 1 #[(0, x)], type, pos, after, guard := none } :: rest) a w := by
  refine wpList_plain rfl fun K hK => ?_
  have h' := h (w.alloc (.cells #[.string s] 9)) (blk_alloc w _ _) ((Below.refl _ _).alloc (Nat.le_refl _) _) (by simp)
  unfold Oper.wp
  rw [execOp_congr (ρ' := fun _ => .string s) _ (by intro cs b h; cases h) (by intro y hy; simp [Op.operands] at hy; rw [hy]; exact hx)]
  clear hx
  have h2 := hK _ _ h'
  clear hK h'
  go_simp
  exact h2
end Go.Proofs.Ytagfphlhahiplaa.C13
namespace Go.Proofs.Ytagfphlhahiplaa.C13
open Go.RowKit Go.Proofs.YtagfphlhahiplaaW.PrintWords Go.Proofs.Ytagfphlhahiplaa.PFnExactFormatCore
set_option linter.unusedVariables false
set_option linter.unusedSimpArgs false
/-- the term's block g, the map's b, the boxes of the two names stand apart from each other and from what the term owns -/
structure FvS (g b b1 b2 : Nat) (F : List Nat) : Prop where
  gF : g ∉ F
  bg : b ≠ g
  bF : b ∉ F
  xb : b1 ≠ b
  xg : b1 ≠ g
  xF : b1 ∉ F
  yb : b2 ≠ b
  yg : b2 ≠ g
  yF : b2 ∉ F
theorem FvS.sub {g b b1 b2 g' : Nat} {F G : List Nat} (h : FvS g b b1 b2 F) (hg : g' ∈ F) (hG : ∀ i ∈ G, i ∈ F) (hn : g' ∉ G) : FvS g' b b1 b2 G :=
  ⟨hn, fun e => h.bF (e ▸ hg), fun hh => h.bF (hG _ hh), h.xb, fun e => h.xF (e ▸ hg), fun hh => h.xF (hG _ hh), h.yb, fun e => h.yF (e ▸ hg), fun hh => h.yF (hG _ hh)⟩
def hidB (H : ByteArray → Int) (fr : ByteArray) : Bool := decide (H fr ≠ 0)
def FvPost (fr tn : ByteArray) (x : CoreT) (g : Nat) (e : TypeId) (pre post : List Value) (F : List Nat) (b n : Nat) (H : ByteArray → Int) (w : World) (en : Ending) (w' : World) : Prop :=
  en = .returned (.tuple #[]) ∧ ∃ cx', OwnC 36 80 w' (fv fr tn (hidB H fr) x) cx' F ∧ Blk w' g e (pre ++ (cx' ++ post)) ∧ CountM w' b (n + 2 * bulk x) H ∧ But (b :: g :: F) w w'
def FvSaid (fr tn : ByteArray) (x : CoreT) : Prop := Shapes x → bulk x ≤ 1048576 → ∀ (w : World) (g off : Nat) (e : TypeId) (pre cx post : List Value) (F : List Nat) (b b1 b2 n : Nat) (H : ByteArray → Int), pre.length = off → Blk w g e (pre ++ (cx ++ post)) → OwnC 36 80 w x cx F → F.Nodup → FvS g b b1 b2 F →
  Blk w b1 9 [.string fr] → Blk w b2 9 [.string tn] → CountM w b n H → n + 2 * bulk x ≤ 100000000 →
  Calls Try.prog 66 #[.pointer (some ⟨g, off, none⟩), .map (some b), .func (.func 67) #[] #[.pointer (some ⟨b1, 0, none⟩), .pointer (some ⟨b2, 0, none⟩)]] w (FvPost fr tn x g e pre post F b n H w)
set_option maxRecDepth 100000 in
set_option maxHeartbeats 4000000 in
theorem fv_var (fr tn : ByteArray) (x : CoreT) (hk : x.kind = 1) : FvSaid fr tn x := by
  intro hsh hbk w g off e pre cx post F b b1 b2 n H hoff hblk hO hnd hS hb1 hb2 hm hn
  obtain ⟨v3, v4, v5, v6, F3, F4, F5, F6, G5, G6, rfl, rfl, hX⟩ := RnX.open hO hnd
  obtain ⟨A3, c3, rfl, l3⟩ := hX.r3.slice; obtain ⟨A4, c4, rfl, l4⟩ := hX.r4.slice
  obtain ⟨_, h5, -⟩ := hX.r5; obtain ⟨_, h6, -⟩ := hX.r6
  obtain ⟨A5, c5, rfl, l5⟩ := h5.slice; obtain ⟨A6, c6, rfl, l6⟩ := h6.slice
  obtain ⟨n1, n2, n3, n4, n5⟩ := bounds hbk
  rw [Shapes_eq] at hsh
  obtain ⟨hs1, hs2, hs3⟩ := hsh
  have HSH := Lib.hid hs1; have HKS := Lib.hid (KShapes_iff.1 hs2); have HLS := Lib.hid (AShapes_iff.1 hs3)
  have HX := Lib.hid hX; have HBK := Lib.hid hbk; have HN := Lib.hid hn; have HM := Lib.hid hm; have HS := Lib.hid hS; have HB1 := Lib.hid hb1; have HB2 := Lib.hid hb2; have HOFF := Lib.hid hoff; have HB := Lib.hid hblk
  clear hX h5 h6 hO hnd hbk hn hm hS hb1 hb2 hs1 hs2 hs3
  obtain ⟨p0, p1, p2, p3, p4, p5, p6⟩ := Blk.seven hblk hoff
  clear hblk hoff
  rw [hk] at p0
  have HK := Lib.hid hk; clear hk
  have hrun := HM.out.look (s := x.name) (by unfold maxLen; omega)
  by_cases hc : H x.name = 0
  · have HC := Lib.hid hc
    rw [hc] at hrun
    clear hc
    go_enter_defers Try.func66, Try.ntmps66
    go_wp2_with fail
    refine (ren1_any g off b1 b2 (pre ++ [.int .i64 x.kind]) ([.bool x.minus, .slice A3 x.limbs.length c3, .slice A4 x.names.length c4, .slice A5 x.kids.length c5, .slice A6 x.alts.length c6] ++ post) e x.name fr tn _ (by rw [List.length_append, HOFF.out]; rfl) (by have h := HB.out; simpa [List.append_assoc] using h) HB1.out HB2.out).mono ?_
    rintro en w3 ⟨rfl, hb3, hbt3⟩
    clear p0 p1 p2 p3 p4 p5 p6 hrun
    have H3 := Lib.hid hb3; have HT3 := Lib.hid hbt3
    clear hb3 hbt3
    go_wp2
    refine ⟨_, results_none rfl _ _ _, rfl, [.int .i64 x.kind, .string (if x.name = fr then tn else x.name), .bool x.minus, .slice A3 x.limbs.length c3, .slice A4 x.names.length c4, .slice A5 x.kids.length c5, .slice A6 x.alts.length c6], ?_, ?_, ?_, ?_⟩
    · have hrn : fv fr tn (hidB H fr) x = ⟨x.kind, if x.name = fr then tn else x.name, x.minus, x.limbs, x.names, x.kids, x.alts⟩ := by
        rw [fv_eq, if_pos HK.out]
        by_cases he : x.name = fr
        · rw [if_pos ⟨decide_eq_false (by rw [← he, HC.out]; simp), he⟩, if_pos he]
        · rw [if_neg (fun h => he h.2), if_neg he]
      rw [hrn]
      exact (HX.out.move (fun i hi => HT3.out.block i (HX.out.lt i hi) (fun h => HS.out.gF (by rw [← List.mem_singleton.1 h]; exact hi)))).own _ _ _
    · simpa [List.append_assoc] using H3.out
    · exact (HM.out.move (HT3.out.block b HM.out.lt (fun h => HS.out.bg (List.mem_singleton.1 h)))).mono (by omega)
    · exact HT3.out.mono (by simp)
  · have HC := Lib.hid hc
    have hc1 : (H x.name == 0) = false := beq_eq_false_iff_ne.2 hc
    go_enter_defers Try.func66, Try.ntmps66
    go_wp2
    refine ⟨_, results_none rfl _ _ _, rfl, [.int .i64 x.kind, .string x.name, .bool x.minus, .slice A3 x.limbs.length c3, .slice A4 x.names.length c4, .slice A5 x.kids.length c5, .slice A6 x.alts.length c6], ?_, HB.out, HM.out.mono (by omega), But.refl _ _⟩
    have hrn : fv fr tn (hidB H fr) x = ⟨x.kind, x.name, x.minus, x.limbs, x.names, x.kids, x.alts⟩ := by
      rw [fv_eq, if_pos HK.out, if_neg (fun h => HC.out (by have := of_decide_eq_false h.1; rw [h.2]; omega))]
    rw [hrn]
    exact HX.out.own _ _ _
theorem hidB_add {H : ByteArray → Int} {fr : ByteArray} {l : List ByteArray} (h : 0 ≤ H fr) : hidB (addH H 1 l) fr = (hidB H fr || decide (fr ∈ l)) := by
  have e : addH H 1 l fr = H fr + (nIn l fr : Int) := by simp [addH]
  unfold hidB
  rw [e]
  have hp := nIn_pos (l := l) (s := fr)
  by_cases h0 : H fr = 0
  · by_cases hm : fr ∈ l
    · have := hp.2 hm
      rw [decide_eq_true (show H fr + (nIn l fr : Int) ≠ 0 by omega), decide_eq_true hm, Bool.or_true]
    · have : ¬ 0 < nIn l fr := fun h => hm (hp.1 h)
      rw [decide_eq_false (show ¬ (H fr + (nIn l fr : Int) ≠ 0) by omega), decide_eq_false hm, decide_eq_false (show ¬ (H fr ≠ 0) by omega)]
      rfl
  · rw [decide_eq_true (show H fr + (nIn l fr : Int) ≠ 0 by omega), decide_eq_true h0, Bool.true_or]
theorem bulks_snoc : ∀ (l : List CoreT) (x : CoreT), bulks (l ++ [x]) = bulks l + (1 + bulk x)
  | [], x => by simp [bulks]
  | c :: r, x => by rw [List.cons_append, bulks, bulks, bulks_snoc r x]; omega
theorem bulks_take (l : List CoreT) (k : Nat) (hk : k < l.length) : bulks (l.take (k + 1)) = bulks (l.take k) + (1 + bulk l[k]) := by rw [take_snoc' hk, bulks_snoc]
theorem bulks_take_le : ∀ (l : List CoreT) (k : Nat), bulks (l.take k) ≤ bulks l
  | [], k => by simp
  | c :: r, 0 => by simp [bulks]
  | c :: r, k + 1 => by rw [List.take_succ_cons, bulks, bulks]; have := bulks_take_le r k; omega
/-- the map alone turns -/
theorem fv_map {g b b1 b2 : Nat} {F : List Nat} {e : TypeId} {cs : List Value} {w wr w' : World} {n' : Nat} {H' : ByteArray → Int} {c1 c2 : List Value} {Sub : World → Prop} (hS : FvS g b b1 b2 F) (hlt : ∀ i ∈ F, i < w.heap.size) (hb : Blk wr g e cs) (hB : But (b :: g :: F) w wr) (h1 : Blk wr b1 9 c1) (h2 : Blk wr b2 9 c2) (hg : wr.grownBy w' (some b)) (hm : CountM w' b n' H')
    (hsub : (∀ i ∈ F, w'.heap[i]? = wr.heap[i]?) → Sub w') : Sub w' ∧ Blk w' g e cs ∧ CountM w' b n' H' ∧ But (b :: g :: F) w w' ∧ Blk w' b1 9 c1 ∧ Blk w' b2 9 c2 :=
  ⟨hsub (fun i hi => hg.block i (Nat.lt_of_lt_of_le (hlt i hi) hB.size) (fun h => hS.bF (by injection h with h; exact h ▸ hi))), hb.grownO hg (fun h => hS.bg (by injection h with h; exact h.symm)), hm, hB.trans ((But.of_grown hg).mono (by simp)), h1.grownO hg (fun h => hS.xb (by injection h)), h2.grownO hg (fun h => hS.yb (by injection h))⟩
/-- one part of the term turns -/
theorem fv_step {g b b1 b2 g' : Nat} {F G : List Nat} {e e' : TypeId} {cs : List Value} {w wr w' : World} {n' : Nat} {H' : ByteArray → Int} {c1 c2 pre' post' cx' : List Value} {y : CoreT} {Sub : CoreT → World → Prop} (hS : FvS g b b1 b2 F) (hlt : ∀ i ∈ F, i < w.heap.size) (hgF : g' ∈ F) (hGF : ∀ i ∈ G, i ∈ F) (hb : Blk wr g e cs) (hB : But (b :: g :: F) w wr) (h1 : Blk wr b1 9 c1) (h2 : Blk wr b2 9 c2)
    (ho : OwnC 36 80 w' y cx' G) (hb' : Blk w' g' e' (pre' ++ (cx' ++ post'))) (hm : CountM w' b n' H') (hB' : But (b :: g' :: G) wr w')
    (hcl : ∀ y cx' w', OwnC 36 80 w' y cx' G → Blk w' g' e' (pre' ++ (cx' ++ post')) → (∀ i ∈ F, i ≠ g' → i ∉ G → w'.heap[i]? = wr.heap[i]?) → Sub y w') : Sub y w' ∧ Blk w' g e cs ∧ CountM w' b n' H' ∧ But (b :: g :: F) w w' ∧ Blk w' b1 9 c1 ∧ Blk w' b2 9 c2 := by
  have out : ∀ i, i ≠ b → i ∉ F → i ∉ b :: g' :: G := fun i h1 h2 h => by
    rcases List.mem_cons.1 h with h | h
    · exact h1 h
    · rcases List.mem_cons.1 h with h | h
      · exact h2 (h ▸ hgF)
      · exact h2 (hGF i h)
  refine ⟨hcl y cx' w' ho hb' (fun i hi h1 h2 => hB'.block i (Nat.lt_of_lt_of_le (hlt i hi) hB.size) (fun h => ?_)), hB'.blk hb (out g (Ne.symm hS.bg) hS.gF), hm, hB.trans (hB'.mono (fun k hk => ?_)), hB'.blk h1 (out b1 hS.xb hS.xF), hB'.blk h2 (out b2 hS.yb hS.yF)⟩
  · rcases List.mem_cons.1 h with h | h
    · exact hS.bF (h ▸ hi)
    · rcases List.mem_cons.1 h with h | h
      · exact h1 h
      · exact h2 h
  · rcases List.mem_cons.1 hk with h | h
    · subst h; simp
    · rcases List.mem_cons.1 h with h | h
      · subst h; exact List.mem_cons_of_mem _ (List.mem_cons_of_mem _ hgF)
      · exact List.mem_cons_of_mem _ (List.mem_cons_of_mem _ (hGF k h))
set_option maxRecDepth 100000 in
set_option maxHeartbeats 4000000 in
theorem fv_bind6 (fr tn : ByteArray) (x : CoreT) (hk : x.kind = 6) (ihk : ∀ y ∈ x.kids, FvSaid fr tn y) : FvSaid fr tn x := by
  intro hsh hbk w g off e pre cx post F b b1 b2 n H hoff hblk hO hnd hS hb1 hb2 hm hn
  obtain ⟨v3, v4, v5, v6, F3, F4, F5, F6, G5, G6, rfl, rfl, hX⟩ := RnX.open hO hnd
  obtain ⟨A3, c3, rfl, l3⟩ := hX.r3.slice; obtain ⟨A4, c4, rfl, l4⟩ := hX.r4.slice
  obtain ⟨_, h5, -⟩ := hX.r5; obtain ⟨_, h6, -⟩ := hX.r6
  obtain ⟨A5, c5, rfl, l5⟩ := h5.slice; obtain ⟨A6, c6, rfl, l6⟩ := h6.slice
  obtain ⟨n1, n2, n3, n4, n5⟩ := bounds hbk
  rw [Shapes_eq] at hsh
  obtain ⟨hs1, hs2, hs3⟩ := hsh
  have HSH := Lib.hid hs1; have HKS := Lib.hid (KShapes_iff.1 hs2); have HLS := Lib.hid (AShapes_iff.1 hs3)
  have HX := Lib.hid hX; have HBK := Lib.hid hbk; have HN := Lib.hid hn; have HM := Lib.hid hm; have HS := Lib.hid hS; have HB1 := Lib.hid hb1; have HB2 := Lib.hid hb2; have HOFF := Lib.hid hoff; have HB := Lib.hid hblk
  clear hX h5 h6 hO hnd hbk hn hm hS hb1 hb2 hs1 hs2 hs3
  obtain ⟨p0, p1, p2, p3, p4, p5, p6⟩ := Blk.seven hblk hoff
  clear hblk hoff
  rw [hk] at p0
  have HK := Lib.hid hk
  have IHK := Lib.hid ihk; clear ihk
  have HNM := Lib.hid (show ∀ s ∈ x.names, s.size ≤ 1048576 from fun s hs => by have h := HBK.out; rw [bulk_eq] at h; have := mem_strsB hs; omega)
  have HRN := Lib.hid (show ∀ wr, RnX x (.slice A3 x.limbs.length c3) (.slice A4 x.names.length c4) (.slice A5 x.kids.length c5) (.slice A6 x.alts.length c6) F3 F4 F5 F6 G5 G6 x.kids.length x.alts.length x.kids x.alts wr ∨ (∃ ks ls, RnX x (.slice A3 x.limbs.length c3) (.slice A4 x.names.length c4) (.slice A5 x.kids.length c5) (.slice A6 x.alts.length c6) F3 F4 F5 F6 G5 G6 x.kids.length x.alts.length ks ls wr) → Kd.string.C wr A4 x.names.length x.names from fun wr h => by
    have h4 : Row wr 9 (.slice A4 x.names.length c4) x.names.length (encS x.names) F4 := by
      rcases h with h | ⟨_, _, h⟩
      · exact h.r4
      · exact h.r4
    obtain ⟨A, c, e, _, hC⟩ := h4.readsS
    injection e with e1 e2 e3
    subst e1
    exact hC)
  rw [hk] at HB
  clear hk
  go_enter_defers Try.func66, Try.ntmps66
  go_wp2_with fail
  refine (add_any x.names HNM.out 1 (by omega) b n H (by have := HN.out; rw [bulk_eq] at this; have := len_strsB x.names; omega) (fun s => by have h0 := (HM.out.2 s).1; exact ⟨by omega, fun k => by omega⟩) A4 c4 _ (HRN.out _ (.inl HX.out)) l4 HM.out).mono ?_
  rintro en w1 ⟨rfl, hm1, hg1⟩
  have HI0 := Lib.hid (show RnX x (.slice A3 x.limbs.length c3) (.slice A4 x.names.length c4) (.slice A5 x.kids.length c5) (.slice A6 x.alts.length c6) F3 F4 F5 F6 G5 G6 x.kids.length x.alts.length (mix (x.kids.map (fv fr tn (hidB (addH H 1 x.names) fr))) x.kids 0) (mix x.alts x.alts 0) w1 ∧ Blk w1 g e (pre ++ ([.int .i64 6, .string x.name, .bool x.minus, .slice A3 x.limbs.length c3, .slice A4 x.names.length c4, .slice A5 x.kids.length c5, .slice A6 x.alts.length c6] ++ post)) ∧ CountM w1 b (n + x.names.length + 2 * bulks (x.kids.take 0)) (addH H 1 x.names) ∧ But (b :: g :: (F3 ++ (F4 ++ ((F5 ++ G5) ++ (F6 ++ G6))))) w w1 ∧ Blk w1 b1 9 [.string fr] ∧ Blk w1 b2 9 [.string tn] from by
    rw [mix_zero, mix_zero]
    exact fv_map (Sub := RnX x (.slice A3 x.limbs.length c3) (.slice A4 x.names.length c4) (.slice A5 x.kids.length c5) (.slice A6 x.alts.length c6) F3 F4 F5 F6 G5 G6 x.kids.length x.alts.length x.kids x.alts) HS.out HX.out.lt HB.out (But.refl _ _) HB1.out HB2.out hg1 (hm1.mono (by omega)) (fun hm => HX.out.move hm))
  clear p0 p1 p2 p3 p4 p5 p6 hm1 hg1
  obtain ⟨p0, p1, p2, p3, p4, p5, p6⟩ := Blk.seven HI0.out.2.1 HOFF.out
  go_wp2_with fail
  clear p0 p1 p2 p3 p4 p5 p6
  go_loopw [131] (fun s wr => ∃ k : Nat, k ≤ x.kids.length ∧ s = .int .i64 k ∧ Hid (RnX x (.slice A3 x.limbs.length c3) (.slice A4 x.names.length c4) (.slice A5 x.kids.length c5) (.slice A6 x.alts.length c6) F3 F4 F5 F6 G5 G6 x.kids.length x.alts.length (mix (x.kids.map (fv fr tn (hidB (addH H 1 x.names) fr))) x.kids k) (mix x.alts x.alts 0) wr ∧ Blk wr g e (pre ++ ([.int .i64 6, .string x.name, .bool x.minus, .slice A3 x.limbs.length c3, .slice A4 x.names.length c4, .slice A5 x.kids.length c5, .slice A6 x.alts.length c6] ++ post)) ∧ CountM wr b (n + x.names.length + 2 * bulks (x.kids.take k)) (addH H 1 x.names) ∧ But (b :: g :: (F3 ++ (F4 ++ ((F5 ++ G5) ++ (F6 ++ G6))))) w wr ∧ Blk wr b1 9 [.string fr] ∧ Blk wr b2 9 [.string tn])) (fun s _ => x.kids.length - (intOf s).toNat)
  case atStart => exact ⟨0, Nat.zero_le _, rfl, HI0⟩
  clear HI0
  case round =>
    obtain ⟨k, hk, rfl, HI⟩ := hrel
    obtain ⟨p0, p1, p2, p3, p4, p5, p6⟩ := Blk.seven HI.out.2.1 HOFF.out
    by_cases hlt : k < x.kids.length
    · obtain ⟨gk, cap, c1, cx, pk, Gx, hv5, hcap, hl, hblk, hox, hnx, hsub, hgF, hgx, hcl⟩ := HI.out.1.kid (k := k) (by rw [mix_len (by simp)]; exact hlt)
      simp only [Value.slice.injEq, true_and] at hv5
      obtain ⟨rfl, rfl⟩ := hv5
      rw [mix_get (by simp) hlt] at hox
      have HBK7 := Lib.hid hblk; have HOX := Lib.hid hox; have HNX := Lib.hid (show Gx.Nodup ∧ gk ∉ Gx from ⟨hnx, hgx⟩); have HSUB := Lib.hid hsub; have HGF := Lib.hid hgF; have HCL := Lib.hid hcl; have HL := Lib.hid hl
      clear hblk hox hnx hgx hsub hgF hcl hl
      have qk0 : (0 : Int) ≤ (k : Int) := by omega
      have qk1 : (k : Int) < x.kids.length := by omega
      have HLE := Lib.hid (show bulks (x.kids.take (k + 1)) = bulks (x.kids.take k) + (1 + bulk x.kids[k]) ∧ bulks (x.kids.take (k + 1)) ≤ bulks x.kids from ⟨bulks_take _ _ hlt, bulks_take_le _ _⟩)
      go_wp2_with fail
      refine (IHK.out _ (List.getElem_mem hlt) (HKS.out _ (List.getElem_mem hlt)) (by have := mem_bulks (List.getElem_mem hlt); have := HBK.out; rw [bulk_eq] at this; omega) _ gk (k * 7) _ c1 cx pk Gx b b1 b2 (n + x.names.length + 2 * bulks (x.kids.take k)) (addH H 1 x.names) HL.out HBK7.out HOX.out HNX.out.1 (HS.out.sub HGF.out HSUB.out HNX.out.2) HI.out.2.2.2.2.1 HI.out.2.2.2.2.2 HI.out.2.2.1 (by have := HN.out; have := HLE.out; rw [bulk_eq] at *; have := len_strsB x.names; omega)).mono ?_
      rintro en w3 ⟨rfl, cx', ho3, hb3, hm3, hbt3⟩
      have HI3 := Lib.hid (fv_step HS.out HX.out.lt HGF.out HSUB.out HI.out.2.1 HI.out.2.2.2.1 HI.out.2.2.2.2.1 HI.out.2.2.2.2.2 ho3 hb3 hm3 hbt3 HCL.out)
      clear ho3 hb3 hm3 hbt3
      clear p0 p1 p2 p3 p4 p5 p6
      go_wp2
      go_roundw
      case rel => exact ⟨k + 1, by omega, by go_num, Lib.hid (by
        have h := HI3.out
        rw [mix_set (by simp) hlt (by simp)] at h
        exact ⟨h.1, h.2.1, h.2.2.1.mono (by have := HLE.out; omega), h.2.2.2⟩)⟩
      case measure => simp [intOf]; omega
    · have hkk : k = x.kids.length := by omega
      have HI1 := Lib.hid (show RnX x (.slice A3 x.limbs.length c3) (.slice A4 x.names.length c4) (.slice A5 x.kids.length c5) (.slice A6 x.alts.length c6) F3 F4 F5 F6 G5 G6 x.kids.length x.alts.length (mix (x.kids.map (fv fr tn (hidB (addH H 1 x.names) fr))) x.kids x.kids.length) (mix x.alts x.alts 0) wr ∧ Blk wr g e (pre ++ ([.int .i64 6, .string x.name, .bool x.minus, .slice A3 x.limbs.length c3, .slice A4 x.names.length c4, .slice A5 x.kids.length c5, .slice A6 x.alts.length c6] ++ post)) ∧ CountM wr b (n + x.names.length + 2 * bulks x.kids) (addH H 1 x.names) ∧ But (b :: g :: (F3 ++ (F4 ++ ((F5 ++ G5) ++ (F6 ++ G6))))) w wr ∧ Blk wr b1 9 [.string fr] ∧ Blk wr b2 9 [.string tn] from by have h := HI.out; rw [hkk, List.take_length] at h; exact h)
      clear HI hkk
      go_wp2_with fail
      clear p0 p1 p2 p3 p4 p5 p6
      refine leaves_cons (f := 81) (args := #[.map (some b), .int .i64 (-1), .slice A4 x.names.length c4]) (by simp) (by simp [go_sem]) ?_
      refine (add_deferred x.names HNM.out (-1) (by omega) b _ (addH H 1 x.names) (by have := HN.out; rw [bulk_eq] at this; have := len_strsB x.names; omega) (fun s => by have h0 := (HM.out.2 s).1; have h1 := nIn_take x.names s; simp only [addH]; exact ⟨by omega, fun k => by have := h1 k; omega⟩) A4 c4 .returning wr (HRN.out _ (.inr ⟨_, _, HI1.out.1⟩)) l4 HI1.out.2.2.1).mono ?_
      rintro en u' w3 ⟨rfl, rfl, hm3, hg3⟩
      have h3 := fv_map (Sub := RnX x (.slice A3 x.limbs.length c3) (.slice A4 x.names.length c4) (.slice A5 x.kids.length c5) (.slice A6 x.alts.length c6) F3 F4 F5 F6 G5 G6 x.kids.length x.alts.length (x.kids.map (fv fr tn (hidB (addH H 1 x.names) fr))) x.alts) HS.out HX.out.lt HI1.out.2.1 HI1.out.2.2.2.1 HI1.out.2.2.2.2.1 HI1.out.2.2.2.2.2 hg3 hm3 (fun hm => by have h := HI1.out.1.move hm; rw [mix_all (by simp), mix_zero] at h; exact h)
      rw [addH_back] at h3
      refine ⟨_, results_none rfl _ _ _, rfl, [.int .i64 6, .string x.name, .bool x.minus, .slice A3 x.limbs.length c3, .slice A4 x.names.length c4, .slice A5 x.kids.length c5, .slice A6 x.alts.length c6], ?_, h3.2.1, h3.2.2.1.mono (by rw [bulk_eq]; have := len_strsB x.names; omega), h3.2.2.2.1⟩
      have hrn : fv fr tn (hidB H fr) x = ⟨x.kind, x.name, x.minus, x.limbs, x.names, (x.kids.map (fv fr tn (hidB (addH H 1 x.names) fr))), x.alts⟩ := by
        have hk := HK.out
        rw [fv_eq, if_neg (by omega), if_pos (by omega), hidB_add (HM.out.2 fr).1, fvKs_map]
      rw [hrn]
      exact own_kind2 (h3.1.own _ _ _) HK.out
set_option maxRecDepth 100000 in
set_option maxHeartbeats 4000000 in
theorem fv_bind7 (fr tn : ByteArray) (x : CoreT) (hk : x.kind = 7) (ihk : ∀ y ∈ x.kids, FvSaid fr tn y) : FvSaid fr tn x := by
  intro hsh hbk w g off e pre cx post F b b1 b2 n H hoff hblk hO hnd hS hb1 hb2 hm hn
  obtain ⟨v3, v4, v5, v6, F3, F4, F5, F6, G5, G6, rfl, rfl, hX⟩ := RnX.open hO hnd
  obtain ⟨A3, c3, rfl, l3⟩ := hX.r3.slice; obtain ⟨A4, c4, rfl, l4⟩ := hX.r4.slice
  obtain ⟨_, h5, -⟩ := hX.r5; obtain ⟨_, h6, -⟩ := hX.r6
  obtain ⟨A5, c5, rfl, l5⟩ := h5.slice; obtain ⟨A6, c6, rfl, l6⟩ := h6.slice
  obtain ⟨n1, n2, n3, n4, n5⟩ := bounds hbk
  rw [Shapes_eq] at hsh
  obtain ⟨hs1, hs2, hs3⟩ := hsh
  have HSH := Lib.hid hs1; have HKS := Lib.hid (KShapes_iff.1 hs2); have HLS := Lib.hid (AShapes_iff.1 hs3)
  have HX := Lib.hid hX; have HBK := Lib.hid hbk; have HN := Lib.hid hn; have HM := Lib.hid hm; have HS := Lib.hid hS; have HB1 := Lib.hid hb1; have HB2 := Lib.hid hb2; have HOFF := Lib.hid hoff; have HB := Lib.hid hblk
  clear hX h5 h6 hO hnd hbk hn hm hS hb1 hb2 hs1 hs2 hs3
  obtain ⟨p0, p1, p2, p3, p4, p5, p6⟩ := Blk.seven hblk hoff
  clear hblk hoff
  rw [hk] at p0
  have HK := Lib.hid hk
  have IHK := Lib.hid ihk; clear ihk
  have HNM := Lib.hid (show ∀ s ∈ x.names, s.size ≤ 1048576 from fun s hs => by have h := HBK.out; rw [bulk_eq] at h; have := mem_strsB hs; omega)
  have HRN := Lib.hid (show ∀ wr, RnX x (.slice A3 x.limbs.length c3) (.slice A4 x.names.length c4) (.slice A5 x.kids.length c5) (.slice A6 x.alts.length c6) F3 F4 F5 F6 G5 G6 x.kids.length x.alts.length x.kids x.alts wr ∨ (∃ ks ls, RnX x (.slice A3 x.limbs.length c3) (.slice A4 x.names.length c4) (.slice A5 x.kids.length c5) (.slice A6 x.alts.length c6) F3 F4 F5 F6 G5 G6 x.kids.length x.alts.length ks ls wr) → Kd.string.C wr A4 x.names.length x.names from fun wr h => by
    have h4 : Row wr 9 (.slice A4 x.names.length c4) x.names.length (encS x.names) F4 := by
      rcases h with h | ⟨_, _, h⟩
      · exact h.r4
      · exact h.r4
    obtain ⟨A, c, e, _, hC⟩ := h4.readsS
    injection e with e1 e2 e3
    subst e1
    exact hC)
  rw [hk] at HB
  clear hk
  go_enter_defers Try.func66, Try.ntmps66
  go_wp2_with fail
  refine (add_any x.names HNM.out 1 (by omega) b n H (by have := HN.out; rw [bulk_eq] at this; have := len_strsB x.names; omega) (fun s => by have h0 := (HM.out.2 s).1; exact ⟨by omega, fun k => by omega⟩) A4 c4 _ (HRN.out _ (.inl HX.out)) l4 HM.out).mono ?_
  rintro en w1 ⟨rfl, hm1, hg1⟩
  have HI0 := Lib.hid (show RnX x (.slice A3 x.limbs.length c3) (.slice A4 x.names.length c4) (.slice A5 x.kids.length c5) (.slice A6 x.alts.length c6) F3 F4 F5 F6 G5 G6 x.kids.length x.alts.length (mix (x.kids.map (fv fr tn (hidB (addH H 1 x.names) fr))) x.kids 0) (mix x.alts x.alts 0) w1 ∧ Blk w1 g e (pre ++ ([.int .i64 7, .string x.name, .bool x.minus, .slice A3 x.limbs.length c3, .slice A4 x.names.length c4, .slice A5 x.kids.length c5, .slice A6 x.alts.length c6] ++ post)) ∧ CountM w1 b (n + x.names.length + 2 * bulks (x.kids.take 0)) (addH H 1 x.names) ∧ But (b :: g :: (F3 ++ (F4 ++ ((F5 ++ G5) ++ (F6 ++ G6))))) w w1 ∧ Blk w1 b1 9 [.string fr] ∧ Blk w1 b2 9 [.string tn] from by
    rw [mix_zero, mix_zero]
    exact fv_map (Sub := RnX x (.slice A3 x.limbs.length c3) (.slice A4 x.names.length c4) (.slice A5 x.kids.length c5) (.slice A6 x.alts.length c6) F3 F4 F5 F6 G5 G6 x.kids.length x.alts.length x.kids x.alts) HS.out HX.out.lt HB.out (But.refl _ _) HB1.out HB2.out hg1 (hm1.mono (by omega)) (fun hm => HX.out.move hm))
  clear p0 p1 p2 p3 p4 p5 p6 hm1 hg1
  obtain ⟨p0, p1, p2, p3, p4, p5, p6⟩ := Blk.seven HI0.out.2.1 HOFF.out
  go_wp2_with fail
  clear p0 p1 p2 p3 p4 p5 p6
  go_loopw [131] (fun s wr => ∃ k : Nat, k ≤ x.kids.length ∧ s = .int .i64 k ∧ Hid (RnX x (.slice A3 x.limbs.length c3) (.slice A4 x.names.length c4) (.slice A5 x.kids.length c5) (.slice A6 x.alts.length c6) F3 F4 F5 F6 G5 G6 x.kids.length x.alts.length (mix (x.kids.map (fv fr tn (hidB (addH H 1 x.names) fr))) x.kids k) (mix x.alts x.alts 0) wr ∧ Blk wr g e (pre ++ ([.int .i64 7, .string x.name, .bool x.minus, .slice A3 x.limbs.length c3, .slice A4 x.names.length c4, .slice A5 x.kids.length c5, .slice A6 x.alts.length c6] ++ post)) ∧ CountM wr b (n + x.names.length + 2 * bulks (x.kids.take k)) (addH H 1 x.names) ∧ But (b :: g :: (F3 ++ (F4 ++ ((F5 ++ G5) ++ (F6 ++ G6))))) w wr ∧ Blk wr b1 9 [.string fr] ∧ Blk wr b2 9 [.string tn])) (fun s _ => x.kids.length - (intOf s).toNat)
  case atStart => exact ⟨0, Nat.zero_le _, rfl, HI0⟩
  clear HI0
  case round =>
    obtain ⟨k, hk, rfl, HI⟩ := hrel
    obtain ⟨p0, p1, p2, p3, p4, p5, p6⟩ := Blk.seven HI.out.2.1 HOFF.out
    by_cases hlt : k < x.kids.length
    · obtain ⟨gk, cap, c1, cx, pk, Gx, hv5, hcap, hl, hblk, hox, hnx, hsub, hgF, hgx, hcl⟩ := HI.out.1.kid (k := k) (by rw [mix_len (by simp)]; exact hlt)
      simp only [Value.slice.injEq, true_and] at hv5
      obtain ⟨rfl, rfl⟩ := hv5
      rw [mix_get (by simp) hlt] at hox
      have HBK7 := Lib.hid hblk; have HOX := Lib.hid hox; have HNX := Lib.hid (show Gx.Nodup ∧ gk ∉ Gx from ⟨hnx, hgx⟩); have HSUB := Lib.hid hsub; have HGF := Lib.hid hgF; have HCL := Lib.hid hcl; have HL := Lib.hid hl
      clear hblk hox hnx hgx hsub hgF hcl hl
      have qk0 : (0 : Int) ≤ (k : Int) := by omega
      have qk1 : (k : Int) < x.kids.length := by omega
      have HLE := Lib.hid (show bulks (x.kids.take (k + 1)) = bulks (x.kids.take k) + (1 + bulk x.kids[k]) ∧ bulks (x.kids.take (k + 1)) ≤ bulks x.kids from ⟨bulks_take _ _ hlt, bulks_take_le _ _⟩)
      go_wp2_with fail
      refine (IHK.out _ (List.getElem_mem hlt) (HKS.out _ (List.getElem_mem hlt)) (by have := mem_bulks (List.getElem_mem hlt); have := HBK.out; rw [bulk_eq] at this; omega) _ gk (k * 7) _ c1 cx pk Gx b b1 b2 (n + x.names.length + 2 * bulks (x.kids.take k)) (addH H 1 x.names) HL.out HBK7.out HOX.out HNX.out.1 (HS.out.sub HGF.out HSUB.out HNX.out.2) HI.out.2.2.2.2.1 HI.out.2.2.2.2.2 HI.out.2.2.1 (by have := HN.out; have := HLE.out; rw [bulk_eq] at *; have := len_strsB x.names; omega)).mono ?_
      rintro en w3 ⟨rfl, cx', ho3, hb3, hm3, hbt3⟩
      have HI3 := Lib.hid (fv_step HS.out HX.out.lt HGF.out HSUB.out HI.out.2.1 HI.out.2.2.2.1 HI.out.2.2.2.2.1 HI.out.2.2.2.2.2 ho3 hb3 hm3 hbt3 HCL.out)
      clear ho3 hb3 hm3 hbt3
      clear p0 p1 p2 p3 p4 p5 p6
      go_wp2
      go_roundw
      case rel => exact ⟨k + 1, by omega, by go_num, Lib.hid (by
        have h := HI3.out
        rw [mix_set (by simp) hlt (by simp)] at h
        exact ⟨h.1, h.2.1, h.2.2.1.mono (by have := HLE.out; omega), h.2.2.2⟩)⟩
      case measure => simp [intOf]; omega
    · have hkk : k = x.kids.length := by omega
      have HI1 := Lib.hid (show RnX x (.slice A3 x.limbs.length c3) (.slice A4 x.names.length c4) (.slice A5 x.kids.length c5) (.slice A6 x.alts.length c6) F3 F4 F5 F6 G5 G6 x.kids.length x.alts.length (mix (x.kids.map (fv fr tn (hidB (addH H 1 x.names) fr))) x.kids x.kids.length) (mix x.alts x.alts 0) wr ∧ Blk wr g e (pre ++ ([.int .i64 7, .string x.name, .bool x.minus, .slice A3 x.limbs.length c3, .slice A4 x.names.length c4, .slice A5 x.kids.length c5, .slice A6 x.alts.length c6] ++ post)) ∧ CountM wr b (n + x.names.length + 2 * bulks x.kids) (addH H 1 x.names) ∧ But (b :: g :: (F3 ++ (F4 ++ ((F5 ++ G5) ++ (F6 ++ G6))))) w wr ∧ Blk wr b1 9 [.string fr] ∧ Blk wr b2 9 [.string tn] from by have h := HI.out; rw [hkk, List.take_length] at h; exact h)
      clear HI hkk
      go_wp2_with fail
      clear p0 p1 p2 p3 p4 p5 p6
      refine leaves_cons (f := 81) (args := #[.map (some b), .int .i64 (-1), .slice A4 x.names.length c4]) (by simp) (by simp [go_sem]) ?_
      refine (add_deferred x.names HNM.out (-1) (by omega) b _ (addH H 1 x.names) (by have := HN.out; rw [bulk_eq] at this; have := len_strsB x.names; omega) (fun s => by have h0 := (HM.out.2 s).1; have h1 := nIn_take x.names s; simp only [addH]; exact ⟨by omega, fun k => by have := h1 k; omega⟩) A4 c4 .returning wr (HRN.out _ (.inr ⟨_, _, HI1.out.1⟩)) l4 HI1.out.2.2.1).mono ?_
      rintro en u' w3 ⟨rfl, rfl, hm3, hg3⟩
      have h3 := fv_map (Sub := RnX x (.slice A3 x.limbs.length c3) (.slice A4 x.names.length c4) (.slice A5 x.kids.length c5) (.slice A6 x.alts.length c6) F3 F4 F5 F6 G5 G6 x.kids.length x.alts.length (x.kids.map (fv fr tn (hidB (addH H 1 x.names) fr))) x.alts) HS.out HX.out.lt HI1.out.2.1 HI1.out.2.2.2.1 HI1.out.2.2.2.2.1 HI1.out.2.2.2.2.2 hg3 hm3 (fun hm => by have h := HI1.out.1.move hm; rw [mix_all (by simp), mix_zero] at h; exact h)
      rw [addH_back] at h3
      refine ⟨_, results_none rfl _ _ _, rfl, [.int .i64 7, .string x.name, .bool x.minus, .slice A3 x.limbs.length c3, .slice A4 x.names.length c4, .slice A5 x.kids.length c5, .slice A6 x.alts.length c6], ?_, h3.2.1, h3.2.2.1.mono (by rw [bulk_eq]; have := len_strsB x.names; omega), h3.2.2.2.1⟩
      have hrn : fv fr tn (hidB H fr) x = ⟨x.kind, x.name, x.minus, x.limbs, x.names, (x.kids.map (fv fr tn (hidB (addH H 1 x.names) fr))), x.alts⟩ := by
        have hk := HK.out
        rw [fv_eq, if_neg (by omega), if_pos (by omega), hidB_add (HM.out.2 fr).1, fvKs_map]
      rw [hrn]
      exact own_kind2 (h3.1.own _ _ _) HK.out
set_option maxRecDepth 100000 in
set_option maxHeartbeats 4000000 in
theorem fv_other (fr tn : ByteArray) (x : CoreT) (hk1 : x.kind ≠ 1) (hk6 : x.kind ≠ 6) (hk7 : x.kind ≠ 7) (hk8 : x.kind ≠ 8) (ihk : ∀ y ∈ x.kids, FvSaid fr tn y) : FvSaid fr tn x := by
  intro hsh hbk w g off e pre cx post F b b1 b2 n H hoff hblk hO hnd hS hb1 hb2 hm hn
  obtain ⟨v3, v4, v5, v6, F3, F4, F5, F6, G5, G6, rfl, rfl, hX⟩ := RnX.open hO hnd
  obtain ⟨A3, c3, rfl, l3⟩ := hX.r3.slice; obtain ⟨A4, c4, rfl, l4⟩ := hX.r4.slice
  obtain ⟨_, h5, -⟩ := hX.r5; obtain ⟨_, h6, -⟩ := hX.r6
  obtain ⟨A5, c5, rfl, l5⟩ := h5.slice; obtain ⟨A6, c6, rfl, l6⟩ := h6.slice
  obtain ⟨n1, n2, n3, n4, n5⟩ := bounds hbk
  rw [Shapes_eq] at hsh
  obtain ⟨hs1, hs2, hs3⟩ := hsh
  have HSH := Lib.hid hs1; have HKS := Lib.hid (KShapes_iff.1 hs2); have HLS := Lib.hid (AShapes_iff.1 hs3)
  have HX := Lib.hid hX; have HBK := Lib.hid hbk; have HN := Lib.hid hn; have HM := Lib.hid hm; have HS := Lib.hid hS; have HB1 := Lib.hid hb1; have HB2 := Lib.hid hb2; have HOFF := Lib.hid hoff; have HB := Lib.hid hblk
  clear hX h5 h6 hO hnd hbk hn hm hS hb1 hb2 hs1 hs2 hs3
  obtain ⟨p0, p1, p2, p3, p4, p5, p6⟩ := Blk.seven hblk hoff
  clear hblk hoff
  have HK := Lib.hid (show x.kind ≠ 1 ∧ x.kind ≠ 6 ∧ x.kind ≠ 7 ∧ x.kind ≠ 8 from ⟨hk1, hk6, hk7, hk8⟩)
  have e1 : (x.kind == 1) = false := beq_eq_false_iff_ne.2 hk1
  have e6 : (x.kind == 6) = false := beq_eq_false_iff_ne.2 hk6
  have e7 : (x.kind == 7) = false := beq_eq_false_iff_ne.2 hk7
  have e8 : (x.kind == 8) = false := beq_eq_false_iff_ne.2 hk8
  have IHK := Lib.hid ihk
  clear hk1 hk6 hk7 hk8 ihk
  go_enter_defers Try.func66, Try.ntmps66
  have HI0 := Lib.hid (show RnX x (.slice A3 x.limbs.length c3) (.slice A4 x.names.length c4) (.slice A5 x.kids.length c5) (.slice A6 x.alts.length c6) F3 F4 F5 F6 G5 G6 x.kids.length x.alts.length (mix (x.kids.map (fv fr tn (hidB H fr))) x.kids 0) (mix x.alts x.alts 0) w ∧ Blk w g e (pre ++ ([.int .i64 x.kind, .string x.name, .bool x.minus, .slice A3 x.limbs.length c3, .slice A4 x.names.length c4, .slice A5 x.kids.length c5, .slice A6 x.alts.length c6] ++ post)) ∧ CountM w b (n + 2 * bulks (x.kids.take 0)) (H) ∧ But (b :: g :: (F3 ++ (F4 ++ ((F5 ++ G5) ++ (F6 ++ G6))))) w w ∧ Blk w b1 9 [.string fr] ∧ Blk w b2 9 [.string tn] from by
    rw [mix_zero, mix_zero]
    exact ⟨HX.out, HB.out, HM.out.mono (by omega), But.refl _ _, HB1.out, HB2.out⟩)
  go_wp2_with fail
  clear p0 p1 p2 p3 p4 p5 p6
  go_loopw [131] (fun s wr => ∃ k : Nat, k ≤ x.kids.length ∧ s = .int .i64 k ∧ Hid (RnX x (.slice A3 x.limbs.length c3) (.slice A4 x.names.length c4) (.slice A5 x.kids.length c5) (.slice A6 x.alts.length c6) F3 F4 F5 F6 G5 G6 x.kids.length x.alts.length (mix (x.kids.map (fv fr tn (hidB H fr))) x.kids k) (mix x.alts x.alts 0) wr ∧ Blk wr g e (pre ++ ([.int .i64 x.kind, .string x.name, .bool x.minus, .slice A3 x.limbs.length c3, .slice A4 x.names.length c4, .slice A5 x.kids.length c5, .slice A6 x.alts.length c6] ++ post)) ∧ CountM wr b (n + 2 * bulks (x.kids.take k)) (H) ∧ But (b :: g :: (F3 ++ (F4 ++ ((F5 ++ G5) ++ (F6 ++ G6))))) w wr ∧ Blk wr b1 9 [.string fr] ∧ Blk wr b2 9 [.string tn])) (fun s _ => x.kids.length - (intOf s).toNat)
  case atStart => exact ⟨0, Nat.zero_le _, rfl, HI0⟩
  clear HI0
  case round =>
    obtain ⟨k, hk, rfl, HI⟩ := hrel
    obtain ⟨p0, p1, p2, p3, p4, p5, p6⟩ := Blk.seven HI.out.2.1 HOFF.out
    by_cases hlt : k < x.kids.length
    · obtain ⟨gk, cap, c1, cx, pk, Gx, hv5, hcap, hl, hblk, hox, hnx, hsub, hgF, hgx, hcl⟩ := HI.out.1.kid (k := k) (by rw [mix_len (by simp)]; exact hlt)
      simp only [Value.slice.injEq, true_and] at hv5
      obtain ⟨rfl, rfl⟩ := hv5
      rw [mix_get (by simp) hlt] at hox
      have HBK7 := Lib.hid hblk; have HOX := Lib.hid hox; have HNX := Lib.hid (show Gx.Nodup ∧ gk ∉ Gx from ⟨hnx, hgx⟩); have HSUB := Lib.hid hsub; have HGF := Lib.hid hgF; have HCL := Lib.hid hcl; have HL := Lib.hid hl
      clear hblk hox hnx hgx hsub hgF hcl hl
      have qk0 : (0 : Int) ≤ (k : Int) := by omega
      have qk1 : (k : Int) < x.kids.length := by omega
      have HLE := Lib.hid (show bulks (x.kids.take (k + 1)) = bulks (x.kids.take k) + (1 + bulk x.kids[k]) ∧ bulks (x.kids.take (k + 1)) ≤ bulks x.kids from ⟨bulks_take _ _ hlt, bulks_take_le _ _⟩)
      go_wp2_with fail
      refine (IHK.out _ (List.getElem_mem hlt) (HKS.out _ (List.getElem_mem hlt)) (by have := mem_bulks (List.getElem_mem hlt); have := HBK.out; rw [bulk_eq] at this; omega) _ gk (k * 7) _ c1 cx pk Gx b b1 b2 (n + 2 * bulks (x.kids.take k)) (H) HL.out HBK7.out HOX.out HNX.out.1 (HS.out.sub HGF.out HSUB.out HNX.out.2) HI.out.2.2.2.2.1 HI.out.2.2.2.2.2 HI.out.2.2.1 (by have := HN.out; have := HLE.out; rw [bulk_eq] at *; have := len_strsB x.names; omega)).mono ?_
      rintro en w3 ⟨rfl, cx', ho3, hb3, hm3, hbt3⟩
      have HI3 := Lib.hid (fv_step HS.out HX.out.lt HGF.out HSUB.out HI.out.2.1 HI.out.2.2.2.1 HI.out.2.2.2.2.1 HI.out.2.2.2.2.2 ho3 hb3 hm3 hbt3 HCL.out)
      clear ho3 hb3 hm3 hbt3
      clear p0 p1 p2 p3 p4 p5 p6
      go_wp2
      go_roundw
      case rel => exact ⟨k + 1, by omega, by go_num, Lib.hid (by
        have h := HI3.out
        rw [mix_set (by simp) hlt (by simp)] at h
        exact ⟨h.1, h.2.1, h.2.2.1.mono (by have := HLE.out; omega), h.2.2.2⟩)⟩
      case measure => simp [intOf]; omega
    · have hkk : k = x.kids.length := by omega
      have HI1 := Lib.hid (show RnX x (.slice A3 x.limbs.length c3) (.slice A4 x.names.length c4) (.slice A5 x.kids.length c5) (.slice A6 x.alts.length c6) F3 F4 F5 F6 G5 G6 x.kids.length x.alts.length (mix (x.kids.map (fv fr tn (hidB H fr))) x.kids x.kids.length) (mix x.alts x.alts 0) wr ∧ Blk wr g e (pre ++ ([.int .i64 x.kind, .string x.name, .bool x.minus, .slice A3 x.limbs.length c3, .slice A4 x.names.length c4, .slice A5 x.kids.length c5, .slice A6 x.alts.length c6] ++ post)) ∧ CountM wr b (n + 2 * bulks x.kids) (H) ∧ But (b :: g :: (F3 ++ (F4 ++ ((F5 ++ G5) ++ (F6 ++ G6))))) w wr ∧ Blk wr b1 9 [.string fr] ∧ Blk wr b2 9 [.string tn] from by have h := HI.out; rw [hkk, List.take_length] at h; exact h)
      clear HI hkk
      go_wp2_with fail
      clear p0 p1 p2 p3 p4 p5 p6
      have h3 := HI1.out
      rw [mix_all (by simp), mix_zero] at h3
      refine ⟨_, results_none rfl _ _ _, rfl, [.int .i64 x.kind, .string x.name, .bool x.minus, .slice A3 x.limbs.length c3, .slice A4 x.names.length c4, .slice A5 x.kids.length c5, .slice A6 x.alts.length c6], ?_, h3.2.1, h3.2.2.1.mono (by rw [bulk_eq]; omega), h3.2.2.2.1⟩
      have hrn : fv fr tn (hidB H fr) x = ⟨x.kind, x.name, x.minus, x.limbs, x.names, (x.kids.map (fv fr tn (hidB H fr))), x.alts⟩ := by
        rw [fv_eq, if_neg HK.out.1, if_neg (by have := HK.out; omega), if_neg HK.out.2.2.2, fvKs_map]
      rw [hrn]
      exact h3.1.own _ _ _
end Go.Proofs.Ytagfphlhahiplaa.C13
namespace Go.Proofs.Ytagfphlhahiplaa.C13
open Go.RowKit Go.Proofs.YtagfphlhahiplaaW.PrintWords Go.Proofs.Ytagfphlhahiplaa.PFnExactFormatCore
set_option linter.unusedVariables false
set_option linter.unusedSimpArgs false
theorem fvC_len (fr tn : ByteArray) (h h2 : Bool) (l : List CoreT) : (fvC fr tn h h2 l).length = l.length := by
  rw [fvC_eq]; cases l <;> simp
theorem fvC_zero (fr tn : ByteArray) (h h2 : Bool) (l : List CoreT) (hl : 0 < l.length) : (fvC fr tn h h2 l)[0]'(by rw [fvC_len]; exact hl) = fv fr tn h l[0] := by
  cases l with
  | nil => cases hl
  | cons c r => simp only [fvC_eq, List.getElem_cons_zero]
theorem fvC_succ (fr tn : ByteArray) (h h2 : Bool) (l : List CoreT) (j : Nat) (hl : j + 1 < l.length) : (fvC fr tn h h2 l)[j + 1]'(by rw [fvC_len]; exact hl) = fv fr tn h2 l[j + 1] := by
  cases l with
  | nil => cases hl
  | cons c r => simp only [fvC_eq, List.getElem_cons_succ, List.getElem_map]
theorem abulks_snoc : ∀ (l : List AltT) (x : AltT), abulks (l ++ [x]) = abulks l + (1 + abulk x)
  | [], x => by simp [abulks]
  | c :: r, x => by rw [List.cons_append, abulks, abulks, abulks_snoc r x]; omega
theorem abulks_take (l : List AltT) (k : Nat) (hk : k < l.length) : abulks (l.take (k + 1)) = abulks (l.take k) + (1 + abulk l[k]) := by rw [take_snoc' hk, abulks_snoc]
theorem abulks_take_le : ∀ (l : List AltT) (k : Nat), abulks (l.take k) ≤ abulks l
  | [], k => by simp
  | c :: r, 0 => by simp [abulks]
  | c :: r, k + 1 => by rw [List.take_succ_cons, abulks, abulks]; have := abulks_take_le r k; omega
theorem one_str {w : World} {nb : Nat} {s : ByteArray} (h : Blk w nb 9 [.string s]) : Kd.string.C w (some ⟨nb, 0, none⟩) 1 [s] := by
  have hr : Row w 9 (.slice (some ⟨nb, 0, none⟩) 1 1) [s].length (encS [s]) [nb] := .inr ⟨nb, 1, [], rfl, Nat.le_refl _, by decide, by simpa [encS] using h, rfl⟩
  obtain ⟨A, c, e, _, hC⟩ := hr.readsS
  injection e with e1 e2 e3
  subst e1
  exact hC
theorem alt_names {x : CoreT} {v3 v4 v5 v6 : Value} {F3 F4 F5 F6 G5 G6 : List Nat} {n m : Nat} {ks : List CoreT} {ls : List AltT} {w : World} (h : RnX x v3 v4 v5 v6 F3 F4 F5 F6 G5 G6 n m ks ls w) {k : Nat} (hk : k < ls.length) :
    ∃ g cap A1 c1, v6 = .slice (some ⟨g, 0, none⟩) m cap ∧ ls[k].names.length ≤ c1 ∧ Kd.string.C w A1 ls[k].names.length ls[k].names ∧ w.cell? ⟨g, k * 9 + 1, none⟩ = some (.slice A1 ls[k].names.length c1) := by
  obtain ⟨g, cap, c1, v1, cx, post, Gx, hv6, hcap, hl, hblk, ⟨F1, hrow, _⟩, _⟩ := h.alt hk
  obtain ⟨A1, cc1, rfl, l1, hC1⟩ := hrow.readsS
  exact ⟨g, cap, A1, cc1, hv6, l1, hC1, Blk.at (pre := c1 ++ [.string ls[k].con]) (c := .slice A1 ls[k].names.length cc1) (post := cx ++ post) (by simpa using hblk) (by rw [List.length_append, hl]; rfl)⟩
theorem nb_far {w : World} {b nb g : Nat} {F G : List Nat} (hb : b < w.heap.size) (hlt : ∀ i ∈ F, i < w.heap.size) (hn : w.heap.size ≤ nb) (hg : g ∈ F) (hG : ∀ i ∈ G, i ∈ F) : nb ∉ b :: g :: G := fun h => by
  rcases List.mem_cons.1 h with h | h
  · omega
  · rcases List.mem_cons.1 h with h | h
    · have := hlt g hg; omega
    · have := hlt nb (hG _ h); omega
theorem fvAs_len (fr tn : ByteArray) (h : Bool) (l : List AltT) : (fvAs fr tn h l).length = l.length := by rw [fvAs_map, List.length_map]
theorem size0_pos {s : ByteArray} (h : s ≠ ⟨#[]⟩) : 0 < s.size := Nat.pos_of_ne_zero (fun h0 => h (size_zero.1 h0))
theorem fv_below {g b b1 b2 : Nat} {e : TypeId} {cs : List Value} {w wr w' : World} {N : Nat} {H : ByteArray → Int} {c1 c2 : List Value} {x : CoreT} {v3 v4 v5 v6 : Value} {F3 F4 F5 F6 G5 G6 : List Nat} {n m : Nat} {ks : List CoreT} {ls : List AltT} (hX : RnX x v3 v4 v5 v6 F3 F4 F5 F6 G5 G6 n m ks ls wr) (hb : Blk wr g e cs) (hm : CountM wr b N H) (hB : But (b :: g :: (F3 ++ (F4 ++ ((F5 ++ G5) ++ (F6 ++ G6))))) w wr) (h1 : Blk wr b1 9 c1) (h2 : Blk wr b2 9 c2) (hlt : ∀ i ∈ F3 ++ (F4 ++ ((F5 ++ G5) ++ (F6 ++ G6))), i < w.heap.size) (hal : Below wr.heap.size wr w') :
    RnX x v3 v4 v5 v6 F3 F4 F5 F6 G5 G6 n m ks ls w' ∧ Blk w' g e cs ∧ CountM w' b N H ∧ But (b :: g :: (F3 ++ (F4 ++ ((F5 ++ G5) ++ (F6 ++ G6))))) w w' ∧ Blk w' b1 9 c1 ∧ Blk w' b2 9 c2 :=
  ⟨hX.move (fun i hi => hal.block i (Nat.lt_of_lt_of_le (hlt i hi) hB.size)), hb.below hal, hm.move (hal.block b hm.lt), hB.trans (But.of_below hal), h1.below hal, h2.below hal⟩
set_option maxRecDepth 100000 in
set_option maxHeartbeats 4000000 in
theorem fv_casen (fr tn : ByteArray) (x : CoreT) (hk : x.kind = 8) (hnm : x.name ≠ ⟨#[]⟩) (ihk : ∀ y ∈ x.kids, FvSaid fr tn y) (iha : ∀ a ∈ x.alts, FvSaid fr tn a.body) : FvSaid fr tn x := by
  intro hsh hbk w g off e pre cx post F b b1 b2 n H hoff hblk hO hnd hS hb1 hb2 hm hn
  obtain ⟨v3, v4, v5, v6, F3, F4, F5, F6, G5, G6, rfl, rfl, hX⟩ := RnX.open hO hnd
  obtain ⟨A3, c3, rfl, l3⟩ := hX.r3.slice; obtain ⟨A4, c4, rfl, l4⟩ := hX.r4.slice
  obtain ⟨_, h5, -⟩ := hX.r5; obtain ⟨_, h6, -⟩ := hX.r6
  obtain ⟨A5, c5, rfl, l5⟩ := h5.slice; obtain ⟨A6, c6, rfl, l6⟩ := h6.slice
  obtain ⟨n1, n2, n3, n4, n5⟩ := bounds hbk
  rw [Shapes_eq] at hsh
  obtain ⟨hs1, hs2, hs3⟩ := hsh
  have HSH := Lib.hid hs1; have HKS := Lib.hid (KShapes_iff.1 hs2); have HLS := Lib.hid (AShapes_iff.1 hs3)
  have HX := Lib.hid hX; have HBK := Lib.hid hbk; have HN := Lib.hid hn; have HM := Lib.hid hm; have HS := Lib.hid hS; have HB1 := Lib.hid hb1; have HB2 := Lib.hid hb2; have HOFF := Lib.hid hoff; have HB := Lib.hid hblk
  clear hX h5 h6 hO hnd hbk hn hm hS hb1 hb2 hs1 hs2 hs3
  obtain ⟨p0, p1, p2, p3, p4, p5, p6⟩ := Blk.seven hblk hoff
  clear hblk hoff
  rw [hk] at p0
  have HK := Lib.hid hk
  have IHK := Lib.hid ihk; have IHA := Lib.hid iha; clear ihk iha
  have hkl : 0 < x.kids.length := by have h := HSH.out; unfold Shape at h; omega
  have HH2 := Lib.hid (show hidB (addH H 1 [x.name]) fr = (hidB H fr || decide (x.name ≠ ⟨#[]⟩ ∧ x.name = fr)) from by rw [hidB_add (HM.out.2 fr).1]; refine congrArg _ ?_; rw [decide_eq_decide]; simp only [List.mem_singleton]; exact ⟨fun h => ⟨hnm, h.symm⟩, fun h => h.2.symm⟩)
  rw [hk] at HB
  clear hk
  obtain ⟨qn1, qn2⟩ := str_some hnm
  have HNM := Lib.hid hnm; clear hnm
  go_enter_defers Try.func66, Try.ntmps66
  have HI := Lib.hid (show RnX x (.slice A3 x.limbs.length c3) (.slice A4 x.names.length c4) (.slice A5 x.kids.length c5) (.slice A6 x.alts.length c6) F3 F4 F5 F6 G5 G6 x.kids.length x.alts.length (mix (fvC fr tn (hidB H fr) (hidB H fr || decide (x.name ≠ ⟨#[]⟩ ∧ x.name = fr)) x.kids) x.kids 0) (mix (fvAs fr tn (hidB H fr || decide (x.name ≠ ⟨#[]⟩ ∧ x.name = fr)) x.alts) x.alts 0) w ∧ Blk w g e (pre ++ ([.int .i64 8, .string x.name, .bool x.minus, .slice A3 x.limbs.length c3, .slice A4 x.names.length c4, .slice A5 x.kids.length c5, .slice A6 x.alts.length c6] ++ post)) ∧ CountM w b (n) (H) ∧ But (b :: g :: (F3 ++ (F4 ++ ((F5 ++ G5) ++ (F6 ++ G6))))) w w ∧ Blk w b1 9 [.string fr] ∧ Blk w b2 9 [.string tn] from by
    rw [mix_zero, mix_zero]
    exact ⟨HX.out, HB.out, HM.out, But.refl _ _, HB1.out, HB2.out⟩)
  obtain ⟨gk, cap, c1, cx, pk, Gx, hv5, hcap, hl, hblk, hox, hnx, hsub, hgF, hgx, hcl⟩ := HI.out.1.kid (k := 0) (by rw [mix_len (fvC_len _ _ _ _ _)]; exact hkl)
  simp only [Value.slice.injEq, true_and] at hv5
  obtain ⟨rfl, rfl⟩ := hv5
  rw [mix_get (fvC_len _ _ _ _ _) hkl] at hox
  have HBK7 := Lib.hid hblk; have HOX := Lib.hid hox; have HNX := Lib.hid (show Gx.Nodup ∧ gk ∉ Gx from ⟨hnx, hgx⟩); have HSUB := Lib.hid hsub; have HGF := Lib.hid hgF; have HCL := Lib.hid hcl; have HL := Lib.hid hl
  clear hblk hox hnx hgx hsub hgF hcl hl
  have qk1 : (0 : Int) < x.kids.length := by omega
  have HLE := Lib.hid (show bulks (x.kids.take 1) = bulks (x.kids.take 0) + (1 + bulk x.kids[0]) ∧ bulks (x.kids.take 1) ≤ bulks x.kids from ⟨bulks_take _ _ hkl, bulks_take_le _ _⟩)
  go_wp2_with fail
  refine (IHK.out _ (List.getElem_mem hkl) (HKS.out _ (List.getElem_mem hkl)) (by have := mem_bulks (List.getElem_mem hkl); have := HBK.out; rw [bulk_eq] at this; omega) _ gk 0 _ c1 cx pk Gx b b1 b2 n H HL.out HBK7.out HOX.out HNX.out.1 (HS.out.sub HGF.out HSUB.out HNX.out.2) HB1.out HB2.out HM.out (by have := HN.out; have := HLE.out; rw [bulk_eq] at *; omega)).mono ?_
  rintro en w3 ⟨rfl, cx', ho3, hb3, hm3, hbt3⟩
  have HI3 := Lib.hid (fv_step HS.out HX.out.lt HGF.out HSUB.out HI.out.2.1 HI.out.2.2.2.1 HI.out.2.2.2.2.1 HI.out.2.2.2.2.2 ho3 hb3 hm3 hbt3 HCL.out)
  have HI4 := Lib.hid (show RnX x (.slice A3 x.limbs.length c3) (.slice A4 x.names.length c4) (.slice (some ⟨gk, 0, none⟩) x.kids.length c5) (.slice A6 x.alts.length c6) F3 F4 F5 F6 G5 G6 x.kids.length x.alts.length (mix (fvC fr tn (hidB H fr) (hidB H fr || decide (x.name ≠ ⟨#[]⟩ ∧ x.name = fr)) x.kids) x.kids 1) (mix (fvAs fr tn (hidB H fr || decide (x.name ≠ ⟨#[]⟩ ∧ x.name = fr)) x.alts) x.alts 0) w3 ∧ Blk w3 g e (pre ++ ([.int .i64 8, .string x.name, .bool x.minus, .slice A3 x.limbs.length c3, .slice A4 x.names.length c4, .slice (some ⟨gk, 0, none⟩) x.kids.length c5, .slice A6 x.alts.length c6] ++ post)) ∧ CountM w3 b (n + 2 * bulks (x.kids.take 1)) (H) ∧ But (b :: g :: (F3 ++ (F4 ++ ((F5 ++ G5) ++ (F6 ++ G6))))) w w3 ∧ Blk w3 b1 9 [.string fr] ∧ Blk w3 b2 9 [.string tn] from by
    have h := HI3.out
    rw [mix_set (fvC_len _ _ _ _ _) hkl (fvC_zero _ _ _ _ _ hkl).symm] at h
    exact ⟨h.1, h.2.1, h.2.2.1.mono (by have := HLE.out; omega), h.2.2.2⟩)
  clear ho3 hb3 hm3 hbt3 p0 p1 p2 p3 p4 p5 p6 HI HBK7 HOX HNX HSUB HGF HCL HL HI3
  obtain ⟨p0, p1, p2, p3, p4, p5, p6⟩ := Blk.seven HI4.out.2.1 HOFF.out
  go_wp2_with (refine wpList_oneS _ x.name (by rfl) ?_)
  intro w4 hnb hal hsz4
  have HI5 := Lib.hid (fv_below HI4.out.1 HI4.out.2.1 HI4.out.2.2.1 HI4.out.2.2.2.1 HI4.out.2.2.2.2.1 HI4.out.2.2.2.2.2 HX.out.lt hal)
  have hnm1 : ∀ s ∈ [x.name], s.size ≤ 1048576 := fun s hs => by rw [List.mem_singleton.1 hs]; exact n1
  have HNM1 := Lib.hid hnm1; have HNB := Lib.hid hnb
  clear hnm1 hnb hal hsz4 p0 p1 p2 p3 p4 p5 p6
  go_wp2_with fail
  refine (add_any [x.name] HNM1.out 1 (by omega) b _ H (by have := HN.out; have := HLE.out; rw [bulk_eq] at *; have := size0_pos HNM.out; simp only [List.length_singleton]; omega) (fun s => by have h0 := (HM.out.2 s).1; exact ⟨by omega, fun k => by omega⟩) (some ⟨w3.heap.size, 0, none⟩) 1 _ (one_str HNB.out) (Nat.le_refl _) HI5.out.2.2.1).mono ?_
  rintro en w5 ⟨rfl, hm5, hg5⟩
  have HI6 := Lib.hid (fv_map (Sub := RnX x (.slice A3 x.limbs.length c3) (.slice A4 x.names.length c4) (.slice (some ⟨gk, 0, none⟩) x.kids.length c5) (.slice A6 x.alts.length c6) F3 F4 F5 F6 G5 G6 x.kids.length x.alts.length (mix (fvC fr tn (hidB H fr) (hidB H fr || decide (x.name ≠ ⟨#[]⟩ ∧ x.name = fr)) x.kids) x.kids 1) (mix (fvAs fr tn (hidB H fr || decide (x.name ≠ ⟨#[]⟩ ∧ x.name = fr)) x.alts) x.alts 0)) HS.out HX.out.lt HI5.out.2.1 HI5.out.2.2.2.1 HI5.out.2.2.2.2.1 HI5.out.2.2.2.2.2 hg5 hm5 (fun hm => HI5.out.1.move hm))
  clear HI4 HI5 hm5 hg5 HNB
  obtain ⟨p0, p1, p2, p3, p4, p5, p6⟩ := Blk.seven HI6.out.2.1 HOFF.out
  go_wp2_with (refine wpList_oneS _ x.name (by rfl) ?_)
  intro w6 hnb hal hsz6
  have HI0 := Lib.hid (show (RnX x (.slice A3 x.limbs.length c3) (.slice A4 x.names.length c4) (.slice (some ⟨gk, 0, none⟩) x.kids.length c5) (.slice A6 x.alts.length c6) F3 F4 F5 F6 G5 G6 x.kids.length x.alts.length (mix (fvC fr tn (hidB H fr) (hidB H fr || decide (x.name ≠ ⟨#[]⟩ ∧ x.name = fr)) x.kids) x.kids 1) (mix (fvAs fr tn (hidB H fr || decide (x.name ≠ ⟨#[]⟩ ∧ x.name = fr)) x.alts) x.alts 0) w6 ∧ Blk w6 g e (pre ++ ([.int .i64 8, .string x.name, .bool x.minus, .slice A3 x.limbs.length c3, .slice A4 x.names.length c4, .slice (some ⟨gk, 0, none⟩) x.kids.length c5, .slice A6 x.alts.length c6] ++ post)) ∧ CountM w6 b (n + 2 * bulks (x.kids.take 1) + 1) (addH H 1 [x.name]) ∧ But (b :: g :: (F3 ++ (F4 ++ ((F5 ++ G5) ++ (F6 ++ G6))))) w w6 ∧ Blk w6 b1 9 [.string fr] ∧ Blk w6 b2 9 [.string tn]) ∧ Blk w6 w5.heap.size 9 [.string x.name] from ⟨fv_below HI6.out.1 HI6.out.2.1 (HI6.out.2.2.1.mono (by simp only [List.length_singleton]; omega)) HI6.out.2.2.2.1 HI6.out.2.2.2.2.1 HI6.out.2.2.2.2.2 HX.out.lt hal, hnb⟩)
  have HNB := Lib.hid (show w.heap.size ≤ w5.heap.size from HI6.out.2.2.2.1.size)
  obtain ⟨nb, hnbe⟩ : ∃ nb, nb = w5.heap.size := ⟨_, rfl⟩
  rw [← hnbe] at HI0 HNB
  rw [← hnbe]
  clear HI6 hnb hal hsz6 p0 p1 p2 p3 p4 p5 p6 hnbe
  obtain ⟨p0, p1, p2, p3, p4, p5, p6⟩ := Blk.seven HI0.out.1.2.1 HOFF.out
  go_wp2_with fail
  clear p0 p1 p2 p3 p4 p5 p6
  have NBF := HNB
  have HE0 := Lib.hid HI0.out.2
  have HI00 := Lib.hid HI0.out.1
  clear HI0
  have HI0 := HI00
  clear HI00
  go_loopw [72] (fun s wr => ∃ k : Nat, k ≤ x.alts.length ∧ s = .int .i64 k ∧ Hid (RnX x (.slice A3 x.limbs.length c3) (.slice A4 x.names.length c4) (.slice (some ⟨gk, 0, none⟩) x.kids.length c5) (.slice A6 x.alts.length c6) F3 F4 F5 F6 G5 G6 x.kids.length x.alts.length (mix (fvC fr tn (hidB H fr) (hidB H fr || decide (x.name ≠ ⟨#[]⟩ ∧ x.name = fr)) x.kids) x.kids 1) (mix (fvAs fr tn (hidB H fr || decide (x.name ≠ ⟨#[]⟩ ∧ x.name = fr)) x.alts) x.alts k) wr ∧ Blk wr g e (pre ++ ([.int .i64 8, .string x.name, .bool x.minus, .slice A3 x.limbs.length c3, .slice A4 x.names.length c4, .slice (some ⟨gk, 0, none⟩) x.kids.length c5, .slice A6 x.alts.length c6] ++ post)) ∧ CountM wr b (n + 2 * bulks (x.kids.take 1) + 1 + 2 * abulks (x.alts.take k)) (addH H 1 [x.name]) ∧ But (b :: g :: (F3 ++ (F4 ++ ((F5 ++ G5) ++ (F6 ++ G6))))) w wr ∧ Blk wr b1 9 [.string fr] ∧ Blk wr b2 9 [.string tn]) ∧ Hid (Blk wr nb 9 [.string x.name])) (fun s _ => x.alts.length - (intOf s).toNat)
  case atStart => exact ⟨0, Nat.zero_le _, rfl, Lib.hid (by have h := HI0.out; exact ⟨h.1, h.2.1, h.2.2.1.mono (by omega), h.2.2.2⟩), HE0⟩
  clear HI0 HE0
  case round =>
    obtain ⟨k, hk, rfl, HI, HE⟩ := hrel
    obtain ⟨p0, p1, p2, p3, p4, p5, p6⟩ := Blk.seven HI.out.2.1 HOFF.out
    by_cases hlt : k < x.alts.length
    · obtain ⟨ga, capa, A1, cc1, hv6, l1, hC1, gn⟩ := alt_names HI.out.1 (k := k) (by rw [mix_len (fvAs_len _ _ _ _)]; exact hlt)
      simp only [Value.slice.injEq, true_and] at hv6
      obtain ⟨rfl, rfl⟩ := hv6
      have hmg := mix_get (fvAs_len fr tn (hidB H fr || decide (x.name ≠ ⟨#[]⟩ ∧ x.name = fr)) x.alts) hlt
      rw [hmg] at l1 hC1 gn
      have HMG := Lib.hid hmg; clear hmg
      have HAB := Lib.hid (show abulks (x.alts.take (k + 1)) = abulks (x.alts.take k) + (1 + abulk x.alts[k]) ∧ abulks (x.alts.take (k + 1)) ≤ abulks x.alts ∧ abulk x.alts[k] = x.alts[k].con.size + (strsB x.alts[k].names + bulk x.alts[k].body) from ⟨abulks_take _ _ hlt, abulks_take_le _ _, abulk_eq _⟩)
      have HNS := Lib.hid (show ∀ s ∈ x.alts[k].names, s.size ≤ 1048576 from fun s hs => by have h := HBK.out; rw [bulk_eq] at h; have h2 := HAB.out; have := mem_strsB hs; omega)
      have qk0 : (0 : Int) ≤ (k : Int) := by omega
      have qk1 : (k : Int) < x.alts.length := by omega
      have HC1 := Lib.hid hC1; clear hC1
      go_wp2_with fail
      refine (add_any x.alts[k].names HNS.out 1 (by omega) b _ (addH H 1 [x.name]) (by have h1 := HN.out; have h2 := HLE.out; have h3 := HAB.out; rw [bulk_eq] at h1; have h4 := size0_pos HNM.out; have h5 := len_strsB x.alts[k].names; omega) (fun s => by have h0 := (HI.out.2.2.1.2 s).1; exact ⟨by omega, fun k => by omega⟩) A1 cc1 _ HC1.out l1 HI.out.2.2.1).mono ?_
      rintro en w4 ⟨rfl, hm4, hg4⟩
      have HI4 := Lib.hid (fv_map (Sub := RnX x (.slice A3 x.limbs.length c3) (.slice A4 x.names.length c4) (.slice (some ⟨gk, 0, none⟩) x.kids.length c5) (.slice (some ⟨ga, 0, none⟩) x.alts.length c6) F3 F4 F5 F6 G5 G6 x.kids.length x.alts.length (mix (fvC fr tn (hidB H fr) (hidB H fr || decide (x.name ≠ ⟨#[]⟩ ∧ x.name = fr)) x.kids) x.kids 1) (mix (fvAs fr tn (hidB H fr || decide (x.name ≠ ⟨#[]⟩ ∧ x.name = fr)) x.alts) x.alts k)) HS.out HX.out.lt HI.out.2.1 HI.out.2.2.2.1 HI.out.2.2.2.2.1 HI.out.2.2.2.2.2 hg4 hm4 (fun hm => HI.out.1.move hm))
      have HE4 := Lib.hid (show Blk w4 nb 9 [.string x.name] from HE.out.grownO hg4 (fun h => by injection h with h; have h1 := NBF.out; have h2 := HM.out.lt; omega))
      clear p0 p1 p2 p3 p4 p5 p6 hm4 hg4 HI HE HC1 gn l1
      obtain ⟨p0, p1, p2, p3, p4, p5, p6⟩ := Blk.seven HI4.out.2.1 HOFF.out
      obtain ⟨ga', cap, c1, v1, cx, pk, Gx, hv6, hcap, hl, hblk, hF1, hox, hnx, hsub, hgF, hgx, hcl⟩ := HI4.out.1.alt (k := k) (by rw [mix_len (fvAs_len _ _ _ _)]; exact hlt)
      simp only [Value.slice.injEq, Option.some.injEq, Addr.mk.injEq, and_true, true_and] at hv6
      obtain ⟨rfl, rfl⟩ := hv6
      rw [HMG.out] at hblk hox hcl
      have hl2 : (c1 ++ [Value.string x.alts[k].con, v1]).length = k * 9 + 2 := by rw [List.length_append, hl]; rfl
      have HBK7 := Lib.hid hblk; have HOX := Lib.hid hox; have HNX := Lib.hid (show Gx.Nodup ∧ ga ∉ Gx from ⟨hnx, hgx⟩); have HSUB := Lib.hid hsub; have HGF := Lib.hid hgF; have HCL := Lib.hid hcl; have HL := Lib.hid hl2
      clear hblk hox hnx hgx hsub hgF hcl hl hl2 hF1
      have hset : ({ x.alts[k] with body := fv fr tn (hidB (addH (addH H 1 [x.name]) 1 x.alts[k].names) fr) x.alts[k].body } : AltT) = ((fvAs fr tn (hidB H fr || decide (x.name ≠ ⟨#[]⟩ ∧ x.name = fr)) x.alts))[k]'(by rw [fvAs_len]; exact hlt) := by
        simp only [fvAs_map, List.getElem_map, fvA_eq]
        rw [hidB_add (HI4.out.2.2.1.2 fr |> fun h => by have h1 := h.1; simp only [addH] at h1 ⊢; have h0 := (HM.out.2 fr).1; omega), ← HH2.out]
      have HSET := Lib.hid hset; clear hset
      go_wp2_with fail
      refine (IHA.out _ (List.getElem_mem hlt) (HLS.out _ (List.getElem_mem hlt)) (alt_bulk HBK.out (List.getElem_mem hlt)) _ ga (k * 9 + 2) _ _ cx pk Gx b b1 b2 _ (addH (addH H 1 [x.name]) 1 x.alts[k].names) HL.out HBK7.out HOX.out HNX.out.1 (HS.out.sub HGF.out HSUB.out HNX.out.2) HI4.out.2.2.2.2.1 HI4.out.2.2.2.2.2 HI4.out.2.2.1 (by have h1 := HN.out; have h2 := HLE.out; have h3 := HAB.out; rw [bulk_eq] at h1; have h4 := size0_pos HNM.out; have h5 := len_strsB x.alts[k].names; omega)).mono ?_
      rintro en w5 ⟨rfl, cx', ho5, hb5, hm5, hbt5⟩
      have HI5 := Lib.hid (fv_step HS.out HX.out.lt HGF.out HSUB.out HI4.out.2.1 HI4.out.2.2.2.1 HI4.out.2.2.2.2.1 HI4.out.2.2.2.2.2 ho5 hb5 hm5 hbt5 HCL.out)
      have HE5 := Lib.hid (show Blk w5 nb 9 [.string x.name] from hbt5.blk HE4.out (nb_far HM.out.lt HX.out.lt NBF.out HGF.out HSUB.out))
      have hx5 := HI5.out.1
      rw [mix_set (fvAs_len _ _ _ _) hlt HSET.out] at hx5
      obtain ⟨gb, capb, A2, cc2, hv6, l2, hC2, gn2⟩ := alt_names hx5 (k := k) (by rw [mix_len (fvAs_len _ _ _ _)]; exact hlt)
      have hdone : (mix (fvAs fr tn (hidB H fr || decide (x.name ≠ ⟨#[]⟩ ∧ x.name = fr)) x.alts) x.alts (k + 1))[k]'(by rw [mix_len (fvAs_len _ _ _ _)]; exact hlt) = { x.alts[k] with body := fv fr tn (hidB (addH (addH H 1 [x.name]) 1 x.alts[k].names) fr) x.alts[k].body } := by rw [mix_done (fvAs_len _ _ _ _) hlt, HSET.out]
      rw [hdone] at l2 hC2 gn2
      simp only [Value.slice.injEq, Option.some.injEq, Addr.mk.injEq, and_true, true_and] at hv6
      obtain ⟨rfl, rfl⟩ := hv6
      have HX5 := Lib.hid hx5; have HC2 := Lib.hid hC2
      clear p0 p1 p2 p3 p4 p5 p6 ho5 hb5 hm5 hbt5 hx5 hC2 hdone HI4 HE4 HBK7 HOX HNX HSUB HGF HCL HL
      obtain ⟨p0, p1, p2, p3, p4, p5, p6⟩ := Blk.seven HI5.out.2.1 HOFF.out
      go_wp2_with fail
      refine (add_any x.alts[k].names HNS.out (-1) (by omega) b _ (addH (addH H 1 [x.name]) 1 x.alts[k].names) (by have h1 := HN.out; have h2 := HLE.out; have h3 := HAB.out; rw [bulk_eq] at h1; have h4 := size0_pos HNM.out; have h5 := len_strsB x.alts[k].names; omega) (fun s => by have h0 := (HM.out.2 s).1; have h1 := nIn_take x.alts[k].names s; simp only [addH]; exact ⟨by omega, fun k => by have := h1 k; omega⟩) A2 cc2 _ HC2.out l2 HI5.out.2.2.1).mono ?_
      rintro en w6 ⟨rfl, hm6, hg6⟩
      have HI6 := Lib.hid (fv_map (Sub := RnX x (.slice A3 x.limbs.length c3) (.slice A4 x.names.length c4) (.slice (some ⟨gk, 0, none⟩) x.kids.length c5) (.slice (some ⟨ga, 0, none⟩) x.alts.length c6) F3 F4 F5 F6 G5 G6 x.kids.length x.alts.length (mix (fvC fr tn (hidB H fr) (hidB H fr || decide (x.name ≠ ⟨#[]⟩ ∧ x.name = fr)) x.kids) x.kids 1) (mix (fvAs fr tn (hidB H fr || decide (x.name ≠ ⟨#[]⟩ ∧ x.name = fr)) x.alts) x.alts (k + 1))) HS.out HX.out.lt HI5.out.2.1 HI5.out.2.2.2.1 HI5.out.2.2.2.2.1 HI5.out.2.2.2.2.2 hg6 hm6 (fun hm => HX5.out.move hm))
      have HE6 := Lib.hid (show Blk w6 nb 9 [.string x.name] from HE5.out.grownO hg6 (fun h => by injection h with h; have h1 := NBF.out; have h2 := HM.out.lt; omega))
      clear p0 p1 p2 p3 p4 p5 p6 hm6 hg6 HI5 HE5 HX5 HC2 gn2 l2
      go_wp2
      go_roundw
      case rel => exact ⟨k + 1, by omega, by go_num, Lib.hid (by
        have h := HI6.out
        rw [addH_back] at h
        exact ⟨h.1, h.2.1, h.2.2.1.mono (by have h3 := HAB.out; have h5 := len_strsB x.alts[k].names; omega), h.2.2.2⟩), HE6⟩
      case measure => simp [intOf]; omega
    · have hkk : k = x.alts.length := by omega
      have HI1 := Lib.hid (show RnX x (.slice A3 x.limbs.length c3) (.slice A4 x.names.length c4) (.slice (some ⟨gk, 0, none⟩) x.kids.length c5) (.slice A6 x.alts.length c6) F3 F4 F5 F6 G5 G6 x.kids.length x.alts.length (mix (fvC fr tn (hidB H fr) (hidB H fr || decide (x.name ≠ ⟨#[]⟩ ∧ x.name = fr)) x.kids) x.kids 1) (mix (fvAs fr tn (hidB H fr || decide (x.name ≠ ⟨#[]⟩ ∧ x.name = fr)) x.alts) x.alts x.alts.length) wr ∧ Blk wr g e (pre ++ ([.int .i64 8, .string x.name, .bool x.minus, .slice A3 x.limbs.length c3, .slice A4 x.names.length c4, .slice (some ⟨gk, 0, none⟩) x.kids.length c5, .slice A6 x.alts.length c6] ++ post)) ∧ CountM wr b (n + 2 * bulks (x.kids.take 1) + 1 + 2 * abulks x.alts) (addH H 1 [x.name]) ∧ But (b :: g :: (F3 ++ (F4 ++ ((F5 ++ G5) ++ (F6 ++ G6))))) w wr ∧ Blk wr b1 9 [.string fr] ∧ Blk wr b2 9 [.string tn] from by have h := HI.out; rw [hkk, List.take_length] at h; exact h)
      have hke : 1 ≤ x.kids.length := hkl
      clear HI hkk
      go_wp2_with fail
      · subst h
        clear p0 p1 p2 p3 p4 p5 p6
        go_loopw [112] (fun s wr => ∃ j : Nat, j + 1 ≤ x.kids.length ∧ s = .int .i64 j ∧ Hid (RnX x (.slice A3 x.limbs.length c3) (.slice A4 x.names.length c4) (.slice (some ⟨gk, 0, none⟩) x.kids.length 1) (.slice A6 x.alts.length c6) F3 F4 F5 F6 G5 G6 x.kids.length x.alts.length (mix (fvC fr tn (hidB H fr) (hidB H fr || decide (x.name ≠ ⟨#[]⟩ ∧ x.name = fr)) x.kids) x.kids (j + 1)) (mix (fvAs fr tn (hidB H fr || decide (x.name ≠ ⟨#[]⟩ ∧ x.name = fr)) x.alts) x.alts x.alts.length) wr ∧ Blk wr g e (pre ++ ([.int .i64 8, .string x.name, .bool x.minus, .slice A3 x.limbs.length c3, .slice A4 x.names.length c4, .slice (some ⟨gk, 0, none⟩) x.kids.length 1, .slice A6 x.alts.length c6] ++ post)) ∧ CountM wr b (n + 1 + 2 * abulks x.alts + 2 * bulks (x.kids.take (j + 1))) (addH H 1 [x.name]) ∧ But (b :: g :: (F3 ++ (F4 ++ ((F5 ++ G5) ++ (F6 ++ G6))))) w wr ∧ Blk wr b1 9 [.string fr] ∧ Blk wr b2 9 [.string tn]) ∧ Hid (Blk wr nb 9 [.string x.name])) (fun s _ => x.kids.length - (intOf s).toNat)
        case atStart => exact ⟨0, hke, rfl, Lib.hid (by have h := HI1.out; exact ⟨h.1, h.2.1, h.2.2.1.mono (by simp only [Nat.zero_add]; omega), h.2.2.2⟩), HE⟩
        clear HI1 HE
        case round =>
          obtain ⟨j, hj, rfl, HI, HE⟩ := hrel
          obtain ⟨p0, p1, p2, p3, p4, p5, p6⟩ := Blk.seven HI.out.2.1 HOFF.out
          by_cases hlt : j + 1 < x.kids.length
          · exfalso; omega
          · have hjj : j + 1 = x.kids.length := by omega
            have h3 := HI.out
            rw [hjj, List.take_length, mix_all (fvC_len _ _ _ _ _), mix_all (fvAs_len _ _ _ _)] at h3
            have H3 := Lib.hid h3; clear h3 HI hjj
            go_wp2_with fail
            clear p0 p1 p2 p3 p4 p5 p6
            refine leaves_cons (f := 81) (args := #[.map (some b), .int .i64 (-1), .slice (some ⟨nb, 0, none⟩) 1 1]) (by simp) (by simp [go_sem]) ?_
            refine (add_deferred [x.name] HNM1.out (-1) (by omega) b _ (addH H 1 [x.name]) (by have h1 := HN.out; rw [bulk_eq] at h1; have h2 := size0_pos HNM.out; simp only [List.length_singleton]; omega) (fun s => by have h0 := (HM.out.2 s).1; have h1 := nIn_take [x.name] s; simp only [addH]; exact ⟨by omega, fun k => by have := h1 k; omega⟩) (some ⟨nb, 0, none⟩) 1 .returning wr (one_str HE.out) (Nat.le_refl _) H3.out.2.2.1).mono ?_
            rintro en u' w9 ⟨rfl, rfl, hm9, hg9⟩
            have h3 := fv_map (Sub := RnX x (.slice A3 x.limbs.length c3) (.slice A4 x.names.length c4) (.slice (some ⟨gk, 0, none⟩) x.kids.length 1) (.slice A6 x.alts.length c6) F3 F4 F5 F6 G5 G6 x.kids.length x.alts.length (fvC fr tn (hidB H fr) (hidB H fr || decide (x.name ≠ ⟨#[]⟩ ∧ x.name = fr)) x.kids) (fvAs fr tn (hidB H fr || decide (x.name ≠ ⟨#[]⟩ ∧ x.name = fr)) x.alts)) HS.out HX.out.lt H3.out.2.1 H3.out.2.2.2.1 H3.out.2.2.2.2.1 H3.out.2.2.2.2.2 hg9 hm9 (fun hm => H3.out.1.move hm)
            rw [addH_back] at h3
            refine ⟨_, results_none rfl _ _ _, rfl, [.int .i64 8, .string x.name, .bool x.minus, .slice A3 x.limbs.length c3, .slice A4 x.names.length c4, .slice (some ⟨gk, 0, none⟩) x.kids.length 1, .slice A6 x.alts.length c6], ?_, h3.2.1, h3.2.2.1.mono (by rw [bulk_eq]; have h2 := size0_pos HNM.out; simp only [List.length_singleton]; omega), h3.2.2.2.1⟩
            have hrn : fv fr tn (hidB H fr) x = ⟨x.kind, x.name, x.minus, x.limbs, x.names, (fvC fr tn (hidB H fr) (hidB H fr || decide (x.name ≠ ⟨#[]⟩ ∧ x.name = fr)) x.kids), (fvAs fr tn (hidB H fr || decide (x.name ≠ ⟨#[]⟩ ∧ x.name = fr)) x.alts)⟩ := by
              have hk := HK.out
              rw [fv_eq, if_neg (by omega), if_neg (by omega), if_pos hk]
            rw [hrn]
            exact own_kind2 (h3.1.own _ _ _) HK.out
      · clear h
        clear p0 p1 p2 p3 p4 p5 p6
        go_loopw [112] (fun s wr => ∃ j : Nat, j + 1 ≤ x.kids.length ∧ s = .int .i64 j ∧ Hid (RnX x (.slice A3 x.limbs.length c3) (.slice A4 x.names.length c4) (.slice (some ⟨gk, 0, none⟩) x.kids.length c5) (.slice A6 x.alts.length c6) F3 F4 F5 F6 G5 G6 x.kids.length x.alts.length (mix (fvC fr tn (hidB H fr) (hidB H fr || decide (x.name ≠ ⟨#[]⟩ ∧ x.name = fr)) x.kids) x.kids (j + 1)) (mix (fvAs fr tn (hidB H fr || decide (x.name ≠ ⟨#[]⟩ ∧ x.name = fr)) x.alts) x.alts x.alts.length) wr ∧ Blk wr g e (pre ++ ([.int .i64 8, .string x.name, .bool x.minus, .slice A3 x.limbs.length c3, .slice A4 x.names.length c4, .slice (some ⟨gk, 0, none⟩) x.kids.length c5, .slice A6 x.alts.length c6] ++ post)) ∧ CountM wr b (n + 1 + 2 * abulks x.alts + 2 * bulks (x.kids.take (j + 1))) (addH H 1 [x.name]) ∧ But (b :: g :: (F3 ++ (F4 ++ ((F5 ++ G5) ++ (F6 ++ G6))))) w wr ∧ Blk wr b1 9 [.string fr] ∧ Blk wr b2 9 [.string tn]) ∧ Hid (Blk wr nb 9 [.string x.name])) (fun s _ => x.kids.length - (intOf s).toNat)
        case atStart => exact ⟨0, hke, rfl, Lib.hid (by have h := HI1.out; exact ⟨h.1, h.2.1, h.2.2.1.mono (by simp only [Nat.zero_add]; omega), h.2.2.2⟩), HE⟩
        clear HI1 HE
        case round =>
          obtain ⟨j, hj, rfl, HI, HE⟩ := hrel
          obtain ⟨p0, p1, p2, p3, p4, p5, p6⟩ := Blk.seven HI.out.2.1 HOFF.out
          by_cases hlt : j + 1 < x.kids.length
          · obtain ⟨gk', cap', c1, cx, pk, Gx, hv5, hcap', hl, hblk, hox, hnx, hsub, hgF, hgx, hcl⟩ := HI.out.1.kid (k := j + 1) (by rw [mix_len (fvC_len _ _ _ _ _)]; exact hlt)
            simp only [Value.slice.injEq, Option.some.injEq, Addr.mk.injEq, and_true, true_and] at hv5
            obtain ⟨rfl, rfl⟩ := hv5
            rw [mix_get (fvC_len _ _ _ _ _) hlt] at hox
            have HBK7 := Lib.hid hblk; have HOX := Lib.hid hox; have HNX := Lib.hid (show Gx.Nodup ∧ gk ∉ Gx from ⟨hnx, hgx⟩); have HSUB := Lib.hid hsub; have HGF := Lib.hid hgF; have HCL := Lib.hid hcl; have HL := Lib.hid hl
            clear hblk hox hnx hgx hsub hgF hcl hl hcap'
            have qk0 : (0 : Int) ≤ (j : Int) := by omega
            have qk2 : 1 + (j : Int) < x.kids.length := by omega
            have HLK := Lib.hid (show bulks (x.kids.take (j + 1 + 1)) = bulks (x.kids.take (j + 1)) + (1 + bulk x.kids[j + 1]) ∧ bulks (x.kids.take (j + 1 + 1)) ≤ bulks x.kids from ⟨bulks_take _ _ hlt, bulks_take_le _ _⟩)
            go_wp2_with fail
            refine (IHK.out _ (List.getElem_mem hlt) (HKS.out _ (List.getElem_mem hlt)) (by have := mem_bulks (List.getElem_mem hlt); have := HBK.out; rw [bulk_eq] at this; omega) _ gk ((1 + j) * 7) _ c1 cx pk Gx b b1 b2 _ (addH H 1 [x.name]) (by have := HL.out; omega) HBK7.out HOX.out HNX.out.1 (HS.out.sub HGF.out HSUB.out HNX.out.2) HI.out.2.2.2.2.1 HI.out.2.2.2.2.2 HI.out.2.2.1 (by have h1 := HN.out; have h2 := HLK.out; rw [bulk_eq] at h1; have h4 := size0_pos HNM.out; omega)).mono ?_
            rintro en w7 ⟨rfl, cx', ho7, hb7, hm7, hbt7⟩
            have HI7 := Lib.hid (fv_step HS.out HX.out.lt HGF.out HSUB.out HI.out.2.1 HI.out.2.2.2.1 HI.out.2.2.2.2.1 HI.out.2.2.2.2.2 ho7 hb7 hm7 hbt7 HCL.out)
            have HE7 := Lib.hid (show Blk w7 nb 9 [.string x.name] from hbt7.blk HE.out (nb_far HM.out.lt HX.out.lt NBF.out HGF.out HSUB.out))
            have HI8 := Lib.hid (show RnX x (.slice A3 x.limbs.length c3) (.slice A4 x.names.length c4) (.slice (some ⟨gk, 0, none⟩) x.kids.length c5) (.slice A6 x.alts.length c6) F3 F4 F5 F6 G5 G6 x.kids.length x.alts.length (mix (fvC fr tn (hidB H fr) (hidB H fr || decide (x.name ≠ ⟨#[]⟩ ∧ x.name = fr)) x.kids) x.kids (j + 1 + 1)) (mix (fvAs fr tn (hidB H fr || decide (x.name ≠ ⟨#[]⟩ ∧ x.name = fr)) x.alts) x.alts x.alts.length) w7 ∧ Blk w7 g e (pre ++ ([.int .i64 8, .string x.name, .bool x.minus, .slice A3 x.limbs.length c3, .slice A4 x.names.length c4, .slice (some ⟨gk, 0, none⟩) x.kids.length c5, .slice A6 x.alts.length c6] ++ post)) ∧ CountM w7 b (n + 1 + 2 * abulks x.alts + 2 * bulks (x.kids.take (j + 1 + 1))) (addH H 1 [x.name]) ∧ But (b :: g :: (F3 ++ (F4 ++ ((F5 ++ G5) ++ (F6 ++ G6))))) w w7 ∧ Blk w7 b1 9 [.string fr] ∧ Blk w7 b2 9 [.string tn] from by
              have h := HI7.out
              rw [mix_set (fvC_len _ _ _ _ _) hlt (by rw [fvC_succ _ _ _ _ _ j hlt, ← HH2.out])] at h
              exact ⟨h.1, h.2.1, h.2.2.1.mono (by have := HLK.out; omega), h.2.2.2⟩)
            clear p0 p1 p2 p3 p4 p5 p6 ho7 hb7 hm7 hbt7 HI HE HI7 HBK7 HOX HNX HSUB HGF HCL HL
            go_wp2
            go_roundw
            case rel => exact ⟨j + 1, by omega, by go_num, HI8, HE7⟩
            case measure => simp [intOf]; omega
          · have hjj : j + 1 = x.kids.length := by omega
            have h3 := HI.out
            rw [hjj, List.take_length, mix_all (fvC_len _ _ _ _ _), mix_all (fvAs_len _ _ _ _)] at h3
            have H3 := Lib.hid h3; clear h3 HI hjj
            go_wp2_with fail
            clear p0 p1 p2 p3 p4 p5 p6
            refine leaves_cons (f := 81) (args := #[.map (some b), .int .i64 (-1), .slice (some ⟨nb, 0, none⟩) 1 1]) (by simp) (by simp [go_sem]) ?_
            refine (add_deferred [x.name] HNM1.out (-1) (by omega) b _ (addH H 1 [x.name]) (by have h1 := HN.out; rw [bulk_eq] at h1; have h2 := size0_pos HNM.out; simp only [List.length_singleton]; omega) (fun s => by have h0 := (HM.out.2 s).1; have h1 := nIn_take [x.name] s; simp only [addH]; exact ⟨by omega, fun k => by have := h1 k; omega⟩) (some ⟨nb, 0, none⟩) 1 .returning wr (one_str HE.out) (Nat.le_refl _) H3.out.2.2.1).mono ?_
            rintro en u' w9 ⟨rfl, rfl, hm9, hg9⟩
            have h3 := fv_map (Sub := RnX x (.slice A3 x.limbs.length c3) (.slice A4 x.names.length c4) (.slice (some ⟨gk, 0, none⟩) x.kids.length c5) (.slice A6 x.alts.length c6) F3 F4 F5 F6 G5 G6 x.kids.length x.alts.length (fvC fr tn (hidB H fr) (hidB H fr || decide (x.name ≠ ⟨#[]⟩ ∧ x.name = fr)) x.kids) (fvAs fr tn (hidB H fr || decide (x.name ≠ ⟨#[]⟩ ∧ x.name = fr)) x.alts)) HS.out HX.out.lt H3.out.2.1 H3.out.2.2.2.1 H3.out.2.2.2.2.1 H3.out.2.2.2.2.2 hg9 hm9 (fun hm => H3.out.1.move hm)
            rw [addH_back] at h3
            refine ⟨_, results_none rfl _ _ _, rfl, [.int .i64 8, .string x.name, .bool x.minus, .slice A3 x.limbs.length c3, .slice A4 x.names.length c4, .slice (some ⟨gk, 0, none⟩) x.kids.length c5, .slice A6 x.alts.length c6], ?_, h3.2.1, h3.2.2.1.mono (by rw [bulk_eq]; have h2 := size0_pos HNM.out; simp only [List.length_singleton]; omega), h3.2.2.2.1⟩
            have hrn : fv fr tn (hidB H fr) x = ⟨x.kind, x.name, x.minus, x.limbs, x.names, (fvC fr tn (hidB H fr) (hidB H fr || decide (x.name ≠ ⟨#[]⟩ ∧ x.name = fr)) x.kids), (fvAs fr tn (hidB H fr || decide (x.name ≠ ⟨#[]⟩ ∧ x.name = fr)) x.alts)⟩ := by
              have hk := HK.out
              rw [fv_eq, if_neg (by omega), if_neg (by omega), if_pos hk]
            rw [hrn]
            exact own_kind2 (h3.1.own _ _ _) HK.out
set_option maxRecDepth 100000 in
set_option maxHeartbeats 4000000 in
theorem fv_caseo (fr tn : ByteArray) (x : CoreT) (hk : x.kind = 8) (hnm : x.name = ⟨#[]⟩) (ihk : ∀ y ∈ x.kids, FvSaid fr tn y) (iha : ∀ a ∈ x.alts, FvSaid fr tn a.body) : FvSaid fr tn x := by
  intro hsh hbk w g off e pre cx post F b b1 b2 n H hoff hblk hO hnd hS hb1 hb2 hm hn
  obtain ⟨v3, v4, v5, v6, F3, F4, F5, F6, G5, G6, rfl, rfl, hX⟩ := RnX.open hO hnd
  obtain ⟨A3, c3, rfl, l3⟩ := hX.r3.slice; obtain ⟨A4, c4, rfl, l4⟩ := hX.r4.slice
  obtain ⟨_, h5, -⟩ := hX.r5; obtain ⟨_, h6, -⟩ := hX.r6
  obtain ⟨A5, c5, rfl, l5⟩ := h5.slice; obtain ⟨A6, c6, rfl, l6⟩ := h6.slice
  obtain ⟨n1, n2, n3, n4, n5⟩ := bounds hbk
  rw [Shapes_eq] at hsh
  obtain ⟨hs1, hs2, hs3⟩ := hsh
  have HSH := Lib.hid hs1; have HKS := Lib.hid (KShapes_iff.1 hs2); have HLS := Lib.hid (AShapes_iff.1 hs3)
  have HX := Lib.hid hX; have HBK := Lib.hid hbk; have HN := Lib.hid hn; have HM := Lib.hid hm; have HS := Lib.hid hS; have HB1 := Lib.hid hb1; have HB2 := Lib.hid hb2; have HOFF := Lib.hid hoff; have HB := Lib.hid hblk
  clear hX h5 h6 hO hnd hbk hn hm hS hb1 hb2 hs1 hs2 hs3
  obtain ⟨p0, p1, p2, p3, p4, p5, p6⟩ := Blk.seven hblk hoff
  clear hblk hoff
  rw [hk] at p0
  have HK := Lib.hid hk
  have IHK := Lib.hid ihk; have IHA := Lib.hid iha; clear ihk iha
  have hkl : 0 < x.kids.length := by have h := HSH.out; unfold Shape at h; omega
  have HH2 := Lib.hid (show hidB (H) fr = (hidB H fr || decide (x.name ≠ ⟨#[]⟩ ∧ x.name = fr)) from by rw [decide_eq_false (show ¬ (x.name ≠ ⟨#[]⟩ ∧ x.name = fr) from fun h => h.1 hnm), Bool.or_false])
  rw [hk] at HB
  clear hk
  have HNM := Lib.hid hnm
  rw [hnm] at p1
  clear hnm
  go_enter_defers Try.func66, Try.ntmps66
  have HI := Lib.hid (show RnX x (.slice A3 x.limbs.length c3) (.slice A4 x.names.length c4) (.slice A5 x.kids.length c5) (.slice A6 x.alts.length c6) F3 F4 F5 F6 G5 G6 x.kids.length x.alts.length (mix (fvC fr tn (hidB H fr) (hidB H fr || decide (x.name ≠ ⟨#[]⟩ ∧ x.name = fr)) x.kids) x.kids 0) (mix (fvAs fr tn (hidB H fr || decide (x.name ≠ ⟨#[]⟩ ∧ x.name = fr)) x.alts) x.alts 0) w ∧ Blk w g e (pre ++ ([.int .i64 8, .string x.name, .bool x.minus, .slice A3 x.limbs.length c3, .slice A4 x.names.length c4, .slice A5 x.kids.length c5, .slice A6 x.alts.length c6] ++ post)) ∧ CountM w b (n) (H) ∧ But (b :: g :: (F3 ++ (F4 ++ ((F5 ++ G5) ++ (F6 ++ G6))))) w w ∧ Blk w b1 9 [.string fr] ∧ Blk w b2 9 [.string tn] from by
    rw [mix_zero, mix_zero]
    exact ⟨HX.out, HB.out, HM.out, But.refl _ _, HB1.out, HB2.out⟩)
  obtain ⟨gk, cap, c1, cx, pk, Gx, hv5, hcap, hl, hblk, hox, hnx, hsub, hgF, hgx, hcl⟩ := HI.out.1.kid (k := 0) (by rw [mix_len (fvC_len _ _ _ _ _)]; exact hkl)
  simp only [Value.slice.injEq, true_and] at hv5
  obtain ⟨rfl, rfl⟩ := hv5
  rw [mix_get (fvC_len _ _ _ _ _) hkl] at hox
  have HBK7 := Lib.hid hblk; have HOX := Lib.hid hox; have HNX := Lib.hid (show Gx.Nodup ∧ gk ∉ Gx from ⟨hnx, hgx⟩); have HSUB := Lib.hid hsub; have HGF := Lib.hid hgF; have HCL := Lib.hid hcl; have HL := Lib.hid hl
  clear hblk hox hnx hgx hsub hgF hcl hl
  have qk1 : (0 : Int) < x.kids.length := by omega
  have HLE := Lib.hid (show bulks (x.kids.take 1) = bulks (x.kids.take 0) + (1 + bulk x.kids[0]) ∧ bulks (x.kids.take 1) ≤ bulks x.kids from ⟨bulks_take _ _ hkl, bulks_take_le _ _⟩)
  go_wp2_with fail
  refine (IHK.out _ (List.getElem_mem hkl) (HKS.out _ (List.getElem_mem hkl)) (by have := mem_bulks (List.getElem_mem hkl); have := HBK.out; rw [bulk_eq] at this; omega) _ gk 0 _ c1 cx pk Gx b b1 b2 n H HL.out HBK7.out HOX.out HNX.out.1 (HS.out.sub HGF.out HSUB.out HNX.out.2) HB1.out HB2.out HM.out (by have := HN.out; have := HLE.out; rw [bulk_eq] at *; omega)).mono ?_
  rintro en w3 ⟨rfl, cx', ho3, hb3, hm3, hbt3⟩
  have HI3 := Lib.hid (fv_step HS.out HX.out.lt HGF.out HSUB.out HI.out.2.1 HI.out.2.2.2.1 HI.out.2.2.2.2.1 HI.out.2.2.2.2.2 ho3 hb3 hm3 hbt3 HCL.out)
  have HI4 := Lib.hid (show RnX x (.slice A3 x.limbs.length c3) (.slice A4 x.names.length c4) (.slice (some ⟨gk, 0, none⟩) x.kids.length c5) (.slice A6 x.alts.length c6) F3 F4 F5 F6 G5 G6 x.kids.length x.alts.length (mix (fvC fr tn (hidB H fr) (hidB H fr || decide (x.name ≠ ⟨#[]⟩ ∧ x.name = fr)) x.kids) x.kids 1) (mix (fvAs fr tn (hidB H fr || decide (x.name ≠ ⟨#[]⟩ ∧ x.name = fr)) x.alts) x.alts 0) w3 ∧ Blk w3 g e (pre ++ ([.int .i64 8, .string x.name, .bool x.minus, .slice A3 x.limbs.length c3, .slice A4 x.names.length c4, .slice (some ⟨gk, 0, none⟩) x.kids.length c5, .slice A6 x.alts.length c6] ++ post)) ∧ CountM w3 b (n + 2 * bulks (x.kids.take 1)) (H) ∧ But (b :: g :: (F3 ++ (F4 ++ ((F5 ++ G5) ++ (F6 ++ G6))))) w w3 ∧ Blk w3 b1 9 [.string fr] ∧ Blk w3 b2 9 [.string tn] from by
    have h := HI3.out
    rw [mix_set (fvC_len _ _ _ _ _) hkl (fvC_zero _ _ _ _ _ hkl).symm] at h
    exact ⟨h.1, h.2.1, h.2.2.1.mono (by have := HLE.out; omega), h.2.2.2⟩)
  clear ho3 hb3 hm3 hbt3 p0 p1 p2 p3 p4 p5 p6 HI HBK7 HOX HNX HSUB HGF HCL HL HI3
  obtain ⟨p0, p1, p2, p3, p4, p5, p6⟩ := Blk.seven HI4.out.2.1 HOFF.out
  rw [HNM.out] at p1
  go_wp2_with fail
  clear p0 p1 p2 p3 p4 p5 p6
  have HI0 := Lib.hid (show RnX x (.slice A3 x.limbs.length c3) (.slice A4 x.names.length c4) (.slice (some ⟨gk, 0, none⟩) x.kids.length c5) (.slice A6 x.alts.length c6) F3 F4 F5 F6 G5 G6 x.kids.length x.alts.length (mix (fvC fr tn (hidB H fr) (hidB H fr || decide (x.name ≠ ⟨#[]⟩ ∧ x.name = fr)) x.kids) x.kids 1) (mix (fvAs fr tn (hidB H fr || decide (x.name ≠ ⟨#[]⟩ ∧ x.name = fr)) x.alts) x.alts 0) w3 ∧ Blk w3 g e (pre ++ ([.int .i64 8, .string x.name, .bool x.minus, .slice A3 x.limbs.length c3, .slice A4 x.names.length c4, .slice (some ⟨gk, 0, none⟩) x.kids.length c5, .slice A6 x.alts.length c6] ++ post)) ∧ CountM w3 b (n + 2 * bulks (x.kids.take 1)) (H) ∧ But (b :: g :: (F3 ++ (F4 ++ ((F5 ++ G5) ++ (F6 ++ G6))))) w w3 ∧ Blk w3 b1 9 [.string fr] ∧ Blk w3 b2 9 [.string tn] from HI4.out)
  clear HI4
  have HE0 := Lib.hid trivial
  go_loopw [72] (fun s wr => ∃ k : Nat, k ≤ x.alts.length ∧ s = .int .i64 k ∧ Hid (RnX x (.slice A3 x.limbs.length c3) (.slice A4 x.names.length c4) (.slice (some ⟨gk, 0, none⟩) x.kids.length c5) (.slice A6 x.alts.length c6) F3 F4 F5 F6 G5 G6 x.kids.length x.alts.length (mix (fvC fr tn (hidB H fr) (hidB H fr || decide (x.name ≠ ⟨#[]⟩ ∧ x.name = fr)) x.kids) x.kids 1) (mix (fvAs fr tn (hidB H fr || decide (x.name ≠ ⟨#[]⟩ ∧ x.name = fr)) x.alts) x.alts k) wr ∧ Blk wr g e (pre ++ ([.int .i64 8, .string x.name, .bool x.minus, .slice A3 x.limbs.length c3, .slice A4 x.names.length c4, .slice (some ⟨gk, 0, none⟩) x.kids.length c5, .slice A6 x.alts.length c6] ++ post)) ∧ CountM wr b (n + 2 * bulks (x.kids.take 1) + 2 * abulks (x.alts.take k)) (H) ∧ But (b :: g :: (F3 ++ (F4 ++ ((F5 ++ G5) ++ (F6 ++ G6))))) w wr ∧ Blk wr b1 9 [.string fr] ∧ Blk wr b2 9 [.string tn]) ∧ Hid (True)) (fun s _ => x.alts.length - (intOf s).toNat)
  case atStart => exact ⟨0, Nat.zero_le _, rfl, Lib.hid (by have h := HI0.out; exact ⟨h.1, h.2.1, h.2.2.1.mono (by omega), h.2.2.2⟩), HE0⟩
  clear HI0 HE0
  case round =>
    obtain ⟨k, hk, rfl, HI, HE⟩ := hrel
    obtain ⟨p0, p1, p2, p3, p4, p5, p6⟩ := Blk.seven HI.out.2.1 HOFF.out
    by_cases hlt : k < x.alts.length
    · obtain ⟨ga, capa, A1, cc1, hv6, l1, hC1, gn⟩ := alt_names HI.out.1 (k := k) (by rw [mix_len (fvAs_len _ _ _ _)]; exact hlt)
      simp only [Value.slice.injEq, true_and] at hv6
      obtain ⟨rfl, rfl⟩ := hv6
      have hmg := mix_get (fvAs_len fr tn (hidB H fr || decide (x.name ≠ ⟨#[]⟩ ∧ x.name = fr)) x.alts) hlt
      rw [hmg] at l1 hC1 gn
      have HMG := Lib.hid hmg; clear hmg
      have HAB := Lib.hid (show abulks (x.alts.take (k + 1)) = abulks (x.alts.take k) + (1 + abulk x.alts[k]) ∧ abulks (x.alts.take (k + 1)) ≤ abulks x.alts ∧ abulk x.alts[k] = x.alts[k].con.size + (strsB x.alts[k].names + bulk x.alts[k].body) from ⟨abulks_take _ _ hlt, abulks_take_le _ _, abulk_eq _⟩)
      have HNS := Lib.hid (show ∀ s ∈ x.alts[k].names, s.size ≤ 1048576 from fun s hs => by have h := HBK.out; rw [bulk_eq] at h; have h2 := HAB.out; have := mem_strsB hs; omega)
      have qk0 : (0 : Int) ≤ (k : Int) := by omega
      have qk1 : (k : Int) < x.alts.length := by omega
      have HC1 := Lib.hid hC1; clear hC1
      go_wp2_with fail
      refine (add_any x.alts[k].names HNS.out 1 (by omega) b _ (H) (by have h1 := HN.out; have h2 := HLE.out; have h3 := HAB.out; rw [bulk_eq] at h1; have h5 := len_strsB x.alts[k].names; omega) (fun s => by have h0 := (HI.out.2.2.1.2 s).1; exact ⟨by omega, fun k => by omega⟩) A1 cc1 _ HC1.out l1 HI.out.2.2.1).mono ?_
      rintro en w4 ⟨rfl, hm4, hg4⟩
      have HI4 := Lib.hid (fv_map (Sub := RnX x (.slice A3 x.limbs.length c3) (.slice A4 x.names.length c4) (.slice (some ⟨gk, 0, none⟩) x.kids.length c5) (.slice (some ⟨ga, 0, none⟩) x.alts.length c6) F3 F4 F5 F6 G5 G6 x.kids.length x.alts.length (mix (fvC fr tn (hidB H fr) (hidB H fr || decide (x.name ≠ ⟨#[]⟩ ∧ x.name = fr)) x.kids) x.kids 1) (mix (fvAs fr tn (hidB H fr || decide (x.name ≠ ⟨#[]⟩ ∧ x.name = fr)) x.alts) x.alts k)) HS.out HX.out.lt HI.out.2.1 HI.out.2.2.2.1 HI.out.2.2.2.2.1 HI.out.2.2.2.2.2 hg4 hm4 (fun hm => HI.out.1.move hm))
      have HE4 := Lib.hid (show True from trivial)
      clear p0 p1 p2 p3 p4 p5 p6 hm4 hg4 HI HE HC1 gn l1
      obtain ⟨p0, p1, p2, p3, p4, p5, p6⟩ := Blk.seven HI4.out.2.1 HOFF.out
      obtain ⟨ga', cap, c1, v1, cx, pk, Gx, hv6, hcap, hl, hblk, hF1, hox, hnx, hsub, hgF, hgx, hcl⟩ := HI4.out.1.alt (k := k) (by rw [mix_len (fvAs_len _ _ _ _)]; exact hlt)
      simp only [Value.slice.injEq, Option.some.injEq, Addr.mk.injEq, and_true, true_and] at hv6
      obtain ⟨rfl, rfl⟩ := hv6
      rw [HMG.out] at hblk hox hcl
      have hl2 : (c1 ++ [Value.string x.alts[k].con, v1]).length = k * 9 + 2 := by rw [List.length_append, hl]; rfl
      have HBK7 := Lib.hid hblk; have HOX := Lib.hid hox; have HNX := Lib.hid (show Gx.Nodup ∧ ga ∉ Gx from ⟨hnx, hgx⟩); have HSUB := Lib.hid hsub; have HGF := Lib.hid hgF; have HCL := Lib.hid hcl; have HL := Lib.hid hl2
      clear hblk hox hnx hgx hsub hgF hcl hl hl2 hF1
      have hset : ({ x.alts[k] with body := fv fr tn (hidB (addH (H) 1 x.alts[k].names) fr) x.alts[k].body } : AltT) = ((fvAs fr tn (hidB H fr || decide (x.name ≠ ⟨#[]⟩ ∧ x.name = fr)) x.alts))[k]'(by rw [fvAs_len]; exact hlt) := by
        simp only [fvAs_map, List.getElem_map, fvA_eq]
        rw [hidB_add (HI4.out.2.2.1.2 fr |> fun h => by have h1 := h.1; simp only [addH] at h1 ⊢; have h0 := (HM.out.2 fr).1; omega), ← HH2.out]
      have HSET := Lib.hid hset; clear hset
      go_wp2_with fail
      refine (IHA.out _ (List.getElem_mem hlt) (HLS.out _ (List.getElem_mem hlt)) (alt_bulk HBK.out (List.getElem_mem hlt)) _ ga (k * 9 + 2) _ _ cx pk Gx b b1 b2 _ (addH (H) 1 x.alts[k].names) HL.out HBK7.out HOX.out HNX.out.1 (HS.out.sub HGF.out HSUB.out HNX.out.2) HI4.out.2.2.2.2.1 HI4.out.2.2.2.2.2 HI4.out.2.2.1 (by have h1 := HN.out; have h2 := HLE.out; have h3 := HAB.out; rw [bulk_eq] at h1; have h5 := len_strsB x.alts[k].names; omega)).mono ?_
      rintro en w5 ⟨rfl, cx', ho5, hb5, hm5, hbt5⟩
      have HI5 := Lib.hid (fv_step HS.out HX.out.lt HGF.out HSUB.out HI4.out.2.1 HI4.out.2.2.2.1 HI4.out.2.2.2.2.1 HI4.out.2.2.2.2.2 ho5 hb5 hm5 hbt5 HCL.out)
      have HE5 := Lib.hid (show True from trivial)
      have hx5 := HI5.out.1
      rw [mix_set (fvAs_len _ _ _ _) hlt HSET.out] at hx5
      obtain ⟨gb, capb, A2, cc2, hv6, l2, hC2, gn2⟩ := alt_names hx5 (k := k) (by rw [mix_len (fvAs_len _ _ _ _)]; exact hlt)
      have hdone : (mix (fvAs fr tn (hidB H fr || decide (x.name ≠ ⟨#[]⟩ ∧ x.name = fr)) x.alts) x.alts (k + 1))[k]'(by rw [mix_len (fvAs_len _ _ _ _)]; exact hlt) = { x.alts[k] with body := fv fr tn (hidB (addH (H) 1 x.alts[k].names) fr) x.alts[k].body } := by rw [mix_done (fvAs_len _ _ _ _) hlt, HSET.out]
      rw [hdone] at l2 hC2 gn2
      simp only [Value.slice.injEq, Option.some.injEq, Addr.mk.injEq, and_true, true_and] at hv6
      obtain ⟨rfl, rfl⟩ := hv6
      have HX5 := Lib.hid hx5; have HC2 := Lib.hid hC2
      clear p0 p1 p2 p3 p4 p5 p6 ho5 hb5 hm5 hbt5 hx5 hC2 hdone HI4 HE4 HBK7 HOX HNX HSUB HGF HCL HL
      obtain ⟨p0, p1, p2, p3, p4, p5, p6⟩ := Blk.seven HI5.out.2.1 HOFF.out
      go_wp2_with fail
      refine (add_any x.alts[k].names HNS.out (-1) (by omega) b _ (addH (H) 1 x.alts[k].names) (by have h1 := HN.out; have h2 := HLE.out; have h3 := HAB.out; rw [bulk_eq] at h1; have h5 := len_strsB x.alts[k].names; omega) (fun s => by have h0 := (HM.out.2 s).1; have h1 := nIn_take x.alts[k].names s; simp only [addH]; exact ⟨by omega, fun k => by have := h1 k; omega⟩) A2 cc2 _ HC2.out l2 HI5.out.2.2.1).mono ?_
      rintro en w6 ⟨rfl, hm6, hg6⟩
      have HI6 := Lib.hid (fv_map (Sub := RnX x (.slice A3 x.limbs.length c3) (.slice A4 x.names.length c4) (.slice (some ⟨gk, 0, none⟩) x.kids.length c5) (.slice (some ⟨ga, 0, none⟩) x.alts.length c6) F3 F4 F5 F6 G5 G6 x.kids.length x.alts.length (mix (fvC fr tn (hidB H fr) (hidB H fr || decide (x.name ≠ ⟨#[]⟩ ∧ x.name = fr)) x.kids) x.kids 1) (mix (fvAs fr tn (hidB H fr || decide (x.name ≠ ⟨#[]⟩ ∧ x.name = fr)) x.alts) x.alts (k + 1))) HS.out HX.out.lt HI5.out.2.1 HI5.out.2.2.2.1 HI5.out.2.2.2.2.1 HI5.out.2.2.2.2.2 hg6 hm6 (fun hm => HX5.out.move hm))
      have HE6 := Lib.hid (show True from trivial)
      clear p0 p1 p2 p3 p4 p5 p6 hm6 hg6 HI5 HE5 HX5 HC2 gn2 l2
      go_wp2
      go_roundw
      case rel => exact ⟨k + 1, by omega, by go_num, Lib.hid (by
        have h := HI6.out
        rw [addH_back] at h
        exact ⟨h.1, h.2.1, h.2.2.1.mono (by have h3 := HAB.out; have h5 := len_strsB x.alts[k].names; omega), h.2.2.2⟩), HE6⟩
      case measure => simp [intOf]; omega
    · have hkk : k = x.alts.length := by omega
      have HI1 := Lib.hid (show RnX x (.slice A3 x.limbs.length c3) (.slice A4 x.names.length c4) (.slice (some ⟨gk, 0, none⟩) x.kids.length c5) (.slice A6 x.alts.length c6) F3 F4 F5 F6 G5 G6 x.kids.length x.alts.length (mix (fvC fr tn (hidB H fr) (hidB H fr || decide (x.name ≠ ⟨#[]⟩ ∧ x.name = fr)) x.kids) x.kids 1) (mix (fvAs fr tn (hidB H fr || decide (x.name ≠ ⟨#[]⟩ ∧ x.name = fr)) x.alts) x.alts x.alts.length) wr ∧ Blk wr g e (pre ++ ([.int .i64 8, .string x.name, .bool x.minus, .slice A3 x.limbs.length c3, .slice A4 x.names.length c4, .slice (some ⟨gk, 0, none⟩) x.kids.length c5, .slice A6 x.alts.length c6] ++ post)) ∧ CountM wr b (n + 2 * bulks (x.kids.take 1) + 2 * abulks x.alts) (H) ∧ But (b :: g :: (F3 ++ (F4 ++ ((F5 ++ G5) ++ (F6 ++ G6))))) w wr ∧ Blk wr b1 9 [.string fr] ∧ Blk wr b2 9 [.string tn] from by have h := HI.out; rw [hkk, List.take_length] at h; exact h)
      have hke : 1 ≤ x.kids.length := hkl
      clear HI hkk
      go_wp2_with fail
      · subst h
        clear p0 p1 p2 p3 p4 p5 p6
        go_loopw [112] (fun s wr => ∃ j : Nat, j + 1 ≤ x.kids.length ∧ s = .int .i64 j ∧ Hid (RnX x (.slice A3 x.limbs.length c3) (.slice A4 x.names.length c4) (.slice (some ⟨gk, 0, none⟩) x.kids.length 1) (.slice A6 x.alts.length c6) F3 F4 F5 F6 G5 G6 x.kids.length x.alts.length (mix (fvC fr tn (hidB H fr) (hidB H fr || decide (x.name ≠ ⟨#[]⟩ ∧ x.name = fr)) x.kids) x.kids (j + 1)) (mix (fvAs fr tn (hidB H fr || decide (x.name ≠ ⟨#[]⟩ ∧ x.name = fr)) x.alts) x.alts x.alts.length) wr ∧ Blk wr g e (pre ++ ([.int .i64 8, .string x.name, .bool x.minus, .slice A3 x.limbs.length c3, .slice A4 x.names.length c4, .slice (some ⟨gk, 0, none⟩) x.kids.length 1, .slice A6 x.alts.length c6] ++ post)) ∧ CountM wr b (n + 2 * abulks x.alts + 2 * bulks (x.kids.take (j + 1))) (H) ∧ But (b :: g :: (F3 ++ (F4 ++ ((F5 ++ G5) ++ (F6 ++ G6))))) w wr ∧ Blk wr b1 9 [.string fr] ∧ Blk wr b2 9 [.string tn]) ∧ Hid (True)) (fun s _ => x.kids.length - (intOf s).toNat)
        case atStart => exact ⟨0, hke, rfl, Lib.hid (by have h := HI1.out; exact ⟨h.1, h.2.1, h.2.2.1.mono (by simp only [Nat.zero_add]; omega), h.2.2.2⟩), HE⟩
        clear HI1 HE
        case round =>
          obtain ⟨j, hj, rfl, HI, HE⟩ := hrel
          obtain ⟨p0, p1, p2, p3, p4, p5, p6⟩ := Blk.seven HI.out.2.1 HOFF.out
          by_cases hlt : j + 1 < x.kids.length
          · exfalso; omega
          · have hjj : j + 1 = x.kids.length := by omega
            have h3 := HI.out
            rw [hjj, List.take_length, mix_all (fvC_len _ _ _ _ _), mix_all (fvAs_len _ _ _ _)] at h3
            have H3 := Lib.hid h3; clear h3 HI hjj
            go_wp2_with fail
            clear p0 p1 p2 p3 p4 p5 p6
            refine ⟨_, results_none rfl _ _ _, rfl, [.int .i64 8, .string x.name, .bool x.minus, .slice A3 x.limbs.length c3, .slice A4 x.names.length c4, .slice (some ⟨gk, 0, none⟩) x.kids.length 1, .slice A6 x.alts.length c6], ?_, H3.out.2.1, H3.out.2.2.1.mono (by rw [bulk_eq]; omega), H3.out.2.2.2.1⟩
            have hrn : fv fr tn (hidB H fr) x = ⟨x.kind, x.name, x.minus, x.limbs, x.names, (fvC fr tn (hidB H fr) (hidB H fr || decide (x.name ≠ ⟨#[]⟩ ∧ x.name = fr)) x.kids), (fvAs fr tn (hidB H fr || decide (x.name ≠ ⟨#[]⟩ ∧ x.name = fr)) x.alts)⟩ := by
              have hk := HK.out
              rw [fv_eq, if_neg (by omega), if_neg (by omega), if_pos hk]
            rw [hrn]
            exact own_kind2 (H3.out.1.own _ _ _) HK.out
      · clear h
        clear p0 p1 p2 p3 p4 p5 p6
        go_loopw [112] (fun s wr => ∃ j : Nat, j + 1 ≤ x.kids.length ∧ s = .int .i64 j ∧ Hid (RnX x (.slice A3 x.limbs.length c3) (.slice A4 x.names.length c4) (.slice (some ⟨gk, 0, none⟩) x.kids.length c5) (.slice A6 x.alts.length c6) F3 F4 F5 F6 G5 G6 x.kids.length x.alts.length (mix (fvC fr tn (hidB H fr) (hidB H fr || decide (x.name ≠ ⟨#[]⟩ ∧ x.name = fr)) x.kids) x.kids (j + 1)) (mix (fvAs fr tn (hidB H fr || decide (x.name ≠ ⟨#[]⟩ ∧ x.name = fr)) x.alts) x.alts x.alts.length) wr ∧ Blk wr g e (pre ++ ([.int .i64 8, .string x.name, .bool x.minus, .slice A3 x.limbs.length c3, .slice A4 x.names.length c4, .slice (some ⟨gk, 0, none⟩) x.kids.length c5, .slice A6 x.alts.length c6] ++ post)) ∧ CountM wr b (n + 2 * abulks x.alts + 2 * bulks (x.kids.take (j + 1))) (H) ∧ But (b :: g :: (F3 ++ (F4 ++ ((F5 ++ G5) ++ (F6 ++ G6))))) w wr ∧ Blk wr b1 9 [.string fr] ∧ Blk wr b2 9 [.string tn]) ∧ Hid (True)) (fun s _ => x.kids.length - (intOf s).toNat)
        case atStart => exact ⟨0, hke, rfl, Lib.hid (by have h := HI1.out; exact ⟨h.1, h.2.1, h.2.2.1.mono (by simp only [Nat.zero_add]; omega), h.2.2.2⟩), HE⟩
        clear HI1 HE
        case round =>
          obtain ⟨j, hj, rfl, HI, HE⟩ := hrel
          obtain ⟨p0, p1, p2, p3, p4, p5, p6⟩ := Blk.seven HI.out.2.1 HOFF.out
          by_cases hlt : j + 1 < x.kids.length
          · obtain ⟨gk', cap', c1, cx, pk, Gx, hv5, hcap', hl, hblk, hox, hnx, hsub, hgF, hgx, hcl⟩ := HI.out.1.kid (k := j + 1) (by rw [mix_len (fvC_len _ _ _ _ _)]; exact hlt)
            simp only [Value.slice.injEq, Option.some.injEq, Addr.mk.injEq, and_true, true_and] at hv5
            obtain ⟨rfl, rfl⟩ := hv5
            rw [mix_get (fvC_len _ _ _ _ _) hlt] at hox
            have HBK7 := Lib.hid hblk; have HOX := Lib.hid hox; have HNX := Lib.hid (show Gx.Nodup ∧ gk ∉ Gx from ⟨hnx, hgx⟩); have HSUB := Lib.hid hsub; have HGF := Lib.hid hgF; have HCL := Lib.hid hcl; have HL := Lib.hid hl
            clear hblk hox hnx hgx hsub hgF hcl hl hcap'
            have qk0 : (0 : Int) ≤ (j : Int) := by omega
            have qk2 : 1 + (j : Int) < x.kids.length := by omega
            have HLK := Lib.hid (show bulks (x.kids.take (j + 1 + 1)) = bulks (x.kids.take (j + 1)) + (1 + bulk x.kids[j + 1]) ∧ bulks (x.kids.take (j + 1 + 1)) ≤ bulks x.kids from ⟨bulks_take _ _ hlt, bulks_take_le _ _⟩)
            go_wp2_with fail
            refine (IHK.out _ (List.getElem_mem hlt) (HKS.out _ (List.getElem_mem hlt)) (by have := mem_bulks (List.getElem_mem hlt); have := HBK.out; rw [bulk_eq] at this; omega) _ gk ((1 + j) * 7) _ c1 cx pk Gx b b1 b2 _ (H) (by have := HL.out; omega) HBK7.out HOX.out HNX.out.1 (HS.out.sub HGF.out HSUB.out HNX.out.2) HI.out.2.2.2.2.1 HI.out.2.2.2.2.2 HI.out.2.2.1 (by have h1 := HN.out; have h2 := HLK.out; rw [bulk_eq] at h1; omega)).mono ?_
            rintro en w7 ⟨rfl, cx', ho7, hb7, hm7, hbt7⟩
            have HI7 := Lib.hid (fv_step HS.out HX.out.lt HGF.out HSUB.out HI.out.2.1 HI.out.2.2.2.1 HI.out.2.2.2.2.1 HI.out.2.2.2.2.2 ho7 hb7 hm7 hbt7 HCL.out)
            have HE7 := Lib.hid (show True from trivial)
            have HI8 := Lib.hid (show RnX x (.slice A3 x.limbs.length c3) (.slice A4 x.names.length c4) (.slice (some ⟨gk, 0, none⟩) x.kids.length c5) (.slice A6 x.alts.length c6) F3 F4 F5 F6 G5 G6 x.kids.length x.alts.length (mix (fvC fr tn (hidB H fr) (hidB H fr || decide (x.name ≠ ⟨#[]⟩ ∧ x.name = fr)) x.kids) x.kids (j + 1 + 1)) (mix (fvAs fr tn (hidB H fr || decide (x.name ≠ ⟨#[]⟩ ∧ x.name = fr)) x.alts) x.alts x.alts.length) w7 ∧ Blk w7 g e (pre ++ ([.int .i64 8, .string x.name, .bool x.minus, .slice A3 x.limbs.length c3, .slice A4 x.names.length c4, .slice (some ⟨gk, 0, none⟩) x.kids.length c5, .slice A6 x.alts.length c6] ++ post)) ∧ CountM w7 b (n + 2 * abulks x.alts + 2 * bulks (x.kids.take (j + 1 + 1))) (H) ∧ But (b :: g :: (F3 ++ (F4 ++ ((F5 ++ G5) ++ (F6 ++ G6))))) w w7 ∧ Blk w7 b1 9 [.string fr] ∧ Blk w7 b2 9 [.string tn] from by
              have h := HI7.out
              rw [mix_set (fvC_len _ _ _ _ _) hlt (by rw [fvC_succ _ _ _ _ _ j hlt, ← HH2.out])] at h
              exact ⟨h.1, h.2.1, h.2.2.1.mono (by have := HLK.out; omega), h.2.2.2⟩)
            clear p0 p1 p2 p3 p4 p5 p6 ho7 hb7 hm7 hbt7 HI HE HI7 HBK7 HOX HNX HSUB HGF HCL HL
            go_wp2
            go_roundw
            case rel => exact ⟨j + 1, by omega, by go_num, HI8, HE7⟩
            case measure => simp [intOf]; omega
          · have hjj : j + 1 = x.kids.length := by omega
            have h3 := HI.out
            rw [hjj, List.take_length, mix_all (fvC_len _ _ _ _ _), mix_all (fvAs_len _ _ _ _)] at h3
            have H3 := Lib.hid h3; clear h3 HI hjj
            go_wp2_with fail
            clear p0 p1 p2 p3 p4 p5 p6
            refine ⟨_, results_none rfl _ _ _, rfl, [.int .i64 8, .string x.name, .bool x.minus, .slice A3 x.limbs.length c3, .slice A4 x.names.length c4, .slice (some ⟨gk, 0, none⟩) x.kids.length c5, .slice A6 x.alts.length c6], ?_, H3.out.2.1, H3.out.2.2.1.mono (by rw [bulk_eq]; omega), H3.out.2.2.2.1⟩
            have hrn : fv fr tn (hidB H fr) x = ⟨x.kind, x.name, x.minus, x.limbs, x.names, (fvC fr tn (hidB H fr) (hidB H fr || decide (x.name ≠ ⟨#[]⟩ ∧ x.name = fr)) x.kids), (fvAs fr tn (hidB H fr || decide (x.name ≠ ⟨#[]⟩ ∧ x.name = fr)) x.alts)⟩ := by
              have hk := HK.out
              rw [fv_eq, if_neg (by omega), if_neg (by omega), if_pos hk]
            rw [hrn]
            exact own_kind2 (H3.out.1.own _ _ _) HK.out
theorem fv_all (fr tn : ByteArray) (x : CoreT) : FvSaid fr tn x := by
  refine coreInd (FvSaid fr tn) (fun x ihk iha => ?_) x
  by_cases h1 : x.kind = 1
  · exact fv_var fr tn x h1
  by_cases h6 : x.kind = 6
  · exact fv_bind6 fr tn x h6 ihk
  by_cases h7 : x.kind = 7
  · exact fv_bind7 fr tn x h7 ihk
  by_cases h8 : x.kind = 8
  · by_cases hn : x.name = ⟨#[]⟩
    · exact fv_caseo fr tn x h8 hn ihk iha
    · exact fv_casen fr tn x h8 hn ihk iha
  exact fv_other fr tn x h1 h6 h7 h8 ihk
end Go.Proofs.Ytagfphlhahiplaa.C13
namespace Go.Proofs.Ytagfphlhahiplaa.C13
open Go.RowKit Go.Proofs.YtagfphlhahiplaaW.PrintWords Go.Proofs.Ytagfphlhahiplaa.PFnExactFormatCore
set_option linter.unusedVariables false
set_option linter.unusedSimpArgs false
/-- what is made anew behind two boxes, then written in its own blocks: below w nothing turns -/
theorem to_done {w W2 w3 w5 : World} {F : List Nat} {y : CoreT} {cs : List Value} {g : Nat} (h2 : Below w.heap.size w W2) (hgW : g < W2.heap.size) (hg : w.heap.size ≤ g) (h3 : Below W2.heap.size W2 w3) (ho : OwnC 36 80 w3 y cs F) (hF : ∀ k ∈ F, W2.heap.size ≤ k) (h5 : w3.grownBy w5 (some g)) :
    OwnC 36 80 w5 y cs F ∧ (∀ k ∈ F, w.heap.size ≤ k) ∧ Below w.heap.size w w5 :=
  ⟨own_grown ho h5 (fun k hk e => by have := hF k hk; omega), fun k hk => Nat.le_trans h2.size (hF k hk), below_grown (below_trans0 h2 h3) h5 hg⟩
set_option maxRecDepth 100000 in
set_option maxHeartbeats 4000000 in
theorem to_any (fr tn : ByteArray) (x : CoreT) (hbk : bulk x ≤ 1048576) (w : World) (cs : List Value) (hK : IC.K w x cs) :
    Calls Try.prog 32 #[.agg cs.toArray, .string fr, .string tn] w (ToPost 36 80 (rn fr tn x) w) := by
  obtain ⟨A3, a3, A4, a4, A5, a5, A6, a6, rfl, -⟩ := core_open hK
  have HK := Lib.hid hK; have HBK := Lib.hid hbk
  clear hK hbk
  simp only [cellsC]
  obtain ⟨W1, hW1, hp1, hB1, hs1⟩ := boxed w [.int .i64 x.kind, .string x.name, .bool x.minus, .slice A3 x.limbs.length a3, .slice A4 x.names.length a4, .slice A5 x.kids.length a5, .slice A6 x.alts.length a6] 36
  obtain ⟨W2, hW2, hp2, hB2, hs2⟩ := boxed W1 [.int .i64 0, .string ⟨#[]⟩, .bool false, .slice none 0 0, .slice none 0 0, .slice none 0 0, .slice none 0 0] 36
  have BP := Lib.hid (hp1.below hB2)
  have BR := Lib.hid (show Blk W2 (w.heap.size + 1) _ _ from by have h := hp2; rw [hs1] at h; exact h)
  have HB2 := Lib.hid (Below.step hB1 hB2)
  have HS2 := Lib.hid hs2
  clear hp1 hp2 hB1 hB2 hs2
  have p0 := BP.out.cell (j := 0) rfl; have p1 := BP.out.cell (j := 1) rfl; have p2 := BP.out.cell (j := 2) rfl; have p3 := BP.out.cell (j := 3) rfl; have p4 := BP.out.cell (j := 4) rfl; have p5 := BP.out.cell (j := 5) rfl; have p6 := BP.out.cell (j := 6) rfl
  subst hW2; subst hW1
  go_enter Try.func32, Try.ntmps32
  go_wp2_with fail
  refine (l13Copy_all x HBK.out _ _ ((kCore _ _).K_below HB2.out HK.out)).mono ?_
  rintro e w3 ⟨c1, F, rfl, ho, hn, hf, hb3⟩
  obtain ⟨Y3, y3, Y4, y4, Y5, y5, Y6, y6, rfl⟩ := own_open ho
  have HO := Lib.hid ho; have HN := Lib.hid hn; have HF := Lib.hid hf; have HB3 := Lib.hid hb3
  clear ho hn hf hb3 p0 p1 p2 p3 p4 p5 p6
  simp only [cellsC]
  go_wp2_with fail
  refine (rn_all fr tn x HBK.out _ _ F HO.out HN.out).mono ?_
  rintro e w4 ⟨c2, rfl, ho4, hb4⟩
  obtain ⟨Z3, z3, Z4, z4, Z5, z5, Z6, z6, rfl⟩ := own_open ho4
  have HO4 := Lib.hid ho4
  have HB4 := Lib.hid (HB3.out.trans (hb4.below HF.out HB3.out.size))
  have BR4 := Lib.hid (BR.out.below HB4.out)
  clear ho4 hb4
  simp only [cellsC]
  go_wp2_with (refine wpList_store_blk (w.heap.size + 1) 0 [] [.int .i64 0, .string ⟨#[]⟩, .bool false, .slice none 0 0, .slice none 0 0, .slice none 0 0, .slice none 0 0] [] [.int .i64 (rn fr tn x).kind, .string (rn fr tn x).name, .bool (rn fr tn x).minus, .slice Z3 (rn fr tn x).limbs.length z3, .slice Z4 (rn fr tn x).names.length z4, .slice Z5 (rn fr tn x).kids.length z5, .slice Z6 (rn fr tn x).alts.length z6] 36 (by rfl) 36 _ _ (by rfl) (by rfl) rfl (by rfl) BR4.out rfl (by kernel_rfl) ?honez ?_)
  case honez => intro v hv; simp at hv; rcases hv with rfl | rfl | rfl | rfl | rfl | rfl | rfl <;> rfl
  intro w5 hblk5 hg5 hsz5
  have q0 := hblk5.cell (j := 0) rfl; have q1 := hblk5.cell (j := 1) rfl; have q2 := hblk5.cell (j := 2) rfl; have q3 := hblk5.cell (j := 3) rfl; have q4 := hblk5.cell (j := 4) rfl; have q5 := hblk5.cell (j := 5) rfl; have q6 := hblk5.cell (j := 6) rfl
  have HG5 := Lib.hid hg5
  clear hblk5 hg5
  go_wp2
  refine bodyPost_ret (v := .agg #[.int .i64 (rn fr tn x).kind, .string (rn fr tn x).name, .bool (rn fr tn x).minus, .slice Z3 (rn fr tn x).limbs.length z3, .slice Z4 (rn fr tn x).names.length z4, .slice Z5 (rn fr tn x).kids.length z5, .slice Z6 (rn fr tn x).alts.length z6]) (by simp [results, Try.results32, go_sem, q0, q1, q2, q3, q4, q5, q6]) rfl ⟨_, F, rfl, ?_, ?_, ?_, ?_⟩
  · exact (to_done HB2.out BR.out.lt (by omega) HB4.out HO4.out HF.out HG5.out).1
  · exact HN.out
  · exact (to_done HB2.out BR.out.lt (by omega) HB4.out HO4.out HF.out HG5.out).2.1
  · exact (to_done HB2.out BR.out.lt (by omega) HB4.out HO4.out HF.out HG5.out).2.2
/-- what Rename answers -/
noncomputable def renT (fr tn : ByteArray) (x : CoreT) : CoreT := if dec (Good x) = true ∧ tn ≠ ⟨#[]⟩ then rn fr tn x else x
set_option maxRecDepth 100000 in
set_option maxHeartbeats 4000000 in
theorem specRename (fr tn : ByteArray) (x : CoreT) (hbk : bulk x ≤ 1048576) (w : World) (cs : List Value) (hK : IC.K w x cs) :
    Calls Try.prog 10 #[.agg cs.toArray, .string fr, .string tn] w (ToPost 36 80 (renT fr tn x) w) := by
  obtain ⟨A3, a3, A4, a4, A5, a5, A6, a6, rfl, -⟩ := core_open hK
  have HK := Lib.hid hK; have HBK := Lib.hid hbk
  clear hK hbk
  simp only [cellsC]
  obtain ⟨W1, hW1, hp1, hB1, hs1⟩ := boxed w [.int .i64 x.kind, .string x.name, .bool x.minus, .slice A3 x.limbs.length a3, .slice A4 x.names.length a4, .slice A5 x.kids.length a5, .slice A6 x.alts.length a6] 36
  obtain ⟨W2, hW2, hp2, hB2, hs2⟩ := boxed W1 [.int .i64 0, .string ⟨#[]⟩, .bool false, .slice none 0 0, .slice none 0 0, .slice none 0 0, .slice none 0 0] 36
  have BP := Lib.hid (hp1.below hB2)
  have BR := Lib.hid (show Blk W2 (w.heap.size + 1) _ _ from by have h := hp2; rw [hs1] at h; exact h)
  have HB2 := Lib.hid (Below.step hB1 hB2)
  have HS2 := Lib.hid hs2
  clear hp1 hp2 hB1 hB2 hs2
  have p0 := BP.out.cell (j := 0) rfl; have p1 := BP.out.cell (j := 1) rfl; have p2 := BP.out.cell (j := 2) rfl; have p3 := BP.out.cell (j := 3) rfl; have p4 := BP.out.cell (j := 4) rfl; have p5 := BP.out.cell (j := 5) rfl; have p6 := BP.out.cell (j := 6) rfl
  subst hW2; subst hW1
  go_enter Try.func10, Try.ntmps10
  go_wp2_with fail
  refine (specFault x HBK.out _ _ ((kCore _ _).K_below HB2.out HK.out)).mono ?_
  rintro e wf ⟨f, rfl, hgood, hbf⟩
  have HBF := Lib.hid (below_trans0 HB2.out hbf)
  have BPF := Lib.hid (BP.out.below hbf)
  have BRF := Lib.hid (BR.out.below hbf)
  clear p0 p1 p2 p3 p4 p5 p6 hbf
  have p0 := BPF.out.cell (j := 0) rfl; have p1 := BPF.out.cell (j := 1) rfl; have p2 := BPF.out.cell (j := 2) rfl; have p3 := BPF.out.cell (j := 3) rfl; have p4 := BPF.out.cell (j := 4) rfl; have p5 := BPF.out.cell (j := 5) rfl; have p6 := BPF.out.cell (j := 6) rfl
  by_cases hg : Good x
  · obtain rfl := hgood.2 hg
    by_cases he : tn = ⟨#[]⟩
    · subst he
      have HR := Lib.hid (show renT fr ⟨#[]⟩ x = x from if_neg (fun h => h.2 rfl))
      clear hgood hg
      go_wp2_with fail
      refine (l13Copy_all x HBK.out _ _ ((kCore _ _).K_below HBF.out HK.out)).mono ?_
      rintro e w3 ⟨c1, F, rfl, ho, hn, hf, hb3⟩
      obtain ⟨Z3, z3, Z4, z4, Z5, z5, Z6, z6, rfl⟩ := own_open ho
      have HO4 := Lib.hid ho; have HN := Lib.hid hn; have HF := Lib.hid hf; have HB4 := Lib.hid hb3
      have BR4 := Lib.hid (BRF.out.below hb3)
      clear ho hn hf hb3 p0 p1 p2 p3 p4 p5 p6
      simp only [cellsC]
      go_wp2_with (refine wpList_store_blk (w.heap.size + 1) 0 [] [.int .i64 0, .string ⟨#[]⟩, .bool false, .slice none 0 0, .slice none 0 0, .slice none 0 0, .slice none 0 0] [] [.int .i64 x.kind, .string x.name, .bool x.minus, .slice Z3 x.limbs.length z3, .slice Z4 x.names.length z4, .slice Z5 x.kids.length z5, .slice Z6 x.alts.length z6] 36 (by rfl) 36 _ _ (by rfl) (by rfl) rfl (by rfl) BR4.out rfl (by kernel_rfl) ?honez ?_)
      case honez => intro v hv; simp at hv; rcases hv with rfl | rfl | rfl | rfl | rfl | rfl | rfl <;> rfl
      intro w5 hblk5 hg5 hsz5
      have q0 := hblk5.cell (j := 0) rfl; have q1 := hblk5.cell (j := 1) rfl; have q2 := hblk5.cell (j := 2) rfl; have q3 := hblk5.cell (j := 3) rfl; have q4 := hblk5.cell (j := 4) rfl; have q5 := hblk5.cell (j := 5) rfl; have q6 := hblk5.cell (j := 6) rfl
      have HG5 := Lib.hid hg5
      clear hblk5 hg5
      go_wp2
      refine bodyPost_ret (v := .agg #[.int .i64 x.kind, .string x.name, .bool x.minus, .slice Z3 x.limbs.length z3, .slice Z4 x.names.length z4, .slice Z5 x.kids.length z5, .slice Z6 x.alts.length z6]) (by simp [results, Try.results10, go_sem, q0, q1, q2, q3, q4, q5, q6]) rfl ⟨_, F, rfl, ?_, ?_, ?_, ?_⟩
      · rw [HR.out]; exact (to_done HBF.out BRF.out.lt (by omega) HB4.out HO4.out HF.out HG5.out).1
      · exact HN.out
      · exact (to_done HBF.out BRF.out.lt (by omega) HB4.out HO4.out HF.out HG5.out).2.1
      · exact (to_done HBF.out BRF.out.lt (by omega) HB4.out HO4.out HF.out HG5.out).2.2
    · have HR := Lib.hid (show renT fr tn x = rn fr tn x from if_pos ⟨dec_true hg, he⟩)
      obtain ⟨q1, q2⟩ := str_some he
      clear hgood hg he
      go_wp2_with fail
      clear q1 q2
      refine (to_any fr tn x HBK.out _ _ ((kCore _ _).K_below HBF.out HK.out)).mono ?_
      rintro e w3 ⟨c1, F, rfl, ho, hn, hf, hb3⟩
      obtain ⟨Z3, z3, Z4, z4, Z5, z5, Z6, z6, rfl⟩ := own_open ho
      have HO4 := Lib.hid ho; have HN := Lib.hid hn; have HF := Lib.hid hf; have HB4 := Lib.hid hb3
      have BR4 := Lib.hid (BRF.out.below hb3)
      clear ho hn hf hb3 p0 p1 p2 p3 p4 p5 p6
      simp only [cellsC]
      go_wp2_with (refine wpList_store_blk (w.heap.size + 1) 0 [] [.int .i64 0, .string ⟨#[]⟩, .bool false, .slice none 0 0, .slice none 0 0, .slice none 0 0, .slice none 0 0] [] [.int .i64 (rn fr tn x).kind, .string (rn fr tn x).name, .bool (rn fr tn x).minus, .slice Z3 (rn fr tn x).limbs.length z3, .slice Z4 (rn fr tn x).names.length z4, .slice Z5 (rn fr tn x).kids.length z5, .slice Z6 (rn fr tn x).alts.length z6] 36 (by rfl) 36 _ _ (by rfl) (by rfl) rfl (by rfl) BR4.out rfl (by kernel_rfl) ?honez ?_)
      case honez => intro v hv; simp at hv; rcases hv with rfl | rfl | rfl | rfl | rfl | rfl | rfl <;> rfl
      intro w5 hblk5 hg5 hsz5
      have q0 := hblk5.cell (j := 0) rfl; have q1 := hblk5.cell (j := 1) rfl; have q2 := hblk5.cell (j := 2) rfl; have q3 := hblk5.cell (j := 3) rfl; have q4 := hblk5.cell (j := 4) rfl; have q5 := hblk5.cell (j := 5) rfl; have q6 := hblk5.cell (j := 6) rfl
      have HG5 := Lib.hid hg5
      clear hblk5 hg5
      go_wp2
      refine bodyPost_ret (v := .agg #[.int .i64 (rn fr tn x).kind, .string (rn fr tn x).name, .bool (rn fr tn x).minus, .slice Z3 (rn fr tn x).limbs.length z3, .slice Z4 (rn fr tn x).names.length z4, .slice Z5 (rn fr tn x).kids.length z5, .slice Z6 (rn fr tn x).alts.length z6]) (by simp [results, Try.results10, go_sem, q0, q1, q2, q3, q4, q5, q6]) rfl ⟨_, F, rfl, ?_, ?_, ?_, ?_⟩
      · rw [HR.out]; exact (to_done HBF.out BRF.out.lt (by omega) HB4.out HO4.out HF.out HG5.out).1
      · exact HN.out
      · exact (to_done HBF.out BRF.out.lt (by omega) HB4.out HO4.out HF.out HG5.out).2.1
      · exact (to_done HBF.out BRF.out.lt (by omega) HB4.out HO4.out HF.out HG5.out).2.2
  · have hf0 : ¬ f = 0 := fun h => hg (hgood.1 h)
    have hf1 : (f == 0) = false := beq_eq_false_iff_ne.2 hf0
    have HR := Lib.hid (show renT fr tn x = x from if_neg (fun h => hg (dec_iff.1 h.1)))
    clear hgood hg
    go_wp2_with fail
    clear hf0 hf1
    refine (l13Copy_all x HBK.out _ _ ((kCore _ _).K_below HBF.out HK.out)).mono ?_
    rintro e w3 ⟨c1, F, rfl, ho, hn, hf, hb3⟩
    obtain ⟨Z3, z3, Z4, z4, Z5, z5, Z6, z6, rfl⟩ := own_open ho
    have HO4 := Lib.hid ho; have HN := Lib.hid hn; have HF := Lib.hid hf; have HB4 := Lib.hid hb3
    have BR4 := Lib.hid (BRF.out.below hb3)
    clear ho hn hf hb3 p0 p1 p2 p3 p4 p5 p6
    simp only [cellsC]
    go_wp2_with (refine wpList_store_blk (w.heap.size + 1) 0 [] [.int .i64 0, .string ⟨#[]⟩, .bool false, .slice none 0 0, .slice none 0 0, .slice none 0 0, .slice none 0 0] [] [.int .i64 x.kind, .string x.name, .bool x.minus, .slice Z3 x.limbs.length z3, .slice Z4 x.names.length z4, .slice Z5 x.kids.length z5, .slice Z6 x.alts.length z6] 36 (by rfl) 36 _ _ (by rfl) (by rfl) rfl (by rfl) BR4.out rfl (by kernel_rfl) ?honez ?_)
    case honez => intro v hv; simp at hv; rcases hv with rfl | rfl | rfl | rfl | rfl | rfl | rfl <;> rfl
    intro w5 hblk5 hg5 hsz5
    have q0 := hblk5.cell (j := 0) rfl; have q1 := hblk5.cell (j := 1) rfl; have q2 := hblk5.cell (j := 2) rfl; have q3 := hblk5.cell (j := 3) rfl; have q4 := hblk5.cell (j := 4) rfl; have q5 := hblk5.cell (j := 5) rfl; have q6 := hblk5.cell (j := 6) rfl
    have HG5 := Lib.hid hg5
    clear hblk5 hg5
    go_wp2
    refine bodyPost_ret (v := .agg #[.int .i64 x.kind, .string x.name, .bool x.minus, .slice Z3 x.limbs.length z3, .slice Z4 x.names.length z4, .slice Z5 x.kids.length z5, .slice Z6 x.alts.length z6]) (by simp [results, Try.results10, go_sem, q0, q1, q2, q3, q4, q5, q6]) rfl ⟨_, F, rfl, ?_, ?_, ?_, ?_⟩
    · rw [HR.out]; exact (to_done HBF.out BRF.out.lt (by omega) HB4.out HO4.out HF.out HG5.out).1
    · exact HN.out
    · exact (to_done HBF.out BRF.out.lt (by omega) HB4.out HO4.out HF.out HG5.out).2.1
    · exact (to_done HBF.out BRF.out.lt (by omega) HB4.out HO4.out HF.out HG5.out).2.2
end Go.Proofs.Ytagfphlhahiplaa.C13
