import Derived.Test.YtnoammmohdmnjaaGreatU18
set_option maxRecDepth 100000
set_option maxHeartbeats 16000000
set_option linter.unusedVariables false
set_option linter.unusedSimpArgs false
namespace Go.Proofs.YtnoammmohdmnjaaGreat.C13
open Go.RowKit Go.Proofs.YtnoammmohdmnjaaGreatW.PrintWords Go.WideMaps Go.Maps
open List renaming setIfInBounds_toArray → Jla, set_cons_zero → Jlb, set_cons_succ → Jlc
def nIn (l : List ByteArray) (s : ByteArray) : Nat := (l.filter (fun t => decide (t = s))).length
theorem qtb (s : ByteArray) : nIn [] s = 0 := rfl
theorem qjn (l : List ByteArray) (t s : ByteArray) : nIn (l ++ [t]) s = nIn l s + (if t = s then 1 else 0) := by
 unfold nIn
 rw [List.filter_append, List.length_append]
 by_cases h : t = s <;> simp [h]
theorem qos (l : List ByteArray) (t s : ByteArray) : nIn (t :: l) s = (if t = s then 1 else 0) + nIn l s := by
 unfold nIn
 by_cases h : t = s <;> simp [h]; omega
theorem Vb (l : List ByteArray) (s : ByteArray) (k : Nat) : nIn (l.take k) s ≤ nIn l s := by
 induction l generalizing k with
 | nil => simp
 | cons t r ih =>
  cases k with
  | zero => simp [qtb]
  | succ k => rw [List.take_succ_cons, qos, qos]; have := ih k; omega
theorem qnc {l : List ByteArray} {s : ByteArray} : 0 < nIn l s ↔ s ∈ l := by
 unfold nIn
 rw [List.length_pos_iff_exists_mem]
 constructor
 ·rintro ⟨t, ht⟩
  rw [List.mem_filter] at ht
  have := of_decide_eq_true ht.2
  exact this ▸ ht.1
 ·intro h
  exact ⟨s, List.mem_filter.2 ⟨h, by simp⟩⟩
def Xh (H : ByteArray → Int) (by_ : Int) (l : List ByteArray) : ByteArray → Int := fun s => H s + by_ * (nIn l s : Int)
theorem qvl (H : ByteArray → Int) (by_ : Int) : Xh H by_ [] = H := by funext s; simp [Xh, qtb]
theorem Vf (H : ByteArray → Int) (l : List ByteArray) : Xh (Xh H 1 l) (-1) l = H := by funext s; simp only [Xh]; omega
def CountM (w : World) (b n : Nat) (H : ByteArray → Int) : Prop :=
 (∃ D, w.ownsMap Tryz.prog 9 (plainElem (H := Unit) Tryz.prog 3) b n D ∧ IsMap D ∧ ∀ s : ByteArray, s.size ≤ maxLen → D.atKey (qhe s) (.lit (.int .i64 0)) = .lit (.int .i64 (H s))) ∧ ∀ s, 0 ≤ H s ∧ H s ≤ n
theorem zeroI (w : World) : (zeroValue 3).run Tryz.prog w = .ok (.int .i64 0) w := by kernel_rfl
theorem CountM.look {w : World} {b n : Nat} {H : ByteArray → Int} (h : CountM w b n H) {s : ByteArray} (hs : s.size ≤ maxLen) :
  (Instr.lookup 56 (.map (some b)) (.string s) false).run Tryz.prog w = .ok (.int .i64 (H s)) w := by
 obtain ⟨⟨D, hm, hD, hat⟩, _⟩ := h
 obtain ⟨c, hrun, hc, _⟩ := hm.lookup_int keyS Tryz.underlying56 Tryz.underlying3 (zeroI w) (Uj hs)
 rw [hat s hs] at hc
 injection hc with hc
 injection hc with _ hc
 rw [hrun, hc]
theorem CountM.mono {w : World} {b n n' : Nat} {H : ByteArray → Int} (h : CountM w b n H) (hn : n ≤ n') : CountM w b n' H := by
 obtain ⟨⟨D, hm, hD, hat⟩, hH⟩ := h
 exact ⟨⟨D, hm.mono hn, hD, hat⟩, fun s => ⟨(hH s).1, by have := (hH s).2; omega⟩⟩
theorem CountM.lt {w : World} {b n : Nat} {H : ByteArray → Int} (h : CountM w b n H) : b < w.heap.size := by obtain ⟨⟨D, hm, _⟩, _⟩ := h; exact hm.lt
theorem CountM.move {w w' : World} {b n : Nat} {H : ByteArray → Int} (h : CountM w b n H) (hb : w'.heap[b]? = w.heap[b]?) : CountM w' b n H := by
 obtain ⟨⟨D, ⟨es, clock, h1, h2⟩, hD, hat⟩, hH⟩ := h
 exact ⟨⟨D, ⟨es, clock, hb.trans h1, h2⟩, hD, hat⟩, hH⟩
theorem CountM.far {w : World} {b n : Nat} {H : ByteArray → Int} (h : CountM w b n H) {a : Addr} {v : Value} (ha : w.cell? a = some v) : a.block ≠ b := by
 obtain ⟨⟨D, ⟨es, clock, h1, _⟩, _⟩, _⟩ := h
 intro e
 subst e
 simp [World.cell?, h1] at ha
theorem CountM.made (w : World) : CountM (w.alloc (.map #[] 0)) w.heap.size 0 (fun _ => 0) :=
 ⟨⟨_, World.ownsMap_made w _ _ _, ⟨_, rfl⟩, fun s _ => rfl⟩, fun s => ⟨Int.le_refl _, Int.le_refl _⟩⟩
theorem qjk {s t : ByteArray} (h : t ≠ s) : qhe s ≠ qhe t := fun e => h (qoq e).symm
theorem wf64 {a : Int} (h1 : -4000000000000 ≤ a) (h2 : a ≤ 4000000000000) : (Lit.int .i64 a).wf = true := by
 have e1 : IntKind.i64.min = -9223372036854775808 := by decide
 have e2 : IntKind.i64.max = 9223372036854775807 := by decide
 simp only [Lit.wf, Bool.and_eq_true, decide_eq_true_eq]
 omega
theorem qkj (H : ByteArray → Int) (by_ : Int) (l : List ByteArray) (t s : ByteArray) : Xh H by_ (l ++ [t]) s = Xh H by_ l s + (if t = s then by_ else 0) := by
 simp only [Xh, qjn]
 by_cases h : t = s
 ·rw [if_pos h, if_pos h, show ((nIn l s + 1 : Nat) : Int) = (nIn l s : Int) + 1 by omega, Int.mul_add]; omega
 ·rw [if_neg h, if_neg h, Nat.add_zero, Int.add_zero]
theorem qpt {w1 : World} {b n k : Nat} {H : ByteArray → Int} {by_ : Int} {l : List ByteArray} {D : DataW Unit} {cc : Int} {hk : k < l.length} (h1 : by_ ≤ 1) (hD : IsMap D) (hat : ∀ s : ByteArray, s.size ≤ maxLen → D.atKey (qhe s) (.lit (.int .i64 0)) = .lit (.int .i64 (Xh H by_ (l.take k) s))) (hH : ∀ s, 0 ≤ Xh H by_ (l.take k) s ∧ Xh H by_ (l.take k) s ≤ ((n + k : Nat) : Int))
  (hown : w1.ownsMap Tryz.prog 9 (plainElem (H := Unit) Tryz.prog 3) b (n + k + 1) (D.put (qhe l[k]) (.lit (.int .i64 (cc + by_))))) (hs : l.take (k + 1) = l.take k ++ [l[k]]) (hcc : cc = Xh H by_ (l.take k) l[k]) (hP : ∀ s, 0 ≤ H s + by_ * (nIn l s : Int) ∧ ∀ k, 0 ≤ H s + by_ * (nIn (l.take k) s : Int)) : CountM w1 b (n + (k + 1)) (Xh H by_ (l.take (k + 1))) := by
 refine ⟨⟨_, hown, ?_, fun s hsz => ?_⟩, fun s => ⟨(hP s).2 (k + 1), ?_⟩⟩
 ·obtain ⟨es, rfl⟩ := hD
  exact ⟨_, rfl⟩
 ·rw [hs, qkj]
  by_cases h : l[k] = s
  ·subst h
   rw [atKey_put_same hD (keyS.key (Uj hsz)), if_pos rfl, hcc]
  ·rw [atKey_put_other (qjk h), hat s hsz, if_neg h, Int.add_zero]
 ·rw [hs, qkj]
  have := (hH s).2
  split <;> omega
theorem f124 {p : Prop} (h : p := by
 have hkk : k = l.length := by omega
 have hm := HM.out
 rw [hkk, List.take_length] at hm
 have HMK := Wd hm; clear hm hkk
 go_wp2
 go_end0
 exact ⟨rfl, HMK.out, HG.out⟩) : p := h
theorem f125 {p : Prop} (h : p := by
 go_wp2
 go_roundw
 case rel => exact ⟨k + 1, by omega, by go_num, HM1, HG1⟩
 case measure => simp [intOf]; omega) : p := h
theorem f14 {p : Prop} (h : p := by
 go_wp2_with fail
 go_loopw [10] (fun s10 wr => ∃ k : Nat, k ≤ l.length ∧ s10 = .int .i64 k ∧ Hid (CountM wr b (n + k) (Xh H by_ (l.take k))) ∧ Hid (w.grownBy wr (some b))) (fun s10 _ => l.length - (intOf s10).toNat)
 case atStart => exact ⟨0, Nat.zero_le _, rfl, Wd (by rw [List.take_zero, qvl]; exact HM0.out), Wd ⟨rfl, rfl, rfl, Nat.le_refl _, fun _ _ _ => rfl⟩⟩
 case round =>
  obtain ⟨k, hk, rfl, HM, HG⟩ := hrel
  by_cases hlt : k < l.length
  ·obtain ⟨ad, rfl, g0'⟩ := Xy HR.out k hlt
   have g0 := HG.out.cell_far _ (World.block_lt_of_cell? w _ g0') (fun e => HM0.out.far g0' (by injection e)) |>.trans g0'
   have hsz : l[k].size ≤ 274877906944 := HL.out _ (List.getElem_mem hlt)
   have hrun := HM.out.look (s := l[k]) (by unfold maxLen; omega)
   have hb1 := (HM.out.2 l[k])
   have hv := (HP.out l[k]).2 (k + 1)
   have HSN := Wd (Qf hlt)
   have hsn2 : H l[k] + by_ * (nIn (l.take (k + 1)) l[k] : Int) = Xh H by_ (l.take k) l[k] + by_ := by rw [HSN.out, qjn, if_pos rfl]; simp only [Xh]; rw [show ((nIn (l.take k) l[k] + 1 : Nat) : Int) = (nIn (l.take k) l[k] : Int) + 1 by omega, Int.mul_add]; omega
   rw [hsn2] at hv
   have HSZ := Wd hsz; have HV := Wd hsn2; clear hsn2 hsz g0'
   obtain ⟨cc, hcc⟩ : ∃ cc, cc = Xh H by_ (l.take k) l[k] := ⟨_, rfl⟩
   rw [← hcc] at hrun hb1 hv
   have HCC := Wd hcc; clear hcc
   have hw1 : 0 ≤ cc := hb1.1
   have hw2 : cc ≤ 1000000000000 := by have := hb1.2; omega
   clear hb1
   have hkey := Wd (Uj (s := l[k]) (by have := HSZ.out; unfold maxLen; omega))
   obtain ⟨⟨D, hD0, hD1, hD2⟩, hH⟩ := HM.out
   have ⟨HD0, HD1, HD2, HH⟩ := Wj hD0 hD1 hD2 hH
   clear hD0 hD1 hD2 hH
   go_wp2_with (at_mapUpdate; refine wpList_mapUpdate_own _ rfl _ _ _ 56 rfl 9 3 keyS Tryz.underlying56 _ b (n + k) D rfl HD0.out (by unfold maxLen; omega) _ (.int .i64 (cc + by_)) _ rfl rfl hkey.out _ [] (plainElem_int Tryz.underlying3 (wf64 (by omega) (by omega))) ?_)
   intro w1 hown1 hg1
   have HM1 := Wd (show CountM w1 b (n + (k + 1)) (Xh H by_ (l.take (k + 1))) from qpt h1.2 HD1.out HD2.out HH.out hown1 HSN.out HCC.out HP.out)
   have HG1 := Wd (HG.out.trans hg1)
   clear hrun hown1 hg1 g0 hv hw1 hw2 HD0 HD1 HD2 HH
   exact f125
  ·exact f124) : p := h
theorem Yw (l : List ByteArray) (hl : ∀ s ∈ l, s.size ≤ 274877906944) (by_ : Int) (h1 : -1 ≤ by_ ∧ by_ ≤ 1) (b n : Nat) (H : ByteArray → Int) (hn : n + l.length ≤ 1000000000000) (hpos : ∀ s, 0 ≤ H s + by_ * (nIn l s : Int) ∧ ∀ k, 0 ≤ H s + by_ * (nIn (l.take k) s : Int)) (A : Option Addr) (c : Nat) (w : World) (hr : Kd.string.C w A l.length l) (hc : l.length ≤ c) (hm : CountM w b n H) : Calls Tryz.prog 57 #[.map (some b), .int .i64 by_, .slice A l.length c] w fun e w' => e = .returned (.tuple #[]) ∧ CountM w' b (n + l.length) (Xh H by_ l) ∧ w.grownBy w' (some b) := by
 have ⟨HR, HL, HM0, HP⟩ := Wj hr hl hm hpos
 clear hr hl hm hpos
 go_enter Tryz.func57, Tryz.ntmps57
 exact f14
theorem Yg (l : List ByteArray) (hl : ∀ s ∈ l, s.size ≤ 274877906944) (by_ : Int) (h1 : -1 ≤ by_ ∧ by_ ≤ 1) (b n : Nat) (H : ByteArray → Int) (hn : n + l.length ≤ 1000000000000) (hpos : ∀ s, 0 ≤ H s + by_ * (nIn l s : Int) ∧ ∀ k, 0 ≤ H s + by_ * (nIn (l.take k) s : Int)) (A : Option Addr) (c : Nat) (u : FrameMode) (w : World) (hr : Kd.string.C w A l.length l) (hc : l.length ≤ c) (hm : CountM w b n H) : CallsD Tryz.prog 57 #[.map (some b), .int .i64 by_, .slice A l.length c] u w fun e u' w' => u' = u ∧ (e = .returned (.tuple #[]) ∧ CountM w' b (n + l.length) (Xh H by_ l) ∧ w.grownBy w' (some b)) := by
 have ⟨HR, HL, HM0, HP⟩ := Wj hr hl hm hpos
 clear hr hl hm hpos
 go_enter_d Tryz.func57, Tryz.ntmps57
 exact f14
end Go.Proofs.YtnoammmohdmnjaaGreat.C13
namespace Go.Proofs.YtnoammmohdmnjaaGreat.C13
open Go.RowKit Go.Proofs.YtnoammmohdmnjaaGreatW.PrintWords
open List renaming setIfInBounds_toArray → Jla, set_cons_zero → Jlb, set_cons_succ → Jlc
theorem Yx {ops : Array Oper} {rest : List Oper} {dst : Option Tmp} {type : TypeId} {pos : String} {after : Array Edge} {a : Act} {w : World} {Q : Exit → Act → World → Prop} (x : Operand) (s : ByteArray) (hx : a.eval x = .string s)
  (h : ∀ w', Blk w' w.heap.size 9 [.string s] → Below w.heap.size w w' → w'.heap.size = w.heap.size + 1 → wpList Tryz.prog ops Q rest (a.put dst (.slice (some ⟨w.heap.size, 0, none⟩) 1 1)) w') :
  wpList Tryz.prog ops Q ({ dst, op := .buildSlice 25 1 #[(0, x)], type, pos, after, guard := none } :: rest) a w := by
 refine wpList_plain rfl fun K hK => ?_
 have h' := h (w.alloc (.cells #[.string s] 9)) (Jm w _ _) ((Below.refl _ _).alloc (Nat.le_refl _) _) (by simp)
 unfold Oper.wp
 rw [execOp_congr (ρ' := fun _ => .string s) _ (by intro cs b h; cases h) (by intro y hy; simp [Op.operands] at hy; rw [hy]; exact hx)]
 clear hx
 have h2 := hK _ _ h'
 clear hK h'
 go_simp
 exact h2
end Go.Proofs.YtnoammmohdmnjaaGreat.C13
