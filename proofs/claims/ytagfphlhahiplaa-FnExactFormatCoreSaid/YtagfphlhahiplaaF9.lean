/- Part of the proof that FnExactFormatCore answers true at every term. -/
import Derived.Shelf.Strings.Builder1
import Derived.Shelf.Strings.Builder2
import Derived.Shelf.Strings.BuilderF
import Derived.Shelf.Strings.BuilderK
import Derived.Shelf.Strings.OnBuilder
import Derived.Test.YtagfphlhahiplaaProg
import Derived.Test.YtagfphlhahiplaaF8
namespace Go.Proofs.Ytagfphlhahiplaa.C13
open Go.Shelf
set_option linter.unusedVariables false
def ren : Go.Shelf.Ren := ⟨fun | 156 => 60 | 165 => 79 | 166 => 57 | 167 => 56 | 169 => 26 | 240 => 74 | 241 => 87 | 276 => 86 | 277 => 88 | n => n, fun | 31 => 25 | 9 => 9 | 3 => 3 | 4 => 4 | 0 => 0 | 20 => 20 | 72 => 56 | 76 => 93 | 70 => 54 | 37 => 48 | 75 => 90 | 127 => 96 | 164 => 132 | 5 => 5 | 80 => 59 | n => n, fun | n => n⟩
theorem lay166 : Go.Proofs.Lays.n166 Try.prog ren := {
  mixed := by kernel_rfl
  f166 := Try.func57.trans (congrArg some (by kernel_rfl))
  f240 := Try.func74.trans (congrArg some (by kernel_rfl))
  f276 := Try.func86.trans (congrArg some (by kernel_rfl))
  t0 := Try.underlying0
  a0 := Try.isAgg0
  z0 := Try.sizeOf0
  v0 := Try.zeroValue0
  t3 := Try.underlying3
  a3 := Try.isAgg3
  z3 := Try.sizeOf3
  v3 := Try.zeroValue3
  t4 := Try.underlying4
  a4 := Try.isAgg4
  z4 := Try.sizeOf4
  v4 := Try.zeroValue4
  t9 := Try.underlying9
  a9 := Try.isAgg9
  z9 := Try.sizeOf9
  v9 := Try.zeroValue9
  t20 := Try.underlying20
  a20 := Try.isAgg20
  z20 := Try.sizeOf20
  v20 := Try.zeroValue20
  t37 := Try.underlying48
  a37 := Try.isAgg48
  z37 := Try.sizeOf48
  v37 := Try.zeroValue48
  t70 := Try.underlying54
  a70 := Try.isAgg54
  z70 := Try.sizeOf54
  v70 := Try.zeroValue54
  t72 := Try.underlying56
  a72 := Try.isAgg56
  z72 := Try.sizeOf56
  v72 := Try.zeroValue56
  t75 := Try.underlying90
  a75 := Try.isAgg90
  z75 := Try.sizeOf90
  v75 := Try.zeroValue90
  t164 := Try.underlying132
  a164 := Try.isAgg132
  z164 := Try.sizeOf132
  v164 := Try.zeroValue132 }
theorem lay167 : Go.Proofs.Lays.n167 Try.prog ren := {
  mixed := by kernel_rfl
  f167 := Try.func56.trans (congrArg some (by kernel_rfl))
  f240 := Try.func74.trans (congrArg some (by kernel_rfl))
  f276 := Try.func86.trans (congrArg some (by kernel_rfl))
  t0 := Try.underlying0
  a0 := Try.isAgg0
  z0 := Try.sizeOf0
  v0 := Try.zeroValue0
  t4 := Try.underlying4
  a4 := Try.isAgg4
  z4 := Try.sizeOf4
  v4 := Try.zeroValue4
  t5 := Try.underlying5
  a5 := Try.isAgg5
  z5 := Try.sizeOf5
  v5 := Try.zeroValue5
  t9 := Try.underlying9
  a9 := Try.isAgg9
  z9 := Try.sizeOf9
  v9 := Try.zeroValue9
  t20 := Try.underlying20
  a20 := Try.isAgg20
  z20 := Try.sizeOf20
  v20 := Try.zeroValue20
  t37 := Try.underlying48
  a37 := Try.isAgg48
  z37 := Try.sizeOf48
  v37 := Try.zeroValue48
  t70 := Try.underlying54
  a70 := Try.isAgg54
  z70 := Try.sizeOf54
  v70 := Try.zeroValue54
  t72 := Try.underlying56
  a72 := Try.isAgg56
  z72 := Try.sizeOf56
  v72 := Try.zeroValue56
  t75 := Try.underlying90
  a75 := Try.isAgg90
  z75 := Try.sizeOf90
  v75 := Try.zeroValue90
  t164 := Try.underlying132
  a164 := Try.isAgg132
  z164 := Try.sizeOf132
  v164 := Try.zeroValue132 }
theorem lay169 : Go.Proofs.Lays.n169 Try.prog ren := {
  mixed := by kernel_rfl
  f169 := Try.func26.trans (congrArg some (by kernel_rfl))
  t0 := Try.underlying0
  a0 := Try.isAgg0
  z0 := Try.sizeOf0
  v0 := Try.zeroValue0
  t3 := Try.underlying3
  a3 := Try.isAgg3
  z3 := Try.sizeOf3
  v3 := Try.zeroValue3
  t9 := Try.underlying9
  a9 := Try.isAgg9
  z9 := Try.sizeOf9
  v9 := Try.zeroValue9
  t37 := Try.underlying48
  a37 := Try.isAgg48
  z37 := Try.sizeOf48
  v37 := Try.zeroValue48
  t70 := Try.underlying54
  a70 := Try.isAgg54
  z70 := Try.sizeOf54
  v70 := Try.zeroValue54
  t72 := Try.underlying56
  a72 := Try.isAgg56
  z72 := Try.sizeOf56
  v72 := Try.zeroValue56
  t127 := Try.underlying96
  a127 := Try.isAgg96
  z127 := Try.sizeOf96
  v127 := Try.zeroValue96 }
theorem lay156 : Go.Proofs.Lays.n156 Try.prog ren := {
  mixed := by kernel_rfl
  f156 := Try.func60.trans (congrArg some (by kernel_rfl))
  f165 := Try.func79.trans (congrArg some (by kernel_rfl))
  f166 := Try.func57.trans (congrArg some (by kernel_rfl))
  f169 := Try.func26.trans (congrArg some (by kernel_rfl))
  f240 := Try.func74.trans (congrArg some (by kernel_rfl))
  f241 := Try.func87.trans (congrArg some (by kernel_rfl))
  f276 := Try.func86.trans (congrArg some (by kernel_rfl))
  f277 := Try.func88.trans (congrArg some (by kernel_rfl))
  t0 := Try.underlying0
  a0 := Try.isAgg0
  z0 := Try.sizeOf0
  v0 := Try.zeroValue0
  t3 := Try.underlying3
  a3 := Try.isAgg3
  z3 := Try.sizeOf3
  v3 := Try.zeroValue3
  t4 := Try.underlying4
  a4 := Try.isAgg4
  z4 := Try.sizeOf4
  v4 := Try.zeroValue4
  t9 := Try.underlying9
  a9 := Try.isAgg9
  z9 := Try.sizeOf9
  v9 := Try.zeroValue9
  t20 := Try.underlying20
  a20 := Try.isAgg20
  z20 := Try.sizeOf20
  v20 := Try.zeroValue20
  t31 := Try.underlying25
  a31 := Try.isAgg25
  z31 := Try.sizeOf25
  v31 := Try.zeroValue25
  t37 := Try.underlying48
  a37 := Try.isAgg48
  z37 := Try.sizeOf48
  v37 := Try.zeroValue48
  t70 := Try.underlying54
  a70 := Try.isAgg54
  z70 := Try.sizeOf54
  v70 := Try.zeroValue54
  t72 := Try.underlying56
  a72 := Try.isAgg56
  z72 := Try.sizeOf56
  v72 := Try.zeroValue56
  t75 := Try.underlying90
  a75 := Try.isAgg90
  z75 := Try.sizeOf90
  v75 := Try.zeroValue90
  t76 := Try.underlying93
  a76 := Try.isAgg93
  z76 := Try.sizeOf93
  v76 := Try.zeroValue93
  t127 := Try.underlying96
  a127 := Try.isAgg96
  z127 := Try.sizeOf96
  v127 := Try.zeroValue96
  t164 := Try.underlying132
  a164 := Try.isAgg132
  z164 := Try.sizeOf132
  v164 := Try.zeroValue132 }
theorem bldX : Builder.Extra Try.prog ren := {
  sizeBuilder := by kernel_rfl
  liesBuilder := by kernel_rfl
  t5 := Try.underlying5
  a5 := Try.isAgg5
  z5 := Try.sizeOf5
  v5 := Try.zeroValue5
  infoByte := by kernel_rfl
  cellsByte := by kernel_rfl
  sizeByte := by kernel_rfl
  neB5 := by decide }
end Go.Proofs.Ytagfphlhahiplaa.C13
namespace Go.Proofs.Ytagfphlhahiplaa.C13
open Go.RowKit Go.Proofs.YtagfphlhahiplaaW.PrintWords Go.Proofs.Ytagfphlhahiplaa.PFnExactFormatCore
set_option linter.unusedVariables false
set_option linter.unusedSimpArgs false
/-- block b is a builder that holds xs; B: below it nothing is written -/
def Bld (B b : Nat) (xs : List Int) (w : World) : Prop := Lib.IsBuilderF 56 5 B b (nums .u8 xs) w
/-- what a builder's writing leaves as it was -/
structure Kept (B b : Nat) (w w' : World) : Prop where
  below : Below B w w'
  others : Lib.OthersKept 5 (some b) w w'
theorem Kept.refl (B b : Nat) (w : World) : Kept B b w w := ⟨Below.refl _ _, Lib.OthersKept.refl _ _ _⟩
theorem Kept.trans {B b : Nat} {w1 w2 w3 : World} (h : Kept B b w1 w2) (k : Kept B b w2 w3) : Kept B b w1 w3 := ⟨h.below.trans k.below, h.others.trans k.others⟩
theorem Kept.of_below {B b : Nat} {w w' : World} (h : Below w.heap.size w w') (hB : B ≤ w.heap.size) : Kept B b w w' :=
  ⟨h.mono hB, fun k o hk _ _ => (h.block k (Array.getElem?_eq_some_iff.1 hk).1).trans hk⟩
/-- a block that is not the builder's and no row of bytes -/
theorem Kept.blk {B b : Nat} {w w' : World} (h : Kept B b w w') {g : Nat} {e : TypeId} {cs : List Value} (hb : Blk w g e cs) (hne : g ≠ b) (he : e ≠ 5) : Blk w' g e cs :=
  h.others g _ hb (fun e1 => hne (Option.some.inj e1)) (fun c fz e1 => he (by injection e1))
theorem Kept.size {B b : Nat} {w w' : World} (h : Kept B b w w') : w.heap.size ≤ w'.heap.size := h.below.size
theorem Bld.lt {B b : Nat} {xs : List Int} {w : World} (h : Bld B b xs w) : b < w.heap.size := by rcases h with h | h <;> exact h.lt
theorem Bld.ge {B b : Nat} {xs : List Int} {w : World} (h : Bld B b xs w) : B ≤ b := by rcases h with h | h <;> exact h.1
theorem atF_below {B b : Nat} {p : Value} {bs : List Value} {w w' : World} (h : Lib.BuilderAtF 56 5 B b p bs w) (hb : Below w.heap.size w w') : Lib.BuilderAtF 56 5 B b p bs w' := by
  have hlt := h.lt
  obtain ⟨h1, v, h2, h3, h4⟩ := h
  refine ⟨h1, v, (hb.block b hlt).trans h2, ⟨h3.1, ?_⟩, h4⟩
  rcases h3.2 with hn | ⟨g, cap, cur, fz, hv, hbg, hg, rest⟩
  · exact .inl hn
  · exact .inr ⟨g, cap, cur, fz, hv, hbg, (hb.block g (Array.getElem?_eq_some_iff.1 hg).1).trans hg, rest⟩
theorem Bld.below {B b : Nat} {xs : List Int} {w w' : World} (h : Bld B b xs w) (hb : Below w.heap.size w w') : Bld B b xs w' :=
  h.elim (fun h => .inl (atF_below h hb)) (fun h => .inr (atF_below h hb))
theorem Bld.alloc {B b : Nat} {xs : List Int} {w : World} (h : Bld B b xs w) (o : Obj) : Bld B b xs (w.alloc o) := h.below (grown_box w o)
theorem Bld.drew {B b : Nat} {xs : List Int} {w : World} (h : Bld B b xs w) : Bld B b xs w.drew := h.below (below_drew (Below.refl _ _))
theorem Bld.fresh (w : World) : Bld w.heap.size w.heap.size [] (w.alloc (.cells #[.pointer none, .slice none 0 0] 56)) := Lib.IsBuilderF.of (Lib.fresh_isBuilder _ _ w)
theorem strCells_nums (s : ByteArray) : Lib.strCells s = nums .u8 (bytesOf s) := by simp [nums, bytesOf, Lib.strCells]
theorem writeString (B b : Nat) (xs : List Int) (s : ByteArray) (w : World) (h : Bld B b xs w) (hl : xs.length + s.size ≤ 1000000000) :
    Calls Try.prog 57 #[.pointer (some ⟨b, 0, none⟩), .string s] w fun e w' => e = .returned (.tuple #[.int .i64 s.size, .nilIface]) ∧ Bld B b (xs ++ bytesOf s) w' ∧ Kept B b w w' :=
  (Any.Builder_WriteString_k lay166 bldX B b _ s w h (by rw [nums_length]; omega) (Nat.le_trans h.ge (Nat.le_of_lt h.lt))).mono (fun e w' ⟨he, h1, h2, h3⟩ =>
    ⟨he, .inr (by rw [nums_append, ← strCells_nums]; exact h1), h2, h3⟩)
theorem writeByte (B b : Nat) (xs : List Int) (c : Int) (w : World) (h : Bld B b xs w) (hl : xs.length + 1 ≤ 1000000000) :
    Calls Try.prog 56 #[.pointer (some ⟨b, 0, none⟩), .int .u8 c] w fun e w' => e = .returned .nilIface ∧ Bld B b (xs ++ [c]) w' ∧ Kept B b w w' :=
  (Any.Builder_WriteByte_k lay167 bldX B b _ c w h (by rw [nums_length]; omega) (Nat.le_trans h.ge (Nat.le_of_lt h.lt))).mono (fun e w' ⟨he, h1, h2, h3⟩ =>
    ⟨he, .inr (by rw [nums_append]; exact h1), h2, h3⟩)
theorem byteCells_of {xs : List Int} (h : okB xs) : Lib.byteCells (strOfNums xs).data.toList = nums .u8 xs := by
  have : bytesOf (strOfNums xs) = xs := bytes_of h
  have e : Lib.byteCells (strOfNums xs).data.toList = nums .u8 (bytesOf (strOfNums xs)) := by simp [Lib.byteCells, nums, bytesOf]
  rw [e, this]
theorem stringOf (B b : Nat) (xs : List Int) (w : World) (h : Bld B b xs w) (ho : okB xs) :
    Calls Try.prog 26 #[.pointer (some ⟨b, 0, none⟩)] w fun e w' => e = .returned (.string (strOfNums xs)) ∧ Kept B b w w' :=
  (Any.Builder_String_any_k lay169 bldX B b (strOfNums xs).data.toList w (by rw [byteCells_of ho]; exact h) (Nat.le_trans h.ge (Nat.le_of_lt h.lt))).mono (fun e w' ⟨he, h1, h2, h3⟩ =>
    ⟨he, h2, h3⟩)
end Go.Proofs.Ytagfphlhahiplaa.C13
namespace Go.Proofs.Ytagfphlhahiplaa.C13
open Go.RowKit Go.Proofs.YtagfphlhahiplaaW.PrintWords Go.Proofs.Ytagfphlhahiplaa.PFnExactFormatCore
set_option linter.unusedVariables false
set_option linter.unusedSimpArgs false
theorem bytesOf_get (t : ByteArray) (k : Nat) (h : k < t.size) : (bytesOf t).take (k + 1) = (bytesOf t).take k ++ [(t[k].toNat : Int)] := by
  rw [take_snoc' (by rw [bytesOf_length]; exact h)]
  congr 1
  simp [bytesOf]; rfl
set_option maxRecDepth 100000 in
set_option maxHeartbeats 2000000 in
theorem spellQuoted_any (t : ByteArray) (mark : Int) (hm : 0 ≤ mark ∧ mark < 256) (ht : t.size ≤ 1048576) (w : World) :
    Calls Try.prog 59 #[.string t, .int .u8 mark] w fun e w' => e = .returned (.string (strOfNums (esc mark t))) ∧ Below w.heap.size w w' := by
  have HM := Lib.hid hm
  have hflat : ∀ k, (((bytesOf t).take k).flatMap (esc1 mark)).length ≤ 2 * t.size := fun k => by
    have h1 := flat_len mark ((bytesOf t).take k)
    have h2 : ((bytesOf t).take k).length ≤ t.size := by rw [List.length_take, bytesOf_length]; omega
    omega
  have HF := Lib.hid hflat; clear hflat
  go_enter Try.func59, Try.ntmps59
  go_wp2_with fail
  obtain ⟨W1, hW1, hB1⟩ : ∃ W1, W1 = w.alloc (.cells #[.pointer none, .slice none 0 0] 56) ∧ Below w.heap.size w W1 := ⟨_, rfl, grown_box w _⟩
  have hf := Bld.fresh w
  rw [← hW1] at hf ⊢
  have HB1 := Lib.hid hB1
  clear hW1 hB1
  refine (writeByte w.heap.size w.heap.size [] mark W1 hf (by simp)).mono ?_
  rintro e w2 ⟨rfl, h2, k2⟩
  have H2 := Lib.hid h2; have K2 := Lib.hid k2
  clear hf h2 k2
  go_wp2_with fail
  go_loopw [6] (fun i wr => ∃ k : Nat, k ≤ t.size ∧ i = .int .i64 k ∧ Hid (Bld w.heap.size w.heap.size ([mark] ++ ((bytesOf t).take k).flatMap (esc1 mark)) wr) ∧ Hid (Kept w.heap.size w.heap.size W1 wr)) (fun i _ => t.size - (intOf i).toNat)
  case atStart => exact ⟨0, Nat.zero_le _, rfl, Lib.hid (by simpa using H2.out), K2⟩
  case round =>
    obtain ⟨k, hk, rfl, HQ, HK⟩ := hrel
    by_cases hlt : k < t.size
    · have hfk := HF.out k
      have hfk1 := HF.out (k + 1)
      have hsn := bytesOf_get t k hlt
      have HSN := Lib.hid hsn; clear hsn
      go_wp2_with fail
      refine (impl_spellChar.calls (t[k].toNat : Int) mark _ _ (spellChar_eq _ _)).mono ?_
      rintro e w3 ⟨rfl, hb3⟩
      have H3 := Lib.hid (HQ.out.below hb3)
      have K3 := Lib.hid (HK.out.trans (Kept.of_below hb3 (Nat.le_trans HQ.out.ge (Nat.le_of_lt HQ.out.lt))))
      clear hb3
      go_wp2_with fail
      refine (writeString _ _ _ _ _ H3.out (by
        rw [strOfNums_size]
        have := esc1_len mark (t[k].toNat : Int)
        simp only [List.length_append, List.length_cons, List.length_nil]; omega)).mono ?_
      rintro e w4 ⟨rfl, h4, k4⟩
      have H4 := Lib.hid h4; have K4 := Lib.hid (K3.out.trans k4)
      clear h4 k4
      go_wp2
      go_roundw
      case rel => exact ⟨k + 1, by omega, by go_num, Lib.hid (by
        have := H4.out
        rw [bytes_of (okB_esc1 ⟨by omega, by have := t[k].toNat_lt; omega⟩)] at this
        rw [HSN.out, List.flatMap_append]; simpa [List.append_assoc] using this), K4⟩
      case measure => simp [intOf]; omega
    · have hkk : k = t.size := by omega
      have hq := HQ.out
      rw [hkk, List.take_of_length_le (by rw [bytesOf_length]; exact Nat.le_refl _)] at hq
      have hfl := HF.out t.size
      rw [List.take_of_length_le (by rw [bytesOf_length]; exact Nat.le_refl _)] at hfl
      have HQ2 := Lib.hid hq; clear hq hkk
      go_wp2_with fail
      refine (writeByte _ _ _ mark _ HQ2.out (by simp only [List.length_append, List.length_cons, List.length_nil]; omega)).mono ?_
      rintro e w5 ⟨rfl, h5, k5⟩
      have H5 := Lib.hid h5; have K5 := Lib.hid (HK.out.trans k5)
      clear h5 k5
      go_wp2_with fail
      refine (stringOf _ _ (esc mark t) _ (by have := H5.out; simpa [esc] using this) (okB_esc HM.out t)).mono ?_
      rintro e w6 ⟨rfl, k6⟩
      have K6 := Lib.hid (K5.out.trans k6)
      clear k6
      go_wp2
      go_ret
      exact ⟨rfl, HB1.out.trans K6.out.below⟩
end Go.Proofs.Ytagfphlhahiplaa.C13
namespace Go.Proofs.Ytagfphlhahiplaa.C13
open Go.RowKit Go.Proofs.YtagfphlhahiplaaW.PrintWords Go.Proofs.Ytagfphlhahiplaa.PFnExactFormatCore
set_option linter.unusedVariables false
set_option linter.unusedSimpArgs false
/-- digits, the lowest first, as a number -/
def leNum : List Nat → Nat
  | [] => 0
  | d :: r => d + 10 * leNum r
def chars (l : List Nat) : List Int := l.map (fun d => ((48 + d : Nat) : Int))
theorem chars_app (l m : List Nat) : chars (l ++ m) = chars l ++ chars m := by simp [chars]
theorem chars_len (l : List Nat) : (chars l).length = l.length := by simp [chars]
theorem leNum_app (l m : List Nat) : leNum (l ++ m) = leNum l + 10 ^ l.length * leNum m := by
  induction l with
  | nil => simp [leNum]
  | cons d r ih =>
    simp only [List.cons_append, leNum, ih, List.length_cons, Nat.pow_succ]
    rw [Nat.mul_add, Nat.mul_comm (10 ^ r.length) 10, Nat.mul_assoc]; omega
/-- k digits of a number, the lowest first -/
def digs : Nat → Nat → List Nat
  | 0, _ => []
  | k + 1, n => n % 10 :: digs k (n / 10)
theorem digs_len (k n : Nat) : (digs k n).length = k := by
  induction k generalizing n with
  | zero => rfl
  | succ k ih => simp [digs, ih]
theorem digs_num (k n : Nat) : leNum (digs k n) = n % 10 ^ k := by
  induction k generalizing n with
  | zero => simp [digs, leNum, Nat.mod_one]
  | succ k ih =>
    rw [digs, leNum, ih, Nat.pow_succ, Nat.mul_comm (10 ^ k) 10, Nat.mod_mul]
theorem digs_lt (k n : Nat) : ∀ d ∈ digs k n, d < 10 := by
  induction k generalizing n with
  | zero => intro d h; cases h
  | succ k ih =>
    intro d h
    rw [digs] at h
    rcases List.mem_cons.1 h with rfl | h
    · omega
    · exact ih _ d h
theorem digs_snoc (k n : Nat) : digs (k + 1) n = digs k n ++ [n / 10 ^ k % 10] := by
  induction k generalizing n with
  | zero => simp [digs]
  | succ k ih =>
    rw [digs, ih, digs, List.cons_append, Nat.div_div_eq_div_mul, Nat.pow_succ, Nat.mul_comm (10 ^ k) 10]
/-- without noughts on top, backwards: the digits as dig has them -/
theorem dig_of_le (l : List Nat) (hd : ∀ d ∈ l, d < 10) (ht : ∀ h : l ≠ [], l.getLast h ≠ 0) : (chars l).reverse = dig (leNum l) := by
  induction l with
  | nil => simp [chars, leNum, dig_zero]
  | cons d r ih =>
    have hd0 := hd d (by simp)
    have hr : ∀ h : r ≠ [], r.getLast h ≠ 0 := fun h => by have := ht (by simp); rwa [List.getLast_cons h] at this
    have ih := ih (fun x hx => hd x (by simp [hx])) hr
    have hpos : leNum (d :: r) ≠ 0 := by
      rw [leNum]
      by_cases hr0 : r = []
      · subst hr0
        have := ht (by simp)
        simp at this
        omega
      · intro h0
        have h1 : leNum r = 0 := by omega
        rw [h1, dig_zero] at ih
        have := congrArg List.length ih
        rw [List.length_reverse, chars_len] at this
        exact hr0 (List.length_eq_zero_iff.1 this)
    rw [dig_pos hpos]
    have e1 : leNum (d :: r) / 10 = leNum r := by rw [leNum]; omega
    have e2 : leNum (d :: r) % 10 = d := by rw [leNum]; omega
    rw [e1, e2, ← ih]
    simp [chars]
/-- the top noughts go -/
theorem leNum_zero_snoc (l : List Nat) : leNum (l ++ [0]) = leNum l := by rw [leNum_app]; simp [leNum]
end Go.Proofs.Ytagfphlhahiplaa.C13
namespace Go.Proofs.Ytagfphlhahiplaa.C13
open Go.RowKit Go.Proofs.YtagfphlhahiplaaW.PrintWords Go.Proofs.Ytagfphlhahiplaa.PFnExactFormatCore
set_option linter.unusedVariables false
set_option linter.unusedSimpArgs false
set_option maxRecDepth 100000 in
set_option maxHeartbeats 2000000 in
/-- limbs divided in place by d, which is below 2^31 -/
theorem shortDiv_any (g cap d : Nat) (hd0 : 0 < d) (hd1 : d < 2147483648) (l : List Int) (spare : List Value) (ho : okLimbs l) (hl : l.length ≤ 1048576) (hc : l.length ≤ cap) (w : World) (hb : Blk w g 108 (nums .u32 l ++ spare)) :
    Calls Try.prog 76 #[.slice (some ⟨g, 0, none⟩) l.length cap, .int .u32 d] w fun e w' => e = .returned (.int .u32 ((divL d l).2 : Nat)) ∧ Blk w' g 108 (nums .u32 (divL d l).1 ++ spare) ∧ w.grownBy w' (some g) ∧ w'.heap.size = w.heap.size := by
  have HO := Lib.hid ho; clear ho
  have HB := Lib.hid hb; clear hb
  go_enter Try.func76, Try.ntmps76
  go_wp2_with fail
  go_loopw [5, 6] (fun r i wr => ∃ (j : Nat) (s : Nat), j ≤ l.length ∧ i = .int .i64 ((j : Int) - 1) ∧ r = .int .u64 (s : Int) ∧ s < d ∧ Hid (s = (divL d (l.drop j)).2) ∧ Hid (Blk wr g 108 (nums .u32 (l.take j ++ (divL d (l.drop j)).1) ++ spare)) ∧ Hid (w.grownBy wr (some g) ∧ wr.heap.size = w.heap.size)) (fun _ i _ => ((intOf i) + 1).toNat)
  case atStart => exact ⟨l.length, 0, Nat.le_refl _, rfl, rfl, hd0, Lib.hid (by simp [divL]), Lib.hid (by simpa [divL] using HB.out), Lib.hid ⟨grown_of_below (Below.refl _ _) _, rfl⟩⟩
  case round =>
    obtain ⟨j, s, hj, rfl, rfl, hs, HS, HBl, HG⟩ := hrel
    by_cases hj0 : 0 < j
    · obtain ⟨i, rfl⟩ : ∃ i, j = i + 1 := ⟨j - 1, by omega⟩
      have hlt : i < l.length := by omega
      have hi1 : (0 : Int) ≤ (i : Int) := by omega
      have hi2 : (i : Int) < (l.length : Int) := by omega
      have e1 : ((i + 1 : Nat) : Int) - 1 = (i : Int) := by omega
      rw [e1]
      clear e1
      have hlo := HO.out l[i] (List.getElem_mem hlt)
      obtain ⟨a, ha⟩ : ∃ a : Nat, l[i] = (a : Int) := ⟨l[i].toNat, by omega⟩
      have ha2 : a < 4294967296 := by omega
      have hcell : w.cell? ⟨g, 0, none⟩ = w.cell? ⟨g, 0, none⟩ := rfl
      have hget : (nums .u32 (l.take (i + 1) ++ (divL d (l.drop (i + 1))).1) ++ spare)[i]? = some (.int .u32 (a : Int)) := by
        rw [List.getElem?_append_left (by rw [nums_length, List.length_append, List.length_take]; omega)]
        simp only [nums, List.getElem?_map]
        rw [List.getElem?_append_left (by rw [List.length_take]; omega), List.getElem?_take_of_lt (by omega), List.getElem?_eq_getElem hlt, ha]; rfl
      have g0 := HBl.out.cell hget
      have HA := Lib.hid ha
      have f0 := HBl.out.frozen i
      obtain ⟨N, hN⟩ : ∃ N : Nat, N = s * 4294967296 + a := ⟨_, rfl⟩
      have E1 : Go.bits .or .u64 ((s : Int) * 4294967296) (a : Int) = (N : Int) := by
        have h1 := or_limb s a (by omega) ha2
        have e0 : (s : Int) * 4294967296 = ((s * 4294967296 : Nat) : Int) := by omega
        rw [e0, wrap_u64 _ (by omega), wrap_u64 _ (by omega), ← e0] at h1
        rw [h1]; omega
      obtain ⟨q, hq⟩ : ∃ q : Nat, q = N / d := ⟨_, rfl⟩
      obtain ⟨r, hr⟩ : ∃ r : Nat, r = N % d := ⟨_, rfl⟩
      have E2 : (N : Int).tdiv (d : Int) = (q : Int) := by rw [hq]; rfl
      have E3 : (N : Int).tmod (d : Int) = (r : Int) := by rw [hr]; rfl
      have hq1 : q < 4294967296 := by
        rw [hq, Nat.div_lt_iff_lt_mul hd0, hN]
        have h1 : s + 1 ≤ d := hs
        have h2 : (s + 1) * 4294967296 ≤ 4294967296 * d := by rw [Nat.mul_comm]; exact Nat.mul_le_mul_left _ h1
        omega
      have hq2 : (q : Int) % 4294967296 = (q : Int) := by omega
      have hr1 : r < d := by rw [hr]; exact Nat.mod_lt _ hd0
      have HN := Lib.hid hN; have HQ := Lib.hid hq; have HR := Lib.hid hr
      have hdv : divL d (l.drop i) = ((q : Int) :: (divL d (l.drop (i + 1))).1, r) := by
        rw [List.drop_eq_getElem_cons hlt, divL_cons, ha, Int.toNat_natCast, ← HS.out, ← hN, ← hq, ← hr]
      have HDV := Lib.hid hdv
      have hsplit : nums .u32 (l.take (i + 1) ++ (divL d (l.drop (i + 1))).1) ++ spare = nums .u32 (l.take i) ++ ([.int .u32 (a : Int)] ++ (nums .u32 (divL d (l.drop (i + 1))).1 ++ spare)) := by
        rw [take_snoc' hlt, ha]; simp [nums]
      have hb2 := HBl.out
      rw [hsplit] at hb2
      have HB2 := Lib.hid hb2
      have hoff : i = (nums .u32 (l.take i)).length := by rw [nums_length, List.length_take]; omega
      have HOFF := Lib.hid hoff
      clear hget ha hlo hcell hN hq hr hdv hsplit hb2 hoff
      go_wp2_with (refine wpList_store_blk g i (nums .u32 (l.take i)) [.int .u32 (a : Int)] (nums .u32 (divL d (l.drop (i + 1))).1 ++ spare) [.int .u32 (q : Int)] 108 rfl 108 (.tmp 30) _ rfl rfl HOFF.out rfl HB2.out rfl (by kernel_rfl) (by intro v hv; rw [List.mem_singleton.1 hv]; rfl) ?_)
      intro w3 hb3 hg3 hs3
      have HB3 := Lib.hid hb3; have HG3 := Lib.hid hg3; have HS3 := Lib.hid hs3
      clear hb3 hg3 hs3 g0 f0
      go_wp2
      go_roundw
      case rel => exact ⟨i, r, by omega, rfl, rfl, hr1, Lib.hid (by rw [HDV.out]), Lib.hid (by have := HB3.out; rw [HDV.out]; simpa [nums] using this), Lib.hid ⟨grown_trans HG.out.1 HG3.out, HS3.out.trans HG.out.2⟩⟩
      case measure => (simp [intOf]; try omega)
    · have hj1 : j = 0 := by omega
      subst hj1
      have hs2 : (s : Int) % 4294967296 = (s : Int) := by omega
      go_wp2
      go_ret
      have hb := HBl.out
      have hS := HS.out
      rw [List.drop_zero] at hb hS
      rw [List.take_zero, List.nil_append] at hb
      exact ⟨by rw [← hS]; rfl, hb, HG.out.1, HG.out.2⟩
/-- the top noughts of a list go -/
def sliceLen : Value → Nat
  | .slice _ n _ => n
  | _ => 0
set_option maxRecDepth 100000 in
set_option maxHeartbeats 2000000 in
theorem trimLimbs_any (g cap : Nat) (l : List Int) (spare : List Value) (hl : l.length ≤ 1048576) (hc : l.length ≤ cap) (w : World) (hb : Blk w g 108 (nums .u32 l ++ spare)) :
    Calls Try.prog 77 #[.slice (some ⟨g, 0, none⟩) l.length cap] w fun e w' => e = .returned (.slice (some ⟨g, 0, none⟩) (trim l).length cap) ∧ w = w' := by
  have HB := Lib.hid hb; clear hb
  go_enter Try.func77, Try.ntmps77
  go_wp2_with fail
  go_loop [0] (fun v => ∃ j : Nat, j ≤ l.length ∧ v = .slice (some ⟨g, 0, none⟩) j cap ∧ Hid (trim (l.take j) = trim l)) (fun v => sliceLen v)
  case atStart => exact ⟨l.length, Nat.le_refl _, rfl, Lib.hid (by rw [List.take_length])⟩
  case round =>
    obtain ⟨j, hj, rfl, HT⟩ := hrel
    by_cases hj0 : 0 < j
    · obtain ⟨i, rfl⟩ : ∃ i, j = i + 1 := ⟨j - 1, by omega⟩
      have hlt : i < l.length := by omega
      have hget : (nums .u32 l ++ spare)[i]? = some (.int .u32 l[i]) := by
        rw [List.getElem?_append_left (by rw [nums_length]; omega)]
        simp [nums, hlt]
      have g0 := HB.out.cell hget
      clear hget
      have e1 : ((i + 1 : Nat) : Int) - 1 = (i : Int) := by omega
      by_cases hz : l[i] = 0
      · rw [hz] at g0
        have HZ := Lib.hid hz; clear hz
        go_wp2
        go_round
        case rel => exact ⟨i, by omega, rfl, Lib.hid (by rw [← HT.out, take_snoc' hlt, HZ.out, trim_snoc_zero])⟩
        case measure => simp [sliceLen]
      · have q0 : (l[i] == 0) = false := beq_eq_false_iff_ne.2 hz
        have ht : (trim l).length = i + 1 := by rw [← HT.out, take_snoc' hlt, trim_snoc_ne _ hz, List.length_append, List.length_take]; simp; omega
        have HTT := Lib.hid ht
        clear ht hz
        go_wp2
        go_ret
        exact ⟨by rw [HTT.out]; rfl, rfl⟩
    · have hj1 : j = 0 := by omega
      subst hj1
      have ht : (trim l).length = 0 := by rw [← HT.out, List.take_zero]; rfl
      have HTT := Lib.hid ht
      clear ht
      go_wp2
      go_ret
      exact ⟨by rw [HTT.out]; rfl, rfl⟩
end Go.Proofs.Ytagfphlhahiplaa.C13
namespace Go.Proofs.Ytagfphlhahiplaa.C13
open Go.RowKit Go.Proofs.YtagfphlhahiplaaW.PrintWords Go.Proofs.Ytagfphlhahiplaa.PFnExactFormatCore
set_option linter.unusedVariables false
set_option linter.unusedSimpArgs false
theorem trim_prefix (l : List Int) : ∃ z, l = trim l ++ z := by
  induction l with
  | nil => exact ⟨[], rfl⟩
  | cons a r ih =>
    obtain ⟨z, hz⟩ := ih
    simp only [trim]
    split
    · exact ⟨a :: r, rfl⟩
    · exact ⟨z, by rw [List.cons_append, ← hz]⟩
theorem own_sliceLen {w : World} {base : Nat} {e : TypeId} {v : Value} {n : Nat} {xs : List Value} (h : w.ownsRow base e 1 v n xs) : sliceLen v = n := by
  rcases h.2 with ⟨rfl, rfl⟩ | ⟨g, cap, cur, rfl, _⟩ <;> rfl
theorem val_ne {n : List Int} (ho : okLimbs n) (ht : trimmed n) (hn : 0 < n.length) : 0 < val n := val_pos ho ht (by intro h; subst h; simp at hn)
set_option exponentiation.threshold 500 in
/-- as long as limbs are left, the digits are not many -/
theorem digs_few {V D k m : Nat} (hV : V < 4294967296 ^ 40) (h : V = D + 10 ^ k * m) (hm : 0 < m) : k < 400 := by
  have h1 : 10 ^ k ≤ V := by
    have := Nat.mul_le_mul_left (10 ^ k) hm
    omega
  have h2 : (4294967296 : Nat) ^ 40 ≤ 10 ^ 400 := by
    have e : (10 : Nat) ^ 400 = (10 ^ 10) ^ 40 := by rw [← Nat.pow_mul]
    rw [e]
    exact Nat.pow_le_pow_left (by decide) _
  exact (Nat.pow_lt_pow_iff_right (a := 10) (by decide)).1 (by omega)
theorem val_lt40 {l : List Int} (ho : okLimbs l) (hl : l.length ≤ 40) : val l < 4294967296 ^ 40 :=
  Nat.lt_of_lt_of_le (val_lt ho) (Nat.pow_le_pow_right (by decide) hl)
/-- a round: nine digits more -/
theorem round_num {V : Nat} {ds : List Nat} {n : List Int} (ho : okLimbs n) (h : V = leNum ds + 10 ^ ds.length * val n) :
    V = leNum (ds ++ digs 9 (divL 1000000000 n).2) + 10 ^ (ds ++ digs 9 (divL 1000000000 n).2).length * val (trim (divL 1000000000 n).1) := by
  have h1 := divL_val (d := 1000000000) (by decide) ho
  have h2 := divL_lt (d := 1000000000) (by decide) n
  rw [leNum_app, digs_num, List.length_append, digs_len, trim_val, Nat.pow_add, h, h1]
  have e : (10 : Nat) ^ 9 = 1000000000 := by decide
  rw [e, Nat.mod_eq_of_lt h2, Nat.mul_add, Nat.mul_assoc]
  omega
theorem append_lit {w : World} (base : Nat) (hb : base ≤ w.heap.size) (e : TypeId) : (w.alloc (.cells #[] e)).ownsRow base e 1 (.slice (some ⟨w.heap.size, 0, none⟩) 0 0) 0 [] :=
  ⟨rfl, .inr ⟨w.heap.size, 0, #[], rfl, hb, blk_alloc w e [], Nat.le_refl _, Nat.zero_le _, rfl, rfl⟩⟩
theorem infoU32 : (Try.prog.info? 108).map (fun i => (i.zero, i.size, i.bytes)) = some (some (.int .u32 0), 1, 4) := by kernel_rfl
set_option maxRecDepth 100000 in
set_option maxHeartbeats 4000000 in
theorem bigText_any (m : Bool) (l : List Int) (A : Option Addr) (c : Nat) (w : World) (hr : (Kd.int .u32).C w A l.length l) (hc : l.length ≤ c) (ho : okLimbs l) (hf : bigFaultB m l = false) :
    Calls Try.prog 58 #[.agg #[.bool m, .slice A l.length c]] w fun e w' => e = .returned (.string (strOfNums (decimal m l))) ∧ Below w.heap.size w w' := by
  obtain ⟨h40, htr⟩ := sound_big hf
  have HR := Lib.hid hr; clear hr
  have HO := Lib.hid ho; clear ho
  have HT := Lib.hid htr; clear htr
  have HF := Lib.hid hf; clear hf
  obtain ⟨dm, hdm⟩ : ∃ dm, dm = decimal m l := ⟨_, rfl⟩
  rw [← hdm]
  have HDM := Lib.hid hdm; clear hdm
  go_enter Try.func58, Try.ntmps58
  go_wp2_with fail
  refine (ans_bigFault m l A c _ (Kd.C_below HR.out ((Below.refl _ _).alloc (Nat.le_refl _) _)) hc (by omega)).mono ?_
  rintro e w2 ⟨rfl, hb2⟩
  rw [HF.out]
  have HB2 := Lib.hid (below_box hb2)
  have g0 := ((blk_alloc w 32 [.bool m, .slice A l.length c]).below hb2).cell (j := 0) rfl
  have g1 := ((blk_alloc w 32 [.bool m, .slice A l.length c]).below hb2).cell (j := 1) rfl
  have GB := Lib.hid ((blk_alloc w 32 [.bool m, .slice A l.length c]).below hb2)
  clear hb2
  by_cases hl0 : l = []
  · subst hl0
    have hm : m = false := by have := HF.out; unfold bigFaultB at this; simpa using this
    subst hm
    go_wp2
    go_ret
    exact ⟨by rw [HDM.out]; rfl, HB2.out⟩
  · have hlen : 0 < l.length := by cases l with | nil => exact absurd rfl hl0 | cons => simp
    have q0 : ((l.length : Int) == 0) = false := beq_eq_false_iff_ne.2 (by omega)
    have HL0 := Lib.hid hl0; clear hl0
    obtain ⟨ad, e', hcells⟩ := HR.out.2.2 hlen
    subst e'
    have hnews : ∀ (j : Nat) (u : Value), (nums .u32 l)[j]? = some u → w.cell? (ad.add j) = some u := fun j u hj => by
      have hj2 : j < l.length := by
        rcases Nat.lt_or_ge j l.length with h | h
        · exact h
        · rw [List.getElem?_eq_none (by rw [nums_length]; exact h)] at hj; cases hj
      obtain ⟨cc, hcl, hK, hcell⟩ := hcells j l[j] (List.getElem?_eq_getElem hj2)
      obtain rfl := hK
      have := hcell 0 _ rfl
      have e : j * (Kd.int .u32).sz + 0 = j := by show j * 1 + 0 = j; omega
      rw [e] at this
      rw [this]
      simp [nums, hj2] at hj
      rw [hj]
    have HN := Lib.hid hnews; clear hnews hcells
    obtain ⟨i0, hi, hz0, hz1, hz2⟩ := info_parts infoU32
    have HI := Lib.hid hi; clear hi
    have hw2 := HB2.out.size
    have g2 := (GB.out.alloc (.cells #[] 108)).cell (j := 1) rfl
    have OWN0 := Lib.hid (append_lit (w := w2) w.heap.size hw2 108)
    have B3 := Lib.hid (HB2.out.trans ((grown_box w2 (.cells #[] 108)).mono hw2))
    have GB3 := Lib.hid (GB.out.alloc (.cells #[] 108))
    go_wp2_with (refine wpList_append_lies _ rfl _ _ 22 rfl w.heap.size 108 i0 (.int .u32 0) 1 4 Try.underlying22 HI.out hz0 hz1 hz2 rfl (by decide) _ 0 [] rfl OWN0.out ad l.length c (nums .u32 l) rfl (by rw [nums_length]; omega) ?_ ?_ hlen (by simp only [maxLen]; omega) (by omega) ?_ _ rfl ?_)
    · intro j u hj
      have := HN.out j u hj
      exact cell_later' B3.out this
    · intro u hu
      simp [nums] at hu
      obtain ⟨a, _, rfl⟩ := hu
      rfl
    · exact B3.out.size
    intro g cap w4 hown hg hat hglt
    have hat2 : w2.heap.size ≤ g ∧ g ≠ w.heap.size := by
      have := GB.out.lt
      rcases hat with h | h
      · simp [Value.ownBlock] at h; omega
      · omega
    have GE := Lib.hid hat2
    obtain ⟨spare, hcap, hblk⟩ : ∃ spare, l.length ≤ cap ∧ Blk w4 g 108 (nums .u32 l ++ spare) := by
      obtain ⟨F, hrow, _, _⟩ := row_of_own hown
      rcases hrow with ⟨h, _⟩ | ⟨g', cap', spare, h1, h2, h3, h4, _⟩
      · cases h
      · injection h1 with h1 _ h1'
        injection h1 with h1
        injection h1 with h1
        subst h1 h1'
        exact ⟨spare, h2, h4⟩
    have GB4 := Lib.hid (GB3.out.grownO hg (by have := GB.out.lt; simp [Value.ownBlock]; omega))
    have B4 : Below w.heap.size w w4 := ⟨hg.os.trans B3.out.os, hg.tape.trans B3.out.tape, hg.output.trans B3.out.output, Nat.le_trans B3.out.size hg.size, fun i hi => (hg.block i (Nat.lt_of_lt_of_le hi B3.out.size) (by simp [Value.ownBlock]; omega)).trans (B3.out.block i hi)⟩
    clear hown hg hat hat2
    have BLK := Lib.hid hblk; have B4 := Lib.hid B4
    clear hblk g0 g1 g2
    go_wp2_with fail
    have hB1 : w.heap.size + 1 ≤ w4.heap.size := GB4.out.lt
    obtain ⟨v0, hv0, hown0, hne0⟩ : ∃ v0, v0 = Value.slice (some ⟨w4.heap.size, 0, none⟩) 0 0 ∧ (w4.alloc (.cells #[] 5)).ownsRow (w.heap.size + 1) 5 1 v0 (chars []).length (nums .u8 (chars [])) ∧ some g ≠ v0.ownBlock :=
      ⟨_, rfl, append_lit (w := w4) (w.heap.size + 1) hB1 5, by simp [Value.ownBlock]; omega⟩
    have OWN1 := Lib.hid hown0
    have B5 := Lib.hid (B4.out.trans ((grown_box w4 (.cells #[] 5)).mono B4.out.size))
    have BLK5 := Lib.hid (BLK.out.alloc (.cells #[] 5))
    have GB5 := Lib.hid (GB4.out.alloc (.cells #[] 5))
    rw [← hv0]
    have HNE0 := Lib.hid hne0
    clear hown0 hne0 hv0 OWN0 B3 GB3 B4 GB4 BLK HB2 GB HN HI hz0 hz1 hz2 hB1 hglt HR
    generalize w4.alloc (.cells #[] 5) = w5 at *
    have HV := Lib.hid (val_lt40 HO.out h40)
    go_loopw [3, 4] (fun s3 s4 wr => ∃ (n : List Int) (vd : Value) (ds : List Nat) (sp : List Value), s3 = .slice (some ⟨g, 0, none⟩) n.length cap ∧ s4 = vd ∧ n.length ≤ 40 ∧ n.length ≤ cap ∧ ds.length ≤ 409 ∧ Hid (okLimbs n ∧ trimmed n) ∧ Hid (val l = leNum ds + 10 ^ ds.length * val n ∧ ∀ d ∈ ds, d < 10) ∧ Hid (Blk wr g 108 (nums .u32 n ++ sp)) ∧ Hid (wr.ownsRow (w.heap.size + 1) 5 1 vd (chars ds).length (nums .u8 (chars ds))) ∧ Hid (some g ≠ vd.ownBlock) ∧ Hid (Below w.heap.size w wr) ∧ Hid (Blk wr w.heap.size 32 [.bool m, .slice (some ad) l.length c])) (fun _ s4 _ => 2000 - sliceLen s4)
    case atStart => exact ⟨l, v0, [], spare, rfl, rfl, h40, hcap, Nat.zero_le _, Lib.hid ⟨HO.out, HT.out⟩, Lib.hid ⟨by simp [leNum], by simp⟩, BLK5, OWN1, HNE0, B5, GB5⟩
    case round =>
      obtain ⟨n, vd, ds, sp, rfl, e4, hn40, hncap, hd409, HN, HD, HBL, HOW, HNE, HBE, HGB⟩ := hrel
      have e4' := e4.symm
      clear e4
      subst e4'
      by_cases hn0 : 0 < n.length
      · have q1 : decide (0 < (n.length : Int)) = true := by simp; omega
        have hfew : ds.length < 400 := digs_few HV.out HD.out.1 (val_ne HN.out.1 HN.out.2 hn0)
        go_wp2_with fail
        refine (shortDiv_any g cap 1000000000 (by decide) (by decide) n sp HN.out.1 (by omega) hncap wr HBL.out).mono ?_
        rintro e w6 ⟨rfl, hb6, hg6, hs6⟩
        have hR := divL_lt (d := 1000000000) (by decide) n
        have HRN := Lib.hid (round_num HN.out.1 HD.out.1)
        have HOK := Lib.hid (trim_ok (divL_ok (d := 1000000000) (by decide) HN.out.1))
        have hlen1 := divL_len 1000000000 n
        obtain ⟨n1, hn1⟩ : ∃ n1, n1 = (divL 1000000000 n).1 := ⟨_, rfl⟩
        obtain ⟨R, hRR⟩ : ∃ R, R = (divL 1000000000 n).2 := ⟨_, rfl⟩
        rw [← hn1] at hlen1 HRN HOK hb6
        rw [← hRR] at hR HRN ⊢
        clear hn1 hRR
        have H6 := Lib.hid hb6
        have OW6 := Lib.hid (own_other HOW.out hg6 (.inr (fun e => HNE.out e.symm)))
        have hggt := HBL.out.lt
        have B6 := Lib.hid (show Below w.heap.size w w6 from ⟨hg6.os.trans HBE.out.os, hg6.tape.trans HBE.out.tape, hg6.output.trans HBE.out.output, Nat.le_trans HBE.out.size hg6.size, fun i hi => (hg6.block i (Nat.lt_of_lt_of_le hi HBE.out.size) (by have := GE.out; simp; omega)).trans (HBE.out.block i hi)⟩)
        have GB6 := Lib.hid (HGB.out.grownO hg6 (by have := GE.out; simp; omega))
        clear hb6 hg6
        go_wp2_with fail
        have ht := trimLimbs_any g cap n1 sp (by omega) (by omega) w6 H6.out
        rw [hlen1] at ht
        refine ht.mono ?_
        clear ht
        rintro e w7 ⟨rfl, rfl⟩
        have hds9 : (chars ds).length = ds.length := chars_len ds
        have hggt6 : g < w6.heap.size := by omega
        have BOX6 := GB6.out.lt
        go_wp2_with fail
        go_loopw [4, 5, 6] (fun s4 s5 s6 wi => ∃ (j : Nat) (v : Value) (r : Nat), j ≤ 9 ∧ s4 = v ∧ s5 = .int .u32 (r : Int) ∧ s6 = .int .i64 j ∧ r < 1000000000 ∧ Hid (r = R / 10 ^ j) ∧ Hid (Out (w.heap.size + 1) w6 vd wi v (chars (ds ++ digs j R)))) (fun _ _ s6 _ => 9 - (intOf s6).toNat)
        case atStart => exact ⟨0, vd, R, by omega, rfl, rfl, rfl, hR, Lib.hid (by simp), Lib.hid (by simpa [digs] using Out.start OW6.out BOX6)⟩
        case round =>
          obtain ⟨j, v, r, hj, ev, rfl, rfl, hr1, HRJ, HQ⟩ := hrel
          have ev' := ev.symm
          clear ev
          subst ev'
          by_cases hlt : j < 9
          · obtain ⟨d, hd⟩ : ∃ d, d = r % 10 := ⟨_, rfl⟩
            obtain ⟨q, hq⟩ : ∃ q, q = r / 10 := ⟨_, rfl⟩
            have hd10 : d < 10 := by omega
            have E1 : (r : Int).tmod 10 = (d : Int) := by rw [hd]; rfl
            have E2 : (r : Int).tdiv 10 = (q : Int) := by rw [hq]; rfl
            obtain ⟨y, hy⟩ : ∃ y : Int, y = 48 + (d : Int) := ⟨_, rfl⟩
            have E3 : 48 + (d : Int) = y := hy.symm
            have E4 : y % 4294967296 = y := by omega
            have E5 : y % 256 = y := by omega
            have E6 : (q : Int) % 4294967296 = q := by omega
            have hlen9 : (chars (ds ++ digs j R)).length ≤ 1000000000 := by rw [chars_len, List.length_append, digs_len]; omega
            have hstep : chars (ds ++ digs j R) ++ [y] = chars (ds ++ digs (j + 1) R) := by
              rw [digs_snoc, ← HRJ.out, ← hd, ← List.append_assoc, chars_app (ds ++ digs j R)]; simp [chars, hy]
            have hq2 : q = R / 10 ^ (j + 1) := by rw [hq, HRJ.out, Nat.div_div_eq_div_mul, Nat.pow_succ]
            have hq1 : q < 1000000000 := by omega
            have HSTEP := Lib.hid hstep; have HQ2 := Lib.hid hq2; have HL9 := Lib.hid hlen9
            clear hd hq hy hstep hq2 hlen9
            go_wp2_with (refine app_byte HQ.out rfl _ _ rfl _ rfl rfl HL9.out ?_)
            intro v1 w8 h8
            have H8 := Lib.hid h8
            clear h8
            go_wp2
            go_roundw
            case rel => exact ⟨j + 1, v1, q, by omega, rfl, rfl, by go_num, hq1, HQ2, Lib.hid (by rw [← HSTEP.out]; exact H8.out)⟩
            case measure => simp [intOf]; omega
          · have hj9 : j = 9 := by omega
            subst hj9
            obtain ⟨z, hz⟩ := trim_prefix n1
            have htl := trim_len n1
            have hsp : nums .u32 n1 ++ sp = nums .u32 (trim n1) ++ (nums .u32 z ++ sp) := by rw [← List.append_assoc, ← nums_append, ← hz]
            have hfin := HQ.out.blk H6.out HNE.out
            rw [hsp] at hfin
            have HFIN := Lib.hid hfin
            have BQ := HQ.out.belowB (own_base' OW6.out)
            have GB7 := Lib.hid (GB6.out.move (BQ.block _ (by omega)))
            have B7 := Lib.hid (B6.out.trans (BQ.mono (by omega)))
            have HNE7 : Hid (some g ≠ v.ownBlock) := Lib.hid (by
              rcases HQ.out.lies with hl | ⟨b, hb, hbl⟩
              · rw [hl]; exact HNE.out
              · rw [hb]; intro e; injection e with e; omega)
            have hdl : (ds ++ digs 9 R).length = ds.length + 9 := by rw [List.length_append, digs_len]
            have hsl : sliceLen v = ds.length + 9 := by rw [own_sliceLen HQ.out.own, chars_len, hdl]
            have hsl0 : sliceLen vd = ds.length := by rw [own_sliceLen HOW.out, chars_len]
            have hd418 : (ds ++ digs 9 R).length ≤ 409 := by omega
            have HSL := Lib.hid hsl; have HSL0 := Lib.hid hsl0
            have hd9 : ∀ d ∈ ds ++ digs 9 R, d < 10 := fun d hd => (List.mem_append.1 hd).elim (HD.out.2 d) (digs_lt 9 R d)
            have HD9 := Lib.hid hd9
            clear hz hsp hfin BQ hdl hsl hsl0 hd9
            go_wp2
            go_roundw
            case rel => exact ⟨trim n1, v, ds ++ digs 9 R, _, rfl, rfl, by omega, by omega, by omega, Lib.hid ⟨HOK.out, trim_trim n1⟩, Lib.hid ⟨HRN.out, HD9.out⟩, HFIN, Lib.hid HQ.out.own, HNE7, B7, GB7⟩
            case measure => rw [HSL.out, HSL0.out]; omega
      · have hn1 : n = [] := List.eq_nil_of_length_eq_zero (by omega)
        subst hn1
        have hv : val l = leNum ds := by have := HD.out.1; simpa [val] using this
        have hpos := val_ne HO.out HT.out hlen
        have hd10 : Hid (∀ d ∈ ds, d < 10) := Lib.hid HD.out.2
        have hdl : 0 < ds.length := by
          rcases Nat.eq_zero_or_pos ds.length with h | h
          · rw [List.eq_nil_of_length_eq_zero h] at hv; simp [leNum] at hv; omega
          · exact h
        obtain ⟨gd, capd, sd, hvd, hcd, hblkd⟩ : ∃ gd capd sd, vd = .slice (some ⟨gd, 0, none⟩) ds.length capd ∧ ds.length ≤ capd ∧ Blk wr gd 5 (nums .u8 (chars ds) ++ sd) := by
          obtain ⟨F, hrow, _, _⟩ := row_of_own HOW.out
          rcases hrow with ⟨_, h, _⟩ | ⟨g', cap', spare, h1, h2, h3, h4, _⟩
          · rw [chars_len] at h; omega
          · rw [chars_len] at h1 h2
            exact ⟨g', cap', spare, h1, h2, h4⟩
        subst hvd
        have HV2 := Lib.hid hv
        have BD := Lib.hid hblkd
        clear hv hblkd HN HD HBL HOW HNE
        go_wp2_with fail
        go_loop [4] (fun s4 => ∃ k : Nat, k + 1 ≤ ds.length ∧ s4 = .slice (some ⟨gd, 0, none⟩) (k + 1) capd ∧ Hid (leNum (ds.take (k + 1)) = val l)) (fun s4 => sliceLen s4)
        case atStart =>
          refine ⟨ds.length - 1, by omega, ?_, Lib.hid ?_⟩
          · rw [show ds.length - 1 + 1 = ds.length by omega]
          · rw [show ds.length - 1 + 1 = ds.length by omega, List.take_length]; exact HV2.out.symm
        case round =>
          obtain ⟨k, hk, rfl, HT4⟩ := hrel
          have hlt : k < ds.length := by omega
          have hcell : (nums .u8 (chars ds) ++ sd)[k]? = some (.int .u8 (48 + (ds[k] : Nat) : Nat)) := by
            rw [List.getElem?_append_left (by rw [nums_length, chars_len]; omega)]
            simp [nums, chars, hlt]
          have g0 := BD.out.cell hcell
          have e1 : ((k + 1 : Nat) : Int) - 1 = (k : Int) := by omega
          have hk1 : (0 : Int) ≤ (k : Int) := by omega
          have hk2 : (k : Int) < ((k + 1 : Nat) : Int) := by omega
          have htk : ds.take (k + 1) = ds.take k ++ [ds[k]] := take_snoc' hlt
          have HTK := Lib.hid htk
          clear hcell htk
          obtain ⟨y, hy⟩ : ∃ y : Int, y = ((48 + (ds[k] : Nat) : Nat) : Int) := ⟨_, rfl⟩
          rw [← hy] at g0
          by_cases hz : ds[k] = 0
          · have hy2 : y = 48 := by rw [hy, hz]; rfl
            have hk0 : k ≠ 0 := by
              intro h; subst h
              have := HT4.out
              rw [HTK.out, hz] at this
              simp [leNum] at this
              omega
            obtain ⟨k', rfl⟩ : ∃ k', k = k' + 1 := ⟨k - 1, by omega⟩
            have HNX : Hid (leNum (ds.take (k' + 1)) = val l) := Lib.hid (by rw [← HT4.out, HTK.out, hz, leNum_zero_snoc])
            clear hz hy
            subst hy2
            go_wp2
            go_round
            case rel => exact ⟨k', by omega, rfl, HNX⟩
            case measure => simp [sliceLen]
          · have hq : (y == 48) = false := beq_eq_false_iff_ne.2 (by rw [hy]; omega)
            have HZ := Lib.hid hz
            clear hz hy
            have gm := (HGB.out.alloc (.cells #[.pointer none, .slice none 0 0] 56)).cell (j := 0) rfl
            have BD1 := Lib.hid (BD.out.alloc (.cells #[.pointer none, .slice none 0 0] 56))
            have BF := Lib.hid (Bld.fresh wr)
            have B9 := Lib.hid (HBE.out.trans ((grown_box wr (.cells #[.pointer none, .slice none 0 0] 56)).mono HBE.out.size))
            have hgd := BD.out.lt
            obtain ⟨X, hX⟩ : ∃ X, X = chars (ds.take (k + 1)) := ⟨_, rfl⟩
            have hXl : X.length = k + 1 := by rw [hX, chars_len, List.length_take]; omega
            have hXr : Hid (X.reverse = dig (val l)) := Lib.hid (by
              rw [hX, ← HT4.out]
              refine dig_of_le _ (fun d hd => hd10.out d (List.mem_of_mem_take hd)) (fun h => ?_)
              have : (ds.take (k + 1)).getLast h = ds[k] := by
                rw [List.getLast_eq_getElem]; simp only [List.getElem_take]; congr 1; rw [List.length_take]; omega
              rw [this]; exact HZ.out)
            have hXg : Hid (∀ i : Nat, (h : i < X.length) → (nums .u8 (chars ds) ++ sd)[i]? = some (.int .u8 X[i])) := Lib.hid (fun i h => by
              rw [List.getElem?_append_left (by rw [nums_length, chars_len]; omega)]
              simp only [nums, List.getElem?_map]
              have e : (chars ds)[i]? = X[i]? := by
                rw [hX]; unfold chars; rw [List.map_take, List.getElem?_take_of_lt (by omega)]
              rw [e, List.getElem?_eq_getElem h]; rfl)
            clear hX HTK hpos
            obtain ⟨pre, hpre⟩ : ∃ pre : List Int, pre = (if m = true then [45] else []) := ⟨_, rfl⟩
            have hpl : pre.length ≤ 1 := by rw [hpre]; split <;> simp
            have hdm : dm = pre ++ X.reverse := by
              rw [HDM.out, hXr.out, hpre]
              unfold decimal
              rw [if_neg (by rw [HF.out]; decide), if_neg HL0.out]
            have hokB : Hid (okB (pre ++ X.reverse)) := Lib.hid (by rw [← hdm, HDM.out]; exact okB_decimal m l)
            have HD2 := Lib.hid hdm; have HPRE := Lib.hid hpre
            clear hdm hpre
            have hk3 : (k : Int) + 1 - 1 = (k : Int) := by omega
            have hfin : ∀ wa, Bld wr.heap.size wr.heap.size pre wa → Kept wr.heap.size wr.heap.size (wr.alloc (.cells #[.pointer none, .slice none 0 0] 56)) wa → True := fun _ _ _ => trivial
            clear hfin
            cases m
            case false =>
              have e := HPRE.out
              simp at e
              subst e
              go_wp2_with fail
              obtain ⟨wb, hwb⟩ : ∃ wb, wb = wr.alloc (.cells #[.pointer none, .slice none 0 0] 56) := ⟨_, rfl⟩
              rw [← hwb] at BF B9 BD1 gm ⊢
              clear hwb gm g0 hq e1 hk1 hk2 hn40 hncap hn0
              go_loopw [8] (fun s8 wi => ∃ i : Nat, i ≤ k + 1 ∧ s8 = .int .i64 ((i : Int) - 1) ∧ Hid (Bld wr.heap.size wr.heap.size (([] : List Int) ++ (X.drop i).reverse) wi) ∧ Hid (Kept wr.heap.size wr.heap.size wb wi)) (fun s8 _ => (intOf s8 + 1).toNat)
              case atStart => exact ⟨k + 1, Nat.le_refl _, by simp, Lib.hid (by rw [List.drop_of_length_le (by omega)]; exact BF.out), Lib.hid (Kept.refl _ _ _)⟩
              case round =>
                obtain ⟨i, hi, rfl, HQ, HK⟩ := hrel
                by_cases hi0 : 0 < i
                · obtain ⟨i', rfl⟩ : ∃ i', i = i' + 1 := ⟨i - 1, by omega⟩
                  have hi1 : i' < X.length := by omega
                  have e2 : ((i' + 1 : Nat) : Int) - 1 = (i' : Int) := by omega
                  have hi2 : (0 : Int) ≤ (i' : Int) := by omega
                  have hi3 : (i' : Int) < ((k + 1 : Nat) : Int) := by omega
                  have g5 := (BD1.out.move (HK.out.below.block gd hgd)).cell (hXg.out i' hi1)
                  have hdr : (X.drop i').reverse = (X.drop (i' + 1)).reverse ++ [X[i']] := by rw [List.drop_eq_getElem_cons hi1, List.reverse_cons]
                  have HDR := Lib.hid hdr
                  clear hdr
                  generalize X[i'] = z at *
                  rw [e2]
                  clear e2
                  go_wp2_with fail
                  refine (writeByte _ _ _ z _ HQ.out (by simp only [List.length_append, List.length_reverse, List.length_drop, List.length_cons, List.length_nil]; omega)).mono ?_
                  rintro e w10 ⟨rfl, h10, k10⟩
                  have H10 := Lib.hid h10; have K10 := Lib.hid (HK.out.trans k10)
                  clear h10 k10 g5
                  go_wp2
                  go_roundw
                  case rel => exact ⟨i', by omega, rfl, Lib.hid (by rw [HDR.out, ← List.append_assoc]; exact H10.out), K10⟩
                  case measure => (simp [intOf]; try omega)
                · have hi4 : i = 0 := by omega
                  subst hi4
                  go_wp2_with fail
                  refine (stringOf _ _ dm _ (by have := HQ.out; rw [List.drop_zero] at this; rw [HD2.out]; exact this) (by rw [HD2.out]; exact hokB.out)).mono ?_
                  rintro e w11 ⟨rfl, k11⟩
                  have K11 := Lib.hid (HK.out.trans k11)
                  clear k11
                  go_wp2
                  go_ret
                  exact ⟨rfl, B9.out.trans (K11.out.below.mono HBE.out.size)⟩
            case true =>
              have e := HPRE.out
              simp at e
              subst e
              go_wp2_with fail
              clear g0 hq e1 hk1 hk2 hn40 hncap hn0
              refine (writeByte _ _ _ 45 _ BF.out (by simp)).mono ?_
              rintro e w9 ⟨rfl, h9, k9⟩
              have BF := Lib.hid h9
              have BD1 := Lib.hid (BD1.out.move (k9.below.block gd hgd))
              have B9 := Lib.hid (B9.out.trans (k9.below.mono HBE.out.size))
              clear h9 k9 gm
              go_wp2_with fail
              go_loopw [8] (fun s8 wi => ∃ i : Nat, i ≤ k + 1 ∧ s8 = .int .i64 ((i : Int) - 1) ∧ Hid (Bld wr.heap.size wr.heap.size ([45] ++ (X.drop i).reverse) wi) ∧ Hid (Kept wr.heap.size wr.heap.size w9 wi)) (fun s8 _ => (intOf s8 + 1).toNat)
              case atStart => exact ⟨k + 1, Nat.le_refl _, by simp, Lib.hid (by rw [List.drop_of_length_le (by omega)]; exact BF.out), Lib.hid (Kept.refl _ _ _)⟩
              case round =>
                obtain ⟨i, hi, rfl, HQ, HK⟩ := hrel
                by_cases hi0 : 0 < i
                · obtain ⟨i', rfl⟩ : ∃ i', i = i' + 1 := ⟨i - 1, by omega⟩
                  have hi1 : i' < X.length := by omega
                  have e2 : ((i' + 1 : Nat) : Int) - 1 = (i' : Int) := by omega
                  have hi2 : (0 : Int) ≤ (i' : Int) := by omega
                  have hi3 : (i' : Int) < ((k + 1 : Nat) : Int) := by omega
                  have g5 := (BD1.out.move (HK.out.below.block gd hgd)).cell (hXg.out i' hi1)
                  have hdr : (X.drop i').reverse = (X.drop (i' + 1)).reverse ++ [X[i']] := by rw [List.drop_eq_getElem_cons hi1, List.reverse_cons]
                  have HDR := Lib.hid hdr
                  clear hdr
                  generalize X[i'] = z at *
                  rw [e2]
                  clear e2
                  go_wp2_with fail
                  refine (writeByte _ _ _ z _ HQ.out (by simp only [List.length_append, List.length_reverse, List.length_drop, List.length_cons, List.length_nil]; omega)).mono ?_
                  rintro e w10 ⟨rfl, h10, k10⟩
                  have H10 := Lib.hid h10; have K10 := Lib.hid (HK.out.trans k10)
                  clear h10 k10 g5
                  go_wp2
                  go_roundw
                  case rel => exact ⟨i', by omega, rfl, Lib.hid (by rw [HDR.out, ← List.append_assoc]; exact H10.out), K10⟩
                  case measure => (simp [intOf]; try omega)
                · have hi4 : i = 0 := by omega
                  subst hi4
                  go_wp2_with fail
                  refine (stringOf _ _ dm _ (by have := HQ.out; rw [List.drop_zero] at this; rw [HD2.out]; exact this) (by rw [HD2.out]; exact hokB.out)).mono ?_
                  rintro e w11 ⟨rfl, k11⟩
                  have K11 := Lib.hid (HK.out.trans k11)
                  clear k11
                  go_wp2
                  go_ret
                  exact ⟨rfl, B9.out.trans (K11.out.below.mono HBE.out.size)⟩
end Go.Proofs.Ytagfphlhahiplaa.C13
namespace Go.Proofs.Ytagfphlhahiplaa.C13
open Go.RowKit Go.Proofs.YtagfphlhahiplaaW.PrintWords Go.Proofs.Ytagfphlhahiplaa.PFnExactFormatCore
set_option linter.unusedVariables false
set_option linter.unusedSimpArgs false
/-- what a writer of a text leaves: the builder holds it, behind what it held -/
def FcPost (t : List Int) (B b : Nat) (xs : List Int) (w : World) (e : Ending) (w' : World) : Prop :=
  e = .returned (.tuple #[]) ∧ Bld B b (xs ++ t) w' ∧ Kept B b w w'
def FcSaid (x : CoreT) : Prop := WfC x → Shapes x → bulk x ≤ 1048576 → ∀ (S w : World) (p : Addr) (B b : Nat) (xs : List Int), At S x p → Below S.heap.size S w → S.heap.size ≤ B → Bld B b xs w → xs.length + (fmt x).length ≤ 1000000000 →
  Calls Try.prog 25 #[.pointer (some ⟨b, 0, none⟩), .pointer (some p)] w fun e w' => FcPost (fmt x) B b xs w e w'
theorem Bld.hge {B b : Nat} {xs : List Int} {w : World} (h : Bld B b xs w) {w' : World} (hb : w.heap.size ≤ w'.heap.size) : B ≤ w'.heap.size := Nat.le_trans h.ge (Nat.le_trans (Nat.le_of_lt h.lt) hb)
theorem Kept.drewn {B b : Nat} {w w1 : World} (h : Kept B b w w1) {xs : List Int} (hb : Bld B b xs w1) : Kept B b w w1.drew := h.trans (Kept.of_below (below_drew (Below.refl _ _)) (hb.hge (Nat.le_refl _)))
section
variable {S w : World} {x : CoreT} {p : Addr} {B b : Nat} {xs : List Int}
set_option maxRecDepth 100000 in
set_option maxHeartbeats 1000000 in
theorem fc_var (hk : x.kind = 1) (hat : At S x p) (hB : Below S.heap.size S w) (hSB : S.heap.size ≤ B) (hb : Bld B b xs w) (hl : xs.length + (bytesOf x.name).length ≤ 1000000000) :
    Calls Try.prog 25 #[.pointer (some ⟨b, 0, none⟩), .pointer (some p)] w fun e w' => FcPost (bytesOf x.name) B b xs w e w' := by
  obtain ⟨A3, c3, A4, c4, A5, c5, A6, c6, hK, g0, g1, g2, g3, g4, g5, g6⟩ := hat
  rw [hk] at g0
  have HBX := Lib.hid (grown_box w (.cells #[.pointer (some ⟨b, 0, none⟩)] 54))
  have HBS := Lib.hid (Below.step hB HBX.out)
  have Q0 := Lib.hid g0
  have g0 := cell_later' HBS.out g0
  have Q1 := Lib.hid g1
  have g1 := cell_later' HBS.out g1
  have hbne : w.heap.size ≠ b := by have := hb.lt; omega
  have BOX := Lib.hid (blk_alloc w 54 [.pointer (some ⟨b, 0, none⟩)])
  have bx := BOX.out.cell (j := 0) rfl
  have HBD := Lib.hid (hb.alloc (.cells #[.pointer (some ⟨b, 0, none⟩)] 54))
  have HK0 := Lib.hid (Kept.of_below (b := b) HBX.out (hb.hge (Nat.le_refl _)))
  clear hb hK
  clear g2 g3 g4 g5 g6
  go_enter Try.func25, Try.ntmps25
  go_wp2_with fail
  obtain ⟨W1, hW1⟩ : ∃ W1, W1 = w.alloc (.cells #[.pointer (some ⟨b, 0, none⟩)] 54) := ⟨_, rfl⟩
  rw [← hW1] at g0 g1 bx HBD HK0 HBX BOX HBS ⊢
  clear hW1
  refine wp_region_tailW 5 (by kernel_rfl) (by kernel_rfl) ?_
  simp only [List.take_succ_cons, List.take_zero, List.drop_succ_cons, List.drop_zero]
  iterate 5 (refine StillW.step (by kernel_rfl) (fun K hK => ?_); go_simp; refine hK _ ?_; clear hK K)
  refine StillW.done ?_
  go_wp2_with fail
  have KK := HK0.out.drewn HBD.out
  refine (writeString B b xs x.name _ HBD.out.drew (by rwa [bytesOf_length] at hl)).mono ?_
  rintro e w3 ⟨rfl, h3, k3⟩
  have H3 := Lib.hid h3; have K3 := Lib.hid (KK.trans k3)
  clear h3 k3
  go_wp2
  go_end0
  exact ⟨rfl, H3.out, K3.out⟩
set_option maxRecDepth 100000 in
set_option maxHeartbeats 1000000 in
theorem fc_bare4 (hk : x.kind = 4) (hn : x.kids.length = 0) (hat : At S x p) (hB : Below S.heap.size S w) (hSB : S.heap.size ≤ B) (hb : Bld B b xs w) (hl : xs.length + (bytesOf x.name).length ≤ 1000000000) :
    Calls Try.prog 25 #[.pointer (some ⟨b, 0, none⟩), .pointer (some p)] w fun e w' => FcPost (bytesOf x.name) B b xs w e w' := by
  obtain ⟨A3, c3, A4, c4, A5, c5, A6, c6, hK, g0, g1, g2, g3, g4, g5, g6⟩ := hat
  rw [hk] at g0
  have HBX := Lib.hid (grown_box w (.cells #[.pointer (some ⟨b, 0, none⟩)] 54))
  have HBS := Lib.hid (Below.step hB HBX.out)
  have Q0 := Lib.hid g0
  have g0 := cell_later' HBS.out g0
  have Q1 := Lib.hid g1
  have g1 := cell_later' HBS.out g1
  have Q5 := Lib.hid g5
  have g5 := cell_later' HBS.out g5
  have hbne : w.heap.size ≠ b := by have := hb.lt; omega
  have BOX := Lib.hid (blk_alloc w 54 [.pointer (some ⟨b, 0, none⟩)])
  have bx := BOX.out.cell (j := 0) rfl
  have HBD := Lib.hid (hb.alloc (.cells #[.pointer (some ⟨b, 0, none⟩)] 54))
  have HK0 := Lib.hid (Kept.of_below (b := b) HBX.out (hb.hge (Nat.le_refl _)))
  clear hb hK
  clear g2 g3 g4 g6
  rw [hn] at g5
  go_enter Try.func25, Try.ntmps25
  go_wp2_with fail
  obtain ⟨W1, hW1⟩ : ∃ W1, W1 = w.alloc (.cells #[.pointer (some ⟨b, 0, none⟩)] 54) := ⟨_, rfl⟩
  rw [← hW1] at g0 g1 g5 bx HBD HK0 HBX BOX HBS ⊢
  clear hW1
  refine wp_region_tailW 5 (by kernel_rfl) (by kernel_rfl) ?_
  simp only [List.take_succ_cons, List.take_zero, List.drop_succ_cons, List.drop_zero]
  iterate 5 (refine StillW.step (by kernel_rfl) (fun K hK => ?_); go_simp; refine hK _ ?_; clear hK K)
  refine StillW.done ?_
  go_wp2_with fail
  have KK := HK0.out.drewn HBD.out
  refine (writeString B b xs x.name _ HBD.out.drew (by rwa [bytesOf_length] at hl)).mono ?_
  rintro e w3 ⟨rfl, h3, k3⟩
  have H3 := Lib.hid h3; have K3 := Lib.hid (KK.trans k3)
  clear h3 k3
  go_wp2
  (try simp only [Exit.inBlock, Exit.then]); refine bodyPost_ret (results_none rfl _ _ _) rfl ?_
  exact ⟨rfl, H3.out, K3.out⟩
set_option maxRecDepth 100000 in
set_option maxHeartbeats 1000000 in
theorem fc_bare9 (hk : x.kind = 9) (hn : x.kids.length = 0) (hat : At S x p) (hB : Below S.heap.size S w) (hSB : S.heap.size ≤ B) (hb : Bld B b xs w) (hl : xs.length + (bytesOf x.name).length ≤ 1000000000) :
    Calls Try.prog 25 #[.pointer (some ⟨b, 0, none⟩), .pointer (some p)] w fun e w' => FcPost (bytesOf x.name) B b xs w e w' := by
  obtain ⟨A3, c3, A4, c4, A5, c5, A6, c6, hK, g0, g1, g2, g3, g4, g5, g6⟩ := hat
  rw [hk] at g0
  have HBX := Lib.hid (grown_box w (.cells #[.pointer (some ⟨b, 0, none⟩)] 54))
  have HBS := Lib.hid (Below.step hB HBX.out)
  have Q0 := Lib.hid g0
  have g0 := cell_later' HBS.out g0
  have Q1 := Lib.hid g1
  have g1 := cell_later' HBS.out g1
  have Q5 := Lib.hid g5
  have g5 := cell_later' HBS.out g5
  have hbne : w.heap.size ≠ b := by have := hb.lt; omega
  have BOX := Lib.hid (blk_alloc w 54 [.pointer (some ⟨b, 0, none⟩)])
  have bx := BOX.out.cell (j := 0) rfl
  have HBD := Lib.hid (hb.alloc (.cells #[.pointer (some ⟨b, 0, none⟩)] 54))
  have HK0 := Lib.hid (Kept.of_below (b := b) HBX.out (hb.hge (Nat.le_refl _)))
  clear hb hK
  clear g2 g3 g4 g6
  rw [hn] at g5
  go_enter Try.func25, Try.ntmps25
  go_wp2_with fail
  obtain ⟨W1, hW1⟩ : ∃ W1, W1 = w.alloc (.cells #[.pointer (some ⟨b, 0, none⟩)] 54) := ⟨_, rfl⟩
  rw [← hW1] at g0 g1 g5 bx HBD HK0 HBX BOX HBS ⊢
  clear hW1
  refine wp_region_tailW 5 (by kernel_rfl) (by kernel_rfl) ?_
  simp only [List.take_succ_cons, List.take_zero, List.drop_succ_cons, List.drop_zero]
  iterate 5 (refine StillW.step (by kernel_rfl) (fun K hK => ?_); go_simp; refine hK _ ?_; clear hK K)
  refine StillW.done ?_
  go_wp2_with fail
  have KK := HK0.out.drewn HBD.out
  refine (writeString B b xs x.name _ HBD.out.drew (by rwa [bytesOf_length] at hl)).mono ?_
  rintro e w3 ⟨rfl, h3, k3⟩
  have H3 := Lib.hid h3; have K3 := Lib.hid (KK.trans k3)
  clear h3 k3
  go_wp2
  (try simp only [Exit.inBlock, Exit.then]); refine bodyPost_ret (results_none rfl _ _ _) rfl ?_
  exact ⟨rfl, H3.out, K3.out⟩
set_option maxRecDepth 100000 in
set_option maxHeartbeats 1000000 in
theorem fc_num (hk : x.kind = 2) (hw : okLimbs x.limbs) (hf : bigFaultB x.minus x.limbs = false) (hat : At S x p) (hB : Below S.heap.size S w) (hSB : S.heap.size ≤ B) (hb : Bld B b xs w) (hl : xs.length + (decimal x.minus x.limbs).length ≤ 1000000000) :
    Calls Try.prog 25 #[.pointer (some ⟨b, 0, none⟩), .pointer (some p)] w fun e w' => FcPost (decimal x.minus x.limbs) B b xs w e w' := by
  obtain ⟨A3, c3, A4, c4, A5, c5, A6, c6, hK, g0, g1, g2, g3, g4, g5, g6⟩ := hat
  rw [hk] at g0
  have HBX := Lib.hid (grown_box w (.cells #[.pointer (some ⟨b, 0, none⟩)] 54))
  have HBS := Lib.hid (Below.step hB HBX.out)
  have Q0 := Lib.hid g0
  have g0 := cell_later' HBS.out g0
  have Q2 := Lib.hid g2
  have g2 := cell_later' HBS.out g2
  have Q3 := Lib.hid g3
  have g3 := cell_later' HBS.out g3
  have hbne : w.heap.size ≠ b := by have := hb.lt; omega
  have BOX := Lib.hid (blk_alloc w 54 [.pointer (some ⟨b, 0, none⟩)])
  have bx := BOX.out.cell (j := 0) rfl
  have HBD := Lib.hid (hb.alloc (.cells #[.pointer (some ⟨b, 0, none⟩)] 54))
  have HK0 := Lib.hid (Kept.of_below (b := b) HBX.out (hb.hge (Nat.le_refl _)))
  have LM := Lib.hid (limbs_of hK)
  clear hb hK
  clear g1 g4 g5 g6
  go_enter Try.func25, Try.ntmps25
  go_wp2_with fail
  obtain ⟨W1, hW1⟩ : ∃ W1, W1 = w.alloc (.cells #[.pointer (some ⟨b, 0, none⟩)] 54) := ⟨_, rfl⟩
  rw [← hW1] at g0 g2 g3 bx HBD HK0 HBX BOX HBS ⊢
  clear hW1
  have KD := Lib.hid (HK0.out.drewn HBD.out)
  have HBD2 := Lib.hid HBD.out.drew
  have BOX2 := Lib.hid BOX.out.drew
  have HKEEP : Hid (∀ w', Kept B b W1.drew w' → w'.cell? ⟨w.heap.size, 0, none⟩ = some (.pointer (some ⟨b, 0, none⟩)) ∧ w'.cell? ⟨p.block, p.off + 2, none⟩ = some (.bool x.minus) ∧ w'.cell? ⟨p.block, p.off + 3, none⟩ = some (.slice A3 x.limbs.length c3)) := Lib.hid (fun w' k =>
    have D := Lib.hid ((Kept.of_below (B := S.heap.size) (b := b) (below_drew (Below.refl W1.heap.size W1)) HBS.out.size).below.trans (k.below.mono hSB))
    ⟨(k.blk BOX2.out hbne (by decide)).cell (j := 0) rfl, cell_later' (HBS.out.trans D.out) Q2.out, cell_later' (HBS.out.trans D.out) Q3.out⟩)
  have HKEEP2 : Hid (∀ w', Below W1.heap.size W1.drew w' → Kept B b W1.drew w') := Lib.hid (fun w' k => Kept.of_below k (HBD2.out.hge (Nat.le_refl _)))
  have hokb : Hid (bytesOf (strOfNums (decimal x.minus x.limbs)) = decimal x.minus x.limbs) := Lib.hid (bytes_of (okB_decimal _ _))

  go_region_held3 (fun w' => w'.cell? ⟨w.heap.size, 0, none⟩ = some (.pointer (some ⟨b, 0, none⟩)) ∧ w'.cell? ⟨p.block, p.off + 2, none⟩ = some (.bool x.minus) ∧ w'.cell? ⟨p.block, p.off + 3, none⟩ = some (.slice A3 x.limbs.length c3)) (first | go_keep | exact HKEEP.out _ (KD3.trans k3) | exact HKEEP.out _ KD3)
    (first
      | (go_at_call 58; refine (bigText_any x.minus x.limbs A3 c3 _ (Kd.C_below LM.out.2 (Below.step HBS.out (below_drew (Below.refl _ _)))) LM.out.1 hw hf).mono ?_; rintro e w2 ⟨rfl, hb2⟩; have KD3 := HKEEP2.out _ hb2)
      | (go_at_call 57; refine (writeString B b xs (strOfNums (decimal x.minus x.limbs)) _ (HBD2.out.below hb2) (by rw [strOfNums_size]; exact hl)).mono ?_; rw [hokb.out]; rintro e w3 ⟨rfl, h3, k3⟩))
  all_goals
    rename_i hheld
    have H3 := Lib.hid h3; have K3 := Lib.hid (KD.out.trans (KD3.trans k3))
    clear hheld h3 k3 KD3 hb2
    go_wp2
    go_end0
    exact ⟨rfl, H3.out, K3.out⟩
set_option maxRecDepth 100000 in
set_option maxHeartbeats 1000000 in
theorem fc_chr (hk : x.kind = 3) (hsz : x.name.size ≤ 1048576) (hat : At S x p) (hB : Below S.heap.size S w) (hSB : S.heap.size ≤ B) (hb : Bld B b xs w) (hl : xs.length + (esc 39 x.name).length ≤ 1000000000) :
    Calls Try.prog 25 #[.pointer (some ⟨b, 0, none⟩), .pointer (some p)] w fun e w' => FcPost (esc 39 x.name) B b xs w e w' := by
  obtain ⟨A3, c3, A4, c4, A5, c5, A6, c6, hK, g0, g1, g2, g3, g4, g5, g6⟩ := hat
  rw [hk] at g0
  have HBX := Lib.hid (grown_box w (.cells #[.pointer (some ⟨b, 0, none⟩)] 54))
  have HBS := Lib.hid (Below.step hB HBX.out)
  have Q0 := Lib.hid g0
  have g0 := cell_later' HBS.out g0
  have Q1 := Lib.hid g1
  have g1 := cell_later' HBS.out g1
  have hbne : w.heap.size ≠ b := by have := hb.lt; omega
  have BOX := Lib.hid (blk_alloc w 54 [.pointer (some ⟨b, 0, none⟩)])
  have bx := BOX.out.cell (j := 0) rfl
  have HBD := Lib.hid (hb.alloc (.cells #[.pointer (some ⟨b, 0, none⟩)] 54))
  have HK0 := Lib.hid (Kept.of_below (b := b) HBX.out (hb.hge (Nat.le_refl _)))
  clear hb hK
  clear g2 g3 g4 g5 g6
  go_enter Try.func25, Try.ntmps25
  go_wp2_with fail
  obtain ⟨W1, hW1⟩ : ∃ W1, W1 = w.alloc (.cells #[.pointer (some ⟨b, 0, none⟩)] 54) := ⟨_, rfl⟩
  rw [← hW1] at g0 g1 bx HBD HK0 HBX BOX HBS ⊢
  clear hW1
  have KD := Lib.hid (HK0.out.drewn HBD.out)
  have HBD2 := Lib.hid HBD.out.drew
  have BOX2 := Lib.hid BOX.out.drew
  have HKEEP : Hid (∀ w', Kept B b W1.drew w' → w'.cell? ⟨w.heap.size, 0, none⟩ = some (.pointer (some ⟨b, 0, none⟩)) ∧ w'.cell? ⟨p.block, p.off + 1, none⟩ = some (.string x.name)) := Lib.hid (fun w' k =>
    have D := Lib.hid ((Kept.of_below (B := S.heap.size) (b := b) (below_drew (Below.refl W1.heap.size W1)) HBS.out.size).below.trans (k.below.mono hSB))
    ⟨(k.blk BOX2.out hbne (by decide)).cell (j := 0) rfl, cell_later' (HBS.out.trans D.out) Q1.out⟩)
  have HKEEP2 : Hid (∀ w', Below W1.heap.size W1.drew w' → Kept B b W1.drew w') := Lib.hid (fun w' k => Kept.of_below k (HBD2.out.hge (Nat.le_refl _)))
  have hokb : Hid (bytesOf (strOfNums (esc 39 x.name)) = esc 39 x.name) := Lib.hid (bytes_of (okB_esc (by omega) _))

  go_region_held3 (fun w' => w'.cell? ⟨w.heap.size, 0, none⟩ = some (.pointer (some ⟨b, 0, none⟩)) ∧ w'.cell? ⟨p.block, p.off + 1, none⟩ = some (.string x.name)) (first | go_keep | exact HKEEP.out _ (KD3.trans k3) | exact HKEEP.out _ KD3)
    (first
      | (go_at_call 59; refine (spellQuoted_any x.name 39 (by omega) hsz _).mono ?_; rintro e w2 ⟨rfl, hb2⟩; have KD3 := HKEEP2.out _ hb2)
      | (go_at_call 57; refine (writeString B b xs (strOfNums (esc 39 x.name)) _ (HBD2.out.below hb2) (by rw [strOfNums_size]; exact hl)).mono ?_; rw [hokb.out]; rintro e w3 ⟨rfl, h3, k3⟩))
  all_goals
    rename_i hheld
    have H3 := Lib.hid h3; have K3 := Lib.hid (KD.out.trans (KD3.trans k3))
    clear hheld h3 k3 KD3 hb2
    go_wp2
    go_end0
    exact ⟨rfl, H3.out, K3.out⟩
set_option maxRecDepth 100000 in
set_option maxHeartbeats 1000000 in
theorem fc_txt (hk : x.kind = 10) (hsz : x.name.size ≤ 1048576) (hat : At S x p) (hB : Below S.heap.size S w) (hSB : S.heap.size ≤ B) (hb : Bld B b xs w) (hl : xs.length + (esc 34 x.name).length ≤ 1000000000) :
    Calls Try.prog 25 #[.pointer (some ⟨b, 0, none⟩), .pointer (some p)] w fun e w' => FcPost (esc 34 x.name) B b xs w e w' := by
  obtain ⟨A3, c3, A4, c4, A5, c5, A6, c6, hK, g0, g1, g2, g3, g4, g5, g6⟩ := hat
  rw [hk] at g0
  have HBX := Lib.hid (grown_box w (.cells #[.pointer (some ⟨b, 0, none⟩)] 54))
  have HBS := Lib.hid (Below.step hB HBX.out)
  have Q0 := Lib.hid g0
  have g0 := cell_later' HBS.out g0
  have Q1 := Lib.hid g1
  have g1 := cell_later' HBS.out g1
  have hbne : w.heap.size ≠ b := by have := hb.lt; omega
  have BOX := Lib.hid (blk_alloc w 54 [.pointer (some ⟨b, 0, none⟩)])
  have bx := BOX.out.cell (j := 0) rfl
  have HBD := Lib.hid (hb.alloc (.cells #[.pointer (some ⟨b, 0, none⟩)] 54))
  have HK0 := Lib.hid (Kept.of_below (b := b) HBX.out (hb.hge (Nat.le_refl _)))
  clear hb hK
  clear g2 g3 g4 g5 g6
  go_enter Try.func25, Try.ntmps25
  go_wp2_with fail
  obtain ⟨W1, hW1⟩ : ∃ W1, W1 = w.alloc (.cells #[.pointer (some ⟨b, 0, none⟩)] 54) := ⟨_, rfl⟩
  rw [← hW1] at g0 g1 bx HBD HK0 HBX BOX HBS ⊢
  clear hW1
  have KD := Lib.hid (HK0.out.drewn HBD.out)
  have HBD2 := Lib.hid HBD.out.drew
  have BOX2 := Lib.hid BOX.out.drew
  have HKEEP : Hid (∀ w', Kept B b W1.drew w' → w'.cell? ⟨w.heap.size, 0, none⟩ = some (.pointer (some ⟨b, 0, none⟩)) ∧ w'.cell? ⟨p.block, p.off + 1, none⟩ = some (.string x.name)) := Lib.hid (fun w' k =>
    have D := Lib.hid ((Kept.of_below (B := S.heap.size) (b := b) (below_drew (Below.refl W1.heap.size W1)) HBS.out.size).below.trans (k.below.mono hSB))
    ⟨(k.blk BOX2.out hbne (by decide)).cell (j := 0) rfl, cell_later' (HBS.out.trans D.out) Q1.out⟩)
  have HKEEP2 : Hid (∀ w', Below W1.heap.size W1.drew w' → Kept B b W1.drew w') := Lib.hid (fun w' k => Kept.of_below k (HBD2.out.hge (Nat.le_refl _)))
  have hokb : Hid (bytesOf (strOfNums (esc 34 x.name)) = esc 34 x.name) := Lib.hid (bytes_of (okB_esc (by omega) _))

  go_region_held3 (fun w' => w'.cell? ⟨w.heap.size, 0, none⟩ = some (.pointer (some ⟨b, 0, none⟩)) ∧ w'.cell? ⟨p.block, p.off + 1, none⟩ = some (.string x.name)) (first | go_keep | exact HKEEP.out _ (KD3.trans k3) | exact HKEEP.out _ KD3)
    (first
      | (go_at_call 59; refine (spellQuoted_any x.name 34 (by omega) hsz _).mono ?_; rintro e w2 ⟨rfl, hb2⟩; have KD3 := HKEEP2.out _ hb2)
      | (go_at_call 57; refine (writeString B b xs (strOfNums (esc 34 x.name)) _ (HBD2.out.below hb2) (by rw [strOfNums_size]; exact hl)).mono ?_; rw [hokb.out]; rintro e w3 ⟨rfl, h3, k3⟩))
  all_goals
    rename_i hheld
    have H3 := Lib.hid h3; have K3 := Lib.hid (KD.out.trans (KD3.trans k3))
    clear hheld h3 k3 KD3 hb2
    go_wp2
    go_end0
    exact ⟨rfl, H3.out, K3.out⟩
end
end Go.Proofs.Ytagfphlhahiplaa.C13
namespace Go.Proofs.Ytagfphlhahiplaa.C13
open Go.RowKit Go.Proofs.YtagfphlhahiplaaW.PrintWords Go.Proofs.Ytagfphlhahiplaa.PFnExactFormatCore
set_option linter.unusedVariables false
set_option linter.unusedSimpArgs false
set_option maxRecDepth 100000 in
set_option maxHeartbeats 1000000 in
theorem many_any (l : List CoreT) (ih : ∀ y ∈ l, FcSaid y) (hw : ∀ y ∈ l, WfC y) (hs : ∀ y ∈ l, Shapes y) (hbk : ∀ y ∈ l, bulk y ≤ 1048576) (hlen : l.length ≤ 1048576) {S w : World} {A : Option Addr} {c : Nat} {gb B b : Nat} {xs : List Int}
    (hC : IC.C S A l.length l) (hc : l.length ≤ c) (hbox : Blk w gb 54 [.pointer (some ⟨b, 0, none⟩)]) (hne : gb ≠ b) (hB : Below S.heap.size S w) (hSB : S.heap.size ≤ B) (hb : Bld B b xs w) (hl : xs.length + (joins [32] false (l.map fmt)).length ≤ 1000000000) :
    Calls Try.prog 55 #[.slice A l.length c, .pointer (some ⟨gb, 0, none⟩)] w fun e w' => FcPost (joins [32] false (l.map fmt)) B b xs w e w' := by
  have IH := Lib.hid ih; have HW := Lib.hid hw; have HS := Lib.hid hs; have HBK := Lib.hid hbk; have HC := Lib.hid hC
  have BOX := Lib.hid hbox; have HBS := Lib.hid hB; have HBD := Lib.hid hb; have HL := Lib.hid hl
  clear ih hw hs hbk hC hbox hB hb hl
  go_enter Try.func55, Try.ntmps55
  go_wp2_with fail
  go_loopw [6] (fun i wr => ∃ k : Nat, k ≤ l.length ∧ i = .int .i64 k ∧ Hid (Bld B b (xs ++ joins [32] false ((l.take k).map fmt)) wr) ∧ Hid (Kept B b w wr)) (fun i _ => l.length - (intOf i).toNat)
  case atStart => exact ⟨0, Nat.zero_le _, rfl, Lib.hid (by simpa [joins] using HBD.out), Lib.hid (Kept.refl _ _ _)⟩
  case round =>
    obtain ⟨k, hk, rfl, HQ, HK⟩ := hrel
    by_cases hlt : k < l.length
    · obtain ⟨ad, rfl, hA⟩ := at_elem HC.out k hlt
      have HA := Lib.hid hA; clear hA
      have BX := Lib.hid (HK.out.blk BOX.out hne (by decide))
      have bx := BX.out.cell (j := 0) rfl
      have hjs : (joins [32] false ((l.take (k + 1)).map fmt)) = joins [32] false ((l.take k).map fmt) ++ ([32] ++ fmt l[k]) := by
        rw [take_snoc' hlt, List.map_append, List.map_singleton, joins_snoc]; simp
      have hjl : (joins [32] false ((l.take (k + 1)).map fmt)).length ≤ (joins [32] false (l.map fmt)).length := by
        rw [List.map_take]; exact joins_take_len _ _ _ _
      have hl1 : xs.length + ((joins [32] false ((l.take k).map fmt)).length + (1 + (fmt l[k]).length)) ≤ 1000000000 := by
        have := HL.out
        rw [hjs] at hjl
        simp only [List.length_append, List.length_singleton] at hjl
        omega
      have HJ := Lib.hid hjs
      clear hjs hjl
      go_wp2_with fail
      refine (writeByte B b _ 32 _ HQ.out (by rw [List.length_append]; omega)).mono ?_
      rintro e w2 ⟨rfl, h2, k2⟩
      have H2 := Lib.hid h2; have K2 := Lib.hid (HK.out.trans k2)
      have bx := (k2.blk BX.out hne (by decide)).cell (j := 0) rfl
      clear h2 k2
      go_wp2_with fail
      refine wp_region_tailW 4 (by kernel_rfl) (by kernel_rfl) ?_
      simp only [List.take_succ_cons, List.take_zero, List.drop_succ_cons, List.drop_zero]
      iterate 4 (refine StillW.step (by kernel_rfl) (fun K hK => ?_); go_simp; refine hK _ ?_; clear hK K)
      refine StillW.done ?_
      have HBS3 := Lib.hid (HBS.out.trans ((K2.out.drewn H2.out).below.mono hSB))
      go_wp2_with fail
      refine (IH.out _ (List.getElem_mem hlt) (HW.out _ (List.getElem_mem hlt)) (HS.out _ (List.getElem_mem hlt)) (HBK.out _ (List.getElem_mem hlt)) S _ _ B b _ HA.out HBS3.out hSB H2.out.drew (by simp only [List.length_append, List.length_singleton]; omega)).mono ?_
      rintro e w3 ⟨rfl, h3, k3⟩
      have H3 := Lib.hid h3; have K3 := Lib.hid ((K2.out.drewn H2.out).trans k3)
      clear h3 k3
      go_wp2
      go_roundw
      case rel => exact ⟨k + 1, by omega, by go_num, Lib.hid (by rw [HJ.out]; simpa [List.append_assoc] using H3.out), K3⟩
      case measure => simp [intOf]; omega
    · have hkk : k = l.length := by omega
      have hq := HQ.out
      rw [hkk, List.take_length] at hq
      have HQ2 := Lib.hid hq; clear hq hkk
      go_wp2
      go_end0
      exact ⟨rfl, HQ2.out, HK.out⟩
end Go.Proofs.Ytagfphlhahiplaa.C13
namespace Go.Proofs.Ytagfphlhahiplaa.C13
open Go.RowKit Go.Proofs.YtagfphlhahiplaaW.PrintWords Go.Proofs.Ytagfphlhahiplaa.PFnExactFormatCore
set_option linter.unusedVariables false
set_option linter.unusedSimpArgs false
section
variable {S w : World} {x : CoreT} {p : Addr} {B b : Nat} {xs : List Int}
theorem caps_of {A3 c3 A4 c4 A5 c5 A6 c6} (hK : IC.K S x (cellsC x A3 c3 A4 c4 A5 c5 A6 c6)) : x.names.length ≤ c4 ∧ x.kids.length ≤ c5 ∧ x.alts.length ≤ c6 := by
  obtain ⟨_, _, _, _, _, _, _, _, he, l3, g3, l4, g4, l5, g5, l6, g6⟩ := core_open hK
  simp only [cellsC, List.cons.injEq, Value.slice.injEq, true_and, and_true] at he
  obtain ⟨⟨rfl, rfl⟩, ⟨rfl, rfl⟩, ⟨rfl, rfl⟩, ⟨rfl, rfl⟩⟩ := he
  exact ⟨l4, l5, l6⟩
theorem str40 (s : ByteArray) : bytesOf (⟨#[40]⟩ ++ s) = 40 :: bytesOf s := by simp [bytesOf]
set_option maxRecDepth 100000 in
set_option maxHeartbeats 1000000 in
theorem fc_app4 (hk : x.kind = 4) (hw : WfC x) (hs : Shapes x) (hbk : bulk x ≤ 1048576) (ih : ∀ y ∈ x.kids, FcSaid y) (hn : 0 < x.kids.length) (hat : At S x p) (hB : Below S.heap.size S w) (hSB : S.heap.size ≤ B) (hb : Bld B b xs w) (hl : xs.length + ([40] ++ bytesOf x.name ++ joins [32] false (x.kids.map fmt) ++ [41]).length ≤ 1000000000) :
    Calls Try.prog 25 #[.pointer (some ⟨b, 0, none⟩), .pointer (some p)] w fun e w' => FcPost ([40] ++ bytesOf x.name ++ joins [32] false (x.kids.map fmt) ++ [41]) B b xs w e w' := by
  obtain ⟨A3, c3, A4, c4, A5, c5, A6, c6, hK, g0, g1, g2, g3, g4, g5, g6⟩ := hat
  rw [hk] at g0
  have HBX := Lib.hid (grown_box w (.cells #[.pointer (some ⟨b, 0, none⟩)] 54))
  have HBS := Lib.hid (Below.step hB HBX.out)
  have Q0 := Lib.hid g0
  have g0 := cell_later' HBS.out g0
  have Q1 := Lib.hid g1
  have g1 := cell_later' HBS.out g1
  have Q2 := Lib.hid g2
  have g2 := cell_later' HBS.out g2
  have Q3 := Lib.hid g3
  have g3 := cell_later' HBS.out g3
  have Q4 := Lib.hid g4
  have g4 := cell_later' HBS.out g4
  have Q5 := Lib.hid g5
  have g5 := cell_later' HBS.out g5
  have Q6 := Lib.hid g6
  have g6 := cell_later' HBS.out g6
  have hbne : w.heap.size ≠ b := by have := hb.lt; omega
  have BOX := Lib.hid (blk_alloc w 54 [.pointer (some ⟨b, 0, none⟩)])
  have bx := BOX.out.cell (j := 0) rfl
  have HBD := Lib.hid (hb.alloc (.cells #[.pointer (some ⟨b, 0, none⟩)] 54))
  have HK0 := Lib.hid (Kept.of_below (b := b) HBX.out (hb.hge (Nat.le_refl _)))
  have KC := Lib.hid (hK)
  have HL := Lib.hid hl
  clear hb hK hl
  obtain ⟨b1, b2, b3, b4, b5⟩ := bounds hbk
  have IH := Lib.hid ih
  have HW := Lib.hid (show ∀ y ∈ x.kids, WfC y by rw [WfC_eq] at hw; exact WfCs_mem hw.2.1)
  have HS := Lib.hid (show ∀ y ∈ x.kids, Shapes y by rw [Shapes_eq] at hs; exact KShapes_iff.1 hs.2.1)
  have HBK := Lib.hid (show ∀ y ∈ x.kids, bulk y ≤ 1048576 from fun y hy => by have := mem_bulks hy; rw [bulk_eq] at hbk; omega)
  have KKC := Lib.hid (kids_of KC.out)
  have CAPS := Lib.hid (caps_of KC.out)
  clear ih hw hs hbk
  clear g2 g3 g4 g6
  go_enter Try.func25, Try.ntmps25
  go_wp2_with fail
  obtain ⟨W1, hW1⟩ : ∃ W1, W1 = w.alloc (.cells #[.pointer (some ⟨b, 0, none⟩)] 54) := ⟨_, rfl⟩
  rw [← hW1] at g0 g1 g5 bx HBD HK0 HBX BOX HBS ⊢
  clear hW1
  have H1 := HBD
  have K1 := Lib.hid (Kept.refl B b W1)
  have hcat : ¬ (9223372036854775807 < 1 + x.name.size) := by omega
  have q0 : ((x.kids.length : Int) == 0) = false := beq_eq_false_iff_ne.2 (by omega)
  go_wp2_with fail
  refine wp_region_tailW 6 (by kernel_rfl) (by kernel_rfl) ?_
  simp only [List.take_succ_cons, List.take_zero, List.drop_succ_cons, List.drop_zero]
  iterate 6 (refine StillW.step (by kernel_rfl) (fun K hK => ?_); go_simp; refine hK _ ?_; clear hK K)
  refine StillW.done ?_
  have H2 := Lib.hid H1.out.drew; have K2 := Lib.hid (K1.out.drewn H1.out)
  clear q0 hcat
  obtain ⟨t, ht⟩ : ∃ t, t = (⟨#[40]⟩ : ByteArray) ++ x.name := ⟨_, rfl⟩
  have e40 : bytesOf t = 40 :: bytesOf x.name := by rw [ht]; exact str40 x.name
  have hts : t.size = 1 + x.name.size := by rw [← bytesOf_length, e40, List.length_cons, bytesOf_length]; omega
  have E40 := Lib.hid e40
  clear e40
  go_wp2_with fail
  rw [← ht]
  clear ht
  go_wp2_with fail
  refine (writeString B b xs t _ H2.out (by have := HL.out; simp only [List.length_append, List.length_cons, List.length_nil, bytesOf_length] at this; omega)).mono ?_
  rintro e w3 ⟨rfl, h, k⟩
  have H3 := Lib.hid h; have K3 := Lib.hid (K2.out.trans k)
  clear h k bx g0 g1 g5
  have H3' := H3.out; rw [E40.out] at H3'; have H3 := Lib.hid H3'; clear H3'
  have D3 := Lib.hid (HBS.out.trans (K3.out.below.mono hSB))
  have bx := (K3.out.blk BOX.out hbne (by decide)).cell (j := 0) rfl
  have g5 := cell_later' D3.out Q5.out
  go_wp2_with fail
  refine (many_any x.kids IH.out HW.out HS.out HBK.out b3 KKC.out CAPS.out.2.1 (K3.out.blk BOX.out hbne (by decide)) hbne D3.out hSB H3.out (by have := HL.out; simp only [List.length_append, List.length_cons, List.length_nil, bytesOf_length] at this ⊢; omega)).mono ?_
  rintro e w4 ⟨rfl, h, k⟩
  have H4 := Lib.hid h; have K4 := Lib.hid (K3.out.trans k)
  clear h k bx g5
  have D4 := Lib.hid (HBS.out.trans (K4.out.below.mono hSB))
  have bx := (K4.out.blk BOX.out hbne (by decide)).cell (j := 0) rfl
  go_wp2_with fail
  refine (writeByte B b _ 41 _ H4.out (by have := HL.out; simp only [List.length_append, List.length_cons, List.length_nil, bytesOf_length] at this ⊢; omega)).mono ?_
  rintro e w5 ⟨rfl, h, k⟩
  have H5 := Lib.hid h; have K5 := Lib.hid (K4.out.trans k)
  clear h k bx
  go_wp2
  go_end0
  exact ⟨rfl, by simpa [List.append_assoc] using H5.out, HK0.out.trans K5.out⟩
set_option maxRecDepth 100000 in
set_option maxHeartbeats 1000000 in
theorem fc_app9 (hk : x.kind = 9) (hw : WfC x) (hs : Shapes x) (hbk : bulk x ≤ 1048576) (ih : ∀ y ∈ x.kids, FcSaid y) (hn : 0 < x.kids.length) (hat : At S x p) (hB : Below S.heap.size S w) (hSB : S.heap.size ≤ B) (hb : Bld B b xs w) (hl : xs.length + ([40] ++ bytesOf x.name ++ joins [32] false (x.kids.map fmt) ++ [41]).length ≤ 1000000000) :
    Calls Try.prog 25 #[.pointer (some ⟨b, 0, none⟩), .pointer (some p)] w fun e w' => FcPost ([40] ++ bytesOf x.name ++ joins [32] false (x.kids.map fmt) ++ [41]) B b xs w e w' := by
  obtain ⟨A3, c3, A4, c4, A5, c5, A6, c6, hK, g0, g1, g2, g3, g4, g5, g6⟩ := hat
  rw [hk] at g0
  have HBX := Lib.hid (grown_box w (.cells #[.pointer (some ⟨b, 0, none⟩)] 54))
  have HBS := Lib.hid (Below.step hB HBX.out)
  have Q0 := Lib.hid g0
  have g0 := cell_later' HBS.out g0
  have Q1 := Lib.hid g1
  have g1 := cell_later' HBS.out g1
  have Q2 := Lib.hid g2
  have g2 := cell_later' HBS.out g2
  have Q3 := Lib.hid g3
  have g3 := cell_later' HBS.out g3
  have Q4 := Lib.hid g4
  have g4 := cell_later' HBS.out g4
  have Q5 := Lib.hid g5
  have g5 := cell_later' HBS.out g5
  have Q6 := Lib.hid g6
  have g6 := cell_later' HBS.out g6
  have hbne : w.heap.size ≠ b := by have := hb.lt; omega
  have BOX := Lib.hid (blk_alloc w 54 [.pointer (some ⟨b, 0, none⟩)])
  have bx := BOX.out.cell (j := 0) rfl
  have HBD := Lib.hid (hb.alloc (.cells #[.pointer (some ⟨b, 0, none⟩)] 54))
  have HK0 := Lib.hid (Kept.of_below (b := b) HBX.out (hb.hge (Nat.le_refl _)))
  have KC := Lib.hid (hK)
  have HL := Lib.hid hl
  clear hb hK hl
  obtain ⟨b1, b2, b3, b4, b5⟩ := bounds hbk
  have IH := Lib.hid ih
  have HW := Lib.hid (show ∀ y ∈ x.kids, WfC y by rw [WfC_eq] at hw; exact WfCs_mem hw.2.1)
  have HS := Lib.hid (show ∀ y ∈ x.kids, Shapes y by rw [Shapes_eq] at hs; exact KShapes_iff.1 hs.2.1)
  have HBK := Lib.hid (show ∀ y ∈ x.kids, bulk y ≤ 1048576 from fun y hy => by have := mem_bulks hy; rw [bulk_eq] at hbk; omega)
  have KKC := Lib.hid (kids_of KC.out)
  have CAPS := Lib.hid (caps_of KC.out)
  clear ih hw hs hbk
  clear g2 g3 g4 g6
  go_enter Try.func25, Try.ntmps25
  go_wp2_with fail
  obtain ⟨W1, hW1⟩ : ∃ W1, W1 = w.alloc (.cells #[.pointer (some ⟨b, 0, none⟩)] 54) := ⟨_, rfl⟩
  rw [← hW1] at g0 g1 g5 bx HBD HK0 HBX BOX HBS ⊢
  clear hW1
  have H1 := HBD
  have K1 := Lib.hid (Kept.refl B b W1)
  have hcat : ¬ (9223372036854775807 < 1 + x.name.size) := by omega
  have q0 : ((x.kids.length : Int) == 0) = false := beq_eq_false_iff_ne.2 (by omega)
  go_wp2_with fail
  refine wp_region_tailW 6 (by kernel_rfl) (by kernel_rfl) ?_
  simp only [List.take_succ_cons, List.take_zero, List.drop_succ_cons, List.drop_zero]
  iterate 6 (refine StillW.step (by kernel_rfl) (fun K hK => ?_); go_simp; refine hK _ ?_; clear hK K)
  refine StillW.done ?_
  have H2 := Lib.hid H1.out.drew; have K2 := Lib.hid (K1.out.drewn H1.out)
  clear q0 hcat
  obtain ⟨t, ht⟩ : ∃ t, t = (⟨#[40]⟩ : ByteArray) ++ x.name := ⟨_, rfl⟩
  have e40 : bytesOf t = 40 :: bytesOf x.name := by rw [ht]; exact str40 x.name
  have hts : t.size = 1 + x.name.size := by rw [← bytesOf_length, e40, List.length_cons, bytesOf_length]; omega
  have E40 := Lib.hid e40
  clear e40
  go_wp2_with fail
  rw [← ht]
  clear ht
  go_wp2_with fail
  refine (writeString B b xs t _ H2.out (by have := HL.out; simp only [List.length_append, List.length_cons, List.length_nil, bytesOf_length] at this; omega)).mono ?_
  rintro e w3 ⟨rfl, h, k⟩
  have H3 := Lib.hid h; have K3 := Lib.hid (K2.out.trans k)
  clear h k bx g0 g1 g5
  have H3' := H3.out; rw [E40.out] at H3'; have H3 := Lib.hid H3'; clear H3'
  have D3 := Lib.hid (HBS.out.trans (K3.out.below.mono hSB))
  have bx := (K3.out.blk BOX.out hbne (by decide)).cell (j := 0) rfl
  have g5 := cell_later' D3.out Q5.out
  go_wp2_with fail
  refine (many_any x.kids IH.out HW.out HS.out HBK.out b3 KKC.out CAPS.out.2.1 (K3.out.blk BOX.out hbne (by decide)) hbne D3.out hSB H3.out (by have := HL.out; simp only [List.length_append, List.length_cons, List.length_nil, bytesOf_length] at this ⊢; omega)).mono ?_
  rintro e w4 ⟨rfl, h, k⟩
  have H4 := Lib.hid h; have K4 := Lib.hid (K3.out.trans k)
  clear h k bx g5
  have D4 := Lib.hid (HBS.out.trans (K4.out.below.mono hSB))
  have bx := (K4.out.blk BOX.out hbne (by decide)).cell (j := 0) rfl
  go_wp2_with fail
  refine (writeByte B b _ 41 _ H4.out (by have := HL.out; simp only [List.length_append, List.length_cons, List.length_nil, bytesOf_length] at this ⊢; omega)).mono ?_
  rintro e w5 ⟨rfl, h, k⟩
  have H5 := Lib.hid h; have K5 := Lib.hid (K4.out.trans k)
  clear h k bx
  go_wp2
  go_end0
  exact ⟨rfl, by simpa [List.append_assoc] using H5.out, HK0.out.trans K5.out⟩
end
end Go.Proofs.Ytagfphlhahiplaa.C13
namespace Go.Proofs.Ytagfphlhahiplaa.C13
open Go.RowKit Go.Proofs.YtagfphlhahiplaaW.PrintWords Go.Proofs.Ytagfphlhahiplaa.PFnExactFormatCore
set_option linter.unusedVariables false
set_option linter.unusedSimpArgs false
section
variable {S w : World} {x : CoreT} {p : Addr} {B b : Nat} {xs : List Int}
theorem spot_none {w : World} {a : Addr} {v : Value} (h : w.cell? a = some v) : a = ⟨a.block, a.off, none⟩ := by
  cases a with
  | mk b o s =>
    cases s with
    | none => rfl
    | some k =>
      unfold World.cell? at h
      split at h <;> simp at h
theorem add_seven' (a : Addr) : a.add 7 = ⟨a.block, a.off + 7, none⟩ := by simp [Addr.add]
theorem bytesOf_mk (l : List UInt8) : bytesOf ⟨l.toArray⟩ = l.map (fun b => (b.toNat : Int)) := by simp [bytesOf]
theorem bytesOf_app (s t : ByteArray) : bytesOf (s ++ t) = bytesOf s ++ bytesOf t := by simp [bytesOf]
theorem join_tail (ns : List ByteArray) : (Lib.joinTail [32] (ns.map (·.data.toList))).map (fun b => (b.toNat : Int)) = joins [32] false (ns.map bytesOf) := by
  induction ns with
  | nil => rfl
  | cons n r ih =>
    simp only [List.map_cons, joins]
    rw [← ih]
    simp [Lib.joinTail, bytesOf]
theorem join_text (ns : List ByteArray) : bytesOf ⟨(Lib.join (ns.map (·.data.toList)) [32]).toArray⟩ = joins [32] true (ns.map bytesOf) := by
  rw [bytesOf_mk]
  cases ns with
  | nil => rfl
  | cons n r =>
    rw [List.map_cons, Lib.join_cons, List.map_append, join_tail]
    simp [joins, bytesOf]
/-- strings.Join of the names -/
theorem join_names (ns : List ByteArray) {A : Option Addr} {c : Nat} (hC : Kd.string.C S A ns.length ns) (hc : ns.length ≤ c) (hn : 0 < ns.length) (hl : ns.length ≤ 1048576) (hj : (joins [32] true (ns.map bytesOf)).length ≤ 1000000000) :
    ∃ J : ByteArray, bytesOf J = joins [32] true (ns.map bytesOf) ∧ ∀ w', Below S.heap.size S w' → Calls Try.prog 60 #[.slice A ns.length c, .string ⟨#[32]⟩] w' fun e w'' => e = .returned (.string J) ∧ Below w'.heap.size w' w'' := by
  refine ⟨_, join_text ns, fun w' hB => ?_⟩
  obtain ⟨ad, rfl, hcell⟩ := hC.2.2 hn
  have hall : ∀ (j : Nat) (x : ByteArray), ns[j]? = some x → S.cell? (ad.add j) = some (.string x) := fun j x hj => by
    obtain ⟨cc, hcl, hK, hc2⟩ := hcell j x hj
    obtain rfl := hK
    have := hc2 0 _ rfl
    have e : j * Kd.string.sz + 0 = j := by show j * 1 + 0 = j; omega
    rwa [e] at this
  have h0 := hall 0 ns[0] (List.getElem?_eq_getElem hn)
  rw [add_nought] at h0
  have hsp := spot_none h0
  have hlt := World.block_lt_of_cell? S ad h0
  have hlen : (Lib.join (ns.map (·.data.toList)) [32]).length ≤ 140737488355328 := by
    have := congrArg List.length (join_text ns)
    rw [bytesOf_mk, List.length_map] at this
    omega
  have := Any.strings_Join lay156 bldX ad.block ad.off c ns ⟨#[32]⟩ w' (fun j x hj => by
    have h1 := cell_later' hB (hall j x hj)
    by_cases hj0 : j = 0
    · subst hj0; rw [add_nought] at h1; rw [Nat.add_zero, ← hsp]; exact h1
    · have e : ad.add j = ⟨ad.block, ad.off + j, none⟩ := by simp [Addr.add, hj0]
      rwa [e] at h1) (Nat.lt_of_lt_of_le hlt hB.size) (by omega) hc hlen
  rw [← hsp] at this
  exact this
set_option maxRecDepth 100000 in
set_option maxHeartbeats 1000000 in
theorem fc_app5 (hk : x.kind = 5) (hw : WfC x) (hs : Shapes x) (hbk : bulk x ≤ 1048576) (ih : ∀ y ∈ x.kids, FcSaid y) (hn2 : 2 ≤ x.kids.length) (hat : At S x p) (hB : Below S.heap.size S w) (hSB : S.heap.size ≤ B) (hb : Bld B b xs w) (hl : xs.length + (([40] : List Int) ++ (fmt (x.kids[0]'(by omega)) ++ joins [32] false ((x.kids.drop 1).map fmt)) ++ [41]).length ≤ 1000000000) :
    Calls Try.prog 25 #[.pointer (some ⟨b, 0, none⟩), .pointer (some p)] w fun e w' => FcPost (([40] : List Int) ++ (fmt (x.kids[0]'(by omega)) ++ joins [32] false ((x.kids.drop 1).map fmt)) ++ [41]) B b xs w e w' := by
  obtain ⟨A3, c3, A4, c4, A5, c5, A6, c6, hK, g0, g1, g2, g3, g4, g5, g6⟩ := hat
  rw [hk] at g0
  have HBX := Lib.hid (grown_box w (.cells #[.pointer (some ⟨b, 0, none⟩)] 54))
  have HBS := Lib.hid (Below.step hB HBX.out)
  have Q0 := Lib.hid g0
  have g0 := cell_later' HBS.out g0
  have Q1 := Lib.hid g1
  have g1 := cell_later' HBS.out g1
  have Q2 := Lib.hid g2
  have g2 := cell_later' HBS.out g2
  have Q3 := Lib.hid g3
  have g3 := cell_later' HBS.out g3
  have Q4 := Lib.hid g4
  have g4 := cell_later' HBS.out g4
  have Q5 := Lib.hid g5
  have g5 := cell_later' HBS.out g5
  have Q6 := Lib.hid g6
  have g6 := cell_later' HBS.out g6
  have hbne : w.heap.size ≠ b := by have := hb.lt; omega
  have BOX := Lib.hid (blk_alloc w 54 [.pointer (some ⟨b, 0, none⟩)])
  have bx := BOX.out.cell (j := 0) rfl
  have HBD := Lib.hid (hb.alloc (.cells #[.pointer (some ⟨b, 0, none⟩)] 54))
  have HK0 := Lib.hid (Kept.of_below (b := b) HBX.out (hb.hge (Nat.le_refl _)))
  have KC := Lib.hid (hK)
  have HL := Lib.hid hl
  clear hb hK hl
  obtain ⟨b1, b2, b3, b4, b5⟩ := bounds hbk
  have IH := Lib.hid ih
  have HW := Lib.hid (show ∀ y ∈ x.kids, WfC y by rw [WfC_eq] at hw; exact WfCs_mem hw.2.1)
  have HS := Lib.hid (show ∀ y ∈ x.kids, Shapes y by rw [Shapes_eq] at hs; exact KShapes_iff.1 hs.2.1)
  have HBK := Lib.hid (show ∀ y ∈ x.kids, bulk y ≤ 1048576 from fun y hy => by have := mem_bulks hy; rw [bulk_eq] at hbk; omega)
  have KKC := Lib.hid (kids_of KC.out)
  have CAPS := Lib.hid (caps_of KC.out)
  clear ih hw hs hbk
  clear g1 g2 g3 g4 g5 g6
  go_enter Try.func25, Try.ntmps25
  go_wp2_with fail
  obtain ⟨W1, hW1⟩ : ∃ W1, W1 = w.alloc (.cells #[.pointer (some ⟨b, 0, none⟩)] 54) := ⟨_, rfl⟩
  rw [← hW1] at g0 bx HBD HK0 HBX BOX HBS ⊢
  clear hW1
  have H1 := HBD
  have K1 := Lib.hid (Kept.refl B b W1)
  have hn : 0 < x.kids.length := by omega
  obtain ⟨ad, hA5, hA⟩ := at_elem KKC.out 0 hn
  subst hA5
  rw [Nat.zero_mul, add_nought] at hA
  have HA := Lib.hid hA; clear hA
  have i0 : (0 : Int) < (x.kids.length : Int) := by omega
  go_wp2_with fail
  refine (writeByte B b _ 40 _ H1.out (by have := HL.out; simp only [List.length_append, List.length_cons, List.length_nil, bytesOf_length] at this ⊢; omega)).mono ?_
  rintro e w2 ⟨rfl, h, k⟩
  have H2 := Lib.hid h; have K2 := Lib.hid (K1.out.trans k)
  clear h k bx g0
  have D2 := Lib.hid (HBS.out.trans (K2.out.below.mono hSB))
  have bx := (K2.out.blk BOX.out hbne (by decide)).cell (j := 0) rfl
  have g5 := cell_later' D2.out Q5.out
  go_wp2_with fail
  refine wp_region_tailW 6 (by kernel_rfl) (by kernel_rfl) ?_
  simp only [List.take_succ_cons, List.take_zero, List.drop_succ_cons, List.drop_zero]
  iterate 6 (refine StillW.step (by kernel_rfl) (fun K hK => ?_); go_simp; refine hK _ ?_; clear hK K)
  refine StillW.done ?_
  have H3 := Lib.hid H2.out.drew; have K3 := Lib.hid (K2.out.drewn H2.out)
  go_wp2_with fail
  refine (IH.out _ (List.getElem_mem hn) (HW.out _ (List.getElem_mem hn)) (HS.out _ (List.getElem_mem hn)) (HBK.out _ (List.getElem_mem hn)) S _ _ B b _ HA.out (HBS.out.trans (K3.out.below.mono hSB)) hSB H3.out (by have := HL.out; simp only [List.length_append, List.length_cons, List.length_nil, bytesOf_length] at this ⊢; omega)).mono ?_
  rintro e w4 ⟨rfl, h, k⟩
  have H4 := Lib.hid h; have K4 := Lib.hid (K3.out.trans k)
  clear h k bx g5
  have D4 := Lib.hid (HBS.out.trans (K4.out.below.mono hSB))
  have bx := (K4.out.blk BOX.out hbne (by decide)).cell (j := 0) rfl
  have g5 := cell_later' D4.out Q5.out
  have hcc := CAPS.out.2.1
  have hc1 : ¬ c5 = 1 := by omega
  have hdr := Kd.C_drop (m := 1) KKC.out (by omega) hcc
  rw [if_neg hc1] at hdr
  have hdr : IC.C S (some ⟨ad.block, ad.off + 7, none⟩) (x.kids.drop 1).length (x.kids.drop 1) := by rw [← add_seven']; exact hdr
  have hdl : (x.kids.drop 1).length = x.kids.length - 1 := List.length_drop
  rw [hdl] at hdr
  have HDR := Lib.hid hdr
  clear hdr
  have hmany := many_any (x.kids.drop 1) (fun y hy => IH.out y (List.mem_of_mem_drop hy)) (fun y hy => HW.out y (List.mem_of_mem_drop hy)) (fun y hy => HS.out y (List.mem_of_mem_drop hy)) (fun y hy => HBK.out y (List.mem_of_mem_drop hy)) (by omega)
    (c := c5 - 1) (by rw [hdl]; exact HDR.out) (by omega) (K4.out.blk BOX.out hbne (by decide)) hbne D4.out hSB H4.out (by have := HL.out; simp only [List.length_append, List.length_cons, List.length_nil, bytesOf_length] at this ⊢; omega)
  rw [hdl] at hmany
  have HM := Lib.hid hmany
  clear hmany hdl
  go_wp2_with fail
  refine (HM.out).mono ?_
  rintro e w5 ⟨rfl, h, k⟩
  have H5 := Lib.hid h; have K5 := Lib.hid (K4.out.trans k)
  clear h k bx g5
  have D5 := Lib.hid (HBS.out.trans (K5.out.below.mono hSB))
  have bx := (K5.out.blk BOX.out hbne (by decide)).cell (j := 0) rfl
  go_wp2_with fail
  refine (writeByte B b _ 41 _ H5.out (by have := HL.out; simp only [List.length_append, List.length_cons, List.length_nil, bytesOf_length] at this ⊢; omega)).mono ?_
  rintro e w6 ⟨rfl, h, k⟩
  have H6 := Lib.hid h; have K6 := Lib.hid (K5.out.trans k)
  clear h k bx
  go_wp2
  go_end0
  exact ⟨rfl, by simpa [List.append_assoc] using H6.out, HK0.out.trans K6.out⟩
set_option maxRecDepth 100000 in
set_option maxHeartbeats 1000000 in
theorem fc_lam (hk : x.kind = 6) (hw : WfC x) (hs : Shapes x) (hbk : bulk x ≤ 1048576) (ih : ∀ y ∈ x.kids, FcSaid y) (hn : 0 < x.kids.length) (hnn : 0 < x.names.length) (hat : At S x p) (hB : Below S.heap.size S w) (hSB : S.heap.size ≤ B) (hb : Bld B b xs w) (hl : xs.length + (([40, 92] : List Int) ++ joins [32] true (x.names.map bytesOf) ++ ([32, 45, 62, 32] : List Int) ++ fmt x.kids[0] ++ ([41] : List Int)).length ≤ 1000000000) :
    Calls Try.prog 25 #[.pointer (some ⟨b, 0, none⟩), .pointer (some p)] w fun e w' => FcPost (([40, 92] : List Int) ++ joins [32] true (x.names.map bytesOf) ++ ([32, 45, 62, 32] : List Int) ++ fmt x.kids[0] ++ ([41] : List Int)) B b xs w e w' := by
  obtain ⟨A3, c3, A4, c4, A5, c5, A6, c6, hK, g0, g1, g2, g3, g4, g5, g6⟩ := hat
  rw [hk] at g0
  have HBX := Lib.hid (grown_box w (.cells #[.pointer (some ⟨b, 0, none⟩)] 54))
  have HBS := Lib.hid (Below.step hB HBX.out)
  have Q0 := Lib.hid g0
  have g0 := cell_later' HBS.out g0
  have Q1 := Lib.hid g1
  have g1 := cell_later' HBS.out g1
  have Q2 := Lib.hid g2
  have g2 := cell_later' HBS.out g2
  have Q3 := Lib.hid g3
  have g3 := cell_later' HBS.out g3
  have Q4 := Lib.hid g4
  have g4 := cell_later' HBS.out g4
  have Q5 := Lib.hid g5
  have g5 := cell_later' HBS.out g5
  have Q6 := Lib.hid g6
  have g6 := cell_later' HBS.out g6
  have hbne : w.heap.size ≠ b := by have := hb.lt; omega
  have BOX := Lib.hid (blk_alloc w 54 [.pointer (some ⟨b, 0, none⟩)])
  have bx := BOX.out.cell (j := 0) rfl
  have HBD := Lib.hid (hb.alloc (.cells #[.pointer (some ⟨b, 0, none⟩)] 54))
  have HK0 := Lib.hid (Kept.of_below (b := b) HBX.out (hb.hge (Nat.le_refl _)))
  have KC := Lib.hid (hK)
  have HL := Lib.hid hl
  clear hb hK hl
  obtain ⟨b1, b2, b3, b4, b5⟩ := bounds hbk
  have IH := Lib.hid ih
  have HW := Lib.hid (show ∀ y ∈ x.kids, WfC y by rw [WfC_eq] at hw; exact WfCs_mem hw.2.1)
  have HS := Lib.hid (show ∀ y ∈ x.kids, Shapes y by rw [Shapes_eq] at hs; exact KShapes_iff.1 hs.2.1)
  have HBK := Lib.hid (show ∀ y ∈ x.kids, bulk y ≤ 1048576 from fun y hy => by have := mem_bulks hy; rw [bulk_eq] at hbk; omega)
  have KKC := Lib.hid (kids_of KC.out)
  have CAPS := Lib.hid (caps_of KC.out)
  clear ih hw hs hbk
  clear g1 g2 g3 g5 g6
  go_enter Try.func25, Try.ntmps25
  go_wp2_with fail
  obtain ⟨W1, hW1⟩ : ∃ W1, W1 = w.alloc (.cells #[.pointer (some ⟨b, 0, none⟩)] 54) := ⟨_, rfl⟩
  rw [← hW1] at g0 g4 bx HBD HK0 HBX BOX HBS ⊢
  clear hW1
  have H1 := HBD
  have K1 := Lib.hid (Kept.refl B b W1)
  obtain ⟨ad, hA5, hA⟩ := at_elem KKC.out 0 hn
  subst hA5
  rw [Nat.zero_mul, add_nought] at hA
  have HA := Lib.hid hA; clear hA
  have i0 : (0 : Int) < (x.kids.length : Int) := by omega
  have hjl : (joins [32] true (x.names.map bytesOf)).length ≤ 1000000000 := by have := HL.out; simp only [List.length_append, List.length_cons, List.length_nil] at this; omega
  obtain ⟨J, hJ, hJc⟩ := join_names x.names (names_of KC.out).2 CAPS.out.1 hnn b4 hjl
  have HJC := Lib.hid hJc
  obtain ⟨t, ht⟩ : ∃ t, t = (⟨#[40, 92]⟩ : ByteArray) ++ J ++ (⟨#[32, 45, 62, 32]⟩ : ByteArray) := ⟨_, rfl⟩
  have e40 : bytesOf t = ([40, 92] : List Int) ++ joins [32] true (x.names.map bytesOf) ++ [32, 45, 62, 32] := by rw [ht, bytesOf_app, bytesOf_app, hJ]; rfl
  have hts : t.size = (joins [32] true (x.names.map bytesOf)).length + 6 := by rw [← bytesOf_length, e40]; simp only [List.length_append, List.length_cons, List.length_nil]; omega
  have hJs : J.size = (joins [32] true (x.names.map bytesOf)).length := by rw [← bytesOf_length, hJ]
  have hc1 : ¬ (9223372036854775807 < 2 + J.size) := by omega
  have hc2 : ¬ (9223372036854775807 < 2 + J.size + 4) := by omega
  have HT := Lib.hid ht
  have HWS : Hid (∀ w', Bld B b xs w' → Calls Try.prog 57 #[.pointer (some ⟨b, 0, none⟩), .string ((⟨#[40, 92]⟩ : ByteArray) ++ J ++ (⟨#[32, 45, 62, 32]⟩ : ByteArray))] w' fun e w'' => e = .returned (.tuple #[.int .i64 t.size, .nilIface]) ∧ Bld B b (xs ++ bytesOf t) w'' ∧ Kept B b w' w'') := Lib.hid (fun w' hb' => by
    have := writeString B b xs t w' hb' (by have := HL.out; simp only [List.length_append, List.length_cons, List.length_nil] at this; omega)
    rw [← HT.out]; exact this)
  rw [e40] at HWS
  clear hJ hJc e40 ht hjl hJs
  have HBD2 := Lib.hid H1.out.drew
  have KD := Lib.hid (K1.out.drewn H1.out)
  have BOX2 := Lib.hid BOX.out.drew
  have HBSd := Lib.hid (HBS.out.trans (KD.out.below.mono hSB))
  have HKEEP : Hid (∀ w', Kept B b W1.drew w' → w'.cell? ⟨w.heap.size, 0, none⟩ = some (.pointer (some ⟨b, 0, none⟩)) ∧ w'.cell? ⟨p.block, p.off + 4, none⟩ = some (.slice A4 x.names.length c4)) := Lib.hid (fun w' k =>
    ⟨(k.blk BOX2.out hbne (by decide)).cell (j := 0) rfl, cell_later' (HBSd.out.trans (k.below.mono hSB)) Q4.out⟩)
  have HKEEP2 : Hid (∀ w', Below W1.heap.size W1.drew w' → Kept B b W1.drew w') := Lib.hid (fun w' k => Kept.of_below k (HBD2.out.hge (Nat.le_refl _)))
  go_wp2_with fail
  go_region_held3 (fun w' => w'.cell? ⟨w.heap.size, 0, none⟩ = some (.pointer (some ⟨b, 0, none⟩)) ∧ w'.cell? ⟨p.block, p.off + 4, none⟩ = some (.slice A4 x.names.length c4)) (first | go_keep | exact HKEEP.out _ (KD3.trans k3) | exact HKEEP.out _ KD3)
    (first
      | (go_at_call 60; refine (HJC.out _ HBSd.out).mono ?_; rintro e w2 ⟨rfl, hb2⟩; have KD3 := HKEEP2.out _ hb2)
      | (go_at_call 57; refine (HWS.out _ (HBD2.out.below hb2)).mono ?_; rintro e w3 ⟨rfl, h3, k3⟩))
  all_goals
    rename_i hheld
    have H3 := Lib.hid h3; have K3 := Lib.hid (KD.out.trans (KD3.trans k3))
    clear hheld h3 k3 KD3 hb2 bx g0 g4
    have D3 := Lib.hid (HBS.out.trans (K3.out.below.mono hSB))
    have bx := (K3.out.blk BOX.out hbne (by decide)).cell (j := 0) rfl
    have g5 := cell_later' D3.out Q5.out
    go_wp2_with fail
    refine wp_region_tailW 6 (by kernel_rfl) (by kernel_rfl) ?_
    simp only [List.take_succ_cons, List.take_zero, List.drop_succ_cons, List.drop_zero]
    iterate 6 (refine StillW.step (by kernel_rfl) (fun K hK => ?_); go_simp; refine hK _ ?_; clear hK K)
    refine StillW.done ?_
    have H4 := Lib.hid H3.out.drew; have K4 := Lib.hid (K3.out.drewn H3.out)
    go_wp2_with fail
    refine (IH.out _ (List.getElem_mem hn) (HW.out _ (List.getElem_mem hn)) (HS.out _ (List.getElem_mem hn)) (HBK.out _ (List.getElem_mem hn)) S _ _ B b _ HA.out (HBS.out.trans (K4.out.below.mono hSB)) hSB H4.out (by have := HL.out; simp only [List.length_append, List.length_cons, List.length_nil, bytesOf_length] at this ⊢; omega)).mono ?_
    rintro e w5 ⟨rfl, h, k⟩
    have H5 := Lib.hid h; have K5 := Lib.hid (K4.out.trans k)
    clear h k bx g5
    have D5 := Lib.hid (HBS.out.trans (K5.out.below.mono hSB))
    have bx := (K5.out.blk BOX.out hbne (by decide)).cell (j := 0) rfl
    go_wp2_with fail
    refine (writeByte B b _ 41 _ H5.out (by have := HL.out; simp only [List.length_append, List.length_cons, List.length_nil, bytesOf_length] at this ⊢; omega)).mono ?_
    rintro e w6 ⟨rfl, h, k⟩
    have H6 := Lib.hid h; have K6 := Lib.hid (K5.out.trans k)
    clear h k bx
    go_wp2
    go_end0
    exact ⟨rfl, by simpa [List.append_assoc] using H6.out, HK0.out.trans K6.out⟩
end
end Go.Proofs.Ytagfphlhahiplaa.C13
namespace Go.Proofs.Ytagfphlhahiplaa.C13
open Go.RowKit Go.Proofs.YtagfphlhahiplaaW.PrintWords Go.Proofs.Ytagfphlhahiplaa.PFnExactFormatCore
set_option linter.unusedVariables false
set_option linter.unusedSimpArgs false
theorem writeStr (B b : Nat) (xs : List Int) (s : ByteArray) (ys : List Int) (w : World) (e : bytesOf s = ys) (h : Bld B b xs w) (hl : xs.length + ys.length ≤ 1000000000) :
    Calls Try.prog 57 #[.pointer (some ⟨b, 0, none⟩), .string s] w fun e w' => e = .returned (.tuple #[.int .i64 s.size, .nilIface]) ∧ Bld B b (xs ++ ys) w' ∧ Kept B b w w' := by
  subst e
  exact writeString B b xs s w h (by rwa [bytesOf_length] at hl)
section
variable {S w : World} {x : CoreT} {p : Addr} {B b : Nat} {xs : List Int}
set_option maxRecDepth 100000 in
set_option maxHeartbeats 1000000 in
theorem fc_let (hk : x.kind = 7) (hw : WfC x) (hs : Shapes x) (hbk : bulk x ≤ 1048576) (ih : ∀ y ∈ x.kids, FcSaid y) (hnk1 : x.names.length < x.kids.length) (hat : At S x p) (hB : Below S.heap.size S w) (hSB : S.heap.size ≤ B) (hb : Bld B b xs w) (hl : xs.length + (letText x (fmt x.kids[x.names.length])).length ≤ 1000000000) :
    Calls Try.prog 25 #[.pointer (some ⟨b, 0, none⟩), .pointer (some p)] w fun e w' => FcPost (letText x (fmt x.kids[x.names.length])) B b xs w e w' := by
  obtain ⟨A3, c3, A4, c4, A5, c5, A6, c6, hK, g0, g1, g2, g3, g4, g5, g6⟩ := hat
  rw [hk] at g0
  have HBX := Lib.hid (grown_box w (.cells #[.pointer (some ⟨b, 0, none⟩)] 54))
  have HBS := Lib.hid (Below.step hB HBX.out)
  have Q0 := Lib.hid g0
  have g0 := cell_later' HBS.out g0
  have Q1 := Lib.hid g1
  have g1 := cell_later' HBS.out g1
  have Q2 := Lib.hid g2
  have g2 := cell_later' HBS.out g2
  have Q3 := Lib.hid g3
  have g3 := cell_later' HBS.out g3
  have Q4 := Lib.hid g4
  have g4 := cell_later' HBS.out g4
  have Q5 := Lib.hid g5
  have g5 := cell_later' HBS.out g5
  have Q6 := Lib.hid g6
  have g6 := cell_later' HBS.out g6
  have hbne : w.heap.size ≠ b := by have := hb.lt; omega
  have BOX := Lib.hid (blk_alloc w 54 [.pointer (some ⟨b, 0, none⟩)])
  have bx := BOX.out.cell (j := 0) rfl
  have HBD := Lib.hid (hb.alloc (.cells #[.pointer (some ⟨b, 0, none⟩)] 54))
  have HK0 := Lib.hid (Kept.of_below (b := b) HBX.out (hb.hge (Nat.le_refl _)))
  have KC := Lib.hid (hK)
  have HL := Lib.hid hl
  clear hb hK hl
  obtain ⟨b1, b2, b3, b4, b5⟩ := bounds hbk
  have IH := Lib.hid ih
  have HW := Lib.hid (show ∀ y ∈ x.kids, WfC y by rw [WfC_eq] at hw; exact WfCs_mem hw.2.1)
  have HS := Lib.hid (show ∀ y ∈ x.kids, Shapes y by rw [Shapes_eq] at hs; exact KShapes_iff.1 hs.2.1)
  have HBK := Lib.hid (show ∀ y ∈ x.kids, bulk y ≤ 1048576 from fun y hy => by have := mem_bulks hy; rw [bulk_eq] at hbk; omega)
  have KKC := Lib.hid (kids_of KC.out)
  have CAPS := Lib.hid (caps_of KC.out)
  clear ih hw hs hbk
  clear g1 g2 g3 g4 g5 g6
  go_enter Try.func25, Try.ntmps25
  go_wp2_with fail
  obtain ⟨W1, hW1⟩ : ∃ W1, W1 = w.alloc (.cells #[.pointer (some ⟨b, 0, none⟩)] 54) := ⟨_, rfl⟩
  rw [← hW1] at g0 bx HBD HK0 HBX BOX HBS ⊢
  clear hW1
  have H1 := HBD
  have K1 := Lib.hid (Kept.refl B b W1)
  have hl2 := HL.out
  simp only [letText, List.length_append, List.length_cons, List.length_nil] at hl2
  have HL2 := Lib.hid hl2
  have NMS := Lib.hid (names_of KC.out)
  clear hl2
  go_wp2_with fail
  refine (writeStr B b _ ⟨#[40, 108, 101, 116, 32]⟩ ([40, 108, 101, 116, 32] : List Int) _ rfl H1.out (by have := HL2.out; simp only [List.length_append, List.length_cons, List.length_nil] at this ⊢; omega)).mono ?_
  rintro e w2 ⟨rfl, h, k⟩
  have H2 := Lib.hid h; have K2 := Lib.hid (K1.out.trans k)
  clear h k bx g0
  have D2 := Lib.hid (HBS.out.trans (K2.out.below.mono hSB))
  have bx := (K2.out.blk BOX.out hbne (by decide)).cell (j := 0) rfl
  have g4 := cell_later' D2.out Q4.out
  go_wp2_with fail
  clear bx g4
  go_loopw [126] (fun i wr => ∃ k : Nat, k ≤ x.names.length ∧ i = .int .i64 k ∧ Hid (Bld B b (xs ++ [40, 108, 101, 116, 32] ++ joins [59, 32] true ((List.zipWith letPart x.names (x.kids.map fmt)).take k)) wr) ∧ Hid (Kept B b W1 wr)) (fun i _ => x.names.length - (intOf i).toNat)
  case atStart => exact ⟨0, Nat.zero_le _, rfl, Lib.hid (by simpa [joins] using H2.out), K2⟩
  case round =>
    obtain ⟨k, hk, rfl, H20, K20⟩ := hrel
    by_cases hlt : k < x.names.length
    · have hltk : k < x.kids.length := by omega
      have hJ := joins_take_len [59, 32] (List.zipWith letPart x.names (x.kids.map fmt)) (k + 1) true
      have hsn := zipLet_take x.names (x.kids.map fmt) k hlt (by rw [List.length_map]; exact hltk)
      rw [List.getElem_map] at hsn
      have hsep : (if true = true ∧ (List.zipWith letPart x.names (x.kids.map fmt)).take k = [] then [] else [59, 32] : List Int) = (if k = 0 then [] else [59, 32]) := by
        by_cases h0 : k = 0
        · subst h0; simp
        · rw [if_neg h0, if_neg]
          rintro ⟨_, h⟩
          have := congrArg List.length h
          rw [List.length_take, List.length_zipWith, List.length_map] at this
          rw [List.length_nil] at this
          omega
      have hjs := joins_snoc [59, 32] (letPart x.names[k] (fmt x.kids[k])) ((List.zipWith letPart x.names (x.kids.map fmt)).take k) true
      rw [hsep] at hjs
      rw [hsn, hjs] at hJ
      rw [← hsn] at hjs
      have hl3 := HL2.out
      simp only [letPart, List.length_append, List.length_cons, List.length_nil, bytesOf_length] at hJ
      have hl4 : xs.length + 5 + (joins [59, 32] true ((List.zipWith letPart x.names (x.kids.map fmt)).take k)).length + 2 + (x.names[k].size + 3) + (fmt x.kids[k]).length ≤ 1000000100 := by omega
      obtain ⟨an, hAn, hcn⟩ := elem_str NMS.out.2 k hlt
      subst hAn
      obtain ⟨ad, hA5, hA⟩ := at_elem KKC.out k hltk
      subst hA5
      have HA := Lib.hid hA; clear hA
      have HCN := Lib.hid hcn; clear hcn
      have HJS := Lib.hid hjs; have HJL := Lib.hid hJ
      have hcat : ¬ (9223372036854775807 < x.names[k].size + 3) := by omega
      obtain ⟨t, ht⟩ : ∃ t, t = x.names[k] ++ (⟨#[32, 61, 32]⟩ : ByteArray) := ⟨_, rfl⟩
      have e40 : bytesOf t = bytesOf x.names[k] ++ ([32, 61, 32] : List Int) := by rw [ht, bytesOf_app]; rfl
      have HT := Lib.hid ht; have ET := Lib.hid e40
      clear hJ hsn hsep hjs hl3 ht e40
      have D20 := Lib.hid (HBS.out.trans (K20.out.below.mono hSB))
      have bx := (K20.out.blk BOX.out hbne (by decide)).cell (j := 0) rfl
      have cn := cell_later' D20.out HCN.out
      by_cases hk0 : k = 0
      · have hkd : decide (0 < (k : Int)) = false := by simp; omega
        have hkd2 : ¬ 0 < k := by omega
        have hkd3 : ¬ (0 : Int) < (k : Int) := by omega
        have HK00 := Lib.hid hk0
        clear hk0
        go_wp2_with fail
        rw [← HT.out]
        go_wp2_with fail
        refine (writeStr B b _ t _ _ ET.out H20.out (by have h1 := HL2.out; have h2 := HJL.out; rw [if_pos HK00.out] at h2; simp only [List.length_append, List.length_cons, List.length_nil, bytesOf_length] at h2 ⊢; omega)).mono ?_
        rintro e w21 ⟨rfl, h, k⟩
        have H21 := Lib.hid h; have K21 := Lib.hid (K20.out.trans k)
        clear h k bx cn
        have D21 := Lib.hid (HBS.out.trans (K21.out.below.mono hSB))
        have bx := (K21.out.blk BOX.out hbne (by decide)).cell (j := 0) rfl
        have g5 := cell_later' D21.out Q5.out
        go_wp2_with fail
        refine wp_region_tailW 7 (by kernel_rfl) (by kernel_rfl) ?_
        simp only [List.take_succ_cons, List.take_zero, List.drop_succ_cons, List.drop_zero]
        iterate 7 (refine StillW.step (by kernel_rfl) (fun K hK => ?_); go_simp; refine hK _ ?_; clear hK K)
        refine StillW.done ?_
        have H22 := Lib.hid H21.out.drew; have K22 := Lib.hid (K21.out.drewn H21.out)
        go_wp2_with fail
        refine (IH.out _ (List.getElem_mem hltk) (HW.out _ (List.getElem_mem hltk)) (HS.out _ (List.getElem_mem hltk)) (HBK.out _ (List.getElem_mem hltk)) S _ _ B b _ HA.out (HBS.out.trans (K22.out.below.mono hSB)) hSB H22.out (by have h1 := HL2.out; have h2 := HJL.out; rw [if_pos HK00.out] at h2; simp only [List.length_append, List.length_cons, List.length_nil, bytesOf_length] at h2 ⊢; omega)).mono ?_
        rintro e w23 ⟨rfl, h, k⟩
        have H23 := Lib.hid h; have K23 := Lib.hid (K22.out.trans k)
        clear h k bx g5
        clear hcat
        go_wp2
        go_roundw
        case rel => exact ⟨k + 1, by omega, by go_num, Lib.hid (by rw [HJS.out, if_pos HK00.out]; simpa [letPart, List.append_assoc] using H23.out), K23⟩
        case measure => simp [intOf]; omega
      · have hkp : decide (0 < (k : Int)) = true := by simp; omega
        have hkp2 : 0 < k := by omega
        have hkp3 : (0 : Int) < (k : Int) := by omega
        go_wp2_with fail
        refine (writeStr B b _ ⟨#[59, 32]⟩ ([59, 32] : List Int) _ rfl H20.out (by have h1 := HL2.out; have h2 := HJL.out; rw [if_neg hk0] at h2; simp only [List.length_append, List.length_cons, List.length_nil, bytesOf_length] at h2 ⊢; omega)).mono ?_
        rintro e w21 ⟨rfl, h, k⟩
        have H21 := Lib.hid h; have K21 := Lib.hid (K20.out.trans k)
        clear h k bx cn
        have D21 := Lib.hid (HBS.out.trans (K21.out.below.mono hSB))
        have bx := (K21.out.blk BOX.out hbne (by decide)).cell (j := 0) rfl
        go_wp2_with fail
        rw [← HT.out]
        go_wp2_with fail
        refine (writeStr B b _ t _ _ ET.out H21.out (by have h1 := HL2.out; have h2 := HJL.out; rw [if_neg hk0] at h2; simp only [List.length_append, List.length_cons, List.length_nil, bytesOf_length] at h2 ⊢; omega)).mono ?_
        rintro e w22 ⟨rfl, h, k⟩
        have H22 := Lib.hid h; have K22 := Lib.hid (K21.out.trans k)
        clear h k bx
        have D22 := Lib.hid (HBS.out.trans (K22.out.below.mono hSB))
        have bx := (K22.out.blk BOX.out hbne (by decide)).cell (j := 0) rfl
        have g5 := cell_later' D22.out Q5.out
        go_wp2_with fail
        refine wp_region_tailW 7 (by kernel_rfl) (by kernel_rfl) ?_
        simp only [List.take_succ_cons, List.take_zero, List.drop_succ_cons, List.drop_zero]
        iterate 7 (refine StillW.step (by kernel_rfl) (fun K hK => ?_); go_simp; refine hK _ ?_; clear hK K)
        refine StillW.done ?_
        have H23 := Lib.hid H22.out.drew; have K23 := Lib.hid (K22.out.drewn H22.out)
        go_wp2_with fail
        refine (IH.out _ (List.getElem_mem hltk) (HW.out _ (List.getElem_mem hltk)) (HS.out _ (List.getElem_mem hltk)) (HBK.out _ (List.getElem_mem hltk)) S _ _ B b _ HA.out (HBS.out.trans (K23.out.below.mono hSB)) hSB H23.out (by have h1 := HL2.out; have h2 := HJL.out; rw [if_neg hk0] at h2; simp only [List.length_append, List.length_cons, List.length_nil, bytesOf_length] at h2 ⊢; omega)).mono ?_
        rintro e w24 ⟨rfl, h, k⟩
        have H24 := Lib.hid h; have K24 := Lib.hid (K23.out.trans k)
        clear h k bx g5
        clear hcat
        go_wp2
        go_roundw
        case rel => exact ⟨k + 1, by omega, by go_num, Lib.hid (by rw [HJS.out, if_neg hk0]; simpa [letPart, List.append_assoc] using H24.out), K24⟩
        case measure => simp [intOf]; omega
    · have hkk : k = x.names.length := by omega
      subst hkk
      have hq := H20.out
      rw [List.take_of_length_le (by rw [List.length_zipWith]; omega)] at hq
      have H20 := Lib.hid hq; clear hq
      have D20 := Lib.hid (HBS.out.trans (K20.out.below.mono hSB))
      have bx := (K20.out.blk BOX.out hbne (by decide)).cell (j := 0) rfl
      go_wp2_with fail
      refine (writeStr B b _ ⟨#[32, 105, 110, 32]⟩ ([32, 105, 110, 32] : List Int) _ rfl H20.out (by have := HL2.out; simp only [List.length_append, List.length_cons, List.length_nil] at this ⊢; omega)).mono ?_
      rintro e w21 ⟨rfl, h, k⟩
      have H21 := Lib.hid h; have K21 := Lib.hid (K20.out.trans k)
      clear h k bx
      have D21 := Lib.hid (HBS.out.trans (K21.out.below.mono hSB))
      have bx := (K21.out.blk BOX.out hbne (by decide)).cell (j := 0) rfl
      have g4 := cell_later' D21.out Q4.out
      have g5 := cell_later' D21.out Q5.out
      obtain ⟨ad, hA5, hA⟩ := at_elem KKC.out x.names.length hnk1
      subst hA5
      have HA := Lib.hid hA; clear hA
      go_wp2_with fail
      refine wp_region_tailW 11 (by kernel_rfl) (by kernel_rfl) ?_
      simp only [List.take_succ_cons, List.take_zero, List.drop_succ_cons, List.drop_zero]
      iterate 11 (refine StillW.step (by kernel_rfl) (fun K hK => ?_); go_simp; refine hK _ ?_; clear hK K)
      refine StillW.done ?_
      have H22 := Lib.hid H21.out.drew; have K22 := Lib.hid (K21.out.drewn H21.out)
      go_wp2_with fail
      refine (IH.out _ (List.getElem_mem hnk1) (HW.out _ (List.getElem_mem hnk1)) (HS.out _ (List.getElem_mem hnk1)) (HBK.out _ (List.getElem_mem hnk1)) S _ _ B b _ HA.out (HBS.out.trans (K22.out.below.mono hSB)) hSB H22.out (by have := HL2.out; simp only [List.length_append, List.length_cons, List.length_nil] at this ⊢; omega)).mono ?_
      rintro e w23 ⟨rfl, h, k⟩
      have H23 := Lib.hid h; have K23 := Lib.hid (K22.out.trans k)
      clear h k bx g4 g5
      have D23 := Lib.hid (HBS.out.trans (K23.out.below.mono hSB))
      have bx := (K23.out.blk BOX.out hbne (by decide)).cell (j := 0) rfl
      go_wp2_with fail
      refine (writeByte B b _ 41 _ H23.out (by have := HL2.out; simp only [List.length_append, List.length_cons, List.length_nil] at this ⊢; omega)).mono ?_
      rintro e w24 ⟨rfl, h, k⟩
      have H24 := Lib.hid h; have K24 := Lib.hid (K23.out.trans k)
      clear h k bx
      go_wp2
      go_end0
      exact ⟨rfl, by simpa [letText, List.append_assoc] using H24.out, HK0.out.trans K24.out⟩
end
end Go.Proofs.Ytagfphlhahiplaa.C13
