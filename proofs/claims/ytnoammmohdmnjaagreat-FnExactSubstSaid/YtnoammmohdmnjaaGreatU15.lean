import Derived.Test.YtnoammmohdmnjaaGreatU6
import Derived.Test.YtnoammmohdmnjaaGreatU14
set_option maxRecDepth 100000
set_option maxHeartbeats 16000000
set_option linter.unusedVariables false
set_option linter.unusedSimpArgs false
namespace Go.Proofs.YtnoammmohdmnjaaGreat.C13
open Go.RowKit Go.Proofs.YtnoammmohdmnjaaGreatW.PrintWords
open List renaming setIfInBounds_toArray → Jla, set_cons_zero → Jlb, set_cons_succ → Jlc
section
variable {H : Type} {enc : TypeId × Value → H} {w : World} {sp : Nat → Bool} {held : Bool}
theorem qfi {α : Type} {P : Program} (d : Kd α) (G : α → Prop) {t e : TypeId} {n : Nat} {cs : List Value} {y : DataW H × List MemPlace} (ht : P.underlying t = some (.slice e)) (hz : P.cellsOf e = d.sz)
  (hel : ∀ m, n = m + 1 → ∀ cs y, DataW.trod enc P w 0 sp held m e cs = some y → ∃ x, d.K w x cs ∧ G x) (h : DataW.trod enc P w 0 sp held n t cs = some y) :
  ∃ xs A c, cs = [.slice A xs.length c] ∧ xs.length ≤ c ∧ d.C w A xs.length xs ∧ ∀ x ∈ xs, G x := by
 rcases DataW.trod_slice ht h with ⟨rfl, _⟩ | ⟨ad, len, cap, elems, rest, m, hn, rfl, _, _, hlc, hcm, hlen, hget, _, _⟩
 ·exact ⟨[], none, 0, rfl, Nat.le_refl _, ⟨rfl, Nat.zero_le _, fun h => absurd h (Nat.lt_irrefl _)⟩, fun x hx => by cases hx⟩
 ·have key : ∀ k, k ≤ len → ∃ xs : List α, xs.length = k ∧ ∀ i x, xs[i]? = some x → G x ∧ ∃ c, c.length = d.sz ∧ d.K w x c ∧ ∀ j u, c[j]? = some u → w.cell? (ad.add (i * d.sz + j)) = some u := by
   intro k
   induction k with
   | zero => intro _; exact ⟨[], rfl, fun i x hx => by simp at hx⟩
   | succ k ih =>
    intro hk
    obtain ⟨xs, hxl, hx⟩ := ih (by omega)
    have h1 := hget k (by omega)
    rw [List.getElem?_eq_getElem (by omega)] at h1
    obtain ⟨cs', h2, h3⟩ := Option.bind_eq_some_iff.1 h1
    obtain ⟨x, hK, hG⟩ := hel m hn _ _ h3
    obtain ⟨_, hl', hc'⟩ := World.cells?_some h2
    refine ⟨xs ++ [x], by simp [hxl], fun i z hz' => ?_⟩
    by_cases hi : i < xs.length
    ·rw [List.getElem?_append_left hi] at hz'
     exact hx i z hz'
    ·rw [List.getElem?_append_right (by omega)] at hz'
     have hik : i = k := by
      rcases Nat.lt_or_ge (i - xs.length) 1 with h | h
      ·omega
      ·rw [List.getElem?_eq_none (by simpa using h)] at hz'; cases hz'
     subst hik
     rw [hxl, Nat.sub_self] at hz'
     injection hz' with hz'
     subst hz'
     refine ⟨hG, cs', by rw [hl', hz], hK, fun j u hj => ?_⟩
     have hjl : j < cs'.length := by
      rcases Nat.lt_or_ge j cs'.length with h | h
      ·exact h
      ·rw [List.getElem?_eq_none h] at hj; cases hj
     have := hc' j (by omega)
     rw [hj, hz] at this
     rw [← this]
     unfold Addr.add
     by_cases ha : i * d.sz = 0 <;> by_cases hb : j = 0 <;> simp [ha, hb, Nat.add_assoc]
  obtain ⟨xs, hxl, hx⟩ := key len (Nat.le_refl _)
  refine ⟨xs, some ad, cap, by rw [hxl], by omega, ⟨rfl, by unfold maxLen at hcm; omega, fun _ => ⟨ad, rfl, fun i x hi => (hx i x hi).2⟩⟩, fun x hxm => ?_⟩
  obtain ⟨i, hi, rfl⟩ := List.getElem_of_mem hxm
  exact (hx i _ (List.getElem?_eq_getElem hi)).1
theorem qlh {n : Nat} {cs : List Value} {y : DataW H × List MemPlace} (h : DataW.trod enc Tryz.prog w 0 sp held n 25 cs = some y) :
  ∃ xs A c, cs = [.slice A xs.length c] ∧ xs.length ≤ c ∧ Kd.string.C w A xs.length xs ∧ ∀ x ∈ xs, x.size ≤ 9223372036854775807 :=
 qfi Kd.string (fun x => x.size ≤ 9223372036854775807) Tryz.underlying25 (by kernel_rfl) (fun m _ cs y hy => by
  obtain ⟨s, rfl, _, hs⟩ := DataW.trod_string Tryz.underlying9 hy
  exact ⟨s, rfl, hs⟩) h
theorem qth {n : Nat} {cs : List Value} {y : DataW H × List MemPlace} (h : DataW.trod enc Tryz.prog w 0 sp held n 22 cs = some y) :
  ∃ xs A c, cs = [.slice A xs.length c] ∧ xs.length ≤ c ∧ (Kd.int .u32).C w A xs.length xs ∧ ∀ x ∈ xs, 0 ≤ x ∧ x < 4294967296 :=
 qfi (Kd.int .u32) (fun x => 0 ≤ x ∧ x < 4294967296) Tryz.underlying22 (by kernel_rfl) (fun m _ cs y hy => by
  obtain ⟨s, rfl, _, hs⟩ := DataW.trod_int Tryz.underlying106 hy
  simp [Lit.wf, IntKind.min, IntKind.max, IntKind.signed, IntKind.bits] at hs
  exact ⟨s, rfl, by omega⟩) h
theorem qwy {n : Nat} {cs : List Value} {y : DataW H × List MemPlace} (h : DataW.trod enc Tryz.prog w 0 sp held n 24 cs = some y) :
  ∃ b l A c, cs = [.bool b, .slice A l.length c] ∧ l.length ≤ c ∧ (Kd.int .u32).C w A l.length l ∧ qte l := by
 obtain ⟨xs, m, rfl, rfl, hl, hxl, hf⟩ := DataW.trod_struct Tryz.underlying24 h
 have hc2 : Tryz.prog.cellsOf 24 = 2 := by kernel_rfl
 have hcb : Tryz.prog.cellsOf 4 = 1 := by kernel_rfl
 have hcs : Tryz.prog.cellsOf 22 = 1 := by kernel_rfl
 rw [hc2] at hl
 match xs, hxl, cs, hl with
 | [y0, y1], _, [v0, v1], _ =>
  have h0 : DataW.trod enc Tryz.prog w 0 sp held m 4 (([v0, v1].drop 0).take (Tryz.prog.cellsOf 4)) = some y0 := hf 0 _ rfl
  have h1 : DataW.trod enc Tryz.prog w 0 sp held m 22 (([v0, v1].drop 1).take (Tryz.prog.cellsOf 22)) = some y1 := hf 1 _ rfl
  simp only [hcb, hcs] at h0 h1
  obtain ⟨b, e0, _⟩ := DataW.trod_bool Tryz.underlying4 h0
  obtain ⟨l, A, c, e1, h2, h3, h4⟩ := qth h1
  simp at e0 e1
  subst e0 e1
  exact ⟨b, l, A, c, rfl, h2, h3, h4⟩
abbrev UP (n : Nat) : Kd CoreT := Kd.upto (Hh 29 70) 7 (Hg 29 70) n
theorem UP_le {n m : Nat} (h : n ≤ m) {x : CoreT} {cs : List Value} (hk : (UP n).K w x cs) : (UP m).K w x cs := Kd.upto_K_le (qta _ _) (Gd _ _) h hk
def qob (enc : TypeId × Value → H) (w : World) (sp : Nat → Bool) (held : Bool) (n : Nat) : Prop :=
 ∀ (cs : List Value) (y : DataW H × List MemPlace), DataW.trod enc Tryz.prog w 0 sp held n 29 cs = some y → ∃ x, (UP n).K w x cs ∧ qmh x ∧ WfC x
theorem qwx {n N : Nat} (hN : n ≤ N + 1) (ih : ∀ m, m < n → qob enc w sp held m) {cs : List Value} {y : DataW H × List MemPlace} (h : DataW.trod enc Tryz.prog w 0 sp held n 70 cs = some y) :
  ∃ a : AltT, (qop (UP N)).K w a cs ∧ qip a ∧ WfC a.body := by
 obtain ⟨xs, m, rfl, rfl, hl, hxl, hf⟩ := DataW.trod_struct Tryz.underlying70 h
 have hc9 : Tryz.prog.cellsOf 70 = 9 := by kernel_rfl
 have hc1 : Tryz.prog.cellsOf 9 = 1 := by kernel_rfl
 have hc2 : Tryz.prog.cellsOf 25 = 1 := by kernel_rfl
 have hc7 : Tryz.prog.cellsOf 29 = 7 := by kernel_rfl
 rw [hc9] at hl
 match xs, hxl, cs, hl with
 | [y0, y1, y2], _, [v0, v1, v2, v3, v4, v5, v6, v7, v8], _ =>
  have h0 : DataW.trod enc Tryz.prog w 0 sp held m 9 (([v0, v1, v2, v3, v4, v5, v6, v7, v8].drop 0).take (Tryz.prog.cellsOf 9)) = some y0 := hf 0 _ rfl
  have h1 : DataW.trod enc Tryz.prog w 0 sp held m 25 (([v0, v1, v2, v3, v4, v5, v6, v7, v8].drop 1).take (Tryz.prog.cellsOf 25)) = some y1 := hf 1 _ rfl
  have h2 : DataW.trod enc Tryz.prog w 0 sp held m 29 (([v0, v1, v2, v3, v4, v5, v6, v7, v8].drop 2).take (Tryz.prog.cellsOf 29)) = some y2 := hf 2 _ rfl
  simp only [hc1, hc2, hc7] at h0 h1 h2
  obtain ⟨s, e0, _, hs⟩ := DataW.trod_string Tryz.underlying9 h0
  obtain ⟨l, A, c, e1, l1, g1, f1⟩ := qlh h1
  obtain ⟨x, hK, hF, hW⟩ := ih m (by omega) _ _ h2
  simp at e0 e1 hK
  subst e0 e1
  refine ⟨⟨s, l, x⟩, ⟨[_], _, rfl, rfl, ⟨[_], _, rfl, ⟨A, c, rfl, l1, g1⟩, UP_le (by omega) hK⟩⟩, ?_, hW⟩
  rw [qip]
  exact ⟨hs, f1, hF⟩
theorem f69 {p : Prop} (h : p := by
 induction l with
 | nil => trivial
 | cons c r ih => exact ⟨h c (by simp), ih (fun x hx => h x (by simp [hx]))⟩) : p := h
theorem qvj {l : List CoreT} (h : ∀ x ∈ l, qmh x) : qmi l := by
 exact f69
theorem qrp {l : List AltT} (h : ∀ x ∈ l, qip x) : qfj l := by
 exact f69
theorem qzj {l : List CoreT} (h : ∀ x ∈ l, WfC x) : WfCs l := by
 exact f69
theorem qzi {l : List AltT} (h : ∀ x ∈ l, WfC x.body) : WfAs l := by
 induction l with
 | nil => trivial
 | cons c r ih =>
  rw [WfAs, WfA_eq]
  exact ⟨h c (by simp), ih (fun x hx => h x (by simp [hx]))⟩
theorem qtg : ∀ n, qob enc w sp held n := by
 intro n
 induction n using Nat.strongRecOn with
 | _ n ih =>
 intro cs y h
 obtain ⟨xs, m, rfl, rfl, hl, hxl, hf⟩ := DataW.trod_struct Tryz.underlying29 h
 have hc7 : Tryz.prog.cellsOf 29 = 7 := by kernel_rfl
 have hci : Tryz.prog.cellsOf 2 = 1 := by kernel_rfl
 have hcs : Tryz.prog.cellsOf 9 = 1 := by kernel_rfl
 have hcb : Tryz.prog.cellsOf 24 = 2 := by kernel_rfl
 have hcn : Tryz.prog.cellsOf 25 = 1 := by kernel_rfl
 have hck : Tryz.prog.cellsOf 26 = 1 := by kernel_rfl
 have hca : Tryz.prog.cellsOf 27 = 1 := by kernel_rfl
 rw [hc7] at hl
 match xs, hxl, cs, hl with
 | [y0, y1, y2, y3, y4, y5], _, [v0, v1, v2, v3, v4, v5, v6], _ =>
  have h0 : DataW.trod enc Tryz.prog w 0 sp held m 2 (([v0, v1, v2, v3, v4, v5, v6].drop 0).take (Tryz.prog.cellsOf 2)) = some y0 := hf 0 _ rfl
  have h1 : DataW.trod enc Tryz.prog w 0 sp held m 9 (([v0, v1, v2, v3, v4, v5, v6].drop 1).take (Tryz.prog.cellsOf 9)) = some y1 := hf 1 _ rfl
  have h2 : DataW.trod enc Tryz.prog w 0 sp held m 24 (([v0, v1, v2, v3, v4, v5, v6].drop 2).take (Tryz.prog.cellsOf 24)) = some y2 := hf 2 _ rfl
  have h3 : DataW.trod enc Tryz.prog w 0 sp held m 25 (([v0, v1, v2, v3, v4, v5, v6].drop 4).take (Tryz.prog.cellsOf 25)) = some y3 := hf 3 _ rfl
  have h4 : DataW.trod enc Tryz.prog w 0 sp held m 26 (([v0, v1, v2, v3, v4, v5, v6].drop 5).take (Tryz.prog.cellsOf 26)) = some y4 := hf 4 _ rfl
  have h5 : DataW.trod enc Tryz.prog w 0 sp held m 27 (([v0, v1, v2, v3, v4, v5, v6].drop 6).take (Tryz.prog.cellsOf 27)) = some y5 := hf 5 _ rfl
  simp only [hci, hcs, hcb, hcn, hck, hca] at h0 h1 h2 h3 h4 h5
  obtain ⟨k, e0, _, -⟩ := DataW.trod_int Tryz.underlying2 h0
  obtain ⟨s, e1, _, hs⟩ := DataW.trod_string Tryz.underlying9 h1
  obtain ⟨b, ls, A3, c3, e2, l3, g3, o3⟩ := qwy h2
  obtain ⟨ns, A4, c4, e3, l4, g4, f4⟩ := qlh h3
  obtain ⟨ks, A5, c5, e4, l5, g5, f5⟩ := qfi (UP m) (fun x => qmh x ∧ WfC x) Tryz.underlying26 (show Tryz.prog.cellsOf 29 = _ by rw [hc7, Gd]) (fun j hj cs y hy => by
   obtain ⟨x, hx, hF, hW⟩ := ih j (by omega) cs y hy
   exact ⟨x, UP_le (by omega) hx, hF, hW⟩) h4
  obtain ⟨als, A6, c6, e5, l6, g6, f6⟩ := qfi (qop (UP m)) (fun a => qip a ∧ WfC a.body) Tryz.underlying27 (show Tryz.prog.cellsOf 70 = _ by rw [show Tryz.prog.cellsOf 70 = 9 by kernel_rfl]; show 9 = 1 + (1 + (UP m).sz); rw [Gd]) (fun j hj cs y hy =>
   qwx (by omega) (fun i hi => ih i (by omega)) hy) h5
  simp at e0 e1 e2 e3 e4 e5
  obtain ⟨rfl, rfl⟩ := e2
  subst e0 e1 e3 e4 e5
  refine ⟨⟨k, s, b, ls, ns, ks, als⟩, ⟨[_], _, rfl, rfl, ⟨[_], _, rfl, rfl, ⟨[_], _, rfl, rfl, ⟨[_], _, rfl, ⟨A3, c3, rfl, l3, g3⟩, ⟨[_], _, rfl, ⟨A4, c4, rfl, l4, g4⟩, ⟨[_], _, rfl, ⟨A5, c5, rfl, l5, g5⟩, ⟨A6, c6, rfl, l6, g6⟩⟩⟩⟩⟩⟩⟩, ?_, ?_⟩
  ·rw [qmh]
   exact ⟨hs, f4, qvj (fun x hx => (f5 x hx).1), qrp (fun x hx => (f6 x hx).1)⟩
  ·rw [WfC]
   exact ⟨o3, qzj (fun x hx => (f5 x hx).2), qzi (fun x hx => (f6 x hx).2)⟩
theorem qou {n : Nat} {cs : List Value} {y : DataW H × List MemPlace} (h : DataW.trod enc Tryz.prog w 0 sp held n 29 cs = some y) : ∃ x, LC.K w x cs ∧ qmh x ∧ WfC x := by
 obtain ⟨x, hK, h1, h2⟩ := qtg n cs y h
 exact ⟨x, ⟨n, hK⟩, h1, h2⟩
end
def Zx (k : Int) : ByteArray := strOfNums (109 :: dig k.toNat)
theorem Kg (k : Int) (h1 : 1 ≤ k) (h2 : k ≤ 1000000000) (w : World) : Calls Tryz.prog 66 #[.int .i64 k] w fun e w' => e = .returned (.string (Zx k)) ∧ Below w.heap.size w w' := by
 obtain ⟨n, rfl⟩ : ∃ n : Nat, k = n := ⟨k.toNat, by omega⟩
 have HD := Wd (qzz 10 n (by omega))
 go_enter Tryz.func66, Tryz.ntmps66
 go_wp2
 go_loopw [0, 3] (fun s0 s3 wr => ∃ (m : Nat) (acc : List Int), s0 = .int .i64 m ∧ s3 = .string (strOfNums acc) ∧ m ≤ 1000000000 ∧ Hid (dig m ++ acc = dig n) ∧ Hid (Below w.heap.size w wr)) (fun s0 _ _ => (intOf s0).toNat)
 case atStart => exact ⟨n, [], rfl, rfl, by omega, Wd (by simp), Wd (Below.refl _ _)⟩
 case round =>
  obtain ⟨m, acc, rfl, rfl, hm, HA, HB⟩ := hrel
  have hsz : (strOfNums acc).size ≤ 10 := by have h := congrArg List.length HA.out; have := HD.out; rw [List.length_append] at h; rw [strOfNums_size]; omega
  by_cases h0 : m = 0
  ·subst h0
   go_wp2
   go_ret
   refine ⟨?_, HB.out⟩
   have h := HA.out
   rw [qiy, List.nil_append] at h
   rw [h]
   show Ending.returned (Value.string ((⟨#[109]⟩ : ByteArray) ++ strOfNums (dig n))) = _
   rw [show ((⟨#[109]⟩ : ByteArray) ++ strOfNums (dig n)) = strOfNums (109 :: dig n) from qcy [109] _ _ rfl]
   rfl
  ·have e3 : 48 + (m : Int) % 10 = ((48 + m % 10 : Nat) : Int) := by omega
   have hcv := run_convert_bytes_arg (P := Tryz.prog) (wr.alloc (.cells #[.int .u8 (48 + (m : Int) % 10)] 5)) 129 5 Tryz.underlying129 Tryz.underlying5 wr.heap.size 0 1 1 [48 + (m : Int) % 10] rfl (fun i hi => by
    obtain rfl : i = 0 := by omega
    exact (Jm wr 5 [.int .u8 (48 + (m : Int) % 10)]).cell (j := 0) rfl) 9 Tryz.underlying9
   have hs1 : (strOfNums [48 + (m : Int) % 10]).size = 1 := strOfNums_size _
   have HB2 := Wd (show Below w.heap.size w (wr.alloc (.cells #[.int .u8 (48 + (m : Int) % 10)] 5)) from HB.out.alloc HB.out.size _)
   have E3 := Wd e3; have H0 := Wd h0
   have hmp : 0 < m := by omega
   clear e3 h0 HB
   go_wp2
   go_roundw
   case rel =>
    refine ⟨m / 10, ((48 + m % 10 : Nat) : Int) :: acc, by first | rfl | (congr 1; omega) | (rw [show Int.tdiv (m : Int) 10 = ((m / 10 : Nat) : Int) from rfl, qvb (by omega) (by omega)]), ?_, by omega, Wd ?_, HB2⟩
    ·rw [E3.out]; exact congrArg Value.string (qcy _ _ _ rfl)
    ·rw [← HA.out, qse H0.out]; simp
   case measure =>
    have := H0.out
    simp [intOf]; omega
def mkU : List Int → Int → List Int
 | [], _ => []
 | _ :: r, k => k :: mkU r (k + 1)
def mkS : List ByteArray → Int → List ByteArray
 | [], _ => []
 | _ :: r, k => Zx k :: mkS r (k + 1)
theorem Hn (l : List Int) (k : Int) : (mkU l k).length = l.length := by
 induction l generalizing k with
 | nil => rfl
 | cons a r ih => simp [mkU, ih]
theorem Ul (l : List ByteArray) (k : Int) : (mkS l k).length = l.length := by
 induction l generalizing k with
 | nil => rfl
 | cons a r ih => simp [mkS, ih]
theorem qwu (l : List Int) (k : Int) : ∀ i, i < l.length → (mkU l k).take (i + 1) = (mkU l k).take i ++ [k + (i : Int)] := by
 induction l generalizing k with
 | nil => intro i hi; simp at hi
 | cons a r ih =>
  intro i hi
  cases i with
  | zero => simp [mkU]
  | succ i =>
   have := ih (k + 1) i (by simpa using hi)
   simp only [mkU, List.take_succ_cons, this, List.cons_append]
   congr 3
   have : k + 1 + (i : Int) = k + ((i + 1 : Nat) : Int) := by omega
   rw [this]
theorem qwt (l : List ByteArray) (k : Int) : ∀ i, i < l.length → (mkS l k).take (i + 1) = (mkS l k).take i ++ [Zx (k + i)] := by
 induction l generalizing k with
 | nil => intro i hi; simp at hi
 | cons a r ih =>
  intro i hi
  cases i with
  | zero => simp [mkS]
  | succ i =>
   have := ih (k + 1) i (by simpa using hi)
   simp only [mkS, List.take_succ_cons, this, List.cons_append]
   congr 3
   have : k + 1 + (i : Int) = k + ((i + 1 : Nat) : Int) := by omega
   rw [this]
theorem f52 {p : Prop} (h : p := by
 go_wp2_with fail
 go_loopw [1, 5] (fun s1 s5 wr => s1 = .int .i64 k ∧ s5 = .int .i64 0 ∧ wr = w) (fun _ _ _ => 0)
 case atStart => exact ⟨rfl, rfl, rfl⟩
 case round =>
  obtain ⟨rfl, rfl, rfl⟩ := hrel
  go_wp2
  go_ret
  exact ⟨by simp, .inl ⟨rfl, rfl, rfl, rfl⟩, But.refl _ _⟩) : p := h
theorem qgj (l : List Int) (v : Value) (F : List Nat) (k : Int) (hk : 1 ≤ k) (hk2 : k + l.length ≤ 1000000000) (w : World) (hr : Row w 106 v l.length (Gz .u32 l) F) :
  Calls Tryz.prog 65 #[v, .int .i64 k] w fun e w' => e = .returned (.int .i64 (k + l.length)) ∧ Row w' 106 v l.length (Gz .u32 (mkU l k)) F ∧ But F w w' := by
 rcases hr with ⟨rfl, hn, hc, rfl⟩ | ⟨g, cap, spare, rfl, hcap, hcap2, hb, rfl⟩
 ·have hl : l = [] := List.eq_nil_of_length_eq_zero hn
  subst hl
  go_enter Tryz.func65, Tryz.ntmps65
  exact f52
 ·have HB := Wd hb; clear hb
  go_enter Tryz.func65, Tryz.ntmps65
  go_wp2_with fail
  go_loopw [1, 5] (fun s1 s5 wr => ∃ j : Nat, j ≤ l.length ∧ s1 = .int .i64 (k + (j : Int)) ∧ s5 = .int .i64 j ∧ Hid (Blk wr g 106 (Gz .u32 ((mkU l k).take j) ++ (Gz .u32 (l.drop j) ++ spare))) ∧ Hid (But [g] w wr)) (fun _ s5 _ => l.length - (intOf s5).toNat)
  case atStart => exact ⟨0, Nat.zero_le _, by simp, rfl, Wd (by simpa [Gz] using HB.out), Wd (But.refl _ _)⟩
  case round =>
   obtain ⟨j, hj, rfl, rfl, HQ, HN⟩ := hrel
   by_cases hlt : j < l.length
   ·have hpl : j = (Gz .u32 ((mkU l k).take j)).length := by simp [Gz, Hn]; omega
    have hdr : l.drop j = l[j] :: l.drop (j + 1) := List.drop_eq_getElem_cons hlt
    have hq := HQ.out
    rw [hdr] at hq
    have HQ2 := Wd (show Blk wr g 106 (Gz .u32 ((mkU l k).take j) ++ ([.int .u32 l[j]] ++ (Gz .u32 (l.drop (j + 1)) ++ spare))) from hq)
    have HTK := Wd (qwu l k j hlt)
    have HPL := Wd hpl
    clear hq hdr hpl
    generalize l[j] = a at *
    go_wp2_with (refine Qc g j (Gz .u32 ((mkU l k).take j)) [.int .u32 a] (Gz .u32 (l.drop (j + 1)) ++ spare) [.int .u32 (k + (j : Int))] 106 rfl 106 (.tmp 16) _ rfl rfl HPL.out rfl HQ2.out rfl (by kernel_rfl) (by intro v hv; rw [List.mem_singleton.1 hv]; rfl) ?_)
    intro w3 hb3 hg3 hs3
    have HB3 := Wd hb3; have HN3 := Wd (HN.out.trans (But.of_grown hg3))
    clear hb3 hg3
    go_wp2
    go_roundw
    case rel => exact ⟨j + 1, by omega, by go_num, by go_num, Wd (by rw [HTK.out]; simpa [Gz] using HB3.out), HN3⟩
    case measure => simp [intOf]; omega
   ·have hjl : j = l.length := by omega
    subst hjl
    have hq := HQ.out
    rw [List.take_of_length_le (by rw [Hn]; omega), List.drop_length] at hq
    have HQ2 := Wd hq; clear hq
    go_wp2
    go_ret
    exact ⟨rfl, .inr ⟨g, cap, spare, rfl, hcap, hcap2, by simpa [Gz] using HQ2.out, rfl⟩, HN.out⟩
theorem qcp (l : List ByteArray) (v : Value) (F : List Nat) (k : Int) (hk : 1 ≤ k) (hk2 : k + l.length ≤ 1000000000) (w : World) (hr : Row w 9 v l.length (Xa l) F) :
  Calls Tryz.prog 35 #[v, .int .i64 k] w fun e w' => e = .returned (.int .i64 (k + l.length)) ∧ Row w' 9 v l.length (Xa (mkS l k)) F ∧ But F w w' := by
 rcases hr with ⟨rfl, hn, hc, rfl⟩ | ⟨g, cap, spare, rfl, hcap, hcap2, hb, rfl⟩
 ·have hl : l = [] := List.eq_nil_of_length_eq_zero hn
  subst hl
  go_enter Tryz.func35, Tryz.ntmps35
  exact f52
 ·have HB := Wd hb; clear hb
  go_enter Tryz.func35, Tryz.ntmps35
  go_wp2_with fail
  go_loopw [1, 5] (fun s1 s5 wr => ∃ j : Nat, j ≤ l.length ∧ s1 = .int .i64 (k + (j : Int)) ∧ s5 = .int .i64 j ∧ Hid (Blk wr g 9 (Xa ((mkS l k).take j) ++ (Xa (l.drop j) ++ spare))) ∧ Hid (But [g] w wr)) (fun _ s5 _ => l.length - (intOf s5).toNat)
  case atStart => exact ⟨0, Nat.zero_le _, by simp, rfl, Wd (by simpa [Xa] using HB.out), Wd (But.refl _ _)⟩
  case round =>
   obtain ⟨j, hj, rfl, rfl, HQ, HN⟩ := hrel
   by_cases hlt : j < l.length
   ·have hpl : j = (Xa ((mkS l k).take j)).length := by simp [Xa, Ul]; omega
    have hdr : l.drop j = l[j] :: l.drop (j + 1) := List.drop_eq_getElem_cons hlt
    have hq := HQ.out
    rw [hdr] at hq
    have HQ2 := Wd (show Blk wr g 9 (Xa ((mkS l k).take j) ++ ([.string l[j]] ++ (Xa (l.drop (j + 1)) ++ spare))) from hq)
    have HTK := Wd (qwt l k j hlt)
    have HPL := Wd hpl
    clear hq hdr hpl
    generalize l[j] = a at *
    go_wp2_with fail
    refine (Kg (k + (j : Int)) (by omega) (by omega) wr).mono ?_
    rintro e w2 ⟨rfl, hb2⟩
    have HQ3 := Wd (HQ2.out.below hb2)
    have HN2 := Wd (HN.out.trans (But.of_below hb2))
    clear hb2
    go_wp2_with (refine Qc g j (Xa ((mkS l k).take j)) [.string a] (Xa (l.drop (j + 1)) ++ spare) [.string (Zx (k + (j : Int)))] 9 rfl 9 (.tmp 16) _ rfl rfl HPL.out rfl HQ3.out rfl (by kernel_rfl) (by intro v hv; rw [List.mem_singleton.1 hv]; rfl) ?_)
    intro w3 hb3 hg3 hs3
    have HB3 := Wd hb3; have HN3 := Wd (HN2.out.trans (But.of_grown hg3))
    clear hb3 hg3
    go_wp2
    go_roundw
    case rel => exact ⟨j + 1, by omega, by go_num, by go_num, Wd (by rw [HTK.out]; simpa [Xa] using HB3.out), HN3⟩
    case measure => simp [intOf]; omega
   ·have hjl : j = l.length := by omega
    subst hjl
    have hq := HQ.out
    rw [List.take_of_length_le (by rw [Ul]; omega), List.drop_length] at hq
    have HQ2 := Wd hq; clear hq
    go_wp2
    go_ret
    exact ⟨rfl, .inr ⟨g, cap, spare, rfl, hcap, hcap2, by simpa [Xa] using HQ2.out, rfl⟩, HN.out⟩
end Go.Proofs.YtnoammmohdmnjaaGreat.C13
