import Derived.Test.YtnoammmohdmnjaaGreatU7
set_option maxRecDepth 100000
set_option maxHeartbeats 16000000
set_option linter.unusedVariables false
set_option linter.unusedSimpArgs false
namespace Go.Proofs.YtnoammmohdmnjaaGreat.C13
open Go.RowKit Go.Proofs.YtnoammmohdmnjaaGreatW.PrintWords
open List renaming setIfInBounds_toArray → Jla, set_cons_zero → Jlb, set_cons_succ → Jlc
theorem qdw {w : World} {base : Nat} {e : TypeId} {v : Value} {n : Nat} {xs : List Value} (h : w.ownsRow base e 1 v n xs) : ∃ F, Row w e v n xs F ∧ F.Nodup ∧ ∀ k ∈ F, base ≤ k := by
 obtain ⟨hl, h⟩ := h
 rcases h with ⟨rfl, rfl⟩ | ⟨g, cap, cur, rfl, hg, hb, hn, hc, hs, rfl⟩
 ·exact ⟨[], .inl ⟨rfl, rfl, List.eq_nil_of_length_eq_zero (by omega), rfl⟩, List.nodup_nil, fun k hk => by cases hk⟩
 ·refine ⟨[g], .inr ⟨g, cap, cur.toList.drop (n * 1), rfl, hn, by simpa [maxLen] using hc, ?_, rfl⟩, by simp, fun k hk => by rw [List.mem_singleton.1 hk]; exact hg⟩
  unfold Blk
  rw [List.take_append_drop]
  exact hb
theorem qxb {w : World} {base : Nat} {ok : Nat → Prop} {e : Nat} {k : IntKind} {v : Value} {xs : List Int} (h : (Kd.int k).R e w base ok v xs) : w.ownsRow base e 1 v xs.length (Gz k xs) := Kd.own_of_R h
theorem qff {w : World} {base : Nat} {ok : Nat → Prop} {e : Nat} {v : Value} {xs : List ByteArray} (h : Kd.string.R e w base ok v xs) : w.ownsRow base e 1 v xs.length (Xa xs) := Kd.own_of_R h
def qbn (e ea : TypeId) (x : CoreT) (w : World) (en : Ending) (w' : World) : Prop :=
 ∃ cs F, en = .returned (.agg cs.toArray) ∧ Ke e ea w' x cs F ∧ F.Nodup ∧ (∀ k ∈ F, w.heap.size ≤ k) ∧ Below w.heap.size w w'
def qzh (e ea : TypeId) (x : AltT) (w : World) (en : Ending) (w' : World) : Prop :=
 ∃ cs F, en = .returned (.agg cs.toArray) ∧ qet e ea w' x cs F ∧ F.Nodup ∧ (∀ k ∈ F, w.heap.size ≤ k) ∧ Below w.heap.size w w'
def qrt (e ea : TypeId) (xs : List CoreT) (w : World) (en : Ending) (w' : World) : Prop :=
 ∃ v cs F G, en = .returned v ∧ Row w' e v xs.length cs F ∧ Ju e ea w' xs cs G ∧ (F ++ G).Nodup ∧ (∀ k ∈ F ++ G, w.heap.size ≤ k) ∧ Below w.heap.size w w'
def qof (e ea : TypeId) (xs : List AltT) (w : World) (en : Ending) (w' : World) : Prop :=
 ∃ v cs F G, en = .returned v ∧ Row w' ea v xs.length cs F ∧ Jt e ea w' xs cs G ∧ (F ++ G).Nodup ∧ (∀ k ∈ F ++ G, w.heap.size ≤ k) ∧ Below w.heap.size w w'
def qhn (x : CoreT) : Prop := bulk x ≤ 274877906944 → ∀ (w : World) (cs : List Value), LC.K w x cs →
 Calls Tryz.prog 6 #[.agg cs.toArray] w (qbn 35 76 x w)
def qmk (x : AltT) : Prop := Us x ≤ 274877906944 → ∀ (w : World) (cs : List Value), LA.K w x cs →
 Calls Tryz.prog 51 #[.agg cs.toArray] w (qzh 35 76 x w)
theorem infoC : (Tryz.prog.info? 35).map (fun i => (i.zero, i.size, i.bytes)) = some (some (.agg #[.int .i64 0, .string ⟨#[]⟩, .bool false, .slice none 0 0, .slice none 0 0, .slice none 0 0, .slice none 0 0]), 7, 128) := by kernel_rfl
theorem infoA : (Tryz.prog.info? 76).map (fun i => (i.zero, i.size, i.bytes)) = some (some (.agg #[.string ⟨#[]⟩, .slice none 0 0, .int .i64 0, .string ⟨#[]⟩, .bool false, .slice none 0 0, .slice none 0 0, .slice none 0 0, .slice none 0 0]), 9, 168) := by kernel_rfl
theorem f82 {p : Prop} (h : p := by
 rcases List.mem_cons.1 h with rfl | h
 ·omega
 ·have := ih h; omega) : p := h
theorem Qx {l : List CoreT} {x : CoreT} (h : x ∈ l) : bulk x ≤ Qo l := by
 induction l with
 | nil => cases h
 | cons c r ih =>
  rw [Qo]
  exact f82
theorem qah (l : List CoreT) : l.length ≤ Qo l := by rw [qoi]; omega
theorem Zu {l : List AltT} {x : AltT} (h : x ∈ l) : Us x ≤ Qq l := by
 induction l with
 | nil => cases h
 | cons c r ih =>
  rw [Qq]
  exact f82
theorem Ks (l : List AltT) : l.length ≤ Qq l := by rw [qki]; omega
theorem Zi {e ea : TypeId} {w : World} {x : CoreT} {cs F} (h : Ke e ea w x cs F) : ∃ A3 c3 A4 c4 A5 c5 A6 c6, cs = Qb x A3 c3 A4 c4 A5 c5 A6 c6 := by
 obtain ⟨A3, c3, A4, c4, A5, c5, A6, c6, h, _⟩ := Qk (Yo h)
 exact ⟨A3, c3, A4, c4, A5, c5, A6, c6, h⟩
def qzd (e ea : TypeId) (sz n k : Nat) (g : Nat) (w w' : World) (O : List Value → List Nat → Prop) : Prop :=
 ∃ done rest G, Blk w' g e (done ++ rest) ∧ done.length = k * sz ∧ rest.length = (n - k) * sz ∧ O done G ∧ G.Nodup ∧ (∀ b ∈ G, g < b) ∧ Below w.heap.size w w'
theorem f97 {p : Prop} (h : p := by
 rw [hg.block b (Nat.lt_of_lt_of_le (hGlt b hb) hB2.size) (by have := h5 b hb; intro he; injection he with he; omega), hB2.block b (hGlt b hb)]) : p := h
theorem f98 {p : Prop} (h : p := by
 exact Below.grown (hB.trans (hB2.mono hB.size)) hg (by have := hB.size; have := hB2.size; omega) (fun k hk => by injection hk with hk; omega)) : p := h
theorem f115 {p : Prop} (h : p := by
 rw [List.nodup_append]
 exact ⟨h4, hN, fun a ha b hb he => by have := hGlt a ha; have := hF b hb; omega⟩) : p := h
theorem qtn {e ea : TypeId} {xs : List CoreT} {k : Nat} {w wr w2 w3 : World} (hk : k < xs.length) {done rest cs : List Value} {G F : List Nat} (hB : Below w.heap.size w wr)
  (hgl : w.heap.size < wr.heap.size) (hX : done.length = k * 7 ∧ rest.length = (xs.length - k) * 7 ∧ Ju e ea wr (xs.take k) done G ∧ G.Nodup ∧ ∀ b ∈ G, w.heap.size < b)
  (hO : Ke e ea w2 xs[k] cs F) (hN : F.Nodup) (hF : ∀ b ∈ F, wr.heap.size ≤ b) (hB2 : Below wr.heap.size wr w2)
  (hblk : Blk w3 w.heap.size e (done ++ (cs ++ rest.drop 7))) (hg : w2.grownBy w3 (some w.heap.size)) : qzd e ea 7 xs.length (k + 1) w.heap.size w w3 (Ju e ea w3 (xs.take (k + 1))) := by
 obtain ⟨h1, h2, h3, h4, h5⟩ := hX
 have hGlt := Yn h3
 have hFlt := Je _ _ _ hO
 refine ⟨done ++ cs, rest.drop 7, G ++ F, by rw [List.append_assoc]; exact hblk, by rw [List.length_append, h1, qgp hO]; omega, by rw [List.length_drop, h2]; omega, ?_, ?_, ?_, ?_⟩
 ·rw [List.take_succ_eq_append_getElem hk]
  refine qbe _ _ _ _ _ _ (Zs h3 (fun b hb => ?_)) (Jy _ _ _ hO (fun b hb => ?_))
  ·exact f97
  ·exact hg.block b (hFlt b hb) (by have := hF b hb; intro he; injection he with he; omega)
 ·exact f115
 ·intro b hb
  rcases List.mem_append.1 hb with hb | hb
  ·exact h5 b hb
  ·have := hF b hb; omega
 ·exact f98
theorem qqn {e ea : TypeId} {xs : List AltT} {k : Nat} {w wr w2 w3 : World} (hk : k < xs.length) {done rest cs : List Value} {G F : List Nat} (hB : Below w.heap.size w wr)
  (hgl : w.heap.size < wr.heap.size) (hX : done.length = k * 9 ∧ rest.length = (xs.length - k) * 9 ∧ Jt e ea wr (xs.take k) done G ∧ G.Nodup ∧ ∀ b ∈ G, w.heap.size < b)
  (hO : qet e ea w2 xs[k] cs F) (hN : F.Nodup) (hF : ∀ b ∈ F, wr.heap.size ≤ b) (hB2 : Below wr.heap.size wr w2)
  (hblk : Blk w3 w.heap.size ea (done ++ (cs ++ rest.drop 9))) (hg : w2.grownBy w3 (some w.heap.size)) : qzd ea ea 9 xs.length (k + 1) w.heap.size w w3 (Jt e ea w3 (xs.take (k + 1))) := by
 obtain ⟨h1, h2, h3, h4, h5⟩ := hX
 have hGlt := Gr h3
 have hFlt := qgl _ _ _ hO
 refine ⟨done ++ cs, rest.drop 9, G ++ F, by rw [List.append_assoc]; exact hblk, by rw [List.length_append, h1, qfd hO]; omega, by rw [List.length_drop, h2]; omega, ?_, ?_, ?_, ?_⟩
 ·rw [List.take_succ_eq_append_getElem hk]
  refine qbd _ _ _ _ _ _ (Jd h3 (fun b hb => ?_)) (qam _ _ _ hO (fun b hb => ?_))
  ·exact f97
  ·exact hg.block b (hFlt b hb) (by have := hF b hb; intro he; injection he with he; omega)
 ·exact f115
 ·intro b hb
  rcases List.mem_append.1 hb with hb | hb
  ·exact h5 b hb
  ·have := hF b hb; omega
 ·exact f98
theorem f40 {p : Prop} (h : p := by
 obtain ⟨done, rest, G, hb, h1, h2, h3, h4, h5, h6⟩ := h
 rw [List.take_length] at h3
 refine ⟨_, done, [w.heap.size], G, rfl, .inr ⟨_, _, rest, rfl, Nat.le_refl _, hl, hb, rfl⟩, h3, ?_, ?_, h6⟩
 ·rw [List.singleton_append, List.nodup_cons]
  exact ⟨fun hm => by have := h5 _ hm; omega, h4⟩
 ·intro k hk
  rcases List.mem_cons.1 hk with rfl | hk
  ·exact Nat.le_refl _
  ·have := h5 k hk; omega) : p := h
theorem qxd {e ea : TypeId} {xs : List CoreT} {w wr : World} (h : qzd e ea 7 xs.length xs.length w.heap.size w wr (Ju e ea wr (xs.take xs.length))) (hl : xs.length ≤ 9223372036854775807) :
  qrt e ea xs w (.returned (.slice (some ⟨w.heap.size, 0, none⟩) xs.length xs.length)) wr := by
 exact f40
theorem qtl {e ea : TypeId} {xs : List AltT} {w wr : World} (h : qzd ea ea 9 xs.length xs.length w.heap.size w wr (Jt e ea wr (xs.take xs.length))) (hl : xs.length ≤ 9223372036854775807) :
  qof e ea xs w (.returned (.slice (some ⟨w.heap.size, 0, none⟩) xs.length xs.length)) wr := by
 exact f40
theorem qtm {e ea : TypeId} {sz n k g : Nat} {w w' : World} {O : List Value → List Nat → Prop} (h : qzd e ea sz n k g w w' O) : g < w'.heap.size := by
 obtain ⟨_, _, _, hb, _⟩ := h
 exact hb.lt
theorem qti {e ea : TypeId} {w : World} {x : AltT} {cs F} (h : qet e ea w x cs F) : ∃ A1 c1 A3 c3 A4 c4 A5 c5 A6 c6, cs = Yl x A1 c1 A3 c3 A4 c4 A5 c5 A6 c6 := by
 rw [Xw] at h
 obtain ⟨v1, cb, F1, F2, rfl, rfl, h1, hb⟩ := h
 obtain ⟨A1, c1, rfl, _⟩ := h1.slice
 obtain ⟨A3, c3, A4, c4, A5, c5, A6, c6, rfl⟩ := Zi hb
 exact ⟨A1, c1, A3, c3, A4, c4, A5, c5, A6, c6, rfl⟩
theorem Qn (l : List ByteArray) : l.length ≤ Uo l := by rw [qpb]; omega
theorem qnw (xs : List CoreT) (hbk : Qo xs ≤ 274877906944) (ih : ∀ x ∈ xs, qhn x) (A : Option Addr) (c : Nat) (w : World) (hr : LC.C w A xs.length xs) (hc : xs.length ≤ c) :
  Calls Tryz.prog 22 #[.slice A xs.length c] w (qrt 35 76 xs w) := by
 have hl := qah xs
 have hl2 : xs.length ≤ 274877906944 := by omega
 obtain ⟨i0, hi, hz0, hz1, hz2⟩ := info_parts infoC
 have hmk : ∀ W : World, (Instr.makeSlice 32 (.int .i64 (xs.length : Int)) (.int .i64 (xs.length : Int))).run Tryz.prog W = .ok (.slice (some ⟨W.heap.size, 0, none⟩) xs.length xs.length) (W.alloc (.cells (madeCells (Value.agg #[.int .i64 0, .string ⟨#[]⟩, .bool false, .slice none 0 0, .slice none 0 0, .slice none 0 0, .slice none 0 0]).cells (xs.length * 7)) 35)) := by
  intro W
  have := run_make (P := Tryz.prog) W 32 35 i0 _ Tryz.underlying32 hi hz0 .i64 .i64 xs.length xs.length (by omega) (by omega) (by rw [hz2]; omega) (by omega)
  rw [hz1] at this
  simpa using this
 clear hi hz0 hz1 hz2
 have IH := Wd ih; clear ih
 have HR := Wd hr; clear hr
 have HBK := Wd hbk; clear hbk
 go_enter Tryz.func22, Tryz.ntmps22
 go_wp2
 clear hmk
 go_loopw [4] (fun i wr => ∃ (k : Nat), k ≤ xs.length ∧ i = .int .i64 k ∧ Hid (qzd 35 76 7 xs.length k w.heap.size w wr (Ju 35 76 wr (xs.take k)))) (fun i _ => xs.length - (intOf i).toNat)
 case atStart =>
  exact ⟨0, Nat.zero_le _, rfl, Wd ⟨[], (madeCells (Value.agg #[.int .i64 0, .string ⟨#[]⟩, .bool false, .slice none 0 0, .slice none 0 0, .slice none 0 0, .slice none 0 0]).cells (xs.length * 7)).toList, [], qay _ _ _, by simp, by simp [size_madeCells], by rw [List.take_zero, Ju]; exact ⟨rfl, rfl⟩, List.nodup_nil, (fun k hk => by cases hk), (Below.refl _ _).alloc (Nat.le_refl _) _⟩⟩
 case round =>
  obtain ⟨k, hk, rfl, HP⟩ := hrel
  by_cases hlt : k < xs.length
  ·have HB := Wd (show Below w.heap.size w wr from by obtain ⟨_, _, _, _, _, _, _, _, _, h⟩ := HP.out; exact h)
   obtain ⟨ad, A3, c3, A4, c4, A5, c5, A6, c6, rfl, hK, g0, g1, g2, g3, g4, g5, g6⟩ := Ko (Kd.C_below HR.out HB.out) k hlt
   go_wp2_with fail
   refine (IH.out _ (List.getElem_mem hlt) (by have := Qx (List.getElem_mem hlt); have := HBK.out; omega) wr _ hK).mono ?_
   rintro e w2 ⟨cs2, F2, rfl, hO, hN, hF, hb2⟩
   clear g0 g1 g2 g3 g4 g5 g6 hK
   obtain ⟨B3, d3, B4, d4, B5, d5, B6, d6, rfl⟩ := Zi hO
   obtain ⟨done, rest, G, hblk, hdl, hrl, hdO, hGN, hGg, _⟩ := HP.out
   simp only [Qb]
   have ⟨HO, HN, HF, HB2⟩ := Wj hO hN hF hb2; clear hO hN hF hb2
   have HBLK2 := Wd (hblk.below HB2.out)
   have HX := Wd (And.intro hdl (And.intro hrl (And.intro hdO (And.intro hGN hGg))))
   clear hblk hdl hrl hdO hGN hGg
   go_wp2_with (refine Qc w.heap.size (k * 7) done (rest.take 7) (rest.drop 7) (Qb xs[k] B3 d3 B4 d4 B5 d5 B6 d6) 35 rfl 35 _ _ rfl rfl ?h1 rfl ?h2 ?h3 ?h4 ?h5 ?_)
   case h1 => exact HX.out.1.symm
   case h2 => rw [List.take_append_drop]; exact HBLK2.out
   case h3 =>
    have := HX.out.2.1
    rw [List.length_take]; simp only [Qb, List.length_cons, List.length_nil]; omega
   case h4 => kernel_rfl
   case h5 => intro v hv; simp [Qb] at hv; rcases hv with rfl | rfl | rfl | rfl | rfl | rfl | rfl <;> rfl
   intro w3 hblk3 hg3 hsz3
   have HP3 := Wd (qtn hlt HB.out (qtm HP.out) HX.out HO.out HN.out HF.out HB2.out hblk3 hg3)
   clear hblk3 hg3 hsz3 HX HO HN HF HB2 HBLK2 HB HP
   exact f49
  ·have hkk : k = xs.length := by omega
   have HK := Wd hkk; clear hkk
   go_wp2
   go_ret
   exact qxd (by have := HP.out; rw [HK.out] at this; exact this) (by omega)
theorem qhk (xs : List AltT) (hbk : Qq xs ≤ 274877906944) (ih : ∀ x ∈ xs, qmk x) (A : Option Addr) (c : Nat) (w : World) (hr : LA.C w A xs.length xs) (hc : xs.length ≤ c) :
  Calls Tryz.prog 23 #[.slice A xs.length c] w (qof 35 76 xs w) := by
 have hl := Ks xs
 have hl2 : xs.length ≤ 274877906944 := by omega
 obtain ⟨i0, hi, hz0, hz1, hz2⟩ := info_parts infoA
 have hmk : ∀ W : World, (Instr.makeSlice 33 (.int .i64 (xs.length : Int)) (.int .i64 (xs.length : Int))).run Tryz.prog W = .ok (.slice (some ⟨W.heap.size, 0, none⟩) xs.length xs.length) (W.alloc (.cells (madeCells (Value.agg #[.string ⟨#[]⟩, .slice none 0 0, .int .i64 0, .string ⟨#[]⟩, .bool false, .slice none 0 0, .slice none 0 0, .slice none 0 0, .slice none 0 0]).cells (xs.length * 9)) 76)) := by
  intro W
  have := run_make (P := Tryz.prog) W 33 76 i0 _ Tryz.underlying33 hi hz0 .i64 .i64 xs.length xs.length (by omega) (by omega) (by rw [hz2]; omega) (by omega)
  rw [hz1] at this
  simpa using this
 clear hi hz0 hz1 hz2
 have IH := Wd ih; clear ih
 have HR := Wd hr; clear hr
 have HBK := Wd hbk; clear hbk
 go_enter Tryz.func23, Tryz.ntmps23
 go_wp2
 clear hmk
 go_loopw [4] (fun i wr => ∃ (k : Nat), k ≤ xs.length ∧ i = .int .i64 k ∧ Hid (qzd 76 76 9 xs.length k w.heap.size w wr (Jt 35 76 wr (xs.take k)))) (fun i _ => xs.length - (intOf i).toNat)
 case atStart =>
  exact ⟨0, Nat.zero_le _, rfl, Wd ⟨[], (madeCells (Value.agg #[.string ⟨#[]⟩, .slice none 0 0, .int .i64 0, .string ⟨#[]⟩, .bool false, .slice none 0 0, .slice none 0 0, .slice none 0 0, .slice none 0 0]).cells (xs.length * 9)).toList, [], qay _ _ _, by simp, by simp [size_madeCells], by rw [List.take_zero, Jt]; exact ⟨rfl, rfl⟩, List.nodup_nil, (fun k hk => by cases hk), (Below.refl _ _).alloc (Nat.le_refl _) _⟩⟩
 case round =>
  obtain ⟨k, hk, rfl, HP⟩ := hrel
  by_cases hlt : k < xs.length
  ·have HB := Wd (show Below w.heap.size w wr from by obtain ⟨_, _, _, _, _, _, _, _, _, h⟩ := HP.out; exact h)
   obtain ⟨ad, A1, c1, A3, c3, A4, c4, A5, c5, A6, c6, rfl, hK, _, _, _, g0, g1, g2, g3, g4, g5, g6, g7, g8⟩ := Xn (Kd.C_below HR.out HB.out) k hlt
   go_wp2_with fail
   refine (IH.out _ (List.getElem_mem hlt) (by have := Zu (List.getElem_mem hlt); have := HBK.out; omega) wr _ hK).mono ?_
   rintro e w2 ⟨cs2, F2, rfl, hO, hN, hF, hb2⟩
   clear g0 g1 g2 g3 g4 g5 g6 g7 g8 hK
   obtain ⟨B1, d1, B3, d3, B4, d4, B5, d5, B6, d6, rfl⟩ := qti hO
   obtain ⟨done, rest, G, hblk, hdl, hrl, hdO, hGN, hGg, _⟩ := HP.out
   simp only [Yl]
   have ⟨HO, HN, HF, HB2⟩ := Wj hO hN hF hb2; clear hO hN hF hb2
   have HBLK2 := Wd (hblk.below HB2.out)
   have HX := Wd (And.intro hdl (And.intro hrl (And.intro hdO (And.intro hGN hGg))))
   clear hblk hdl hrl hdO hGN hGg
   go_wp2_with (refine Qc w.heap.size (k * 9) done (rest.take 9) (rest.drop 9) (Yl xs[k] B1 d1 B3 d3 B4 d4 B5 d5 B6 d6) 76 rfl 76 _ _ rfl rfl ?h1 rfl ?h2 ?h3 ?h4 ?h5 ?_)
   case h1 => exact HX.out.1.symm
   case h2 => rw [List.take_append_drop]; exact HBLK2.out
   case h3 =>
    have := HX.out.2.1
    rw [List.length_take]; simp only [Yl, List.length_cons, List.length_nil]; omega
   case h4 => kernel_rfl
   case h5 => intro v hv; simp [Yl] at hv; rcases hv with rfl | rfl | rfl | rfl | rfl | rfl | rfl | rfl | rfl <;> rfl
   intro w3 hblk3 hg3 hsz3
   have HP3 := Wd (qqn hlt HB.out (qtm HP.out) HX.out HO.out HN.out HF.out HB2.out hblk3 hg3)
   clear hblk3 hg3 hsz3 HX HO HN HF HB2 HBLK2 HB HP
   exact f49
  ·have hkk : k = xs.length := by omega
   have HK := Wd hkk; clear hkk
   go_wp2
   go_ret
   exact qtl (by have := HP.out; rw [HK.out] at this; exact this) (by omega)
theorem Ze {W0 w w' : World} {g : Nat} (h : Below W0.heap.size W0 w) (hg : w.grownBy w' (some g)) (hge : W0.heap.size ≤ g) : Below W0.heap.size W0 w' :=
 Below.grown h hg h.size (fun k hk => by injection hk with hk; omega)
theorem Blk.grown {w w' : World} {g g' : Nat} {e cs} (h : Blk w g e cs) (hg : w.grownBy w' (some g')) (hne : g ≠ g') : Blk w' g e cs := h.move (hg.block g h.lt (fun he => hne (by injection he)))
theorem Row.grown {w w' : World} {g' : Nat} {e v n cells F} (h : Row w e v n cells F) (hg : w.grownBy w' (some g')) (hne : ∀ k ∈ F, k ≠ g') : Row w' e v n cells F :=
 h.move (fun k hk => hg.block k (h.lt k hk) (fun he => hne k hk (by injection he)))
theorem Row.below {w w' : World} {e v n cells F} (h : Row w e v n cells F) (hb : Below w.heap.size w w') : Row w' e v n cells F := h.move (fun k hk => hb.block k (h.lt k hk))
theorem Xv {e ea : TypeId} {w w' : World} {g' : Nat} {x cs F} (h : Ke e ea w x cs F) (hg : w.grownBy w' (some g')) (hne : ∀ k ∈ F, k ≠ g') : Ke e ea w' x cs F :=
 Jy _ _ _ h (fun k hk => hg.block k (Je _ _ _ h k hk) (fun he => hne k hk (by injection he)))
theorem qan {e ea : TypeId} {w w' : World} {x cs F} (h : Ke e ea w x cs F) (hb : Below w.heap.size w w') : Ke e ea w' x cs F :=
 Jy _ _ _ h (fun k hk => hb.block k (Je _ _ _ h k hk))
theorem Blk.alloc {w : World} {g e cs} (h : Blk w g e cs) (o : Obj) : Blk (w.alloc o) g e cs := h.below (Below.alloc (Below.refl _ _) (Nat.le_refl _) o)
theorem Gq {F G : List Nat} {N : Nat} (hF : F.Nodup) (hG : G.Nodup) (h1 : ∀ k ∈ F, k < N) (h2 : ∀ k ∈ G, N ≤ k) : (F ++ G).Nodup := by
 rw [List.nodup_append]
 exact ⟨hF, hG, fun a ha b hb he => by have := h1 a ha; have := h2 b hb; omega⟩
theorem three {w w4 : World} {e1 e2 e3 : TypeId} {c1 c2 c3 : List Value}
  (h : Below (((w.alloc (.cells c1.toArray e1)).alloc (.cells c2.toArray e2)).alloc (.cells c3.toArray e3)).heap.size (((w.alloc (.cells c1.toArray e1)).alloc (.cells c2.toArray e2)).alloc (.cells c3.toArray e3)) w4) :
  Below w.heap.size w w4 ∧ Blk w4 w.heap.size e1 c1 ∧ Blk w4 (w.heap.size + 1) e2 c2 ∧ Blk w4 (w.heap.size + 1 + 1) e3 c3 ∧ w.heap.size + 3 ≤ w4.heap.size := by
 refine ⟨Jk (Xz h), ((((Jm w _ c1).alloc _).alloc _)).below h, ?_, ?_, by have := h.size; simp at this; omega⟩
 ·have := ((Jm (w.alloc (.cells c1.toArray e1)) e2 c2).alloc (.cells c3.toArray e3)).below h
  simpa using this
 ·have := (Jm ((w.alloc (.cells c1.toArray e1)).alloc (.cells c2.toArray e2)) e3 c3).below h
  simpa using this
theorem qjy (x : AltT) (ih : qhn x.body) : qmk x := by
 intro hbk w cs hK
 obtain ⟨A1, c1, cb, rfl, l1, g1, hb⟩ := qcg hK
 obtain ⟨A3, c3, A4, c4, A5, c5, A6, c6, rfl, _⟩ := Qk hb
 rw [Zo] at hbk
 have hbn := Qn x.names
 have HBK := Wd hbk; clear hbk
 have IH := Wd ih; clear ih
 have G1 := Wd g1; have HBd := Wd hb; clear g1 hb hK
 simp only [Qb]
 go_enter Tryz.func51, Tryz.ntmps51
 go_wp2_with fail
 refine (qux x.names (by have := HBK.out; omega) _ _ _ (Kd.C_below G1.out (((Below.refl _ _).alloc (Nat.le_refl _) _).alloc (by simp) _ |>.alloc (by simp; omega) _)) l1).mono ?_
 rintro e w4 ⟨v1, F1, rfl, hrow1, hnd1, hf1, hb4⟩
 obtain ⟨hb, hp, hr, ho, hz⟩ := three hb4
 simp only [World.size_alloc] at hf1
 obtain ⟨B1, d1, rfl, _⟩ := hrow1.slice
 have ⟨ROW, ND, FF, HB, HP, HR, HO⟩ := Wk hrow1 hnd1 hf1 hb hp hr ho
 clear hb4 hrow1 hnd1 hf1 hb hp hr ho
 go_wp2_with (refine Qc (w.heap.size + 1 + 1) 1 [_] [_] [_, _, _, _, _, _, _] [.slice B1 x.names.length d1] 76 rfl 25 _ _ rfl rfl rfl rfl HO.out rfl (by kernel_rfl) (by intro v hv; rw [List.mem_singleton.1 hv]; rfl) ?_)
 intro w5 hblk5 hg5 hsz5
 have ⟨HP5, HR5, ROW5, HB5, HO5⟩ := Wz (HP.out.grown hg5 (by omega)) (HR.out.grown hg5 (by omega)) (ROW.out.grown hg5 (fun k hk => by have := FF.out k hk; omega)) (Ze HB.out hg5 (by omega)) hblk5
 rw [← hsz5] at hz
 clear hblk5 hg5 hsz5 HP HR HO ROW HB
 have p2 := HP5.out.cell (j := 2) rfl; have p3 := HP5.out.cell (j := 3) rfl; have p4 := HP5.out.cell (j := 4) rfl; have p5 := HP5.out.cell (j := 5) rfl; have p6 := HP5.out.cell (j := 6) rfl; have p7 := HP5.out.cell (j := 7) rfl; have p8 := HP5.out.cell (j := 8) rfl
 go_wp2_with fail
 refine (IH.out (by have := HBK.out; omega) _ _ ((Ja _ _).K_below HB5.out HBd.out)).mono ?_
 rintro e w6 ⟨cs, F2, rfl, hO2, hn2, hf2, hb6⟩
 clear p2 p3 p4 p5 p6 p7 p8
 obtain ⟨C3, h3, C4, h4, C5, h5, C6, h6, rfl⟩ := Zi hO2
 have ⟨O2, N2, FF2⟩ := Wq hO2 hn2 hf2
 have ⟨HP6, HR6, HO6, ROW6, HB6⟩ := Wz (HP5.out.below hb6) (HR5.out.below hb6) (HO5.out.below hb6) (ROW5.out.below hb6) (Below.step HB5.out hb6)
 have hz6 := hb6.size
 have FL1 := Wd ROW5.out.lt
 clear hO2 hn2 hf2 hb6 HP5 HR5 HO5 ROW5 HB5
 simp only [Qb] at O2 ⊢
 go_wp2_with (refine Qc (w.heap.size + 1 + 1) 2 [_, _] [_, _, _, _, _, _, _] [] [.int .i64 x.body.kind, .string x.body.name, .bool x.body.minus, .slice C3 x.body.limbs.length h3, .slice C4 x.body.names.length h4, .slice C5 x.body.kids.length h5, .slice C6 x.body.alts.length h6] 76 rfl 35 _ _ rfl rfl rfl rfl HO6.out rfl (by kernel_rfl) ?hone ?_)
 case hone => intro v hv; simp at hv; rcases hv with rfl | rfl | rfl | rfl | rfl | rfl | rfl <;> rfl
 intro w7 hblk7 hg7 hsz7
 have ⟨HR7, ROW7, HB7⟩ := Wq (HR6.out.grown hg7 (by omega)) (ROW6.out.grown hg7 (fun k hk => by have := FF.out k hk; omega)) (Ze HB6.out hg7 (by omega))
 have O7 := Wd (Xv O2.out hg7 (fun k hk => by have := FF2.out k hk; omega))
 have q0 := hblk7.cell (j := 0) rfl; have q1 := hblk7.cell (j := 1) rfl; have q2 := hblk7.cell (j := 2) rfl; have q3 := hblk7.cell (j := 3) rfl; have q4 := hblk7.cell (j := 4) rfl; have q5 := hblk7.cell (j := 5) rfl; have q6 := hblk7.cell (j := 6) rfl; have q7 := hblk7.cell (j := 7) rfl; have q8 := hblk7.cell (j := 8) rfl
 clear hblk7 hg7 HP6 HR6 HO6 ROW6 HB6 O2
 rw [← hsz7] at hz6
 clear hsz7
 go_wp2_with (refine Qc (w.heap.size + 1) 0 [] [_, _, _, _, _, _, _, _, _] [] [.string x.con, .slice B1 x.names.length d1, .int .i64 x.body.kind, .string x.body.name, .bool x.body.minus, .slice C3 x.body.limbs.length h3, .slice C4 x.body.names.length h4, .slice C5 x.body.kids.length h5, .slice C6 x.body.alts.length h6] 76 rfl 76 (.tmp 2) _ rfl rfl rfl rfl HR7.out rfl (by kernel_rfl) ?hone ?_)
 case hone => intro v hv; simp at hv; rcases hv with rfl | rfl | rfl | rfl | rfl | rfl | rfl | rfl | rfl <;> rfl
 intro w8 hblk8 hg8 hsz8
 have ROW8 := Wd (ROW7.out.grown hg8 (fun k hk => by have := FF.out k hk; omega)); have HB8 := Wd (Ze HB7.out hg8 (by omega))
 have O8 := Wd (Xv O7.out hg8 (fun k hk => by have := FF2.out k hk; omega))
 clear q0 q1 q2 q3 q4 q5 q6 q7 q8 HR7 ROW7 HB7 O7 hg8
 have q0 := hblk8.cell (j := 0) rfl; have q1 := hblk8.cell (j := 1) rfl; have q2 := hblk8.cell (j := 2) rfl; have q3 := hblk8.cell (j := 3) rfl; have q4 := hblk8.cell (j := 4) rfl; have q5 := hblk8.cell (j := 5) rfl; have q6 := hblk8.cell (j := 6) rfl; have q7 := hblk8.cell (j := 7) rfl; have q8 := hblk8.cell (j := 8) rfl
 clear hblk8
 go_wp2
 refine bodyPost_ret (v := .agg #[.string x.con, .slice B1 x.names.length d1, .int .i64 x.body.kind, .string x.body.name, .bool x.body.minus, .slice C3 x.body.limbs.length h3, .slice C4 x.body.names.length h4, .slice C5 x.body.kids.length h5, .slice C6 x.body.alts.length h6]) (by simp [results, Tryz.results51, go_sem, q0, q1, q2, q3, q4, q5, q6, q7, q8]) rfl
  ⟨[.string x.con, .slice B1 x.names.length d1, .int .i64 x.body.kind, .string x.body.name, .bool x.body.minus, .slice C3 x.body.limbs.length h3, .slice C4 x.body.names.length h4, .slice C5 x.body.kids.length h5, .slice C6 x.body.alts.length h6], F1 ++ F2, rfl, ?_, ?_, ?_, HB8.out⟩
 ·rw [Xw]
  exact ⟨_, _, F1, F2, rfl, rfl, ROW8.out, O8.out⟩
 ·exact Gq ND.out N2.out FL1.out FF2.out
 ·intro k hk
  rcases List.mem_append.1 hk with hk | hk
  ·have := FF.out k hk; omega
  ·have := FF2.out k hk; omega
theorem qrk (x : CoreT) (ihk : ∀ y ∈ x.kids, qhn y) (iha : ∀ a ∈ x.alts, qmk a) : qhn x := by
 intro hbk w cs hK
 obtain ⟨A3, c3, A4, c4, A5, c5, A6, c6, rfl, l3, g3, l4, g4, l5, g5, l6, g6⟩ := Qk hK
 rw [Qg] at hbk
 have hbn := Qn x.names
 have HBK := Wd hbk; clear hbk
 have IHK := Wd ihk; have IHA := Wd iha; clear ihk iha
 have ⟨G3, G4, G5, G6⟩ := Wj g3 g4 g5 g6; clear g3 g4 g5 g6 hK
 simp only [Qb]
 go_enter Tryz.func6, Tryz.ntmps6
 go_wp2_with fail
 refine (zay x.minus x.limbs (by have := HBK.out; omega) _ _ _ (Kd.C_below G3.out (((Below.refl _ _).alloc (Nat.le_refl _) _).alloc (by simp) _ |>.alloc (by simp; omega) _)) l3).mono ?_
 rintro e w4 ⟨v1, F3, rfl, hrow, hnd, hf, hb4⟩
 obtain ⟨hb, hp, hr, ho, hz⟩ := three hb4
 simp only [World.size_alloc] at hf
 obtain ⟨B3, d3, rfl, _⟩ := hrow.slice
 have ⟨ROW, ND3, FF3, HB, HP, HR, HO⟩ := Wk hrow hnd hf hb hp hr ho
 clear hb4 hrow hnd hf hb hp hr ho
 go_wp2_with (refine Qc (w.heap.size + 1 + 1) 2 [_, _] [_, _] [_, _, _] [.bool x.minus, .slice B3 x.limbs.length d3] 35 rfl 31 _ _ rfl rfl rfl rfl HO.out rfl (by kernel_rfl) ?hone ?_)
 case hone => intro v hv; simp at hv; rcases hv with rfl | rfl <;> rfl
 intro w5 hblk5 hg5 hsz5
 have ⟨HP5, HR5, ROW3, HB5, HO5⟩ := Wz (HP.out.grown hg5 (by omega)) (HR.out.grown hg5 (by omega)) (ROW.out.grown hg5 (fun k hk => by have := FF3.out k hk; omega)) (Ze HB.out hg5 (by omega)) hblk5
 rw [← hsz5] at hz
 clear hblk5 hg5 hsz5 HP HR HO ROW HB
 have p4 := HP5.out.cell (j := 4) rfl
 go_wp2_with fail
 clear p4
 refine (qux x.names (by have := HBK.out; omega) _ _ _ (Kd.C_below G4.out HB5.out) l4).mono ?_
 rintro e w6 ⟨v1, F4, rfl, hrow, hnd, hf, hb6⟩
 obtain ⟨B4, d4, rfl, _⟩ := hrow.slice
 have FL3 := Wd ROW3.out.lt
 have ⟨ROW4, ND4, FF4, HB6, HP6, HR6, HO6, ROW36⟩ := Ww hrow hnd hf (Below.step HB5.out hb6) (HP5.out.below hb6) (HR5.out.below hb6) (HO5.out.below hb6) (ROW3.out.below hb6)
 have hz6 := hb6.size
 clear hb6 hrow hnd hf HB5 HP5 HR5 HO5 ROW3
 go_wp2_with (refine Qc (w.heap.size + 1 + 1) 4 [_, _, _, _] [_] [_, _] [.slice B4 x.names.length d4] 35 rfl 25 _ _ rfl rfl rfl rfl HO6.out rfl (by kernel_rfl) (by intro v hv; rw [List.mem_singleton.1 hv]; rfl) ?_)
 intro w7 hblk7 hg7 hsz7
 have ⟨HP7, HR7, ROW37, ROW47, HB7, HO7⟩ := Wx (HP6.out.grown hg7 (by omega)) (HR6.out.grown hg7 (by omega)) (ROW36.out.grown hg7 (fun k hk => by have := FF3.out k hk; omega)) (ROW4.out.grown hg7 (fun k hk => by have := FF4.out k hk; omega)) (Ze HB6.out hg7 (by omega)) hblk7
 rw [← hsz7] at hz6
 clear hblk7 hg7 hsz7 HP6 HR6 HO6 ROW36 ROW4 HB6
 have p5 := HP7.out.cell (j := 5) rfl
 go_wp2_with fail
 clear p5
 refine (qnw x.kids (by have := HBK.out; omega) IHK.out _ _ _ (Kd.C_below G5.out HB7.out) l5).mono ?_
 rintro e w8 ⟨v1, cs5, F5, G5', rfl, hrow, hcs, hnd, hf, hb8⟩
 obtain ⟨B5, d5, rfl, _⟩ := hrow.slice
 have FL4 := Wd ROW47.out.lt
 have ⟨ROW5, CS5, ND5, FF5, HB8, HP8, HR8, HO8⟩ := Ww hrow hcs hnd hf (Below.step HB7.out hb8) (HP7.out.below hb8) (HR7.out.below hb8) (HO7.out.below hb8); have ROW38 := Wd (ROW37.out.below hb8); have ROW48 := Wd (ROW47.out.below hb8)
 have hz8 := hb8.size
 clear hb8 hrow hcs hnd hf HB7 HP7 HR7 HO7 ROW37 ROW47
 go_wp2_with (refine Qc (w.heap.size + 1 + 1) 5 [_, _, _, _, _] [_] [_] [.slice B5 x.kids.length d5] 35 rfl 32 _ _ rfl rfl rfl rfl HO8.out rfl (by kernel_rfl) (by intro v hv; rw [List.mem_singleton.1 hv]; rfl) ?_)
 intro w9 hblk9 hg9 hsz9
 have ⟨HP9, HR9, ROW39, ROW49, HB9, HO9⟩ := Wx (HP8.out.grown hg9 (by omega)) (HR8.out.grown hg9 (by omega)) (ROW38.out.grown hg9 (fun k hk => by have := FF3.out k hk; omega)) (ROW48.out.grown hg9 (fun k hk => by have := FF4.out k hk; omega)) (Ze HB8.out hg9 (by omega)) hblk9
 have ROW59 := Wd (ROW5.out.grown hg9 (fun k hk => by have := FF5.out k (by simp [hk]); omega)); have CS59 := Wd (Zs CS5.out (fun k hk => hg9.block k (Yn CS5.out k hk) (fun he => by have := FF5.out k (by simp [hk]); injection he with he; omega)))
 rw [← hsz9] at hz8
 clear hblk9 hg9 hsz9 HP8 HR8 HO8 ROW38 ROW48 ROW5 CS5 HB8
 have p6 := HP9.out.cell (j := 6) rfl
 go_wp2_with fail
 clear p6
 refine (qhk x.alts (by have := HBK.out; omega) IHA.out _ _ _ (Kd.C_below G6.out HB9.out) l6).mono ?_
 rintro e w10 ⟨v1, cs6, F6, G6', rfl, hrow, hcs, hnd, hf, hb10⟩
 obtain ⟨B6, d6, rfl, _⟩ := hrow.slice
 have FL5 := Wd (show ∀ k ∈ F5 ++ G5', k < w9.heap.size from fun k hk => (List.mem_append.1 hk).elim (ROW59.out.lt k) (Yn CS59.out k))
 have ⟨ROW6, CS6, ND6, FF6, HB10, HR10, HO10, ROW310⟩ := Ww hrow hcs hnd hf (Below.step HB9.out hb10) (HR9.out.below hb10) (HO9.out.below hb10) (ROW39.out.below hb10); have ROW410 := Wd (ROW49.out.below hb10); have ROW510 := Wd (ROW59.out.below hb10)
 have CS510 := Wd (Zs CS59.out (fun k hk => hb10.block k (Yn CS59.out k hk)))
 have hz10 := hb10.size
 clear hb10 hrow hcs hnd hf HB9 HP9 HR9 HO9 ROW39 ROW49 ROW59 CS59
 go_wp2_with (refine Qc (w.heap.size + 1 + 1) 6 [_, _, _, _, _, _] [_] [] [.slice B6 x.alts.length d6] 35 rfl 33 _ _ rfl rfl rfl rfl HO10.out rfl (by kernel_rfl) (by intro v hv; rw [List.mem_singleton.1 hv]; rfl) ?_)
 intro w11 hblk11 hg11 hsz11
 have ⟨HR11, ROW311, ROW411, HB11⟩ := Wj (HR10.out.grown hg11 (by omega)) (ROW310.out.grown hg11 (fun k hk => by have := FF3.out k hk; omega)) (ROW410.out.grown hg11 (fun k hk => by have := FF4.out k hk; omega)) (Ze HB10.out hg11 (by omega))
 have ROW511 := Wd (ROW510.out.grown hg11 (fun k hk => by have := FF5.out k (by simp [hk]); omega)); have CS511 := Wd (Zs CS510.out (fun k hk => hg11.block k (Yn CS510.out k hk) (fun he => by have := FF5.out k (by simp [hk]); injection he with he; omega)))
 have ROW611 := Wd (ROW6.out.grown hg11 (fun k hk => by have := FF6.out k (by simp [hk]); omega)); have CS611 := Wd (Jd CS6.out (fun k hk => hg11.block k (Gr CS6.out k hk) (fun he => by have := FF6.out k (by simp [hk]); injection he with he; omega)))
 have ⟨q0, q1, q2, q3, q4, q5, q6⟩ := Cz hblk11
 clear hblk11 hg11 HR10 HO10 ROW310 ROW410 ROW510 CS510 ROW6 CS6 HB10
 rw [← hsz11] at hz10
 clear hsz11
 go_wp2_with (refine Qc (w.heap.size + 1) 0 [] [_, _, _, _, _, _, _] [] [.int .i64 x.kind, .string x.name, .bool x.minus, .slice B3 x.limbs.length d3, .slice B4 x.names.length d4, .slice B5 x.kids.length d5, .slice B6 x.alts.length d6] 35 rfl 35 (.tmp 2) _ rfl rfl rfl rfl HR11.out rfl (by kernel_rfl) ?hone ?_)
 case hone => intro v hv; simp at hv; rcases hv with rfl | rfl | rfl | rfl | rfl | rfl | rfl <;> rfl
 intro w12 hblk12 hg12 hsz12
 have ⟨ROW312, ROW412, HB12⟩ := Wq (ROW311.out.grown hg12 (fun k hk => by have := FF3.out k hk; omega)) (ROW411.out.grown hg12 (fun k hk => by have := FF4.out k hk; omega)) (Ze HB11.out hg12 (by omega))
 have ROW512 := Wd (ROW511.out.grown hg12 (fun k hk => by have := FF5.out k (by simp [hk]); omega)); have CS512 := Wd (Zs CS511.out (fun k hk => hg12.block k (Yn CS511.out k hk) (fun he => by have := FF5.out k (by simp [hk]); injection he with he; omega)))
 have ROW612 := Wd (ROW611.out.grown hg12 (fun k hk => by have := FF6.out k (by simp [hk]); omega)); have CS612 := Wd (Jd CS611.out (fun k hk => hg12.block k (Gr CS611.out k hk) (fun he => by have := FF6.out k (by simp [hk]); injection he with he; omega)))
 clear q0 q1 q2 q3 q4 q5 q6 HR11 ROW311 ROW411 ROW511 CS511 ROW611 CS611 HB11 hg12
 have ⟨q0, q1, q2, q3, q4, q5, q6⟩ := Cz hblk12
 clear hblk12
 go_wp2
 refine bodyPost_ret (v := .agg #[.int .i64 x.kind, .string x.name, .bool x.minus, .slice B3 x.limbs.length d3, .slice B4 x.names.length d4, .slice B5 x.kids.length d5, .slice B6 x.alts.length d6]) (by simp [results, Tryz.results6, go_sem, q0, q1, q2, q3, q4, q5, q6]) rfl
  ⟨[.int .i64 x.kind, .string x.name, .bool x.minus, .slice B3 x.limbs.length d3, .slice B4 x.names.length d4, .slice B5 x.kids.length d5, .slice B6 x.alts.length d6], F3 ++ (F4 ++ ((F5 ++ G5') ++ (F6 ++ G6'))), rfl, ?_, ?_, ?_, HB12.out⟩
 ·rw [Xi]
  exact ⟨_, _, _, _, F3, F4, F5, F6, G5', G6', _, _, rfl, rfl, ROW312.out, ROW412.out, ⟨ROW512.out, CS512.out⟩, ⟨ROW612.out, CS612.out⟩⟩
 ·have h56 : ((F5 ++ G5') ++ (F6 ++ G6')).Nodup := Gq ND5.out ND6.out FL5.out FF6.out
  have h456 : (F4 ++ ((F5 ++ G5') ++ (F6 ++ G6'))).Nodup := by
   refine Gq ND4.out h56 FL4.out (fun k hk => ?_)
   rcases List.mem_append.1 hk with hk | hk
   ·exact FF5.out k hk
   ·have := FF6.out k hk; omega
  refine Gq ND3.out h456 FL3.out (fun k hk => ?_)
  rcases List.mem_append.1 hk with hk | hk
  ·exact FF4.out k hk
  ·rcases List.mem_append.1 hk with hk | hk
   ·have := FF5.out k hk; omega
   ·have := FF6.out k hk; omega
 ·intro k hk
  rcases List.mem_append.1 hk with hk | hk
  ·have := FF3.out k hk; omega
  ·rcases List.mem_append.1 hk with hk | hk
   ·have := FF4.out k hk; omega
   ·rcases List.mem_append.1 hk with hk | hk
    ·have := FF5.out k hk; omega
    ·have := FF6.out k hk; omega
theorem to_all (x : CoreT) : qhn x :=
 Za qhn (fun c hk ha => qrk c hk (fun a h => qjy a (ha a h))) x
end Go.Proofs.YtnoammmohdmnjaaGreat.C13
