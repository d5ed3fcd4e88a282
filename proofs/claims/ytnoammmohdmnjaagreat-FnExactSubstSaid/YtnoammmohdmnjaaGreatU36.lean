import Derived.Test.YtnoammmohdmnjaaGreatU35
set_option maxRecDepth 100000
set_option maxHeartbeats 16000000
set_option linter.unusedVariables false
set_option linter.unusedSimpArgs false
namespace Go.Proofs.YtnoammmohdmnjaaGreat.C13
open Go.RowKit Go.Proofs.YtnoammmohdmnjaaGreatW.PrintWords
open List renaming setIfInBounds_toArray → Jla, set_cons_zero → Jlb, set_cons_succ → Jlc
theorem qlx {S : World} {bs : Nat} {nm : ByteArray} {bt : CoreT} {free all : List ByteArray} {B3 : Option Addr} {b3 : Nat} {B4 : Option Addr} {b4 : Nat} {B5 : Option Addr} {b5 : Nat} {B6 : Option Addr} {b6 : Nat} {Af : Option Addr} {cf : Nat} {Aa : Option Addr} {ca : Nat} (hS : Sb S bs nm bt free all B3 b3 B4 b4 B5 b5 B6 b6 Af cf Aa ca) (henv : Env free all bt) (hfl : free.length ≤ 1000000000) : ∀ n, qce S bs nm bt free all n
 | 0 => fun x _ hd => absurd hd (by have := qsd x; omega)
 | n + 1 => fun x hp hd w v3 v4 v5 v6 F hO hB hF => by
  have ih := qlx hS henv hfl n
  by_cases h1 : x.kind = 1
  ·exact qus hS henv n x hp h1 w v3 v4 v5 v6 F hO hB hF
  by_cases h8 : x.kind = 8
  ·exact qra hS henv n (qvt hS henv n ih hfl) x hp h8 hd w v3 v4 v5 v6 F hO hB hF
  by_cases h67 : x.kind = 6 ∨ x.kind = 7
  ·cases hh : Vg nm x with
   | false => exact qrb hS henv n x hp h67 hh w v3 v4 v5 v6 F hO hB hF
   | true => exact qqz hS henv n ih x hp h67 hh hd hfl w v3 v4 v5 v6 F hO hB hF
  exact qnq hS henv n ih x hp h1 (fun h => h67 (.inl h)) (fun h => h67 (.inr h)) h8 hd w v3 v4 v5 v6 F hO hB hF
theorem qjd : ∀ (x : CoreT) (bd : List ByteArray), (fvs bd x).length ≤ Qr x := by
 refine Za (fun x => ∀ bd, (fvs bd x).length ≤ Qr x) (fun x ihk iha bd => ?_)
 have hk : ∀ (bd : List ByteArray) (l : List CoreT), (∀ c ∈ l, c ∈ x.kids) → (Zf bd l).length ≤ Zb l := by
  intro bd l
  induction l with
  | nil => intro _; simp [Zf]
  | cons c r ih =>
   intro h
   rw [Zf, Zb, List.length_append]
   have := ih (fun d hd => h d (by simp [hd]))
   have := ihk c (h c (by simp)) bd
   omega
 have ha : ∀ (bd : List ByteArray) (l : List AltT), (∀ c ∈ l, c ∈ x.alts) → (Xu bd l).length ≤ Qy l := by
  intro bd l
  induction l with
  | nil => intro _; simp [Xu]
  | cons c r ih =>
   intro h
   rw [Xu, Qy, qfz, Xr, List.length_append]
   have := ih (fun d hd => h d (by simp [hd]))
   have := iha c (h c (by simp)) (bd ++ c.names)
   omega
 rw [Uu, Zj, Uf, Ug]
 have h0 := (qas 1 x.kids).1
 have h1 := hk bd (x.kids.take 1) (fun c h => List.mem_of_mem_take h)
 have h2 := hk (inn bd x.name) (x.kids.drop 1) (fun c h => List.mem_of_mem_drop h)
 have h3 := hk (bd ++ x.names) x.kids (fun c h => h)
 have h4 := hk bd x.kids (fun c h => h)
 have h5 := ha (inn bd x.name) x.alts (fun c h => h)
 repeat' split
 all_goals try simp only [List.length_append, List.length_cons, List.length_nil]
 all_goals omega
theorem qwj (L : Nat) : ∀ (x : CoreT), Xb L x → ∀ bd, ∀ s ∈ fvs bd x, s.size ≤ L := by
 refine Za (fun x => Xb L x → ∀ bd, ∀ s ∈ fvs bd x, s.size ≤ L) (fun x ihk iha hn bd => ?_)
 have hn' := Zd.1 hn
 have hk : ∀ (bd : List ByteArray) (l : List CoreT), (∀ c ∈ l, c ∈ x.kids) → ∀ s ∈ Zf bd l, s.size ≤ L := by
  intro bd l
  induction l with
  | nil => intro _ s hs; simp [Zf] at hs
  | cons c r ih =>
   intro h s hs
   rw [Zf, List.mem_append] at hs
   rcases hs with hs | hs
   ·exact ihk c (h c (by simp)) (hn'.2.1 c (h c (by simp))) bd s hs
   ·exact ih (fun d hd => h d (by simp [hd])) s hs
 have ha : ∀ (bd : List ByteArray) (l : List AltT), (∀ c ∈ l, c ∈ x.alts) → ∀ s ∈ Xu bd l, s.size ≤ L := by
  intro bd l
  induction l with
  | nil => intro _ s hs; simp [Xu] at hs
  | cons c r ih =>
   intro h s hs
   rw [Xu, List.mem_append, qfz] at hs
   rcases hs with hs | hs
   ·exact iha c (h c (by simp)) (hn'.2.2 c (h c (by simp))).2 _ s hs
   ·exact ih (fun d hd => h d (by simp [hd])) s hs
 rw [Uu, Uf, Ug]
 intro s hs
 have h1 := hk bd (x.kids.take 1) (fun c h => List.mem_of_mem_take h) s
 have h2 := hk (inn bd x.name) (x.kids.drop 1) (fun c h => List.mem_of_mem_drop h) s
 have h3 := hk (bd ++ x.names) x.kids (fun c h => h) s
 have h4 := hk bd x.kids (fun c h => h) s
 have h5 := ha (inn bd x.name) x.alts (fun c h => h) s
 split at hs
 ·split at hs
  ·simp at hs
  ·rw [List.mem_singleton.1 hs]; exact hn'.1.1
 ·split at hs
  ·exact h3 hs
  ·split at hs
   ·rw [List.mem_append, List.mem_append] at hs
    rcases hs with hs | hs | hs
    ·exact h1 hs
    ·exact h5 hs
    ·exact h2 hs
   ·exact h4 hs
theorem qdb (nm : ByteArray) (x : CoreT) (hs : Vn x) : Qt nm x ≤ Qr x := by
 rw [← qgz x hs]
 refine Nat.le_trans ?_ (qjd x [])
 unfold nIn
 exact List.length_filter_le _ _
theorem zad (x : CoreT) : (qad x).length ≤ Qr x := by
 have h1 := Jx (fvs [] x) []
 have h2 := qjd x []
 simp only [List.length_nil] at h1
 exact Nat.le_trans h1 (by omega)
theorem all_le (x : CoreT) : (qbk x).length ≤ Qr x := by
 have h1 := Jx (Zc x) []
 have h2 := Jp x
 simp only [List.length_nil] at h1
 exact Nat.le_trans h1 (by omega)
def Fits2 (nm : ByteArray) (x bt : CoreT) : Prop := Good x ∧ Good bt ∧ (Qr x : Int) + Qt nm x * ((Qr bt : Int) - 1) ≤ 20000
theorem qar (x : CoreT) : 1 ≤ Qr x := by rw [Zj]; omega
section
variable {nm : ByteArray} {x bt : CoreT}
theorem Good.sane (h : Good x) : Vn x := Shapes.sane x h.2.2
theorem Good.fit (h : Good x) (hb : bulk x ≤ 1048576) : Fit x := by
 have h1 := Vr x
 exact ⟨Nat.le_trans h.1 (by omega), by omega, qkh (show bulk x ≤ 2097152 by omega) x h1.1, h.sane⟩
theorem Fits2.pre (h : Fits2 nm x bt) (hx : bulk x ≤ 1048576) (hb : bulk bt ≤ 1048576) : Pre nm bt x := by
 obtain ⟨h1, h2, h3⟩ := h
 have f := h1.fit hx
 have t1 := qdb nm x h1.sane
 have t2 := h1.1
 have m1 := (Vr x).2
 have m2 := (Vr bt).2
 have p := qar bt
 refine ⟨?_, ?_, f.n, f.s⟩
 ·have e : (Qt nm x : Int) * ((Qr bt : Int) - 1) = (Qt nm x * Qr bt : Nat) - Qt nm x := by
   rw [Int.mul_sub, Int.mul_one]; simp
  rw [e] at h3
  omega
 ·have : Qt nm x * Hm bt ≤ 20000 * 1048576 := Nat.mul_le_mul (by omega) (by omega)
  omega
theorem Good.env (h : Good bt) (hb : bulk bt ≤ 1048576) : Env (qad bt) (qbk bt) bt := by
 refine ⟨fun s hs => ?_, Nat.le_trans (all_le bt) h.1, h.fit hb⟩
 have hs' : s ∈ fvs [] bt := ((qfa _ [] s).1 hs).elim (fun h => by cases h) id
 exact qwj 1048576 bt (qkh hb bt (Vr bt).1) [] s hs'
end
open Classical in
noncomputable def Yq (nm : ByteArray) (bt x : CoreT) : CoreT :=
 if Fits2 nm x bt ∧ Good (Jb nm bt (qad bt) (qbk bt) (dep x) x) then Jb nm bt (qad bt) (qbk bt) (dep x) x else x
section
variable {nm : ByteArray} {x bt : CoreT}
theorem qim (h : Fits2 nm x bt) (k : Good (Jb nm bt (qad bt) (qbk bt) (dep x) x)) : Yq nm bt x = Jb nm bt (qad bt) (qbk bt) (dep x) x := if_pos ⟨h, k⟩
theorem Vi (h : Fits2 nm x bt → ¬ Good (Jb nm bt (qad bt) (qbk bt) (dep x) x)) : Yq nm bt x = x := if_neg (fun k => h k.1 k.2)
end
theorem qio (x : CoreT) (hg : Good x) (hbk : bulk x ≤ 274877906944) (w : World) (cs : List Value) (hK : IC.K w x cs) :
  Calls Tryz.prog 16 #[.agg cs.toArray] w fun e w' => e = .returned (.int .i64 (Qr x)) ∧ Below w.heap.size w w' := by
 obtain ⟨A3, a3, A4, a4, A5, a5, A6, a6, rfl, -⟩ := Qk hK
 have ⟨HK, HBK, HG⟩ := Wq hK hbk hg
 clear hK hbk hg
 obtain ⟨W1, hW1, hp1, hB1, hs1⟩ := Wy w x A3 a3 A4 a4 A5 a5 A6 a6 35
 obtain ⟨W2, hW2, hp2, hB2, hs2⟩ := boxed W1 [.int .i64 0] 2
 have HP1 := Wd (hp1.below hB2); have HB2 := Wd (Below.step hB1 hB2)
 rw [hs1] at hp2 hs2
 have HP2 := Wd hp2; have HZ2 := Wd hs2
 clear hp1 hp2 hB1 hB2 hs1 hs2
 have HW2 := Wd hW2
 rw [hW2, hW1] at HP2
 rw [hW1] at HW2
 clear hW2 hW1
 simp only [Qb]
 go_enter Tryz.func16, Tryz.ntmps16
 go_wp2_with (refine Wv (w.heap.size + 1) [.int .i64 20000] HP2.out ?_)
 intro w3 hb3 hg3 hs3
 rw [← HW2.out] at hg3
 have HB3 := Wd (show Below w.heap.size w w3 from HB2.out.grown hg3 HB2.out.size (fun j hj => by injection hj with hj; omega))
 have H23 := Wd hb3
 have H13 := Wd (HP1.out.grownO hg3 (fun e => by injection e with e; omega))
 clear hb3 hg3 hs3
 have ⟨p0, p1, p2, p3, p4, p5, p6⟩ := Cz H13.out
 go_wp2_with fail
 refine (qpa x HBK.out w w3 _ (w.heap.size + 1) 1 20000 (by omega) (by omega) (by omega) (by omega) HK.out HB3.out (by omega) H23.out).mono ?_
 rintro e w4 ⟨hg4, h4⟩
 have HB4 := Wd (Zm HB3.out hg4 (by omega))
 clear hg4 p0 p1 p2 p3 p4 p5 p6
 rcases h4 with ⟨rfl, -, -, h7⟩ | ⟨rfl, h5⟩
 ·have c0 := h7.cell (j := 0) rfl
  have hw := Wd (show wrap64 (20000 - (20000 - (Qr x : Int))) = Qr x by have := HG.out.1; unfold wrap64; omega)
  clear h7
  go_wp2
  go_ret
  exact ⟨by show Ending.returned (.int .i64 (wrap64 (20000 - (20000 - (Qr x : Int))))) = _; rw [hw.out], HB4.out⟩
 ·exact absurd ⟨by have := HG.out.1; omega, by have := HG.out.2.1; omega⟩ h5
theorem qwp (nm : ByteArray) (x bt : CoreT) (hp : Pre nm bt x) (hgt : Good bt) (hbb : bulk bt ≤ 1048576) (hbx : bulk x ≤ 274877906944) (w : World) (cs ds : List Value) (hK : IC.K w x cs) (hL : IC.K w bt ds) :
  Calls Tryz.prog 19 #[.agg cs.toArray, .string nm, .agg ds.toArray] w (qbn 35 76 (Jb nm bt (qad bt) (qbk bt) (dep x) x) w) := by
 obtain ⟨A3, a3, A4, a4, A5, a5, A6, a6, rfl, -⟩ := Qk hK
 obtain ⟨B3, b3, B4, b4, B5, b5, B6, b6, rfl, -⟩ := Qk hL
 have ⟨HK, HL, HBX, HBB, HG, HP⟩ := Wx hK hL hbx hbb hgt hp
 clear hK hL hbx hbb hgt hp
 obtain ⟨W1, hW1, hp1, hB1, hs1⟩ := Wy w x A3 a3 A4 a4 A5 a5 A6 a6 35
 obtain ⟨W2, hW2, hp2, hB2, hs2⟩ := Wy W1 bt B3 b3 B4 b4 B5 b5 B6 b6 35
 obtain ⟨W3, hW3, hp3, hB3, hs3⟩ := Wh W2 35
 rw [hs1] at hp2 hs2
 rw [hs2] at hp3 hs3
 have ⟨HX3, HY3, HR3⟩ := Wq ((hp1.below hB2).below hB3) (hp2.below hB3) hp3
 have HB3 := Wd (Below.step (Below.step hB1 hB2) hB3); have HS3 := Wd hs3
 clear hp1 hp2 hp3 hB1 hB2 hB3 hs1 hs2 hs3
 rw [hW2, hW1] at hW3
 have HW3 := Wd hW3
 clear hW1 hW2 hW3
 simp only [Qb]
 go_enter Tryz.func19, Tryz.ntmps19
 go_wp2_with fail
 rw [← HW3.out]
 clear HW3 W1 W2
 have ⟨y0, y1, y2, y3, y4, y5, y6⟩ := Cz HY3.out
 refine Qe [(true, 0), (true, 1), (true, 2), (true, 4), (false, 3), (false, 5), (true, 6), (false, 7), (false, 8)] [] (fun W' => Below W3.heap.size W3 W') (by kernel_rfl) (by kernel_rfl) (fun _ _ d _ _ h => by cases d <;> exact h) ⟨rfl, rfl, rfl, Nat.le_refl _, fun _ _ => rfl⟩ ?_
 iterate 4
  refine Tb 8 (y := fun w' hSw => by
   have ⟨t0, t1, t2, t3, t4, t5, t6⟩ := Cb7 hSw y0 y1 y2 y3 y4 y5 y6
   go_simp
   try with_reducible rfl) (h := ?_)
 refine Run.step (some 11) (by rfl) (by rfl) ?_
 intro K hK
 go_simp
 have hbd : Below W3.heap.size W3 W3.drew := ⟨rfl, rfl, rfl, Nat.le_refl _, fun _ _ => rfl⟩
 refine (qjh bt HG.out.sane (by have := HBB.out; omega) (by have := HG.out.1; omega) (by have := qjd bt []; have := HG.out.1; omega) _ _ ((Ja _ _).K_below (Qa HB3.out hbd) HL.out)).mono ?_
 rintro e w5 ⟨v5, rfl, ho5, hb5⟩
 have HB5 := Wd (show Below W3.heap.size W3 w5 from Qa hbd hb5)
 have HO5 := Wd ho5
 refine hK.out _ _ (fun _ => HB5.out) ?_
 clear hK K ho5 hb5 hbd
 try simp only [Act.put, heap_drew, Nat.reduceAdd, Jla, Jlb, Jlc]
 refine Run.step (some 13) (by rfl) (by rfl) ?_
 intro K hK
 go_simp
 refine (qee bt (by have := HBB.out; omega) (by have := Jp bt; have := HG.out.1; omega) w5 _ ((Ja _ _).K_below (Qa HB3.out HB5.out) HL.out)).mono ?_
 rintro e w6 ⟨v6, rfl, ho6, hb6⟩
 have HB6 := Wd (show Below W3.heap.size W3 w6 from Qa HB5.out hb6)
 have ho5 := Xc HO5.out (fun k hk => hb6.block k ((Zk (by decide) HO5.out).1.lt k hk))
 obtain ⟨Af, cf, rfl, hfl, hfc⟩ := (Zk (by decide) ho5).1.readsS
 obtain ⟨Aa, ca, rfl, hal, hac⟩ := (Zk (by decide) ho6).1.readsS
 have ⟨HFL, HFC, HAL, HAC⟩ := Wj hfl hfc hal hac
 refine hK.out _ _ (fun _ => HB6.out) ?_
 clear hK K ho5 ho6 hb6 hfl hfc hal hac HO5
 try simp only [Act.put, heap_drew, Nat.reduceAdd, Jla, Jlb, Jlc]
 refine Tb 8 (y := fun w' hSw => by
  have ⟨t0, t1, t2, t3, t4, t5, t6⟩ := Cb7 hSw y0 y1 y2 y3 y4 y5 y6
  go_simp
  try with_reducible rfl) (h := ?_)
 refine Run.new (some 15) (fun g => .pointer (some ⟨g, 0, none⟩)) (.cells #[.string nm, .int .i64 bt.kind, .string bt.name, .bool bt.minus, .slice B3 bt.limbs.length b3, .slice B4 bt.names.length b4, .slice B5 bt.kids.length b5, .slice B6 bt.alts.length b6, .slice Af (qad bt).length cf, .slice Aa (qbk bt).length ca] 80) (by rfl) (by rfl) rfl (fun w' => by go_simp) ?_
 intro w7 hb7 hs7 hh7
 have HB7 := Wd (show Below W3.heap.size W3 w7 from Qa HB6.out hb7)
 have HSB := Wd (show Sb w7 w6.heap.size nm bt (qad bt) (qbk bt) B3 b3 B4 b4 B5 b5 B6 b6 Af cf Aa ca from
  ⟨hh7, (Ja _ _).K_below (Qa HB3.out HB7.out) HL.out, HFL.out, Kd.C_below HFC.out hb7, HAL.out, Kd.C_below HAC.out hb7⟩)
 refine ⟨HB7.out, ?_⟩
 try simp only [Act.put, heap_drew, Nat.reduceAdd, Jla, Jlb, Jlc]
 refine Run.step (some 7) (by rfl) (by rfl) ?_
 intro K hK
 go_simp
 refine hK.out _ _ (fun _ => HB7.out) ?_
 clear hK K hb7 hs7 hh7 HFC HAC y0 y1 y2 y3 y4 y5 y6
 try simp only [Act.put, heap_drew, Nat.reduceAdd, Jla, Jlb, Jlc]
 refine Run.nil ?_
 have HX7 := Wd (HX3.out.below HB7.out); have HR7 := Wd (HR3.out.below HB7.out)
 have ⟨p0, p1, p2, p3, p4, p5, p6⟩ := Cz HX7.out
 go_wp2_with fail
 refine (Uk x HBX.out w7 _ ((Ja _ _).K_below (Qa HB3.out HB7.out) HK.out)).mono ?_
 rintro e w8 ⟨c8, F8, rfl, ho8, hn8, hf8, hb8⟩
 obtain ⟨Z3, z3, Z4, z4, Z5, z5, Z6, z6, rfl⟩ := Zi ho8
 have HO8 := Wd (show Own7 w8 x (.slice Z3 x.limbs.length z3) (.slice Z4 x.names.length z4) (.slice Z5 x.kids.length z5) (.slice Z6 x.alts.length z6) F8 from ⟨ho8, hn8⟩)
 have ⟨HF8, HB8, HR8⟩ := Wq hf8 hb8 (HR7.out.below hb8)
 clear ho8 hn8 hf8 hb8 p0 p1 p2 p3 p4 p5 p6
 simp only [Qb]
 go_wp2_with fail
 refine (qlx HSB.out (HG.out.env HBB.out) (by have := zad bt; have := HG.out.1; omega) (dep x) x HP.out (Nat.le_refl _) w8 _ _ _ _ F8 HO8.out HB8.out HF8.out).mono ?_
 rintro e w9 ⟨u3, u4, u5, u6, rfl, hi⟩
 obtain ⟨y, hy⟩ : ∃ y, y = Jb nm bt (qad bt) (qbk bt) (dep x) x := ⟨_, rfl⟩
 rw [← hy] at hi ⊢
 obtain ⟨U3, u3', U4, u4', U5, u5', U6, u6', rfl, rfl, rfl, rfl, -⟩ := hi.form
 obtain ⟨F9, hF9, hs9⟩ := hi.ex
 have HF9 := Wd hF9; have HY := Wd hy
 have HL9 := Wd (show ∀ k ∈ F9, w7.heap.size ≤ k from fun k hk => (hs9 k hk).elim (HF8.out k) (Nat.le_trans HB8.out.size))
 have HB9 := Wd (show Below w7.heap.size w7 w9 from hi.below HB8.out HF8.out)
 have HLT7 := Wd HR7.out.lt
 have HR9 := Wd (hi.blk HR8.out (fun hh => by have := HF8.out _ hh; have := HLT7.out; omega))
 clear hi hy hF9 hs9 HO8
 go_wp2_with (refine Wv (w.heap.size + 1 + 1) [.int .i64 y.kind, .string y.name, .bool y.minus, .slice U3 y.limbs.length u3', .slice U4 y.names.length u4', .slice U5 y.kids.length u5', .slice U6 y.alts.length u6'] HR9.out ?_)
 intro w10 hblk hg hsz
 have ⟨q0, q1, q2, q3, q4, q5, q6⟩ := Cz hblk
 have HGG := Wd hg
 clear hblk hg
 go_wp2
 refine bodyPost_ret (v := .agg #[.int .i64 y.kind, .string y.name, .bool y.minus, .slice U3 y.limbs.length u3', .slice U4 y.names.length u4', .slice U5 y.kids.length u5', .slice U6 y.alts.length u6']) (by simp [results, Tryz.results19, go_sem, q0, q1, q2, q3, q4, q5, q6]) rfl ?_
 have hd := Ge (Qa HB3.out HB7.out) HR7.out.lt (by omega) HB9.out HF9.out.own HL9.out HGG.out
 rw [← HY.out]
 exact ⟨_, F9, rfl, hd.1, HF9.out.nd, hd.2.1, hd.2.2⟩
theorem qld (nm : ByteArray) (x : CoreT) (ihk : ∀ y ∈ x.kids, Hy nm y) (iha : ∀ a ∈ x.alts, Hy nm a.body) : Hy nm x := by
 intro hbk htm w cs hK
 obtain ⟨r, hr⟩ : ∃ r, r = Qt nm x := ⟨_, rfl⟩
 rw [← hr] at htm ⊢
 have HR := Wd hr; clear hr
 obtain ⟨A3, c3, A4, c4, A5, c5, A6, c6, rfl, l3, g3, l4, g4, l5, g5, l6, g6⟩ := Qk hK
 obtain ⟨b1, b2, b3, b4, b5⟩ := Qz hbk
 have HBK := Wd hbk
 have IHK := Wd ihk; have IHA := Wd iha; clear ihk iha
 have ⟨G4, G5, G6⟩ := Wq g4 g5 g6; clear g3 g4 g5 g6 hK hbk
 simp only [Qb]
 obtain ⟨W1, hW1, hp1, hB1, hs1⟩ := Wy w x A3 c3 A4 c4 A5 c5 A6 c6 35
 have HB1 := Wd hB1; have BP1 := Wd hp1
 clear hs1 hB1
 subst hW1
 by_cases hk1 : x.kind = 1
 ·have p0 := hp1.cell (j := 0) rfl; have p1 := hp1.cell (j := 1) rfl
  have e1 : (x.kind == 1) = true := beq_iff_eq.2 hk1
  have HK1 := Wd hk1; clear hk1 hp1
  by_cases hn : x.name = nm
  ·have ⟨q1, q2⟩ := Kk hn
   have HN := Wd hn; clear hn
   go_enter Tryz.func17, Tryz.ntmps17
   go_wp2
   go_ret
   exact ⟨by rw [HR.out, Xe, if_pos HK1.out, if_pos HN.out]; rfl, HB1.out⟩
  ·have ⟨q1, q2⟩ := Xt hn
   have HN := Wd hn; clear hn
   go_enter Tryz.func17, Tryz.ntmps17
   go_wp2
   go_ret
   exact ⟨by rw [HR.out, Xe, if_pos HK1.out, if_neg HN.out]; rfl, HB1.out⟩
 have e1 : (x.kind == 1) = false := beq_eq_false_iff_ne.2 hk1
 have HK1 := Wd hk1; clear hk1
 have HRN := Wd (show ∀ w', Below w.heap.size w w' → Kd.string.C w' A4 x.names.length x.names from fun w' hb => Kd.C_below G4.out hb)
 refine Or.elim (by by_cases hm : nm ∈ x.names <;> simp only [hm, and_true, not_true_eq_false, not_false_eq_true] <;> omega : ((x.kind = 6 ∨ x.kind = 7) ∧ nm ∈ x.names) ∨ (x.kind = 6 ∧ nm ∉ x.names) ∨ (x.kind = 7 ∧ nm ∉ x.names) ∨ (x.kind ≠ 6 ∧ x.kind ≠ 7)) ?ca (fun h => h.elim ?cb (fun h => h.elim ?cc ?cd))
 case ca =>
  rintro ⟨hk, hm⟩
  have HM := Wd hm; have HK67 := Wd hk; clear hm
  rcases hk with hk | hk
  case' inl => have e6 : (x.kind == 6) = true := beq_iff_eq.2 hk
  case' inr => have e6 : (x.kind == 6) = false := beq_eq_false_iff_ne.2 (by omega); have e7 : (x.kind == 7) = true := beq_iff_eq.2 hk
  all_goals
   have p0 := hp1.cell (j := 0) rfl; have p4 := hp1.cell (j := 3) rfl
   clear hk hp1
   go_enter Tryz.func17, Tryz.ntmps17
   go_wp2_with fail
   refine (Jj x.names nm b4 A4 c4 _ (HRN.out _ HB1.out) l4).mono ?_
   rintro e w3 ⟨rfl, hb3⟩
   rw [decide_eq_true HM.out]
   have BB3 := Wd (Qa HB1.out hb3)
   clear hb3 p0 p4
   go_wp2
   go_ret
   exact ⟨by rw [HR.out, Xe, if_neg HK1.out, if_pos ⟨HK67.out, HM.out⟩]; rfl, BB3.out⟩
 case' cd => intro hk; have HM := Wd (show ¬((x.kind = 6 ∨ x.kind = 7) ∧ nm ∈ x.names) from fun h => by have := h.1; omega)
 case' cb => rintro ⟨hk, hm⟩; have HM := Wd (show ¬((x.kind = 6 ∨ x.kind = 7) ∧ nm ∈ x.names) from fun h => hm h.2); have HM2 := Wd hm; clear hm; have e6 : (x.kind == 6) = true := beq_iff_eq.2 hk; clear hk
 case' cc => rintro ⟨hk, hm⟩; have HM := Wd (show ¬((x.kind = 6 ∨ x.kind = 7) ∧ nm ∈ x.names) from fun h => hm h.2); have HM2 := Wd hm; clear hm; have e6 : (x.kind == 6) = false := beq_eq_false_iff_ne.2 (by omega); have e7 : (x.kind == 7) = true := beq_iff_eq.2 hk; clear hk
 case' cb =>
  have p0 := hp1.cell (j := 0) rfl; have p4 := hp1.cell (j := 3) rfl
  go_enter Tryz.func17, Tryz.ntmps17
  go_wp2_with fail
  refine (Jj x.names nm b4 A4 c4 _ (HRN.out _ HB1.out) l4).mono ?_
  rintro e W2 ⟨rfl, hb3⟩
  rw [decide_eq_false HM2.out]
  have HB2 := Wd (Qa HB1.out hb3); have BP2 := Wd (BP1.out.below hb3)
  clear hb3 p0 p4 e6 e1 hp1 HM2
  have p5 := BP2.out.cell (j := 5) rfl
  go_wp2_with fail
  clear p5
 case' cc =>
  have p0 := hp1.cell (j := 0) rfl; have p4 := hp1.cell (j := 3) rfl
  go_enter Tryz.func17, Tryz.ntmps17
  go_wp2_with fail
  refine (Jj x.names nm b4 A4 c4 _ (HRN.out _ HB1.out) l4).mono ?_
  rintro e W2 ⟨rfl, hb3⟩
  rw [decide_eq_false HM2.out]
  have HB2 := Wd (Qa HB1.out hb3); have BP2 := Wd (BP1.out.below hb3)
  clear hb3 p0 p4 e6 e7 e1 hp1 HM2
  have p5 := BP2.out.cell (j := 5) rfl
  go_wp2_with fail
  clear p5
 case' cd =>
  have p0 := hp1.cell (j := 0) rfl; have p5 := hp1.cell (j := 5) rfl
  have e6 : (x.kind == 6) = false := beq_eq_false_iff_ne.2 hk.1
  have e7 : (x.kind == 7) = false := beq_eq_false_iff_ne.2 hk.2
  clear hp1
  go_enter Tryz.func17, Tryz.ntmps17
  go_wp2_with fail
  clear p0 p5 e6 e7 e1
  obtain ⟨W2, hW2⟩ : ∃ W2, W2 = w.alloc (.cells #[.int .i64 x.kind, .string x.name, .bool x.minus, .slice A3 x.limbs.length c3, .slice A4 x.names.length c4, .slice A5 x.kids.length c5, .slice A6 x.alts.length c6] 35) := ⟨_, rfl⟩
  have HB2 := HB1; have BP2 := BP1
  rw [← hW2] at HB2 BP2 ⊢
  clear hW2
 all_goals
  try clear hk
  go_loopw [5, 6] (fun v i wr => ∃ k : Nat, k ≤ x.kids.length ∧ i = .int .i64 k ∧ v = .int .i64 (Zl nm (decide (x.kind = 8 ∧ x.name = nm)) 0 (x.kids.take k)) ∧ Hid (Below W2.heap.size W2 wr)) (fun _ i _ => x.kids.length - (intOf i).toNat)
  case atStart => exact ⟨0, Nat.zero_le _, rfl, by rw [List.take_zero, Zl]; rfl, Wd (Below.refl _ _)⟩
  case round =>
   obtain ⟨k, hk, rfl, rfl, HB⟩ := hrel
   have HBw := Wd (Below.step HB2.out HB.out)
   have HP := Wd (BP2.out.below HB.out)
   have p0 := HP.out.cell (j := 0) rfl; have p1 := HP.out.cell (j := 1) rfl; have p5 := HP.out.cell (j := 5) rfl
   by_cases hlt : k < x.kids.length
   ·obtain ⟨ad, A3', c3', A4', c4', B5, d5, B6, d6, rfl, hK, g0, g1, g2, g3, g4, g5, g6⟩ := Ko (Kd.C_below G5.out HBw.out) k hlt
    have HT := Wd (show Zl nm (decide (x.kind = 8 ∧ x.name = nm)) 0 (x.kids.take (k + 1)) = Zl nm (decide (x.kind = 8 ∧ x.name = nm)) 0 (x.kids.take k) + (if (decide (x.kind = 8 ∧ x.name = nm)) = true ∧ k = 1 then 0 else Qt nm x.kids[k]) ∧ Zl nm (decide (x.kind = 8 ∧ x.name = nm)) 0 (x.kids.take (k + 1)) ≤ r from by
     refine ⟨by rw [Qf hlt, qeq, List.length_take, Nat.min_eq_left (by omega), Nat.zero_add], ?_⟩
     rw [HR.out, Xe, if_neg HK1.out, if_neg HM.out]
     have := qer nm (decide (x.kind = 8 ∧ x.name = nm)) 0 x.kids (k + 1)
     omega)
    have htm2 := HT.out
    obtain ⟨t0, ht0⟩ : ∃ t0, t0 = Zl nm (decide (x.kind = 8 ∧ x.name = nm)) 0 (x.kids.take k) := ⟨_, rfl⟩
    rw [← ht0] at htm2 ⊢
    have HT0 := Wd ht0; clear ht0
    by_cases hs : x.kind = 8 ∧ k = 1 ∧ x.name = nm
    ·have HSK := Wd hs
     obtain ⟨h1, h2, h3⟩ := hs
     have e8 : (x.kind != 8) = false := (by simp [h1])
     have e9 : ((k : Int) != 1) = false := bne_eq_false_iff_eq.2 (by omega)
     have ⟨q1, q2⟩ := Kk h3
     clear h1 h2 h3 htm2
     go_wp2
     go_roundw
     case rel => exact ⟨k + 1, by omega, by go_num, by rw [HT.out.1, if_pos ⟨decide_eq_true ⟨HSK.out.1, HSK.out.2.2⟩, HSK.out.2.1⟩, HT0.out]; try simp, HB⟩
     case measure => simp [intOf]; omega
    ·have HSK := Wd hs
     rcases (show x.kind ≠ 8 ∨ (x.kind = 8 ∧ k ≠ 1) ∨ (x.kind = 8 ∧ k = 1 ∧ x.name ≠ nm) from by
      by_cases h1 : x.kind = 8
      ·by_cases h2 : k = 1
       ·exact .inr (.inr ⟨h1, h2, fun h3 => hs ⟨h1, h2, h3⟩⟩)
       ·exact .inr (.inl ⟨h1, h2⟩)
      ·exact .inl h1) with h1 | ⟨h1, h2⟩ | ⟨h1, h2, h3⟩
     all_goals
      first
       | (have e8 : (x.kind != 8) = true := bne_iff_ne.2 h1; clear h1)
       | (have e8 : (x.kind != 8) = false := (by simp [h1]); have e9 : ((k : Int) != 1) = true := bne_iff_ne.2 (by omega); clear h1 h2)
       | (have e8 : (x.kind != 8) = false := (by simp [h1]); have e9 : ((k : Int) != 1) = false := bne_eq_false_iff_eq.2 (by omega); have ⟨q1, q2⟩ := Xt h3; clear h1 h2 h3)
      clear hs
      go_wp2_with fail
      refine (IHK.out _ (List.getElem_mem hlt) (by have := Qx (List.getElem_mem hlt); have := HBK.out; rw [Qg] at this; omega) (by have := HT.out; rw [if_neg (show ¬((decide (x.kind = 8 ∧ x.name = nm)) = true ∧ k = 1) from fun h => HSK.out ⟨(of_decide_eq_true h.1).1, h.2, (of_decide_eq_true h.1).2⟩)] at this; omega) _ _ hK).mono ?_
      rintro e w3 ⟨rfl, hb3⟩
      have HB3 := Wd (Below.step HB.out hb3)
      have HBw3 := Wd (Below.step HBw.out hb3)
      clear g0 g1 g2 g3 g4 g5 g6 hK p0 p1 p5 hb3
      rw [if_neg (show ¬((decide (x.kind = 8 ∧ x.name = nm)) = true ∧ k = 1) from fun h => HSK.out ⟨(of_decide_eq_true h.1).1, h.2, (of_decide_eq_true h.1).2⟩)] at htm2
      go_wp2
      go_roundw
      case rel => exact ⟨k + 1, by omega, by go_num, by rw [htm2.1]; first | rfl | go_num, HB3⟩
      case measure => simp [intOf]; omega
   ·have hkk : k = x.kids.length := by omega
    rw [hkk, List.take_length]
    have HKK := Wd hkk; clear hkk
    go_wp2_with fail
    clear p0 p1 p5
    obtain ⟨wo, rfl⟩ : ∃ wo : World, wo = wr := ⟨_, rfl⟩
    obtain ⟨t1, ht1⟩ : ∃ t1, t1 = Zl nm (decide (x.kind = 8 ∧ x.name = nm)) 0 x.kids := ⟨_, rfl⟩
    rw [← ht1]
    have HT1 := Wd ht1; clear ht1
    have HRT := Wd (show r = t1 + (if x.name = nm then 0 else Qu nm x.alts) from by rw [HR.out, HT1.out, Xe, if_neg HK1.out, if_neg HM.out])
    go_loopw [5, 7] (fun v i wr => ∃ m : Nat, m ≤ x.alts.length ∧ i = .int .i64 m ∧ v = .int .i64 (t1 + (if x.name = nm then 0 else Qu nm (x.alts.take m)) : Nat) ∧ Hid (Below W2.heap.size W2 wr)) (fun _ i _ => x.alts.length - (intOf i).toNat)
    case atStart => exact ⟨0, Nat.zero_le _, rfl, by rw [List.take_zero, Qu]; simp, HB⟩
    case round =>
     obtain ⟨m, hm, rfl, rfl, HB⟩ := hrel
     have HBw := Wd (Below.step HB2.out HB.out)
     have HP := Wd (BP2.out.below HB.out)
     have p1 := HP.out.cell (j := 1) rfl; have p6 := HP.out.cell (j := 6) rfl
     by_cases hlt2 : m < x.alts.length
     ·by_cases hn : x.name = nm
      ·have ⟨q1, q2⟩ := Kk hn
       have HNM := Wd hn; simp only [if_pos hn]; clear hn
       go_wp2
       go_roundw
       case rel => exact ⟨m + 1, by omega, by go_num, by first | rfl | rw [if_pos HNM.out], HB⟩
       case measure => simp [intOf]; omega
      ·have ⟨q1, q2⟩ := Xt hn
       have HNM := Wd hn; simp only [if_neg hn]; clear hn
       have HT := Wd (show Qu nm (x.alts.take (m + 1)) = Qu nm (x.alts.take m) + (if nm ∈ x.alts[m].names then 0 else Qt nm x.alts[m].body) ∧ t1 + Qu nm (x.alts.take (m + 1)) ≤ r from by
        refine ⟨by rw [Qf hlt2, qlz, Vj], ?_⟩
        rw [HRT.out, if_neg HNM.out]
        have := qep nm x.alts (m + 1)
        omega)
       have htm2 := HT.out
       obtain ⟨t0, ht0⟩ : ∃ t0, t0 = Qu nm (x.alts.take m) := ⟨_, rfl⟩
       rw [← ht0] at htm2 ⊢
       have HT0 := Wd ht0; clear ht0
       obtain ⟨ad, A1, c1, A3', c3', A4', c4', B5, d5, B6, d6, rfl, _, hK, hl1, hC1, g0, g1, g2, g3, g4, g5, g6, g7, g8⟩ := Xn (Kd.C_below G6.out HBw.out) m hlt2
       have hnl : x.alts[m].names.length ≤ 274877906944 := Vy HBK.out (List.getElem_mem hlt2)
       go_wp2_with fail
       refine (Jj x.alts[m].names nm hnl A1 c1 _ hC1 hl1).mono ?_
       rintro e w3 ⟨rfl, hb3⟩
       by_cases hmm : nm ∈ x.alts[m].names
       ·rw [decide_eq_true hmm]
        have HB3 := Wd (Below.step HB.out hb3)
        rw [if_pos hmm] at htm2
        clear g0 g1 g2 g3 g4 g5 g6 g7 g8 hK hC1 p1 p6 hb3 hmm
        go_wp2
        go_roundw
        case rel => exact ⟨m + 1, by omega, by go_num, by (try rw [if_neg HNM.out]); rw [htm2.1]; first | rfl | (simp; done) | go_num, HB3⟩
        case measure => simp [intOf]; omega
       ·rw [decide_eq_false hmm]
        have hat : ∀ (q : Addr) (v : Value), wr.cell? q = some v → w3.cell? q = some v := fun q v hq => Cb hb3 hq
        have HB3 := Wd (Below.step HB.out hb3)
        have HBw3 := Wd (Below.step HBw.out hb3)
        have HP3 := Wd (HP.out.below hb3)
        have hK3 := (Ja _ _).K_below hb3 hK
        have HMM := Wd hmm
        rw [if_neg hmm] at htm2
        replace g2 := hat _ _ g2; replace g3 := hat _ _ g3; replace g4 := hat _ _ g4; replace g5 := hat _ _ g5; replace g6 := hat _ _ g6; replace g7 := hat _ _ g7; replace g8 := hat _ _ g8
        clear g0 g1 hK hC1 p1 p6 hb3 hmm hat
        have p6 := HP3.out.cell (j := 6) rfl
        go_wp2_with fail
        refine (IHA.out _ (List.getElem_mem hlt2) (by have := Zu (List.getElem_mem hlt2); rw [Zo] at this; have := HBK.out; rw [Qg] at this; omega) (by have := HT.out; rw [if_neg HMM.out] at this; omega) _ _ hK3).mono ?_
        rintro e w4 ⟨rfl, hb4⟩
        have HB4 := Wd (Below.step HB3.out hb4)
        have HBw4 := Wd (Below.step HBw3.out hb4)
        clear g2 g3 g4 g5 g6 g7 g8 hK3 p6 hb4
        go_wp2
        go_roundw
        case rel => exact ⟨m + 1, by omega, by go_num, by (try rw [if_neg HNM.out]); rw [htm2.1]; first | rfl | go_num | (push_cast; simp only [Int.add_assoc]), HB4⟩
        case measure => simp [intOf]; omega
     ·have hkk : m = x.alts.length := by omega
      rw [hkk, List.take_length, ← HRT.out]
      clear hkk
      go_wp2
      go_ret
      exact ⟨rfl, HBw.out⟩
theorem quw (nm : ByteArray) (x : CoreT) : Hy nm x := Za (Hy nm) (fun c hk ha => qld nm c hk ha) x
end Go.Proofs.YtnoammmohdmnjaaGreat.C13
