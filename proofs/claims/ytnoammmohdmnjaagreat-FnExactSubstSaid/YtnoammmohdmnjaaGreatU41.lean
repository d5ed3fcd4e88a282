import Derived.Test.YtnoammmohdmnjaaGreatU40
set_option maxRecDepth 100000
set_option maxHeartbeats 16000000
set_option linter.unusedVariables false
set_option linter.unusedSimpArgs false
namespace Go.Proofs.YtnoammmohdmnjaaGreat.C13
open Go.RowKit Go.Proofs.YtnoammmohdmnjaaGreatW.PrintWords Go.WideMaps Go.Maps
open List renaming setIfInBounds_toArray → Jla, set_cons_zero → Jlb, set_cons_succ → Jlc
theorem Ye (l : List ByteArray) (s : ByteArray) (hl : l.length ≤ 274877906944) (A : Option Addr) (c : Nat) (w : World) (hr : Kd.string.C w A l.length l) (hc : l.length ≤ c) :
  Calls Tryz.prog 77 #[.slice A l.length c, .string s] w fun e w' => e = .returned (.bool (decide (s ∈ l))) ∧ Below w.heap.size w w' := by
 have HR := Wd hr; clear hr
 go_enter Tryz.func77, Tryz.ntmps77
 go_wp2
 go_loopw [9] (fun i wr => ∃ (k : Nat), k ≤ l.length ∧ i = .int .i64 k ∧ Hid (s ∉ l.take k) ∧ Hid (Below w.heap.size w wr)) (fun i _ => l.length - (intOf i).toNat)
 case atStart => exact ⟨0, Nat.zero_le _, rfl, Wd (by simp), Wd (Below.refl _ _)⟩
 case round =>
  exact f23
theorem NamM.congr' {w : World} {b n : Nat} {X Y : ByteArray → Bool} (h : NamM w b n X) (e : ∀ s : ByteArray, s.size ≤ maxLen → X s = Y s) : NamM w b n Y := by
 obtain ⟨D, hm, hD⟩ := h
 exact ⟨D, hm, ⟨hD.m, fun s hs z => by rw [← e s hs]; exact hD.a s hs z, fun s hs => by rw [← e s hs]; exact hD.h s hs⟩⟩
theorem qtk {w : World} {P : Program} {k : TypeId} {R : Value → Option (DataW Unit × List MemPlace)} {b n : Nat} {D : DataW Unit} (h : w.ownsMap P k R b n D) : Maps.size D ≤ n := by
 obtain ⟨es, clock, _, F, hs, rfl⟩ := h
 simp only [Maps.size, length_sorted]
 simpa using hs
theorem qic {key : Value} {kl : Lit} (h : keyOf Tryz.prog 9 key = some kl) : ∃ s : ByteArray, key = .string s ∧ kl = qhe s ∧ s.size ≤ maxLen := by
 cases key <;> simp [keyOf, Tryz.underlying9, mapKey] at h
 exact ⟨_, rfl, h.2.symm, h.1⟩
theorem qty (s t : ByteArray) (hs : s.size ≤ maxLen) : (qhe s).sameKey (qhe t) = decide (s = t) := by
 by_cases e : s = t
 ·subst e
  rw [decide_eq_true rfl]
  exact WideAt.sameKey_self (keyS.key (Uj hs))
 ·rw [decide_eq_false e]
  exact Maps.sameKey_ne (qjk (fun h => e h.symm))
theorem qhd (w : World) {ops : Array Oper} {rest : List Oper} {o : Oper} {a : Act} {Q : Exit → Act → World → Prop} (hg : o.guard = none) (it : Operand) (hop : o.op = Op.next it false) (b r n : Nat) (D : DataW Unit) (left : Lit → Bool) (cnt : Nat)
  (hit : a.eval it = .pointer (some ⟨r, 0, none⟩)) (h : w.ranges Tryz.prog 9 (plainElem (H := Unit) Tryz.prog 4) b r n D left cnt)
  (hDone : cnt = 0 → (∀ kl, left kl = false) → wpList Tryz.prog ops Q rest (a.put o.dst (.tuple #[.bool false])) w)
  (hMore : ∀ (s : ByteArray) (v : Value) (w' : World) (cnt' : Nat), s.size ≤ maxLen → left (qhe s) = true → w'.ranges Tryz.prog 9 (plainElem (H := Unit) Tryz.prog 4) b r n D (fun z => left z && !z.sameKey (qhe s)) cnt' → cnt' < cnt →
   w.grownBy w' (some r) → (Instr.entry (.pointer (some ⟨r, 0, none⟩))).run Tryz.prog w' = .ok (.tuple #[.string s, v]) w' → wpList Tryz.prog ops Q rest (a.put o.dst (.tuple #[.bool true, .string s, v])) w') :
  wpList Tryz.prog ops Q (o :: rest) a w :=
 wpList_next_ranges w hg it hop 9 keyS _ Value.string (fun v => v) (fun key kl hk => by obtain ⟨s, h, _⟩ := qic hk; exact ⟨s, h⟩) (fun v y hv => ⟨v, rfl⟩) b r n D left cnt hit h hDone (fun s v kl y w' cnt' hk hlk hv hat hrg hlt hg1 hs1 hen => by
  obtain ⟨s', hs', rfl, hsz⟩ := qic hk
  injection hs' with hs'
  subst hs'
  exact hMore s v w' cnt' hsz hlk hrg hlt hg1 hen)
def Adds (S : World) (fn : Nat) (caps : Array Value) (l : List ByteArray) : Prop := ∀ (w : World) (b n : Nat) (X : ByteArray → Bool), Below S.heap.size S w → S.heap.size ≤ b → NamM w b n X → n + l.length ≤ 1000000000000 →
 Calls Tryz.prog fn (#[.map (some b)] ++ caps) w fun e w' => e = .returned (.tuple #[]) ∧ NamM w' b (n + l.length) (qdk X l) ∧ w.grownBy w' (some b)
theorem qbx (pb fn : Nat) (caps : Array Value) (nm : ByteArray) (vb vf : Value) (pm n : Nat) (X : ByteArray → Bool) (p0 l : List ByteArray) (hX : ∀ s, X s = decide (s ∈ p0)) (hpl : p0.length + l.length ≤ 1000000000) (s : ByteArray) (hs : s.size ≤ 1000000000000) (w : World) (hn : n ≤ 100000000000)
  (hp : Blk w pb 98 [.string nm, vb, vf, .map (some pm)]) (hm : NamM w pm n X) (hen : ∀ args w, (callFunc fn args).run Tryz.prog w = .ok (.enter fn args) w) (hA : Adds w fn caps l) :
  Calls Tryz.prog 80 #[.pointer (some ⟨pb, 0, none⟩), .string s, .func (.func fn) #[] caps] w fun e w' => e = .returned (.string (Zt (p0 ++ l) s)) ∧ Below w.heap.size w w' := by
 have p3 := hp.cell (j := 3) rfl
 have hbl := hm.lt
 obtain ⟨D, hD0, hD1⟩ := hm
 have ⟨HD0, HD1, HX, HEN, HA⟩ := Wz hD0 hD1 hX hen hA
 have HDS := Wd (qtk hD0)
 have e1 : (w.alloc (.map #[] 0)).heap.size = w.heap.size + 1 := by simp
 have hmm := @run_makeMap Tryz.prog
 have HM0 := Wd (NamM.made w)
 have HB0 := Wd (show Below w.heap.size w (w.alloc (.map #[] 0)) from (Below.refl _ _).alloc (Nat.le_refl _) _)
 replace p3 := Cl HB0.out p3
 clear hp hD0 hD1 hX hen hA
 go_enter Tryz.func80, Tryz.ntmps80
 go_wp2_with (first
  | (at_range; refine wpList_range_own _ rfl _ 96 rfl 9 4 keyS Tryz.underlying96 _ pm n D rfl (HD0.out.alloc _) ?_; intro w0 hrg0 hg0 hs0)
  | go_in)
 go_frame
 rw [e1] at hrg0 hs0 ⊢
 have HR0 := Wd hrg0; have HG0 := Wd hg0
 have hz0 : w0.heap.size = w.heap.size + 2 := by omega
 clear hrg0 hg0 hs0
 go_loopw [8] (fun _ wr => ∃ (left : Lit → Bool) (cnt : Nat) (Y : ByteArray → Bool), Hid (wr.ranges Tryz.prog 9 (plainElem (H := Unit) Tryz.prog 4) pm (w.heap.size + 1) n D left cnt) ∧ cnt ≤ Maps.size D ∧ Hid (NamM wr w.heap.size (Maps.size D - cnt) Y) ∧
   Hid (∀ t : ByteArray, t.size ≤ maxLen → Y t = (X t && !left (qhe t))) ∧ Hid (∀ t : ByteArray, t.size ≤ maxLen → left (qhe t) = true → X t = true) ∧ Hid (Below w.heap.size w wr)) (fun _ wr => wr.rangeLeft pm (w.heap.size + 1))
 case atStart =>
  refine ⟨_, _, _, HR0, Nat.le_refl _, Wd ((HM0.out.move (HG0.out.block _ HM0.out.lt (by simp))).mono (Nat.zero_le _)), Wd (fun t ht => ?_), Wd (fun t ht h => ?_), Wd (HB0.out.grown HG0.out (Nat.le_trans (Nat.le_succ _) (by omega)) (fun j hj => by cases hj))⟩
  ·rw [HD1.out.h t ht]; simp
  ·rw [← HD1.out.h t ht]; exact h
 case round =>
  obtain ⟨left, cnt, Y, HR, hcs, HM, HY, HLX, HB⟩ := hrel
  go_wp2_with (first
   | (at_next; refine qhd _ rfl _ rfl pm (w.heap.size + 1) n _ _ _ rfl HR.out ?_ ?_)
   | go_in)
  ·intro hc0 hl0
   have HMX := Wd (show NamM wr w.heap.size (Maps.size D) X from by
    have h := HM.out.congr' (Y := X) (fun t ht => by rw [HY.out t ht, hl0]; simp)
    rw [hc0] at h; simpa using h)
   clear HM HR HY HLX hl0
   go_wp2_with fail
   rw [HEN.out]
   go_wp2_with fail
   refine (HA.out wr w.heap.size _ X HB.out (Nat.le_refl _) HMX.out (by have := HDS.out; omega)).mono ?_
   rintro en w3 ⟨rfl, hm3, hg3⟩
   have HM3 := Wd hm3
   have HB3 := Wd (show Below w.heap.size w w3 from HB.out.grown hg3 HB.out.size (fun j hj => by injection hj with hj; omega))
   clear hm3 hg3
   go_wp2_with fail
   refine (qsk (p0 ++ l) (by simp; omega) (qdk X l) (fun t => by rw [qdk, HX.out t, ← Bool.decide_or]; exact decide_eq_decide.2 List.mem_append.symm) s hs w.heap.size _ w3 HM3.out).mono ?_
   rintro en w4 ⟨rfl, hb4⟩
   have HB4 := Wd (HB3.out.trans (hb4.mono HB3.out.size))
   clear hb4
   go_wp2
   go_ret
   exact ⟨rfl, HB4.out⟩
  ·intro t v w1 cnt1 hts hlk hrg1 hlt hg1 hen
   have HM1 := Wd (HM.out.move (hg1.block _ HM.out.lt (fun e => by have := Option.some.inj e; omega)))
   have ⟨HR1, HTS, HLK, HG1⟩ := Wj hrg1 hts hlk hg1
   have hkey := Wd (Uj hts)
   obtain ⟨D2, hD20, hD21⟩ := HM1.out
   have HD20 := Wd hD20; have HD21 := Wd hD21
   clear hrg1 hg1 hlk hts hD20 hD21 HM
   go_wp2_with (first
    | (at_mapUpdate; refine wpList_mapUpdate_own _ rfl _ _ _ 96 rfl 9 4 keyS Tryz.underlying96 _ w.heap.size _ D2 rfl HD20.out (by have := HDS.out; unfold maxLen; omega) _ (.bool true) _ rfl rfl hkey.out _ [] (plainElem_bool Tryz.underlying4 true) ?_; intro w2 hout2 hg2; go_frame)
    | go_in)
   have HM2 := Wd (show NamM w2 w.heap.size (Maps.size D - cnt + 1) (qdk Y [t]) from ⟨_, hout2, HD21.out.put HTS.out⟩)
   have HR2 := Wd (HR1.out.kept hg2 (fun e => by have := Option.some.inj e; omega) (fun e => by have := Option.some.inj e; omega))
   have HB2 := Wd (show Below w.heap.size w w2 from (HB.out.grown HG1.out HB.out.size (fun j hj => by injection hj with hj; omega)).grown hg2 (Nat.le_trans HB.out.size HG1.out.size) (fun j hj => by injection hj with hj; omega))
   clear hout2 hg2 HD20 HD21 HM1 HR1
   go_roundw
   case rel =>
    refine ⟨_, cnt1, _, HR2, by omega, Wd (HM2.out.mono (by omega)), Wd (fun u hu => ?_), Wd (fun u hu h => ?_), HB2⟩
    ·rw [qdk, HY.out u hu, qty u t hu]
     by_cases e : u = t
     ·subst e
      simp [HLX.out u hu HLK.out]
     ·simp [e]
    ·simp at h
     exact HLX.out u hu h.1
   case measure => rw [HR2.out.left_eq, HR.out.left_eq]; exact hlt
theorem f64 {p : Prop} (h : p := by
 go_wp2_with fail
 refine (qbq x hbk S w p b n X HAT.out HB.out hS HM.out hn).mono ?_
 rintro en w3 ⟨rfl, hm3, hg3⟩
 have HM3 := Wd hm3; have HG3 := Wd hg3
 clear hm3 hg3 c0
 go_wp2
 go_end0
 exact ⟨rfl, HM3.out, HG3.out⟩) : p := h
theorem qzm {S : World} {bx : Nat} {p : Addr} {x : CoreT} (hb : Blk S bx 53 [.pointer (some p)]) (hat : At S x p) (hbk : bulk x ≤ 274877906944) : Adds S 81 #[.pointer (some ⟨bx, 0, none⟩)] (Zc x) := by
 intro w b n X hB hS hm hn
 have c0 := (hb.below hB).cell (j := 0) rfl
 have ⟨HM, HAT, HB⟩ := Wq hm hat hB
 clear hm hb hat hB
 show Calls _ _ #[.map (some b), .pointer (some ⟨bx, 0, none⟩)] _ _
 go_enter Tryz.func81, Tryz.ntmps81
 exact f64
theorem qpj {S : World} {bx : Nat} {p : Addr} {x : CoreT} (hb : Blk S bx 53 [.pointer (some p)]) (hat : At S x p) (hbk : bulk x ≤ 274877906944) : Adds S 97 #[.pointer (some ⟨bx, 0, none⟩)] (Zc x) := by
 intro w b n X hB hS hm hn
 have c0 := (hb.below hB).cell (j := 0) rfl
 have ⟨HM, HAT, HB⟩ := Wq hm hat hB
 clear hm hb hat hB
 show Calls _ _ #[.map (some b), .pointer (some ⟨bx, 0, none⟩)] _ _
 go_enter Tryz.func97, Tryz.ntmps97
 exact f64
theorem qpk {S : World} {bx g o cc : Nat} {a : AltT} {A1 : Option Addr} (hb : Blk S bx 85 [.pointer (some ⟨g, o, none⟩)]) (h1 : S.cell? ⟨g, o + 1, none⟩ = some (.slice A1 a.names.length cc)) (hC : Kd.string.C S A1 a.names.length a.names) (hcc : a.names.length ≤ cc) (hsz : ∀ s ∈ a.names, s.size ≤ 274877906944) (hat : At S a.body ⟨g, o + 2, none⟩) (hbk : bulk a.body ≤ 274877906944) :
  Adds S 98 #[.pointer (some ⟨bx, 0, none⟩)] (a.names ++ Zc a.body) := by
 intro w b n X hB hS hm hn
 rw [List.length_append] at hn
 have c0 := (hb.below hB).cell (j := 0) rfl
 have c1 := Cl hB h1
 have ⟨HM, HAT, HB, HBX, HC, HSZ⟩ := Wx hm hat hB hb hC hsz
 clear hm hb hat hB h1 hC hsz
 show Calls _ _ #[.map (some b), .pointer (some ⟨bx, 0, none⟩)] _ _
 go_enter Tryz.func98, Tryz.ntmps98
 go_wp2_with fail
 refine (qij a.names HSZ.out b n X (by omega) A1 cc w (Kd.C_below HC.out HB.out) hcc HM.out).mono ?_
 rintro en w3 ⟨rfl, hm3, hg3⟩
 have HM3 := Wd hm3; have HG3 := Wd hg3
 have HB3 := Wd (HB.out.grown hg3 HB.out.size (fun j hj => by injection hj with hj; omega))
 clear hm3 hg3 c0 c1
 have c0 := (HBX.out.below HB3.out).cell (j := 0) rfl
 go_wp2_with fail
 refine (qbq a.body hbk S w3 _ b _ _ HAT.out HB3.out hS HM3.out (by omega)).mono ?_
 rintro en w4 ⟨rfl, hm4, hg4⟩
 have HM4 := Wd hm4; have HG4 := Wd hg4
 clear hm4 hg4 c0
 go_wp2
 go_end0
 exact ⟨rfl, by have h := HM4.out; rw [qiu] at h; rw [List.length_append, ← Nat.add_assoc]; exact h, HG3.out.trans HG4.out⟩
def kPtr : Kd Addr := Kd.scalar (fun a => .pointer (some a)) (fun _ => rfl)
theorem zaj : (Tryz.prog.info? 53).map (fun i => (i.zero, i.size, i.bytes)) = some (some (.pointer none), 1, 8) := by kernel_rfl
def qvc (l : List Addr) : List Value := l.map (fun a => Value.pointer (some a))
theorem qov {w : World} {A : Option Addr} {n : Nat} {l : List Addr} (h : kPtr.C w A n l) (i : Nat) (hi : i < l.length) : ∃ ad, A = some ad ∧ w.cell? (ad.add i) = some (.pointer (some l[i])) := by
 obtain ⟨ad, e', hc⟩ := h.2.2 (by have := h.1; omega)
 obtain ⟨c, hcl, hK, hcell⟩ := hc i l[i] (List.getElem?_eq_getElem hi)
 cases hK
 have := hcell 0 _ rfl
 exact ⟨ad, e', by simpa [Kd.scalar, kPtr] using this⟩
section
variable {ops : Array Oper} {Q : Exit → Act → World → Prop}
theorem qny {rest : List Oper} {o : Oper} {a : Act} {w : World} (base : Nat) (hgd : o.guard = none) {sl x : Operand}
  (ho : o.op = .call { callee := .builtin .append, args := #[sl, x], argTypes := #[124, 124] }) {u : Value} {xs : List Addr} (hs : a.eval sl = u)
  (hown : w.ownsRow base 53 1 u xs.length (qvc xs)) (hbase : base ≤ w.heap.size) {A : Option Addr} {c : Nat} {l : List Addr} (hx : a.eval x = .slice A l.length c) (hC : kPtr.C w A l.length l) (hl : xs.length + l.length ≤ 549755813888)
  (h : ∀ v w', w'.ownsRow base 53 1 v (xs ++ l).length (qvc (xs ++ l)) → w.grownBy w' u.ownBlock → wpList Tryz.prog ops Q rest (a.put o.dst v) w') : wpList Tryz.prog ops Q (o :: rest) a w := by
 refine wpList_plain hgd fun K hK => ?_
 have hw : Region.wanted o (yielded ops a.tmps) = true := by simp [Region.wanted, hgd]
 have := Kd.R_append_rows_step (P := Tryz.prog) (ops := ops) (Q := Q) (Kc := K) (d := kPtr) (w0 := w) base hw sl x 124 53 (.pointer none) 8 ho Tryz.underlying124 zaj rfl (by decide) (by omega) _ xs l A l.length c (fun _ => True) (fun _ => False) hs hx
  (Kd.R_of_own hown (fun _ _ => trivial)) hC (fun x cs h => h) (fun _ h => h.elim) (fun _ _ => trivial) (Below.refl _ _) hbase (by omega)
  (fun v1 w1 hr _ hg hat => hK _ _ (h v1 w1 (Kd.own_of_R hr) hg))
 rwa [if_pos hw] at this
end
theorem qml (nm : ByteArray) (xs : List CoreT) (hs : ∀ x ∈ xs, Vn x) (hbk : ∀ x ∈ xs, bulk x ≤ 274877906944) (hlen : xs.length ≤ 274877906944) (l : List Addr) (hl : l.length = xs.length) (A : Option Addr) (c : Nat) (w : World) (hC : kPtr.C w A xs.length l) (hat : ∀ i (h : i < xs.length) (h' : i < l.length), At w xs[i] l[i]) :
  Calls Tryz.prog 78 #[.slice A xs.length c, .string nm] w fun e w' => e = .returned (.bool (xs.any (Vg nm))) ∧ Below w.heap.size w w' := by
 have ⟨HC, HAT, HS, HBK, HL⟩ := Wz hC hat hs hbk hl
 clear hC hat hs hbk hl
 go_enter Tryz.func78, Tryz.ntmps78
 go_wp2_with fail
 go_loopw [9] (fun s9 wr => ∃ k : Nat, k ≤ xs.length ∧ s9 = .int .i64 k ∧ Hid ((xs.take k).any (Vg nm) = false) ∧ Hid (Below w.heap.size w wr)) (fun s9 _ => xs.length - (intOf s9).toNat)
 case atStart => exact ⟨0, Nat.zero_le _, rfl, Wd (by simp), Wd (Below.refl _ _)⟩
 case round =>
  obtain ⟨k, hk, rfl, HN, HB⟩ := hrel
  by_cases hlt : k < xs.length
  ·obtain ⟨ad, rfl, g0'⟩ := qov HC.out k (by have := HL.out; omega)
   have g0 := Cl HB.out g0'
   have HA := Wd (HAT.out k hlt (by have := HL.out; omega))
   obtain ⟨q, hq⟩ : ∃ q, q = l[k]'(by have := HL.out; omega) := ⟨_, rfl⟩
   rw [← hq] at g0 HA
   have HTK := Wd (show (xs.take (k + 1)).any (Vg nm) = Vg nm xs[k] from by rw [Qf hlt, List.any_append, HN.out]; simp)
   clear g0' hq
   go_wp2_with fail
   refine (qbh xs[k] (HS.out _ (List.getElem_mem hlt)) (HBK.out _ (List.getElem_mem hlt)) nm q wr (HA.out.below HB.out)).mono ?_
   rintro e w3 ⟨rfl, hb3⟩
   have HB3 := Wd (HB.out.trans (hb3.mono HB.out.size))
   clear hb3 g0
   by_cases hh : Vg nm xs[k] = true
   ·rw [hh]
    have HH := Wd (show xs.any (Vg nm) = true from List.any_eq_true.2 ⟨_, List.getElem_mem hlt, hh⟩)
    clear hh
    go_wp2
    go_ret
    exact ⟨by rw [HH.out]; rfl, HB3.out⟩
   ·rw [Bool.not_eq_true] at hh
    rw [hh]
    have HN3 := Wd (show (xs.take (k + 1)).any (Vg nm) = false from by rw [HTK.out, hh])
    clear hh
    exact f68
  ·have hkk : k = xs.length := by omega
   have hn := HN.out
   rw [hkk, List.take_length] at hn
   have HH := Wd hn
   clear hkk hn
   go_wp2
   go_ret
   exact ⟨by rw [HH.out]; rfl, HB.out⟩
theorem qnz {ops : Array Oper} {rest : List Oper} {dst : Option Tmp} {type : TypeId} {pos : String} {after : Array Edge} {a : Act} {w : World} {Q : Exit → Act → World → Prop} (x : Operand) (s : Addr) (hx : a.eval x = .pointer (some s))
  (h : ∀ w', Blk w' w.heap.size 53 [.pointer (some s)] → Below w.heap.size w w' → w'.heap.size = w.heap.size + 1 → wpList Tryz.prog ops Q rest (a.put dst (.slice (some ⟨w.heap.size, 0, none⟩) 1 1)) w') :
  wpList Tryz.prog ops Q ({ dst, op := .buildSlice 124 1 #[(0, x)], type, pos, after, guard := none } :: rest) a w := by
 refine wpList_plain rfl fun K hK => ?_
 have h' := h (w.alloc (.cells #[.pointer (some s)] 53)) (Jm w _ _) ((Below.refl _ _).alloc (Nat.le_refl _) _) (by simp)
 unfold Oper.wp
 rw [execOp_congr (ρ' := fun _ => .pointer (some s)) _ (by intro cs b h; cases h) (by intro y hy; simp [Op.operands] at hy; rw [hy]; exact hx)]
 clear hx
 have h2 := hK _ _ h'
 clear hK h'
 go_simp
 exact h2
theorem one_P {w : World} {g : Nat} {s : Addr} (hb : Blk w g 53 [.pointer (some s)]) : kPtr.C w (some ⟨g, 0, none⟩) 1 [s] := by
 have hr : Row w 53 (.slice (some ⟨g, 0, none⟩) 1 1) [s].length (qvc [s]) [g] := .inr ⟨g, 1, [], rfl, Nat.le_refl _, by decide, by simpa [qvc] using hb, rfl⟩
 obtain ⟨A, c, e, _, hC⟩ := hr.reads (R := kPtr.K w) (size := 1) (qfg _ _)
 injection e with e1 e2 e3
 subst e1
 exact hC
theorem ptrs_C {w : World} {A : Option Addr} {c : Nat} {l : List Addr} {G : List Nat} (h : Row w 53 (.slice A l.length c) l.length (qvc l) G) : kPtr.C w A l.length l ∧ l.length ≤ c := by
 obtain ⟨A', c', e, hc, hC⟩ := h.reads (R := kPtr.K w) (size := 1) (qfg _ _)
 injection e with e1 e2 e3
 subst e1; subst e3
 exact ⟨hC, hc⟩
def qow (A : Option Addr) (n : Nat) : List Addr := (List.range n).map (fun i => (A.getD ⟨0, 0, none⟩).add (i * 7))
theorem qtq {w : World} {A : Option Addr} {n c : Nat} {l : List Addr} {G : List Nat} (hn : l.length = n) (h : Row w 53 (.slice A n c) n (qvc l) G) : kPtr.C w A n l := by
 subst hn
 exact (ptrs_C h).1
theorem Hp (A : Option Addr) (n : Nat) : (qow A n).length = n := by simp [qow]
theorem qtr (ad : Addr) (n : Nat) : qow (some ad) n ++ [ad.add (n * 7)] = qow (some ad) (n + 1) := by simp [qow, List.range_succ]
theorem qox (ad : Addr) (n i : Nat) (h : i < (qow (some ad) n).length) : (qow (some ad) n)[i] = ad.add (i * 7) := by simp [qow]
theorem qln (k : Int) (hk : k ≠ 8) (p : Addr) (A5 : Option Addr) (n c5 : Nat) (hn : n ≤ 274877906944) (w : World) (q0 : w.cell? p = some (.int .i64 k)) (q5 : w.cell? ⟨p.block, p.off + 5, none⟩ = some (.slice A5 n c5)) (hA : 0 < n → ∃ ad, A5 = some ad) :
  Calls Tryz.prog 79 #[.pointer (some p)] w fun e w' => ∃ A c G, e = .returned (.slice A n c) ∧ Row w' 53 (.slice A n c) n (qvc (qow A5 n)) G ∧ (∀ i ∈ G, w.heap.size ≤ i) ∧ Below w.heap.size w w' := by
 have e8 : (k == 8) = false := beq_eq_false_iff_ne.2 hk
 have Q5 := Wd q5; have HA := Wd hA
 have HB0 := Wd (show Below w.heap.size w (w.alloc (.cells #[] 53)) from (Below.refl _ _).alloc (Nat.le_refl _) _)
 have HO0 := Wd (show (w.alloc (.cells #[] 53)).ownsRow w.heap.size 53 1 (.slice (some ⟨w.heap.size, 0, none⟩) 0 0) 0 (qvc (qow A5 0)) from qgo w _ _ rfl)
 replace q0 := Cl HB0.out q0; replace q5 := Cl HB0.out q5
 clear hk hA
 go_enter Tryz.func79, Tryz.ntmps79
 go_wp2_with fail
 clear q0 q5
 go_loopw [3, 51] (fun s3 s51 wr => ∃ i : Nat, i ≤ n ∧ s51 = .int .i64 i ∧ Hid (wr.ownsRow w.heap.size 53 1 s3 i (qvc (qow A5 i))) ∧ Hid (Below w.heap.size w wr)) (fun _ s51 _ => n - (intOf s51).toNat)
 case atStart => exact ⟨0, Nat.zero_le _, rfl, HO0, HB0⟩
 clear HO0 HB0
 case round =>
  obtain ⟨i, hi, rfl, HO, HB⟩ := hrel
  by_cases hlt : i < n
  ·obtain ⟨ad, rfl⟩ := HA.out (by omega)
   have q5 := Cl HB.out Q5.out
   have qi0 : (0 : Int) ≤ (i : Int) := by omega
   have qi1 : (i : Int) < n := by omega
   go_wp2_with (refine qnz _ (ad.add (i * 7)) (by rfl) ?_)
   intro w2 hb2 hbl2 hs2
   have HO2 := Wd (Xc HO.out (fun b hb => hbl2.block b ((Zk (by decide) HO.out).1.lt b hb)))
   have HB2 := Wd (HB.out.trans (hbl2.mono HB.out.size)); have H2 := Wd hb2
   clear hb2 hbl2 hs2 q5
   go_wp2_with (refine qny (xs := qow (some ad) i) w.heap.size rfl (by rfl) (by rfl) (by rw [Hp]; exact HO2.out) HB2.out.size (l := [ad.add (i * 7)]) (by rfl) (one_P H2.out) (by rw [Hp]; simp only [List.length_singleton]; omega) ?_)
   intro v3 w3 ho3 hg3
   have HO3 := Wd (show w3.ownsRow w.heap.size 53 1 v3 (i + 1) (qvc (qow (some ad) (i + 1))) from by rw [qtr, Hp] at ho3; exact ho3)
   have HB3 := Wd (show Below w.heap.size w w3 from HB2.out.grown hg3 HB2.out.size (fun j hj => qli HO2.out j hj))
   clear ho3 hg3 HO2 HO H2
   go_wp2
   go_roundw
   case rel => exact ⟨i + 1, by omega, by go_num, HO3, HB3⟩
   case measure => simp [intOf]; omega
  ·have hii : i = n := by omega
   have ho := HO.out
   rw [hii] at ho
   have hrow := Zk (by decide) ho
   obtain ⟨A, c, rfl, -⟩ := hrow.1.slice
   have HC := Wd hrow.1; have HL := Wd hrow.2.1
   clear hii ho hrow HO
   go_wp2
   go_ret
   exact ⟨_, _, _, rfl, HC.out, HL.out, HB.out⟩
end Go.Proofs.YtnoammmohdmnjaaGreat.C13
namespace Go.Proofs.YtnoammmohdmnjaaGreat.C13
open Go.RowKit Go.Proofs.YtnoammmohdmnjaaGreatW.PrintWords
open List renaming setIfInBounds_toArray → Jla, set_cons_zero → Jlb, set_cons_succ → Jlc
theorem quz (x : CoreT) (hs : Vn x) (hbk : bulk x ≤ 274877906944) (hkl : x.kids.length ≤ 2) (nm : ByteArray) (p : Addr) (w : World) (hat : At w x p) :
  Calls Tryz.prog 96 #[.pointer (some p), .string nm] w fun e w' => e = .returned (.bool (Yp nm x)) ∧ Below w.heap.size w w' := by
 obtain ⟨A3, c3, A4, c4, A5, c5, A6, c6, hK, -, -, -, -, -, q5, q6⟩ := hat
 obtain ⟨_, _, _, _, _, _, _, _, he, l3, g3, l4, g4, l5, g5, l6, g6⟩ := Qk hK
 simp only [Qb, List.cons.injEq, Value.slice.injEq, true_and, and_true] at he
 obtain ⟨⟨rfl, rfl⟩, ⟨rfl, rfl⟩, ⟨rfl, rfl⟩, ⟨rfl, rfl⟩⟩ := he
 obtain ⟨n1, n2, n3, n4, n5⟩ := Qz hbk
 have ⟨HSK, HBK, HKL⟩ := Wq (Zz.1 hs).2 hbk hkl
 have ⟨G5, G6, Q5, Q6⟩ := Wj g5 g6 q5 q6
 obtain ⟨r, hr⟩ : ∃ r, r = Yp nm x := ⟨_, rfl⟩
 rw [← hr]
 have HR := Wd hr
 clear hK hs hbk hkl g3 g4 g5 g6 l3 l4 l5 l6 q5 hr
 go_enter Tryz.func96, Tryz.ntmps96
 go_wp2_with fail
 clear q6
 go_loopw [11] (fun s wr => ∃ k : Nat, k ≤ x.alts.length ∧ s = .int .i64 k ∧ Hid ((x.alts.take k).any (qkz nm) = false) ∧ Hid (Below w.heap.size w wr)) (fun s _ => x.alts.length - (intOf s).toNat)
 case atStart => exact ⟨0, Nat.zero_le _, rfl, Wd (by simp), Wd (Below.refl _ _)⟩
 case round =>
  obtain ⟨k, hk, rfl, HN, HB⟩ := hrel
  have q6 := Cl HB.out Q6.out
  by_cases hlt : k < x.alts.length
  ·obtain ⟨ae, A1, cc1, B3, d3, B4, d4, B5, d5, B6, d6, rfl, -, hK, hl1, hC1, -, g1, g2, g3, g4, g5, g6, g7, g8⟩ := Xn G6.out k hlt
   have HA2 := Wd (show At w x.alts[k].body ⟨(ae.add (k * 9)).block, (ae.add (k * 9)).off + 2, none⟩ from ⟨B3, d3, B4, d4, B5, d5, B6, d6, hK, g2, g3, g4, g5, g6, g7, g8⟩)
   have ⟨HE1, HC1, HL1⟩ := Wq g1 hC1 hl1
   clear g1 g2 g3 g4 g5 g6 g7 g8 hK hC1 hl1
   have e1 := Cl HB.out HE1.out
   have hnl : x.alts[k].names.length ≤ 274877906944 := Vy HBK.out (List.getElem_mem hlt)
   have HTK := Wd (show (x.alts.take (k + 1)).any (qkz nm) = qkz nm x.alts[k] from by rw [Qf hlt, List.any_append, HN.out]; simp)
   have qk0 : (0 : Int) ≤ (k : Int) := by omega
   have qk1 : (k : Int) < x.alts.length := by omega
   go_wp2_with fail
   refine (Ye x.alts[k].names nm hnl A1 cc1 wr (Kd.C_below HC1.out HB.out) HL1.out).mono ?_
   rintro e w3 ⟨rfl, hb3⟩
   have HB3 := Wd (HB.out.trans (hb3.mono HB.out.size))
   clear hb3 q6 e1
   have q6 := Cl HB3.out Q6.out
   by_cases hm : nm ∈ x.alts[k].names
   ·rw [decide_eq_true hm]
    have HN3 := Wd (show (x.alts.take (k + 1)).any (qkz nm) = false from by rw [HTK.out, Uh]; simp [hm])
    clear hm
    exact f68
   ·rw [decide_eq_false hm]
    have HM := Wd hm
    clear hm
    go_wp2_with fail
    refine (qbh x.alts[k].body (HSK.out.2 _ (List.getElem_mem hlt)) (Vp HBK.out (List.getElem_mem hlt)) nm _ w3 (HA2.out.below HB3.out)).mono ?_
    rintro e w4 ⟨rfl, hb4⟩
    have HB4 := Wd (HB3.out.trans (hb4.mono HB3.out.size))
    clear hb4 q6
    by_cases hh : Vg nm x.alts[k].body = true
    ·have HH := Wd (show r = true from by rw [HR.out, Yp, Bool.or_eq_true]; exact .inr (List.any_eq_true.2 ⟨_, List.getElem_mem hlt, by rw [Uh, hh, decide_eq_true HM.out]; rfl⟩))
     rw [hh]
     clear hh
     go_wp2
     go_ret
     exact ⟨by rw [HH.out]; rfl, HB4.out⟩
    ·rw [Bool.not_eq_true] at hh
     have HN3 := Wd (show (x.alts.take (k + 1)).any (qkz nm) = false from by rw [HTK.out, Uh, hh]; simp)
     rw [hh]
     clear hh
     go_wp2
     go_roundw
     case rel => exact ⟨k + 1, by omega, by go_num, HN3, HB4⟩
     case measure => simp [intOf]; omega
  ·have hkk : k = x.alts.length := by omega
   have hn := HN.out
   rw [hkk, List.take_length] at hn
   have HRR := Wd (show r = (x.kids.drop 1).any (Vg nm) from by rw [HR.out, Yp, hn, Bool.or_false])
   have q5 := Cl HB.out Q5.out
   clear hkk hn q6
   by_cases hk2 : x.kids.length = 2
   ·obtain ⟨ad, rfl, hA⟩ := Ub G5.out 1 (by omega)
    have HA := Wd hA; clear hA
    have hke : ((x.kids.length : Int) == 2) = true := beq_iff_eq.2 (by omega)
    have HD := Wd (show x.kids.drop 1 = [x.kids[1]'(by omega)] from qez (by omega) HKL.out)
    have hk1 : (1 : Int) < x.kids.length := by omega
    have hm1 : x.kids[1]'(by omega) ∈ x.kids := List.getElem_mem _
    have HM1 := Wd hm1
    clear hm1
    go_wp2_with fail
    refine (qbh (x.kids[1]'(by omega)) (HSK.out.1 _ HM1.out) (by have := Qx HM1.out; have := HBK.out; rw [Qg] at this; omega) nm _ wr (HA.out.below HB.out)).mono ?_
    rintro e w3 ⟨rfl, hb3⟩
    have HB3 := Wd (HB.out.trans (hb3.mono HB.out.size))
    have HH := Wd (show r = Vg nm (x.kids[1]'(by omega)) from by rw [HRR.out, HD.out]; simp)
    rw [← HH.out]
    clear hb3 q5
    go_wp2
    go_ret
    exact ⟨rfl, HB3.out⟩
   ·have hke : ((x.kids.length : Int) == 2) = false := beq_eq_false_iff_ne.2 (by omega)
    have HH := Wd (show r = false from by rw [HRR.out, List.drop_eq_nil_of_le (by have := HKL.out; omega)]; rfl)
    clear hk2
    go_wp2
    go_ret
    exact ⟨by rw [HH.out]; rfl, HB.out⟩
def qzg (fr tn : ByteArray) (x : CoreT) (g : Nat) (e : TypeId) (pre post : List Value) (F : List Nat) (w : World) (en : Ending) (w' : World) : Prop :=
 en = .returned (.tuple #[]) ∧ ∃ cx', Ke 35 76 w' (rn fr tn x) cx' F ∧ Blk w' g e (pre ++ (cx' ++ post)) ∧ But (g :: F) w w'
theorem qbf (fr tn : ByteArray) (x : CoreT) (hsh : Vn x) (hbk : bulk x ≤ 274877906944) (w : World) (g off : Nat) (e : TypeId) (pre cx post : List Value) (F : List Nat) (hoff : pre.length = off) (hb : Blk w g e (pre ++ (cx ++ post))) (hO : Ke 35 76 w x cx F) (hnd : F.Nodup) (hg : g ∉ F) :
  Calls Tryz.prog 82 #[.pointer (some ⟨g, off, none⟩), .string fr, .string tn] w (qzg fr tn x g e pre post F w) := by
 have hmm := @run_makeMap Tryz.prog
 have hmf : ∀ (fn : Fn) (first cap : Array Value) (w : World), (Instr.makeFunc fn first cap).run Tryz.prog w = .ok (.func fn first cap) w := fun _ _ _ _ => rfl
 have hlt := Je _ _ _ hO
 have hgl := hb.lt
 have ⟨HO, HB, HLT, HG, HN, HSH, HBK, HOFF⟩ := Ww hO hb hlt hg hnd hsh hbk hoff
 clear hO hb hlt hg hnd hsh hbk hoff
 obtain ⟨W1, hW1, hp1, hB1, hs1⟩ := boxed w [.string fr] 9
 obtain ⟨W2, hW2, hp2, hB2, hs2⟩ := boxed W1 [.string tn] 9
 obtain ⟨W3, hW3⟩ : ∃ W3, W3 = W2.alloc (.map #[] 0) := ⟨_, rfl⟩
 have hB3 : Below W2.heap.size W2 W3 := by rw [hW3]; exact (Below.refl _ _).alloc (Nat.le_refl _) _
 have hM : CountM W3 W2.heap.size 0 (fun _ => 0) := by rw [hW3]; exact CountM.made W2
 have HB3 := Wd (Qa (Below.step hB1 hB2) hB3)
 have H1 := Wd ((hp1.below hB2).below hB3)
 have H2 := Wd (hp2.below hB3)
 have HM := Wd hM
 rw [hs1] at H2
 rw [hs2, hs1] at HM
 have HS1 := Wd (show W2.heap.size = w.heap.size + 1 + 1 by omega)
 clear hp1 hp2 hB1 hB2 hB3 hM hs1 hs2
 subst hW3; subst hW2; subst hW1
 go_enter Tryz.func82, Tryz.ntmps82
 go_wp2_with fail
 refine (fv_all fr tn x HSH.out HBK.out _ g off e pre cx post F (w.heap.size + 1 + 1) w.heap.size (w.heap.size + 1) 0 (fun _ => 0) HOFF.out (HB.out.below HB3.out) (qan HO.out HB3.out) HN.out ⟨HG.out, by omega, fun h => by have := HLT.out _ h; omega, by omega, by omega, fun h => by have := HLT.out _ h; omega, by omega, by omega, fun h => by have := HLT.out _ h; omega⟩ H1.out H2.out HM.out (by have := HBK.out; omega)).mono ?_
 rintro en w4 ⟨rfl, cx', ho4, hb4, hm4, hbt4⟩
 have ⟨HO4, HB4, HT4⟩ := Wq ho4 hb4 hbt4
 clear ho4 hb4 hm4 hbt4
 go_wp2
 go_end0
 refine ⟨rfl, cx', ?_, HB4.out, ?_⟩
 ·have h := HO4.out
  rw [show Jn (fun _ => 0) fr = false from decide_eq_false (by simp), fv_rn fr tn x HSH.out] at h
  exact h
 ·have hb := HB3.out
  exact ⟨HT4.out.os.trans hb.os, HT4.out.tape.trans hb.tape, HT4.out.output.trans hb.output, Nat.le_trans hb.size HT4.out.size, fun i hi hn => (HT4.out.block i (Nat.lt_of_lt_of_le hi hb.size) (fun h => by
   rcases List.mem_cons.1 h with h | h
   ·omega
   ·exact hn h)).trans (hb.block i hi)⟩
end Go.Proofs.YtnoammmohdmnjaaGreat.C13
