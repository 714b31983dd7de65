/- Copies of a call and of an answer. Printed by hist_f.py. -/
import Derived.Test.YtbkkplednfdfdaaData
import Derived.Test.YtbkkplednfdfdaaDids
namespace Go.Proofs.Ytbkkplednfdfdaa
open Go.RowKit

theorem RdD.fr {w w' : World} {B : Nat} {t : TypeId} {p : Option Addr} {xs : List Value} (h : RdD w B t p xs) {g : Nat} {t' : TypeId} {cs' : List Value} (hg : Blk w g t' cs') (ht : t ≠ t') (hf : Fr (fun x => x = g) w w') : RdD w' B t p xs := by
  rcases h with h | ⟨b, o, cs, hp, hB, hk, hc⟩
  · exact .inl h
  · refine .inr ⟨b, o, cs, hp, hB, hk.fr hf (fun e => ?_), hc⟩
    have e : b = g := e
    subst e
    unfold Blk at hk hg
    rw [hk] at hg
    injection hg with hg
    injection hg with _ h2
    exact ht h2
theorem RdD.set_ {w : World} {B : Nat} {t : TypeId} {b o : Nat} {xs : List Value} (h : RdD w B t (some ⟨b, o, none⟩) xs) (k : Nat) (hk : k < xs.length) (u : Value) : RdD (w.setCell ⟨b, o + k, none⟩ u) B t (some ⟨b, o, none⟩) (xs.set k u) := by
  rcases h with h | ⟨b', o', cs, hp, hB, hb, hc⟩
  · subst h; simp at hk
  · injection hp with hp
    injection hp with h1 h2
    subst h1 h2
    refine .inr ⟨b, o, cs.set (o + k) u, rfl, hB, hb.set_ _ _, fun j v hj => ?_⟩
    rw [List.getElem?_set] at hj
    rw [List.getElem?_set]
    have hlen := (List.getElem?_eq_some_iff.1 (hc k _ (List.getElem?_eq_getElem hk))).1
    by_cases e : k = j
    · subst e
      rw [if_pos rfl] at hj ⊢
      rw [if_pos hk] at hj
      rw [if_pos hlen]
      exact hj
    · rw [if_neg e] at hj
      rw [if_neg (by omega)]
      exact hc j v hj
theorem RdD.at_ {w : World} {B : Nat} {t : TypeId} {p : Option Addr} {xs : List Value} (h : RdD w B t p xs) {k : Nat} (hk : k < xs.length) : ∃ b o cs, p = some ⟨b, o, none⟩ ∧ B ≤ b ∧ Blk w b t cs ∧ w.cell? ⟨b, o + k, none⟩ = some xs[k] ∧ w.frozen? ⟨b, o + k, none⟩ = false := by
  rcases h with h | ⟨b, o, cs, hp, hB, hb, hc⟩
  · subst h; simp at hk
  · exact ⟨b, o, cs, hp, hB.1, hb, by rw [hb.cell]; exact hc k _ (List.getElem?_eq_getElem hk), hb.free _⟩

set_option maxRecDepth 100000 in
theorem call_gen (w : World) (op : Int) (key oth item : ByteArray) (qty : Int) (dq : Option Addr) (dn dc : Nat) (c : PC) (h : CR (RdW w w.heap.size) op key oth item qty dq dn dc c) (hok : c.ok) :
    Calls Try.prog 39 #[.agg #[.int .i64 op, .string key, .string oth, .string item, .int .i64 qty, .slice dq dn dc]] w fun e w' => ∃ q m, e = .returned (.agg #[.int .i64 op, .string key, .string oth, .string item, .int .i64 qty, .slice q dn m]) ∧ CR (RdD w' w.heap.size) op key oth item qty q dn m c ∧ Below w.heap.size w w' := by
  have HC := Lib.hid (fun (w' : World) (hb : Below w.heap.size w w') => clone41_any dq dn dc (bys c.data) w' (Rd.kept h.rd hb) (by rw [bys_len, h.len, Nat.mul_one]) (bys_one _) (by have := h.len; have : c.data.length ≤ 100 := hok; omega))
  have HH := Lib.hid h
  clear h
  go_enter Try.func39, Try.ntmps39
  go_upto_region 1 with fail
  have HA := Lib.hid (show Blk ((w.alloc (.cells #[.int .i64 op, .string key, .string oth, .string item, .int .i64 qty, .slice dq dn dc] 39)).alloc (.cells #[.int .i64 0, .string ⟨#[]⟩, .string ⟨#[]⟩, .string ⟨#[]⟩, .int .i64 0, .slice none 0 0] 39)) w.heap.size 39 [.int .i64 op, .string key, .string oth, .string item, .int .i64 qty, .slice dq dn dc] from (Blk.new w 39 _).alloc _)
  have HZ := Lib.hid (show Blk ((w.alloc (.cells #[.int .i64 op, .string key, .string oth, .string item, .int .i64 qty, .slice dq dn dc] 39)).alloc (.cells #[.int .i64 0, .string ⟨#[]⟩, .string ⟨#[]⟩, .string ⟨#[]⟩, .int .i64 0, .slice none 0 0] 39)) (w.heap.size + 1) 39 [.int .i64 0, .string ⟨#[]⟩, .string ⟨#[]⟩, .string ⟨#[]⟩, .int .i64 0, .slice none 0 0] from Blk.new' _ 39 _ (by simp))
  have HB := Lib.hid (below_al (below_al (Below.refl w.heap.size w) (.cells #[.int .i64 op, .string key, .string oth, .string item, .int .i64 qty, .slice dq dn dc] 39)) (.cells #[.int .i64 0, .string ⟨#[]⟩, .string ⟨#[]⟩, .string ⟨#[]⟩, .int .i64 0, .slice none 0 0] 39))
  have HZE := Lib.hid (Nat.le_refl w.heap.size)
  generalize (w.alloc (.cells #[.int .i64 op, .string key, .string oth, .string item, .int .i64 qty, .slice dq dn dc] 39)).alloc (.cells #[.int .i64 0, .string ⟨#[]⟩, .string ⟨#[]⟩, .string ⟨#[]⟩, .int .i64 0, .slice none 0 0] 39) = wa at *
  obtain ⟨z, hz⟩ : ∃ z, w.heap.size = z := ⟨_, rfl⟩
  obtain ⟨bs, hbs⟩ : ∃ bs, bs = w.heap.size := ⟨_, rfl⟩
  rw [hz] at HA HZ ⊢
  replace HZE := Lib.hid (show w.heap.size ≤ z by omega)
  have HBS := Lib.hid hbs
  have HBZ := Lib.hid (show z = bs by omega)
  clear hz hbs
  have b5 := HA.out.got 5 _ rfl
  go_wp2_with fail
  refine (HC.out _ (by first | exact HB.out | exact HB.out.drew)).mono ?_
  rintro e w1 ⟨q, m, rfl, hm, hown, hb1⟩
  have HM := Lib.hid hm
  have HOWN := Lib.hid hown
  have HA1 := Lib.hid (HA.out.kept hb1)
  have HZ1 := Lib.hid (HZ.out.kept hb1)
  have HB1 := Lib.hid (HB.out.trans (hb1.mono HB.out.size))
  have HSZ := Lib.hid HA.out.lt
  have HSZ1 := Lib.hid HZ.out.lt
  clear hm hown hb1 b5
  have c0 := HA1.out.got 0 _ rfl
  have c1 := HA1.out.got 1 _ rfl
  have c2 := HA1.out.got 2 _ rfl
  have c3 := HA1.out.got 3 _ rfl
  have c4 := HA1.out.got 4 _ rfl
  have c5 := HA1.out.got 5 _ rfl
  have g0 := HA1.out.free 0
  have g1 := HA1.out.free 1
  have g2 := HA1.out.free 2
  have g3 := HA1.out.free 3
  have g4 := HA1.out.free 4
  have g5 := HA1.out.free 5
  have z0 := HZ1.out.got 0 _ rfl
  have z1 := HZ1.out.got 1 _ rfl
  have z2 := HZ1.out.got 2 _ rfl
  have z3 := HZ1.out.got 3 _ rfl
  have z4 := HZ1.out.got 4 _ rfl
  have z5 := HZ1.out.got 5 _ rfl
  have y0 := HZ1.out.free 0
  have y1 := HZ1.out.free 1
  have y2 := HZ1.out.free 2
  have y3 := HZ1.out.free 3
  have y4 := HZ1.out.free 4
  have y5 := HZ1.out.free 5
  go_wp2_with fail
  try simp only [Exit.inBlock, Exit.then]
  have hT := (((((((HZ1.out.far (p := ⟨z, 5, none⟩) (by simp) (.slice q dn m)).set_ 0 (.int .i64 op)).set_ 1 (.string key)).set_ 2 (.string oth)).set_ 3 (.string item)).set_ 4 (.int .i64 qty)).set_ 5 (.slice q dn m))
  have hF := ((((((((Fr.refl (fun x => x = z ∨ x = z + 1) w1).set ⟨z, 5, none⟩ (.slice q dn m) (.inl (.inl rfl))).set ⟨z + 1, 0, none⟩ (.int .i64 op) (.inl (.inr rfl))).set ⟨z + 1, 1, none⟩ (.string key) (.inl (.inr rfl))).set ⟨z + 1, 2, none⟩ (.string oth) (.inl (.inr rfl))).set ⟨z + 1, 3, none⟩ (.string item) (.inl (.inr rfl))).set ⟨z + 1, 4, none⟩ (.int .i64 qty) (.inl (.inr rfl))).set ⟨z + 1, 5, none⟩ (.slice q dn m) (.inl (.inr rfl)))
  have hT2 : Blk _ (z + 1) 39 [.int .i64 op, .string key, .string oth, .string item, .int .i64 qty, .slice q dn m] := hT
  refine bodyPost_ret (results_cell_row rfl _ _ (z + 1) 39 _ (0, 0) _ (by rfl) hT2 Try.underlying39 (by rfl) (by kernel_rfl)) rfl ?_
  refine ⟨q, m, rfl, ⟨HH.out.op, HH.out.key, HH.out.oth, HH.out.item, HH.out.qty, HH.out.len, HM.out, ?_⟩, Fr.below HB1.out hF (fun x hx => by have := HZE.out; omega)⟩
  have h1 := own_fr HOWN.out hF (fun c hc => by have := own_lt HOWN.out c hc; have := HSZ1.out; omega)
  refine (RdD.of_own (n := dn) (c := m) h1).low ?_
  have := HSZ.out; have := HBZ.out; have := HZE.out; omega

/-- Behind the copies of the two lists. -/
structure AnsA (w wx : World) (bs z : Nat) (op err cnt : Int) (ln bn : Nat) (lns hds : List Value) (lq' : Option Addr) (lc' : Nat) (bq' : Option Addr) (bc' : Nat) : Prop where
  bz : Blk wx z 36 [.int .i64 op, .int .i64 err, .int .i64 cnt, .slice lq' ln lc', .slice bq' bn bc']
  bzz : Blk wx (z + 1) 36 [.int .i64 0, .int .i64 0, .int .i64 0, .slice none 0 0, .slice none 0 0]
  b : Below w.heap.size w wx
  lc : ln ≤ lc'
  bc : bn ≤ bc'
  ls : RdD wx bs 43 lq' lns
  hs : RdD wx bs 37 bq' hds
theorem ans_first {w w2 : World} {bs z : Nat} {op err cnt : Int} {ln bn lc bc : Nat} {ls hs : List Value} {lq bq lq' : Option Addr} {lc' : Nat} {bq' : Option Addr} {bc' : Nat} {b1 : Nat}
    (HA : Blk w2 z 36 [.int .i64 op, .int .i64 err, .int .i64 cnt, .slice lq ln lc, .slice bq bn bc]) (HZ : Blk w2 (z + 1) 36 [.int .i64 0, .int .i64 0, .int .i64 0, .slice none 0 0, .slice none 0 0]) (HB : Below w.heap.size w w2) (hlc : ln ≤ lc') (hbc : bn ≤ bc') (hz : w.heap.size ≤ z) (hbs : bs = w.heap.size)
    (h1 : w2.ownsRow b1 43 2 (.slice lq' ln lc') ln ls) (h2 : w2.ownsRow b1 37 1 (.slice bq' bn bc') bn hs) (hb1 : z < b1) :
    AnsA w (((w2.setCell ⟨z, 3, none⟩ (.slice lq' ln lc')).setCell ⟨z, 4, none⟩ (.slice bq' bn bc'))) bs z op err cnt ln bn ls hs lq' lc' bq' bc' := by
  have hF := (((Fr.refl (fun x => x = z) w2).set ⟨z, 3, none⟩ (.slice lq' ln lc') (.inl rfl)).set ⟨z, 4, none⟩ (.slice bq' bn bc') (.inl rfl))
  have h1' := own_fr h1 hF (fun c hc => by have := own_lt h1 c hc; omega)
  have h2' := own_fr h2 hF (fun c hc => by have := own_lt h2 c hc; omega)
  exact ⟨(HA.set_ 3 (.slice lq' ln lc')).set_ 4 (.slice bq' bn bc'), (HZ.far (p := ⟨z, 3, none⟩) (by simp) _).far (p := ⟨z, 4, none⟩) (by simp) _, Fr.below HB hF (fun x hx => by omega), hlc, hbc, (RdD.of_own (n := ln) (c := lc') h1').low (by omega), (RdD.of_own (n := bn) (c := bc') h2').low (by omega)⟩
/-- Before round k. -/
structure AnsB (w wx : World) (bs z : Nat) (op err cnt : Int) (ln bn : Nat) (a : PA) (lq' : Option Addr) (lc' : Nat) (bq' : Option Addr) (bc' : Nat) (k : Nat) : Prop where
  bz : Blk wx z 36 [.int .i64 op, .int .i64 err, .int .i64 cnt, .slice lq' ln lc', .slice bq' bn bc']
  bzz : Blk wx (z + 1) 36 [.int .i64 0, .int .i64 0, .int .i64 0, .slice none 0 0, .slice none 0 0]
  b : Below w.heap.size w wx
  lc : ln ≤ lc'
  bc : bn ≤ bc'
  ls : RdD wx bs 43 lq' (lns a.lines)
  hs : ∃ hs : List Hd, hs.length = a.bats.length ∧ RdD wx bs 37 bq' (hds hs) ∧ ∀ (i : Nat) (h : Hd) (b : List Int), hs[i]? = some h → a.bats[i]? = some b → h.n = b.length ∧ h.n ≤ h.c ∧ (i < k → RdD wx bs 5 h.q (bys b)) ∧ (k ≤ i → Rd w w.heap.size h.q (bys b))
theorem AnsA.b_ {w wx : World} {bs z : Nat} {op err cnt : Int} {ln bn : Nat} {a : PA} {lq' : Option Addr} {lc' : Nat} {bq' : Option Addr} {bc' : Nat} {hs : List Hd} (h : AnsA w wx bs z op err cnt ln bn (lns a.lines) (hds hs) lq' lc' bq' bc')
    (hl : hs.length = a.bats.length) (hr : ∀ (i : Nat) (h : Hd) (b : List Int), hs[i]? = some h → a.bats[i]? = some b → h.n = b.length ∧ h.n ≤ h.c ∧ Rd w w.heap.size h.q (bys b)) : AnsB w wx bs z op err cnt ln bn a lq' lc' bq' bc' 0 :=
  ⟨h.bz, h.bzz, h.b, h.lc, h.bc, h.ls, hs, hl, h.hs, fun i x b hx hb => ⟨(hr i x b hx hb).1, (hr i x b hx hb).2.1, fun hi => absurd hi (by omega), fun _ => (hr i x b hx hb).2.2⟩⟩
theorem AnsB.step {w wx w1 : World} {bs z : Nat} {op err cnt : Int} {ln bn : Nat} {a : PA} {lq' : Option Addr} {lc' : Nat} {b o : Nat} {bc' k : Nat} {n m : Nat} {q : Option Addr} {bt : List Int}
    (h : AnsB w wx bs z op err cnt ln bn a lq' lc' (some ⟨b, o, none⟩) bc' k) (hbs : bs = w.heap.size) (hb : Below wx.heap.size wx w1) (hbt : a.bats[k]? = some bt) (hn : n = bt.length) (hm : n ≤ m) (hown : w1.ownsRow wx.heap.size 5 1 (.slice q n m) n (bys bt)) :
    AnsB w (w1.setCell ⟨b, o + k, none⟩ (.slice q n m)) bs z op err cnt ln bn a lq' lc' (some ⟨b, o, none⟩) bc' (k + 1) := by
  obtain ⟨hz, hzz, hB, hlc, hbc, hls, hs, hl, hh, hr⟩ := h
  have hk : k < (hds hs).length := by rw [hds_len, hl]; exact (List.getElem?_eq_some_iff.1 hbt).1
  have hh1 := hh.kept hb
  obtain ⟨b', o', cs, hp, hB', hblk, -, -⟩ := hh1.at_ hk
  injection hp with hp
  injection hp with e1 e2
  subst e1 e2
  have hzne : z ≠ b := by
    intro e; subst e
    have h1 := hz.kept hb
    unfold Blk at h1 hblk
    rw [h1] at hblk
    injection hblk with hblk
    injection hblk with _ h2
    cases h2
  have hzne2 : z + 1 ≠ b := by
    intro e; subst e
    have h1 := hzz.kept hb
    unfold Blk at h1 hblk
    rw [h1] at hblk
    injection hblk with hblk
    injection hblk with _ h2
    cases h2
  have hF := (Fr.refl (fun x => x = b) w1).set ⟨b, o + k, none⟩ (.slice q n m) (.inl rfl)
  have hsz : w.heap.size ≤ wx.heap.size := hB.size
  refine ⟨(hz.kept hb).far (p := ⟨b, o + k, none⟩) hzne _, (hzz.kept hb).far (p := ⟨b, o + k, none⟩) hzne2 _, ?_, hlc, hbc, (hls.kept hb).far hblk (by decide) _, hs.set k ⟨q, n, m⟩, by rw [List.length_set]; exact hl, ?_, ?_⟩
  · have h1 := hB.trans (hb.mono hB.size)
    exact Fr.below h1 hF (fun x hx => by have hx : x = b := hx; omega)
  · have := hh1.set_ k hk (.slice q n m)
    rw [show (hds hs).set k (.slice q n m) = hds (hs.set k ⟨q, n, m⟩) by simp [hds, List.map_set, Hd.val]] at this
    exact this
  · intro i x bb hx hbb
    rw [List.getElem?_set] at hx
    by_cases e : k = i
    · subst e
      rw [if_pos rfl, if_pos (by rw [hds_len] at hk; exact hk)] at hx
      injection hx with hx
      subst hx
      rw [hbt] at hbb
      injection hbb with hbb
      subst hbb
      exact ⟨hn, hm, fun _ => ((RdD.of_own (n := n) (c := m) hown).low (by omega)).far hblk (by decide) _, fun hi => absurd hi (by omega)⟩
    · rw [if_neg e] at hx
      obtain ⟨h1, h2, h3, h4⟩ := hr i x bb hx hbb
      exact ⟨h1, h2, fun hi => ((h3 (by omega)).kept hb).far hblk (by decide) _, fun hi => h4 (by omega)⟩
theorem AnsB.drew_ {w wx : World} {bs z : Nat} {op err cnt : Int} {ln bn : Nat} {a : PA} {lq' : Option Addr} {lc' : Nat} {bq' : Option Addr} {bc' : Nat} {k : Nat} (h : AnsB w wx bs z op err cnt ln bn a lq' lc' bq' bc' k) : AnsB w wx.drew bs z op err cnt ln bn a lq' lc' bq' bc' k := by
  obtain ⟨hz, hzz, hB, hlc, hbc, hls, hs, hl, hh, hr⟩ := h
  exact ⟨hz, hzz, hB.drew, hlc, hbc, hls.same rfl, hs, hl, hh.same rfl, fun i x b hx hb => ⟨(hr i x b hx hb).1, (hr i x b hx hb).2.1, fun hi => ((hr i x b hx hb).2.2.1 hi).same rfl, (hr i x b hx hb).2.2.2⟩⟩
set_option maxRecDepth 100000 in
theorem answer_gen (w : World) (op err cnt : Int) (lq : Option Addr) (ln lc : Nat) (bq : Option Addr) (bn bc : Nat) (a : PA) (h : AR (RdW w w.heap.size) op err cnt lq ln lc bq bn bc a) (hok : a.ok) :
    Calls Try.prog 40 #[.agg #[.int .i64 op, .int .i64 err, .int .i64 cnt, .slice lq ln lc, .slice bq bn bc]] w fun e w' => ∃ lq' lc' bq' bc', e = .returned (.agg #[.int .i64 op, .int .i64 err, .int .i64 cnt, .slice lq' ln lc', .slice bq' bn bc']) ∧ AR (RdD w' w.heap.size) op err cnt lq' ln lc' bq' bn bc' a ∧ Below w.heap.size w w' := by
  obtain ⟨hs, hl, hh, hr⟩ := h.bats
  have HC := Lib.hid (fun (w' : World) (hb : Below w.heap.size w w') => clone42_any lq ln lc (lns a.lines) w' (Rd.kept h.rd hb) (by rw [lns_len, h.len]) (lns_one _) (by have := h.len; have := hok.1; omega))
  have HD := Lib.hid (fun (w' : World) (hb : Below w.heap.size w w') => clone43_any bq bn bc (hds hs) w' (Rd.kept hh hb) (by rw [hds_len, h.blen, hl, Nat.mul_one]) (hds_one _) (by have := h.blen; have := hok.2.1; omega))
  have HL := Lib.hid hl
  have HR := Lib.hid hr
  have HH := Lib.hid h
  have HOK := Lib.hid hok
  have hbn : (bn : Int) ≤ 10 := by have := h.blen; have := hok.2.1; omega
  clear h hl hh hr hok
  go_enter Try.func40, Try.ntmps40
  go_upto_region 1 with fail
  have HA := Lib.hid (show Blk ((w.alloc (.cells #[.int .i64 op, .int .i64 err, .int .i64 cnt, .slice lq ln lc, .slice bq bn bc] 36)).alloc (.cells #[.int .i64 0, .int .i64 0, .int .i64 0, .slice none 0 0, .slice none 0 0] 36)) w.heap.size 36 [.int .i64 op, .int .i64 err, .int .i64 cnt, .slice lq ln lc, .slice bq bn bc] from (Blk.new w 36 _).alloc _)
  have HZ := Lib.hid (show Blk ((w.alloc (.cells #[.int .i64 op, .int .i64 err, .int .i64 cnt, .slice lq ln lc, .slice bq bn bc] 36)).alloc (.cells #[.int .i64 0, .int .i64 0, .int .i64 0, .slice none 0 0, .slice none 0 0] 36)) (w.heap.size + 1) 36 [.int .i64 0, .int .i64 0, .int .i64 0, .slice none 0 0, .slice none 0 0] from Blk.new' _ 36 _ (by simp))
  have HB := Lib.hid (below_al (below_al (Below.refl w.heap.size w) (.cells #[.int .i64 op, .int .i64 err, .int .i64 cnt, .slice lq ln lc, .slice bq bn bc] 36)) (.cells #[.int .i64 0, .int .i64 0, .int .i64 0, .slice none 0 0, .slice none 0 0] 36))
  have HZE := Lib.hid (Nat.le_refl w.heap.size)
  generalize (w.alloc (.cells #[.int .i64 op, .int .i64 err, .int .i64 cnt, .slice lq ln lc, .slice bq bn bc] 36)).alloc (.cells #[.int .i64 0, .int .i64 0, .int .i64 0, .slice none 0 0, .slice none 0 0] 36) = wa at *
  obtain ⟨z, hz⟩ : ∃ z, w.heap.size = z := ⟨_, rfl⟩
  obtain ⟨bs, hbs⟩ : ∃ bs, bs = w.heap.size := ⟨_, rfl⟩
  rw [hz] at HA HZ ⊢
  replace HZE := Lib.hid (show w.heap.size ≤ z by omega)
  have HBS := Lib.hid hbs
  have HBZ := Lib.hid (show z = bs by omega)
  clear hz hbs
  have b3 := HA.out.got 3 _ rfl
  have b4 := HA.out.got 4 _ rfl
  go_cut [] (fun wx => ∃ lq' lc' bq' bc', AnsA w wx bs z op err cnt ln bn (lns a.lines) (hds hs) lq' lc' bq' bc')
  case first =>
    refine wp_region_noPanic ?_
    refine wp_region_held_drew (S := fun _ => True) (by kernel_rfl) (trivial) (fun hHeld => ?_)
    refine wpAnyH_take (i := 0) (oi := ⟨some 5, _, _, _, _, _⟩) (v := ?_) rfl (by kernel_rfl) (by kernel_rfl) (by kernel_rfl) (fun _ _ _ h => h) (Or.inl ⟨by rfl, ?_⟩) hHeld ?_
    rotate_left
    · (intro w hSw; go_simp; try with_reducible rfl)
    try simp only [Act.put, List.setIfInBounds_toArray, List.set_cons_zero, List.set_cons_succ]
    refine wpAnyH_take (i := 3) (oi := ⟨some 8, _, _, _, _, _⟩) (v := ?_) rfl (by kernel_rfl) (by kernel_rfl) (by kernel_rfl) (fun _ _ _ h => h) (Or.inl ⟨by rfl, ?_⟩) hHeld ?_
    rotate_left
    · (intro w hSw; go_simp; try with_reducible rfl)
    try simp only [Act.put, List.setIfInBounds_toArray, List.set_cons_zero, List.set_cons_succ]
    refine wpAnyH_ready (rs := [1, 4]) (by kernel_rfl) (by simp) ?_
    refine (AllReadyH.cons (o := ⟨some 6, _, _, _, _, _⟩) rfl (fun K hK => ?_) (AllReadyH.cons (o := ⟨some 9, _, _, _, _, _⟩) rfl (fun K hK => ?_) AllReadyH.nil))
    · go_simp
      refine hK.out _ _ (trivial) (fun hHeld => ?_)
      clear hK K
      try simp only [Act.put, List.setIfInBounds_toArray, List.set_cons_zero, List.set_cons_succ]
      refine wpAnyH_ready (rs := [2, 4]) (by kernel_rfl) (by simp) ?_
      refine (AllReadyH.cons (o := ⟨some 7, _, _, _, _, _⟩) rfl (fun K hK => ?_) (AllReadyH.cons (o := ⟨some 9, _, _, _, _, _⟩) rfl (fun K hK => ?_) AllReadyH.nil))
      · go_simp
        (refine (HC.out _ (by first | exact HB.out | exact HB.out.drew)).mono ?_; rintro e w1 ⟨lq', lc', rfl, hlc, hown1, hb1⟩)
        replace hb1 : Below wa.heap.size wa w1 := ⟨hb1.os, hb1.tape, hb1.output, hb1.size, hb1.block⟩
        have HLC := Lib.hid hlc
        have HO1 := Lib.hid (show w1.ownsRow wa.heap.size 43 2 (.slice lq' ln lc') ln (lns a.lines) from hown1)
        have hb1' := hb1
        have HSA := Lib.hid (show z + 1 < wa.heap.size from HZ.out.lt)
        have HSA2 := Lib.hid (show wa.heap.size ≤ w1.heap.size from hb1.size)
        replace HA := Lib.hid (show Blk w1 z 36 _ from HA.out.kept hb1)
        replace HZ := Lib.hid (show Blk w1 (z + 1) 36 _ from HZ.out.kept hb1)
        replace HB := Lib.hid (show Below w.heap.size w w1 from HB.out.trans (hb1.mono HB.out.size))
        have c4 : w1.cell? ⟨z, 4, none⟩ = some (.slice bq bn bc) := HA.out.got 4 _ rfl
        clear hlc hown1 hb1 hb1'
        refine hK.out _ _ (trivial) (fun hHeld => ?_)
        clear hK K
        try simp only [Act.put, List.setIfInBounds_toArray, List.set_cons_zero, List.set_cons_succ]
        refine wpAnyH_ready (rs := [4]) (by kernel_rfl) (by simp) ?_
        refine (AllReadyH.cons (o := ⟨some 9, _, _, _, _, _⟩) rfl (fun K hK => ?_) AllReadyH.nil)
        go_simp
        refine hK.out _ _ (trivial) (fun hHeld => ?_)
        clear hK K
        try simp only [Act.put, List.setIfInBounds_toArray, List.set_cons_zero, List.set_cons_succ]
        refine wpAnyH_take (i := 6) (oi := ⟨some 11, _, _, _, _, _⟩) (v := ?_) rfl (by kernel_rfl) (by kernel_rfl) (by kernel_rfl) (fun _ _ _ h => h) (Or.inl ⟨by rfl, ?_⟩) hHeld ?_
        rotate_left
        · (intro w hSw; go_simp; try with_reducible rfl)
        try simp only [Act.put, List.setIfInBounds_toArray, List.set_cons_zero, List.set_cons_succ]
        refine wpAnyH_ready (rs := [5]) (by kernel_rfl) (by simp) ?_
        refine (AllReadyH.cons (o := ⟨some 10, _, _, _, _, _⟩) rfl (fun K hK => ?_) AllReadyH.nil)
        go_simp
        (refine (HD.out _ (by first | exact HB.out | exact HB.out.drew)).mono ?_; rintro e w2 ⟨bq', bc', rfl, hbc, hown2, hb2⟩)
        replace hb2 : Below w1.heap.size w1 w2 := ⟨hb2.os, hb2.tape, hb2.output, hb2.size, hb2.block⟩
        have HBC := Lib.hid hbc
        have HO2 := Lib.hid (show w2.ownsRow w1.heap.size 37 1 (.slice bq' bn bc') bn (hds hs) from hown2)
        have HO1' := Lib.hid (own_fr HO1.out (Fr.of_below (w' := w2) hb2 (fun _ => False)) (fun _ _ h => h))
        have HSB := Lib.hid (show w1.heap.size ≤ w2.heap.size from hb2.size)
        replace HA := Lib.hid (show Blk w2 z 36 _ from HA.out.kept hb2)
        replace HZ := Lib.hid (show Blk w2 (z + 1) 36 _ from HZ.out.kept hb2)
        replace HB := Lib.hid (show Below w.heap.size w w2 from HB.out.trans (hb2.mono HB.out.size))
        have hf3 : w2.frozen? ⟨z, 3, none⟩ = false := HA.out.free 3
        have hc3 : w2.cell? ⟨z, 3, none⟩ = some (.slice lq ln lc) := HA.out.got 3 _ rfl
        have hf4 : w2.frozen? ⟨z, 4, none⟩ = false := HA.out.free 4
        have hc4 : w2.cell? ⟨z, 4, none⟩ = some (.slice bq bn bc) := HA.out.got 4 _ rfl
        clear hbc hown2 hb2
        refine hK.out _ _ (trivial) (fun hHeld => ?_)
        clear hK K
        try simp only [Act.put, List.setIfInBounds_toArray, List.set_cons_zero, List.set_cons_succ]
        refine wpAnyH_ready (rs := [7]) (by kernel_rfl) (by simp) ?_
        refine (AllReadyH.cons (o := ⟨none, _, _, _, _, _⟩) rfl (fun K hK => ?_) AllReadyH.nil)
        go_simp
        refine hK.out _ _ (trivial) (fun hHeld => ?_)
        clear hK K
        try simp only [Act.put, List.setIfInBounds_toArray, List.set_cons_zero, List.set_cons_succ]
        refine wpAnyH_take (i := 8) (oi := ⟨some 12, _, _, _, _, _⟩) (v := ?_) rfl (by kernel_rfl) (by kernel_rfl) (by kernel_rfl) (fun _ _ _ h => h) (Or.inl ⟨by rfl, ?_⟩) hHeld ?_
        rotate_left
        · (intro w hSw; go_simp; try with_reducible rfl)
        try simp only [Act.put, List.setIfInBounds_toArray, List.set_cons_zero, List.set_cons_succ]
        refine wpAnyH_ready (rs := [9]) (by kernel_rfl) (by simp) ?_
        refine (AllReadyH.cons (o := ⟨none, _, _, _, _, _⟩) rfl (fun K hK => ?_) AllReadyH.nil)
        go_simp
        refine hK.out _ _ (trivial) (fun hHeld => ?_)
        clear hK K
        try simp only [Act.put, List.setIfInBounds_toArray, List.set_cons_zero, List.set_cons_succ]
        refine wpAnyH_done (by kernel_rfl) ?_ _
        refine NoPanic.normal ?_
        clear hHeld
        go_wp2_with fail
        go_meet
        as_aux_lemma =>
          have hF := ((Fr.refl (fun x => x = z) w2).set ⟨z, 3, none⟩ (.slice lq' ln lc') (.inl rfl)).set ⟨z, 4, none⟩ (.slice bq' bn bc') (.inl rfl)
          exact ⟨lq', lc', bq', bc', ans_first HA.out HZ.out HB.out HLC.out HBC.out HZE.out HBS.out (own_mono (base' := wa.heap.size) HO1'.out (by have := HSA.out; have := HSA2.out; have := HSB.out; omega)) (own_mono (base' := wa.heap.size) HO2.out (by have := HSA.out; have := HSA2.out; have := HSB.out; omega)) (by have := HSA.out; have := HSA2.out; have := HSB.out; omega) ⟩
      · go_simp
        refine hK.out _ _ (trivial) (fun hHeld => ?_)
        clear hK K
        try simp only [Act.put, List.setIfInBounds_toArray, List.set_cons_zero, List.set_cons_succ]
        refine wpAnyH_ready (rs := [2]) (by kernel_rfl) (by simp) ?_
        refine (AllReadyH.cons (o := ⟨some 7, _, _, _, _, _⟩) rfl (fun K hK => ?_) AllReadyH.nil)
        go_simp
        (refine (HC.out _ (by first | exact HB.out | exact HB.out.drew)).mono ?_; rintro e w1 ⟨lq', lc', rfl, hlc, hown1, hb1⟩)
        replace hb1 : Below wa.heap.size wa w1 := ⟨hb1.os, hb1.tape, hb1.output, hb1.size, hb1.block⟩
        have HLC := Lib.hid hlc
        have HO1 := Lib.hid (show w1.ownsRow wa.heap.size 43 2 (.slice lq' ln lc') ln (lns a.lines) from hown1)
        have hb1' := hb1
        have HSA := Lib.hid (show z + 1 < wa.heap.size from HZ.out.lt)
        have HSA2 := Lib.hid (show wa.heap.size ≤ w1.heap.size from hb1.size)
        replace HA := Lib.hid (show Blk w1 z 36 _ from HA.out.kept hb1)
        replace HZ := Lib.hid (show Blk w1 (z + 1) 36 _ from HZ.out.kept hb1)
        replace HB := Lib.hid (show Below w.heap.size w w1 from HB.out.trans (hb1.mono HB.out.size))
        have c4 : w1.cell? ⟨z, 4, none⟩ = some (.slice bq bn bc) := HA.out.got 4 _ rfl
        clear hlc hown1 hb1 hb1'
        refine hK.out _ _ (trivial) (fun hHeld => ?_)
        clear hK K
        try simp only [Act.put, List.setIfInBounds_toArray, List.set_cons_zero, List.set_cons_succ]
        refine wpAnyH_take (i := 6) (oi := ⟨some 11, _, _, _, _, _⟩) (v := ?_) rfl (by kernel_rfl) (by kernel_rfl) (by kernel_rfl) (fun _ _ _ h => h) (Or.inl ⟨by rfl, ?_⟩) hHeld ?_
        rotate_left
        · (intro w hSw; go_simp; try with_reducible rfl)
        try simp only [Act.put, List.setIfInBounds_toArray, List.set_cons_zero, List.set_cons_succ]
        refine wpAnyH_ready (rs := [5]) (by kernel_rfl) (by simp) ?_
        refine (AllReadyH.cons (o := ⟨some 10, _, _, _, _, _⟩) rfl (fun K hK => ?_) AllReadyH.nil)
        go_simp
        (refine (HD.out _ (by first | exact HB.out | exact HB.out.drew)).mono ?_; rintro e w2 ⟨bq', bc', rfl, hbc, hown2, hb2⟩)
        replace hb2 : Below w1.heap.size w1 w2 := ⟨hb2.os, hb2.tape, hb2.output, hb2.size, hb2.block⟩
        have HBC := Lib.hid hbc
        have HO2 := Lib.hid (show w2.ownsRow w1.heap.size 37 1 (.slice bq' bn bc') bn (hds hs) from hown2)
        have HO1' := Lib.hid (own_fr HO1.out (Fr.of_below (w' := w2) hb2 (fun _ => False)) (fun _ _ h => h))
        have HSB := Lib.hid (show w1.heap.size ≤ w2.heap.size from hb2.size)
        replace HA := Lib.hid (show Blk w2 z 36 _ from HA.out.kept hb2)
        replace HZ := Lib.hid (show Blk w2 (z + 1) 36 _ from HZ.out.kept hb2)
        replace HB := Lib.hid (show Below w.heap.size w w2 from HB.out.trans (hb2.mono HB.out.size))
        have hf3 : w2.frozen? ⟨z, 3, none⟩ = false := HA.out.free 3
        have hc3 : w2.cell? ⟨z, 3, none⟩ = some (.slice lq ln lc) := HA.out.got 3 _ rfl
        have hf4 : w2.frozen? ⟨z, 4, none⟩ = false := HA.out.free 4
        have hc4 : w2.cell? ⟨z, 4, none⟩ = some (.slice bq bn bc) := HA.out.got 4 _ rfl
        clear hbc hown2 hb2
        refine hK.out _ _ (trivial) (fun hHeld => ?_)
        clear hK K
        try simp only [Act.put, List.setIfInBounds_toArray, List.set_cons_zero, List.set_cons_succ]
        refine wpAnyH_ready (rs := [7]) (by kernel_rfl) (by simp) ?_
        refine (AllReadyH.cons (o := ⟨none, _, _, _, _, _⟩) rfl (fun K hK => ?_) AllReadyH.nil)
        go_simp
        refine hK.out _ _ (trivial) (fun hHeld => ?_)
        clear hK K
        try simp only [Act.put, List.setIfInBounds_toArray, List.set_cons_zero, List.set_cons_succ]
        refine wpAnyH_take (i := 8) (oi := ⟨some 12, _, _, _, _, _⟩) (v := ?_) rfl (by kernel_rfl) (by kernel_rfl) (by kernel_rfl) (fun _ _ _ h => h) (Or.inl ⟨by rfl, ?_⟩) hHeld ?_
        rotate_left
        · (intro w hSw; go_simp; try with_reducible rfl)
        try simp only [Act.put, List.setIfInBounds_toArray, List.set_cons_zero, List.set_cons_succ]
        refine wpAnyH_ready (rs := [9]) (by kernel_rfl) (by simp) ?_
        refine (AllReadyH.cons (o := ⟨none, _, _, _, _, _⟩) rfl (fun K hK => ?_) AllReadyH.nil)
        go_simp
        refine hK.out _ _ (trivial) (fun hHeld => ?_)
        clear hK K
        try simp only [Act.put, List.setIfInBounds_toArray, List.set_cons_zero, List.set_cons_succ]
        refine wpAnyH_done (by kernel_rfl) ?_ _
        refine NoPanic.normal ?_
        clear hHeld
        go_wp2_with fail
        go_meet
        as_aux_lemma =>
          have hF := ((Fr.refl (fun x => x = z) w2).set ⟨z, 3, none⟩ (.slice lq' ln lc') (.inl rfl)).set ⟨z, 4, none⟩ (.slice bq' bn bc') (.inl rfl)
          exact ⟨lq', lc', bq', bc', ans_first HA.out HZ.out HB.out HLC.out HBC.out HZE.out HBS.out (own_mono (base' := wa.heap.size) HO1'.out (by have := HSA.out; have := HSA2.out; have := HSB.out; omega)) (own_mono (base' := wa.heap.size) HO2.out (by have := HSA.out; have := HSA2.out; have := HSB.out; omega)) (by have := HSA.out; have := HSA2.out; have := HSB.out; omega) ⟩
    · go_simp
      refine hK.out _ _ (trivial) (fun hHeld => ?_)
      clear hK K
      try simp only [Act.put, List.setIfInBounds_toArray, List.set_cons_zero, List.set_cons_succ]
      refine wpAnyH_ready (rs := [1]) (by kernel_rfl) (by simp) ?_
      refine (AllReadyH.cons (o := ⟨some 6, _, _, _, _, _⟩) rfl (fun K hK => ?_) AllReadyH.nil)
      go_simp
      refine hK.out _ _ (trivial) (fun hHeld => ?_)
      clear hK K
      try simp only [Act.put, List.setIfInBounds_toArray, List.set_cons_zero, List.set_cons_succ]
      refine wpAnyH_ready (rs := [2]) (by kernel_rfl) (by simp) ?_
      refine (AllReadyH.cons (o := ⟨some 7, _, _, _, _, _⟩) rfl (fun K hK => ?_) AllReadyH.nil)
      go_simp
      (refine (HC.out _ (by first | exact HB.out | exact HB.out.drew)).mono ?_; rintro e w1 ⟨lq', lc', rfl, hlc, hown1, hb1⟩)
      replace hb1 : Below wa.heap.size wa w1 := ⟨hb1.os, hb1.tape, hb1.output, hb1.size, hb1.block⟩
      have HLC := Lib.hid hlc
      have HO1 := Lib.hid (show w1.ownsRow wa.heap.size 43 2 (.slice lq' ln lc') ln (lns a.lines) from hown1)
      have hb1' := hb1
      have HSA := Lib.hid (show z + 1 < wa.heap.size from HZ.out.lt)
      have HSA2 := Lib.hid (show wa.heap.size ≤ w1.heap.size from hb1.size)
      replace HA := Lib.hid (show Blk w1 z 36 _ from HA.out.kept hb1)
      replace HZ := Lib.hid (show Blk w1 (z + 1) 36 _ from HZ.out.kept hb1)
      replace HB := Lib.hid (show Below w.heap.size w w1 from HB.out.trans (hb1.mono HB.out.size))
      have c4 : w1.cell? ⟨z, 4, none⟩ = some (.slice bq bn bc) := HA.out.got 4 _ rfl
      clear hlc hown1 hb1 hb1'
      refine hK.out _ _ (trivial) (fun hHeld => ?_)
      clear hK K
      try simp only [Act.put, List.setIfInBounds_toArray, List.set_cons_zero, List.set_cons_succ]
      refine wpAnyH_take (i := 6) (oi := ⟨some 11, _, _, _, _, _⟩) (v := ?_) rfl (by kernel_rfl) (by kernel_rfl) (by kernel_rfl) (fun _ _ _ h => h) (Or.inl ⟨by rfl, ?_⟩) hHeld ?_
      rotate_left
      · (intro w hSw; go_simp; try with_reducible rfl)
      try simp only [Act.put, List.setIfInBounds_toArray, List.set_cons_zero, List.set_cons_succ]
      refine wpAnyH_ready (rs := [5]) (by kernel_rfl) (by simp) ?_
      refine (AllReadyH.cons (o := ⟨some 10, _, _, _, _, _⟩) rfl (fun K hK => ?_) AllReadyH.nil)
      go_simp
      (refine (HD.out _ (by first | exact HB.out | exact HB.out.drew)).mono ?_; rintro e w2 ⟨bq', bc', rfl, hbc, hown2, hb2⟩)
      replace hb2 : Below w1.heap.size w1 w2 := ⟨hb2.os, hb2.tape, hb2.output, hb2.size, hb2.block⟩
      have HBC := Lib.hid hbc
      have HO2 := Lib.hid (show w2.ownsRow w1.heap.size 37 1 (.slice bq' bn bc') bn (hds hs) from hown2)
      have HO1' := Lib.hid (own_fr HO1.out (Fr.of_below (w' := w2) hb2 (fun _ => False)) (fun _ _ h => h))
      have HSB := Lib.hid (show w1.heap.size ≤ w2.heap.size from hb2.size)
      replace HA := Lib.hid (show Blk w2 z 36 _ from HA.out.kept hb2)
      replace HZ := Lib.hid (show Blk w2 (z + 1) 36 _ from HZ.out.kept hb2)
      replace HB := Lib.hid (show Below w.heap.size w w2 from HB.out.trans (hb2.mono HB.out.size))
      have hf3 : w2.frozen? ⟨z, 3, none⟩ = false := HA.out.free 3
      have hc3 : w2.cell? ⟨z, 3, none⟩ = some (.slice lq ln lc) := HA.out.got 3 _ rfl
      have hf4 : w2.frozen? ⟨z, 4, none⟩ = false := HA.out.free 4
      have hc4 : w2.cell? ⟨z, 4, none⟩ = some (.slice bq bn bc) := HA.out.got 4 _ rfl
      clear hbc hown2 hb2
      refine hK.out _ _ (trivial) (fun hHeld => ?_)
      clear hK K
      try simp only [Act.put, List.setIfInBounds_toArray, List.set_cons_zero, List.set_cons_succ]
      refine wpAnyH_ready (rs := [7]) (by kernel_rfl) (by simp) ?_
      refine (AllReadyH.cons (o := ⟨none, _, _, _, _, _⟩) rfl (fun K hK => ?_) AllReadyH.nil)
      go_simp
      refine hK.out _ _ (trivial) (fun hHeld => ?_)
      clear hK K
      try simp only [Act.put, List.setIfInBounds_toArray, List.set_cons_zero, List.set_cons_succ]
      refine wpAnyH_take (i := 8) (oi := ⟨some 12, _, _, _, _, _⟩) (v := ?_) rfl (by kernel_rfl) (by kernel_rfl) (by kernel_rfl) (fun _ _ _ h => h) (Or.inl ⟨by rfl, ?_⟩) hHeld ?_
      rotate_left
      · (intro w hSw; go_simp; try with_reducible rfl)
      try simp only [Act.put, List.setIfInBounds_toArray, List.set_cons_zero, List.set_cons_succ]
      refine wpAnyH_ready (rs := [9]) (by kernel_rfl) (by simp) ?_
      refine (AllReadyH.cons (o := ⟨none, _, _, _, _, _⟩) rfl (fun K hK => ?_) AllReadyH.nil)
      go_simp
      refine hK.out _ _ (trivial) (fun hHeld => ?_)
      clear hK K
      try simp only [Act.put, List.setIfInBounds_toArray, List.set_cons_zero, List.set_cons_succ]
      refine wpAnyH_done (by kernel_rfl) ?_ _
      refine NoPanic.normal ?_
      clear hHeld
      go_wp2_with fail
      go_meet
      as_aux_lemma =>
        have hF := ((Fr.refl (fun x => x = z) w2).set ⟨z, 3, none⟩ (.slice lq' ln lc') (.inl rfl)).set ⟨z, 4, none⟩ (.slice bq' bn bc') (.inl rfl)
        exact ⟨lq', lc', bq', bc', ans_first HA.out HZ.out HB.out HLC.out HBC.out HZE.out HBS.out (own_mono (base' := wa.heap.size) HO1'.out (by have := HSA.out; have := HSA2.out; have := HSB.out; omega)) (own_mono (base' := wa.heap.size) HO2.out (by have := HSA.out; have := HSA2.out; have := HSB.out; omega)) (by have := HSA.out; have := HSA2.out; have := HSB.out; omega) ⟩
  case rest =>
    obtain ⟨lq', lc', bq', bc', hcut⟩ := hcut
    have HK0 := Lib.hid (hcut.b_ HL.out HR.out)
    have d4 := hcut.bz.got 4 _ rfl
    have hbc1 := hcut.bc
    clear hcut HA HZ HB b3 b4
    go_wp2_with fail
    go_loopw [16] (fun i wr => ∃ k : Nat, k ≤ bn ∧ i = .int .i64 k ∧ Hid (AnsB w wr bs z op err cnt ln bn a lq' lc' bq' bc' k)) (fun i _ => bn - (intOf i).toNat)
    case atStart => exact ⟨0, Nat.zero_le _, rfl, HK0⟩
    case round =>
      obtain ⟨k, hk, rfl, HK⟩ := hrel
      by_cases hlt : k < bn
      · have hki : (k : Int) < (bn : Int) := by omega
        obtain ⟨hs', hl', hh', hr'⟩ := HK.out.hs
        have hk2 : k < hs'.length := by rw [hl', ← HH.out.blen]; exact hlt
        have hk3 : k < a.bats.length := by rw [← HH.out.blen]; exact hlt
        obtain ⟨b, o, cs, rfl, hB9, hblk, hck8, hfk⟩ := hh'.at_ (k := k) (by rw [hds_len]; exact hk2)
        obtain ⟨x, hx⟩ : ∃ x, hs'[k] = x := ⟨_, rfl⟩
        have hx1 : hs'[k]? = some x := by rw [List.getElem?_eq_getElem hk2, hx]
        have hck : wr.cell? ⟨b, o + k, none⟩ = some x.val := by rw [hck8]; simp [hds, hx]
        obtain ⟨h1, h2, -, h4⟩ := hr' k x _ hx1 (List.getElem?_eq_getElem hk3)
        have HBT := Lib.hid (List.getElem?_eq_getElem hk3)
        obtain ⟨bt, hbt⟩ : ∃ bt, a.bats[k] = bt := ⟨_, rfl⟩
        rw [hbt] at HBT h1 h4
        have hbl : bt.length ≤ 100 := HOK.out.2.2 bt (hbt ▸ List.getElem_mem hk3)
        obtain ⟨q, n, c⟩ := x
        have HNL := Lib.hid h1
        have HNC := Lib.hid h2
        have HE := Lib.hid (fun (w' : World) (hb : Below w.heap.size w w') => clone41_any q n c (bys bt) w' (Rd.kept (h4 (Nat.le_refl _)) hb) (by rw [bys_len, Nat.mul_one]; exact h1.symm) (bys_one _) (by have : n = bt.length := h1; omega))
        have HB := Lib.hid HK.out.b
        have HBL := Lib.hid hblk.lt
        have HZL := Lib.hid HK.out.bz.lt
        have hz4 := HK.out.bz.got 4 _ rfl
        have HZNE : Hid (z ≠ b) := Lib.hid (by
          intro e; subst e
          have h1 := HK.out.bz
          unfold Blk at h1 hblk
          rw [h1] at hblk
          injection hblk with hblk
          injection hblk with _ h2
          cases h2)
        simp only [Hd.val] at hck
        clear hck8 hl' hh' hr' hk2 hk3 hblk hx hx1 h1 h2 h4 hbt hbl hB9
        go_upto_region 5 with fail
        refine wp_region_noPanic ?_
        refine wp_region_held_drew (S := fun w' => w'.cell? ⟨z, 4, none⟩ = some (.slice (some ⟨b, o, none⟩) bn bc')) (by kernel_rfl) (hz4) (fun hHeld => ?_)
        refine wpAnyH_take (i := 0) (oi := ⟨some 21, _, _, _, _, _⟩) (v := ?_) rfl (by kernel_rfl) (by kernel_rfl) (by kernel_rfl) (fun _ _ _ h => h) (Or.inl ⟨by rfl, ?_⟩) hHeld ?_
        rotate_left
        · (intro w hSw; have hSL := hSw; go_simp; try with_reducible rfl)
        try simp only [Act.put, List.setIfInBounds_toArray, List.set_cons_zero, List.set_cons_succ]
        refine wpAnyH_take (i := 1) (oi := ⟨some 22, _, _, _, _, _⟩) (v := ?_) rfl (by kernel_rfl) (by kernel_rfl) (by kernel_rfl) (fun _ _ _ h => h) (Or.inl ⟨by rfl, ?_⟩) hHeld ?_
        rotate_left
        · (intro w hSw; have hSL := hSw; go_simp; try with_reducible rfl)
        try simp only [Act.put, List.setIfInBounds_toArray, List.set_cons_zero, List.set_cons_succ]
        refine wpAnyH_take (i := 2) (oi := ⟨some 23, _, _, _, _, _⟩) (v := ?_) rfl (by kernel_rfl) (by kernel_rfl) (by kernel_rfl) (fun _ _ _ h => h) (Or.inl ⟨by rfl, ?_⟩) hHeld ?_
        rotate_left
        · (intro w hSw; have hSL := hSw; go_simp; try with_reducible rfl)
        try simp only [Act.put, List.setIfInBounds_toArray, List.set_cons_zero, List.set_cons_succ]
        refine wpAnyH_take (i := 3) (oi := ⟨some 24, _, _, _, _, _⟩) (v := ?_) rfl (by kernel_rfl) (by kernel_rfl) (by kernel_rfl) (fun _ _ _ h => h) (Or.inl ⟨by rfl, ?_⟩) hHeld ?_
        rotate_left
        · (intro w hSw; have hSL := hSw; go_simp; try with_reducible rfl)
        try simp only [Act.put, List.setIfInBounds_toArray, List.set_cons_zero, List.set_cons_succ]
        refine wpAnyH_ready (rs := [4]) (by kernel_rfl) (by simp) ?_
        refine (AllReadyH.cons (o := ⟨some 25, _, _, _, _, _⟩) rfl (fun K hK => ?_) AllReadyH.nil)
        go_simp
        (refine (HE.out _ (by first | exact HB.out | exact HB.out.drew)).mono ?_; rintro e w1 ⟨q1, m1, rfl, hm1, hown1, hb1⟩)
        replace hb1 : Below wr.heap.size wr w1 := ⟨hb1.os, hb1.tape, hb1.output, hb1.size, hb1.block⟩
        have HO1 := Lib.hid hown1
        have HM1 := Lib.hid hm1
        have HB1 := Lib.hid (show Below wr.heap.size wr w1 from hb1)
        have hf9 : w1.frozen? ⟨b, o + k, none⟩ = false := by rw [HB1.out.frozen (p := ⟨b, o + k, none⟩) HBL.out]; exact hfk
        have hc9 : w1.cell? ⟨b, o + k, none⟩ = some (.slice q n c) := (HB1.out.cell (p := ⟨b, o + k, none⟩) HBL.out).trans hck
        have hz9 : w1.cell? ⟨z, 4, none⟩ = some (.slice (some ⟨b, o, none⟩) bn bc') := (HB1.out.cell (p := ⟨z, 4, none⟩) HZL.out).trans hz4
        clear hown1 hm1 hb1
        refine hK.out _ _ (hz9) (fun hHeld => ?_)
        clear hK K
        try simp only [Act.put, List.setIfInBounds_toArray, List.set_cons_zero, List.set_cons_succ]
        refine wpAnyH_take (i := 5) (oi := ⟨some 26, _, _, _, _, _⟩) (v := ?_) rfl (by kernel_rfl) (by kernel_rfl) (by kernel_rfl) (fun _ _ _ h => h) (Or.inl ⟨by rfl, ?_⟩) hHeld ?_
        rotate_left
        · (intro w hSw; have hSL := hSw; go_simp; try with_reducible rfl)
        try simp only [Act.put, List.setIfInBounds_toArray, List.set_cons_zero, List.set_cons_succ]
        refine wpAnyH_ready (rs := [6]) (by kernel_rfl) (by simp) ?_
        refine (AllReadyH.cons (o := ⟨none, _, _, _, _, _⟩) rfl (fun K hK => ?_) AllReadyH.nil)
        go_simp
        refine hK.out _ _ (((HK.out.bz.kept HB1.out).far (p := ⟨b, o + k, none⟩) HZNE.out _).got 4 _ rfl) (fun hHeld => ?_)
        clear hK K
        try simp only [Act.put, List.setIfInBounds_toArray, List.set_cons_zero, List.set_cons_succ]
        refine wpAnyH_done (by kernel_rfl) ?_ _
        refine NoPanic.normal ?_
        clear hHeld
        go_wp2_with fail
        go_roundw
        case rel => exact ⟨k + 1, by omega, by go_num, Lib.hid (HK.out.step HBS.out HB1.out HBT.out HNL.out HM1.out HO1.out)⟩
        case measure => simp [intOf]; omega
      · have hkn : k = bn := by omega
        subst hkn
        have HK9 := HK
        have a0 := HK.out.bz.got 0 _ rfl
        have a1 := HK.out.bz.got 1 _ rfl
        have a2 := HK.out.bz.got 2 _ rfl
        have a3 := HK.out.bz.got 3 _ rfl
        have a4 := HK.out.bz.got 4 _ rfl
        have z0 := HK.out.bzz.got 0 _ rfl
        have z1 := HK.out.bzz.got 1 _ rfl
        have z2 := HK.out.bzz.got 2 _ rfl
        have z3 := HK.out.bzz.got 3 _ rfl
        have z4 := HK.out.bzz.got 4 _ rfl
        have y0 := HK.out.bzz.free 0
        have y1 := HK.out.bzz.free 1
        have y2 := HK.out.bzz.free 2
        have y3 := HK.out.bzz.free 3
        have y4 := HK.out.bzz.free 4
        go_wp2_with fail
        try simp only [Exit.inBlock, Exit.then]
        have hT := ((((HK.out.bzz.set_ 0 (.int .i64 op)).set_ 1 (.int .i64 err)).set_ 2 (.int .i64 cnt)).set_ 3 (.slice lq' ln lc')).set_ 4 (.slice bq' k bc')
        have hF := (((((Fr.refl (fun x => x = z + 1) wr).set ⟨z + 1, 0, none⟩ (.int .i64 op) (.inl rfl)).set ⟨z + 1, 1, none⟩ (.int .i64 err) (.inl rfl)).set ⟨z + 1, 2, none⟩ (.int .i64 cnt) (.inl rfl)).set ⟨z + 1, 3, none⟩ (.slice lq' ln lc') (.inl rfl)).set ⟨z + 1, 4, none⟩ (.slice bq' k bc') (.inl rfl)
        have hT2 : Blk _ (z + 1) 36 [.int .i64 op, .int .i64 err, .int .i64 cnt, .slice lq' ln lc', .slice bq' k bc'] := hT
        refine bodyPost_ret (results_cell_row rfl _ _ (z + 1) 36 _ (0, 0) _ (by rfl) hT2 Try.underlying36 (by rfl) (by kernel_rfl)) rfl ?_
        obtain ⟨hs', hl', hh', hr'⟩ := HK.out.hs
        have hzz := HK.out.bzz
        refine ⟨lq', lc', bq', bc', rfl, ⟨HH.out.op, HH.out.err, HH.out.cnt, HH.out.len, HK.out.lc, (HK.out.ls.fr hzz (by decide) hF).low (by have := HBZ.out; have := HBS.out; have := HZE.out; omega), HH.out.blen, HK.out.bc, hs', hl', (hh'.fr hzz (by decide) hF).low (by have := HBZ.out; have := HBS.out; have := HZE.out; omega), fun i x b hx hb => ?_⟩, Fr.below HK.out.b hF (fun x hx => by have := HZE.out; omega)⟩
        obtain ⟨h1, h2, h3, -⟩ := hr' i x b hx hb
        have hi : i < k := by rw [HH.out.blen]; exact (List.getElem?_eq_some_iff.1 hb).1
        exact ⟨h1, h2, ((h3 hi).fr hzz (by decide) hF).low (by have := HBZ.out; have := HBS.out; have := HZE.out; omega)⟩
end Go.Proofs.Ytbkkplednfdfdaa
