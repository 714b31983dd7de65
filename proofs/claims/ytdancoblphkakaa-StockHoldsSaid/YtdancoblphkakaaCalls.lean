/- Restock, Give and Sell: their walks. -/
import Derived.Test.YtdancoblphkakaaOps
namespace Go.Proofs.Ytdancoblphkakaa
open Go.RowKit

def restE (G : List (List Int)) (p u : Int) : Int := if okP G.length p = true ∧ 0 ≤ u then (if 1099511627776 - ga G p.toNat p.toNat < u then 7 else 0) else 2
def restG (G : List (List Int)) (p u : Int) : List (List Int) := if restE G p u = 0 then gset G p.toNat p.toNat (ga G p.toNat p.toNat + u) else G
def giveE (G : List (List Int)) (D : List Int) (p t u : Int) : Int := if (okP G.length p = true ∧ okP G.length t = true) ∧ (0 ≤ u ∧ p ≠ t) then (if 1099511627776 - ga G p.toNat t.toNat < u then 7 else if share G D p.toNat < u then 9 else 0) else 2
def giveG (G : List (List Int)) (D : List Int) (p t u : Int) : List (List Int) := if giveE G D p t u = 0 then gset G p.toNat t.toNat (ga G p.toNat t.toNat + u) else G
def sellE (G : List (List Int)) (D : List Int) (p u : Int) : Int := if okP G.length p = true ∧ 0 ≤ u then (if 1099511627776 - da D p.toNat < u then 7 else if share G D p.toNat < u then 9 else 0) else 2
def sellD (G : List (List Int)) (D : List Int) (p u : Int) : List Int := if sellE G D p u = 0 then D.set p.toNat (da D p.toNat + u) else D
section
variable {w : World} {X : Nat} {S : Nat → Prop} {G : List (List Int)} {D : List Int}
theorem okP_nat {n : Nat} {p : Int} (h : okP n p = true) : ∃ i : Nat, p = (i : Int) ∧ i < n := by
  obtain ⟨h1, h2⟩ := (okP_iff n p).1 h
  exact ⟨p.toNat, by omega, by omega⟩
/-- The cell of a number, and what the stock is when it has been raised. -/
theorem ST.spotG (h : ST w X S G D) {i k : Nat} (hi : i < G.length) (hk : k < G.length) : ∃ gb gc r c, w.cell? ⟨X, 0, none⟩ = some (.slice (some ⟨gb, 0, none⟩) G.length gc) ∧ w.cell? ⟨gb, i, none⟩ = some (.slice (some ⟨r, 0, none⟩) G.length c) ∧ w.cell? ⟨r, k, none⟩ = some (.int .i64 (ga G i k)) ∧ w.frozen? ⟨r, k, none⟩ = false ∧ (0 ≤ ga G i k ∧ ga G i k ≤ 1099511627776) ∧ ∀ w1, Below w.heap.size w w1 → ∀ x, 0 ≤ x → x ≤ 1099511627776 → StW w (w1.setCell ⟨r, k, none⟩ (.int .i64 x)) X S (gset G i k x) D := by
  obtain ⟨_, _, hN, gb, gc, db, dc, rs, hd⟩ := id h
  obtain ⟨r, c, h1, h2, h3, hr, h4⟩ := hd.atG hi
  have e : (rs[i]).1 = r := by rw [h4]
  refine ⟨gb, gc, r, c, hd.cells.1, h1, ?_, h2.free k, hN.g i k, fun w1 hb x hx hx2 => ?_⟩
  · have hk' : k < (G[i]).length := by rw [h3]; exact hk
    rw [ga_at hi hk']
    exact h2.cell hk'
  · rw [← e]
    exact StW.first hb (StW.setG (h.kept hb) (hd.kept hb) hi hr hk hx hx2)
theorem ST.spotD (h : ST w X S G D) {i : Nat} (hi : i < G.length) : ∃ db dc, w.cell? ⟨X, 1, none⟩ = some (.slice (some ⟨db, 0, none⟩) G.length dc) ∧ w.cell? ⟨db, i, none⟩ = some (.int .i64 (da D i)) ∧ w.frozen? ⟨db, i, none⟩ = false ∧ (0 ≤ da D i ∧ da D i ≤ 1099511627776) ∧ ∀ w1, Below w.heap.size w w1 → ∀ x, 0 ≤ x → x ≤ 1099511627776 → StW w (w1.setCell ⟨db, i, none⟩ (.int .i64 x)) X S G (D.set i x) := by
  obtain ⟨_, _, hN, gb, gc, db, dc, rs, hd⟩ := id h
  exact ⟨db, dc, hd.cells.2, hd.sold hi, hd.hD.free i, hN.d i, fun w1 hb x hx hx2 => StW.first hb (StW.setD (h.kept hb) (hd.kept hb) hi hx hx2)⟩
theorem restock_any (p u : Int) (h : ST w X S G D) : Calls Try.prog 18 #[.pointer (some ⟨X, 0, none⟩), .int .i64 p, .int .i64 u] w fun e w' => e = .returned (.int .i64 (restE G p u)) ∧ StW w w' X S (restG G p u) D := by
  have HC := Lib.hid (none_any h)
  have HI := Lib.hid (in_any p h)
  have HS := Lib.hid (StW.same h)
  by_cases ho : okP G.length p = true
  · rw [ho] at HI
    by_cases hu : 0 ≤ u
    · obtain ⟨i, rfl, hi⟩ := okP_nat ho
      obtain ⟨gb, gc, r, c, y0, y1, y2, y3, ⟨y4, y5⟩, HP⟩ := h.spotG hi hi
      have HP := Lib.hid HP
      have HE := Lib.hid (show restE G i u = if 1099511627776 - ga G i i < u then 7 else 0 by rw [restE, if_pos ⟨ho, hu⟩, Int.toNat_natCast])
      have HG := Lib.hid (show restG G i u = if restE G i u = 0 then gset G i i (ga G i i + u) else G by rw [restG, Int.toNat_natCast])
      have hi1 : (i : Int) < (G.length : Int) := by omega
      obtain ⟨v, hv⟩ : ∃ v, ga G i i = v := ⟨_, rfl⟩
      rw [hv] at y2 y4 y5 HE HG
      clear h ho hv hi
      by_cases hb : 1099511627776 - v < u
      · have e1 : restE G i u = 7 := by rw [HE.out, if_pos hb]
        have e2 : restG G i u = G := by rw [HG.out, e1]; rfl
        rw [e1, e2]
        clear e1 e2
        go_enter Try.func18, Try.ntmps18
        go_wp2_with fail
        refine HC.out.mono ?_
        rintro e w' ⟨rfl, rfl⟩
        go_wp2_with fail
        refine HI.out.mono ?_
        rintro e w' ⟨rfl, rfl⟩
        go_wp2_with fail
        refine (raise_no y2 y4 y5 hb).mono ?_
        rintro e w' ⟨rfl, rfl⟩
        go_wp2_with fail
        go_ret
        exact ⟨rfl, HS.out⟩
      · have hb2 : u ≤ 1099511627776 - v := by omega
        have e1 : restE G i u = 0 := by rw [HE.out, if_neg hb]
        have e2 : restG G i u = gset G i i (v + u) := by rw [HG.out, e1]; rfl
        rw [e1, e2]
        have HQ := Lib.hid (HP.out w (Below.refl _ _) (v + u) (by omega) (by omega))
        clear e1 e2 hb
        go_enter Try.func18, Try.ntmps18
        go_wp2_with fail
        refine HC.out.mono ?_
        rintro e w' ⟨rfl, rfl⟩
        go_wp2_with fail
        refine HI.out.mono ?_
        rintro e w' ⟨rfl, rfl⟩
        go_wp2_with fail
        refine (raise_yes y2 y3 y4 y5 hu hb2).mono ?_
        rintro e w2 ⟨rfl, hw2⟩
        have HW := Lib.hid hw2
        clear hw2
        go_wp2_with fail
        go_ret
        exact ⟨rfl, by rw [HW.out]; exact HQ.out⟩
    · have hu2 : u < 0 := by omega
      have e1 : restE G p u = 2 := by rw [restE, if_neg (fun e => hu e.2)]
      have e2 : restG G p u = G := by rw [restG, e1]; rfl
      rw [e1, e2]
      clear e1 e2 ho hu h
      go_enter Try.func18, Try.ntmps18
      go_wp2_with fail
      refine HC.out.mono ?_
      rintro e w' ⟨rfl, rfl⟩
      go_wp2_with fail
      refine HI.out.mono ?_
      rintro e w' ⟨rfl, rfl⟩
      go_wp2_with fail
      go_ret
      exact ⟨rfl, HS.out⟩
  · have e1 : restE G p u = 2 := by rw [restE, if_neg (fun e => ho e.1)]
    have e2 : restG G p u = G := by rw [restG, e1]; rfl
    rw [e1, e2]
    rw [Bool.not_eq_true] at ho
    rw [ho] at HI
    clear e1 e2 ho h
    go_enter Try.func18, Try.ntmps18
    go_wp2_with fail
    refine HC.out.mono ?_
    rintro e w' ⟨rfl, rfl⟩
    go_wp2_with fail
    refine HI.out.mono ?_
    rintro e w' ⟨rfl, rfl⟩
    go_wp2_with fail
    go_ret
    exact ⟨rfl, HS.out⟩

/-- What spending gives. -/
def SpendPost (w : World) (v u s : Int) (b k : Nat) (e : Ending) (w' : World) : Prop := ∃ w1, Below w.heap.size w w1 ∧
  ((1099511627776 - v < u ∧ e = .returned (.int .i64 7) ∧ w' = w1) ∨ (u ≤ 1099511627776 - v ∧ s < u ∧ e = .returned (.int .i64 9) ∧ w' = w1) ∨ (u ≤ 1099511627776 - v ∧ u ≤ s ∧ e = .returned (.int .i64 0) ∧ w' = w1.setCell ⟨b, k, none⟩ (.int .i64 (v + u))))
/-- Spending: the pointer leads to a number v; P is what holds when it has become v + u. -/
theorem spend_any (p : Nat) (u v : Int) (b k : Nat) (h : ST w X S G D) (hp : p < G.length)
    (hc : w.cell? ⟨b, k, none⟩ = some (.int .i64 v)) (hf : w.frozen? ⟨b, k, none⟩ = false) (h0 : 0 ≤ v) (h1 : v ≤ 1099511627776) (hu : 0 ≤ u) :
    Calls Try.prog 40 #[.pointer (some ⟨X, 0, none⟩), .int .i64 p, .pointer (some ⟨b, k, none⟩), .int .i64 u] w (SpendPost w v u (share G D p) b k) := by
  have HS := Lib.hid (share_any p h hp)
  have hlt : b < w.heap.size := by
    rcases Nat.lt_or_ge b w.heap.size with e | e
    · exact e
    · simp [World.cell?, Array.getElem?_eq_none e] at hc
  have HB := Lib.hid hlt
  have HC := Lib.hid hc
  have HF := Lib.hid hf
  obtain ⟨s, hs⟩ : ∃ s, share G D p = s := ⟨_, rfl⟩
  rw [hs] at HS ⊢
  clear hs h hlt hc hf
  go_enter Try.func40, Try.ntmps40
  go_wp2_with fail
  refine HS.out.mono ?_
  rintro e w1 ⟨rfl, hb⟩
  have hc := (hb.cell (p := ⟨b, k, none⟩) HB.out).trans HC.out
  have hf := (hb.frozen (p := ⟨b, k, none⟩) HB.out).trans HF.out
  have HBB := Lib.hid hb
  clear hb
  by_cases hm : 1099511627776 - v < u
  · have hm2 : ¬ u ≤ 1099511627776 - v := by omega
    have hm3 : decide (u ≤ 1099511627776 - v) = false := by simp; omega
    by_cases hsu : s < u
    · go_wp2_with fail
      refine (raise_no hc h0 h1 hm).mono ?_
      rintro e w' ⟨rfl, rfl⟩
      go_wp2_with fail
      go_ret
      exact ⟨_, HBB.out, .inl ⟨hm, rfl, rfl⟩⟩
    · have hsu2 : decide (s < u) = false := by simp; omega
      go_wp2_with fail
      refine (raise_no hc h0 h1 hm).mono ?_
      rintro e w' ⟨rfl, rfl⟩
      go_wp2_with fail
      go_ret
      exact ⟨_, HBB.out, .inl ⟨hm, rfl, rfl⟩⟩
  · have hm2 : u ≤ 1099511627776 - v := by omega
    by_cases hsu : s < u
    · clear hm
      go_wp2_with fail
      go_ret
      exact ⟨_, HBB.out, .inr (.inl ⟨by omega, by omega, rfl, rfl⟩)⟩
    · have hsu2 : decide (s < u) = false := by simp; omega
      clear hm
      go_wp2_with fail
      refine (raise_yes hc hf h0 h1 hu hm2).mono ?_
      rintro e w' ⟨rfl, hw⟩
      have HW := Lib.hid hw
      clear hw
      go_wp2_with fail
      go_ret
      exact ⟨_, HBB.out, .inr (.inr ⟨by omega, by omega, rfl, HW.out⟩)⟩

theorem give_any (p t u : Int) (h : ST w X S G D) : Calls Try.prog 19 #[.pointer (some ⟨X, 0, none⟩), .int .i64 p, .int .i64 t, .int .i64 u] w fun e w' => e = .returned (.int .i64 (giveE G D p t u)) ∧ StW w w' X S (giveG G D p t u) D := by
  have HC := Lib.hid (none_any h)
  have HI := Lib.hid (in_any p h)
  have HJ := Lib.hid (in_any t h)
  have HS := Lib.hid (StW.same h)
  have HK := Lib.hid (fun w1 hb => StW.first (w := w) hb (StW.same (h.kept (w' := w1) hb)))
  have HH := Lib.hid h
  have HG2 := Lib.hid (show giveE G D p t u = 2 → giveG G D p t u = G from fun e => by rw [giveG, e]; rfl)
  by_cases ho : okP G.length p = true
  · rw [ho] at HI
    by_cases hq : okP G.length t = true
    · rw [hq] at HJ
      by_cases hu : 0 ≤ u
      · by_cases hne : p = t
        · have e1 : giveE G D p t u = 2 := by rw [giveE, if_neg (fun e => e.2.2 hne)]
          have e2 := HG2.out e1
          rw [e1, e2]
          subst hne
          clear e1 e2 h ho hq HG2 HK
          go_enter Try.func19, Try.ntmps19
          go_wp2_with fail
          refine HC.out.mono ?_
          rintro e w' ⟨rfl, rfl⟩
          go_wp2_with fail
          refine HI.out.mono ?_
          rintro e w' ⟨rfl, rfl⟩
          go_wp2_with fail
          refine HJ.out.mono ?_
          rintro e w' ⟨rfl, rfl⟩
          go_wp2_with fail
          go_ret
          exact ⟨rfl, HS.out⟩
        · obtain ⟨i, rfl, hi⟩ := okP_nat ho
          obtain ⟨k, rfl, hk⟩ := okP_nat hq
          obtain ⟨gb, gc, r, c, y0, y1, y2, y3, ⟨y4, y5⟩, HP⟩ := h.spotG hi hk
          have HP := Lib.hid HP
          have HE := Lib.hid (show giveE G D i k u = if 1099511627776 - ga G i k < u then 7 else if share G D i < u then 9 else 0 by rw [giveE, if_pos ⟨⟨ho, hq⟩, hu, hne⟩, Int.toNat_natCast, Int.toNat_natCast])
          have HG := Lib.hid (show giveG G D i k u = if giveE G D i k u = 0 then gset G i k (ga G i k + u) else G by rw [giveG, Int.toNat_natCast, Int.toNat_natCast])
          have hi1 : (i : Int) < (G.length : Int) := by omega
          have hk1 : (k : Int) < (G.length : Int) := by omega
          have hne1 : ((i : Int) == (k : Int)) = false := by rw [beq_eq_false_iff_ne]; exact hne
          have HI0 := Lib.hid hi
          obtain ⟨v, hv⟩ : ∃ v, ga G i k = v := ⟨_, rfl⟩
          rw [hv] at y2 y4 y5 HE HG
          clear h ho hq hv hi hk hne HG2
          go_enter Try.func19, Try.ntmps19
          go_wp2_with fail
          refine HC.out.mono ?_
          rintro e w' ⟨rfl, rfl⟩
          go_wp2_with fail
          refine HI.out.mono ?_
          rintro e w' ⟨rfl, rfl⟩
          go_wp2_with fail
          refine HJ.out.mono ?_
          rintro e w' ⟨rfl, rfl⟩
          go_wp2_with fail
          refine (spend_any i u v r k HH.out HI0.out y2 y3 y4 y5 hu).mono ?_
          rintro e w2 ⟨w1, hb, hcase⟩
          rcases hcase with ⟨q1, rfl, rfl⟩ | ⟨q1, q2, rfl, rfl⟩ | ⟨q1, q2, rfl, rfl⟩
          · have e1 := Lib.hid (show giveE G D i k u = 7 by rw [HE.out, if_pos q1])
            have e2 := Lib.hid (show giveG G D i k u = G by rw [HG.out, e1.out]; rfl)
            have HQ := Lib.hid (HK.out _ hb)
            clear hb
            go_wp2_with fail
            go_ret
            exact ⟨ret_int e1.out.symm, by rw [e2.out]; exact HQ.out⟩
          · have e1 := Lib.hid (show giveE G D i k u = 9 by rw [HE.out, if_neg (by omega), if_pos q2])
            have e2 := Lib.hid (show giveG G D i k u = G by rw [HG.out, e1.out]; rfl)
            have HQ := Lib.hid (HK.out _ hb)
            clear hb
            go_wp2_with fail
            go_ret
            exact ⟨ret_int e1.out.symm, by rw [e2.out]; exact HQ.out⟩
          · have e1 := Lib.hid (show giveE G D i k u = 0 by rw [HE.out, if_neg (by omega), if_neg (by omega)])
            have e2 := Lib.hid (show giveG G D i k u = gset G i k (v + u) by rw [HG.out, e1.out]; rfl)
            have HQ := Lib.hid (HP.out _ hb (v + u) (by omega) (by omega))
            clear hb
            go_wp2_with fail
            go_ret
            exact ⟨ret_int e1.out.symm, by rw [e2.out]; exact HQ.out⟩
      · have hu2 : u < 0 := by omega
        have e1 : giveE G D p t u = 2 := by rw [giveE, if_neg (fun e => hu e.2.1)]
        have e2 := HG2.out e1
        rw [e1, e2]
        clear e1 e2 h ho hq HG2 HK hu
        go_enter Try.func19, Try.ntmps19
        go_wp2_with fail
        refine HC.out.mono ?_
        rintro e w' ⟨rfl, rfl⟩
        go_wp2_with fail
        refine HI.out.mono ?_
        rintro e w' ⟨rfl, rfl⟩
        go_wp2_with fail
        refine HJ.out.mono ?_
        rintro e w' ⟨rfl, rfl⟩
        go_wp2_with fail
        go_ret
        exact ⟨rfl, HS.out⟩
    · have e1 : giveE G D p t u = 2 := by rw [giveE, if_neg (fun e => hq e.1.2)]
      have e2 := HG2.out e1
      rw [e1, e2]
      rw [Bool.not_eq_true] at hq
      rw [hq] at HJ
      clear e1 e2 h ho hq HG2 HK
      go_enter Try.func19, Try.ntmps19
      go_wp2_with fail
      refine HC.out.mono ?_
      rintro e w' ⟨rfl, rfl⟩
      go_wp2_with fail
      refine HI.out.mono ?_
      rintro e w' ⟨rfl, rfl⟩
      go_wp2_with fail
      refine HJ.out.mono ?_
      rintro e w' ⟨rfl, rfl⟩
      go_wp2_with fail
      go_ret
      exact ⟨rfl, HS.out⟩
  · have e1 : giveE G D p t u = 2 := by rw [giveE, if_neg (fun e => ho e.1.1)]
    have e2 := HG2.out e1
    rw [e1, e2]
    rw [Bool.not_eq_true] at ho
    rw [ho] at HI
    clear e1 e2 h ho HG2 HK
    go_enter Try.func19, Try.ntmps19
    go_wp2_with fail
    refine HC.out.mono ?_
    rintro e w' ⟨rfl, rfl⟩
    go_wp2_with fail
    refine HI.out.mono ?_
    rintro e w' ⟨rfl, rfl⟩
    go_wp2_with fail
    go_ret
    exact ⟨rfl, HS.out⟩

theorem sell_any (p u : Int) (h : ST w X S G D) : Calls Try.prog 20 #[.pointer (some ⟨X, 0, none⟩), .int .i64 p, .int .i64 u] w fun e w' => e = .returned (.int .i64 (sellE G D p u)) ∧ StW w w' X S G (sellD G D p u) := by
  have HC := Lib.hid (none_any h)
  have HI := Lib.hid (in_any p h)
  have HS := Lib.hid (StW.same h)
  have HK := Lib.hid (fun w1 hb => StW.first (w := w) hb (StW.same (h.kept (w' := w1) hb)))
  have HH := Lib.hid h
  have HG2 := Lib.hid (show sellE G D p u = 2 → sellD G D p u = D from fun e => by rw [sellD, e]; rfl)
  by_cases ho : okP G.length p = true
  · rw [ho] at HI
    by_cases hu : 0 ≤ u
    · obtain ⟨i, rfl, hi⟩ := okP_nat ho
      obtain ⟨db, dc, y0, y2, y3, ⟨y4, y5⟩, HP⟩ := h.spotD hi
      have HP := Lib.hid HP
      have HE := Lib.hid (show sellE G D i u = if 1099511627776 - da D i < u then 7 else if share G D i < u then 9 else 0 by rw [sellE, if_pos ⟨ho, hu⟩, Int.toNat_natCast])
      have HG := Lib.hid (show sellD G D i u = if sellE G D i u = 0 then D.set i (da D i + u) else D by rw [sellD, Int.toNat_natCast])
      have hi1 : (i : Int) < (G.length : Int) := by omega
      have HI0 := Lib.hid hi
      obtain ⟨v, hv⟩ : ∃ v, da D i = v := ⟨_, rfl⟩
      rw [hv] at y2 y4 y5 HE HG
      clear h ho hv hi HG2
      go_enter Try.func20, Try.ntmps20
      go_wp2_with fail
      refine HC.out.mono ?_
      rintro e w' ⟨rfl, rfl⟩
      go_wp2_with fail
      refine HI.out.mono ?_
      rintro e w' ⟨rfl, rfl⟩
      go_wp2_with fail
      refine (spend_any i u v db i HH.out HI0.out y2 y3 y4 y5 hu).mono ?_
      rintro e w2 ⟨w1, hb, hcase⟩
      rcases hcase with ⟨q1, rfl, rfl⟩ | ⟨q1, q2, rfl, rfl⟩ | ⟨q1, q2, rfl, rfl⟩
      · have e1 := Lib.hid (show sellE G D i u = 7 by rw [HE.out, if_pos q1])
        have e2 := Lib.hid (show sellD G D i u = D by rw [HG.out, e1.out]; rfl)
        have HQ := Lib.hid (HK.out _ hb)
        clear hb
        go_wp2_with fail
        go_ret
        exact ⟨ret_int e1.out.symm, by rw [e2.out]; exact HQ.out⟩
      · have e1 := Lib.hid (show sellE G D i u = 9 by rw [HE.out, if_neg (by omega), if_pos q2])
        have e2 := Lib.hid (show sellD G D i u = D by rw [HG.out, e1.out]; rfl)
        have HQ := Lib.hid (HK.out _ hb)
        clear hb
        go_wp2_with fail
        go_ret
        exact ⟨ret_int e1.out.symm, by rw [e2.out]; exact HQ.out⟩
      · have e1 := Lib.hid (show sellE G D i u = 0 by rw [HE.out, if_neg (by omega), if_neg (by omega)])
        have e2 := Lib.hid (show sellD G D i u = D.set i (v + u) by rw [HG.out, e1.out]; rfl)
        have HQ := Lib.hid (HP.out _ hb (v + u) (by omega) (by omega))
        clear hb
        go_wp2_with fail
        go_ret
        exact ⟨ret_int e1.out.symm, by rw [e2.out]; exact HQ.out⟩
    · have hu2 : u < 0 := by omega
      have e1 : sellE G D p u = 2 := by rw [sellE, if_neg (fun e => hu e.2)]
      have e2 := HG2.out e1
      rw [e1, e2]
      clear e1 e2 h ho HG2 HK hu
      go_enter Try.func20, Try.ntmps20
      go_wp2_with fail
      refine HC.out.mono ?_
      rintro e w' ⟨rfl, rfl⟩
      go_wp2_with fail
      refine HI.out.mono ?_
      rintro e w' ⟨rfl, rfl⟩
      go_wp2_with fail
      go_ret
      exact ⟨rfl, HS.out⟩
  · have e1 : sellE G D p u = 2 := by rw [sellE, if_neg (fun e => ho e.1)]
    have e2 := HG2.out e1
    rw [e1, e2]
    rw [Bool.not_eq_true] at ho
    rw [ho] at HI
    clear e1 e2 h ho HG2 HK
    go_enter Try.func20, Try.ntmps20
    go_wp2_with fail
    refine HC.out.mono ?_
    rintro e w' ⟨rfl, rfl⟩
    go_wp2_with fail
    refine HI.out.mono ?_
    rintro e w' ⟨rfl, rfl⟩
    go_wp2_with fail
    go_ret
    exact ⟨rfl, HS.out⟩
end
end Go.Proofs.Ytdancoblphkakaa
