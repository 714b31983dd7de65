/- HistoryOf, walked. Printed by hist_ab.py. -/
import Derived.Test.YtbkkplednfdfdaaRefW
import Derived.Test.YtbkkplednfdfdaaSame
import Derived.Test.YtbkkplednfdfdaaKnown
import Derived.Test.YtbkkplednfdfdaaSmall
import Derived.Test.YtbkkplednfdfdaaArgs
namespace Go.Proofs.Ytbkkplednfdfdaa
open Go.RowKit Go.Maps

/-- Lines of the call's own: their numbers may turn. -/
def LnD (w : World) (B : Nat) (p : Option Addr) (n : Nat) : Prop := n = 0 ∨ ∃ b cs, p = some ⟨b, 0, none⟩ ∧ B ≤ b ∧ Blk w b 43 cs ∧ ∀ j, j < n → ∃ v : Int, cs[j * 2 + 1]? = some (.int .i64 v)
/-- Bytes of the call's own. -/
def ByD (w : World) (B : Nat) (p : Option Addr) (n : Nat) : Prop := n = 0 ∨ ∃ b cs, p = some ⟨b, 0, none⟩ ∧ B ≤ b ∧ Blk w b 5 cs ∧ ∀ j, j < n → ∃ v : Int, cs[j]? = some (.int .u8 v)
theorem LnD.of {w : World} {B : Nat} {p : Option Addr} {l : List (ByteArray × Int)} (h : RdD w B 43 p (lns l)) : LnD w B p l.length := by
  rcases h with h | ⟨b, o, cs, hp, ⟨hB, ho⟩, hb, hc⟩
  · left
    have := lns_len l
    rw [h] at this
    simp at this; omega
  · subst ho
    exact .inr ⟨b, cs, hp, hB, hb, fun j hj => ⟨l[j].2, by have := hc _ _ (lns_at l j hj).2; rw [Nat.zero_add] at this; exact this⟩⟩
theorem ByD.of {w : World} {B : Nat} {p : Option Addr} {l : List Int} (h : RdD w B 5 p (bys l)) : ByD w B p l.length := by
  rcases h with h | ⟨b, o, cs, hp, ⟨hB, ho⟩, hb, hc⟩
  · left
    have := bys_len l
    rw [h] at this
    simpa using this.symm
  · subst ho
    exact .inr ⟨b, cs, hp, hB, hb, fun j hj => ⟨l[j], by have := hc j (.int .u8 l[j]) (by simp [bys, List.getElem?_eq_getElem hj]); rw [Nat.zero_add] at this; exact this⟩⟩
/-- Past a store of a number into a line. -/
theorem LnD.set1 {w : World} {B : Nat} {p : Option Addr} {n b i : Nat} {cs : List Value} (h : LnD w B p n) (hb : Blk w b 43 cs) (v : Int) : LnD (w.setCell ⟨b, i * 2 + 1, none⟩ (.int .i64 v)) B p n := by
  rcases h with h | ⟨b', cs', hp, hB, hb', hc⟩
  · exact .inl h
  · by_cases e : b' = b
    · subst e
      refine .inr ⟨b', _, hp, hB, hb'.set_ (i * 2 + 1) (.int .i64 v), fun j hj => ?_⟩
      obtain ⟨u, hu⟩ := hc j hj
      rw [List.getElem?_set]
      by_cases e : i * 2 + 1 = j * 2 + 1
      · rw [if_pos e, if_pos (by rw [e]; exact (List.getElem?_eq_some_iff.1 hu).1)]
        exact ⟨v, rfl⟩
      · rw [if_neg e]; exact ⟨u, hu⟩
    · exact .inr ⟨b', cs', hp, hB, hb'.far e _, hc⟩
theorem LnD.set2 {w : World} {B : Nat} {p : Option Addr} {n b i : Nat} {cs : List Value} (h : LnD w B p n) (hb : Blk w b 5 cs) (u : Value) : LnD (w.setCell ⟨b, i, none⟩ u) B p n := by
  rcases h with h | ⟨b', cs', hp, hB, hb', hc⟩
  · exact .inl h
  · exact .inr ⟨b', cs', hp, hB, hb'.far (fun e => by have e : b' = b := e; subst e; exact absurd (hb'.type hb) (by decide)) _, hc⟩
theorem ByD.set1 {w : World} {B : Nat} {p : Option Addr} {n b i : Nat} {cs : List Value} (h : ByD w B p n) (hb : Blk w b 43 cs) (u : Value) : ByD (w.setCell ⟨b, i, none⟩ u) B p n := by
  rcases h with h | ⟨b', cs', hp, hB, hb', hc⟩
  · exact .inl h
  · exact .inr ⟨b', cs', hp, hB, hb'.far (fun e => by have e : b' = b := e; subst e; exact absurd (hb'.type hb) (by decide)) _, hc⟩
theorem ByD.set2 {w : World} {B : Nat} {p : Option Addr} {n b i : Nat} {cs : List Value} (h : ByD w B p n) (hb : Blk w b 5 cs) (v : Int) : ByD (w.setCell ⟨b, i, none⟩ (.int .u8 v)) B p n := by
  rcases h with h | ⟨b', cs', hp, hB, hb', hc⟩
  · exact .inl h
  · by_cases e : b' = b
    · subst e
      refine .inr ⟨b', _, hp, hB, hb'.set_ i (.int .u8 v), fun j hj => ?_⟩
      obtain ⟨u, hu⟩ := hc j hj
      rw [List.getElem?_set]
      by_cases e : i = j
      · rw [if_pos e, if_pos (by rw [e]; exact (List.getElem?_eq_some_iff.1 hu).1)]
        exact ⟨v, rfl⟩
      · rw [if_neg e]; exact ⟨u, hu⟩
    · exact .inr ⟨b', cs', hp, hB, hb'.far e _, hc⟩
/-- The history that is turned: its events stand, their lists may turn. -/
structure Mut (w0 w : World) (B : Nat) (q : Option Addr) (n c : Nat) (es : List Ev) : Prop where
  own : w.ownsRow B 41 15 (.slice q n c) n (evs es)
  ln : ∀ x ∈ es, LnD w B x.lq x.ln ∧ x.ln ≤ x.lc ∧ x.ln ≤ 1000
  by_ : ∀ x ∈ es, ByD w B x.dq x.dn ∧ x.dn ≤ x.dc ∧ x.dn ≤ 1000
  below : Below B w0 w
theorem Mut.setL {w0 w : World} {B n c b i : Nat} {q : Option Addr} {es : List Ev} {cs : List Value} (h : Mut w0 w B q n c es) (hb : Blk w b 43 cs) (hB : B ≤ b) (v : Int) : Mut w0 (w.setCell ⟨b, i * 2 + 1, none⟩ (.int .i64 v)) B q n c es := by
  have hf := (Fr.refl (fun x => x = b) w).set ⟨b, i * 2 + 1, none⟩ (.int .i64 v) (.inl rfl)
  refine ⟨own_fr h.own hf (fun g hg e => ?_), fun x hx => ⟨(h.ln x hx).1.set1 hb v, (h.ln x hx).2⟩, fun x hx => ⟨(h.by_ x hx).1.set1 hb _, (h.by_ x hx).2⟩, ?_⟩
  · have e : g = b := e
    subst e
    obtain ⟨cur, hc⟩ := own_typ h.own hg
    have hb' : w.heap[g]? = _ := hb
    rw [hc] at hb'
    injection hb' with hb'
    injection hb' with _ e2
    exact absurd e2 (by decide)
  · exact ⟨hf.os.trans h.below.os, hf.tape.trans h.below.tape, hf.output.trans h.below.output, Nat.le_trans h.below.size hf.size, fun j hj => (hf.block j (by have := hb.lt; omega) (fun e => by have e : j = b := e; omega)).trans (h.below.block j hj)⟩
theorem Mut.setB {w0 w : World} {B n c b i : Nat} {q : Option Addr} {es : List Ev} {cs : List Value} (h : Mut w0 w B q n c es) (hb : Blk w b 5 cs) (hB : B ≤ b) (v : Int) : Mut w0 (w.setCell ⟨b, i, none⟩ (.int .u8 v)) B q n c es := by
  have hf := (Fr.refl (fun x => x = b) w).set ⟨b, i, none⟩ (.int .u8 v) (.inl rfl)
  refine ⟨own_fr h.own hf (fun g hg e => ?_), fun x hx => ⟨(h.ln x hx).1.set2 hb _, (h.ln x hx).2⟩, fun x hx => ⟨(h.by_ x hx).1.set2 hb v, (h.by_ x hx).2⟩, ?_⟩
  · have e : g = b := e
    subst e
    obtain ⟨cur, hc⟩ := own_typ h.own hg
    have hb' : w.heap[g]? = _ := hb
    rw [hc] at hb'
    injection hb' with hb'
    injection hb' with _ e2
    exact absurd e2 (by decide)
  · exact ⟨hf.os.trans h.below.os, hf.tape.trans h.below.tape, hf.output.trans h.below.output, Nat.le_trans h.below.size hf.size, fun j hj => (hf.block j (by have := hb.lt; omega) (fun e => by have e : j = b := e; omega)).trans (h.below.block j hj)⟩
theorem Mut.at_ {w0 w : World} {B n c : Nat} {q : Option Addr} {es : List Ev} (h : Mut w0 w B q n c es) {k : Nat} (hk : k < es.length) : ∃ g, q = some ⟨g, 0, none⟩ ∧ ∀ i u, (es[k]).cells[i]? = some u → w.cell? ⟨g, k * 15 + i, none⟩ = some u := by
  have hn : n = es.length := by have := h.own.1; rw [evs_len] at this; omega
  obtain ⟨g, rfl⟩ := own_some h.own (by omega)
  obtain ⟨b, o, hp, hlt, hc⟩ := evs_rd (Rd.of_own h.own) hk
  injection hp with hp
  injection hp with h1 h2
  subst h1 h2
  refine ⟨_, rfl, fun i u hu => ?_⟩
  have := hc i u hu
  rwa [Nat.zero_add] at this
theorem pup_ok {P : PA → Prop} {k : Nat} {lk : Bool} {d : PD} {x : PE} (hx : P x.a) (hd : P d.a) : P (pup2 k d (pup1 k lk d x)).a := by
  unfold pup2 pup1
  split <;> split <;> assumption
theorem prc_ok {P : PA → Prop} {lk : Bool} : ∀ (l : List PD) (k : Nat) (x : PE), (∀ d ∈ l, P d.a) → P x.a → P (prc lk k l x).a
  | [], _, _, _, h => h
  | d :: l, k, x, hl, h => by
    rw [prc]
    split
    · split
      · exact h
      · exact prc_ok l (k + 1) _ (fun e he => hl e (by simp [he])) (pup_ok h (hl d (by simp)))
    · exact prc_ok l (k + 1) x (fun e he => hl e (by simp [he])) h
theorem revs_ok {P : PA → Prop} (h0 : P PA.zero) : ∀ (l : List PD) (k : Nat), (∀ d ∈ l, P d.a) → ∀ x ∈ revs k l, P x.a
  | [], _, _, x, hx => by simp [revs] at hx
  | d :: l, k, hl, x, hx => by
    rw [revs, List.mem_append] at hx
    rcases hx with hx | hx
    · split at hx
      · simp at hx
        subst hx
        rw [prl, if_pos (show d.task = (pnew k d (decide (d.step = 7))).task from rfl), if_neg (by omega), prl_prc _ _ _ _ _ (Nat.lt_succ_self k)]
        exact prc_ok l (k + 1) _ (fun e he => hl e (by simp [he])) (pup_ok h0 (hl d (by simp)))
      · cases hx
    · exact revs_ok h0 l (k + 1) (fun e he => hl e (by simp [he])) x hx
theorem pup_okc {P : PC → Prop} {k : Nat} {lk : Bool} {d : PD} {x : PE} (hx : P x.c) (hd : P d.c) : P (pup2 k d (pup1 k lk d x)).c := by
  unfold pup2 pup1
  split <;> split <;> assumption
theorem prc_okc {P : PC → Prop} {lk : Bool} : ∀ (l : List PD) (k : Nat) (x : PE), (∀ d ∈ l, P d.c) → P x.c → P (prc lk k l x).c
  | [], _, _, _, h => h
  | d :: l, k, x, hl, h => by
    rw [prc]
    split
    · split
      · exact h
      · exact prc_okc l (k + 1) _ (fun e he => hl e (by simp [he])) (pup_okc h (hl d (by simp)))
    · exact prc_okc l (k + 1) x (fun e he => hl e (by simp [he])) h
theorem revs_okc {P : PC → Prop} (h0 : P PC.zero) : ∀ (l : List PD) (k : Nat), (∀ d ∈ l, P d.c) → ∀ x ∈ revs k l, P x.c
  | [], _, _, x, hx => by simp [revs] at hx
  | d :: l, k, hl, x, hx => by
    rw [revs, List.mem_append] at hx
    rcases hx with hx | hx
    · split at hx
      · simp at hx
        subst hx
        rw [prl, if_pos (show d.task = (pnew k d (decide (d.step = 7))).task from rfl), if_neg (by omega), prl_prc _ _ _ _ _ (Nat.lt_succ_self k)]
        refine prc_okc l (k + 1) _ (fun e he => hl e (by simp [he])) (pup_okc ?_ (hl d (by simp)))
        unfold pnew
        simp only
        split
        · exact h0
        · exact hl d (by simp)
      · cases hx
    · exact revs_okc h0 l (k + 1) (fun e he => hl e (by simp [he])) x hx
theorem pofR_cok {l : List PD} (h : ∀ d ∈ l, d.c.ok) : ∀ x ∈ pofR l, x.c.ok := by
  rw [pofR_revs]
  exact revs_okc PC.zero_ok l 0 h
theorem pofR_aok {l : List PD} (h : ∀ d ∈ l, d.a.ok) : ∀ x ∈ pofR l, x.a.ok := by
  rw [pofR_revs]
  exact revs_ok PA.zero_ok l 0 h
/-- What Of returned, as it is read. -/
theorem RetOf.evl {w w' : World} {l : List PD} {es : List Ev} (h : es.length = (pof l).1.length) (hd : ∀ (i : Nat) (x : Ev) (r : PE), es[i]? = some x → (pof l).1[i]? = some r → EvR (RdD w' w.heap.size) x r) : EvL (RdW w' w'.heap.size) es (pof l).1 :=
  ⟨h, fun i x r hx hr => (hd i x r hx hr).imp (fun _ _ _ h => h.rd)⟩
end Go.Proofs.Ytbkkplednfdfdaa
