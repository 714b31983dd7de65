/- The law's examples: known returns true. -/
import Derived.Test.YtflpcolpklnipaaDoorHelpers
namespace Go.Proofs.YtflpcolpklnipaaDoor
open Go.RowKit

def bA : ByteArray := ⟨#[97]⟩
def bFoobar : ByteArray := ⟨#[102, 111, 111, 98, 97, 114]⟩
theorem sum32_is (s : ByteArray) (n : Int) (hs : s.size ≤ 100000) (h : (f32 s.data.toList : Int) = n) (w : World) (ht : Tabs w) : Calls Tryd.prog 9 #[.string s] w fun e w' => e = .returned (.int .u32 n) ∧ Below w.heap.size w w' := by
  rw [← h]; exact sum32_any s w ht hs
theorem sum64_is (s : ByteArray) (n : Int) (hs : s.size ≤ 100000) (h : (f64 s.data.toList : Int) = n) (w : World) (ht : Tabs w) : Calls Tryd.prog 11 #[.string s] w fun e w' => e = .returned (.int .u64 n) ∧ Below w.heap.size w w' := by
  rw [← h]; exact sum64_any s w ht hs
theorem stripe_is (s : ByteArray) (n want no : Int) (hs : s.size ≤ 100000) (h : ((stripeRes s n).1 == want && (stripeRes s n).2 == no) = true) (w : World) (ht : Tabs w) :
    Calls Tryd.prog 14 #[.string s, .int .i64 n, .int .i64 want, .int .i64 no] w fun e w' => e = .returned (.bool true) ∧ Below w.heap.size w w' := by
  rw [← h]; exact stripeLaw_any s n want no w ht hs

theorem orderLaw_is (ss : List ByteArray) (ys : List Int) (n no : Int) (h : (decide ((orderRes ss n).1 = ys) && ((orderRes ss n).2 == no)) = true) (hK : Keys ss) (hly : ys.length ≤ 100000) (m k : Nat) (hm : m = ss.length) (hk : k = ys.length)
    (p q : Option Addr) (c d : Nat) (w : World) (ht : Tabs w) (hr : Rd w w.heap.size p (strs ss)) (hq : Rd w w.heap.size q (ints ys)) :
    Calls Tryd.prog 17 #[.slice p m c, .int .i64 n, .slice q k d, .int .i64 no] w fun e w' => e = .returned (.bool true) ∧ Below w.heap.size w w' := by
  subst hm hk; rw [← h]; exact orderLaw_any p q c d ss n ys no w ht hr hK hq hly
theorem spreadLaw_is (ss : List ByteArray) (ys : List Int) (n no : Int) (h : (decide ((spreadRes ss n).1 = ys) && ((spreadRes ss n).2 == no)) = true) (hK : Keys ss) (hly : ys.length ≤ 100000) (m k : Nat) (hm : m = ss.length) (hk : k = ys.length)
    (p q : Option Addr) (c d : Nat) (w : World) (ht : Tabs w) (hr : Rd w w.heap.size p (strs ss)) (hq : Rd w w.heap.size q (ints ys)) :
    Calls Tryd.prog 18 #[.slice p m c, .int .i64 n, .slice q k d, .int .i64 no] w fun e w' => e = .returned (.bool true) ∧ Below w.heap.size w w' := by
  subst hm hk; rw [← h]; exact spreadLaw_any p q c d ss n ys no w ht hr hK hq hly
def exKeys : List ByteArray := [bFoobar, bA, bA]
theorem exKeys_ok : Keys exKeys := ⟨by decide, fun k h => by
  match k, h with
  | 0, _ => show bFoobar.size ≤ 100000; decide
  | 1, _ => show bA.size ≤ 100000; decide
  | 2, _ => show bA.size ≤ 100000; decide⟩

set_option maxHeartbeats 1000000 in
theorem known_any (w : World) (ht : Tabs w) : Calls Tryd.prog 8 #[] w fun e w' => e = .returned (.bool true) ∧ Below w.heap.size w w' := by
  go_enter Tryd.func8, Tryd.ntmps8
  go_wp2_with fail
  refine (sum32_is ⟨#[]⟩ 2166136261 (by decide) (by decide +kernel) _ ht).mono ?_
  rintro e w1 ⟨rfl, hb1⟩
  have t1 := ht.below hb1
  go_wp2_with fail
  refine (sum32_is ⟨#[97]⟩ 3826002220 (by decide) (by decide +kernel) _ t1).mono ?_
  rintro e w2 ⟨rfl, hb2⟩
  have t2 := t1.below hb2
  go_wp2_with fail
  refine (sum32_is ⟨#[102, 111, 111, 98, 97, 114]⟩ 3214735720 (by decide) (by decide +kernel) _ t2).mono ?_
  rintro e w3 ⟨rfl, hb3⟩
  have t3 := t2.below hb3
  go_wp2_with fail
  refine (sum64_is ⟨#[]⟩ 14695981039346656037 (by decide) (by decide +kernel) _ t3).mono ?_
  rintro e w4 ⟨rfl, hb4⟩
  have t4 := t3.below hb4
  go_wp2_with fail
  refine (sum64_is ⟨#[97]⟩ 12638187200555641996 (by decide) (by decide +kernel) _ t4).mono ?_
  rintro e w5 ⟨rfl, hb5⟩
  have t5 := t4.below hb5
  have hb := below_step (below_step (below_step (below_step hb1 hb2) hb3) hb4) hb5
  clear hb1 hb2 hb3 hb4 hb5 t1 t2 t3 t4
  go_wp2_with fail
  refine (stripe_is ⟨#[97]⟩ 16 12 0 (by decide) (by decide +kernel) _ t5).mono ?_
  rintro e w6 ⟨rfl, hb6⟩
  have t6 := t5.below hb6
  go_wp2_with fail
  refine (stripe_is ⟨#[97]⟩ 256 44 0 (by decide) (by decide +kernel) _ t6).mono ?_
  rintro e w7 ⟨rfl, hb7⟩
  have t7 := t6.below hb7
  go_wp2_with fail
  refine (stripe_is ⟨#[97]⟩ 1 0 0 (by decide) (by decide +kernel) _ t7).mono ?_
  rintro e w8 ⟨rfl, hb8⟩
  have t8 := t7.below hb8
  go_wp2_with fail
  refine (stripe_is ⟨#[97]⟩ 0 0 2 (by decide) (by decide +kernel) _ t8).mono ?_
  rintro e w9 ⟨rfl, hb9⟩
  have t9 := t8.below hb9
  go_wp2_with fail
  refine (stripe_is ⟨#[97]⟩ 1025 0 2 (by decide) (by decide +kernel) _ t9).mono ?_
  rintro e wA ⟨rfl, hbA⟩
  have tA := t9.below hbA
  have hb' := below_step (below_step (below_step (below_step (below_step hb hb6) hb7) hb8) hb9) hbA
  clear hb6 hb7 hb8 hb9 hbA t5 t6 t7 t8 t9 hb
  go_wp2_with fail
  have hz := hb'.size
  refine (orderLaw_is exKeys [8, 12] 16 0 (by decide +kernel) exKeys_ok (by decide) 3 2 rfl rfl _ _ _ _ _ ((tA.below ((Below.refl _ _).alloc (Nat.le_refl _) _)).below ((Below.refl _ _).alloc (Nat.le_refl _) _)) ?_ ?_).mono ?_
  · exact Rd.of_blk ((Blk.new' wA 9 (strs exKeys) rfl).alloc _) (List.prefix_refl _)
  · exact Rd.of_blk (Blk.new' (wA.alloc _) 3 (ints [8, 12]) (by simp)) (List.prefix_refl _)
  rintro e wB ⟨rfl, hbB⟩
  have hb1 : Below wA.heap.size wA wB := ((((Below.refl _ _).alloc (Nat.le_refl _) _).alloc (by simp) _).trans (hbB.mono (by simp; omega)))
  have hK1 : Blk wB wA.heap.size 9 (strs exKeys) := ((Blk.new' wA 9 (strs exKeys) rfl).alloc _).kept hbB
  have tB := tA.below hb1
  clear hbB
  go_wp2_with fail
  refine (spreadLaw_is exKeys [3, 0, 0, 0] 4 0 (by decide +kernel) exKeys_ok (by decide) 3 4 rfl rfl _ _ _ _ _ (tB.below ((Below.refl _ _).alloc (Nat.le_refl _) _)) ?_ ?_).mono ?_
  · exact Rd.of_blk (hK1.alloc _) (List.prefix_refl _)
  · exact Rd.of_blk (Blk.new' wB 3 (ints [3, 0, 0, 0]) rfl) (List.prefix_refl _)
  rintro e wC ⟨rfl, hbC⟩
  have hb2 : Below wB.heap.size wB wC := ((Below.refl _ _).alloc (Nat.le_refl _) _).trans (hbC.mono (by simp))
  have tC := tB.below hb2
  clear hbC
  go_wp2_with fail
  refine (orderLaw_is [] [] 4 0 (by decide +kernel) ⟨by decide, fun k h => by simp at h⟩ (by decide) 0 0 rfl rfl _ _ _ _ _ tC (Rd.nil _ _ _) (Rd.nil _ _ _)).mono ?_
  rintro e wD ⟨rfl, hbD⟩
  have tD := tC.below hbD
  go_wp2_with fail
  refine (spreadLaw_is [] [0, 0] 2 0 (by decide +kernel) ⟨by decide, fun k h => by simp at h⟩ (by decide) 0 2 rfl rfl _ _ _ _ _ (tD.below ((Below.refl _ _).alloc (Nat.le_refl _) _)) (Rd.nil _ _ _) ?_).mono ?_
  · exact Rd.of_blk (Blk.new' wD 3 (ints [0, 0]) rfl) (List.prefix_refl _)
  rintro e wE ⟨rfl, hbE⟩
  have hb5 : Below wD.heap.size wD wE := ((Below.refl _ _).alloc (Nat.le_refl _) _).trans (hbE.mono (by simp))
  go_wp2_with fail
  go_ret
  exact ⟨rfl, below_step (below_step (below_step (below_step hb' hb1) hb2) hbD) hb5⟩

end Go.Proofs.YtflpcolpklnipaaDoor
