/- Lists of dots in memory; what Peek gives. -/
import Derived.Test.YtloomdanpnkbmaaPeek
namespace Go.Proofs.Ytloomdanpnkbmaa
open Go.RowKit

/-- The cells of a list of pairs of ints. -/
def dotCells (l : List (Int × Int)) : List Value := l.flatMap fun d => [.int .i64 d.1, .int .i64 d.2]
theorem dotCells_cons (d : Int × Int) (l : List (Int × Int)) : dotCells (d :: l) = .int .i64 d.1 :: .int .i64 d.2 :: dotCells l := rfl
theorem dotCells_len : ∀ l : List (Int × Int), (dotCells l).length = l.length * 2
  | [] => rfl
  | d :: l => by rw [dotCells_cons, List.length_cons, List.length_cons, dotCells_len l, List.length_cons]; omega
theorem dotCells_at0 : ∀ (l : List (Int × Int)) (k : Nat) (h : k < l.length), (dotCells l)[k * 2]? = some (.int .i64 (l[k]).1)
  | d :: l, 0, _ => rfl
  | d :: l, k + 1, h => by
    rw [dotCells_cons, show (k + 1) * 2 = k * 2 + 1 + 1 from by omega, List.getElem?_cons_succ, List.getElem?_cons_succ, dotCells_at0 l k (by simpa using h)]; rfl
theorem dotCells_at1 : ∀ (l : List (Int × Int)) (k : Nat) (h : k < l.length), (dotCells l)[k * 2 + 1]? = some (.int .i64 (l[k]).2)
  | d :: l, 0, _ => rfl
  | d :: l, k + 1, h => by
    rw [dotCells_cons, show (k + 1) * 2 + 1 = k * 2 + 1 + 1 + 1 from by omega, List.getElem?_cons_succ, List.getElem?_cons_succ, dotCells_at1 l k (by simpa using h)]; rfl
theorem dotCells_set : ∀ (l : List (Int × Int)) (k : Nat) (a b : Int), ((dotCells l).set (k * 2) (.int .i64 a)).set (k * 2 + 1) (.int .i64 b) = dotCells (l.set k (a, b))
  | [], k, a, b => rfl
  | d :: l, 0, a, b => rfl
  | d :: l, k + 1, a, b => by
    rw [dotCells_cons, show (k + 1) * 2 + 1 = k * 2 + 1 + 1 + 1 from by omega, show (k + 1) * 2 = k * 2 + 1 + 1 from by omega]
    simp only [List.set_cons_succ, dotCells_cons]
    rw [dotCells_set l k a b]
theorem dotCells_one (l : List (Int × Int)) : ∀ u ∈ dotCells l, u.oneCell' = true := by
  intro u hu
  simp only [dotCells, List.mem_flatMap] at hu
  obtain ⟨x, _, h⟩ := hu
  simp at h
  rcases h with rfl | rfl <;> rfl
theorem dotCells_snoc (l : List (Int × Int)) (d : Int × Int) : dotCells l ++ [.int .i64 d.1, .int .i64 d.2] = dotCells (l ++ [d]) := by simp [dotCells]

/-- A slice of dots that reads as a list: both cells of element k. -/
theorem Rd.dot {w : World} {B : Nat} {p : Option Addr} {l : List (Int × Int)} (h : Rd w B p (dotCells l)) {k : Nat} (hk : k < l.length) :
    ∃ b o, p = some ⟨b, o, none⟩ ∧ b < B ∧ w.cell? ⟨b, o + k * 2, none⟩ = some (.int .i64 (l[k]).1) ∧ w.cell? ⟨b, o + k * 2 + 1, none⟩ = some (.int .i64 (l[k]).2) := by
  obtain ⟨b, o, hp, hb, _, hc⟩ := h.at_ (k := k * 2) (by rw [dotCells_len]; omega)
  exact ⟨b, o, hp, hb, hc _ _ (dotCells_at0 l k hk), by have := hc _ _ (dotCells_at1 l k hk); rw [Nat.add_assoc]; exact this⟩

/-- The dots l+1 .. l+n of r; the first k of them, the others zero. -/
def run (r l : Int) (n : Nat) : List (Int × Int) := (List.range n).map fun (i : Nat) => (r, l + 1 + (i : Int))
def runTo (r l : Int) (n k : Nat) : List (Int × Int) := (List.range n).map fun (i : Nat) => if i < k then (r, l + 1 + (i : Int)) else (0, 0)
theorem run_len (r l : Int) (n : Nat) : (run r l n).length = n := by simp [run]
theorem runTo_len (r l : Int) (n k : Nat) : (runTo r l n k).length = n := by simp [runTo]
theorem runTo_all (r l : Int) (n : Nat) : runTo r l n n = run r l n := by
  unfold runTo run
  apply List.map_congr_left
  intro i hi
  simp at hi
  simp [hi]
theorem runTo_zero (r l : Int) (n : Nat) : dotCells (runTo r l n 0) = List.replicate (n * 2) (.int .i64 0) := by
  have h : runTo r l n 0 = List.replicate n (0, 0) := by
    apply List.ext_getElem
    · simp [runTo]
    · intro i h1 h2; simp [runTo]
  rw [h]
  induction n with
  | zero => rfl
  | succ n ih =>
    have h' : runTo r l n 0 = List.replicate n (0, 0) := by
      apply List.ext_getElem
      · simp [runTo]
      · intro i h1 h2; simp [runTo]
    rw [List.replicate_succ, dotCells_cons, ih h', show (n + 1) * 2 = n * 2 + 1 + 1 from by omega, List.replicate_succ, List.replicate_succ]
theorem runTo_step (r l : Int) (n k : Nat) : (runTo r l n k).set k (r, l + 1 + (k : Int)) = runTo r l n (k + 1) := by
  apply List.ext_getElem
  · simp [runTo]
  · intro i h1 h2
    rw [List.getElem_set]
    by_cases h : k = i
    · subst h; simp [runTo]
    · rw [if_neg h]
      simp only [runTo, List.getElem_map, List.getElem_range]
      by_cases h3 : i < k
      · rw [if_pos h3, if_pos (by omega)]
      · rw [if_neg h3, if_neg (by omega)]

theorem dot_info : (Try.prog.info? 30).map (fun i => (i.size, i.bytes)) = some (2, 16) := by kernel_rfl

/-- (a slice of dots, an error) -/
def NewDots (B : Nat) (w : World) (v : Value) (xs : List (Int × Int)) : Prop := ∃ p c, v = .slice p xs.length c ∧ xs.length ≤ c ∧ c ≤ maxLen ∧ Rd w w.heap.size p (dotCells xs) ∧ ∀ a, p = some a → B ≤ a.block
theorem NewDots.of_blk {w : World} {g B : Nat} {t : TypeId} {xs : List (Int × Int)} (h : Blk w g t (dotCells xs)) (hB : B ≤ g) (n : Nat) (hn : n = xs.length) (hm : n ≤ maxLen) : NewDots B w (.slice (some ⟨g, 0, none⟩) n n) xs := by
  subst hn
  exact ⟨_, _, rfl, Nat.le_refl _, hm, Rd.of_blk h (List.prefix_refl _), fun a ha => by injection ha with ha; subst ha; exact hB⟩
def RetDots (w : World) (xs : List (Int × Int)) (err : Int) (e : Ending) (w' : World) : Prop := ∃ v, e = .returned (.tuple #[v, .int .i64 err]) ∧ NewDots w.heap.size w' v xs ∧ Below w.heap.size w w'

/-- What Peek(n) gives. -/
def peekErr (l n : Int) : Int := if n < 0 ∨ 4096 < n then 2 else if 4294967295 - l < n then 15 else 0
def peekDots (r l n : Int) : List (Int × Int) := if n < 0 ∨ 4096 < n then [] else if 4294967295 - l < n then [] else run r l n.toNat

set_option maxHeartbeats 1000000 in
theorem peek_yes (c : Nat) (r l : Int) (n : Nat) (w : World) (h : Cnt w c 52 r l) (hr : r ≠ 0) (hl : 0 ≤ l) (hm : l ≤ 4294967295) (hn : n ≤ 4096) (hln : (n : Int) ≤ 4294967295 - l) :
    Calls Try.prog 19 #[.pointer (some ⟨c, 0, none⟩), .int .i64 n] w (RetDots w (run r l n) 0) := by
  have h0 := h.at0
  have h1 := h.at1
  have hmk := fun W => run_make (P := Try.prog) W 41 30 (Try.prog.info? 30).get! (.agg #[.int .i64 0, .int .i64 0]) Try.underlying41 (by kernel_rfl) (by kernel_rfl) .i64 .i64 (n : Int) (n : Int) (by omega) (Int.le_refl _) (by rw [show ((Try.prog.info? 30).get!).bytes = 16 from by kernel_rfl]; omega) (by omega)
  rw [show ((Try.prog.info? 30).get!).size = 2 from by kernel_rfl, Int.toNat_natCast] at hmk
  go_enter Try.func19, Try.ntmps19
  go_wp2_with (first | (go_at_call 27; refine (none_no c r _ h0 hr).mono ?_; rintro e w' ⟨rfl, rfl⟩) | (go_at_call 15; refine (left_any c 52 r l _ h hr hl hm).mono ?_; rintro e w' ⟨rfl, rfl⟩))
  generalize hW : (World.alloc _ _) = W
  have hblk : Blk W w.heap.size 30 (dotCells (runTo r l n 0)) := by
    have e : madeCells (Value.agg #[.int .i64 0, .int .i64 0]).cells (n * 2) = (dotCells (runTo r l n 0)).toArray := by
      rw [runTo_zero]
      apply Array.ext
      · simp [madeCells]
      · intro i i1 i2
        simp [madeCells, Value.cells]
        have : i % 2 = 0 ∨ i % 2 = 1 := by omega
        rcases this with h | h <;> simp [h]
    rw [← hW]
    have e2 : (w.alloc (.cells (madeCells #[.int .i64 0, .int .i64 0] (n * 2)) 30)) = w.alloc (.cells (dotCells (runTo r l n 0)).toArray 30) := by rw [← e]; rfl
    rw [e2]
    exact Blk.new w 30 _
  have hb : Below w.heap.size w W := by rw [← hW]; exact (Below.refl _ _).alloc (Nat.le_refl _) _
  have hlt := h.lt
  clear hW hmk h0 h1
  go_loopw [27] (fun i wr => ∃ k : Nat, k ≤ n ∧ i = .int .i64 k ∧ Blk wr w.heap.size 30 (dotCells (runTo r l n k)) ∧ Below w.heap.size w wr) (fun i _ => n - (intOf i).toNat)
  case atStart => exact ⟨0, Nat.zero_le _, rfl, hblk, hb⟩
  case round =>
    clear hblk hb
    obtain ⟨k, hk, rfl, hblk, hb⟩ := hrel
    by_cases hlt2 : k < n
    · have h0 := (h.below hb hlt).at0
      have h1 := (h.below hb hlt).at1
      have hi : (k : Int) < (n : Int) := by omega
      have hc0 := hblk.cell (k * 2)
      have hc1 := hblk.cell (k * 2 + 1)
      rw [dotCells_at0 _ _ (by rw [runTo_len]; exact hlt2)] at hc0
      rw [dotCells_at1 _ _ (by rw [runTo_len]; exact hlt2)] at hc1
      have hf0 := hblk.free (k * 2)
      have hf1 := hblk.free (k * 2 + 1)
      go_wp2_with fail
      go_region
      go_wp2
      go_roundw
      case rel =>
        refine ⟨k + 1, by omega, by go_num, ?_, ((hb.setCell (Nat.le_refl _) _).setCell (Nat.le_refl _) _).drew⟩
        rw [← runTo_step, ← dotCells_set]
        exact (hblk.set_ (k * 2) _).set_ (k * 2 + 1) _
      case measure => simp [intOf]; omega
    · go_wp2
      go_ret2
      refine ⟨_, rfl, ?_, hb⟩
      have hkn : k = n := by omega
      rw [← runTo_all, ← show runTo r l n k = runTo r l n n from by rw [hkn]]
      exact NewDots.of_blk hblk (Nat.le_refl _) n (by rw [runTo_len]) (by unfold maxLen; omega)

set_option maxHeartbeats 400000 in
theorem peek_no (c : Nat) (r l n : Int) (w : World) (h : Cnt w c 52 r l) (hr : r ≠ 0) (hl : 0 ≤ l) (hm : l ≤ 4294967295) (hn : n < 0 ∨ 4096 < n ∨ 4294967295 - l < n) :
    Calls Try.prog 19 #[.pointer (some ⟨c, 0, none⟩), .int .i64 n] w fun e w' => e = .returned (.tuple #[.slice none 0 0, .int .i64 (peekErr l n)]) ∧ w = w' := by
  have h0 := h.at0
  by_cases c1 : n < 0
  · rw [show peekErr l n = 2 from by simp [peekErr, c1]]
    clear hn
    go_enter Try.func19, Try.ntmps19
    go_wp2_with (first | (go_at_call 27; refine (none_no c r _ h0 hr).mono ?_; rintro e w' ⟨rfl, rfl⟩) | (go_at_call 15; refine (left_any c 52 r l _ h hr hl hm).mono ?_; rintro e w' ⟨rfl, rfl⟩))
    go_ret2
    exact ⟨rfl, rfl⟩
  · by_cases c2 : 4096 < n
    · rw [show peekErr l n = 2 from by simp [peekErr, c2]]
      clear hn
      go_enter Try.func19, Try.ntmps19
      go_wp2_with (first | (go_at_call 27; refine (none_no c r _ h0 hr).mono ?_; rintro e w' ⟨rfl, rfl⟩) | (go_at_call 15; refine (left_any c 52 r l _ h hr hl hm).mono ?_; rintro e w' ⟨rfl, rfl⟩))
      go_ret2
      exact ⟨rfl, rfl⟩
    · have c3 : 4294967295 - l < n := by omega
      rw [show peekErr l n = 15 from by simp [peekErr, c1, c2, c3]]
      clear hn
      go_enter Try.func19, Try.ntmps19
      go_wp2_with (first | (go_at_call 27; refine (none_no c r _ h0 hr).mono ?_; rintro e w' ⟨rfl, rfl⟩) | (go_at_call 15; refine (left_any c 52 r l _ h hr hl hm).mono ?_; rintro e w' ⟨rfl, rfl⟩))
      go_ret2
      exact ⟨rfl, rfl⟩

theorem peekDots_len (r l n : Int) : (peekDots r l n).length ≤ 4096 := by
  unfold peekDots
  split
  · simp
  · split
    · simp
    · rw [run_len]; omega
theorem peek_any (c : Nat) (r l n : Int) (w : World) (h : Cnt w c 52 r l) (hr : r ≠ 0) (hl : 0 ≤ l) (hm : l ≤ 4294967295) :
    Calls Try.prog 19 #[.pointer (some ⟨c, 0, none⟩), .int .i64 n] w (RetDots w (peekDots r l n) (peekErr l n)) := by
  by_cases hn : n < 0 ∨ 4096 < n ∨ 4294967295 - l < n
  · have e : peekDots r l n = [] := by
      unfold peekDots
      by_cases h1 : n < 0 ∨ 4096 < n
      · rw [if_pos h1]
      · rw [if_neg h1, if_pos (by omega)]
    rw [e]
    exact (peek_no c r l n w h hr hl hm hn).mono fun e w' ⟨h1, h2⟩ => ⟨_, h1, ⟨none, 0, rfl, Nat.le_refl _, Nat.zero_le _, .inl rfl, by simp⟩, by subst h2; exact Below.refl _ _⟩
  · have h1 : ¬ (n < 0 ∨ 4096 < n) := by omega
    rw [peekDots, if_neg h1, if_neg (by omega), peekErr, if_neg h1, if_neg (by omega)]
    obtain ⟨m, rfl⟩ := Int.eq_ofNat_of_zero_le (show 0 ≤ n by omega)
    rw [Int.toNat_natCast]
    exact peek_yes c r l m w h hr hl hm (by omega) (by omega)
end Go.Proofs.Ytloomdanpnkbmaa
