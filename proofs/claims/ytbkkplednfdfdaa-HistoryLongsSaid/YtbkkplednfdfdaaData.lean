/- What events and steps hold, in plain Lean; how it lies in memory; copies of lists. -/
import Derived.Test.YtbkkplednfdfdaaEvsA
namespace Go.Proofs.Ytbkkplednfdfdaa
open Go.RowKit

/-- A call: its numbers, names and bytes. -/
structure PC where
  op : Int
  key : ByteArray
  oth : ByteArray
  item : ByteArray
  qty : Int
  data : List Int
/-- An answer. -/
structure PA where
  op : Int
  err : Int
  cnt : Int
  lines : List (ByteArray × Int)
  bats : List (List Int)
structure PE where
  task : Int
  asked : Int
  made : Int
  ans : Int
  c : PC
  a : PA
structure PD where
  task : Int
  step : Int
  made : Bool
  c : PC
  a : PA
def PC.ok (c : PC) : Prop := c.data.length ≤ 100
def PA.ok (a : PA) : Prop := a.lines.length ≤ 10 ∧ a.bats.length ≤ 10 ∧ ∀ b ∈ a.bats, b.length ≤ 100
def PC.zero : PC := ⟨0, ByteArray.empty, ByteArray.empty, ByteArray.empty, 0, []⟩
def PA.zero : PA := ⟨0, 0, 0, [], []⟩
theorem PC.zero_ok : PC.zero.ok := Nat.zero_le _
theorem PA.zero_ok : PA.zero.ok := ⟨Nat.zero_le _, Nat.zero_le _, fun _ h => by cases h⟩

/-- The head of a slice. -/
structure Hd where
  q : Option Addr
  n : Nat
  c : Nat
def Hd.val (h : Hd) : Value := .slice h.q h.n h.c
def bys (l : List Int) : List Value := l.map (Value.int .u8)
def lns (l : List (ByteArray × Int)) : List Value := l.flatMap (fun x => [Value.string x.1, Value.int .i64 x.2])
def hds (l : List Hd) : List Value := l.map Hd.val
theorem bys_len (l : List Int) : (bys l).length = l.length := by simp [bys]
theorem hds_len (l : List Hd) : (hds l).length = l.length := by simp [hds]
theorem lns_cons (x : ByteArray × Int) (l : List (ByteArray × Int)) : lns (x :: l) = .string x.1 :: .int .i64 x.2 :: lns l := rfl
theorem lns_len : ∀ l : List (ByteArray × Int), (lns l).length = l.length * 2
  | [] => rfl
  | x :: l => by rw [lns_cons, List.length_cons, List.length_cons, lns_len l, List.length_cons]; omega
theorem lns_at : ∀ (l : List (ByteArray × Int)) (k : Nat) (h : k < l.length), (lns l)[k * 2]? = some (.string l[k].1) ∧ (lns l)[k * 2 + 1]? = some (.int .i64 l[k].2)
  | x :: l, 0, _ => ⟨rfl, rfl⟩
  | x :: l, k + 1, h => by
    have := lns_at l k (by simpa using h)
    rw [lns_cons, show (k + 1) * 2 = k * 2 + 1 + 1 by omega]
    simpa using this
theorem bys_one (l : List Int) : ∀ u ∈ bys l, u.oneCell' = true := by
  intro u hu
  simp only [bys, List.mem_map] at hu
  obtain ⟨x, _, rfl⟩ := hu
  rfl
theorem hds_one (l : List Hd) : ∀ u ∈ hds l, u.oneCell' = true := by
  intro u hu
  simp only [hds, List.mem_map] at hu
  obtain ⟨x, _, rfl⟩ := hu
  rfl
theorem lns_one (l : List (ByteArray × Int)) : ∀ u ∈ lns l, u.oneCell' = true := by
  intro u hu
  simp only [lns, List.mem_flatMap] at hu
  obtain ⟨x, _, hx⟩ := hu
  simp at hx
  rcases hx with rfl | rfl <;> rfl

/-- A list at the start of a block of its type, that is not below B. -/
def RdD (w : World) (B : Nat) (t : TypeId) (p : Option Addr) (xs : List Value) : Prop :=
  xs = [] ∨ ∃ b o cs, p = some ⟨b, o, none⟩ ∧ (B ≤ b ∧ o = 0) ∧ Blk w b t cs ∧ ∀ (j : Nat) (u : Value), xs[j]? = some u → cs[o + j]? = some u
section
variable {w w' : World} {B B' : Nat} {t : TypeId} {p : Option Addr} {xs : List Value}
theorem RdD.rd (h : RdD w B t p xs) : Rd w w.heap.size p xs := by
  rcases h with h | ⟨b, o, cs, hp, _, hb, hc⟩
  · exact .inl h
  · exact .inr ⟨b, o, hp, hb.lt, fun j u hu => by rw [hb.cell]; exact hc j u hu⟩
theorem RdD.kept (h : RdD w B t p xs) (hb : Below w.heap.size w w') : RdD w' B t p xs := by
  rcases h with h | ⟨b, o, cs, hp, hB, hk, hc⟩
  · exact .inl h
  · exact .inr ⟨b, o, cs, hp, hB, hk.kept hb, hc⟩
theorem RdD.low (h : RdD w B t p xs) (hB : B' ≤ B) : RdD w B' t p xs := by
  rcases h with h | ⟨b, o, cs, hp, hb, hk, hc⟩
  · exact .inl h
  · exact .inr ⟨b, o, cs, hp, ⟨Nat.le_trans hB hb.1, hb.2⟩, hk, hc⟩
/-- Past a store into a block of another type. -/
theorem RdD.far (h : RdD w B t p xs) {g i : Nat} {t' : TypeId} {cs' : List Value} (hg : Blk w g t' cs') (ht : t ≠ t') (u : Value) : RdD (w.setCell ⟨g, i, none⟩ u) B t p xs := by
  rcases h with h | ⟨b, o, cs, hp, hB, hk, hc⟩
  · exact .inl h
  · refine .inr ⟨b, o, cs, hp, hB, hk.far (fun e => ?_) u, hc⟩
    have e : b = g := e
    subst e
    unfold Blk at hk hg
    rw [hk] at hg
    injection hg with hg
    injection hg with _ h2
    exact ht h2
theorem RdD.same (h : RdD w B t p xs) (e : w'.heap = w.heap) : RdD w' B t p xs := by
  rcases h with h | ⟨b, o, cs, hp, hB, hk, hc⟩
  · exact .inl h
  · exact .inr ⟨b, o, cs, hp, hB, hk.same (by rw [e]), hc⟩
theorem RdD.of_own {base n c size : Nat} (h : w.ownsRow base t size (.slice p n c) n xs) : RdD w base t p xs := by
  rcases h.2 with ⟨h1, h2⟩ | ⟨g, cap, cur, hv, hg, hh, hn, hc, hs, ht⟩
  · have := h.1
    subst h2
    exact .inl (List.eq_nil_of_length_eq_zero (by simpa using this))
  · injection hv with hp
    subst hp
    refine .inr ⟨g, 0, cur.toList, rfl, ⟨hg, rfl⟩, by unfold Blk; simpa using hh, fun j u hu => ?_⟩
    rw [Nat.zero_add]
    rw [← ht, List.getElem?_take] at hu
    split at hu
    · simpa using hu
    · cases hu
end

/-- How lists are read. -/
abbrev Rdr := TypeId → Option Addr → List Value → Prop
/-- The cells of a call say what c says. -/
structure CR (R : Rdr) (op : Int) (key oth item : ByteArray) (qty : Int) (dq : Option Addr) (dn dc : Nat) (c : PC) : Prop where
  op : op = c.op
  key : key = c.key
  oth : oth = c.oth
  item : item = c.item
  qty : qty = c.qty
  len : dn = c.data.length
  cap : dn ≤ dc
  rd : R 5 dq (bys c.data)
structure AR (R : Rdr) (op err cnt : Int) (lq : Option Addr) (ln lc : Nat) (bq : Option Addr) (bn bc : Nat) (a : PA) : Prop where
  op : op = a.op
  err : err = a.err
  cnt : cnt = a.cnt
  len : ln = a.lines.length
  cap : ln ≤ lc
  rd : R 43 lq (lns a.lines)
  blen : bn = a.bats.length
  bcap : bn ≤ bc
  bats : ∃ hs : List Hd, hs.length = a.bats.length ∧ R 37 bq (hds hs) ∧ ∀ (i : Nat) (h : Hd) (b : List Int), hs[i]? = some h → a.bats[i]? = some b → h.n = b.length ∧ h.n ≤ h.c ∧ R 5 h.q (bys b)
theorem CR.imp {R R' : Rdr} {op : Int} {key oth item : ByteArray} {qty : Int} {dq : Option Addr} {dn dc : Nat} {c : PC} (h : CR R op key oth item qty dq dn dc c) (hi : ∀ p xs, R 5 p xs → R' 5 p xs) : CR R' op key oth item qty dq dn dc c :=
  ⟨h.op, h.key, h.oth, h.item, h.qty, h.len, h.cap, hi _ _ h.rd⟩
theorem AR.imp {R R' : Rdr} {op err cnt : Int} {lq : Option Addr} {ln lc : Nat} {bq : Option Addr} {bn bc : Nat} {a : PA} (h : AR R op err cnt lq ln lc bq bn bc a) (hi : ∀ t p xs, R t p xs → R' t p xs) : AR R' op err cnt lq ln lc bq bn bc a := by
  obtain ⟨hs, h1, h2, h3⟩ := h.bats
  exact ⟨h.op, h.err, h.cnt, h.len, h.cap, hi _ _ _ h.rd, h.blen, h.bcap, hs, h1, hi _ _ _ h2, fun i x b hx hb => ⟨(h3 i x b hx hb).1, (h3 i x b hx hb).2.1, hi _ _ _ (h3 i x b hx hb).2.2⟩⟩
/-- An event in memory says what p says. -/
structure EvR (R : Rdr) (x : Ev) (p : PE) : Prop where
  task : x.task = p.task
  asked : x.asked = p.asked
  made : x.made = p.made
  ans : x.ans = p.ans
  c : CR R x.op x.key x.oth x.item x.qty x.dq x.dn x.dc p.c
  a : AR R x.aop x.aerr x.acnt x.lq x.ln x.lc x.bq x.bn x.bc p.a
theorem EvR.imp {R R' : Rdr} {x : Ev} {p : PE} (h : EvR R x p) (hi : ∀ t p xs, R t p xs → R' t p xs) : EvR R' x p := ⟨h.task, h.asked, h.made, h.ans, h.c.imp (hi 5), h.a.imp hi⟩
theorem CR.zero (R : Rdr) (hR : ∀ t, R t none []) : CR R 0 ByteArray.empty ByteArray.empty ByteArray.empty 0 none 0 0 PC.zero := ⟨rfl, rfl, rfl, rfl, rfl, rfl, Nat.le_refl _, hR 5⟩
theorem AR.zero (R : Rdr) (hR : ∀ t, R t none []) : AR R 0 0 0 none 0 0 none 0 0 PA.zero := ⟨rfl, rfl, rfl, rfl, Nat.le_refl _, hR 43, rfl, Nat.le_refl _, [], rfl, hR 37, fun i h b hx => by simp at hx⟩
/-- Lists are read through the world, in blocks below B. -/
abbrev RdW (w : World) (B : Nat) : Rdr := fun _ p xs => Rd w B p xs

/-! ### copies of lists -/
theorem byte_info : (Try.prog.info? 5).map (fun i => (i.zero, i.size, i.bytes)) = some (some (.int .u8 0), 1, 1) := by kernel_rfl
theorem line_info : (Try.prog.info? 43).map (fun i => (i.zero, i.size, i.bytes)) = some (some (.agg #[.string ByteArray.empty, .int .i64 0]), 2, 24) := by kernel_rfl
theorem bat_info : (Try.prog.info? 37).map (fun i => (i.zero, i.size, i.bytes)) = some (some (.slice none 0 0), 1, 24) := by kernel_rfl
def RetOwn (w : World) (t : TypeId) (size n : Nat) (xs : List Value) (e : Ending) (w' : World) : Prop := ∃ p c, e = .returned (.slice p n c) ∧ n ≤ c ∧ w'.ownsRow w.heap.size t size (.slice p n c) n xs ∧ Below w.heap.size w w'
theorem ret_own {w w' : World} {t : TypeId} {size n : Nat} {xs : List Value} {v : Value} (h : w'.ownsRow w.heap.size t size v n xs) (hb : Below w.heap.size w w') : RetOwn w t size n xs (.returned v) w' := by
  obtain ⟨p, c, rfl, h1, _⟩ := own_shape h
  exact ⟨p, c, rfl, h1, h, hb⟩
theorem rd_none {w : World} {B : Nat} {xs : List Value} (h : Rd w B none xs) : xs = [] := by
  rcases h with h | ⟨b, o, h, _⟩
  · exact h
  · cases h
theorem clone41_any (p : Option Addr) (n c : Nat) (xs : List Value) (w : World) (h : Rd w w.heap.size p xs) (hn : xs.length = n * 1) (hu : ∀ u ∈ xs, u.oneCell' = true) (hl : n ≤ 1000000) :
    Calls Try.prog 41 #[.slice p n c] w (RetOwn w 5 1 n xs) := by
  rcases p with _ | ad
  · have he := fun w => Lib.run_eql_slice_nil (P := Try.prog) w 37 5 none n c 0 0 Try.underlying37
    have hx : xs = [] := rd_none h
    subst hx
    have hn : n = 0 := by simp only [List.length_nil] at hn; omega
    subst hn
    clear h
    go_enter Try.func41, Try.ntmps41
    go_wp2_with fail
    go_ret
    exact ret_own (World.ownsRow_nil _ _ _ _) (Below.refl _ _)
  · have he := fun w => Lib.run_eql_slice_nil (P := Try.prog) w 37 5 (some ad) n c 0 0 Try.underlying37
    have HN := Lib.hid hn
    have HU := Lib.hid hu
    clear hn hu
    go_enter Try.func41, Try.ntmps41
    go_wp2_with (at_builtin; refine wpList_appM rfl (.tmp 5) (.tmp 6) 37 rfl w.heap.size 5 _ 1 1 Try.underlying37 byte_info rfl (by omega) _ 0 [] rfl (own_built (Blk.new w 5 []) (Nat.le_refl _) rfl (by unfold maxLen; omega)) w.heap.size (some ad) n c xs rfl (by rw [HN.out]) (h.below ((Below.refl _ _).alloc (Nat.le_refl _) _)) HU.out (by omega) (by omega) (by simp) ?_; intro v' w' hown hbl _ _)
    go_ret
    rw [Nat.zero_add, List.nil_append] at hown
    exact ret_own hown (((Below.refl _ _).alloc (Nat.le_refl _) _).trans hbl)
theorem clone42_any (p : Option Addr) (n c : Nat) (xs : List Value) (w : World) (h : Rd w w.heap.size p xs) (hn : xs.length = n * 2) (hu : ∀ u ∈ xs, u.oneCell' = true) (hl : n ≤ 1000000) :
    Calls Try.prog 42 #[.slice p n c] w (RetOwn w 43 2 n xs) := by
  rcases p with _ | ad
  · have he := fun w => Lib.run_eql_slice_nil (P := Try.prog) w 33 43 none n c 0 0 Try.underlying33
    have hx : xs = [] := rd_none h
    subst hx
    have hn : n = 0 := by simp only [List.length_nil] at hn; omega
    subst hn
    clear h
    go_enter Try.func42, Try.ntmps42
    go_wp2_with fail
    go_ret
    exact ret_own (World.ownsRow_nil _ _ _ _) (Below.refl _ _)
  · have he := fun w => Lib.run_eql_slice_nil (P := Try.prog) w 33 43 (some ad) n c 0 0 Try.underlying33
    have HN := Lib.hid hn
    have HU := Lib.hid hu
    clear hn hu
    go_enter Try.func42, Try.ntmps42
    go_wp2_with (at_builtin; refine wpList_appM rfl (.tmp 5) (.tmp 6) 33 rfl w.heap.size 43 _ 2 24 Try.underlying33 line_info rfl (by omega) _ 0 [] rfl (own_built (Blk.new w 43 []) (Nat.le_refl _) rfl (by unfold maxLen; omega)) w.heap.size (some ad) n c xs rfl (by rw [HN.out]) (h.below ((Below.refl _ _).alloc (Nat.le_refl _) _)) HU.out (by omega) (by omega) (by simp) ?_; intro v' w' hown hbl _ _)
    go_ret
    rw [Nat.zero_add, List.nil_append] at hown
    exact ret_own hown (((Below.refl _ _).alloc (Nat.le_refl _) _).trans hbl)
theorem clone43_any (p : Option Addr) (n c : Nat) (xs : List Value) (w : World) (h : Rd w w.heap.size p xs) (hn : xs.length = n * 1) (hu : ∀ u ∈ xs, u.oneCell' = true) (hl : n ≤ 1000000) :
    Calls Try.prog 43 #[.slice p n c] w (RetOwn w 37 1 n xs) := by
  rcases p with _ | ad
  · have he := fun w => Lib.run_eql_slice_nil (P := Try.prog) w 34 37 none n c 0 0 Try.underlying34
    have hx : xs = [] := rd_none h
    subst hx
    have hn : n = 0 := by simp only [List.length_nil] at hn; omega
    subst hn
    clear h
    go_enter Try.func43, Try.ntmps43
    go_wp2_with fail
    go_ret
    exact ret_own (World.ownsRow_nil _ _ _ _) (Below.refl _ _)
  · have he := fun w => Lib.run_eql_slice_nil (P := Try.prog) w 34 37 (some ad) n c 0 0 Try.underlying34
    have HN := Lib.hid hn
    have HU := Lib.hid hu
    clear hn hu
    go_enter Try.func43, Try.ntmps43
    go_wp2_with (at_builtin; refine wpList_appM rfl (.tmp 5) (.tmp 6) 34 rfl w.heap.size 37 _ 1 24 Try.underlying34 bat_info rfl (by omega) _ 0 [] rfl (own_built (Blk.new w 37 []) (Nat.le_refl _) rfl (by unfold maxLen; omega)) w.heap.size (some ad) n c xs rfl (by rw [HN.out]) (h.below ((Below.refl _ _).alloc (Nat.le_refl _) _)) HU.out (by omega) (by omega) (by simp) ?_; intro v' w' hown hbl _ _)
    go_ret
    rw [Nat.zero_add, List.nil_append] at hown
    exact ret_own hown (((Below.refl _ _).alloc (Nat.le_refl _) _).trans hbl)
end Go.Proofs.Ytbkkplednfdfdaa
