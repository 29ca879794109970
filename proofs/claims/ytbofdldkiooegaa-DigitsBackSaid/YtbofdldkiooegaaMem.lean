/- What the walks say of memory: a slice value that reads as a list of numbers; a slice that a call has made itself and owns; what stays below a block number. No function of the program. -/
import Derived.WalkKit
import Derived.WalkSpells
import Derived.WalkLawsBesides
import Derived.Deep.LoopGhost
import Derived.Deep.QuietTactic
import Derived.BigQuiet
import Derived.Lib.Hide
import Derived.Laws.AppendOwnNone
import Derived.Test.YtbofdldkiooegaaNum
namespace Tw
open Go Go.RowKit
set_option linter.unusedVariables false
set_option linter.unusedSimpArgs false

/-- the cells from ⟨b, off⟩ on hold the numbers l -/
def CellsG (k : IntKind) (w : World) (b off : Nat) (l : List Nat) : Prop :=
  ∀ i, i < l.length → w.cell? ⟨b, off + i, none⟩ = some (.int k ((nth l i : Nat) : Int))

/-- a slice's address, length and room: it reads as the numbers l, all below B -/
def LsS (k : IntKind) (B : Nat) (w : World) (a : Option Addr) (cap : Nat) (l : List Nat) : Prop :=
  l.length ≤ cap ∧ cap ≤ maxLen ∧ Dig B l ∧ (l ≠ [] → ∃ b off, a = some ⟨b, off, none⟩ ∧ CellsG k w b off l)

/-- a value that is a slice of numbers -/
def Ls (k : IntKind) (B : Nat) (w : World) (v : Value) (l : List Nat) : Prop := ∃ a cap, v = .slice a l.length cap ∧ LsS k B w a cap l

abbrev Cells := CellsG .u64
abbrev WdS := LsS .u64 W
abbrev Wd := Ls .u64 W

theorem CellsG.lt {k : IntKind} {w : World} {b off : Nat} {l : List Nat} (h : CellsG k w b off l) (hl : 0 < l.length) : b < w.heap.size := by
  have := h 0 hl
  exact World.block_lt_of_cell? w _ this

theorem CellsG.below {k : IntKind} {w w' : World} {b off : Nat} {l : List Nat} {B : Nat} (h : CellsG k w b off l) (hB : b < B) (hb : Below B w w') : CellsG k w' b off l := by
  intro i hi
  rw [hb.cell (p := ⟨b, off + i, none⟩) hB]
  exact h i hi

theorem CellsG.take {k : IntKind} {w : World} {b off : Nat} {l : List Nat} (h : CellsG k w b off l) (n : Nat) : CellsG k w b off (l.take n) := by
  intro i hi
  simp at hi
  rw [nth_take (by omega)]
  exact h i (by omega)

theorem CellsG.drop {k : IntKind} {w : World} {b off : Nat} {l : List Nat} (h : CellsG k w b off l) (n : Nat) : CellsG k w b (off + n) (l.drop n) := by
  intro i hi
  simp at hi
  rw [nth_drop, Nat.add_assoc]
  exact h (n + i) (by omega)

theorem LsS.below {k : IntKind} {B : Nat} {w w' : World} {a : Option Addr} {cap : Nat} {l : List Nat} (h : LsS k B w a cap l) (hb : Below w.heap.size w w') : LsS k B w' a cap l := by
  obtain ⟨h1, h2, h3, h4⟩ := h
  refine ⟨h1, h2, h3, fun hl => ?_⟩
  obtain ⟨b, off, rfl, hc⟩ := h4 hl
  exact ⟨b, off, rfl, hc.below (hc.lt (List.length_pos_iff.2 hl)) hb⟩

theorem Ls.below {k : IntKind} {B : Nat} {w w' : World} {v : Value} {l : List Nat} (h : Ls k B w v l) (hb : Below w.heap.size w w') : Ls k B w' v l := by
  obtain ⟨a, cap, rfl, h⟩ := h
  exact ⟨a, cap, rfl, h.below hb⟩

theorem LsS.take {k : IntKind} {B : Nat} {w : World} {a : Option Addr} {cap : Nat} {l : List Nat} (h : LsS k B w a cap l) (n : Nat) : LsS k B w a cap (l.take n) := by
  obtain ⟨h1, h2, h3, h4⟩ := h
  refine ⟨by simp; omega, h2, h3.take n, fun hl => ?_⟩
  obtain ⟨b, off, rfl, hc⟩ := h4 (by intro e; subst e; simp at hl)
  exact ⟨b, off, rfl, hc.take n⟩

theorem LsS.drop {k : IntKind} {B : Nat} {w : World} {b off : Nat} {cap : Nat} {l : List Nat} (h : LsS k B w (some ⟨b, off, none⟩) cap l) (hc : CellsG k w b off l) (n : Nat) :
    LsS k B w (some ⟨b, off + n, none⟩) (cap - n) (l.drop n) :=
  ⟨by have := h.1; simp; omega, by have := h.2.1; omega, h.2.2.1.drop n, fun _ => ⟨b, off + n, rfl, hc.drop n⟩⟩

theorem LsS.drawn {k : IntKind} {B : Nat} {w : World} {a : Option Addr} {cap : Nat} {l : List Nat} (h : LsS k B w a cap l) (n : Nat) : LsS k B (w.drewN n) a cap l := h
theorem Ls.drawn {k : IntKind} {B : Nat} {w : World} {v : Value} {l : List Nat} (h : Ls k B w v l) (n : Nat) : Ls k B (w.drewN n) v l := h

theorem Ls.dig {k : IntKind} {B : Nat} {w : World} {v : Value} {l : List Nat} (h : Ls k B w v l) : Dig B l := by
  obtain ⟨a, cap, _, h⟩ := h; exact h.2.2.1

/-- a nil slice is the empty list -/
theorem Ls.nil (k : IntKind) (B : Nat) (w : World) : Ls k B w (.slice none 0 0) [] :=
  ⟨none, 0, rfl, Nat.le_refl _, Nat.zero_le _, Dig.nil B, fun h => absurd rfl h⟩

theorem bel_drewN (w : World) (n : Nat) (B : Nat) : Below B w (w.drewN n) := ⟨rfl, rfl, rfl, Nat.le_refl _, fun _ _ => rfl⟩
theorem bel_drawn {B : Nat} {w w' : World} (h : Below B w w') (n : Nat) : Below B w (w'.drewN n) := h.trans (bel_drewN w' n B)

/-- the one form of what a list of digits counts is a beginning of it -/
theorem digs_prefix {B : Nat} (hB : 2 ≤ B) {l : List Nat} (hd : Dig B l) : ∃ k, k ≤ l.length ∧ digs B (val B l) = l.take k ∧ (digs B (val B l)).length = k := by
  have key : ∀ n, n ≤ l.length → (∀ i, n ≤ i → i < l.length → nth l i = 0) → ∃ k, k ≤ l.length ∧ digs B (val B l) = l.take k := by
    intro n
    induction n with
    | zero => intro _ hz; exact ⟨0, Nat.zero_le _, digs_take hB hd (Nat.zero_le _) hz (.inl rfl)⟩
    | succ n ih =>
      intro hn hz
      by_cases h0 : nth l n = 0
      · refine ih (by omega) fun i hi hl => ?_
        rcases Nat.eq_or_lt_of_le hi with e | e
        · subst e; exact h0
        · exact hz i e hl
      · exact ⟨n + 1, hn, digs_take hB hd hn hz (.inr (by simpa using h0))⟩
  obtain ⟨k, hk, e⟩ := key l.length (Nat.le_refl _) (fun i h1 h2 => absurd h2 (by omega))
  exact ⟨k, hk, e, by rw [e]; simp [hk]⟩

theorem LsS.trim {k : IntKind} {B : Nat} (hB : 2 ≤ B) {w : World} {a : Option Addr} {cap : Nat} {l : List Nat} (h : LsS k B w a cap l) : LsS k B w a cap (digs B (val B l)) := by
  obtain ⟨n, _, e, _⟩ := digs_prefix hB h.2.2.1
  rw [e]; exact h.take n

theorem ret_val {a b : Value} (h : a = b) : Ending.returned a = .returned b := by rw [h]
theorem ret_slice {a : Option Addr} {m n cap : Nat} (h : m = n) : Ending.returned (.slice a m cap) = .returned (.slice a n cap) := by rw [h]
theorem ret_int {k : IntKind} {a b : Int} (h : a = b) : Ending.returned (.int k a) = .returned (.int k b) := by rw [h]
theorem ret_bool {a b : Bool} (h : a = b) : Ending.returned (.bool a) = .returned (.bool b) := by rw [h]

/-! ### what a call has made itself -/

/-- the cells' contents -/
def enc (k : IntKind) (l : List Nat) : List Value := l.map fun x => .int k ((x : Nat) : Int)

theorem enc_length (k : IntKind) (l : List Nat) : (enc k l).length = l.length := by simp [enc]
theorem enc_get {k : IntKind} {l : List Nat} {i : Nat} (h : i < l.length) : (enc k l)[i]? = some (.int k ((nth l i : Nat) : Int)) := by
  simp [enc, h, nth_lt h]
theorem enc_append (k : IntKind) (l m : List Nat) : enc k (l ++ m) = enc k l ++ enc k m := by simp [enc]
theorem enc_set (k : IntKind) (l : List Nat) (i x : Nat) : enc k (l.set i x) = (enc k l).set i (.int k ((x : Nat) : Int)) := by
  simp [enc, List.map_set]
theorem enc_take (k : IntKind) (l : List Nat) (n : Nat) : enc k (l.take n) = (enc k l).take n := by simp [enc, List.map_take]

/-- v is nil, or the head of a row among the blocks from base on; it holds the numbers l, all below B -/
def Own (k : IntKind) (e : TypeId) (B : Nat) (base : Nat) (w : World) (v : Value) (l : List Nat) : Prop :=
  w.ownsRow base e 1 v l.length (enc k l) ∧ Dig B l

section
variable {k : IntKind} {e : TypeId} {B base : Nat} {w w' : World} {v : Value} {l : List Nat}

theorem Own.dig (h : Own k e B base w v l) : Dig B l := h.2

theorem Own.shape (h : Own k e B base w v l) : (v = .slice none 0 0 ∧ l = []) ∨ ∃ g cap, v = .slice (some ⟨g, 0, none⟩) l.length cap ∧ base ≤ g ∧ g < w.heap.size ∧ l.length ≤ cap ∧ cap ≤ maxLen := by
  rcases h.1.2 with ⟨h1, h2⟩ | ⟨g, cap, cur, h1, h2, h3, h4, h5, _⟩
  · exact .inl ⟨h1, List.eq_nil_of_length_eq_zero h2⟩
  · refine .inr ⟨g, cap, h1, h2, ?_, h4, h5⟩
    rcases Nat.lt_or_ge g w.heap.size with hlt | hge
    · exact hlt
    · rw [Array.getElem?_eq_none hge] at h3; simp at h3

theorem Own.cell {g cap : Nat} (h : Own k e B base w (.slice (some ⟨g, 0, none⟩) l.length cap) l) {i : Nat} (hi : i < l.length) :
    w.cell? ⟨g, i, none⟩ = some (.int k ((nth l i : Nat) : Int)) := by
  rw [h.1.cellAt i (by omega), enc_get hi]

theorem Own.free {g n cap : Nat} (h : Own k e B base w (.slice (some ⟨g, 0, none⟩) n cap) l) (hn : n = l.length) (i : Nat) : w.frozen? ⟨g, i, none⟩ = false := by
  subst hn; exact h.1.frozenAt i

theorem Own.ls (h : Own k e B base w v l) : Ls k B w v l := by
  rcases h.shape with ⟨rfl, rfl⟩ | ⟨g, cap, rfl, _, _, h4, h5⟩
  · exact Ls.nil k B w
  · exact ⟨_, cap, rfl, h4, h5, h.2, fun _ => ⟨g, 0, rfl, fun i hi => by rw [Nat.zero_add]; exact h.cell hi⟩⟩

theorem Own.lsS {a : Option Addr} {n cap : Nat} (h : Own k e B base w (.slice a n cap) l) : LsS k B w a cap l := by
  obtain ⟨a', cap', h1, h2⟩ := h.ls
  simp only [Value.slice.injEq] at h1
  obtain ⟨rfl, -, rfl⟩ := h1
  exact h2

theorem Own.mono {base' : Nat} (h : Own k e B base w v l) (hb : base' ≤ base) : Own k e B base' w v l := by
  refine ⟨⟨h.1.1, ?_⟩, h.2⟩
  rcases h.1.2 with h1 | ⟨g, cap, cur, h1, h2, r⟩
  · exact .inl h1
  · exact .inr ⟨g, cap, cur, h1, by omega, r⟩

theorem Own.nil (k : IntKind) (e : TypeId) (B base : Nat) (w : World) : Own k e B base w (.slice none 0 0) [] :=
  ⟨World.ownsRow_nil w base e 1, Dig.nil B⟩

theorem Own.drawn (h : Own k e B base w v l) (n : Nat) : Own k e B base (w.drewN n) v l := h
theorem Own.drew (h : Own k e B base w v l) : Own k e B base w.drew v l := h

/-- a whole new block -/
theorem Own.lit (k : IntKind) (e : TypeId) (B base : Nat) (w : World) (cs : Array Value) (l : List Nat) (hb : base ≤ w.heap.size) (hm : l.length ≤ maxLen) (hc : cs.toList = enc k l) (hd : Dig B l) :
    Own k e B base (w.alloc (.cells cs e)) (.slice (some ⟨w.heap.size, 0, none⟩) l.length l.length) l := by
  have hs : cs.size = l.length := by rw [← Array.length_toList, hc, enc_length]
  have := World.ownsRow_lit (e := e) (size := 1) w cs l.length hb hm (by omega)
  rw [hc] at this
  exact ⟨this, hd⟩

theorem Own.below (h : Own k e B base w v l) (hb : Below w.heap.size w w') : Own k e B base w' v l := by
  refine ⟨⟨h.1.1, ?_⟩, h.2⟩
  rcases h.1.2 with h1 | ⟨g, cap, cur, h1, h2, h3, r⟩
  · exact .inl h1
  · refine .inr ⟨g, cap, cur, h1, h2, ?_, r⟩
    have : g < w.heap.size := by
      rcases Nat.lt_or_ge g w.heap.size with hlt | hge
      · exact hlt
      · rw [Array.getElem?_eq_none hge] at h3; simp at h3
    rw [hb.block g this]; exact h3

theorem Own.alloc (h : Own k e B base w v l) (o : Obj) : Own k e B base (w.alloc o) v l := h.below ((Below.refl _ _).alloc (Nat.le_refl _) _)

theorem Own.set {g n cap : Nat} (h : Own k e B base w (.slice (some ⟨g, 0, none⟩) n cap) l) (hn : n = l.length) (i x : Nat) (hx : x < B) :
    Own k e B base (w.setCell ⟨g, i, none⟩ (.int k ((x : Nat) : Int))) (.slice (some ⟨g, 0, none⟩) n cap) (l.set i x) := by
  subst hn
  have := (h.1.stored i (.int k ((x : Nat) : Int))).1
  rw [← enc_set] at this
  refine ⟨?_, h.2.set hx i⟩
  simpa using this

theorem Own.take {g cap : Nat} (h : Own k e B base w (.slice (some ⟨g, 0, none⟩) l.length cap) l) (n : Nat) (hn : n ≤ l.length) :
    Own k e B base w (.slice (some ⟨g, 0, none⟩) n cap) (l.take n) := by
  have hlen : (l.take n).length = n := by simp [hn]
  refine ⟨⟨by rw [enc_length]; omega, ?_⟩, h.2.take n⟩
  rcases h.1.2 with ⟨h1, _⟩ | ⟨g', cap', cur, h1, h2, h3, h4, h5, h6, h7⟩
  · simp at h1
  · simp only [Value.slice.injEq, Option.some.injEq, Addr.mk.injEq, and_true, true_and] at h1
    obtain ⟨rfl, rfl⟩ := h1
    refine .inr ⟨g, cap, cur, by rw [hlen], h2, h3, by omega, h5, h6, ?_⟩
    rw [hlen, enc_take, ← h7, List.take_take, Nat.mul_one, Nat.mul_one, Nat.min_eq_left hn]

/-- what trimmed hands back of an owned slice is owned -/
theorem Own.trim {a : Option Addr} {n cap : Nat} (hB : 2 ≤ B) (h : Own k e B base w (.slice a n cap) l) (hn : n = l.length) :
    Own k e B base w (.slice a (digs B (val B l)).length cap) (digs B (val B l)) := by
  subst hn
  rcases h.shape with ⟨h1, rfl⟩ | ⟨g, cap', h1, _⟩
  · simp only [Value.slice.injEq] at h1
    obtain ⟨rfl, -, rfl⟩ := h1
    have : digs B (val B []) = [] := by rw [val_nil, digs_zero]
    rw [this]
    exact Own.nil k e B base w
  · simp only [Value.slice.injEq, true_and] at h1
    obtain ⟨rfl, rfl⟩ := h1
    obtain ⟨m, hm, e1, e2⟩ := digs_prefix hB h.2
    rw [e2, e1]
    exact h.take m hm

theorem cells_news {l : List Nat} {a : Addr} {b off : Nat} (ha : a = ⟨b, off, none⟩) (h : CellsG k w b off l) : ∀ j u, (enc k l)[j]? = some u → w.cell? (a.add j) = some u := by
  intro j u hu
  subst ha
  have hj : j < l.length := by
    rcases Nat.lt_or_ge j l.length with h | h
    · exact h
    · rw [List.getElem?_eq_none (by rw [enc_length]; exact h)] at hu; simp at hu
  rw [enc_get hj] at hu
  have := h j hj
  unfold Addr.add
  split
  · rename_i h0; subst h0; simpa [hu] using this
  · simpa [hu] using this

theorem oneCell_enc (k : IntKind) (l : List Nat) : ∀ u ∈ enc k l, u.oneCell' = true := by
  intro u hu
  simp only [enc, List.mem_map] at hu
  obtain ⟨x, _, rfl⟩ := hu
  rfl
end

/-- a make of n elements with room for c, both variables -/
theorem wpList_make_z {P : Program} (w : World) {ops : Array Oper} {rest : List Oper} {o : Oper} {a : Act} {Q : Exit → Act → World → Prop}
    (hg : o.guard = none) (l c : Operand) (t : TypeId) (hop : o.op = Op.makeSlice t l c)
    (base : Nat) (e : TypeId) (k : IntKind) (bytes B : Nat) (h1 : P.underlying t = some (.slice e)) (h2 : (P.info? e).map (fun i => (i.zero, i.size, i.bytes)) = some (some (.int k 0), 1, bytes))
    (kl kc : IntKind) (L C : Int) (n cap : Nat) (hl : a.eval l = .int kl L) (hc : a.eval c = .int kc C) (hL : L = (n : Int)) (hC : C = (cap : Int)) (hnc : n ≤ cap)
    (b2 : bytes * cap ≤ 281474976710656) (b3 : cap ≤ maxLen) (b4 : base ≤ w.heap.size) (hB : 0 < B)
    (hK : ∀ w', Own k e B base w' (.slice (some ⟨w.heap.size, 0, none⟩) n cap) (List.replicate n 0) → Below w.heap.size w w' → w'.heap.size = w.heap.size + 1 → wpList P ops Q rest (a.put o.dst (.slice (some ⟨w.heap.size, 0, none⟩) n cap)) w') :
    wpList P ops Q (o :: rest) a w := by
  refine wpList_plain hg fun K hK' => ?_
  obtain ⟨i, hi, hz, hsz, hby⟩ := info_parts h2
  subst hL hC
  have h63' : (cap : Int) ≤ 9223372036854775807 := by
    have h := b3
    simp [maxLen] at h
    omega
  have hb' : (i.bytes : Int) * (cap : Int) ≤ 281474976710656 := by
    have h : ((i.bytes * cap : Nat) : Int) ≤ 281474976710656 := by rw [hby]; omega
    rwa [Int.natCast_mul] at h
  have hrun := run_make (P := P) w t e i _ h1 hi hz kl kc n cap (by omega) (by omega) hb' h63'
  simp only [Int.toNat_natCast, hsz, Nat.mul_one, Value.cells] at hrun
  unfold Oper.wp
  simp only [execOp, hop, hl, hc]
  simp [hrun, Result.andThen]
  refine hK' _ _ (hK _ ?_ ?_ ?_)
  · refine ⟨⟨by simp [enc], .inr ⟨w.heap.size, cap, madeCells #[.int k 0] cap, by simp, b4, heap_alloc_new w _, by simpa using hnc, b3, by simp [size_madeCells], ?_⟩⟩, Dig.zeros hB n⟩
    apply List.ext_getElem
    · simp [size_madeCells, enc, hnc]
    · intro j h1 h2
      simp [madeCells, enc] at h1 h2 ⊢
      simp [Nat.mod_one]
  · exact (Below.refl _ _).alloc (Nat.le_refl _) _
  · simp

/-- an append onto a slice that is nil or the call's own; what is appended lies in memory -/
theorem wpList_app {P : Program} (w : World) {ops : Array Oper} {rest : List Oper} {o : Oper} {a : Act} {Q : Exit → Act → World → Prop}
    (hgd : o.guard = none) (s x : Operand) (t : TypeId) (ho : o.op = .call { callee := .builtin .append, args := #[s, x], argTypes := #[t, t] })
    (e : TypeId) (k : IntKind) (bytes : Nat) (ht : P.underlying t = some (.slice e)) (hinfo : (P.info? e).map (fun i => (i.zero, i.size, i.bytes)) = some (some (.int k 0), 1, bytes))
    (B base : Nat) (v : Value) (l news : List Nat) (hs : a.eval s = v) (hown : Own k e B base w v l)
    (b off c : Nat) (hx : a.eval x = .slice (some ⟨b, off, none⟩) news.length c) (hc : CellsG k w b off news) (hd : Dig B news)
    (hmax : l.length + news.length ≤ maxLen) (hby : (l.length + news.length) * bytes ≤ 140737488355328) (hbase : base ≤ w.heap.size)
    (hK : ∀ l' v' w', Hid (l' = l ++ news) → Own k e B base w' v' l' → Below base w w' → w.grownBy w' v.ownBlock → wpList P ops Q rest (a.put o.dst v') w') : wpList P ops Q (o :: rest) a w := by
  obtain ⟨i, hi, hz, hsz, hb⟩ := info_parts hinfo
  refine wpList_append_own w hgd s x t ho base e i _ 1 bytes ht hi hz hsz hb rfl (by omega) v l.length (enc k l) hs hown.1 ⟨b, off, none⟩ news.length c (enc k news) hx
    (by rw [enc_length]; omega) (cells_news rfl hc) (oneCell_enc k news) hmax hby hbase ?_
  intro v' w' h1 h2 _
  refine hK _ v' w' rfl ⟨?_, hown.2.append hd⟩ ?_ h2
  · rw [enc_append, List.length_append]; exact h1
  · refine (Below.refl _ _).grown h2 hbase ?_
    intro r hr
    rcases hown.shape with ⟨rfl, _⟩ | ⟨g, cap, rfl, hg, _⟩
    · simp [Value.ownBlock] at hr
    · simp [Value.ownBlock] at hr; omega

/-- an append of a slice that came in (not nil) -/
theorem wpList_appS {P : Program} (w : World) {ops : Array Oper} {rest : List Oper} {o : Oper} {a : Act} {Q : Exit → Act → World → Prop}
    (hgd : o.guard = none) (s x : Operand) (t : TypeId) (ho : o.op = .call { callee := .builtin .append, args := #[s, x], argTypes := #[t, t] })
    (e : TypeId) (k : IntKind) (bytes : Nat) (ht : P.underlying t = some (.slice e)) (hinfo : (P.info? e).map (fun i => (i.zero, i.size, i.bytes)) = some (some (.int k 0), 1, bytes))
    (B base : Nat) (v : Value) (l news : List Nat) (hs : a.eval s = v) (hown : Own k e B base w v l)
    (ad : Addr) (c : Nat) (m : Nat) (hx : a.eval x = .slice (some ad) m c) (hm : m = news.length) (hc : LsS k B w (some ad) c news)
    (hmax : l.length + news.length ≤ maxLen) (hby : (l.length + news.length) * bytes ≤ 140737488355328) (hbase : base ≤ w.heap.size)
    (hK : ∀ l' v' w', Hid (l' = l ++ news) → Own k e B base w' v' l' → Below base w w' → w.grownBy w' v.ownBlock → wpList P ops Q rest (a.put o.dst v') w') : wpList P ops Q (o :: rest) a w := by
  subst hm
  by_cases hn : news = []
  · subst hn
    obtain ⟨i, hi, hz, hsz, hb⟩ := info_parts hinfo
    refine wpList_append_own w hgd s x t ho base e i _ 1 bytes ht hi hz hsz hb rfl (by omega) v l.length (enc k l) hs hown.1 ad 0 c [] hx
      rfl (by simp) (by simp) (by simpa using hmax) (by simpa using hby) hbase ?_
    intro v' w' h1 h2 _
    refine hK l v' w' (by show l = l ++ []; simp) ⟨by simpa using h1, hown.2⟩ ?_ h2
    refine (Below.refl _ _).grown h2 hbase ?_
    intro r hr
    rcases hown.shape with ⟨rfl, _⟩ | ⟨g, cap, rfl, hg, _⟩
    · simp [Value.ownBlock] at hr
    · simp [Value.ownBlock] at hr; omega
  · obtain ⟨b, off, hx', hcc⟩ := hc.2.2.2 hn
    simp only [Option.some.injEq] at hx'
    subst hx'
    exact wpList_app w hgd s x t ho e k bytes ht hinfo B base v l news hs hown b off c hx hcc hc.2.2.1 hmax hby hbase hK

/-- a whole new block reads as what it was made of -/
theorem CellsG.lit {k : IntKind} (w : World) (cs : Array Value) (l : List Nat) (e : TypeId) (fr : Nat × Nat) (hc : cs.toList = enc k l) : CellsG k (w.alloc (.cells cs e fr)) w.heap.size 0 l := by
  intro i hi
  rw [Nat.zero_add, cell_of_row (w.alloc (.cells cs e fr)) w.heap.size i cs e fr (heap_alloc_new w _), ← Array.getElem?_toList, hc, enc_get hi]

theorem CellsG.one {k : IntKind} (w : World) (x : Nat) (e : TypeId) (fr : Nat × Nat) : CellsG k (w.alloc (.cells #[.int k ((x : Nat) : Int)] e fr)) w.heap.size 0 [x] :=
  CellsG.lit w _ [x] e fr rfl

end Tw
