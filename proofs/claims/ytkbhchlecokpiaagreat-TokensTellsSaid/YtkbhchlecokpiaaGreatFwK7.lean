/- Is a text's list of tokens this one: the laws' helper, and the chapter's examples. -/
import Derived.Test.YtkbhchlecokpiaaGreatFwK4f
import Derived.Test.YtkbhchlecokpiaaGreatFwK5
import Derived.Test.YtkbhchlecokpiaaGreatFwK6
namespace Go.Proofs.YtkbhchlecokpiaaGreat
open Go Go.RowKit Fw Tw Rat
set_option linter.unusedVariables false
set_option linter.unusedSimpArgs false
theorem fault_s : Tryz.prog.underlying 77 = some (.struct (Tryz.prog.fieldsOf 77)) ∧ FI Tryz.prog 0 (Tryz.prog.fieldsOf 77).toList [.i64, .i64] ∧ Tryz.prog.stoodInHeld 77 = false ∧ Tryz.prog.eqGuardType Tryz.prog.depth 77 = false :=
  ⟨by kernel_rfl, fi_of (by kernel_rfl), Tryz.stoodInHeld77, Tryz.eqGuardType77⟩
theorem le_tk (t : Tk) : LeL (tkC t) (tkE t) := by
  obtain ⟨k, s, q, l⟩ := t
  have e0 : mN 0 = .seq 0 [] := by show mW (digs W 0) = _; rw [digs_zero]; rfl
  cases q with
  | none =>
    show LeL [.int .u8 (k : Nat), .str s, .bool false, .nil, .bool false, .nil, .int .i64 (l : Nat)] [.int .u8 (k : Nat), .str s, .bool (decide ((0 : Rat).num < 0)), mN (0 : Rat).num.natAbs, .bool false, mN (if (0 : Rat).den = 1 then 0 else (0 : Rat).den), .int .i64 (l : Nat)]
    rw [Rat.zero_num, Rat.zero_den, if_pos rfl, show Int.natAbs 0 = 0 from rfl, e0]
    exact .cons (Le.refl _) (.cons (Le.refl _) (.cons (Le.refl _) (.cons le_nil (.cons (Le.refl _) (.cons le_nil (.cons (Le.refl _) .nil))))))
  | some q => exact LeL.refl _
theorem lel_append {a b c d : List M} (h : LeL a b) (h' : LeL c d) : LeL (a ++ c) (b ++ d) := by
  induction h with
  | nil => exact h'
  | cons h1 _ ih => exact .cons h1 ih
theorem le_tks : ∀ l : List Tk, LeL (l.flatMap tkC) (l.flatMap tkE)
  | [] => .nil
  | t :: l => by rw [List.flatMap_cons, List.flatMap_cons]; exact lel_append (le_tk t) (le_tks l)
theorem lel_rmc {ok : Nat → Prop} {w : World} {b : Nat} {ms ms' : List M} (h : LeL ms ms') : ∀ {off : Nat}, RMc ok w b off ms → RMc ok w b off ms' := by
  induction h with
  | nil => intro off h; exact h
  | cons h hs ih =>
    intro off hr
    simp only [RMc] at hr ⊢
    obtain ⟨⟨u, h1, h2, h3⟩, h4⟩ := hr
    exact ⟨⟨u, h1, h2, h _ _ _ h3⟩, ih h4⟩
theorem lel_nil {ms ms' : List M} (h : LeL ms ms') : ms = [] ↔ ms' = [] := by
  cases h <;> simp
theorem le_seq {n : Nat} {ms ms' : List M} (h : LeL ms ms') : Le (.seq n ms) (.seq n ms') := by
  intro ok w v hr
  simp only [RM] at hr ⊢
  obtain ⟨a, cap, h1, h2, h3, h4, h5, h6⟩ := hr
  exact ⟨a, cap, h1, h2, h3, fun hn => (lel_nil h).1 (h4 hn), fun hne => h5 fun e => hne ((lel_nil h).1 e), fun b off e => lel_rmc h (h6 b off e)⟩
theorem le_tkS (l : List Tk) : Le (mS tkC l) (mS tkE l) := le_seq (le_tks l)
theorem sameTk_r {l : List Tk} (hl : l.length ≤ 1000000000) (hq : ∀ t ∈ l, Sq (t.q.getD 0) 1000) : Ret Tryz.prog 35 [mS tkC l, mS tkC l] (.bool true) :=
  Ret.weak (sameTokens_r hl hq) (.cons (le_tkS l) (.cons (le_tkS l) .nil)) (Le.refl _)
theorem is_r {x : List UInt8} {l : List Tk} (hx : x.length ≤ maxLen) (h : tokensT x = .inl l) : Ret Tryz.prog 61 [.str x, mS tkC l] (.bool true) := by
  have ht := tokens_r hx
  have hs := tokens_sq h
  have hm := sameTk_r (l := l) (by omega) fun t ht => (hs.1 t ht).1
  rw [h] at ht
  refine ret_of (L := L) lay_ok Tryz.func61 rfl Tryz.ntmps61 rfl ?_
  refine goq ?_
  refine go ?_
  refine cl (by exact rfl) plain33 rfl ht ?_
  refine go ?_
  refine ar_eqI fault_s [0, 0] [0, 0] rfl rfl rfl rfl rfl rfl ?_
  refine go ?_
  refine cl (by exact rfl) plain35 rfl hm ?_
  refine go ?_
  refine ⟨_, rfl, ?_⟩
  rfl
theorem sameNo_r {l : List Tk} (hl : l.length ≤ 1000000000) (h0 : 0 < l.length) : Ret Tryz.prog 35 [mS tkC l, .nil] (.bool false) := by
  refine ret_of (L := L) lay_ok Tryz.func35 rfl Tryz.ntmps35 rfl ?_
  refine goq ?_
  refine go ?_
  refine awp_cT rfl (by rw [bne_iff_ne]; omega) ?_
  refine go ?_
  refine ⟨_, rfl, ?_⟩
  rfl
theorem isNo_r {x : List UInt8} {l : List Tk} (hx : x.length ≤ maxLen) (h : tokensT x = .inl l) : Ret Tryz.prog 61 [.str x, .nil] (.bool false) := by
  have ht := tokens_r hx
  have hs := tokens_sq h
  have hm := sameNo_r (l := l) (by omega) hs.2.1
  rw [h] at ht
  refine ret_of (L := L) lay_ok Tryz.func61 rfl Tryz.ntmps61 rfl ?_
  refine goq ?_
  refine go ?_
  refine cl (by exact rfl) plain33 rfl ht ?_
  refine go ?_
  refine ar_eqI fault_s [0, 0] [0, 0] rfl rfl rfl rfl rfl rfl ?_
  refine go ?_
  refine cl (by exact rfl) plain35 rfl hm ?_
  refine go ?_
  refine ⟨_, rfl, ?_⟩
  rfl
theorem wrongT_eq {x : List UInt8} {e : Int} {n : Nat} (h : noB x e n = true) : wrongT x e (n : Nat) = true := by
  unfold wrongT
  rw [noB_eq h]
  simp
theorem wrong1_r {x : List UInt8} {e : Int} {n : Nat} (hx : x.length ≤ 10000) (h : noB x e n = true) : Ret Tryz.prog 66 [.str x, .int .i64 e, .int .i64 (n : Nat)] (.bool true) := by
  have := wrong_r (x := x) (e := e) (n := (n : Nat)) (by unfold maxLen; omega)
  rwa [wrongT_eq h] at this
theorem isL_r {x : List UInt8} {l : List Tk} (hx : x.length ≤ 10000) (h : okB x l = true) : Ret Tryz.prog 61 [.str x, mS tkC l] (.bool true) :=
  is_r (by unfold maxLen; omega) (okB_eq h)
def net2 : List UInt8 := [110, 101, 116, 32, 50, 32, 123, 32, 35, 32, 120, 10, 45, 49, 47, 50, 32, 125]
theorem awake9_r : Ret Tryz.prog 32 [] (.bool true) := by
  have i1 := isL_r (x := net2) (l := [⟨2, [110, 101, 116], none, 1⟩, ⟨3, [], some ((2 : Int) /. 1), 1⟩, ⟨4, [123], none, 1⟩, ⟨3, [], some ((-1 : Int) /. 2), 2⟩, ⟨4, [125], none, 2⟩, ⟨1, [], none, 2⟩]) (by decide) (by decide +kernel)
  have i2 := isL_r (x := [50, 47, 52]) (l := [⟨3, [], some ((1 : Int) /. 2), 1⟩, ⟨1, [], none, 1⟩]) (by decide) (by decide +kernel)
  have w1 := wrong1_r (x := [49, 45, 50]) (e := 20) (n := 1) (by decide) (by decide +kernel)
  have w2 := wrong1_r (x := [49, 47, 48]) (e := 10) (n := 1) (by decide) (by decide +kernel)
  have n1 := numT_r (n := 2) (d := 1) (l := 1) (by omega) (by omega) (by omega) (by omega)
  have n2 := numT_r (n := -1) (d := 2) (l := 2) (by omega) (by omega) (by omega) (by omega)
  have n3 := numT_r (n := 1) (d := 2) (l := 1) (by omega) (by omega) (by omega) (by omega)
  generalize (2 : Int) /. 1 = q1 at *
  generalize (-1 : Int) /. 2 = q2 at *
  generalize (1 : Int) /. 2 = q3 at *
  refine ret_of (L := L) lay_ok Tryz.func32 rfl Tryz.ntmps32 rfl ?_
  refine goq ?_
  refine go ?_
  refine cl (by exact rfl) plain62 rfl (word_r (s := [110, 101, 116]) (l := 1)) ?_
  refine go ?_
  refine cl (by exact rfl) plain63 rfl n1 ?_
  refine go ?_
  refine cl (by exact rfl) plain64 rfl (sign4_r (s := [123]) (l := 1)) ?_
  refine go ?_
  refine cl (by exact rfl) plain63 rfl n2 ?_
  refine go ?_
  refine cl (by exact rfl) plain64 rfl (sign4_r (s := [125]) (l := 2)) ?_
  refine go ?_
  refine cl (by exact rfl) plain65 rfl (end_r (l := 2)) ?_
  refine go ?_
  refine clz (by exact rfl) plain61 rfl i1 ?_
  refine go ?_
  refine cl (by exact rfl) plain63 rfl n3 ?_
  refine go ?_
  refine cl (by exact rfl) plain65 rfl (end_r (l := 1)) ?_
  refine go ?_
  refine clz (by exact rfl) plain61 rfl i2 ?_
  refine go ?_
  refine cl (by exact rfl) plain66 rfl w1 ?_
  refine go ?_
  refine cl (by exact rfl) plain66 rfl w2 ?_
  refine go ?_
  refine ⟨_, rfl, ?_⟩
  rfl
end Go.Proofs.YtkbhchlecokpiaaGreat
