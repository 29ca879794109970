/- A program logic over data: rules for the steps that are shown by themselves; data that says less. -/
import Derived.Test.YtbofdldkiooegaaFwX
namespace Fw
open Go Go.RowKit
set_option linter.unusedVariables false
set_option linter.unusedSimpArgs false
set_option linter.unusedSectionVars false

section
variable {P : Program} {L : Nat → Option TI} {N : Nat} {ops : Array Oper} {rest : List Oper} {K : List Eff → TL → HL → Prop} {t : TL} {h : HL} {k : Nat} {ty : TypeId} {pos : String} {af : Array Edge} {g : Option (Nat × Bool)}

theorem ar_sem {dst : Option Nat} {op : Op} {ds : List D} {og : List (Nat × O)} {e : Eff} (hw : wantF (lookT t) ops g = some true) (hd : dstOk N dst = true) (hx : evL (ev (lookT t)) op.operands.toList = some ds) (hg : ∀ p ∈ og, lookH h p.1 = some p.2) (ht : ∀ p ∈ og, p.1 ∈ e.tch) (hs : SemD P L op dst ty ds og e) (hf : freshAll t h e.nw = true)
    (hK : AR P L N ops rest (fun es => K (e :: es)) (putL t dst e.r) (e.ch ++ h)) : AR P L N ops (⟨dst, op, ty, pos, af, g⟩ :: rest) K t h :=
  ar_step (o := ⟨dst, op, ty, pos, af, g⟩) (wantF_ok hw) (.sem og hx hg ht hs) hd hf hK

/-- ranging over a text begins -/
theorem ar_range {T : TypeId} {x : Operand} {s : List UInt8} {i : TI} (hw : wantF (lookT t) ops g = some true) (hd : Nat.blt k N = true) (h1 : ev (lookT t) x = some (.im (.str s))) (hi : L T = some i) (hf : i.desc = .string) (hfr : (freshT k t && freshH k h) = true)
    (hK : AR P L N ops rest (fun es => K (⟨some (.ptr k 0), [(k, some (.it s 0))], [k], []⟩ :: es)) ((k, some (.ptr k 0)) :: t) ((k, some (.it s 0)) :: h)) : AR P L N ops (⟨some k, .range T x, ty, pos, af, g⟩ :: rest) K t h :=
  ar_sem hw hd (by simpa [Op.operands] using evL1_mk h1) (og := []) (by simp) (by simp) (sem_range hi hf) (by simpa [freshAll] using hfr) hK
/-- the next rune -/
theorem ar_next {x : Operand} {s : List UInt8} {id p q c : Nat} (hw : wantF (lookT t) ops g = some true) (hd : Nat.blt k N = true) (h1 : ev (lookT t) x = some (.ptr id 0)) (hh : lookH h id = some (.it s p)) (hp : p < s.length) (hq : Utf8.decode ⟨s.toArray⟩ p = (c, q))
    (hK : AR P L N ops rest (fun es => K (⟨some (.im (.tup [.bool true, .int .i64 p, .int .i32 c])), [(id, some (.it s (p + q)))], [], [id]⟩ :: es)) ((k, some (.im (.tup [.bool true, .int .i64 p, .int .i32 c]))) :: t) ((id, some (.it s (p + q))) :: h)) : AR P L N ops (⟨some k, .next x true, ty, pos, af, g⟩ :: rest) K t h :=
  ar_sem hw hd (by simpa [Op.operands] using evL1_mk h1) (og := [(id, .it s p)]) (by simpa using hh) (by simp) (sem_next hp hq) rfl hK
theorem ar_over {x : Operand} {s : List UInt8} {id p : Nat} (hw : wantF (lookT t) ops g = some true) (hd : Nat.blt k N = true) (h1 : ev (lookT t) x = some (.ptr id 0)) (hh : lookH h id = some (.it s p)) (hp : s.length ≤ p)
    (hK : AR P L N ops rest (fun es => K (⟨some (.im (.tup [.bool false])), [], [], [id]⟩ :: es)) ((k, some (.im (.tup [.bool false]))) :: t) h) : AR P L N ops (⟨some k, .next x true, ty, pos, af, g⟩ :: rest) K t h :=
  ar_sem hw hd (by simpa [Op.operands] using evL1_mk h1) (og := [(id, .it s p)]) (by simpa using hh) (by simp) (sem_over hp) rfl hK
/-- bytes as text -/
theorem ar_string {src d : TypeId} {x : Operand} {l : List UInt8} {is id ie : TI} {e : TypeId} (hw : wantF (lookT t) ops g = some true) (hd' : Nat.blt k N = true) (h1 : ev (lookT t) x = some (.im (mS mb l))) (hs : L src = some is) (g1 : is.desc = .slice e) (hd : L d = some id) (g2 : id.desc = .string) (he : L e = some ie) (g3 : ie.desc = .int .u8)
    (hK : AR P L N ops rest (fun es => K (val (.im (.str l)) :: es)) ((k, some (.im (.str l))) :: t) h) : AR P L N ops (⟨some k, .convert src d x, ty, pos, af, g⟩ :: rest) K t h :=
  ar_sem hw hd' (by simpa [Op.operands] using evL1_mk h1) (og := []) (by simp) (by simp) (sem_string hs hd he g1 g2 g3) rfl hK
end

theorem eqt {a b : Bool} (h : a = b) : D.im (.bool a) = .im (.bool b) := by rw [h]

/-! ### data that says less: no slice is a slice of nothing -/
/-- it reads as the one, then as the other -/
def Le (m m' : M) : Prop := ∀ (ok : Nat → Prop) (w : World) (v : Value), RM ok w m v → RM ok w m' v
theorem Le.refl (m : M) : Le m m := fun _ _ _ h => h
theorem le_nil : Le .nil (.seq 0 []) := by
  intro ok w v h
  simp only [RM] at h ⊢
  subst h
  exact ⟨none, 0, rfl, Nat.le_refl _, Nat.zero_le _, fun _ => by simp, fun h => absurd rfl h, fun _ _ h => by cases h⟩
inductive LeL : List M → List M → Prop
  | nil : LeL [] []
  | cons {m m' : M} {ms ms' : List M} (h : Le m m') (hs : LeL ms ms') : LeL (m :: ms) (m' :: ms')
theorem LeL.refl : ∀ ms : List M, LeL ms ms
  | [] => .nil
  | m :: ms => .cons (Le.refl m) (LeL.refl ms)
theorem LeL.rms {ok : Nat → Prop} {w : World} {ms ms' : List M} (h : LeL ms ms') : ∀ {vs : List Value}, RMs ok w ms vs → RMs ok w ms' vs := by
  induction h with
  | nil => intro vs h; exact h
  | cons h hs ih =>
    intro vs hr
    simp only [RMs] at hr ⊢
    obtain ⟨u, us, rfl, h1, h2, h3⟩ := hr
    exact ⟨u, us, rfl, h1, h _ _ _ h2, ih h3⟩
theorem LeL.rmt {ok : Nat → Prop} {w : World} {ms ms' : List M} (h : LeL ms ms') : ∀ {vs : List Value}, RMt ok w ms vs → RMt ok w ms' vs := by
  induction h with
  | nil => intro vs h; exact h
  | cons h hs ih =>
    intro vs hr
    simp only [RMt] at hr ⊢
    obtain ⟨u, us, rfl, h2, h3⟩ := hr
    exact ⟨u, us, rfl, h _ _ _ h2, ih h3⟩
theorem le_agg {ms ms' : List M} (h : LeL ms ms') : Le (.agg ms) (.agg ms') := by
  intro ok w v hr
  simp only [RM] at hr ⊢
  obtain ⟨us, rfl, h1⟩ := hr
  exact ⟨us, rfl, h.rms h1⟩
theorem le_tup {ms ms' : List M} (h : LeL ms ms') : Le (.tup ms) (.tup ms') := by
  intro ok w v hr
  simp only [RM] at hr ⊢
  obtain ⟨us, rfl, h1⟩ := hr
  exact ⟨us, rfl, h.rmt h1⟩
/-- a contract, of data that says more, with a result that says less -/
theorem Ret.weak {P : Program} {f : FuncId} {ms ms' : List M} {m m' : M} (h : Ret P f ms m) (ha : LeL ms' ms) (hr : Le m m') : Ret P f ms' m' := by
  intro ok w vs hv
  refine (h ok w vs (ha.rmt hv)).mono ?_
  rintro e w' ⟨v, h1, h2, h3⟩
  exact ⟨v, h1, hr _ _ _ h2, h3⟩
/-- a slot's data, said less of -/
theorem awp_le {P : Program} {N : Nat} {K : KK} {t : TL} {h : HL} {c : Code} (k : Nat) {m m' : M} (hk : lookT t k = some (.im m)) (hle : Le m m') (hK : Awp P N c K ((k, some (.im m')) :: t) h) : Awp P N c K t h := by
  intro w0 ok0 S0 β ok a w hc
  refine hK w0 ok0 S0 β ok a w { defers := hc.defers, size := hc.size, tmp := ?_, obj := hc.obj, inj := hc.inj, okd := hc.okd, okl := hc.okl, okf := hc.okf, low := hc.low, keep := hc.keep }
  intro i d hd
  have e1 : lookT ((k, some (.im m')) :: t) i = putT (lookT t) (some k) (some (.im m')) i := by rw [← lookT_put]; rfl
  rw [e1] at hd
  unfold putT at hd
  split at hd
  · rename_i he
    cases he
    simp only [Option.some.injEq] at hd; subst hd
    have := hc.tmp k _ hk
    simp only [RD] at this ⊢
    exact hle _ _ _ this
  · exact hc.tmp i d hd

/-- a loop with what holds behind it -/
theorem awp_loopC {P : Program} {N : Nat} {K : KK} {t : TL} {h : HL} {A B : Type} {id : Nat} {c y : Code} (I : A → Prop) (It : A → TL) (Ih : A → HL) (μ : A → Nat) (E : B → Prop) (Et : B → TL) (Eh : B → HL) (x0 : A) (hI : I x0) (h0 : Sub t h (It x0) (Ih x0))
    (round : ∀ x, I x → Awp P N c (fun e t' h' => match e with | .normal => ∃ y, I y ∧ Sub t' h' (It y) (Ih y) ∧ μ y < μ x | e => (e = .exit id ∧ ∃ b, E b ∧ Sub t' h' (Et b) (Eh b)) ∨ blockK id (seqK P N y K) e t' h') (It x) (Ih x))
    (after : ∀ b, E b → Awp P N y K (Et b) (Eh b)) : Awp P N (.loop c) (blockK id (seqK P N y K)) t h := by
  refine awp_loop1 I It Ih μ x0 hI h0 (fun x hx => awp_mono (round x hx) ?_)
  intro e t' h' hk
  have key : ∀ e, (e = X.exit id ∧ ∃ b, E b ∧ Sub t' h' (Et b) (Eh b)) ∨ blockK id (seqK P N y K) e t' h' → blockK id (seqK P N y K) e t' h' := by
    rintro e (⟨rfl, b, hb, hs⟩ | hk)
    · simp only [blockK, Nat.beq_refl, if_true]
      exact awp_sub hs (after b hb)
    · exact hk
  cases e with
  | normal => exact hk
  | exit j => exact key _ hk
  | ret => exact key _ hk
end Fw
