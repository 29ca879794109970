/- A program logic over data: slices of typed elements. -/
import Derived.Test.YtbofdldkiooegaaFwN
namespace Fw
open Go Go.RowKit
set_option linter.unusedVariables false
set_option linter.unusedSimpArgs false
set_option linter.unusedSectionVars false

/-- a slice of elements, each of so many cells -/
def mS {α : Type} (enc : α → List M) (l : List α) : M := .seq l.length (l.flatMap enc)

theorem flatMap_len {α : Type} {enc : α → List M} {sz : Nat} (he : ∀ x, (enc x).length = sz) (l : List α) : (l.flatMap enc).length = l.length * sz := by
  induction l with
  | nil => simp
  | cons x l ih => simp only [List.flatMap_cons, List.length_append, ih, he, List.length_cons, Nat.add_mul]; omega
theorem flatMap_drop {α : Type} {enc : α → List M} {sz : Nat} (he : ∀ x, (enc x).length = sz) (l : List α) (i : Nat) : (l.flatMap enc).drop (i * sz) = (l.drop i).flatMap enc := by
  induction i generalizing l with
  | zero => simp
  | succ i ih =>
    cases l with
    | nil => simp
    | cons x l =>
      simp only [List.flatMap_cons, List.drop_succ_cons]
      rw [← ih, show (i + 1) * sz = (enc x).length + i * sz by rw [he, Nat.add_mul]; omega, List.drop_append, List.drop_eq_nil_of_le (by omega), List.nil_append, Nat.add_sub_cancel_left]
theorem flatMap_take {α : Type} {enc : α → List M} {sz : Nat} (he : ∀ x, (enc x).length = sz) (l : List α) (i : Nat) : (l.flatMap enc).take (i * sz) = (l.take i).flatMap enc := by
  induction i generalizing l with
  | zero => simp
  | succ i ih =>
    cases l with
    | nil => simp
    | cons x l =>
      simp only [List.flatMap_cons, List.take_succ_cons]
      rw [← ih, show (i + 1) * sz = (enc x).length + i * sz by rw [he, Nat.add_mul]; omega, List.take_append, List.take_of_length_le (by omega), Nat.add_sub_cancel_left]

section
variable {P : Program} {L : Nat → Option TI} {N : Nat} {ops : Array Oper} {rest : List Oper} {K : List Eff → TL → HL → Prop} {t : TL} {h : HL} {k : Nat} {ty : TypeId} {pos : String} {af : Array Edge} {g : Option (Nat × Bool)}

/-- an element's address -/
theorem ar_at {α : Type} {enc : α → List M} {l : List α} {T x ix kd j e ei} (i : Nat) (hw : wantF (lookT t) ops g = some true) (hd : Nat.blt k N = true) (h1 : ev (lookT t) x = some (.im (mS enc l))) (h2 : ev (lookT t) ix = some (.im (.int kd j))) (h3 : sliceElem L T = some (e, ei))
    (he : ∀ x, (enc x).length = ei.size) (h0 : Nat.ble 1 ei.size = true) (hj : j = (i : Int)) (hi : i < l.length)
    (hK : AR P L N ops rest (fun es => K (val (.ep (enc l[i] ++ (l.drop (i + 1)).flatMap enc)) :: es)) ((k, some (.ep (enc l[i] ++ (l.drop (i + 1)).flatMap enc))) :: t) h) : AR P L N ops (⟨some k, .indexAddr T x ix, ty, pos, af, g⟩ :: rest) K t h := by
  obtain ⟨i', q1, q2, q3⟩ := sliceElem_ok h3
  have h0' := Nat.le_of_ble_eq_true h0
  subst hj
  have e1 : (l.flatMap enc).drop ((i : Int).toNat * ei.size) = enc l[i] ++ (l.drop (i + 1)).flatMap enc := by
    rw [Int.toNat_natCast, flatMap_drop he, List.drop_eq_getElem_cons hi, List.flatMap_cons]
  refine ar_indexS (wantF_ok hw) hd (n := l.length) (cs := l.flatMap enc) h1 h2 q1 q2 q3 ⟨by omega, by omega⟩ ?_ e1 hK
  rw [Int.toNat_natCast, flatMap_len he]
  exact Nat.mul_lt_mul_of_pos_right hi h0'
/-- sums and differences of ints that stay in range -/
theorem ar_addN {T x y T' a b} (hw : wantF (lookT t) ops g = some true) (hd : Nat.blt k N = true) (h1 : ev (lookT t) x = some (.im (.int .i64 a))) (h2 : ev (lookT t) y = some (.im (.int .i64 b))) (h3 : -9223372036854775808 ≤ a + b ∧ a + b ≤ 9223372036854775807)
    (hK : AR P L N ops rest (fun es => K (val (.im (.int .i64 (a + b))) :: es)) ((k, some (.im (.int .i64 (a + b)))) :: t) h) : AR P L N ops (⟨some k, .binOp .add T x y T', ty, pos, af, g⟩ :: rest) K t h := ar_add (wantF_ok hw) hd h1 h2 h3 hK
theorem ar_subN {T x y T' a b} (hw : wantF (lookT t) ops g = some true) (hd : Nat.blt k N = true) (h1 : ev (lookT t) x = some (.im (.int .i64 a))) (h2 : ev (lookT t) y = some (.im (.int .i64 b))) (h3 : -9223372036854775808 ≤ a - b ∧ a - b ≤ 9223372036854775807)
    (hK : AR P L N ops rest (fun es => K (val (.im (.int .i64 (a - b))) :: es)) ((k, some (.im (.int .i64 (a - b)))) :: t) h) : AR P L N ops (⟨some k, .binOp .sub T x y T', ty, pos, af, g⟩ :: rest) K t h := ar_sub (wantF_ok hw) hd h1 h2 h3 hK

theorem awp_loop1 {KK0 : KK} {A : Type} {c : Code} (I : A → Prop) (It : A → TL) (Ih : A → HL) (μ : A → Nat) (x0 : A) (hI : I x0) (h0 : Sub t h (It x0) (Ih x0))
    (round : ∀ x, I x → Awp P N c (fun e t' h' => match e with | .normal => ∃ y, I y ∧ Sub t' h' (It y) (Ih y) ∧ μ y < μ x | e => KK0 e t' h') (It x) (Ih x)) : Awp P N (.loop c) KK0 t h := by
  refine awp_loop (A := {x : A // I x}) (fun x => It x.1) (fun x => Ih x.1) (fun x => μ x.1) ⟨x0, hI⟩ h0 (fun x => awp_mono (round x.1 x.2) ?_)
  intro e t' h' hk
  cases e with
  | normal => obtain ⟨y, h1, h2, h3⟩ := hk; exact ⟨⟨y, h1⟩, h2, h3⟩
  | exit id => exact hk
  | ret => exact hk
theorem awp_loop2 {KK0 : KK} {A B : Type} {c : Code} (I : A → B → Prop) (It : A → B → TL) (Ih : A → B → HL) (μ : A → B → Nat) (x0 : A) (y0 : B) (hI : I x0 y0) (h0 : Sub t h (It x0 y0) (Ih x0 y0))
    (round : ∀ x y, I x y → Awp P N c (fun e t' h' => match e with | .normal => ∃ x' y', I x' y' ∧ Sub t' h' (It x' y') (Ih x' y') ∧ μ x' y' < μ x y | e => KK0 e t' h') (It x y) (Ih x y)) : Awp P N (.loop c) KK0 t h := by
  refine awp_loop1 (A := A × B) (fun p => I p.1 p.2) (fun p => It p.1 p.2) (fun p => Ih p.1 p.2) (fun p => μ p.1 p.2) (x0, y0) hI h0 (fun p hp => awp_mono (round p.1 p.2 hp) ?_)
  intro e t' h' hk
  cases e with
  | normal => obtain ⟨x, y, h1, h2, h3⟩ := hk; exact ⟨(x, y), h1, h2, h3⟩
  | exit id => exact hk
  | ret => exact hk
theorem awp_loop3 {KK0 : KK} {A B C : Type} {c : Code} (I : A → B → C → Prop) (It : A → B → C → TL) (Ih : A → B → C → HL) (μ : A → B → C → Nat) (x0 : A) (y0 : B) (z0 : C) (hI : I x0 y0 z0) (h0 : Sub t h (It x0 y0 z0) (Ih x0 y0 z0))
    (round : ∀ x y z, I x y z → Awp P N c (fun e t' h' => match e with | .normal => ∃ x' y' z', I x' y' z' ∧ Sub t' h' (It x' y' z') (Ih x' y' z') ∧ μ x' y' z' < μ x y z | e => KK0 e t' h') (It x y z) (Ih x y z)) : Awp P N (.loop c) KK0 t h := by
  refine awp_loop2 (A := A) (B := B × C) (fun p q => I p q.1 q.2) (fun p q => It p q.1 q.2) (fun p q => Ih p q.1 q.2) (fun p q => μ p q.1 q.2) x0 (y0, z0) hI h0 (fun p q hp => awp_mono (round p q.1 q.2 hp) ?_)
  intro e t' h' hk
  cases e with
  | normal => obtain ⟨x, y, z, h1, h2, h3⟩ := hk; exact ⟨x, (y, z), h1, h2, h3⟩
  | exit id => exact hk
  | ret => exact hk

theorem sub_nil (t : TL) (h : HL) : Sub t h [] [] := ⟨fun i d hd => by simp [lookT] at hd, fun i d hd => by simp [lookH] at hd⟩
theorem sub_t {t t' : TL} {h h' : HL} {k : Nat} {d : D} (h1 : lookT t k = some d) (h2 : Sub t h t' h') : Sub t h ((k, some d) :: t') h' := by
  refine ⟨fun i x hx => ?_, h2.2⟩
  simp only [lookT] at hx
  cases hb : Nat.beq k i with
  | true =>
    rw [hb] at hx
    have := Nat.eq_of_beq_eq_true hb
    subst this
    simp at hx; subst hx; exact h1
  | false => rw [hb] at hx; exact h2.1 i x (by simpa using hx)
theorem sub_h {t t' : TL} {h h' : HL} {k : Nat} {d : O} (h1 : lookH h k = some d) (h2 : Sub t h t' h') : Sub t h t' ((k, some d) :: h') := by
  refine ⟨h2.1, fun i x hx => ?_⟩
  simp only [lookH] at hx
  cases hb : Nat.beq k i with
  | true =>
    rw [hb] at hx
    have := Nat.eq_of_beq_eq_true hb
    subst this
    simp at hx; subst hx; exact h1
  | false => rw [hb] at hx; exact h2.2 i x (by simpa using hx)
theorem sub_te {t t' : TL} {h h' : HL} {k : Nat} {d d' : D} (h1 : lookT t k = some d') (h2 : Sub t h t' h') (he : d' = d) : Sub t h ((k, some d) :: t') h' := sub_t (he ▸ h1) h2
theorem sub_he {t t' : TL} {h h' : HL} {k : Nat} {d d' : O} (h1 : lookH h k = some d') (h2 : Sub t h t' h') (he : d' = d) : Sub t h t' ((k, some d) :: h') := sub_h (he ▸ h1) h2
end
end Fw
