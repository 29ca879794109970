/- A program logic over data: one rule for each operation, for walks. -/
import Derived.Test.YtkbhchlecokpiaaFwCc
set_option linter.unusedVariables false
set_option linter.unusedSimpArgs false
/-! ## FwM: A program logic over data: one rule for each operation, for walks. -/
namespace Fw
open Go Go.RowKit
set_option linter.unusedVariables false
set_option linter.unusedSimpArgs false
set_option linter.unusedSectionVars false

/-- a list, laid out -/
def normL {α : Type} : List α → Option (List α)
  | [] => some []
  | x :: xs => match normL xs with
    | some ys => some (x :: ys)
    | none => none
theorem normL_eq {α : Type} : ∀ {l l' : List α}, normL l = some l' → l = l'
  | [], l', h => by simp only [normL, Option.some.injEq] at h; exact h
  | x :: xs, l', h => by
    simp only [normL] at h
    cases hx : normL xs with
    | none => rw [hx] at h; cases h
    | some ys =>
      rw [hx] at h
      simp only [Option.some.injEq] at h
      subst h
      rw [normL_eq hx]
def mkAggO (ds : List D) : Option D := match imL ds with
  | some ms => match normL ms with
    | some ms' => some (.im (.agg ms'))
    | none => none
  | none => some (.agg ds)
theorem mkAggO_eq {ds : List D} {d : D} (h : mkAggO ds = some d) : mkAgg ds = d := by
  unfold mkAggO at h
  unfold mkAgg
  cases hi : imL ds with
  | none => rw [hi] at h; simpa using h
  | some ms =>
    rw [hi] at h
    simp only [] at h ⊢
    cases hn : normL ms with
    | none => rw [hn] at h; cases h
    | some ms' =>
      rw [hn] at h
      simp only [Option.some.injEq] at h
      rw [normL_eq hn]; exact h

section
variable {P : Program} {L : Nat → Option TI} {N : Nat} {ops : Array Oper} {rest : List Oper} {K : List Eff → TL → HL → Prop} {t : TL} {h : HL} {k : Nat} {ty : TypeId} {pos : String} {af : Array Edge} {g : Option (Nat × Bool)}

theorem ar_nil (hk : K [] t h) : AR P L N ops [] K t h := ⟨[], t, h, .nil, hk⟩
theorem ar_step {o : Oper} {e : Eff} (hw : Want (lookT t) ops o.guard true) (hs : Step P L (ev (lookT t)) (lookH h) o.op o.dst o.type e) (hd : dstOk N o.dst = true) (hf : freshAll t h e.nw = true)
    (hK : AR P L N ops rest (fun es => K (e :: es)) (putL t o.dst e.r) (e.ch ++ h)) : AR P L N ops (o :: rest) K t h := by
  obtain ⟨es, t', h', hr, hk⟩ := hK
  exact ⟨e :: es, t', h', .step hw hs hd hf hr, hk⟩
theorem ar_skip {op : Op} (hw : Want (lookT t) ops g false) (hd : Nat.blt k N = true) (hK : AR P L N ops rest (fun es => K (skipE :: es)) ((k, some (.im (.tup []))) :: t) h) : AR P L N ops (⟨some k, op, ty, pos, af, g⟩ :: rest) K t h := by
  obtain ⟨es, t', h', hr, hk⟩ := hK
  exact ⟨skipE :: es, t', h', .skip hw hd hr, hk⟩
theorem ar_skip0 {op : Op} (hw : Want (lookT t) ops g false) (hK : AR P L N ops rest (fun es => K (skipE :: es)) t h) : AR P L N ops (⟨none, op, ty, pos, af, g⟩ :: rest) K t h := by
  obtain ⟨es, t', h', hr, hk⟩ := hK
  exact ⟨skipE :: es, t', h', .skip hw rfl hr, hk⟩
theorem ar_know {l : List Oper} (k : Nat) {d : D} (hk : lookT t k = some d) (hK : AR P L N ops l K ((k, some d) :: t) h) : AR P L N ops l K t h := by
  obtain ⟨es, t', h', hr, hk'⟩ := hK
  exact ⟨es, t', h', .know hk hr, hk'⟩
/-- a slot's value, said otherwise -/
theorem ar_eq {l : List Oper} (k : Nat) {d d' : D} (hk : lookT t k = some d) (he : d = d') (hK : AR P L N ops l K ((k, some d') :: t) h) : AR P L N ops l K t h := ar_know k (he ▸ hk) hK
/-- a guard that is open: both ways -/
theorem ar_split {l : List Oper} (k : Nat) {b : Bool} (hk : lookT t k = some (.im (.bool b))) (h1 : b = true → AR P L N ops l K ((k, some (.im (.bool true))) :: t) h) (h2 : b = false → AR P L N ops l K ((k, some (.im (.bool false))) :: t) h) : AR P L N ops l K t h := by
  cases b with
  | true => exact ar_know k hk (h1 rfl)
  | false => exact ar_know k hk (h2 rfl)

/-- a value alone -/
theorem ar_val {op : Op} {d : D} (hw : Want (lookT t) ops g true) (hs : Step P L (ev (lookT t)) (lookH h) op (some k) ty (val d)) (hd : Nat.blt k N = true) (hK : AR P L N ops rest (fun es => K (val d :: es)) ((k, some d) :: t) h) :
    AR P L N ops (⟨some k, op, ty, pos, af, g⟩ :: rest) K t h := ar_step (o := ⟨some k, op, ty, pos, af, g⟩) hw hs hd rfl hK
/-- a load -/
theorem ar_load {op : Op} {d : D} {tch : List Nat} (hw : Want (lookT t) ops g true) (hs : Step P L (ev (lookT t)) (lookH h) op (some k) ty ⟨some d, [], [], tch⟩) (hd : Nat.blt k N = true) (hK : AR P L N ops rest (fun es => K (⟨some d, [], [], tch⟩ :: es)) ((k, some d) :: t) h) :
    AR P L N ops (⟨some k, op, ty, pos, af, g⟩ :: rest) K t h := ar_step (o := ⟨some k, op, ty, pos, af, g⟩) hw hs hd rfl hK

variable (hw : Want (lookT t) ops g true) (hd : Nat.blt k N = true)
include hw

section
include hd
theorem ar_move {x d} (h1 : ev (lookT t) x = some d) (hK : AR P L N ops rest (fun es => K (val d :: es)) ((k, some d) :: t) h) : AR P L N ops (⟨some k, .move x, ty, pos, af, g⟩ :: rest) K t h := ar_val hw (.move h1) hd hK
theorem ar_assign {x d} (h1 : ev (lookT t) x = some d) (hK : AR P L N ops rest (fun es => K (val d :: es)) ((k, some d) :: t) h) : AR P L N ops (⟨some k, .assign x, ty, pos, af, g⟩ :: rest) K t h := ar_val hw (.assign h1) hd hK
theorem ar_pickT {c x y d} (h1 : ev (lookT t) c = some (.im (.bool true))) (h2 : ev (lookT t) x = some d) (hK : AR P L N ops rest (fun es => K (val d :: es)) ((k, some d) :: t) h) : AR P L N ops (⟨some k, .pick c x y, ty, pos, af, g⟩ :: rest) K t h := ar_val hw (.pick h1 h2) hd hK
theorem ar_pickF {c x y d} (h1 : ev (lookT t) c = some (.im (.bool false))) (h2 : ev (lookT t) y = some d) (hK : AR P L N ops rest (fun es => K (val d :: es)) ((k, some d) :: t) h) : AR P L N ops (⟨some k, .pick c x y, ty, pos, af, g⟩ :: rest) K t h := ar_val hw (.pick h1 h2) hd hK
theorem ar_alloc {T i cs} (h1 : L T = some i) (h2 : normL ((mcells i.mz).map .im) = some cs) (hf : (freshT k t && freshH k h) = true) (hK : AR P L N ops rest (fun es => K (⟨some (.ptr k 0), [(k, some (.box T cs))], [k], []⟩ :: es)) ((k, some (.ptr k 0)) :: t) ((k, some (.box T cs)) :: h)) :
    AR P L N ops (⟨some k, .alloc T, ty, pos, af, g⟩ :: rest) K t h := by
  have h2 := normL_eq h2
  subst h2
  exact ar_step (o := ⟨some k, .alloc T, ty, pos, af, g⟩) hw (.alloc h1) hd (by simp only [freshAll, Bool.and_true]; exact hf) hK
theorem ar_box {T x d cs} (h1 : ev (lookT t) x = some d) (h2 : whole d = true) (h3 : normL (dcells d) = some cs) (hf : (freshT k t && freshH k h) = true) (hK : AR P L N ops rest (fun es => K (⟨some (.ptr k 0), [(k, some (.box T cs))], [k], []⟩ :: es)) ((k, some (.ptr k 0)) :: t) ((k, some (.box T cs)) :: h)) :
    AR P L N ops (⟨some k, .box T x, ty, pos, af, g⟩ :: rest) K t h := by
  have h3 := normL_eq h3
  subst h3
  exact ar_step (o := ⟨some k, .box T x, ty, pos, af, g⟩) hw (.box h1 h2) hd (by simp only [freshAll, Bool.and_true]; exact hf) hK
theorem ar_loadB {T p id off tb cs i d} (h1 : ev (lookT t) p = some (.ptr id off)) (h2 : lookH h id = some (.box tb cs)) (h3 : L T = some i) (h4 : aggD i.desc = false) (h5 : cs[off]? = some d)
    (hK : AR P L N ops rest (fun es => K (⟨some d, [], [], [id]⟩ :: es)) ((k, some d) :: t) h) : AR P L N ops (⟨some k, .load T p, ty, pos, af, g⟩ :: rest) K t h := ar_load hw (.loadB h1 h2 h3 h4 h5) hd hK
theorem ar_loadBA {T p id off tb cs i d} (h1 : ev (lookT t) p = some (.ptr id off)) (h2 : lookH h id = some (.box tb cs)) (h3 : L T = some i) (h4 : aggD i.desc = true) (h5 : Nat.ble (off + i.size) cs.length = true) (h6 : mkAggO ((cs.drop off).take i.size) = some d)
    (hK : AR P L N ops rest (fun es => K (⟨some d, [], [], [id]⟩ :: es)) ((k, some d) :: t) h) : AR P L N ops (⟨some k, .load T p, ty, pos, af, g⟩ :: rest) K t h := by
  have h6 := mkAggO_eq h6
  subst h6
  exact ar_load hw (.loadBA h1 h2 h3 h4 (Nat.le_of_ble_eq_true h5)) hd hK
theorem ar_loadR {T p id off e sz cs i m} (h1 : ev (lookT t) p = some (.ptr id off)) (h2 : lookH h id = some (.rw e sz cs)) (h3 : L T = some i) (h4 : aggD i.desc = false) (h5 : cs[off]? = some m)
    (hK : AR P L N ops rest (fun es => K (⟨some (.im m), [], [], [id]⟩ :: es)) ((k, some (.im m)) :: t) h) : AR P L N ops (⟨some k, .load T p, ty, pos, af, g⟩ :: rest) K t h := ar_load hw (.loadR h1 h2 h3 h4 h5) hd hK
theorem ar_loadRA {T p id off e sz cs i ms} (h1 : ev (lookT t) p = some (.ptr id off)) (h2 : lookH h id = some (.rw e sz cs)) (h3 : L T = some i) (h4 : aggD i.desc = true) (h5 : off + i.size ≤ cs.length) (h0 : 0 < cs.length) (h6 : (cs.drop off).take i.size = ms)
    (hK : AR P L N ops rest (fun es => K (⟨some (.im (.agg ms)), [], [], [id]⟩ :: es)) ((k, some (.im (.agg ms))) :: t) h) : AR P L N ops (⟨some k, .load T p, ty, pos, af, g⟩ :: rest) K t h := by
  subst h6
  exact ar_load hw (.loadRA h1 h2 h3 h4 h5 h0) hd hK
theorem ar_loadE {T p cs i m} (h1 : ev (lookT t) p = some (.ep cs)) (h3 : L T = some i) (h4 : aggD i.desc = false) (h5 : cs[0]? = some m)
    (hK : AR P L N ops rest (fun es => K (val (.im m) :: es)) ((k, some (.im m)) :: t) h) : AR P L N ops (⟨some k, .load T p, ty, pos, af, g⟩ :: rest) K t h := ar_val hw (.loadE h1 h3 h4 h5) hd hK
theorem ar_loadEA {T p cs i ms} (h1 : ev (lookT t) p = some (.ep cs)) (h3 : L T = some i) (h4 : aggD i.desc = true) (h5 : i.size ≤ cs.length) (h6 : cs.take i.size = ms)
    (hK : AR P L N ops rest (fun es => K (val (.im (.agg ms)) :: es)) ((k, some (.im (.agg ms))) :: t) h) : AR P L N ops (⟨some k, .load T p, ty, pos, af, g⟩ :: rest) K t h := by
  subst h6
  exact ar_val hw (.loadEA h1 h3 h4 h5) hd hK
theorem ar_fieldP {T x j id off i fs f fi o'} (h1 : ev (lookT t) x = some (.ptr id off)) (h2 : L T = some i) (h3 : i.desc = .struct fs) (h4 : fs[j]? = some f) (h5 : L f.type = some fi) (h6 : Nat.beq fi.size 0 = false) (h7 : off + f.offset = o')
    (hK : AR P L N ops rest (fun es => K (val (.ptr id o') :: es)) ((k, some (.ptr id o')) :: t) h) : AR P L N ops (⟨some k, .fieldAddr T x j, ty, pos, af, g⟩ :: rest) K t h := by
  subst h7
  exact ar_val hw (.fieldP h1 h2 h3 h4 h5 (by intro he; rw [he] at h6; cases h6)) hd hK
theorem ar_fieldE {T x j cs i fs f fi cs'} (h1 : ev (lookT t) x = some (.ep cs)) (h2 : L T = some i) (h3 : i.desc = .struct fs) (h4 : fs[j]? = some f) (h5 : L f.type = some fi) (h6 : Nat.beq fi.size 0 = false) (h7 : cs.drop f.offset = cs')
    (hK : AR P L N ops rest (fun es => K (val (.ep cs') :: es)) ((k, some (.ep cs')) :: t) h) : AR P L N ops (⟨some k, .fieldAddr T x j, ty, pos, af, g⟩ :: rest) K t h := by
  subst h7
  exact ar_val hw (.fieldE h1 h2 h3 h4 h5 (by intro he; rw [he] at h6; cases h6)) hd hK
theorem ar_fieldM {T x j ms i fs f fi m} (h1 : ev (lookT t) x = some (.im (.agg ms))) (h2 : L T = some i) (h3 : i.desc = .struct fs) (h4 : fs[j]? = some f) (h5 : L f.type = some fi) (h6 : aggD fi.desc = false) (h7 : ms[f.offset]? = some m)
    (hK : AR P L N ops rest (fun es => K (val (.im m) :: es)) ((k, some (.im m)) :: t) h) : AR P L N ops (⟨some k, .field T x j, ty, pos, af, g⟩ :: rest) K t h := ar_val hw (.fieldM h1 h2 h3 h4 h5 h6 h7) hd hK
theorem ar_fieldMA {T x j ms i fs f fi ms'} (h1 : ev (lookT t) x = some (.im (.agg ms))) (h2 : L T = some i) (h3 : i.desc = .struct fs) (h4 : fs[j]? = some f) (h5 : L f.type = some fi) (h6 : aggD fi.desc = true) (h7 : (ms.drop f.offset).take fi.size = ms')
    (hK : AR P L N ops rest (fun es => K (val (.im (.agg ms')) :: es)) ((k, some (.im (.agg ms'))) :: t) h) : AR P L N ops (⟨some k, .field T x j, ty, pos, af, g⟩ :: rest) K t h := by
  subst h7
  exact ar_val hw (.fieldMA h1 h2 h3 h4 h5 h6) hd hK
theorem ar_build {T parts i fs cs d} (h1 : L T = some i) (h2 : i.desc = .struct fs) (h3 : fs.toList.all (fun (f : Field) => (L f.type).isSome) = true) (h4 : fillD (ev (lookT t)) (place L fs) ((mcells i.mz).map .im) parts.toList = some cs) (h5 : mkAggO cs = some d)
    (hK : AR P L N ops rest (fun es => K (val d :: es)) ((k, some d) :: t) h) : AR P L N ops (⟨some k, .build T parts, ty, pos, af, g⟩ :: rest) K t h := by
  have h5 := mkAggO_eq h5
  subst h5
  exact ar_val hw (.build h1 h2 h3 h4) hd hK
theorem ar_buildSlice {T len parts i e ei sz cs} (h1 : L T = some i) (h2 : i.desc = .slice e) (h3 : L e = some ei) (h4 : ei.size = sz) (h5 : (Nat.ble 1 sz && Nat.ble (len * sz) 16777216) = true)
    (h6 : fillM (ev (lookT t)) (fun k => some (k * sz, sz)) (List.replicate len (mcells ei.mz)).flatten parts.toList = some cs) (hf : (freshT k t && freshH k h) = true)
    (hK : AR P L N ops rest (fun es => K (⟨some (.row k len sz), [(k, some (.rw e sz cs))], [k], []⟩ :: es)) ((k, some (.row k len sz)) :: t) ((k, some (.rw e sz cs)) :: h)) : AR P L N ops (⟨some k, .buildSlice T len parts, ty, pos, af, g⟩ :: rest) K t h := by
  subst h4
  simp only [Bool.and_eq_true] at h5
  exact ar_step (o := ⟨some k, .buildSlice T len parts, ty, pos, af, g⟩) hw (.buildSlice h1 h2 h3 (Nat.le_of_ble_eq_true h5.1) (Nat.le_of_ble_eq_true h5.2) h6) hd (by simp only [freshAll, Bool.and_true]; exact hf) hK
theorem ar_indexR {T x ix id n sz kd j i e ei o'} (h1 : ev (lookT t) x = some (.row id n sz)) (h2 : ev (lookT t) ix = some (.im (.int kd j))) (h3 : L T = some i) (h4 : i.desc = .slice e) (h5 : L e = some ei) (h6 : ei.size = sz) (h7 : 0 ≤ j ∧ j < n) (h8 : j.toNat * sz = o')
    (hK : AR P L N ops rest (fun es => K (val (.ptr id o') :: es)) ((k, some (.ptr id o')) :: t) h) : AR P L N ops (⟨some k, .indexAddr T x ix, ty, pos, af, g⟩ :: rest) K t h := by
  subst h8
  exact ar_val hw (.indexR h1 h2 h3 h4 h5 h6 h7.1 h7.2) hd hK
theorem ar_indexS {T x ix n cs kd j i e ei cs'} (h1 : ev (lookT t) x = some (.im (.seq n cs))) (h2 : ev (lookT t) ix = some (.im (.int kd j))) (h3 : L T = some i) (h4 : i.desc = .slice e) (h5 : L e = some ei) (h7 : 0 ≤ j ∧ j < n) (h8 : j.toNat * ei.size < cs.length) (h9 : cs.drop (j.toNat * ei.size) = cs')
    (hK : AR P L N ops rest (fun es => K (val (.ep cs') :: es)) ((k, some (.ep cs')) :: t) h) : AR P L N ops (⟨some k, .indexAddr T x ix, ty, pos, af, g⟩ :: rest) K t h := by
  subst h9
  exact ar_val hw (.indexS h1 h2 h3 h4 h5 h7.1 h7.2 h8) hd hK
theorem ar_indexStr {T x ix s kd j i c} (h1 : ev (lookT t) x = some (.im (.str s))) (h2 : ev (lookT t) ix = some (.im (.int kd j))) (h3 : L T = some i) (h4 : i.desc = .string) (h7 : 0 ≤ j) (h8 : s[j.toNat]? = some c)
    (hK : AR P L N ops rest (fun es => K (val (.im (.int .u8 c.toNat)) :: es)) ((k, some (.im (.int .u8 c.toNat))) :: t) h) : AR P L N ops (⟨some k, .index T x ix, ty, pos, af, g⟩ :: rest) K t h := ar_val hw (.indexStr h1 h2 h3 h4 h7 h8) hd hK
theorem ar_sliceStrLo {T x lo s kd l i s'} (h1 : ev (lookT t) x = some (.im (.str s))) (h2 : ev (lookT t) lo = some (.im (.int kd l))) (h3 : L T = some i) (h4 : i.desc = .string) (h5 : 0 ≤ l ∧ l ≤ s.length) (h6 : s.drop l.toNat = s')
    (hK : AR P L N ops rest (fun es => K (val (.im (.str s')) :: es)) ((k, some (.im (.str s'))) :: t) h) : AR P L N ops (⟨some k, .slice T x (some lo) none none, ty, pos, af, g⟩ :: rest) K t h := by
  subst h6
  exact ar_val hw (.sliceStrLo h1 h2 h3 h4 h5.1 h5.2) hd hK
theorem ar_sliceStrHi {T x lo s kd l i s'} (h1 : ev (lookT t) x = some (.im (.str s))) (h2 : ev (lookT t) lo = some (.im (.int kd l))) (h3 : L T = some i) (h4 : i.desc = .string) (h5 : 0 ≤ l ∧ l ≤ s.length) (h6 : s.take l.toNat = s')
    (hK : AR P L N ops rest (fun es => K (val (.im (.str s')) :: es)) ((k, some (.im (.str s'))) :: t) h) : AR P L N ops (⟨some k, .slice T x none (some lo) none, ty, pos, af, g⟩ :: rest) K t h := by
  subst h6
  exact ar_val hw (.sliceStrHi h1 h2 h3 h4 h5.1 h5.2) hd hK
theorem ar_sliceStr {T x lo hi s kd kd' l l' i s'} (h1 : ev (lookT t) x = some (.im (.str s))) (h2 : ev (lookT t) lo = some (.im (.int kd l))) (h2' : ev (lookT t) hi = some (.im (.int kd' l'))) (h3 : L T = some i) (h4 : i.desc = .string) (h5 : 0 ≤ l ∧ l ≤ l' ∧ l' ≤ s.length) (h6 : (s.drop l.toNat).take (l'.toNat - l.toNat) = s')
    (hK : AR P L N ops rest (fun es => K (val (.im (.str s')) :: es)) ((k, some (.im (.str s'))) :: t) h) : AR P L N ops (⟨some k, .slice T x (some lo) (some hi) none, ty, pos, af, g⟩ :: rest) K t h := by
  subst h6
  exact ar_val hw (.sliceStr h1 h2 h2' h3 h4 h5.1 h5.2.1 h5.2.2) hd hK
theorem ar_sliceRow {T x lo id n sz kd l i e n'} (h1 : ev (lookT t) x = some (.row id n sz)) (h2 : ev (lookT t) lo = some (.im (.int kd l))) (h3 : L T = some i) (h4 : i.desc = .slice e) (h4' : (L e).isSome = true) (h5 : 0 ≤ l ∧ l ≤ n) (h6 : l.toNat = n')
    (hK : AR P L N ops rest (fun es => K (val (.row id n' sz) :: es)) ((k, some (.row id n' sz)) :: t) h) : AR P L N ops (⟨some k, .slice T x none (some lo) none, ty, pos, af, g⟩ :: rest) K t h := by
  subst h6
  exact ar_val hw (.sliceRow h1 h2 h3 h4 h4' h5.1 h5.2) hd hK
theorem ar_sliceSeqLo {T x lo n cs kd l i e ei n' cs'} (h1 : ev (lookT t) x = some (.im (.seq n cs))) (h2 : ev (lookT t) lo = some (.im (.int kd l))) (h3 : L T = some i) (h4 : i.desc = .slice e) (h4' : L e = some ei) (h5 : 0 ≤ l ∧ l ≤ n) (h6 : cs.length = n * ei.size) (h7 : n - l.toNat = n') (h8 : cs.drop (l.toNat * ei.size) = cs')
    (hK : AR P L N ops rest (fun es => K (val (.im (.seq n' cs')) :: es)) ((k, some (.im (.seq n' cs'))) :: t) h) : AR P L N ops (⟨some k, .slice T x (some lo) none none, ty, pos, af, g⟩ :: rest) K t h := by
  subst h7 h8
  exact ar_val hw (.sliceSeqLo h1 h2 h3 h4 h4' h5.1 h5.2 h6) hd hK
theorem ar_sliceSeqHi {T x lo n cs kd l i e ei n' cs'} (h1 : ev (lookT t) x = some (.im (.seq n cs))) (h2 : ev (lookT t) lo = some (.im (.int kd l))) (h3 : L T = some i) (h4 : i.desc = .slice e) (h4' : L e = some ei) (h5 : 0 ≤ l ∧ l ≤ n) (h7 : l.toNat = n') (h8 : cs.take (l.toNat * ei.size) = cs')
    (hK : AR P L N ops rest (fun es => K (val (.im (.seq n' cs')) :: es)) ((k, some (.im (.seq n' cs'))) :: t) h) : AR P L N ops (⟨some k, .slice T x none (some lo) none, ty, pos, af, g⟩ :: rest) K t h := by
  subst h7 h8
  exact ar_val hw (.sliceSeqHi h1 h2 h3 h4 h4' h5.1 h5.2) hd hK
theorem ar_extractM {x j ms m} (h1 : ev (lookT t) x = some (.im (.tup ms))) (h2 : ms[j]? = some m) (hK : AR P L N ops rest (fun es => K (val (.im m) :: es)) ((k, some (.im m)) :: t) h) : AR P L N ops (⟨some k, .extract x j, ty, pos, af, g⟩ :: rest) K t h := ar_val hw (.extractM h1 h2) hd hK
theorem ar_extractD {x j ds d} (h1 : ev (lookT t) x = some (.tup ds)) (h2 : ds[j]? = some d) (hK : AR P L N ops rest (fun es => K (val d :: es)) ((k, some d) :: t) h) : AR P L N ops (⟨some k, .extract x j, ty, pos, af, g⟩ :: rest) K t h := ar_val hw (.extractD h1 h2) hd hK
theorem ar_func {f caps ds} (h1 : evL (ev (lookT t)) caps.toList = some ds) (hK : AR P L N ops rest (fun es => K (val (.fn f ds) :: es)) ((k, some (.fn f ds)) :: t) h) : AR P L N ops (⟨some k, .makeFunc (.func f) #[] caps, ty, pos, af, g⟩ :: rest) K t h := ar_val hw (.func h1) hd hK
theorem ar_bin {op T x y T' kd a b m} (h1 : ev (lookT t) x = some (.im (.int kd a))) (h2 : ev (lookT t) y = some (.im (.int kd b))) (h3 : intOp op kd a b = some m) (hK : AR P L N ops rest (fun es => K (val (.im m) :: es)) ((k, some (.im m)) :: t) h) :
    AR P L N ops (⟨some k, .binOp op T x y T', ty, pos, af, g⟩ :: rest) K t h := ar_val hw (.binInt h1 h2 h3) hd hK
theorem ar_add {T x y T' a b} (h1 : ev (lookT t) x = some (.im (.int .i64 a))) (h2 : ev (lookT t) y = some (.im (.int .i64 b))) (h3 : -9223372036854775808 ≤ a + b ∧ a + b ≤ 9223372036854775807) (hK : AR P L N ops rest (fun es => K (val (.im (.int .i64 (a + b))) :: es)) ((k, some (.im (.int .i64 (a + b)))) :: t) h) :
    AR P L N ops (⟨some k, .binOp .add T x y T', ty, pos, af, g⟩ :: rest) K t h := by
  have e : IntKind.i64.wrap (a + b) = a + b := by rw [IntKind.wrap_i64]; omega
  exact ar_val hw (.binInt h1 h2 (by simp only [intOp, e])) hd hK
theorem ar_sub {T x y T' a b} (h1 : ev (lookT t) x = some (.im (.int .i64 a))) (h2 : ev (lookT t) y = some (.im (.int .i64 b))) (h3 : -9223372036854775808 ≤ a - b ∧ a - b ≤ 9223372036854775807) (hK : AR P L N ops rest (fun es => K (val (.im (.int .i64 (a - b))) :: es)) ((k, some (.im (.int .i64 (a - b)))) :: t) h) :
    AR P L N ops (⟨some k, .binOp .sub T x y T', ty, pos, af, g⟩ :: rest) K t h := by
  have e : IntKind.i64.wrap (a - b) = a - b := by rw [IntKind.wrap_i64]; omega
  exact ar_val hw (.binInt h1 h2 (by simp only [intOp, e])) hd hK
theorem ar_div {op T x y T' kd a b m} (h1 : ev (lookT t) x = some (.im (.int kd a))) (h2 : ev (lookT t) y = some (.im (.int kd b))) (h3 : divOp op kd a b = some m) (h4 : b ≠ 0) (hK : AR P L N ops rest (fun es => K (val (.im m) :: es)) ((k, some (.im m)) :: t) h) :
    AR P L N ops (⟨some k, .binOp op T x y T', ty, pos, af, g⟩ :: rest) K t h := ar_val hw (.binDiv h1 h2 h3 h4) hd hK
theorem ar_str {op T x y T' a b m} (h1 : ev (lookT t) x = some (.im (.str a))) (h2 : ev (lookT t) y = some (.im (.str b))) (h3 : strOp op a b = some m) (hK : AR P L N ops rest (fun es => K (val (.im m) :: es)) ((k, some (.im m)) :: t) h) :
    AR P L N ops (⟨some k, .binOp op T x y T', ty, pos, af, g⟩ :: rest) K t h := ar_val hw (.binStr h1 h2 h3) hd hK
theorem ar_addStr {T x y T' a b} (h1 : ev (lookT t) x = some (.im (.str a))) (h2 : ev (lookT t) y = some (.im (.str b))) (h3 : a.length + b.length ≤ 9223372036854775807) (hK : AR P L N ops rest (fun es => K (val (.im (.str (a ++ b))) :: es)) ((k, some (.im (.str (a ++ b)))) :: t) h) :
    AR P L N ops (⟨some k, .binOp .add T x y T', ty, pos, af, g⟩ :: rest) K t h := ar_val hw (.addStr h1 h2 h3) hd hK
theorem ar_bool {op T x y T' i a b m} (h1 : ev (lookT t) x = some (.im (.bool a))) (h2 : ev (lookT t) y = some (.im (.bool b))) (h3 : L T = some i) (h4 : i.desc = .bool) (h5 : boolOp op a b = some m) (hK : AR P L N ops rest (fun es => K (val (.im m) :: es)) ((k, some (.im m)) :: t) h) :
    AR P L N ops (⟨some k, .binOp op T x y T', ty, pos, af, g⟩ :: rest) K t h := ar_val hw (.binBool h1 h2 h3 h4 h5) hd hK
theorem ar_not {T x b} (h1 : ev (lookT t) x = some (.im (.bool b))) (hK : AR P L N ops rest (fun es => K (val (.im (.bool (!b))) :: es)) ((k, some (.im (.bool (!b)))) :: t) h) : AR P L N ops (⟨some k, .unOp .not T x, ty, pos, af, g⟩ :: rest) K t h := ar_val hw (.not h1) hd hK
theorem ar_neg {T x kd n} (h1 : ev (lookT t) x = some (.im (.int kd n))) (hK : AR P L N ops rest (fun es => K (val (.im (.int kd (kd.wrap (0 - n)))) :: es)) ((k, some (.im (.int kd (kd.wrap (0 - n))))) :: t) h) : AR P L N ops (⟨some k, .unOp .neg T x, ty, pos, af, g⟩ :: rest) K t h := ar_val hw (.neg h1) hd hK
theorem ar_conv {S T x k0 n is i kd} (h1 : ev (lookT t) x = some (.im (.int k0 n))) (h2 : L S = some is) (h3 : L T = some i) (h4 : i.desc = .int kd) (hK : AR P L N ops rest (fun es => K (val (.im (.int kd (kd.wrap n))) :: es)) ((k, some (.im (.int kd (kd.wrap n)))) :: t) h) :
    AR P L N ops (⟨some k, .convert S T x, ty, pos, af, g⟩ :: rest) K t h := ar_val hw (.convInt h1 h2 h3 h4) hd hK
theorem ar_lenStr {x s T i} (h1 : ev (lookT t) x = some (.im (.str s))) (h2 : L T = some i) (h3 : i.desc = .string) (hK : AR P L N ops rest (fun es => K (val (.im (.int .i64 s.length)) :: es)) ((k, some (.im (.int .i64 s.length))) :: t) h) :
    AR P L N ops (⟨some k, .call { callee := .builtin .len, args := #[x], argTypes := #[T] }, ty, pos, af, g⟩ :: rest) K t h := ar_val hw (.lenStr h1 h2 h3) hd hK
theorem ar_lenSeq {x n cs T i e} (h1 : ev (lookT t) x = some (.im (.seq n cs))) (h2 : L T = some i) (h3 : i.desc = .slice e) (hK : AR P L N ops rest (fun es => K (val (.im (.int .i64 n)) :: es)) ((k, some (.im (.int .i64 n))) :: t) h) :
    AR P L N ops (⟨some k, .call { callee := .builtin .len, args := #[x], argTypes := #[T] }, ty, pos, af, g⟩ :: rest) K t h := ar_val hw (.lenSeq h1 h2 h3) hd hK
theorem ar_lenNil {x T i e} (h1 : ev (lookT t) x = some (.im .nil)) (h2 : L T = some i) (h3 : i.desc = .slice e) (hK : AR P L N ops rest (fun es => K (val (.im (.int .i64 0)) :: es)) ((k, some (.im (.int .i64 0))) :: t) h) :
    AR P L N ops (⟨some k, .call { callee := .builtin .len, args := #[x], argTypes := #[T] }, ty, pos, af, g⟩ :: rest) K t h := ar_val hw (.lenNil h1 h2 h3) hd hK
theorem ar_lenRow {x id n sz T i e} (h1 : ev (lookT t) x = some (.row id n sz)) (h2 : L T = some i) (h3 : i.desc = .slice e) (hK : AR P L N ops rest (fun es => K (val (.im (.int .i64 n)) :: es)) ((k, some (.im (.int .i64 n))) :: t) h) :
    AR P L N ops (⟨some k, .call { callee := .builtin .len, args := #[x], argTypes := #[T] }, ty, pos, af, g⟩ :: rest) K t h := ar_val hw (.lenRow h1 h2 h3) hd hK
theorem ar_call {x args ats f ms m} (h1 : ev (lookT t) x = some (.im (.fn f))) (h2 : Plain P f) (h3 : evM (ev (lookT t)) (lookH h) args.toList = some (ms, [])) (h4 : Ret P f ms m) (hK : AR P L N ops rest (fun es => K (val (.im m) :: es)) ((k, some (.im m)) :: t) h) :
    AR P L N ops (⟨some k, .call { callee := .value x, args := args, argTypes := ats }, ty, pos, af, g⟩ :: rest) K t h := ar_val hw (.call h1 h2 h3 h4) hd hK
/-- rows among the arguments are data from then on -/
theorem ar_callZ {x args ats f ms ids m h'} (h1 : ev (lookT t) x = some (.im (.fn f))) (h2 : Plain P f) (h3 : evM (ev (lookT t)) (lookH h) args.toList = some (ms, ids)) (h4 : Ret P f ms m) (h5 : (ids.map fun i => (i, none)) ++ h = h') (hK : AR P L N ops rest (fun es => K (⟨some (.im m), ids.map fun i => (i, none), [], ids⟩ :: es)) ((k, some (.im m)) :: t) h') :
    AR P L N ops (⟨some k, .call { callee := .value x, args := args, argTypes := ats }, ty, pos, af, g⟩ :: rest) K t h := by
  subst h5
  exact ar_step (o := ⟨some k, .call { callee := .value x, args := args, argTypes := ats }, ty, pos, af, g⟩) hw (.call h1 h2 h3 h4) hd rfl hK
theorem ar_nilP {x id off} (h1 : ev (lookT t) x = some (.ptr id off)) (hK : AR P L N ops rest (fun es => K (val (.ptr id off) :: es)) ((k, some (.ptr id off)) :: t) h) : AR P L N ops (⟨some k, .nilCheck x, ty, pos, af, g⟩ :: rest) K t h := ar_val hw (.nilCheckP h1) hd hK
theorem ar_nilE {x cs} (h1 : ev (lookT t) x = some (.ep cs)) (hK : AR P L N ops rest (fun es => K (val (.ep cs) :: es)) ((k, some (.ep cs)) :: t) h) : AR P L N ops (⟨some k, .nilCheck x, ty, pos, af, g⟩ :: rest) K t h := ar_val hw (.nilCheckE h1) hd hK
theorem ar_append {x y T i e ei id0 n m sz by_ cs news js d cs'} (h1 : ev (lookT t) x = some (.row id0 n sz)) (h2 : ev (lookT t) y = some d) (h3 : News (lookH h) d m news js) (h4 : lookH h id0 = some (.rw e sz cs)) (h5 : L T = some i) (h6 : i.desc = .slice e) (h7 : L e = some ei) (h8 : ei.size = sz) (h9 : ei.bytes = by_) (h10 : 0 < sz)
    (h11 : n * sz ≤ cs.length) (h12 : news.length = m * sz) (h13 : (n + m) * by_ ≤ 140737488355328) (h14 : n + m ≤ 9223372036854775807) (h15 : ∀ id n' sz', d = .row id n' sz' → sz' = sz) (h16 : cs.take (n * sz) ++ news = cs') (hf : (freshT k t && freshH k h) = true)
    (hK : AR P L N ops rest (fun es => K (⟨some (.row k (n + m) sz), [(k, some (.rw e sz cs')), (id0, none)], [k], id0 :: js⟩ :: es)) ((k, some (.row k (n + m) sz)) :: t) ((k, some (.rw e sz cs')) :: (id0, none) :: h)) :
    AR P L N ops (⟨some k, .call { callee := .builtin .append, args := #[x, y], argTypes := #[T, T] }, ty, pos, af, g⟩ :: rest) K t h := by
  subst h8 h9 h16
  exact ar_step (o := ⟨some k, .call { callee := .builtin .append, args := #[x, y], argTypes := #[T, T] }, ty, pos, af, g⟩) hw (.append h1 h2 h3 h4 rfl h5 h6 h7 h10 h11 h12 h13 h14 h15) hd (by simp only [freshAll, Bool.and_true]; exact hf) hK
theorem ar_appendNil {x y T i e ei m sz by_ news js d} (h1 : ev (lookT t) x = some (.im .nil)) (h2 : ev (lookT t) y = some d) (h3 : News (lookH h) d m news js) (h5 : L T = some i) (h6 : i.desc = .slice e) (h7 : L e = some ei) (h8 : ei.size = sz) (h9 : ei.bytes = by_) (h10 : 0 < sz)
    (h12 : news.length = m * sz) (h13 : m * by_ ≤ 140737488355328) (h14 : m ≤ 9223372036854775807) (h15 : ∀ id n' sz', d = .row id n' sz' → sz' = sz) (hf : (freshT k t && freshH k h) = true)
    (hK : AR P L N ops rest (fun es => K (⟨some (.row k m sz), [(k, some (.rw e sz news))], [k], js⟩ :: es)) ((k, some (.row k m sz)) :: t) ((k, some (.rw e sz news)) :: h)) :
    AR P L N ops (⟨some k, .call { callee := .builtin .append, args := #[x, y], argTypes := #[T, T] }, ty, pos, af, g⟩ :: rest) K t h := by
  subst h8 h9
  exact ar_step (o := ⟨some k, .call { callee := .builtin .append, args := #[x, y], argTypes := #[T, T] }, ty, pos, af, g⟩) hw (.appendNil h1 h2 h3 h5 h6 h7 h10 h12 h13 h14 h15) hd (by simp only [freshAll, Bool.and_true]; exact hf) hK
end

theorem ar_storeB {T p x d cs' id off tb cs i} (h1 : ev (lookT t) p = some (.ptr id off)) (h2 : ev (lookT t) x = some d) (h3 : whole d = true) (h4 : lookH h id = some (.box tb cs)) (h5 : L T = some i) (h6 : Nat.beq (dcells d).length i.size = true) (h7 : Nat.ble (off + i.size) cs.length = true) (h8 : normL (splice cs off (dcells d)) = some cs')
    (hK : AR P L N ops rest (fun es => K (⟨none, [(id, some (.box tb cs'))], [], [id]⟩ :: es)) t ((id, some (.box tb cs')) :: h)) : AR P L N ops (⟨none, .store T p x, ty, pos, af, g⟩ :: rest) K t h := by
  have h8 := normL_eq h8
  subst h8
  exact ar_step (o := ⟨none, .store T p x, ty, pos, af, g⟩) hw (.storeB h1 h2 h3 h4 h5 (Nat.eq_of_beq_eq_true h6) (Nat.le_of_ble_eq_true h7)) rfl rfl hK
theorem ar_storeR {T p x d m cs' id off e sz cs i} (h1 : ev (lookT t) p = some (.ptr id off)) (h2 : ev (lookT t) x = some d) (h3 : toM d = some m) (h3' : mwhole m = true) (h4 : lookH h id = some (.rw e sz cs)) (h5 : L T = some i) (h6 : (mcells m).length = i.size) (h7 : off + i.size ≤ cs.length) (h0 : 0 < cs.length) (h8 : splice cs off (mcells m) = cs')
    (hK : AR P L N ops rest (fun es => K (⟨none, [(id, some (.rw e sz cs'))], [], [id]⟩ :: es)) t ((id, some (.rw e sz cs')) :: h)) : AR P L N ops (⟨none, .store T p x, ty, pos, af, g⟩ :: rest) K t h := by
  subst h8
  exact ar_step (o := ⟨none, .store T p x, ty, pos, af, g⟩) hw (.storeR h1 h2 h3 h3' h4 h5 h6 h7 h0) rfl rfl hK
end
end Fw

/-! ## FwN: A program logic over data: the steps that reckon themselves. -/
namespace Fw
open Go Go.RowKit
set_option linter.unusedVariables false
set_option linter.unusedSimpArgs false
set_option linter.unusedSectionVars false

abbrev R := Eff × TL × HL

def ikEq : IntKind → IntKind → Bool
  | .i8, .i8 | .i16, .i16 | .i32, .i32 | .i64, .i64 | .u8, .u8 | .u16, .u16 | .u32, .u32 | .u64, .u64 => true
  | _, _ => false
theorem ikEq_eq {a b : IntKind} (h : ikEq a b = true) : a = b := by cases a <;> cases b <;> first | rfl | cases h

def wantF (T : Nat → Option D) (ops : Array Oper) : Option (Nat × Bool) → Option Bool
  | none => some true
  | some (j, want) => match dstOf ops j with
    | some d => match T d with
      | some (.im (.bool true)) => some want
      | some (.im (.bool false)) => some (!want)
      | some (.im (.tup [])) => some false
      | _ => none
    | none => none
theorem wantF_ok {T : Nat → Option D} {ops : Array Oper} {g : Option (Nat × Bool)} {r : Bool} (h : wantF T ops g = some r) : Want T ops g r := by
  unfold wantF at h
  split at h
  · simp only [Option.some.injEq] at h; subst h; exact .free
  · split at h
    · rename_i hd
      split at h
      · rename_i ht; simp only [Option.some.injEq] at h; exact .told hd ht (by rw [← h]; cases ‹Bool› <;> rfl)
      · rename_i ht; simp only [Option.some.injEq] at h; exact .told hd ht (by rw [← h]; cases ‹Bool› <;> rfl)
      · rename_i ht; simp only [Option.some.injEq] at h; subst h; exact .past hd ht
      · cases h
    · cases h

def val1 (t : TL) (h : HL) (dst : Option Nat) : Option D → Option R
  | some d => match dst with
    | some k => some (⟨some d, [], [], []⟩, (k, some d) :: t, h)
    | none => none
  | none => none
def new1 (t : TL) (h : HL) (dst : Option Nat) (T : Nat) (cs : Option (List D)) : Option R := match cs with
  | some cs => match dst with
    | some k => bif freshT k t && freshH k h then some (⟨some (.ptr k 0), [(k, some (.box T cs))], [k], []⟩, (k, some (.ptr k 0)) :: t, (k, some (.box T cs)) :: h) else none
    | none => none
  | none => none
def load1 (t : TL) (h : HL) (dst : Option Nat) (id : Nat) : Option D → Option R
  | some d => match dst with
    | some k => some (⟨some d, [], [], [id]⟩, (k, some d) :: t, h)
    | none => none
  | none => none

def loadF (i : TI) (off : Nat) (cs : List D) : Option D := match aggD i.desc with
  | true => bif Nat.ble (off + i.size) cs.length then mkAggO ((cs.drop off).take i.size) else none
  | false => cs[off]?
def fieldD (L : Nat → Option TI) (T j : Nat) : Option (Nat × TI) := match L T with
  | some i => match i.desc with
    | .struct fs => match fs[j]? with
      | some f => match L f.type with
        | some fi => some (f.offset, fi)
        | none => none
      | none => none
    | _ => none
  | none => none
theorem fieldD_ok {L : Nat → Option TI} {T j off : Nat} {fi : TI} (h : fieldD L T j = some (off, fi)) : ∃ i fs f, L T = some i ∧ i.desc = .struct fs ∧ fs[j]? = some f ∧ L f.type = some fi ∧ f.offset = off := by
  unfold fieldD at h
  split at h
  · rename_i i hi
    split at h
    · rename_i fs hf
      split at h
      · rename_i f hj
        split at h
        · rename_i fi' hfi
          simp only [Option.some.injEq, Prod.mk.injEq] at h
          obtain ⟨rfl, rfl⟩ := h
          exact ⟨i, fs, f, hi, hf, hj, hfi, rfl⟩
        · cases h
      · cases h
    · cases h
  · cases h

def sliceElem (L : Nat → Option TI) (T : Nat) : Option (Nat × TI) := match L T with
  | some i => match i.desc with
    | .slice e => match L e with
      | some ei => some (e, ei)
      | none => none
    | _ => none
  | none => none
theorem sliceElem_ok {L : Nat → Option TI} {T e : Nat} {ei : TI} (h : sliceElem L T = some (e, ei)) : ∃ i, L T = some i ∧ i.desc = .slice e ∧ L e = some ei := by
  unfold sliceElem at h
  split at h
  · rename_i i hi
    split at h
    · rename_i e' hf
      split at h
      · rename_i ei' hei
        simp only [Option.some.injEq, Prod.mk.injEq] at h
        obtain ⟨rfl, rfl⟩ := h
        exact ⟨i, hi, hf, hei⟩
      · cases h
    · cases h
  · cases h

def buildF (L : Nat → Option TI) (ρ : Operand → Option D) (T : Nat) (parts : List (Nat × Operand)) : Option D := match L T with
  | some i => match i.desc with
    | .struct fs => match fs.toList.all (fun (f : Field) => (L f.type).isSome) with
      | true => match fillD ρ (place L fs) ((mcells i.mz).map .im) parts with
        | some cs => match normL cs with
          | some cs' => mkAggO cs'
          | none => none
        | none => none
      | false => none
    | _ => none
  | none => none

def binF (L : Nat → Option TI) (op : BinOp) (T : Nat) : Option D → Option D → Option D
  | some (.im (.int k a)), some (.im (.int k' b)) => match ikEq k k' with
    | true => match intOp op k a b with
      | some m => some (.im m)
      | none => none
    | false => none
  | some (.im (.str a)), some (.im (.str b)) => match strOp op a b with
    | some m => some (.im m)
    | none => none
  | some (.im (.bool a)), some (.im (.bool b)) => match L T with
    | some i => match i.desc with
      | .bool => match boolOp op a b with
        | some m => some (.im m)
        | none => none
      | _ => none
    | none => none
  | _, _ => none

def lenF (L : Nat → Option TI) (T : Nat) : Option D → Option D
  | some (.im (.str s)) => match L T with
    | some i => match i.desc with
      | .string => some (.im (.int .i64 s.length))
      | _ => none
    | none => none
  | some (.im (.seq n _)) => match L T with
    | some i => match i.desc with
      | .slice _ => some (.im (.int .i64 n))
      | _ => none
    | none => none
  | some (.im .nil) => match L T with
    | some i => match i.desc with
      | .slice _ => some (.im (.int .i64 0))
      | _ => none
    | none => none
  | some (.row _ n _) => match L T with
    | some i => match i.desc with
      | .slice _ => some (.im (.int .i64 n))
      | _ => none
    | none => none
  | _ => none

/-- an operation's step, where it can be reckoned -/
def stepF (L : Nat → Option TI) (t : TL) (h : HL) (op : Op) (dst : Option Nat) : Option R := match op with
  | .move x => val1 t h dst (ev (lookT t) x)
  | .assign x => val1 t h dst (ev (lookT t) x)
  | .pick c x y => match ev (lookT t) c with
    | some (.im (.bool true)) => val1 t h dst (ev (lookT t) x)
    | some (.im (.bool false)) => val1 t h dst (ev (lookT t) y)
    | _ => none
  | .alloc T => match L T with
    | some i => new1 t h dst T (normL ((mcells i.mz).map .im))
    | none => none
  | .box T x => match ev (lookT t) x with
    | some d => match whole d with
      | true => new1 t h dst T (normL (dcells d))
      | false => none
    | none => none
  | .load T p => match ev (lookT t) p with
    | some (.ptr id off) => match lookH h id with
      | some (.box _ cs) => match L T with
        | some i => load1 t h dst id (loadF i off cs)
        | none => none
      | some (.bx _ _ cs) => match L T with
        | some i => load1 t h dst id (loadF i off cs)
        | none => none
      | _ => none
    | some (.ep cs) => match L T with
      | some i => match aggD i.desc with
        | false => match cs[0]? with
          | some m => val1 t h dst (some (.im m))
          | none => none
        | true => bif Nat.ble i.size cs.length then (match normL (cs.take i.size) with
          | some ms => val1 t h dst (some (.im (.agg ms)))
          | none => none) else none
      | none => none
    | _ => none
  | .store T p x => match ev (lookT t) p with
    | some (.ptr id off) => match lookH h id with
      | some (.box tb cs) => match L T with
        | some i => match ev (lookT t) x with
          | some d => match whole d && Nat.beq (dcells d).length i.size && Nat.ble (off + i.size) cs.length with
            | true => match normL (splice cs off (dcells d)) with
              | some cs' => match dst with
                | none => some (⟨none, [(id, some (.box tb cs'))], [], [id]⟩, t, (id, some (.box tb cs')) :: h)
                | some _ => none
              | none => none
            | false => none
          | none => none
        | none => none
      | some (.bx bb tb cs) => match L T with
        | some i => match ev (lookT t) x with
          | some d => match whole d && Nat.beq (dcells d).length i.size && Nat.ble (off + i.size) cs.length with
            | true => match normL (splice cs off (dcells d)) with
              | some cs' => match dst with
                | none => some (⟨none, [(id, some (.bx bb tb cs'))], [], [id]⟩, t, (id, some (.bx bb tb cs')) :: h)
                | some _ => none
              | none => none
            | false => none
          | none => none
        | none => none
      | _ => none
    | _ => none
  | .fieldAddr T x j => match ev (lookT t) x with
    | some (.ptr id off) => match fieldD L T j with
      | some (fo, fi) => match Nat.beq fi.size 0 with
        | false => val1 t h dst (some (.ptr id (off + fo)))
        | true => none
      | none => none
    | some (.ep cs) => match fieldD L T j with
      | some (fo, fi) => match Nat.beq fi.size 0 with
        | false => val1 t h dst (some (.ep (cs.drop fo)))
        | true => none
      | none => none
    | _ => none
  | .field T x j => match ev (lookT t) x with
    | some (.im (.agg ms)) => match fieldD L T j with
      | some (fo, fi) => match aggD fi.desc with
        | false => match ms[fo]? with
          | some m => val1 t h dst (some (.im m))
          | none => none
        | true => match normL ((ms.drop fo).take fi.size) with
          | some ms' => val1 t h dst (some (.im (.agg ms')))
          | none => none
      | none => none
    | _ => none
  | .build T parts => val1 t h dst (buildF L (ev (lookT t)) T parts.toList)
  | .buildSlice T len parts => match sliceElem L T with
    | some (e, ei) => match Nat.ble 1 ei.size && Nat.ble (len * ei.size) 16777216 with
      | true => match fillM (ev (lookT t)) (fun k => some (k * ei.size, ei.size)) (List.replicate len (mcells ei.mz)).flatten parts.toList with
        | some cs => match normL cs with
          | some cs' => match dst with
            | some k => bif freshT k t && freshH k h then some (⟨some (.row k len ei.size), [(k, some (.rw e ei.size cs'))], [k], []⟩, (k, some (.row k len ei.size)) :: t, (k, some (.rw e ei.size cs')) :: h) else none
            | none => none
          | none => none
        | none => none
      | false => none
    | none => none
  | .extract x j => match ev (lookT t) x with
    | some (.im (.tup ms)) => match ms[j]? with
      | some m => val1 t h dst (some (.im m))
      | none => none
    | some (.tup ds) => val1 t h dst ds[j]?
    | _ => none
  | .makeFunc fn first caps => match fn with
    | .func f => match first.toList with
      | [] => match evL (ev (lookT t)) caps.toList with
        | some ds => val1 t h dst (some (.fn f ds))
        | none => none
      | _ => none
    | _ => none
  | .binOp op T x y _ => val1 t h dst (binF L op T (ev (lookT t) x) (ev (lookT t) y))
  | .unOp op _ x => match op with
    | .not => match ev (lookT t) x with
      | some (.im (.bool b)) => val1 t h dst (some (.im (.bool (!b))))
      | _ => none
    | .neg => match ev (lookT t) x with
      | some (.im (.int k n)) => val1 t h dst (some (.im (.int k (k.wrap (0 - n)))))
      | _ => none
    | _ => none
  | .convert S T x => match ev (lookT t) x with
    | some (.im (.int _ n)) => match L S with
      | some _ => match L T with
        | some i => match i.desc with
          | .int k => val1 t h dst (some (.im (.int k (k.wrap n))))
          | _ => none
        | none => none
      | none => none
    | _ => none
  | .call c => match c.callee with
    | .builtin b => match b with
      | .len => match c.args.toList with
        | [x] => match c.argTypes.toList with
          | [T] => val1 t h dst (lenF L T (ev (lookT t) x))
          | _ => none
        | _ => none
      | _ => none
    | _ => none
  | .nilCheck x => match ev (lookT t) x with
    | some (.ptr id off) => val1 t h dst (some (.ptr id off))
    | some (.ep cs) => val1 t h dst (some (.ep cs))
    | _ => none
  | _ => none

def opF (L : Nat → Option TI) (N : Nat) (ops : Array Oper) (t : TL) (h : HL) (o : Oper) : Option R := match dstOk N o.dst with
  | true => match wantF (lookT t) ops o.guard with
    | some true => stepF L t h o.op o.dst
    | some false => match o.dst with
      | some k => some (⟨some (.im (.tup [])), [], [], []⟩, (k, some (.im (.tup []))) :: t, h)
      | none => some (⟨some (.im (.tup [])), [], [], []⟩, t, h)
    | none => none
  | false => none

section
variable {P : Program} {L : Nat → Option TI} {N : Nat} {ops : Array Oper} {t t' : TL} {h h' : HL} {e : Eff}

/-- what a step that was reckoned says -/
def StepsTo (P : Program) (L : Nat → Option TI) (t : TL) (h : HL) (op : Op) (dst : Option Nat) (ty : TypeId) (e : Eff) (t' : TL) (h' : HL) : Prop :=
  Step P L (ev (lookT t)) (lookH h) op dst ty e ∧ freshAll t h e.nw = true ∧ t' = putL t dst e.r ∧ h' = e.ch ++ h

theorem val1_ok {op : Op} {dst : Option Nat} {ty : TypeId} {d : Option D} (hv : val1 t h dst d = some (e, t', h')) (hs : ∀ d' k, d = some d' → dst = some k → Step P L (ev (lookT t)) (lookH h) op dst ty (val d')) : StepsTo P L t h op dst ty e t' h' := by
  unfold val1 at hv
  split at hv
  · split at hv
    · simp only [Option.some.injEq, Prod.mk.injEq] at hv
      obtain ⟨rfl, rfl, rfl⟩ := hv
      exact ⟨hs _ _ rfl rfl, rfl, rfl, rfl⟩
    · cases hv
  · cases hv
theorem load1_ok {op : Op} {dst : Option Nat} {ty : TypeId} {d : Option D} {id : Nat} (hv : load1 t h dst id d = some (e, t', h')) (hs : ∀ d' k, d = some d' → dst = some k → Step P L (ev (lookT t)) (lookH h) op dst ty ⟨some d', [], [], [id]⟩) : StepsTo P L t h op dst ty e t' h' := by
  unfold load1 at hv
  split at hv
  · split at hv
    · simp only [Option.some.injEq, Prod.mk.injEq] at hv
      obtain ⟨rfl, rfl, rfl⟩ := hv
      exact ⟨hs _ _ rfl rfl, rfl, rfl, rfl⟩
    · cases hv
  · cases hv
theorem new1_ok {op : Op} {dst : Option Nat} {ty : TypeId} {T : Nat} {cs : Option (List D)} (hv : new1 t h dst T cs = some (e, t', h')) (hs : ∀ cs' k, cs = some cs' → dst = some k → Step P L (ev (lookT t)) (lookH h) op (some k) ty ⟨some (.ptr k 0), [(k, some (.box T cs'))], [k], []⟩) : StepsTo P L t h op dst ty e t' h' := by
  unfold new1 at hv
  split at hv
  · split at hv
    · rename_i k
      cases hb : (freshT k t && freshH k h) with
      | false => rw [hb] at hv; cases hv
      | true =>
        rw [hb] at hv
        simp only [cond_true, Option.some.injEq, Prod.mk.injEq] at hv
        obtain ⟨rfl, rfl, rfl⟩ := hv
        exact ⟨hs _ _ rfl rfl, by simp only [freshAll, Bool.and_true]; exact hb, rfl, rfl⟩
    · cases hv
  · cases hv

theorem evO1 {ρ : Operand → Option D} {x : Operand} {d : D} (h : ρ x = some d) : evL ρ [x] = some [d] := by simp only [evL, h]
theorem evO2 {ρ : Operand → Option D} {x y : Operand} {d e : D} (h : ρ x = some d) (h' : ρ y = some e) : evL ρ [x, y] = some [d, e] := by simp only [evL, h, h']
theorem evO1_inv {ρ : Operand → Option D} {x : Operand} {d : D} (h : evL ρ [x] = some [d]) : ρ x = some d := by
  simp only [evL] at h
  cases hx : ρ x with
  | none => rw [hx] at h; simp at h
  | some d' => rw [hx] at h; simpa using h
theorem evO2_inv {ρ : Operand → Option D} {x y : Operand} {d e : D} (h : evL ρ [x, y] = some [d, e]) : ρ x = some d ∧ ρ y = some e := by
  simp only [evL] at h
  cases hx : ρ x with
  | none => rw [hx] at h; simp at h
  | some d' =>
    cases hy : ρ y with
    | none => rw [hx, hy] at h; simp at h
    | some e' => rw [hx, hy] at h; simpa using h
theorem rd_bx {N : Nat} {w0 : World} {ok0 S0 : Nat → Prop} {T : Nat → Option D} {H : Nat → Option O} {β : Nat → Option Nat} {ok : Nat → Prop} {a : Act} {w : World} (hc : Conc N w0 ok0 S0 T H β ok a w) {id bb : Nat} {t : TypeId} {cs : List D} (h : H id = some (.bx bb t cs)) : β id = some bb ∧ ∃ us, w.heap[bb]? = some (.cells us t (0, 0)) ∧ RDs β ok w cs us.toList := by
  have := hc.obj id _ h
  simpa only [RO] using this
/-- loads and stores of a box at a known block -/
theorem sem_loadBx {T off tb bb id : Nat} {x : Operand} {dst : Option Nat} {ty : TypeId} {cs : List D} {i : TI} {d : D} (hi : L T = some i) (ha : aggD i.desc = false) (hd : cs[off]? = some d) :
    SemD P L (.load T x) dst ty [.ptr id off] [(id, .bx bb tb cs)] ⟨some d, [], [], [id]⟩ := by
  intro N w0 ok0 S0 T' H β ok a w o Q hL hc hN ho hdst hty hx hg hfr
  obtain ⟨b, hb, hp⟩ := rd_ptr hc (evO1_inv (by simpa [Op.operands] using hx))
  obtain ⟨hb2, us, h1, h2⟩ := rd_bx hc (hg (id, .bx bb tb cs) (by simp))
  obtain rfl : b = bb := by rw [hb] at hb2; exact Option.some.inj hb2
  obtain ⟨u, h3, h4, h5⟩ := h2.get hd
  refine go_val hc hN rfl rfl (v := u) ?_ h5
  have hcell : w.cell? ⟨b, off, none⟩ = some u := by rw [cell_get h1, ← Array.getElem?_toList, h3]
  simp only [execOp, ho, Instr.loadAt, Instr.sureAddr, hp, Sem.run_bind, Sem.run_pure, Result.andThen_ok, run_loadVar1 hL hi ha hcell]
theorem sem_loadBxA {T off tb bb id : Nat} {x : Operand} {dst : Option Nat} {ty : TypeId} {cs : List D} {i : TI} (hi : L T = some i) (ha : aggD i.desc = true) (hl : off + i.size ≤ cs.length) :
    SemD P L (.load T x) dst ty [.ptr id off] [(id, .bx bb tb cs)] ⟨some (mkAgg ((cs.drop off).take i.size)), [], [], [id]⟩ := by
  intro N w0 ok0 S0 T' H β ok a w o Q hL hc hN ho hdst hty hx hg hfr
  obtain ⟨b, hb, hp⟩ := rd_ptr hc (evO1_inv (by simpa [Op.operands] using hx))
  obtain ⟨hb2, us, h1, h2⟩ := rd_bx hc (hg (id, .bx bb tb cs) (by simp))
  obtain rfl : b = bb := by rw [hb] at hb2; exact Option.some.inj hb2
  have hlen : cs.length = us.size := by simpa using h2.length
  have h3 := (h2.drop off).take i.size
  refine go_val hc hN rfl rfl (v := .agg ((us.toList.drop off).take i.size).toArray) ?_ (mkAgg_rd (by simpa using h3))
  have hcell : ∀ j u, ((us.toList.drop off).take i.size)[j]? = some u → w.cell? ⟨b, off + j, none⟩ = some u := by
    intro j u hj
    rw [cell_get h1, ← Array.getElem?_toList]
    rw [List.getElem?_take] at hj
    split at hj
    · rwa [List.getElem?_drop] at hj
    · cases hj
  simp only [execOp, ho, Instr.loadAt, Instr.sureAddr, hp, Sem.run_bind, Sem.run_pure, Result.andThen_ok, run_loadVarA hL hi ha (by simp; omega) hcell]
theorem sem_storeBx {T off tb bb id : Nat} {x y : Operand} {dst : Option Nat} {ty : TypeId} {cs : List D} {i : TI} {d : D} (hi : L T = some i) (hw : whole d = true) (hs : (dcells d).length = i.size) (hl : off + i.size ≤ cs.length) :
    SemD P L (.store T x y) dst ty [.ptr id off, d] [(id, .bx bb tb cs)] ⟨none, [(id, some (.bx bb tb (splice cs off (dcells d))))], [], [id]⟩ := by
  intro N w0 ok0 S0 T' H β ok a w o Q hL hc hN ho hdst hty hx hg hfr
  obtain ⟨h1', hx'⟩ := evO2_inv (by simpa [Op.operands] using hx)
  obtain ⟨b, hb, hp⟩ := rd_ptr hc h1'
  have hH := hg (id, .bx bb tb cs) (by simp)
  obtain ⟨hb2, us, h1, h2⟩ := rd_bx hc hH
  obtain rfl : b = bb := by rw [hb] at hb2; exact Option.some.inj hb2
  have hlen : cs.length = us.size := by simpa using h2.length
  have hv := ev_rd hc hx'
  have hcs := RD.cells hw hv
  obtain ⟨w', g1, g2, g3⟩ := run_storeVar hL hc hN (o := o) (off := off) (v := a.eval y) hi h1 (by rw [RD.cells_len hw hv, hs]) (by omega) hcs.one
  have hst : Stays ok ok w w' := fun b' hb' _ => ⟨hb', g2.block b' (by rintro rfl; exact hc.okd b' hb' id _ hH hb)⟩
  refine wp_unit (w' := w') ?_ ⟨β, ok, ?_⟩
  · simp only [execOp, ho, Instr.storeAt, Instr.sureAddr, hp, Sem.run_bind, Sem.run_pure, Result.andThen_ok, g1]
  · refine hc.turn o.dst undef none hN id _ _ b hH hb g2 ?_ (fun d h => by cases h)
    simp only [RO]
    refine ⟨hb, _, g3, ?_⟩
    simpa using (RDs.mono hst _ _ (g2.names _) (h2.splice hcs))
theorem stepF_ok {op : Op} {dst : Option Nat} {ty : TypeId} (hv : stepF L t h op dst = some (e, t', h')) : StepsTo P L t h op dst ty e t' h' := by
  unfold stepF at hv
  split at hv
  · exact val1_ok hv fun d k hd _ => .move hd
  · exact val1_ok hv fun d k hd _ => .assign hd
  · split at hv
    · rename_i hc; exact val1_ok hv fun d k hd _ => .pick hc hd
    · rename_i hc; exact val1_ok hv fun d k hd _ => .pick hc hd
    · cases hv
  · split at hv
    · rename_i hi
      exact new1_ok hv fun cs k hcs _ => by rw [← normL_eq hcs]; exact .alloc hi
    · cases hv
  · split at hv
    · rename_i hx
      split at hv
      · rename_i hw
        exact new1_ok hv fun cs k hcs _ => by rw [← normL_eq hcs]; exact .box hx hw
      · cases hv
    · cases hv
  · split at hv
    · rename_i hp
      split at hv
      · rename_i hg
        split at hv
        · rename_i i hi
          refine load1_ok hv fun d k hd _ => ?_
          unfold loadF at hd
          split at hd
          · rename_i ha
            cases hb : Nat.ble _ _ with
            | false => rw [hb] at hd; cases hd
            | true =>
              rw [hb] at hd
              rw [← mkAggO_eq hd]
              exact .loadBA hp hg hi ha (Nat.le_of_ble_eq_true hb)
          · rename_i ha
            exact .loadB hp hg hi ha hd
        · cases hv
      · rename_i hg
        split at hv
        · rename_i i hi
          refine load1_ok hv fun d k hd _ => ?_
          unfold loadF at hd
          split at hd
          · rename_i ha
            cases hb : Nat.ble _ _ with
            | false => rw [hb] at hd; cases hd
            | true =>
              rw [hb] at hd
              rw [← mkAggO_eq hd]
              exact .sem _ (evO1 hp) (by intro p hm; simp only [List.mem_singleton] at hm; subst hm; exact hg) (by intro p hm; simp only [List.mem_singleton] at hm; subst hm; exact List.mem_singleton.2 rfl) (sem_loadBxA hi ha (Nat.le_of_ble_eq_true hb))
          · rename_i ha
            exact .sem _ (evO1 hp) (by intro p hm; simp only [List.mem_singleton] at hm; subst hm; exact hg) (by intro p hm; simp only [List.mem_singleton] at hm; subst hm; exact List.mem_singleton.2 rfl) (sem_loadBx hi ha hd)
        · cases hv
      · cases hv
    · rename_i hp
      split at hv
      · rename_i i hi
        split at hv
        · rename_i ha
          split at hv
          · rename_i m hm
            exact val1_ok hv fun d k hd _ => by cases hd; exact .loadE hp hi ha hm
          · cases hv
        · rename_i ha
          cases hb : Nat.ble i.size _ with
          | false => rw [hb] at hv; cases hv
          | true =>
            rw [hb] at hv
            simp only [cond_true] at hv
            split at hv
            · rename_i ms hm
              exact val1_ok hv fun d k hd _ => by cases hd; rw [← normL_eq hm]; exact .loadEA hp hi ha (Nat.le_of_ble_eq_true hb)
            · cases hv
      · cases hv
    · cases hv
  · split at hv
    · rename_i hp
      split at hv
      · rename_i hg
        split at hv
        · rename_i i hi
          split at hv
          · rename_i d hx
            split at hv
            · rename_i hb
              split at hv
              · rename_i cs' hcs
                split at hv
                · simp only [Option.some.injEq, Prod.mk.injEq] at hv
                  obtain ⟨rfl, rfl, rfl⟩ := hv
                  simp only [Bool.and_eq_true] at hb
                  refine ⟨?_, rfl, rfl, rfl⟩
                  rw [← normL_eq hcs]
                  exact .storeB hp hx hb.1.1 hg hi (Nat.eq_of_beq_eq_true hb.1.2) (Nat.le_of_ble_eq_true hb.2)
                · cases hv
              · cases hv
            · cases hv
          · cases hv
        · cases hv
      · rename_i hg
        split at hv
        · rename_i i hi
          split at hv
          · rename_i d hx
            split at hv
            · rename_i hb
              split at hv
              · rename_i cs' hcs
                split at hv
                · simp only [Option.some.injEq, Prod.mk.injEq] at hv
                  obtain ⟨rfl, rfl, rfl⟩ := hv
                  simp only [Bool.and_eq_true] at hb
                  refine ⟨?_, rfl, rfl, rfl⟩
                  rw [← normL_eq hcs]
                  exact .sem _ (evO2 hp hx) (by intro p hm; simp only [List.mem_singleton] at hm; subst hm; exact hg) (by intro p hm; simp only [List.mem_singleton] at hm; subst hm; exact List.mem_singleton.2 rfl) (sem_storeBx hi hb.1.1 (Nat.eq_of_beq_eq_true hb.1.2) (Nat.le_of_ble_eq_true hb.2))
                · cases hv
              · cases hv
            · cases hv
          · cases hv
        · cases hv
      · cases hv
    · cases hv
  · split at hv
    · rename_i hp
      split at hv
      · rename_i fo fi hf
        split at hv
        · rename_i hz
          obtain ⟨i, fs, f, h1, h2, h3, h4, rfl⟩ := fieldD_ok hf
          exact val1_ok hv fun d k hd _ => by cases hd; exact .fieldP hp h1 h2 h3 h4 (by intro he; rw [he] at hz; cases hz)
        · cases hv
      · cases hv
    · rename_i hp
      split at hv
      · rename_i fo fi hf
        split at hv
        · rename_i hz
          obtain ⟨i, fs, f, h1, h2, h3, h4, rfl⟩ := fieldD_ok hf
          exact val1_ok hv fun d k hd _ => by cases hd; exact .fieldE hp h1 h2 h3 h4 (by intro he; rw [he] at hz; cases hz)
        · cases hv
      · cases hv
    · cases hv
  · split at hv
    · rename_i hp
      split at hv
      · rename_i fo fi hf
        obtain ⟨i, fs, f, h1, h2, h3, h4, rfl⟩ := fieldD_ok hf
        split at hv
        · rename_i ha
          split at hv
          · rename_i m hm
            exact val1_ok hv fun d k hd _ => by cases hd; exact .fieldM hp h1 h2 h3 h4 ha hm
          · cases hv
        · rename_i ha
          split at hv
          · rename_i ms' hm
            exact val1_ok hv fun d k hd _ => by cases hd; rw [← normL_eq hm]; exact .fieldMA hp h1 h2 h3 h4 ha
          · cases hv
      · cases hv
    · cases hv
  · refine val1_ok hv fun d k hd _ => ?_
    unfold buildF at hd
    split at hd
    · rename_i i hi
      split at hd
      · rename_i fs hf
        split at hd
        · rename_i ha
          split at hd
          · rename_i cs hcs
            split at hd
            · rename_i cs' hn
              have hn := normL_eq hn
              subst hn
              rw [← mkAggO_eq hd]
              exact .build hi hf ha hcs
            · cases hd
          · cases hd
        · cases hd
      · cases hd
    · cases hd
  · split at hv
    · rename_i e' ei he
      obtain ⟨i, h1, h2, h3⟩ := sliceElem_ok he
      split at hv
      · rename_i hb
        split at hv
        · rename_i cs hcs
          split at hv
          · rename_i cs' hn
            split at hv
            · rename_i k
              cases hfr : (freshT k t && freshH k h) with
              | false => rw [hfr] at hv; cases hv
              | true =>
                rw [hfr] at hv
                simp only [cond_true, Option.some.injEq, Prod.mk.injEq] at hv
                obtain ⟨rfl, rfl, rfl⟩ := hv
                simp only [Bool.and_eq_true] at hb
                have hn := normL_eq hn
                subst hn
                refine ⟨.buildSlice h1 h2 h3 (Nat.le_of_ble_eq_true hb.1) (Nat.le_of_ble_eq_true hb.2) hcs, by simp only [freshAll, Bool.and_true]; exact hfr, rfl, rfl⟩
            · cases hv
          · cases hv
        · cases hv
      · cases hv
    · cases hv
  · split at hv
    · rename_i hx
      split at hv
      · rename_i m hm
        exact val1_ok hv fun d k hd _ => by cases hd; exact .extractM hx hm
      · cases hv
    · rename_i hx
      exact val1_ok hv fun d k hd _ => .extractD hx hd
    · cases hv
  · split at hv
    · rename_i f
      split at hv
      · rename_i hfirst
        split at hv
        · rename_i ds hds
          have hfe := Array.toList_inj.1 (hfirst.trans (show ([] : List Operand) = (#[] : Array Operand).toList from rfl))
          rw [hfe]
          exact val1_ok hv fun d k hd _ => by cases hd; exact .func hds
        · cases hv
      · cases hv
    · cases hv
  · refine val1_ok hv fun d k hd _ => ?_
    unfold binF at hd
    split at hd
    · rename_i h1 h2
      split at hd
      · rename_i hk
        split at hd
        · rename_i m hm
          cases hd
          have := ikEq_eq hk
          subst this
          exact .binInt h1 h2 hm
        · cases hd
      · cases hd
    · rename_i h1 h2
      split at hd
      · rename_i m hm
        cases hd
        exact .binStr h1 h2 hm
      · cases hd
    · rename_i h1 h2
      split at hd
      · rename_i i hi
        split at hd
        · rename_i hf
          split at hd
          · rename_i m hm
            cases hd
            exact .binBool h1 h2 hi hf hm
          · cases hd
        · cases hd
      · cases hd
    · cases hd
  · split at hv
    · split at hv
      · rename_i hx
        exact val1_ok hv fun d k hd _ => by cases hd; exact .not hx
      · cases hv
    · split at hv
      · rename_i hx
        exact val1_ok hv fun d k hd _ => by cases hd; exact .neg hx
      · cases hv
    · cases hv
  · split at hv
    · rename_i hx
      split at hv
      · rename_i hs
        split at hv
        · rename_i i hi
          split at hv
          · rename_i hf
            exact val1_ok hv fun d k hd _ => by cases hd; exact .convInt hx hs hi hf
          · cases hv
        · cases hv
      · cases hv
    · cases hv
  · rename_i c
    obtain ⟨callee, args, ats⟩ := c
    simp only [] at hv
    split at hv
    case h_2 => cases hv
    split at hv
    case h_2 => cases hv
    split at hv
    case h_2 => cases hv
    rename_i ha
    split at hv
    case h_2 => cases hv
    rename_i hat
    have ha := Array.toList_inj.1 (ha.trans (show [_] = (#[_] : Array Operand).toList from rfl))
    have hat := Array.toList_inj.1 (hat.trans (show [_] = (#[_] : Array TypeId).toList from rfl))
    subst ha hat
    refine val1_ok hv fun d k hd _ => ?_
    unfold lenF at hd
    split at hd
    · rename_i hx
      split at hd
      · rename_i i hi
        split at hd
        · rename_i hf; cases hd; exact .lenStr hx hi hf
        · cases hd
      · cases hd
    · rename_i hx
      split at hd
      · rename_i i hi
        split at hd
        · rename_i hf; cases hd; exact .lenSeq hx hi hf
        · cases hd
      · cases hd
    · rename_i hx
      split at hd
      · rename_i i hi
        split at hd
        · rename_i hf; cases hd; exact .lenNil hx hi hf
        · cases hd
      · cases hd
    · rename_i hx
      split at hd
      · rename_i i hi
        split at hd
        · rename_i hf; cases hd; exact .lenRow hx hi hf
        · cases hd
      · cases hd
    · cases hd
  · split at hv
    · rename_i hx
      exact val1_ok hv fun d k hd _ => by cases hd; exact .nilCheckP hx
    · rename_i hx
      exact val1_ok hv fun d k hd _ => by cases hd; exact .nilCheckE hx
    · cases hv
  · cases hv

theorem ar_op {o : Oper} {rest : List Oper} {K : List Eff → TL → HL → Prop} (hv : opF L N ops t h o = some (e, t', h')) (hK : AR P L N ops rest (fun es => K (e :: es)) t' h') : AR P L N ops (o :: rest) K t h := by
  unfold opF at hv
  split at hv
  · rename_i hd
    split at hv
    · rename_i hw
      obtain ⟨h1, h2, rfl, rfl⟩ := stepF_ok (P := P) (ty := o.type) hv
      exact ar_step (wantF_ok hw) h1 hd h2 hK
    · rename_i hw
      split at hv
      · rename_i k hk
        simp only [Option.some.injEq, Prod.mk.injEq] at hv
        obtain ⟨rfl, rfl, rfl⟩ := hv
        obtain ⟨es, t', h', hr, hk'⟩ := hK
        refine ⟨_ :: es, t', h', .skip (wantF_ok hw) hd ?_, hk'⟩
        rw [hk]; exact hr
      · rename_i hk
        simp only [Option.some.injEq, Prod.mk.injEq] at hv
        obtain ⟨rfl, rfl, rfl⟩ := hv
        obtain ⟨es, t', h', hr, hk'⟩ := hK
        refine ⟨_ :: es, t', h', .skip (wantF_ok hw) hd ?_, hk'⟩
        rw [hk]; exact hr
    · cases hv
  · cases hv

/-- a call of a function, by its contract -/
theorem ar_call' {k : Nat} {ty : TypeId} {pos : String} {af : Array Edge} {g : Option (Nat × Bool)} {rest : List Oper} {K : List Eff → TL → HL → Prop} {x : Operand} {args : Array Operand} {ats : Array TypeId} {f : Nat} {ms : List M} {m : M}
    (hw : wantF (lookT t) ops g = some true) (hd : Nat.blt k N = true) (h1 : ev (lookT t) x = some (.im (.fn f))) (h3 : evM (ev (lookT t)) (lookH h) args.toList = some (ms, [])) (h2 : Plain P f) (h4 : Ret P f ms m)
    (hK : AR P L N ops rest (fun es => K (val (.im m) :: es)) ((k, some (.im m)) :: t) h) : AR P L N ops (⟨some k, .call { callee := .value x, args := args, argTypes := ats }, ty, pos, af, g⟩ :: rest) K t h :=
  ar_call (wantF_ok hw) hd h1 h2 h3 h4 hK
theorem ar_callZ' {k : Nat} {ty : TypeId} {pos : String} {af : Array Edge} {g : Option (Nat × Bool)} {rest : List Oper} {K : List Eff → TL → HL → Prop} {x : Operand} {args : Array Operand} {ats : Array TypeId} {f : Nat} {ms : List M} {ids : List Nat} {m : M} {h' : HL}
    (hw : wantF (lookT t) ops g = some true) (hd : Nat.blt k N = true) (h1 : ev (lookT t) x = some (.im (.fn f))) (h3 : evM (ev (lookT t)) (lookH h) args.toList = some (ms, ids)) (h2 : Plain P f) (h4 : Ret P f ms m) (h5 : normL ((ids.map fun i => (i, (none : Option O))) ++ h) = some h')
    (hK : AR P L N ops rest (fun es => K (⟨some (.im m), ids.map fun i => (i, none), [], ids⟩ :: es)) ((k, some (.im m)) :: t) h') : AR P L N ops (⟨some k, .call { callee := .value x, args := args, argTypes := ats }, ty, pos, af, g⟩ :: rest) K t h :=
  ar_callZ (wantF_ok hw) hd h1 h2 h3 h4 (normL_eq h5) hK
end
end Fw

/-! ## FwO: A program logic over data: slices of typed elements. -/
namespace Fw
open Go Go.RowKit
set_option linter.unusedVariables false
set_option linter.unusedSimpArgs false
set_option linter.unusedSectionVars false

/-- a slice of elements, each of so many cells -/
def mS {α : Type} (enc : α → List M) (l : List α) : M := .seq l.length (l.flatMap enc)

theorem flatMap_len {α : Type} {enc : α → List M} {sz : Nat} (he : ∀ x, (enc x).length = sz) (l : List α) : (l.flatMap enc).length = l.length * sz := by
  induction l with
  | nil => simp
  | cons x l ih => simp only [List.flatMap_cons, List.length_append, ih, he, List.length_cons, Nat.add_mul]; omega
theorem flatMap_drop {α : Type} {enc : α → List M} {sz : Nat} (he : ∀ x, (enc x).length = sz) (l : List α) (i : Nat) : (l.flatMap enc).drop (i * sz) = (l.drop i).flatMap enc := by
  induction i generalizing l with
  | zero => simp
  | succ i ih =>
    cases l with
    | nil => simp
    | cons x l =>
      simp only [List.flatMap_cons, List.drop_succ_cons]
      rw [← ih, show (i + 1) * sz = (enc x).length + i * sz by rw [he, Nat.add_mul]; omega, List.drop_append, List.drop_eq_nil_of_le (by omega), List.nil_append, Nat.add_sub_cancel_left]
theorem flatMap_take {α : Type} {enc : α → List M} {sz : Nat} (he : ∀ x, (enc x).length = sz) (l : List α) (i : Nat) : (l.flatMap enc).take (i * sz) = (l.take i).flatMap enc := by
  induction i generalizing l with
  | zero => simp
  | succ i ih =>
    cases l with
    | nil => simp
    | cons x l =>
      simp only [List.flatMap_cons, List.take_succ_cons]
      rw [← ih, show (i + 1) * sz = (enc x).length + i * sz by rw [he, Nat.add_mul]; omega, List.take_append, List.take_of_length_le (by omega), Nat.add_sub_cancel_left]

section
variable {P : Program} {L : Nat → Option TI} {N : Nat} {ops : Array Oper} {rest : List Oper} {K : List Eff → TL → HL → Prop} {t : TL} {h : HL} {k : Nat} {ty : TypeId} {pos : String} {af : Array Edge} {g : Option (Nat × Bool)}

/-- an element's address -/
theorem ar_at {α : Type} {enc : α → List M} {l : List α} {T x ix kd j e ei} (i : Nat) (hw : wantF (lookT t) ops g = some true) (hd : Nat.blt k N = true) (h1 : ev (lookT t) x = some (.im (mS enc l))) (h2 : ev (lookT t) ix = some (.im (.int kd j))) (h3 : sliceElem L T = some (e, ei))
    (he : ∀ x, (enc x).length = ei.size) (h0 : Nat.ble 1 ei.size = true) (hj : j = (i : Int)) (hi : i < l.length)
    (hK : AR P L N ops rest (fun es => K (val (.ep (enc l[i] ++ (l.drop (i + 1)).flatMap enc)) :: es)) ((k, some (.ep (enc l[i] ++ (l.drop (i + 1)).flatMap enc))) :: t) h) : AR P L N ops (⟨some k, .indexAddr T x ix, ty, pos, af, g⟩ :: rest) K t h := by
  obtain ⟨i', q1, q2, q3⟩ := sliceElem_ok h3
  have h0' := Nat.le_of_ble_eq_true h0
  subst hj
  have e1 : (l.flatMap enc).drop ((i : Int).toNat * ei.size) = enc l[i] ++ (l.drop (i + 1)).flatMap enc := by
    rw [Int.toNat_natCast, flatMap_drop he, List.drop_eq_getElem_cons hi, List.flatMap_cons]
  refine ar_indexS (wantF_ok hw) hd (n := l.length) (cs := l.flatMap enc) h1 h2 q1 q2 q3 ⟨by omega, by omega⟩ ?_ e1 hK
  rw [Int.toNat_natCast, flatMap_len he]
  exact Nat.mul_lt_mul_of_pos_right hi h0'
/-- sums and differences of ints that stay in range -/
theorem ar_addN {T x y T' a b} (hw : wantF (lookT t) ops g = some true) (hd : Nat.blt k N = true) (h1 : ev (lookT t) x = some (.im (.int .i64 a))) (h2 : ev (lookT t) y = some (.im (.int .i64 b))) (h3 : -9223372036854775808 ≤ a + b ∧ a + b ≤ 9223372036854775807)
    (hK : AR P L N ops rest (fun es => K (val (.im (.int .i64 (a + b))) :: es)) ((k, some (.im (.int .i64 (a + b)))) :: t) h) : AR P L N ops (⟨some k, .binOp .add T x y T', ty, pos, af, g⟩ :: rest) K t h := ar_add (wantF_ok hw) hd h1 h2 h3 hK
theorem ar_subN {T x y T' a b} (hw : wantF (lookT t) ops g = some true) (hd : Nat.blt k N = true) (h1 : ev (lookT t) x = some (.im (.int .i64 a))) (h2 : ev (lookT t) y = some (.im (.int .i64 b))) (h3 : -9223372036854775808 ≤ a - b ∧ a - b ≤ 9223372036854775807)
    (hK : AR P L N ops rest (fun es => K (val (.im (.int .i64 (a - b))) :: es)) ((k, some (.im (.int .i64 (a - b)))) :: t) h) : AR P L N ops (⟨some k, .binOp .sub T x y T', ty, pos, af, g⟩ :: rest) K t h := ar_sub (wantF_ok hw) hd h1 h2 h3 hK

theorem awp_loop1 {KK0 : KK} {A : Type} {c : Code} (I : A → Prop) (It : A → TL) (Ih : A → HL) (μ : A → Nat) (x0 : A) (hI : I x0) (h0 : Sub t h (It x0) (Ih x0))
    (round : ∀ x, I x → Awp P N c (fun e t' h' => match e with | .normal => ∃ y, I y ∧ Sub t' h' (It y) (Ih y) ∧ μ y < μ x | e => KK0 e t' h') (It x) (Ih x)) : Awp P N (.loop c) KK0 t h := by
  refine awp_loop (A := {x : A // I x}) (fun x => It x.1) (fun x => Ih x.1) (fun x => μ x.1) ⟨x0, hI⟩ h0 (fun x => awp_mono (round x.1 x.2) ?_)
  intro e t' h' hk
  cases e with
  | normal => obtain ⟨y, h1, h2, h3⟩ := hk; exact ⟨⟨y, h1⟩, h2, h3⟩
  | exit id => exact hk
  | ret => exact hk
theorem awp_loop2 {KK0 : KK} {A B : Type} {c : Code} (I : A → B → Prop) (It : A → B → TL) (Ih : A → B → HL) (μ : A → B → Nat) (x0 : A) (y0 : B) (hI : I x0 y0) (h0 : Sub t h (It x0 y0) (Ih x0 y0))
    (round : ∀ x y, I x y → Awp P N c (fun e t' h' => match e with | .normal => ∃ x' y', I x' y' ∧ Sub t' h' (It x' y') (Ih x' y') ∧ μ x' y' < μ x y | e => KK0 e t' h') (It x y) (Ih x y)) : Awp P N (.loop c) KK0 t h := by
  refine awp_loop1 (A := A × B) (fun p => I p.1 p.2) (fun p => It p.1 p.2) (fun p => Ih p.1 p.2) (fun p => μ p.1 p.2) (x0, y0) hI h0 (fun p hp => awp_mono (round p.1 p.2 hp) ?_)
  intro e t' h' hk
  cases e with
  | normal => obtain ⟨x, y, h1, h2, h3⟩ := hk; exact ⟨(x, y), h1, h2, h3⟩
  | exit id => exact hk
  | ret => exact hk
theorem awp_loop3 {KK0 : KK} {A B C : Type} {c : Code} (I : A → B → C → Prop) (It : A → B → C → TL) (Ih : A → B → C → HL) (μ : A → B → C → Nat) (x0 : A) (y0 : B) (z0 : C) (hI : I x0 y0 z0) (h0 : Sub t h (It x0 y0 z0) (Ih x0 y0 z0))
    (round : ∀ x y z, I x y z → Awp P N c (fun e t' h' => match e with | .normal => ∃ x' y' z', I x' y' z' ∧ Sub t' h' (It x' y' z') (Ih x' y' z') ∧ μ x' y' z' < μ x y z | e => KK0 e t' h') (It x y z) (Ih x y z)) : Awp P N (.loop c) KK0 t h := by
  refine awp_loop2 (A := A) (B := B × C) (fun p q => I p q.1 q.2) (fun p q => It p q.1 q.2) (fun p q => Ih p q.1 q.2) (fun p q => μ p q.1 q.2) x0 (y0, z0) hI h0 (fun p q hp => awp_mono (round p q.1 q.2 hp) ?_)
  intro e t' h' hk
  cases e with
  | normal => obtain ⟨x, y, z, h1, h2, h3⟩ := hk; exact ⟨x, (y, z), h1, h2, h3⟩
  | exit id => exact hk
  | ret => exact hk

theorem sub_nil (t : TL) (h : HL) : Sub t h [] [] := ⟨fun i d hd => by simp [lookT] at hd, fun i d hd => by simp [lookH] at hd⟩
theorem sub_t {t t' : TL} {h h' : HL} {k : Nat} {d : D} (h1 : lookT t k = some d) (h2 : Sub t h t' h') : Sub t h ((k, some d) :: t') h' := by
  refine ⟨fun i x hx => ?_, h2.2⟩
  simp only [lookT] at hx
  cases hb : Nat.beq k i with
  | true =>
    rw [hb] at hx
    have := Nat.eq_of_beq_eq_true hb
    subst this
    simp at hx; subst hx; exact h1
  | false => rw [hb] at hx; exact h2.1 i x (by simpa using hx)
theorem sub_h {t t' : TL} {h h' : HL} {k : Nat} {d : O} (h1 : lookH h k = some d) (h2 : Sub t h t' h') : Sub t h t' ((k, some d) :: h') := by
  refine ⟨h2.1, fun i x hx => ?_⟩
  simp only [lookH] at hx
  cases hb : Nat.beq k i with
  | true =>
    rw [hb] at hx
    have := Nat.eq_of_beq_eq_true hb
    subst this
    simp at hx; subst hx; exact h1
  | false => rw [hb] at hx; exact h2.2 i x (by simpa using hx)
theorem sub_te {t t' : TL} {h h' : HL} {k : Nat} {d d' : D} (h1 : lookT t k = some d') (h2 : Sub t h t' h') (he : d' = d) : Sub t h ((k, some d) :: t') h' := sub_t (he ▸ h1) h2
theorem sub_he {t t' : TL} {h h' : HL} {k : Nat} {d d' : O} (h1 : lookH h k = some d') (h2 : Sub t h t' h') (he : d' = d) : Sub t h t' ((k, some d) :: h') := sub_h (he ▸ h1) h2
end
end Fw
