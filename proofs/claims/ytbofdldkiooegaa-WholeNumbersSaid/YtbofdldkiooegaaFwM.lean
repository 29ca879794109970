/- A program logic over data: one rule for each operation, for walks. -/
import Derived.Test.YtbofdldkiooegaaFwL
namespace Fw
open Go Go.RowKit
set_option linter.unusedVariables false
set_option linter.unusedSimpArgs false
set_option linter.unusedSectionVars false

/-- a list, laid out -/
def normL {α : Type} : List α → Option (List α)
  | [] => some []
  | x :: xs => match normL xs with
    | some ys => some (x :: ys)
    | none => none
theorem normL_eq {α : Type} : ∀ {l l' : List α}, normL l = some l' → l = l'
  | [], l', h => by simp only [normL, Option.some.injEq] at h; exact h
  | x :: xs, l', h => by
    simp only [normL] at h
    cases hx : normL xs with
    | none => rw [hx] at h; cases h
    | some ys =>
      rw [hx] at h
      simp only [Option.some.injEq] at h
      subst h
      rw [normL_eq hx]
def mkAggO (ds : List D) : Option D := match imL ds with
  | some ms => match normL ms with
    | some ms' => some (.im (.agg ms'))
    | none => none
  | none => some (.agg ds)
theorem mkAggO_eq {ds : List D} {d : D} (h : mkAggO ds = some d) : mkAgg ds = d := by
  unfold mkAggO at h
  unfold mkAgg
  cases hi : imL ds with
  | none => rw [hi] at h; simpa using h
  | some ms =>
    rw [hi] at h
    simp only [] at h ⊢
    cases hn : normL ms with
    | none => rw [hn] at h; cases h
    | some ms' =>
      rw [hn] at h
      simp only [Option.some.injEq] at h
      rw [normL_eq hn]; exact h

section
variable {P : Program} {L : Nat → Option TI} {N : Nat} {ops : Array Oper} {rest : List Oper} {K : List Eff → TL → HL → Prop} {t : TL} {h : HL} {k : Nat} {ty : TypeId} {pos : String} {af : Array Edge} {g : Option (Nat × Bool)}

theorem ar_nil (hk : K [] t h) : AR P L N ops [] K t h := ⟨[], t, h, .nil, hk⟩
theorem ar_step {o : Oper} {e : Eff} (hw : Want (lookT t) ops o.guard true) (hs : Step P L (ev (lookT t)) (lookH h) o.op o.dst o.type e) (hd : dstOk N o.dst = true) (hf : freshAll t h e.nw = true)
    (hK : AR P L N ops rest (fun es => K (e :: es)) (putL t o.dst e.r) (e.ch ++ h)) : AR P L N ops (o :: rest) K t h := by
  obtain ⟨es, t', h', hr, hk⟩ := hK
  exact ⟨e :: es, t', h', .step hw hs hd hf hr, hk⟩
theorem ar_skip {op : Op} (hw : Want (lookT t) ops g false) (hd : Nat.blt k N = true) (hK : AR P L N ops rest (fun es => K (skipE :: es)) ((k, some (.im (.tup []))) :: t) h) : AR P L N ops (⟨some k, op, ty, pos, af, g⟩ :: rest) K t h := by
  obtain ⟨es, t', h', hr, hk⟩ := hK
  exact ⟨skipE :: es, t', h', .skip hw hd hr, hk⟩
theorem ar_skip0 {op : Op} (hw : Want (lookT t) ops g false) (hK : AR P L N ops rest (fun es => K (skipE :: es)) t h) : AR P L N ops (⟨none, op, ty, pos, af, g⟩ :: rest) K t h := by
  obtain ⟨es, t', h', hr, hk⟩ := hK
  exact ⟨skipE :: es, t', h', .skip hw rfl hr, hk⟩
theorem ar_know {l : List Oper} (k : Nat) {d : D} (hk : lookT t k = some d) (hK : AR P L N ops l K ((k, some d) :: t) h) : AR P L N ops l K t h := by
  obtain ⟨es, t', h', hr, hk'⟩ := hK
  exact ⟨es, t', h', .know hk hr, hk'⟩
/-- a slot's value, said otherwise -/
theorem ar_eq {l : List Oper} (k : Nat) {d d' : D} (hk : lookT t k = some d) (he : d = d') (hK : AR P L N ops l K ((k, some d') :: t) h) : AR P L N ops l K t h := ar_know k (he ▸ hk) hK
/-- a guard that is open: both ways -/
theorem ar_split {l : List Oper} (k : Nat) {b : Bool} (hk : lookT t k = some (.im (.bool b))) (h1 : b = true → AR P L N ops l K ((k, some (.im (.bool true))) :: t) h) (h2 : b = false → AR P L N ops l K ((k, some (.im (.bool false))) :: t) h) : AR P L N ops l K t h := by
  cases b with
  | true => exact ar_know k hk (h1 rfl)
  | false => exact ar_know k hk (h2 rfl)

/-- a value alone -/
theorem ar_val {op : Op} {d : D} (hw : Want (lookT t) ops g true) (hs : Step P L (ev (lookT t)) (lookH h) op (some k) ty (val d)) (hd : Nat.blt k N = true) (hK : AR P L N ops rest (fun es => K (val d :: es)) ((k, some d) :: t) h) :
    AR P L N ops (⟨some k, op, ty, pos, af, g⟩ :: rest) K t h := ar_step (o := ⟨some k, op, ty, pos, af, g⟩) hw hs hd rfl hK
/-- a load -/
theorem ar_load {op : Op} {d : D} {tch : List Nat} (hw : Want (lookT t) ops g true) (hs : Step P L (ev (lookT t)) (lookH h) op (some k) ty ⟨some d, [], [], tch⟩) (hd : Nat.blt k N = true) (hK : AR P L N ops rest (fun es => K (⟨some d, [], [], tch⟩ :: es)) ((k, some d) :: t) h) :
    AR P L N ops (⟨some k, op, ty, pos, af, g⟩ :: rest) K t h := ar_step (o := ⟨some k, op, ty, pos, af, g⟩) hw hs hd rfl hK

variable (hw : Want (lookT t) ops g true) (hd : Nat.blt k N = true)
include hw

section
include hd
theorem ar_move {x d} (h1 : ev (lookT t) x = some d) (hK : AR P L N ops rest (fun es => K (val d :: es)) ((k, some d) :: t) h) : AR P L N ops (⟨some k, .move x, ty, pos, af, g⟩ :: rest) K t h := ar_val hw (.move h1) hd hK
theorem ar_assign {x d} (h1 : ev (lookT t) x = some d) (hK : AR P L N ops rest (fun es => K (val d :: es)) ((k, some d) :: t) h) : AR P L N ops (⟨some k, .assign x, ty, pos, af, g⟩ :: rest) K t h := ar_val hw (.assign h1) hd hK
theorem ar_pickT {c x y d} (h1 : ev (lookT t) c = some (.im (.bool true))) (h2 : ev (lookT t) x = some d) (hK : AR P L N ops rest (fun es => K (val d :: es)) ((k, some d) :: t) h) : AR P L N ops (⟨some k, .pick c x y, ty, pos, af, g⟩ :: rest) K t h := ar_val hw (.pick h1 h2) hd hK
theorem ar_pickF {c x y d} (h1 : ev (lookT t) c = some (.im (.bool false))) (h2 : ev (lookT t) y = some d) (hK : AR P L N ops rest (fun es => K (val d :: es)) ((k, some d) :: t) h) : AR P L N ops (⟨some k, .pick c x y, ty, pos, af, g⟩ :: rest) K t h := ar_val hw (.pick h1 h2) hd hK
theorem ar_alloc {T i cs} (h1 : L T = some i) (h2 : normL ((mcells i.mz).map .im) = some cs) (hf : (freshT k t && freshH k h) = true) (hK : AR P L N ops rest (fun es => K (⟨some (.ptr k 0), [(k, some (.box T cs))], [k], []⟩ :: es)) ((k, some (.ptr k 0)) :: t) ((k, some (.box T cs)) :: h)) :
    AR P L N ops (⟨some k, .alloc T, ty, pos, af, g⟩ :: rest) K t h := by
  have h2 := normL_eq h2
  subst h2
  exact ar_step (o := ⟨some k, .alloc T, ty, pos, af, g⟩) hw (.alloc h1) hd (by simp only [freshAll, Bool.and_true]; exact hf) hK
theorem ar_box {T x d cs} (h1 : ev (lookT t) x = some d) (h2 : whole d = true) (h3 : normL (dcells d) = some cs) (hf : (freshT k t && freshH k h) = true) (hK : AR P L N ops rest (fun es => K (⟨some (.ptr k 0), [(k, some (.box T cs))], [k], []⟩ :: es)) ((k, some (.ptr k 0)) :: t) ((k, some (.box T cs)) :: h)) :
    AR P L N ops (⟨some k, .box T x, ty, pos, af, g⟩ :: rest) K t h := by
  have h3 := normL_eq h3
  subst h3
  exact ar_step (o := ⟨some k, .box T x, ty, pos, af, g⟩) hw (.box h1 h2) hd (by simp only [freshAll, Bool.and_true]; exact hf) hK
theorem ar_loadB {T p id off tb cs i d} (h1 : ev (lookT t) p = some (.ptr id off)) (h2 : lookH h id = some (.box tb cs)) (h3 : L T = some i) (h4 : aggD i.desc = false) (h5 : cs[off]? = some d)
    (hK : AR P L N ops rest (fun es => K (⟨some d, [], [], [id]⟩ :: es)) ((k, some d) :: t) h) : AR P L N ops (⟨some k, .load T p, ty, pos, af, g⟩ :: rest) K t h := ar_load hw (.loadB h1 h2 h3 h4 h5) hd hK
theorem ar_loadBA {T p id off tb cs i d} (h1 : ev (lookT t) p = some (.ptr id off)) (h2 : lookH h id = some (.box tb cs)) (h3 : L T = some i) (h4 : aggD i.desc = true) (h5 : Nat.ble (off + i.size) cs.length = true) (h6 : mkAggO ((cs.drop off).take i.size) = some d)
    (hK : AR P L N ops rest (fun es => K (⟨some d, [], [], [id]⟩ :: es)) ((k, some d) :: t) h) : AR P L N ops (⟨some k, .load T p, ty, pos, af, g⟩ :: rest) K t h := by
  have h6 := mkAggO_eq h6
  subst h6
  exact ar_load hw (.loadBA h1 h2 h3 h4 (Nat.le_of_ble_eq_true h5)) hd hK
theorem ar_loadR {T p id off e sz cs i m} (h1 : ev (lookT t) p = some (.ptr id off)) (h2 : lookH h id = some (.rw e sz cs)) (h3 : L T = some i) (h4 : aggD i.desc = false) (h5 : cs[off]? = some m)
    (hK : AR P L N ops rest (fun es => K (⟨some (.im m), [], [], [id]⟩ :: es)) ((k, some (.im m)) :: t) h) : AR P L N ops (⟨some k, .load T p, ty, pos, af, g⟩ :: rest) K t h := ar_load hw (.loadR h1 h2 h3 h4 h5) hd hK
theorem ar_loadRA {T p id off e sz cs i ms} (h1 : ev (lookT t) p = some (.ptr id off)) (h2 : lookH h id = some (.rw e sz cs)) (h3 : L T = some i) (h4 : aggD i.desc = true) (h5 : off + i.size ≤ cs.length) (h0 : 0 < cs.length) (h6 : (cs.drop off).take i.size = ms)
    (hK : AR P L N ops rest (fun es => K (⟨some (.im (.agg ms)), [], [], [id]⟩ :: es)) ((k, some (.im (.agg ms))) :: t) h) : AR P L N ops (⟨some k, .load T p, ty, pos, af, g⟩ :: rest) K t h := by
  subst h6
  exact ar_load hw (.loadRA h1 h2 h3 h4 h5 h0) hd hK
theorem ar_loadE {T p cs i m} (h1 : ev (lookT t) p = some (.ep cs)) (h3 : L T = some i) (h4 : aggD i.desc = false) (h5 : cs[0]? = some m)
    (hK : AR P L N ops rest (fun es => K (val (.im m) :: es)) ((k, some (.im m)) :: t) h) : AR P L N ops (⟨some k, .load T p, ty, pos, af, g⟩ :: rest) K t h := ar_val hw (.loadE h1 h3 h4 h5) hd hK
theorem ar_loadEA {T p cs i ms} (h1 : ev (lookT t) p = some (.ep cs)) (h3 : L T = some i) (h4 : aggD i.desc = true) (h5 : i.size ≤ cs.length) (h6 : cs.take i.size = ms)
    (hK : AR P L N ops rest (fun es => K (val (.im (.agg ms)) :: es)) ((k, some (.im (.agg ms))) :: t) h) : AR P L N ops (⟨some k, .load T p, ty, pos, af, g⟩ :: rest) K t h := by
  subst h6
  exact ar_val hw (.loadEA h1 h3 h4 h5) hd hK
theorem ar_fieldP {T x j id off i fs f fi o'} (h1 : ev (lookT t) x = some (.ptr id off)) (h2 : L T = some i) (h3 : i.desc = .struct fs) (h4 : fs[j]? = some f) (h5 : L f.type = some fi) (h6 : Nat.beq fi.size 0 = false) (h7 : off + f.offset = o')
    (hK : AR P L N ops rest (fun es => K (val (.ptr id o') :: es)) ((k, some (.ptr id o')) :: t) h) : AR P L N ops (⟨some k, .fieldAddr T x j, ty, pos, af, g⟩ :: rest) K t h := by
  subst h7
  exact ar_val hw (.fieldP h1 h2 h3 h4 h5 (by intro he; rw [he] at h6; cases h6)) hd hK
theorem ar_fieldE {T x j cs i fs f fi cs'} (h1 : ev (lookT t) x = some (.ep cs)) (h2 : L T = some i) (h3 : i.desc = .struct fs) (h4 : fs[j]? = some f) (h5 : L f.type = some fi) (h6 : Nat.beq fi.size 0 = false) (h7 : cs.drop f.offset = cs')
    (hK : AR P L N ops rest (fun es => K (val (.ep cs') :: es)) ((k, some (.ep cs')) :: t) h) : AR P L N ops (⟨some k, .fieldAddr T x j, ty, pos, af, g⟩ :: rest) K t h := by
  subst h7
  exact ar_val hw (.fieldE h1 h2 h3 h4 h5 (by intro he; rw [he] at h6; cases h6)) hd hK
theorem ar_fieldM {T x j ms i fs f fi m} (h1 : ev (lookT t) x = some (.im (.agg ms))) (h2 : L T = some i) (h3 : i.desc = .struct fs) (h4 : fs[j]? = some f) (h5 : L f.type = some fi) (h6 : aggD fi.desc = false) (h7 : ms[f.offset]? = some m)
    (hK : AR P L N ops rest (fun es => K (val (.im m) :: es)) ((k, some (.im m)) :: t) h) : AR P L N ops (⟨some k, .field T x j, ty, pos, af, g⟩ :: rest) K t h := ar_val hw (.fieldM h1 h2 h3 h4 h5 h6 h7) hd hK
theorem ar_fieldMA {T x j ms i fs f fi ms'} (h1 : ev (lookT t) x = some (.im (.agg ms))) (h2 : L T = some i) (h3 : i.desc = .struct fs) (h4 : fs[j]? = some f) (h5 : L f.type = some fi) (h6 : aggD fi.desc = true) (h7 : (ms.drop f.offset).take fi.size = ms')
    (hK : AR P L N ops rest (fun es => K (val (.im (.agg ms')) :: es)) ((k, some (.im (.agg ms'))) :: t) h) : AR P L N ops (⟨some k, .field T x j, ty, pos, af, g⟩ :: rest) K t h := by
  subst h7
  exact ar_val hw (.fieldMA h1 h2 h3 h4 h5 h6) hd hK
theorem ar_build {T parts i fs cs d} (h1 : L T = some i) (h2 : i.desc = .struct fs) (h3 : fs.toList.all (fun (f : Field) => (L f.type).isSome) = true) (h4 : fillD (ev (lookT t)) (place L fs) ((mcells i.mz).map .im) parts.toList = some cs) (h5 : mkAggO cs = some d)
    (hK : AR P L N ops rest (fun es => K (val d :: es)) ((k, some d) :: t) h) : AR P L N ops (⟨some k, .build T parts, ty, pos, af, g⟩ :: rest) K t h := by
  have h5 := mkAggO_eq h5
  subst h5
  exact ar_val hw (.build h1 h2 h3 h4) hd hK
theorem ar_buildSlice {T len parts i e ei sz cs} (h1 : L T = some i) (h2 : i.desc = .slice e) (h3 : L e = some ei) (h4 : ei.size = sz) (h5 : (Nat.ble 1 sz && Nat.ble (len * sz) 16777216) = true)
    (h6 : fillM (ev (lookT t)) (fun k => some (k * sz, sz)) (List.replicate len (mcells ei.mz)).flatten parts.toList = some cs) (hf : (freshT k t && freshH k h) = true)
    (hK : AR P L N ops rest (fun es => K (⟨some (.row k len sz), [(k, some (.rw e sz cs))], [k], []⟩ :: es)) ((k, some (.row k len sz)) :: t) ((k, some (.rw e sz cs)) :: h)) : AR P L N ops (⟨some k, .buildSlice T len parts, ty, pos, af, g⟩ :: rest) K t h := by
  subst h4
  simp only [Bool.and_eq_true] at h5
  exact ar_step (o := ⟨some k, .buildSlice T len parts, ty, pos, af, g⟩) hw (.buildSlice h1 h2 h3 (Nat.le_of_ble_eq_true h5.1) (Nat.le_of_ble_eq_true h5.2) h6) hd (by simp only [freshAll, Bool.and_true]; exact hf) hK
theorem ar_indexR {T x ix id n sz kd j i e ei o'} (h1 : ev (lookT t) x = some (.row id n sz)) (h2 : ev (lookT t) ix = some (.im (.int kd j))) (h3 : L T = some i) (h4 : i.desc = .slice e) (h5 : L e = some ei) (h6 : ei.size = sz) (h7 : 0 ≤ j ∧ j < n) (h8 : j.toNat * sz = o')
    (hK : AR P L N ops rest (fun es => K (val (.ptr id o') :: es)) ((k, some (.ptr id o')) :: t) h) : AR P L N ops (⟨some k, .indexAddr T x ix, ty, pos, af, g⟩ :: rest) K t h := by
  subst h8
  exact ar_val hw (.indexR h1 h2 h3 h4 h5 h6 h7.1 h7.2) hd hK
theorem ar_indexS {T x ix n cs kd j i e ei cs'} (h1 : ev (lookT t) x = some (.im (.seq n cs))) (h2 : ev (lookT t) ix = some (.im (.int kd j))) (h3 : L T = some i) (h4 : i.desc = .slice e) (h5 : L e = some ei) (h7 : 0 ≤ j ∧ j < n) (h8 : j.toNat * ei.size < cs.length) (h9 : cs.drop (j.toNat * ei.size) = cs')
    (hK : AR P L N ops rest (fun es => K (val (.ep cs') :: es)) ((k, some (.ep cs')) :: t) h) : AR P L N ops (⟨some k, .indexAddr T x ix, ty, pos, af, g⟩ :: rest) K t h := by
  subst h9
  exact ar_val hw (.indexS h1 h2 h3 h4 h5 h7.1 h7.2 h8) hd hK
theorem ar_indexStr {T x ix s kd j i c} (h1 : ev (lookT t) x = some (.im (.str s))) (h2 : ev (lookT t) ix = some (.im (.int kd j))) (h3 : L T = some i) (h4 : i.desc = .string) (h7 : 0 ≤ j) (h8 : s[j.toNat]? = some c)
    (hK : AR P L N ops rest (fun es => K (val (.im (.int .u8 c.toNat)) :: es)) ((k, some (.im (.int .u8 c.toNat))) :: t) h) : AR P L N ops (⟨some k, .index T x ix, ty, pos, af, g⟩ :: rest) K t h := ar_val hw (.indexStr h1 h2 h3 h4 h7 h8) hd hK
theorem ar_sliceStrLo {T x lo s kd l i s'} (h1 : ev (lookT t) x = some (.im (.str s))) (h2 : ev (lookT t) lo = some (.im (.int kd l))) (h3 : L T = some i) (h4 : i.desc = .string) (h5 : 0 ≤ l ∧ l ≤ s.length) (h6 : s.drop l.toNat = s')
    (hK : AR P L N ops rest (fun es => K (val (.im (.str s')) :: es)) ((k, some (.im (.str s'))) :: t) h) : AR P L N ops (⟨some k, .slice T x (some lo) none none, ty, pos, af, g⟩ :: rest) K t h := by
  subst h6
  exact ar_val hw (.sliceStrLo h1 h2 h3 h4 h5.1 h5.2) hd hK
theorem ar_sliceStrHi {T x lo s kd l i s'} (h1 : ev (lookT t) x = some (.im (.str s))) (h2 : ev (lookT t) lo = some (.im (.int kd l))) (h3 : L T = some i) (h4 : i.desc = .string) (h5 : 0 ≤ l ∧ l ≤ s.length) (h6 : s.take l.toNat = s')
    (hK : AR P L N ops rest (fun es => K (val (.im (.str s')) :: es)) ((k, some (.im (.str s'))) :: t) h) : AR P L N ops (⟨some k, .slice T x none (some lo) none, ty, pos, af, g⟩ :: rest) K t h := by
  subst h6
  exact ar_val hw (.sliceStrHi h1 h2 h3 h4 h5.1 h5.2) hd hK
theorem ar_sliceStr {T x lo hi s kd kd' l l' i s'} (h1 : ev (lookT t) x = some (.im (.str s))) (h2 : ev (lookT t) lo = some (.im (.int kd l))) (h2' : ev (lookT t) hi = some (.im (.int kd' l'))) (h3 : L T = some i) (h4 : i.desc = .string) (h5 : 0 ≤ l ∧ l ≤ l' ∧ l' ≤ s.length) (h6 : (s.drop l.toNat).take (l'.toNat - l.toNat) = s')
    (hK : AR P L N ops rest (fun es => K (val (.im (.str s')) :: es)) ((k, some (.im (.str s'))) :: t) h) : AR P L N ops (⟨some k, .slice T x (some lo) (some hi) none, ty, pos, af, g⟩ :: rest) K t h := by
  subst h6
  exact ar_val hw (.sliceStr h1 h2 h2' h3 h4 h5.1 h5.2.1 h5.2.2) hd hK
theorem ar_sliceRow {T x lo id n sz kd l i e n'} (h1 : ev (lookT t) x = some (.row id n sz)) (h2 : ev (lookT t) lo = some (.im (.int kd l))) (h3 : L T = some i) (h4 : i.desc = .slice e) (h4' : (L e).isSome = true) (h5 : 0 ≤ l ∧ l ≤ n) (h6 : l.toNat = n')
    (hK : AR P L N ops rest (fun es => K (val (.row id n' sz) :: es)) ((k, some (.row id n' sz)) :: t) h) : AR P L N ops (⟨some k, .slice T x none (some lo) none, ty, pos, af, g⟩ :: rest) K t h := by
  subst h6
  exact ar_val hw (.sliceRow h1 h2 h3 h4 h4' h5.1 h5.2) hd hK
theorem ar_sliceSeqLo {T x lo n cs kd l i e ei n' cs'} (h1 : ev (lookT t) x = some (.im (.seq n cs))) (h2 : ev (lookT t) lo = some (.im (.int kd l))) (h3 : L T = some i) (h4 : i.desc = .slice e) (h4' : L e = some ei) (h5 : 0 ≤ l ∧ l ≤ n) (h6 : cs.length = n * ei.size) (h7 : n - l.toNat = n') (h8 : cs.drop (l.toNat * ei.size) = cs')
    (hK : AR P L N ops rest (fun es => K (val (.im (.seq n' cs')) :: es)) ((k, some (.im (.seq n' cs'))) :: t) h) : AR P L N ops (⟨some k, .slice T x (some lo) none none, ty, pos, af, g⟩ :: rest) K t h := by
  subst h7 h8
  exact ar_val hw (.sliceSeqLo h1 h2 h3 h4 h4' h5.1 h5.2 h6) hd hK
theorem ar_sliceSeqHi {T x lo n cs kd l i e ei n' cs'} (h1 : ev (lookT t) x = some (.im (.seq n cs))) (h2 : ev (lookT t) lo = some (.im (.int kd l))) (h3 : L T = some i) (h4 : i.desc = .slice e) (h4' : L e = some ei) (h5 : 0 ≤ l ∧ l ≤ n) (h7 : l.toNat = n') (h8 : cs.take (l.toNat * ei.size) = cs')
    (hK : AR P L N ops rest (fun es => K (val (.im (.seq n' cs')) :: es)) ((k, some (.im (.seq n' cs'))) :: t) h) : AR P L N ops (⟨some k, .slice T x none (some lo) none, ty, pos, af, g⟩ :: rest) K t h := by
  subst h7 h8
  exact ar_val hw (.sliceSeqHi h1 h2 h3 h4 h4' h5.1 h5.2) hd hK
theorem ar_extractM {x j ms m} (h1 : ev (lookT t) x = some (.im (.tup ms))) (h2 : ms[j]? = some m) (hK : AR P L N ops rest (fun es => K (val (.im m) :: es)) ((k, some (.im m)) :: t) h) : AR P L N ops (⟨some k, .extract x j, ty, pos, af, g⟩ :: rest) K t h := ar_val hw (.extractM h1 h2) hd hK
theorem ar_extractD {x j ds d} (h1 : ev (lookT t) x = some (.tup ds)) (h2 : ds[j]? = some d) (hK : AR P L N ops rest (fun es => K (val d :: es)) ((k, some d) :: t) h) : AR P L N ops (⟨some k, .extract x j, ty, pos, af, g⟩ :: rest) K t h := ar_val hw (.extractD h1 h2) hd hK
theorem ar_func {f caps ds} (h1 : evL (ev (lookT t)) caps.toList = some ds) (hK : AR P L N ops rest (fun es => K (val (.fn f ds) :: es)) ((k, some (.fn f ds)) :: t) h) : AR P L N ops (⟨some k, .makeFunc (.func f) #[] caps, ty, pos, af, g⟩ :: rest) K t h := ar_val hw (.func h1) hd hK
theorem ar_bin {op T x y T' kd a b m} (h1 : ev (lookT t) x = some (.im (.int kd a))) (h2 : ev (lookT t) y = some (.im (.int kd b))) (h3 : intOp op kd a b = some m) (hK : AR P L N ops rest (fun es => K (val (.im m) :: es)) ((k, some (.im m)) :: t) h) :
    AR P L N ops (⟨some k, .binOp op T x y T', ty, pos, af, g⟩ :: rest) K t h := ar_val hw (.binInt h1 h2 h3) hd hK
theorem ar_add {T x y T' a b} (h1 : ev (lookT t) x = some (.im (.int .i64 a))) (h2 : ev (lookT t) y = some (.im (.int .i64 b))) (h3 : -9223372036854775808 ≤ a + b ∧ a + b ≤ 9223372036854775807) (hK : AR P L N ops rest (fun es => K (val (.im (.int .i64 (a + b))) :: es)) ((k, some (.im (.int .i64 (a + b)))) :: t) h) :
    AR P L N ops (⟨some k, .binOp .add T x y T', ty, pos, af, g⟩ :: rest) K t h := by
  have e : IntKind.i64.wrap (a + b) = a + b := by rw [IntKind.wrap_i64]; omega
  exact ar_val hw (.binInt h1 h2 (by simp only [intOp, e])) hd hK
theorem ar_sub {T x y T' a b} (h1 : ev (lookT t) x = some (.im (.int .i64 a))) (h2 : ev (lookT t) y = some (.im (.int .i64 b))) (h3 : -9223372036854775808 ≤ a - b ∧ a - b ≤ 9223372036854775807) (hK : AR P L N ops rest (fun es => K (val (.im (.int .i64 (a - b))) :: es)) ((k, some (.im (.int .i64 (a - b)))) :: t) h) :
    AR P L N ops (⟨some k, .binOp .sub T x y T', ty, pos, af, g⟩ :: rest) K t h := by
  have e : IntKind.i64.wrap (a - b) = a - b := by rw [IntKind.wrap_i64]; omega
  exact ar_val hw (.binInt h1 h2 (by simp only [intOp, e])) hd hK
theorem ar_div {op T x y T' kd a b m} (h1 : ev (lookT t) x = some (.im (.int kd a))) (h2 : ev (lookT t) y = some (.im (.int kd b))) (h3 : divOp op kd a b = some m) (h4 : b ≠ 0) (hK : AR P L N ops rest (fun es => K (val (.im m) :: es)) ((k, some (.im m)) :: t) h) :
    AR P L N ops (⟨some k, .binOp op T x y T', ty, pos, af, g⟩ :: rest) K t h := ar_val hw (.binDiv h1 h2 h3 h4) hd hK
theorem ar_str {op T x y T' a b m} (h1 : ev (lookT t) x = some (.im (.str a))) (h2 : ev (lookT t) y = some (.im (.str b))) (h3 : strOp op a b = some m) (hK : AR P L N ops rest (fun es => K (val (.im m) :: es)) ((k, some (.im m)) :: t) h) :
    AR P L N ops (⟨some k, .binOp op T x y T', ty, pos, af, g⟩ :: rest) K t h := ar_val hw (.binStr h1 h2 h3) hd hK
theorem ar_addStr {T x y T' a b} (h1 : ev (lookT t) x = some (.im (.str a))) (h2 : ev (lookT t) y = some (.im (.str b))) (h3 : a.length + b.length ≤ 9223372036854775807) (hK : AR P L N ops rest (fun es => K (val (.im (.str (a ++ b))) :: es)) ((k, some (.im (.str (a ++ b)))) :: t) h) :
    AR P L N ops (⟨some k, .binOp .add T x y T', ty, pos, af, g⟩ :: rest) K t h := ar_val hw (.addStr h1 h2 h3) hd hK
theorem ar_bool {op T x y T' i a b m} (h1 : ev (lookT t) x = some (.im (.bool a))) (h2 : ev (lookT t) y = some (.im (.bool b))) (h3 : L T = some i) (h4 : i.desc = .bool) (h5 : boolOp op a b = some m) (hK : AR P L N ops rest (fun es => K (val (.im m) :: es)) ((k, some (.im m)) :: t) h) :
    AR P L N ops (⟨some k, .binOp op T x y T', ty, pos, af, g⟩ :: rest) K t h := ar_val hw (.binBool h1 h2 h3 h4 h5) hd hK
theorem ar_not {T x b} (h1 : ev (lookT t) x = some (.im (.bool b))) (hK : AR P L N ops rest (fun es => K (val (.im (.bool (!b))) :: es)) ((k, some (.im (.bool (!b)))) :: t) h) : AR P L N ops (⟨some k, .unOp .not T x, ty, pos, af, g⟩ :: rest) K t h := ar_val hw (.not h1) hd hK
theorem ar_neg {T x kd n} (h1 : ev (lookT t) x = some (.im (.int kd n))) (hK : AR P L N ops rest (fun es => K (val (.im (.int kd (kd.wrap (0 - n)))) :: es)) ((k, some (.im (.int kd (kd.wrap (0 - n))))) :: t) h) : AR P L N ops (⟨some k, .unOp .neg T x, ty, pos, af, g⟩ :: rest) K t h := ar_val hw (.neg h1) hd hK
theorem ar_conv {S T x k0 n is i kd} (h1 : ev (lookT t) x = some (.im (.int k0 n))) (h2 : L S = some is) (h3 : L T = some i) (h4 : i.desc = .int kd) (hK : AR P L N ops rest (fun es => K (val (.im (.int kd (kd.wrap n))) :: es)) ((k, some (.im (.int kd (kd.wrap n)))) :: t) h) :
    AR P L N ops (⟨some k, .convert S T x, ty, pos, af, g⟩ :: rest) K t h := ar_val hw (.convInt h1 h2 h3 h4) hd hK
theorem ar_lenStr {x s T i} (h1 : ev (lookT t) x = some (.im (.str s))) (h2 : L T = some i) (h3 : i.desc = .string) (hK : AR P L N ops rest (fun es => K (val (.im (.int .i64 s.length)) :: es)) ((k, some (.im (.int .i64 s.length))) :: t) h) :
    AR P L N ops (⟨some k, .call { callee := .builtin .len, args := #[x], argTypes := #[T] }, ty, pos, af, g⟩ :: rest) K t h := ar_val hw (.lenStr h1 h2 h3) hd hK
theorem ar_lenSeq {x n cs T i e} (h1 : ev (lookT t) x = some (.im (.seq n cs))) (h2 : L T = some i) (h3 : i.desc = .slice e) (hK : AR P L N ops rest (fun es => K (val (.im (.int .i64 n)) :: es)) ((k, some (.im (.int .i64 n))) :: t) h) :
    AR P L N ops (⟨some k, .call { callee := .builtin .len, args := #[x], argTypes := #[T] }, ty, pos, af, g⟩ :: rest) K t h := ar_val hw (.lenSeq h1 h2 h3) hd hK
theorem ar_lenNil {x T i e} (h1 : ev (lookT t) x = some (.im .nil)) (h2 : L T = some i) (h3 : i.desc = .slice e) (hK : AR P L N ops rest (fun es => K (val (.im (.int .i64 0)) :: es)) ((k, some (.im (.int .i64 0))) :: t) h) :
    AR P L N ops (⟨some k, .call { callee := .builtin .len, args := #[x], argTypes := #[T] }, ty, pos, af, g⟩ :: rest) K t h := ar_val hw (.lenNil h1 h2 h3) hd hK
theorem ar_lenRow {x id n sz T i e} (h1 : ev (lookT t) x = some (.row id n sz)) (h2 : L T = some i) (h3 : i.desc = .slice e) (hK : AR P L N ops rest (fun es => K (val (.im (.int .i64 n)) :: es)) ((k, some (.im (.int .i64 n))) :: t) h) :
    AR P L N ops (⟨some k, .call { callee := .builtin .len, args := #[x], argTypes := #[T] }, ty, pos, af, g⟩ :: rest) K t h := ar_val hw (.lenRow h1 h2 h3) hd hK
theorem ar_call {x args ats f ms m} (h1 : ev (lookT t) x = some (.im (.fn f))) (h2 : Plain P f) (h3 : evM (ev (lookT t)) (lookH h) args.toList = some (ms, [])) (h4 : Ret P f ms m) (hK : AR P L N ops rest (fun es => K (val (.im m) :: es)) ((k, some (.im m)) :: t) h) :
    AR P L N ops (⟨some k, .call { callee := .value x, args := args, argTypes := ats }, ty, pos, af, g⟩ :: rest) K t h := ar_val hw (.call h1 h2 h3 h4) hd hK
/-- rows among the arguments are data from then on -/
theorem ar_callZ {x args ats f ms ids m h'} (h1 : ev (lookT t) x = some (.im (.fn f))) (h2 : Plain P f) (h3 : evM (ev (lookT t)) (lookH h) args.toList = some (ms, ids)) (h4 : Ret P f ms m) (h5 : (ids.map fun i => (i, none)) ++ h = h') (hK : AR P L N ops rest (fun es => K (⟨some (.im m), ids.map fun i => (i, none), [], ids⟩ :: es)) ((k, some (.im m)) :: t) h') :
    AR P L N ops (⟨some k, .call { callee := .value x, args := args, argTypes := ats }, ty, pos, af, g⟩ :: rest) K t h := by
  subst h5
  exact ar_step (o := ⟨some k, .call { callee := .value x, args := args, argTypes := ats }, ty, pos, af, g⟩) hw (.call h1 h2 h3 h4) hd rfl hK
theorem ar_nilP {x id off} (h1 : ev (lookT t) x = some (.ptr id off)) (hK : AR P L N ops rest (fun es => K (val (.ptr id off) :: es)) ((k, some (.ptr id off)) :: t) h) : AR P L N ops (⟨some k, .nilCheck x, ty, pos, af, g⟩ :: rest) K t h := ar_val hw (.nilCheckP h1) hd hK
theorem ar_nilE {x cs} (h1 : ev (lookT t) x = some (.ep cs)) (hK : AR P L N ops rest (fun es => K (val (.ep cs) :: es)) ((k, some (.ep cs)) :: t) h) : AR P L N ops (⟨some k, .nilCheck x, ty, pos, af, g⟩ :: rest) K t h := ar_val hw (.nilCheckE h1) hd hK
theorem ar_append {x y T i e ei id0 n m sz by_ cs news js d cs'} (h1 : ev (lookT t) x = some (.row id0 n sz)) (h2 : ev (lookT t) y = some d) (h3 : News (lookH h) d m news js) (h4 : lookH h id0 = some (.rw e sz cs)) (h5 : L T = some i) (h6 : i.desc = .slice e) (h7 : L e = some ei) (h8 : ei.size = sz) (h9 : ei.bytes = by_) (h10 : 0 < sz)
    (h11 : n * sz ≤ cs.length) (h12 : news.length = m * sz) (h13 : (n + m) * by_ ≤ 140737488355328) (h14 : n + m ≤ 9223372036854775807) (h15 : ∀ id n' sz', d = .row id n' sz' → sz' = sz) (h16 : cs.take (n * sz) ++ news = cs') (hf : (freshT k t && freshH k h) = true)
    (hK : AR P L N ops rest (fun es => K (⟨some (.row k (n + m) sz), [(k, some (.rw e sz cs')), (id0, none)], [k], id0 :: js⟩ :: es)) ((k, some (.row k (n + m) sz)) :: t) ((k, some (.rw e sz cs')) :: (id0, none) :: h)) :
    AR P L N ops (⟨some k, .call { callee := .builtin .append, args := #[x, y], argTypes := #[T, T] }, ty, pos, af, g⟩ :: rest) K t h := by
  subst h8 h9 h16
  exact ar_step (o := ⟨some k, .call { callee := .builtin .append, args := #[x, y], argTypes := #[T, T] }, ty, pos, af, g⟩) hw (.append h1 h2 h3 h4 rfl h5 h6 h7 h10 h11 h12 h13 h14 h15) hd (by simp only [freshAll, Bool.and_true]; exact hf) hK
theorem ar_appendNil {x y T i e ei m sz by_ news js d} (h1 : ev (lookT t) x = some (.im .nil)) (h2 : ev (lookT t) y = some d) (h3 : News (lookH h) d m news js) (h5 : L T = some i) (h6 : i.desc = .slice e) (h7 : L e = some ei) (h8 : ei.size = sz) (h9 : ei.bytes = by_) (h10 : 0 < sz)
    (h12 : news.length = m * sz) (h13 : m * by_ ≤ 140737488355328) (h14 : m ≤ 9223372036854775807) (h15 : ∀ id n' sz', d = .row id n' sz' → sz' = sz) (hf : (freshT k t && freshH k h) = true)
    (hK : AR P L N ops rest (fun es => K (⟨some (.row k m sz), [(k, some (.rw e sz news))], [k], js⟩ :: es)) ((k, some (.row k m sz)) :: t) ((k, some (.rw e sz news)) :: h)) :
    AR P L N ops (⟨some k, .call { callee := .builtin .append, args := #[x, y], argTypes := #[T, T] }, ty, pos, af, g⟩ :: rest) K t h := by
  subst h8 h9
  exact ar_step (o := ⟨some k, .call { callee := .builtin .append, args := #[x, y], argTypes := #[T, T] }, ty, pos, af, g⟩) hw (.appendNil h1 h2 h3 h5 h6 h7 h10 h12 h13 h14 h15) hd (by simp only [freshAll, Bool.and_true]; exact hf) hK
end

theorem ar_storeB {T p x d cs' id off tb cs i} (h1 : ev (lookT t) p = some (.ptr id off)) (h2 : ev (lookT t) x = some d) (h3 : whole d = true) (h4 : lookH h id = some (.box tb cs)) (h5 : L T = some i) (h6 : Nat.beq (dcells d).length i.size = true) (h7 : Nat.ble (off + i.size) cs.length = true) (h8 : normL (splice cs off (dcells d)) = some cs')
    (hK : AR P L N ops rest (fun es => K (⟨none, [(id, some (.box tb cs'))], [], [id]⟩ :: es)) t ((id, some (.box tb cs')) :: h)) : AR P L N ops (⟨none, .store T p x, ty, pos, af, g⟩ :: rest) K t h := by
  have h8 := normL_eq h8
  subst h8
  exact ar_step (o := ⟨none, .store T p x, ty, pos, af, g⟩) hw (.storeB h1 h2 h3 h4 h5 (Nat.eq_of_beq_eq_true h6) (Nat.le_of_ble_eq_true h7)) rfl rfl hK
theorem ar_storeR {T p x d m cs' id off e sz cs i} (h1 : ev (lookT t) p = some (.ptr id off)) (h2 : ev (lookT t) x = some d) (h3 : toM d = some m) (h3' : mwhole m = true) (h4 : lookH h id = some (.rw e sz cs)) (h5 : L T = some i) (h6 : (mcells m).length = i.size) (h7 : off + i.size ≤ cs.length) (h0 : 0 < cs.length) (h8 : splice cs off (mcells m) = cs')
    (hK : AR P L N ops rest (fun es => K (⟨none, [(id, some (.rw e sz cs'))], [], [id]⟩ :: es)) t ((id, some (.rw e sz cs')) :: h)) : AR P L N ops (⟨none, .store T p x, ty, pos, af, g⟩ :: rest) K t h := by
  subst h8
  exact ar_step (o := ⟨none, .store T p x, ty, pos, af, g⟩) hw (.storeR h1 h2 h3 h3' h4 h5 h6 h7 h0) rfl rfl hK
end
end Fw
