/- A program logic over data: the steps of operations. -/
import Derived.Test.YtbofdldkiooegaaFwF
namespace Fw
open Go Go.RowKit
set_option linter.unusedVariables false
set_option linter.unusedSimpArgs false

/-- what an operation does, of the data of its operands and of objects that it looks at, in whatever world -/
def SemD (P : Program) (L : Nat → Option TI) (op : Op) (dst : Option Nat) (ty : TypeId) (ds : List D) (og : List (Nat × O)) (e : Eff) : Prop :=
  ∀ (N : Nat) (w0 : World) (ok0 S0 : Nat → Prop) (T : Nat → Option D) (H : Nat → Option O) (β : Nat → Option Nat) (ok : Nat → Prop) (a : Act) (w : World) (o : Oper) (Q : Exit → Act → World → Prop),
    LayOk P L → Conc N w0 ok0 S0 T H β ok a w → (∀ d, o.dst = some d → d < N) → o.op = op → o.dst = dst → o.type = ty → evL (ev T) op.operands.toList = some ds → (∀ p ∈ og, H p.1 = some p.2) → (∀ id ∈ e.nw, Fresh T H id) →
    o.wp P a w (After N w0 ok0 S0 T H o e) Q

inductive Step (P : Program) (L : Nat → Option TI) (ρ : Operand → Option D) (g : Nat → Option O) : Op → Option Nat → TypeId → Eff → Prop
  | move {x d dst ty} (h : ρ x = some d) : Step P L ρ g (.move x) dst ty (val d)
  | assign {x d dst ty} (h : ρ x = some d) : Step P L ρ g (.assign x) dst ty (val d)
  | pick {c x y b d dst ty} (h : ρ c = some (.im (.bool b))) (h' : ρ (bif b then x else y) = some d) : Step P L ρ g (.pick c x y) dst ty (val d)
  | alloc {t id i ty} (h : L t = some i) : Step P L ρ g (.alloc t) (some id) ty ⟨some (.ptr id 0), [(id, some (.box t ((mcells i.mz).map .im)))], [id], []⟩
  | box {t x d id ty} (h : ρ x = some d) (hw : whole d = true) : Step P L ρ g (.box t x) (some id) ty ⟨some (.ptr id 0), [(id, some (.box t (dcells d)))], [id], []⟩
  | loadB {t p id off tb cs i d dst ty} (h : ρ p = some (.ptr id off)) (hg : g id = some (.box tb cs)) (hi : L t = some i) (ha : aggD i.desc = false) (hd : cs[off]? = some d) : Step P L ρ g (.load t p) dst ty ⟨some d, [], [], [id]⟩
  | loadBA {t p id off tb cs i dst ty} (h : ρ p = some (.ptr id off)) (hg : g id = some (.box tb cs)) (hi : L t = some i) (ha : aggD i.desc = true) (hl : off + i.size ≤ cs.length) : Step P L ρ g (.load t p) dst ty ⟨some (mkAgg ((cs.drop off).take i.size)), [], [], [id]⟩
  | loadR {t p id off e sz cs i m dst ty} (h : ρ p = some (.ptr id off)) (hg : g id = some (.rw e sz cs)) (hi : L t = some i) (ha : aggD i.desc = false) (hd : cs[off]? = some m) : Step P L ρ g (.load t p) dst ty ⟨some (.im m), [], [], [id]⟩
  | loadRA {t p id off e sz cs i dst ty} (h : ρ p = some (.ptr id off)) (hg : g id = some (.rw e sz cs)) (hi : L t = some i) (ha : aggD i.desc = true) (hl : off + i.size ≤ cs.length) (h0 : 0 < cs.length) : Step P L ρ g (.load t p) dst ty ⟨some (.im (.agg ((cs.drop off).take i.size))), [], [], [id]⟩
  | loadE {t p cs i m dst ty} (h : ρ p = some (.ep cs)) (hi : L t = some i) (ha : aggD i.desc = false) (hd : cs[0]? = some m) : Step P L ρ g (.load t p) dst ty (val (.im m))
  | loadEA {t p cs i dst ty} (h : ρ p = some (.ep cs)) (hi : L t = some i) (ha : aggD i.desc = true) (hl : i.size ≤ cs.length) : Step P L ρ g (.load t p) dst ty (val (.im (.agg (cs.take i.size))))
  | storeB {t p x d id off tb cs i dst ty} (h : ρ p = some (.ptr id off)) (hx : ρ x = some d) (hw : whole d = true) (hg : g id = some (.box tb cs)) (hi : L t = some i) (hs : (dcells d).length = i.size) (hl : off + i.size ≤ cs.length) :
      Step P L ρ g (.store t p x) dst ty ⟨none, [(id, some (.box tb (splice cs off (dcells d))))], [], [id]⟩
  | storeR {t p x d m id off e sz cs i dst ty} (h : ρ p = some (.ptr id off)) (hx : ρ x = some d) (hm : toM d = some m) (hw : mwhole m = true) (hg : g id = some (.rw e sz cs)) (hi : L t = some i) (hs : (mcells m).length = i.size) (hl : off + i.size ≤ cs.length) (h0 : 0 < cs.length) :
      Step P L ρ g (.store t p x) dst ty ⟨none, [(id, some (.rw e sz (splice cs off (mcells m))))], [], [id]⟩
  | fieldP {t x k id off i fs f fi dst ty} (h : ρ x = some (.ptr id off)) (hi : L t = some i) (hf : i.desc = .struct fs) (hk : fs[k]? = some f) (hfi : L f.type = some fi) (h0 : fi.size ≠ 0) : Step P L ρ g (.fieldAddr t x k) dst ty (val (.ptr id (off + f.offset)))
  | fieldE {t x k cs i fs f fi dst ty} (h : ρ x = some (.ep cs)) (hi : L t = some i) (hf : i.desc = .struct fs) (hk : fs[k]? = some f) (hfi : L f.type = some fi) (h0 : fi.size ≠ 0) : Step P L ρ g (.fieldAddr t x k) dst ty (val (.ep (cs.drop f.offset)))
  | fieldM {t x k ms i fs f fi m dst ty} (h : ρ x = some (.im (.agg ms))) (hi : L t = some i) (hf : i.desc = .struct fs) (hk : fs[k]? = some f) (hfi : L f.type = some fi) (ha : aggD fi.desc = false) (hm : ms[f.offset]? = some m) : Step P L ρ g (.field t x k) dst ty (val (.im m))
  | fieldMA {t x k ms i fs f fi dst ty} (h : ρ x = some (.im (.agg ms))) (hi : L t = some i) (hf : i.desc = .struct fs) (hk : fs[k]? = some f) (hfi : L f.type = some fi) (ha : aggD fi.desc = true) : Step P L ρ g (.field t x k) dst ty (val (.im (.agg ((ms.drop f.offset).take fi.size))))
  | build {t parts i fs cs dst ty} (hi : L t = some i) (hf : i.desc = .struct fs) (ha : fs.toList.all (fun (f : Field) => (L f.type).isSome) = true) (hc : fillD ρ (place L fs) ((mcells i.mz).map .im) parts.toList = some cs) : Step P L ρ g (.build t parts) dst ty (val (mkAgg cs))
  | buildSlice {t len parts i e ei cs id ty} (hi : L t = some i) (hf : i.desc = .slice e) (hei : L e = some ei) (h0 : 0 < ei.size) (hl : len * ei.size ≤ 16777216)
      (hc : fillM ρ (fun k => some (k * ei.size, ei.size)) (List.replicate len (mcells ei.mz)).flatten parts.toList = some cs) : Step P L ρ g (.buildSlice t len parts) (some id) ty ⟨some (.row id len ei.size), [(id, some (.rw e ei.size cs))], [id], []⟩
  | indexR {t x ix id n sz k j i e ei dst ty} (h : ρ x = some (.row id n sz)) (hx : ρ ix = some (.im (.int k j))) (hi : L t = some i) (hf : i.desc = .slice e) (hei : L e = some ei) (hsz : ei.size = sz) (h0 : 0 ≤ j) (h1 : j < n) : Step P L ρ g (.indexAddr t x ix) dst ty (val (.ptr id (j.toNat * sz)))
  | indexS {t x ix n cs k j i e ei dst ty} (h : ρ x = some (.im (.seq n cs))) (hx : ρ ix = some (.im (.int k j))) (hi : L t = some i) (hf : i.desc = .slice e) (hei : L e = some ei) (h0 : 0 ≤ j) (h1 : j < n) (h2 : j.toNat * ei.size < cs.length) : Step P L ρ g (.indexAddr t x ix) dst ty (val (.ep (cs.drop (j.toNat * ei.size))))
  | indexStr {t x ix s k j i c dst ty} (h : ρ x = some (.im (.str s))) (hx : ρ ix = some (.im (.int k j))) (hi : L t = some i) (hf : i.desc = .string) (h0 : 0 ≤ j) (hc : s[j.toNat]? = some c) : Step P L ρ g (.index t x ix) dst ty (val (.im (.int .u8 c.toNat)))
  | sliceStrLo {t x lo s k l i dst ty} (h : ρ x = some (.im (.str s))) (hlo : ρ lo = some (.im (.int k l))) (hi : L t = some i) (hf : i.desc = .string) (h0 : 0 ≤ l) (h1 : l ≤ s.length) : Step P L ρ g (.slice t x (some lo) none none) dst ty (val (.im (.str (s.drop l.toNat))))
  | sliceStrHi {t x hi' s k h' i dst ty} (h : ρ x = some (.im (.str s))) (hhi : ρ hi' = some (.im (.int k h'))) (hi : L t = some i) (hf : i.desc = .string) (h0 : 0 ≤ h') (h1 : h' ≤ s.length) : Step P L ρ g (.slice t x none (some hi') none) dst ty (val (.im (.str (s.take h'.toNat))))
  | sliceStr {t x lo hi' s k k' l h' i dst ty} (h : ρ x = some (.im (.str s))) (hlo : ρ lo = some (.im (.int k l))) (hhi : ρ hi' = some (.im (.int k' h'))) (hi : L t = some i) (hf : i.desc = .string) (h0 : 0 ≤ l) (h1 : l ≤ h') (h2 : h' ≤ s.length) : Step P L ρ g (.slice t x (some lo) (some hi') none) dst ty (val (.im (.str ((s.drop l.toNat).take (h'.toNat - l.toNat)))))
  | sliceRow {t x hi' id n sz k h' i e dst ty} (h : ρ x = some (.row id n sz)) (hhi : ρ hi' = some (.im (.int k h'))) (hi : L t = some i) (hf : i.desc = .slice e) (hei : (L e).isSome) (h0 : 0 ≤ h') (h1 : h' ≤ n) : Step P L ρ g (.slice t x none (some hi') none) dst ty (val (.row id h'.toNat sz))
  | sliceSeqLo {t x lo n cs k l i e ei dst ty} (h : ρ x = some (.im (.seq n cs))) (hlo : ρ lo = some (.im (.int k l))) (hi : L t = some i) (hf : i.desc = .slice e) (hei : L e = some ei) (h0 : 0 ≤ l) (h1 : l ≤ n) (hcs : cs.length = n * ei.size) : Step P L ρ g (.slice t x (some lo) none none) dst ty (val (.im (.seq (n - l.toNat) (cs.drop (l.toNat * ei.size)))))
  | sliceSeqHi {t x hi' n cs k h' i e ei dst ty} (h : ρ x = some (.im (.seq n cs))) (hhi : ρ hi' = some (.im (.int k h'))) (hi : L t = some i) (hf : i.desc = .slice e) (hei : L e = some ei) (h0 : 0 ≤ h') (h1 : h' ≤ n) : Step P L ρ g (.slice t x none (some hi') none) dst ty (val (.im (.seq h'.toNat (cs.take (h'.toNat * ei.size)))))
  | extractM {x k ms m dst ty} (h : ρ x = some (.im (.tup ms))) (hm : ms[k]? = some m) : Step P L ρ g (.extract x k) dst ty (val (.im m))
  | extractD {x k ds d dst ty} (h : ρ x = some (.tup ds)) (hm : ds[k]? = some d) : Step P L ρ g (.extract x k) dst ty (val d)
  | func {f caps ds dst ty} (h : evL ρ caps.toList = some ds) : Step P L ρ g (.makeFunc (.func f) #[] caps) dst ty (val (.fn f ds))
  | binInt {op t x y t' k a b m dst ty} (h : ρ x = some (.im (.int k a))) (h' : ρ y = some (.im (.int k b))) (hm : intOp op k a b = some m) : Step P L ρ g (.binOp op t x y t') dst ty (val (.im m))
  | binDiv {op t x y t' k a b m dst ty} (h : ρ x = some (.im (.int k a))) (h' : ρ y = some (.im (.int k b))) (hm : divOp op k a b = some m) (h0 : b ≠ 0) : Step P L ρ g (.binOp op t x y t') dst ty (val (.im m))
  | binStr {op t x y t' a b m dst ty} (h : ρ x = some (.im (.str a))) (h' : ρ y = some (.im (.str b))) (hm : strOp op a b = some m) : Step P L ρ g (.binOp op t x y t') dst ty (val (.im m))
  | addStr {t x y t' a b dst ty} (h : ρ x = some (.im (.str a))) (h' : ρ y = some (.im (.str b))) (hl : a.length + b.length ≤ 9223372036854775807) : Step P L ρ g (.binOp .add t x y t') dst ty (val (.im (.str (a ++ b))))
  | binBool {op t x y t' i a b m dst ty} (h : ρ x = some (.im (.bool a))) (h' : ρ y = some (.im (.bool b))) (hi : L t = some i) (hf : i.desc = .bool) (hm : boolOp op a b = some m) : Step P L ρ g (.binOp op t x y t') dst ty (val (.im m))
  | not {t x b dst ty} (h : ρ x = some (.im (.bool b))) : Step P L ρ g (.unOp .not t x) dst ty (val (.im (.bool (!b))))
  | neg {t x k n dst ty} (h : ρ x = some (.im (.int k n))) : Step P L ρ g (.unOp .neg t x) dst ty (val (.im (.int k (k.wrap (0 - n)))))
  | convInt {s t x k0 n is i k dst ty} (h : ρ x = some (.im (.int k0 n))) (hs : L s = some is) (hi : L t = some i) (hf : i.desc = .int k) : Step P L ρ g (.convert s t x) dst ty (val (.im (.int k (k.wrap n))))
  | lenStr {x s t i dst ty} (h : ρ x = some (.im (.str s))) (hi : L t = some i) (hf : i.desc = .string) : Step P L ρ g (.call { callee := .builtin .len, args := #[x], argTypes := #[t] }) dst ty (val (.im (.int .i64 s.length)))
  | lenSeq {x n cs t i e dst ty} (h : ρ x = some (.im (.seq n cs))) (hi : L t = some i) (hf : i.desc = .slice e) : Step P L ρ g (.call { callee := .builtin .len, args := #[x], argTypes := #[t] }) dst ty (val (.im (.int .i64 n)))
  | lenNil {x t i e dst ty} (h : ρ x = some (.im .nil)) (hi : L t = some i) (hf : i.desc = .slice e) : Step P L ρ g (.call { callee := .builtin .len, args := #[x], argTypes := #[t] }) dst ty (val (.im (.int .i64 0)))
  | lenRow {x id n sz t i e dst ty} (h : ρ x = some (.row id n sz)) (hi : L t = some i) (hf : i.desc = .slice e) : Step P L ρ g (.call { callee := .builtin .len, args := #[x], argTypes := #[t] }) dst ty (val (.im (.int .i64 n)))
  | append {x y t i e ei id0 n m c cs news js d id ty} (h : ρ x = some (.row id0 n ei.size)) (hy : ρ y = some d) (hd : News g d m news js) (hg : g id0 = some (.rw c ei.size cs)) (hc : c = e) (hi : L t = some i) (hf : i.desc = .slice e) (hei : L e = some ei) (h0 : 0 < ei.size)
      (hn : n * ei.size ≤ cs.length) (hm : news.length = m * ei.size) (hb : (n + m) * ei.bytes ≤ 140737488355328) (hmx : n + m ≤ 9223372036854775807) (hrs : ∀ id n sz, d = .row id n sz → sz = ei.size) :
      Step P L ρ g (.call { callee := .builtin .append, args := #[x, y], argTypes := #[t, t] }) (some id) ty ⟨some (.row id (n + m) ei.size), [(id, some (.rw e ei.size (cs.take (n * ei.size) ++ news))), (id0, none)], [id], id0 :: js⟩
  | appendNil {x y t i e ei m news js d id ty} (h : ρ x = some (.im .nil)) (hy : ρ y = some d) (hd : News g d m news js) (hi : L t = some i) (hf : i.desc = .slice e) (hei : L e = some ei) (h0 : 0 < ei.size)
      (hm : news.length = m * ei.size) (hb : m * ei.bytes ≤ 140737488355328) (hmx : m ≤ 9223372036854775807) (hrs : ∀ id n sz, d = .row id n sz → sz = ei.size) :
      Step P L ρ g (.call { callee := .builtin .append, args := #[x, y], argTypes := #[t, t] }) (some id) ty ⟨some (.row id m ei.size), [(id, some (.rw e ei.size news))], [id], js⟩
  | call {x args ats f ms ids m dst ty} (h : ρ x = some (.im (.fn f))) (hp : Plain P f) (ha : evM ρ g args.toList = some (ms, ids)) (hr : Ret P f ms m) : Step P L ρ g (.call { callee := .value x, args := args, argTypes := ats }) dst ty ⟨some (.im m), ids.map fun i => (i, none), [], ids⟩
  | nilCheckP {x id off dst ty} (h : ρ x = some (.ptr id off)) : Step P L ρ g (.nilCheck x) dst ty (val (.ptr id off))
  | nilCheckE {x cs dst ty} (h : ρ x = some (.ep cs)) : Step P L ρ g (.nilCheck x) dst ty (val (.ep cs))
  /-- an operation whose step is shown by itself -/
  | sem {op dst ty ds e} (og : List (Nat × O)) (hx : evL ρ op.operands.toList = some ds) (hg : ∀ p ∈ og, g p.1 = some p.2) (ht : ∀ p ∈ og, p.1 ∈ e.tch) (hs : SemD P L op dst ty ds og e) : Step P L ρ g op dst ty e

section
variable {P : Program} {L : Nat → Option TI} {ρ ρ' : Operand → Option D} {g g' : Nat → Option O}

/-- an operation hangs on its operands, and on the objects that it looks at, alone -/
theorem Step.congr {op : Op} {dst : Option Nat} {ty : TypeId} {e : Eff} (h : Step P L ρ g op dst ty e) (hρ : ∀ x ∈ op.operands, ρ' x = ρ x) (hg : ∀ i ∈ e.tch, g' i = g i) : Step P L ρ' g' op dst ty e := by
  have q : ∀ x d, x ∈ op.operands → ρ x = some d → ρ' x = some d := fun x d hx h => by rw [hρ x hx]; exact h
  have r : ∀ i o, i ∈ e.tch → g i = some o → g' i = some o := fun i o hi h => by rw [hg i hi]; exact h
  cases h with
  | move h => exact .move (q _ _ (by simp [Op.operands]) h)
  | assign h => exact .assign (q _ _ (by simp [Op.operands]) h)
  | @pick c x y b d dst ty h h' => exact .pick (q _ _ (by simp [Op.operands]) h) (q _ _ (by cases b <;> simp [Op.operands]) h')
  | alloc h => exact .alloc h
  | box h hw => exact .box (q _ _ (by simp [Op.operands]) h) hw
  | loadB h hb hi ha hd => exact .loadB (q _ _ (by simp [Op.operands]) h) (r _ _ (by simp) hb) hi ha hd
  | loadBA h hb hi ha hd => exact .loadBA (q _ _ (by simp [Op.operands]) h) (r _ _ (by simp) hb) hi ha hd
  | loadR h hb hi ha hd => exact .loadR (q _ _ (by simp [Op.operands]) h) (r _ _ (by simp) hb) hi ha hd
  | loadRA h hb hi ha hd h0 => exact .loadRA (q _ _ (by simp [Op.operands]) h) (r _ _ (by simp) hb) hi ha hd h0
  | loadE h hi ha hd => exact .loadE (q _ _ (by simp [Op.operands]) h) hi ha hd
  | loadEA h hi ha hd => exact .loadEA (q _ _ (by simp [Op.operands]) h) hi ha hd
  | storeB h hx hw hb hi hs hl => exact .storeB (q _ _ (by simp [Op.operands]) h) (q _ _ (by simp [Op.operands]) hx) hw (r _ _ (by simp) hb) hi hs hl
  | storeR h hx hm hw hb hi hs hl h0 => exact .storeR (q _ _ (by simp [Op.operands]) h) (q _ _ (by simp [Op.operands]) hx) hm hw (r _ _ (by simp) hb) hi hs hl h0
  | fieldP h hi hf hk hfi h0 => exact .fieldP (q _ _ (by simp [Op.operands]) h) hi hf hk hfi h0
  | fieldE h hi hf hk hfi h0 => exact .fieldE (q _ _ (by simp [Op.operands]) h) hi hf hk hfi h0
  | fieldM h hi hf hk hfi h0 h1 => exact .fieldM (q _ _ (by simp [Op.operands]) h) hi hf hk hfi h0 h1
  | fieldMA h hi hf hk hfi h0 => exact .fieldMA (q _ _ (by simp [Op.operands]) h) hi hf hk hfi h0
  | build hi hf ha hc => exact .build hi hf ha (by rw [fillD_congr (fun x hx => hρ _ (by simp only [Op.operands, List.mem_toArray, List.mem_map]; exact ⟨x, hx, rfl⟩))]; exact hc)
  | buildSlice hi hf hei h0 hl hc => exact .buildSlice hi hf hei h0 hl (by rw [fillM_congr (fun x hx => hρ _ (by simp only [Op.operands, List.mem_toArray, List.mem_map]; exact ⟨x, hx, rfl⟩))]; exact hc)
  | indexR h hx hi hf hei hsz h0 h1 => exact .indexR (q _ _ (by simp [Op.operands]) h) (q _ _ (by simp [Op.operands]) hx) hi hf hei hsz h0 h1
  | indexS h hx hi hf hei h0 h1 h2 => exact .indexS (q _ _ (by simp [Op.operands]) h) (q _ _ (by simp [Op.operands]) hx) hi hf hei h0 h1 h2
  | indexStr h hx hi hf h0 hc => exact .indexStr (q _ _ (by simp [Op.operands]) h) (q _ _ (by simp [Op.operands]) hx) hi hf h0 hc
  | sliceStrLo h hlo hi hf h0 h1 => exact .sliceStrLo (q _ _ (by simp [Op.operands]) h) (q _ _ (by simp [Op.operands]) hlo) hi hf h0 h1
  | sliceStrHi h hlo hi hf h0 h1 => exact .sliceStrHi (q _ _ (by simp [Op.operands]) h) (q _ _ (by simp [Op.operands]) hlo) hi hf h0 h1
  | sliceStr h hlo hhi hi hf h0 h1 h2 => exact .sliceStr (q _ _ (by simp [Op.operands]) h) (q _ _ (by simp [Op.operands]) hlo) (q _ _ (by simp [Op.operands]) hhi) hi hf h0 h1 h2
  | sliceRow h hhi hi hf hei h0 h1 => exact .sliceRow (q _ _ (by simp [Op.operands]) h) (q _ _ (by simp [Op.operands]) hhi) hi hf hei h0 h1
  | sliceSeqLo h hlo hi hf hei h0 h1 hcs => exact .sliceSeqLo (q _ _ (by simp [Op.operands]) h) (q _ _ (by simp [Op.operands]) hlo) hi hf hei h0 h1 hcs
  | sliceSeqHi h hlo hi hf hei h0 h1 => exact .sliceSeqHi (q _ _ (by simp [Op.operands]) h) (q _ _ (by simp [Op.operands]) hlo) hi hf hei h0 h1
  | extractM h hm => exact .extractM (q _ _ (by simp [Op.operands]) h) hm
  | extractD h hm => exact .extractD (q _ _ (by simp [Op.operands]) h) hm
  | func h => exact .func (by rw [evL_congr (fun x hx => hρ _ (by simp [Op.operands]; simpa using hx))]; exact h)
  | binInt h h' hm => exact .binInt (q _ _ (by simp [Op.operands]) h) (q _ _ (by simp [Op.operands]) h') hm
  | binDiv h h' hm h0 => exact .binDiv (q _ _ (by simp [Op.operands]) h) (q _ _ (by simp [Op.operands]) h') hm h0
  | binStr h h' hm => exact .binStr (q _ _ (by simp [Op.operands]) h) (q _ _ (by simp [Op.operands]) h') hm
  | addStr h h' hl => exact .addStr (q _ _ (by simp [Op.operands]) h) (q _ _ (by simp [Op.operands]) h') hl
  | binBool h h' hi hf hm => exact .binBool (q _ _ (by simp [Op.operands]) h) (q _ _ (by simp [Op.operands]) h') hi hf hm
  | not h => exact .not (q _ _ (by simp [Op.operands]) h)
  | neg h => exact .neg (q _ _ (by simp [Op.operands]) h)
  | convInt h hs hi hf => exact .convInt (q _ _ (by simp [Op.operands]) h) hs hi hf
  | lenStr h hi hf => exact .lenStr (q _ _ (by simp [Op.operands, Call.operands]) h) hi hf
  | lenSeq h hi hf => exact .lenSeq (q _ _ (by simp [Op.operands, Call.operands]) h) hi hf
  | lenNil h hi hf => exact .lenNil (q _ _ (by simp [Op.operands, Call.operands]) h) hi hf
  | lenRow h hi hf => exact .lenRow (q _ _ (by simp [Op.operands, Call.operands]) h) hi hf
  | append h hy hd hg' hc hi hf hei h0 hn hm hb hmx hrs => exact .append (q _ _ (by simp [Op.operands, Call.operands]) h) (q _ _ (by simp [Op.operands, Call.operands]) hy) (hd.congr fun j hj => hg j (by simp [hj])) (r _ _ (by simp) hg') hc hi hf hei h0 hn hm hb hmx hrs
  | appendNil h hy hd hi hf hei h0 hm hb hmx hrs => exact .appendNil (q _ _ (by simp [Op.operands, Call.operands]) h) (q _ _ (by simp [Op.operands, Call.operands]) hy) (hd.congr fun j hj => hg j hj) hi hf hei h0 hm hb hmx hrs
  | call h hp ha hr => exact .call (q _ _ (by simp [Op.operands, Call.operands]) h) hp (evM_congr ha (fun x hx => hρ _ (by simp [Op.operands, Call.operands]; exact .inr (by simpa using hx))) (fun i hi => hg i hi)) hr
  | nilCheckP h => exact .nilCheckP (q _ _ (by simp [Op.operands]) h)
  | nilCheckE h => exact .nilCheckE (q _ _ (by simp [Op.operands]) h)
  | sem og hx hg' ht hs => exact .sem og (by rw [evL_congr (fun x hx => hρ x (by simpa using hx))]; exact hx) (fun p hp => r _ _ (ht p hp) (hg' p hp)) ht hs

end
end Fw
