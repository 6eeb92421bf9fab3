import Derived.Test.YtjjnjogmplbjoaaWf
import Derived.Test.YtjjnjogmplbjoaaRows
import Derived.ProofKit
import Derived.OpenShut
import Derived.ChangeSlices
import Derived.Deep.Slices
set_option linter.unusedVariables false
set_option linter.unusedSimpArgs false
namespace Go.Proofs.Ytjjnjogmplbjoaa
open Go.ChangeShapes Go.WideShapes Go.ChangeAt Go.RowKit Go.Ab Go.Deep

/-! ### arguments, opened -/
theorem own : ownKnob Try.prog.godebug = none := by kernel_rfl
theorem laidOut : laidOutB Try.prog = true := by kernel_rfl
theorem cells5 : Try.prog.cellsOf 5 = 1 := by kernel_rfl
theorem cells29 : Try.prog.cellsOf 29 = 1 := by kernel_rfl
theorem maxLen_le : maxLen ≤ 9223372036854775807 := by decide

def Dt.At (w : World) (v : Value) (x : Addr) : Dt → Prop
  | .e a c => v = .slice a 0 c
  | .s Z n => v = .slice (some x) n Z.length ∧ (⟨.u8, x, Z⟩ : InRow).ok w
def Dt.ins (x : Addr) : Dt → List InB
  | .e _ _ => []
  | .s Z _ => [.row ⟨.u8, x, Z⟩]
theorem Dt.ins_h (x : Addr) (d : Dt) : (d.ins x).map InB.hb = d.h := by
  cases d with
  | e => rfl
  | s Z n => rfl
theorem Dt.ins_ok {w : World} {v : Value} {x : Addr} {d : Dt} (h : d.At w v x) : ∀ r ∈ d.ins x, r.ok w := by
  cases d with
  | e => intro r hr; cases hr
  | s Z n => intro r hr; simp only [Dt.ins, List.mem_singleton] at hr; subst hr; exact h.2
theorem Dt.conc_eq {w : World} {v : Value} {x : Addr} {d : Dt} (h : d.At w v x) {rs : List InB} {b : Nat} (hb : ∀ Z n, d = .s Z n → rs[b]? = some (.row ⟨.u8, x, Z⟩)) : conc (inSg rs) (d.v b) = v := by
  cases d with
  | e a c => exact h.symm
  | s Z n =>
    show conc (inSg rs) (.slice b 0 n none) = v
    rw [conc_in (hb Z n rfl) (show (InB.row ⟨.u8, x, Z⟩).ok w from h.2), h.1]
    rfl
theorem Dt.inn_v {d : Dt} {p : Nat → Prop} {b : Nat} (hb : ∀ Z n, d = .s Z n → p b) : (d.v b).inn p := by
  cases d with
  | e => trivial
  | s Z n => exact hb Z n rfl

variable {H : Type} {enc : TypeId × Value → H} {w : World} {hd : Bool}

/-- The cells of a []byte. -/
theorem open_dt {fuel : Nat} {cs : List Value} {y : DataW H × List MemPlace} (h : DataW.trod enc Try.prog w 0 (fun _ => true) hd fuel 29 cs = some y) : ∃ v d x, cs = [v] ∧ Dt.ok d ∧ Dt.At w v x d := by
  rcases open_ints Try.underlying29 Try.underlying5 cells5 h with ⟨rfl, _⟩ | ⟨a, len, cap, zs, rfl, _, hl, hm, hz, _, hcell, hwf⟩
  · exact ⟨_, .e none 0, default, rfl, trivial, rfl⟩
  · simp only [if_true] at hz
    by_cases h0 : len = 0
    · subst h0
      exact ⟨_, .e (some a) cap, default, rfl, trivial, rfl⟩
    · refine ⟨_, .s zs len, a, rfl, ⟨by omega, by omega, by have := maxLen_le; omega, fun z hz' => ?_⟩, by rw [hz], by show 0 < zs.length; omega, hcell⟩
      have := bounds_u8 (hwf z hz')
      omega

/-- The cells of a key. -/
def isKey (b : Nat → Int) : Prop := ∀ i, 0 ≤ b i ∧ b i < 256
theorem open_key {fuel : Nat} {cs : List Value} {y : DataW H × List MemPlace} (h : DataW.trod enc Try.prog w 0 (fun _ => true) hd fuel 28 cs = some y) : ∃ b : Nat → Int, isKey b ∧ cs = (List.range 32).map fun i => .int .u8 (b i) := by
  obtain ⟨xs, m, -, -, hl, hxl, hx⟩ := DataW.trod_array Try.underlying28 h
  have hl' : cs.length = 32 := by rw [hl]; kernel_rfl
  have hc : ∀ i, i < 32 → ∃ n : Int, cs[i]? = some (.int .u8 n) ∧ 0 ≤ n ∧ n < 256 := fun i hi => by
    have hxi := hx i hi
    have hlt : i < xs.length := by omega
    rw [List.getElem?_eq_getElem hlt, cells5] at hxi
    obtain ⟨n, hcs, -, hwf⟩ := DataW.trod_int Try.underlying5 hxi
    have hb := bounds_u8 hwf
    refine ⟨n, ?_, by omega, by omega⟩
    have h1 : (List.take 1 (List.drop (i * 1) cs))[0]? = some (.int .u8 n) := by rw [hcs]; rfl
    simpa using h1
  refine ⟨fun i => match cs[i]? with | some (.int .u8 n) => n | _ => 0, fun i => ?_, ?_⟩
  · by_cases hi : i < 32
    · obtain ⟨n, h1, h2, h3⟩ := hc i hi
      simp only [h1]; exact ⟨h2, h3⟩
    · have : cs[i]? = none := List.getElem?_eq_none (by omega)
      simp only [this]; omega
  · apply List.ext_getElem?
    intro i
    simp only [List.getElem?_map]
    by_cases hi : i < 32
    · obtain ⟨n, h1, h2, h3⟩ := hc i hi
      rw [h1, List.getElem?_range hi]
      simp [h1]
    · have : cs[i]? = none := List.getElem?_eq_none (by omega)
      rw [this, List.getElem?_eq_none (by simp; omega)]
      rfl

theorem cut_at {α : Type} (cs : List α) (a k : Nat) : cs.drop a = (cs.drop a).take k ++ cs.drop (a + k) := by
  rw [← List.drop_drop, List.take_append_drop]

theorem open_i {t : TypeId} {k : IntKind} (ht : Try.prog.underlying t = some (.int k)) {fuel : Nat} {cs : List Value} {y : Option (DataW H × List MemPlace)} (h : DataW.trod enc Try.prog w 0 (fun _ => true) hd fuel t cs = y) (hy : y.isSome = true) : ∃ n : Int, cs = [.int k n] ∧ (Lit.int k n).wf = true := by
  cases y with
  | none => cases hy
  | some y => obtain ⟨n, h1, -, h2⟩ := DataW.trod_int ht h; exact ⟨n, h1, h2⟩

def Cm.ok (c : Cm) : Prop := (0 ≤ c.num ∧ c.num < 18446744073709551616) ∧ (-9223372036854775808 ≤ c.kind ∧ c.kind < 9223372036854775808) ∧ (0 ≤ c.hdl ∧ c.hdl < 4294967296) ∧ (0 ≤ c.oth ∧ c.oth < 4294967296) ∧
  (-9223372036854775808 ≤ c.ty ∧ c.ty < 9223372036854775808) ∧ (-9223372036854775808 ≤ c.attr ∧ c.attr < 9223372036854775808) ∧ isKey c.key ∧ c.d.ok
/-- This value is that command; its data lie at x. -/
def Cm.At (w : World) (v : Value) (x : Addr) (c : Cm) : Prop := ∃ dv, Dt.At w dv x c.d ∧ v = Value.agg (([Value.int .u64 c.num, Value.int .i64 c.kind, Value.int .u32 c.hdl, Value.int .u32 c.oth, Value.int .i64 c.ty, Value.int .i64 c.attr] : List Value) ++ (List.range 32).map (fun i => Value.int .u8 (c.key i)) ++ [dv]).toArray

theorem Cm.conc_eq {v : Value} {x : Addr} {c : Cm} (h : c.At w v x) {rs : List InB} {b : Nat} (hb : ∀ Z n, c.d = .s Z n → rs[b]? = some (.row ⟨.u8, x, Z⟩)) : conc (inSg rs) (c.v b) = v := by
  obtain ⟨dv, hd, rfl⟩ := h
  unfold Cm.v Cm.cells
  simp only [conc, concs_eq, List.map_append, List.map_cons, List.map_nil, List.map_map, Dt.conc_eq hd hb]
  rfl
theorem Cm.inn_v {c : Cm} {p : Nat → Prop} {b : Nat} (hb : ∀ Z n, c.d = .s Z n → p b) : (c.v b).inn p := by
  unfold Cm.v Cm.cells
  show inns p _
  rw [inns_iff]
  intro v hv
  rcases List.mem_append.1 hv with hv | hv
  · rcases List.mem_append.1 hv with hv | hv
    · simp only [List.mem_cons, List.not_mem_nil, or_false] at hv
      rcases hv with rfl | rfl | rfl | rfl | rfl | rfl <;> trivial
    · obtain ⟨i, -, rfl⟩ := List.mem_map.1 hv; trivial
  · simp only [List.mem_singleton] at hv; subst hv; exact Dt.inn_v hb

theorem open_cm {base : Nat} {v : Value} {d : DataW H} {p : List MemPlace} (hv : Value.okWide Try.prog w .any base 31 v) (h : DataW.Trod enc Try.prog w 0 (fun _ => true) hd 31 v d p) :
    ∃ c x, Cm.ok c ∧ Cm.At w v x c := by
  obtain ⟨cs, rfl, hsz⟩ := okWide_struct Try.underlying31 hv
  obtain ⟨fuel, hf⟩ := h
  obtain ⟨xs, n, -, -, hl, hxl, hx⟩ := DataW.trod_struct Try.underlying31 hf
  have hl' : cs.toList.length = 39 := by
    have : (Value.agg cs).cells.toList.length = 39 := by rw [hl]; kernel_rfl
    exact this
  have hc : (Value.agg cs).cells.toList = cs.toList := rfl
  rw [hc] at hx
  have hxl' : xs.length = 8 := hxl
  have some_ : ∀ i, i < 8 → (xs[i]?).isSome = true := fun i hi => by rw [List.getElem?_eq_getElem (by omega)]; rfl
  obtain ⟨n0, e0, w0⟩ := open_i Try.underlying22 (hx 0 _ rfl) (some_ 0 (by omega))
  obtain ⟨n1, e1, w1⟩ := open_i Try.underlying23 (hx 1 _ rfl) (some_ 1 (by omega))
  obtain ⟨n2, e2, w2⟩ := open_i Try.underlying24 (hx 2 _ rfl) (some_ 2 (by omega))
  obtain ⟨n3, e3, w3⟩ := open_i Try.underlying24 (hx 3 _ rfl) (some_ 3 (by omega))
  obtain ⟨n4, e4, w4⟩ := open_i Try.underlying25 (hx 4 _ rfl) (some_ 4 (by omega))
  obtain ⟨n5, e5, w5⟩ := open_i Try.underlying26 (hx 5 _ rfl) (some_ 5 (by omega))
  have h6 := hx 6 _ rfl
  rw [List.getElem?_eq_getElem (by omega)] at h6
  obtain ⟨b, kb, e6⟩ := open_key h6
  have h7 := hx 7 _ rfl
  rw [List.getElem?_eq_getElem (by omega)] at h7
  obtain ⟨dv, dd, x, e7, ok7, at7⟩ := open_dt h7
  have c22 : Try.prog.cellsOf 22 = 1 := by kernel_rfl
  have c23 : Try.prog.cellsOf 23 = 1 := by kernel_rfl
  have c24 : Try.prog.cellsOf 24 = 1 := by kernel_rfl
  have c25 : Try.prog.cellsOf 25 = 1 := by kernel_rfl
  have c26 : Try.prog.cellsOf 26 = 1 := by kernel_rfl
  have c28 : Try.prog.cellsOf 28 = 32 := by kernel_rfl
  change List.take (Try.prog.cellsOf 22) (List.drop 0 cs.toList) = _ at e0
  change List.take (Try.prog.cellsOf 23) (List.drop 1 cs.toList) = _ at e1
  change List.take (Try.prog.cellsOf 24) (List.drop 2 cs.toList) = _ at e2
  change List.take (Try.prog.cellsOf 24) (List.drop 3 cs.toList) = _ at e3
  change List.take (Try.prog.cellsOf 25) (List.drop 4 cs.toList) = _ at e4
  change List.take (Try.prog.cellsOf 26) (List.drop 5 cs.toList) = _ at e5
  change List.take (Try.prog.cellsOf 28) (List.drop 6 cs.toList) = _ at e6
  change List.take (Try.prog.cellsOf 29) (List.drop 38 cs.toList) = _ at e7
  rw [c22] at e0
  rw [c23] at e1
  rw [c24] at e2 e3
  rw [c25] at e4
  rw [c26] at e5
  rw [c28] at e6
  rw [cells29] at e7
  have hcs : cs.toList = ([Value.int .u64 n0, Value.int .i64 n1, Value.int .u32 n2, Value.int .u32 n3, Value.int .i64 n4, Value.int .i64 n5] : List Value) ++ (List.range 32).map (fun i => Value.int .u8 (b i)) ++ [dv] := by
    have q : cs.toList = cs.toList.drop 0 := by simp
    rw [q, cut_at cs.toList 0 1, e0, cut_at cs.toList (0 + 1) 1, e1, cut_at cs.toList (0 + 1 + 1) 1, e2, cut_at cs.toList (0 + 1 + 1 + 1) 1, e3, cut_at cs.toList (0 + 1 + 1 + 1 + 1) 1, e4, cut_at cs.toList (0 + 1 + 1 + 1 + 1 + 1) 1, e5, cut_at cs.toList (0 + 1 + 1 + 1 + 1 + 1 + 1) 32, e6, cut_at cs.toList (0 + 1 + 1 + 1 + 1 + 1 + 1 + 32) 1, e7, List.drop_eq_nil_of_le (show cs.toList.length ≤ 0 + 1 + 1 + 1 + 1 + 1 + 1 + 32 + 1 by omega)]
    simp
  refine ⟨⟨n0, n1, n2, n3, n4, n5, b, dd⟩, x, ⟨?_, ?_, ?_, ?_, ?_, ?_, kb, ok7⟩, dv, at7, ?_⟩
  · have := bounds_u64 w0; show _ ≤ n0 ∧ n0 < _; omega
  · have := bounds_i64 w1; show _ ≤ n1 ∧ n1 < _; omega
  · have := bounds_u32 w2; show _ ≤ n2 ∧ n2 < _; omega
  · have := bounds_u32 w3; show _ ≤ n3 ∧ n3 < _; omega
  · have := bounds_i64 w4; show _ ≤ n4 ∧ n4 < _; omega
  · have := bounds_i64 w5; show _ ≤ n5 ∧ n5 < _; omega
  · have : cs = cs.toList.toArray := by simp
    rw [this, hcs]

/-! ### a slice of slices of bytes -/
def Pt.At (w : World) (v : Value) (x : Addr) : Pt → Prop
  | .e a c => v = .slice a 0 c
  | .s R n => v = .slice (some x) n R.length ∧ (InB.kr x R).ok w
def Pt.ins (x : Addr) : Pt → List InB
  | .e _ _ => []
  | .s R _ => [.kr x R]
theorem Pt.ins_h (x : Addr) (d : Pt) : (d.ins x).map InB.hb = d.h := by
  cases d <;> rfl
theorem Pt.ins_ok {v : Value} {x : Addr} {d : Pt} (h : d.At w v x) : ∀ r ∈ d.ins x, r.ok w := by
  cases d with
  | e => intro r hr; cases hr
  | s Z n => intro r hr; simp only [Pt.ins, List.mem_singleton] at hr; subst hr; exact h.2
theorem Pt.conc_eq {v : Value} {x : Addr} {d : Pt} (h : d.At w v x) {rs : List InB} {b : Nat} (hb : ∀ R n, d = .s R n → rs[b]? = some (.kr x R)) : conc (inSg rs) (d.v b) = v := by
  cases d with
  | e a c => exact h.symm
  | s R n =>
    show conc (inSg rs) (.slice b 0 n none) = v
    rw [conc_in (hb R n rfl) (show (InB.kr x R).ok w from h.2), h.1]
    rfl
theorem Pt.inn_v {d : Pt} {p : Nat → Prop} {b : Nat} (hb : ∀ Z n, d = .s Z n → p b) : (d.v b).inn p := by
  cases d with
  | e => trivial
  | s Z n => exact hb Z n rfl

instance : Inhabited KRow := ⟨⟨none, 0, none, 0⟩⟩
theorem open_pt {fuel : Nat} {cs : List Value} {y : DataW H × List MemPlace} (h : DataW.trod enc Try.prog w 0 (fun _ => true) hd fuel 32 cs = some y) : ∃ v d x, cs = [v] ∧ Pt.ok d ∧ Pt.At w v x d := by
  rcases open_slice1 Try.underlying32 cells29 h with ⟨rfl, _⟩ | ⟨a, len, cap, m, n, V, D, Pl, rfl, _, hl, hm, hmm, _, hx⟩
  · exact ⟨_, .e none 0, default, rfl, trivial, rfl⟩
  · simp only [if_true] at hmm
    subst hmm
    by_cases h0 : len = 0
    · subst h0
      exact ⟨_, .e (some a) m, default, rfl, trivial, rfl⟩
    · have each : ∀ i, i < m → ∃ r : KRow, w.cell? (a.add i) = some r.val ∧ KRow.good r ∧ ∀ row, r.row = some row → row.ok w := fun i hi => by
        obtain ⟨h1, h2⟩ := hx i hi
        obtain ⟨v, d, x, e1, ok1, at1⟩ := open_dt h2
        simp only [List.cons.injEq, and_true] at e1
        cases d with
        | e a' c =>
          refine ⟨⟨none, 0, a', c⟩, ?_, ⟨fun row hr => (by cases hr), trivial⟩, fun row hr => (by cases hr)⟩
          rw [h1, e1, at1]; rfl
        | s Z k =>
          refine ⟨⟨some ⟨.u8, x, Z⟩, k, none, 0⟩, ?_, ⟨fun row hr => (by cases hr; rfl), ok1⟩, fun row hr => (by cases hr; exact at1.2)⟩
          rw [h1, e1, at1.1]; rfl
      obtain ⟨f, hf⟩ := choose_lt each
      have hlen : ((List.range m).map f).length = m := by simp
      refine ⟨_, .s ((List.range m).map f) len, a, rfl, ⟨by omega, by omega, by have := maxLen_le; omega, fun r hr => ?_⟩, by rw [hlen], by omega, fun i hi => ?_, fun r hr => ?_⟩
      · obtain ⟨i, hi, rfl⟩ := List.mem_map.1 hr
        exact (hf i (List.mem_range.1 hi)).2.1
      · have hi' : i < m := by omega
        exact ⟨f i, by simp [hi'], (hf i hi').1⟩
      · obtain ⟨i, hi, rfl⟩ := List.mem_map.1 hr
        exact (hf i (List.mem_range.1 hi)).2.2

def Rp.ok (c : Rp) : Prop := (0 ≤ c.num ∧ c.num < 18446744073709551616) ∧ (-9223372036854775808 ≤ c.code ∧ c.code < 9223372036854775808) ∧ (0 ≤ c.hdl ∧ c.hdl < 4294967296) ∧ c.p.ok
def Rp.At (w : World) (v : Value) (x : Addr) (c : Rp) : Prop := ∃ dv, Pt.At w dv x c.p ∧ v = Value.agg #[Value.int .u64 c.num, Value.int .i64 c.code, Value.int .u32 c.hdl, dv]
theorem Rp.conc_eq {v : Value} {x : Addr} {c : Rp} (h : c.At w v x) {rs : List InB} {b : Nat} (hb : ∀ Z n, c.p = .s Z n → rs[b]? = some (.kr x Z)) : conc (inSg rs) (c.v b) = v := by
  obtain ⟨dv, hd, rfl⟩ := h
  unfold Rp.v Rp.cells
  simp only [conc, concs, u64, i64, u32, Pt.conc_eq hd hb]
theorem Rp.inn_v {c : Rp} {p : Nat → Prop} {b : Nat} (hb : ∀ Z n, c.p = .s Z n → p b) : (c.v b).inn p :=
  ⟨trivial, trivial, trivial, Pt.inn_v hb, trivial⟩
theorem open_rp {base : Nat} {v : Value} {d : DataW H} {p : List MemPlace} (hv : Value.okWide Try.prog w .any base 34 v) (h : DataW.Trod enc Try.prog w 0 (fun _ => true) hd 34 v d p) :
    ∃ c x, Rp.ok c ∧ Rp.At w v x c := by
  obtain ⟨cs, rfl, hsz⟩ := okWide_struct Try.underlying34 hv
  obtain ⟨fuel, hf⟩ := h
  obtain ⟨xs, n, -, -, hl, hxl, hx⟩ := DataW.trod_struct Try.underlying34 hf
  have hl' : cs.toList.length = 4 := by
    have : (Value.agg cs).cells.toList.length = 4 := by rw [hl]; kernel_rfl
    exact this
  have hc : (Value.agg cs).cells.toList = cs.toList := rfl
  rw [hc] at hx
  have hxl' : xs.length = 4 := hxl
  have some_ : ∀ i, i < 4 → (xs[i]?).isSome = true := fun i hi => by rw [List.getElem?_eq_getElem (by omega)]; rfl
  obtain ⟨n0, e0, w0⟩ := open_i Try.underlying22 (hx 0 _ rfl) (some_ 0 (by omega))
  obtain ⟨n1, e1, w1⟩ := open_i Try.underlying3 (hx 1 _ rfl) (some_ 1 (by omega))
  obtain ⟨n2, e2, w2⟩ := open_i Try.underlying24 (hx 2 _ rfl) (some_ 2 (by omega))
  have h3 := hx 3 _ rfl
  rw [List.getElem?_eq_getElem (by omega)] at h3
  obtain ⟨dv, dd, x, e3, ok3, at3⟩ := open_pt h3
  have c22 : Try.prog.cellsOf 22 = 1 := by kernel_rfl
  have c3 : Try.prog.cellsOf 3 = 1 := by kernel_rfl
  have c24 : Try.prog.cellsOf 24 = 1 := by kernel_rfl
  have c32 : Try.prog.cellsOf 32 = 1 := by kernel_rfl
  change List.take (Try.prog.cellsOf 22) (List.drop 0 cs.toList) = _ at e0
  change List.take (Try.prog.cellsOf 3) (List.drop 1 cs.toList) = _ at e1
  change List.take (Try.prog.cellsOf 24) (List.drop 2 cs.toList) = _ at e2
  change List.take (Try.prog.cellsOf 32) (List.drop 3 cs.toList) = _ at e3
  rw [c22] at e0
  rw [c3] at e1
  rw [c24] at e2
  rw [c32] at e3
  have hcs : cs.toList = [Value.int .u64 n0, Value.int .i64 n1, Value.int .u32 n2, dv] := by
    have q : cs.toList = cs.toList.drop 0 := by simp
    rw [q, cut_at cs.toList 0 1, e0, cut_at cs.toList (0 + 1) 1, e1, cut_at cs.toList (0 + 1 + 1) 1, e2, cut_at cs.toList (0 + 1 + 1 + 1) 1, e3, List.drop_eq_nil_of_le (show cs.toList.length ≤ 0 + 1 + 1 + 1 + 1 by omega)]
    simp
  refine ⟨⟨n0, n1, n2, dd⟩, x, ⟨?_, ?_, ?_, ok3⟩, dv, at3, ?_⟩
  · have := bounds_u64 w0; show _ ≤ n0 ∧ n0 < _; omega
  · have := bounds_i64 w1; show _ ≤ n1 ∧ n1 < _; omega
  · have := bounds_u32 w2; show _ ≤ n2 ∧ n2 < _; omega
  · have : cs = cs.toList.toArray := by simp
    rw [this, hcs]
end Go.Proofs.Ytjjnjogmplbjoaa
