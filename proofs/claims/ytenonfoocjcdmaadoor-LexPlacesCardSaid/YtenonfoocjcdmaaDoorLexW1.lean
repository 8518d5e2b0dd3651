/- Layer 5: what a reader holds; 'while', by the contract of the closure that it is handed. -/
import Derived.Test.YtenonfoocjcdmaaDoorRuW2
import Derived.Test.YtenonfoocjcdmaaDoorOwn
import Derived.Test.YtenonfoocjcdmaaDoorLat
import Derived.Deep.RegionHeld3
import Derived.Deep.RegionWith
import Derived.Deep.DeepCutAuto
import Derived.Shelf.Abstract
import Derived.Laws.Cover4
namespace Go.Proofs.YtenonfoocjcdmaaDoor
set_option linter.unusedVariables false
open Go.RowKit

/-- all blocks but those of S are as they were -/
structure Kb (S : Nat → Prop) (w w' : World) : Prop where
  os : w'.os = w.os
  tape : w'.tape = w.tape
  output : w'.output = w.output
  size : w.heap.size ≤ w'.heap.size
  block : ∀ k, k < w.heap.size → ¬ S k → w'.heap[k]? = w.heap[k]?
section
variable {S S' : Nat → Prop} {w w' w'' : World}
theorem Kb.refl (S : Nat → Prop) (w : World) : Kb S w w := ⟨rfl, rfl, rfl, Nat.le_refl _, fun _ _ _ => rfl⟩
theorem Kb.trans (h : Kb S w w') (k : Kb S w' w'') : Kb S w w'' :=
  ⟨k.os.trans h.os, k.tape.trans h.tape, k.output.trans h.output, Nat.le_trans h.size k.size, fun b hb hS => (k.block b (Nat.lt_of_lt_of_le hb h.size) hS).trans (h.block b hb hS)⟩
theorem Kb.mono (h : Kb S w w') (hS : ∀ k, S k → S' k) : Kb S' w w' := ⟨h.os, h.tape, h.output, h.size, fun b hb hn => h.block b hb (fun x => hn (hS b x))⟩
theorem Kb.of_below (h : Below w.heap.size w w') : Kb S w w' := ⟨h.os, h.tape, h.output, h.size, fun b hb _ => h.block b hb⟩
theorem Kb.below {B : Nat} (h : Kb S w w') (hS : ∀ k, S k → B ≤ k) (hB : B ≤ w.heap.size) : Below B w w' :=
  ⟨h.os, h.tape, h.output, h.size, fun b hb => h.block b (by omega) (fun x => by have := hS b x; omega)⟩
theorem Kb.below_ {B : Nat} {v : World} (hb : Below B v w) (h : Kb S w w') (hS : ∀ k, S k → B ≤ k) (hB : B ≤ w.heap.size) : Below B v w' := hb.trans (h.below hS hB)
theorem Kb.set_ (h : Kb S w w') {p : Addr} (hp : S p.block) (u : Value) : Kb S w (w'.setCell p u) :=
  h.trans ⟨rfl, rfl, rfl, by simp [World.setCell], fun b _ hn => Below.heap_setCell _ _ _ _ (fun e => hn (e ▸ hp))⟩
theorem Kb.alloc (h : Kb S w w') (o : Obj) : Kb S w (w'.alloc o) := h.trans ⟨rfl, rfl, rfl, by simp, fun b hb _ => Below.heap_alloc _ _ _ hb⟩
theorem Kb.drew (h : Kb S w w') : Kb S w w'.drew := ⟨h.os, h.tape, h.output, h.size, h.block⟩
theorem Kb.drewN (h : Kb S w w') (n : Nat) : Kb S w (w'.drewN n) := ⟨h.os, h.tape, h.output, h.size, h.block⟩
theorem Kb.cell (h : Kb S w w') {p : Addr} (hp : p.block < w.heap.size) (hn : ¬ S p.block) : w'.cell? p = w.cell? p := World.cell?_of_block (h.block _ hp hn)
end

/-- the reader in block R: its line, its place, its error -/
structure Rd (w : World) (R : Nat) (A : Option Addr) (n c : Nat) (rs : List Nat) (k bad err : Int) : Prop where
  blk : w.heap[R]? = some (.cells #[.slice A n c, .int .i64 k, .int .i64 bad, .int .i64 err] 89 (0, 0))
  len : rs.length = n
  cap : n ≤ c
  line : 0 < n → ∃ g, A = some ⟨g, 0, none⟩ ∧ g ≠ R ∧ ∀ (j r : Nat), rs[j]? = some r → w.cell? ⟨g, j, none⟩ = some (.int .i32 (r : Int))
section
variable {w w' : World} {R n c : Nat} {A : Option Addr} {rs : List Nat} {k bad err : Int}
theorem Rd.lt (h : Rd w R A n c rs k bad err) : R < w.heap.size := lt_of_block h.blk
theorem Rd.c0 (h : Rd w R A n c rs k bad err) : w.cell? ⟨R, 0, none⟩ = some (.slice A n c) := by simp [World.cell?, h.blk]
theorem Rd.c1 (h : Rd w R A n c rs k bad err) : w.cell? ⟨R, 1, none⟩ = some (.int .i64 k) := by simp [World.cell?, h.blk]
theorem Rd.c2 (h : Rd w R A n c rs k bad err) : w.cell? ⟨R, 2, none⟩ = some (.int .i64 bad) := by simp [World.cell?, h.blk]
theorem Rd.c3 (h : Rd w R A n c rs k bad err) : w.cell? ⟨R, 3, none⟩ = some (.int .i64 err) := by simp [World.cell?, h.blk]
theorem Rd.fz (h : Rd w R A n c rs k bad err) (j : Nat) : w.frozen? ⟨R, j, none⟩ = false := by simp [World.frozen?, h.blk]
theorem Rd.kb {S : Nat → Prop} (h : Rd w R A n c rs k bad err) (hk : Kb S w w') (hR : ¬ S R) (hA : ∀ ad, A = some ad → ¬ S ad.block) : Rd w' R A n c rs k bad err :=
  ⟨(hk.block R h.lt hR).trans h.blk, h.len, h.cap, fun h0 => by
    obtain ⟨g, e, hg, hc⟩ := h.line h0
    refine ⟨g, e, hg, fun j r hr => ?_⟩
    have h1 := hc j r hr
    exact (hk.cell (cell_lt h1) (hA ⟨g, 0, none⟩ e)).trans h1⟩
theorem Rd.below (h : Rd w R A n c rs k bad err) (hb : Below w.heap.size w w') : Rd w' R A n c rs k bad err := h.kb (S := fun _ => False) (Kb.of_below hb) id (fun _ _ => id)
theorem Rd.drew (h : Rd w R A n c rs k bad err) : Rd w.drew R A n c rs k bad err := ⟨h.blk, h.len, h.cap, h.line⟩
theorem Rd.drewN (h : Rd w R A n c rs k bad err) (m : Nat) : Rd (w.drewN m) R A n c rs k bad err := ⟨h.blk, h.len, h.cap, h.line⟩
theorem Rd.keepLine (h : Rd w R A n c rs k bad err) {k' bad' err' : Int} (hb : w'.heap[R]? = some (.cells #[.slice A n c, .int .i64 k', .int .i64 bad', .int .i64 err'] 89 (0, 0)))
    (hc : ∀ p : Addr, p.block ≠ R → w'.cell? p = w.cell? p) : Rd w' R A n c rs k' bad' err' :=
  ⟨hb, h.len, h.cap, fun h0 => by
    obtain ⟨g, e, hg, hl⟩ := h.line h0
    exact ⟨g, e, hg, fun j r hr => (hc _ hg).trans (hl j r hr)⟩⟩
theorem Rd.set1 (h : Rd w R A n c rs k bad err) (k' : Int) : Rd (w.setCell ⟨R, 1, none⟩ (.int .i64 k')) R A n c rs k' bad err := by
  refine h.keepLine ?_ (fun p hp => World.cell?_setCell_other w _ p _ (fun e => hp (congrArg Addr.block e).symm))
  simp [World.setCell, Array.getElem?_modify, h.blk]
theorem Rd.set2 (h : Rd w R A n c rs k bad err) (b' : Int) : Rd (w.setCell ⟨R, 2, none⟩ (.int .i64 b')) R A n c rs k b' err := by
  refine h.keepLine ?_ (fun p hp => World.cell?_setCell_other w _ p _ (fun e => hp (congrArg Addr.block e).symm))
  simp [World.setCell, Array.getElem?_modify, h.blk]
theorem Rd.set3 (h : Rd w R A n c rs k bad err) (b' : Int) : Rd (w.setCell ⟨R, 3, none⟩ (.int .i64 b')) R A n c rs k bad b' := by
  refine h.keepLine ?_ (fun p hp => World.cell?_setCell_other w _ p _ (fun e => hp (congrArg Addr.block e).symm))
  simp [World.setCell, Array.getElem?_modify, h.blk]
end
/-- the place that a reader's block tells -/
def placeOf (w : World) (R : Nat) : Nat := match w.cell? ⟨R, 1, none⟩ with | some (.int _ k) => k.toNat | _ => 0
theorem placeOf_eq {w : World} {R k : Nat} (h : w.cell? ⟨R, 1, none⟩ = some (.int .i64 (k : Int))) : placeOf w R = k := by simp [placeOf, h]
/-- the text of some runes -/
def strR (rs : List Nat) : ByteArray := ⟨(rs.flatMap enc).toArray⟩
theorem tn (a : Nat) (x : Int) (h : x = (a : Int)) : x.toNat.toUInt8 = UInt8.ofNat a := by subst h; simp
set_option maxRecDepth 100000 in
theorem encode_enc (r : Nat) : (Utf8.encode (r : Int)).data.toList = enc r := by
  unfold Utf8.encode enc Lib.encodeRune
  have hv : Utf8.valid (r : Int) = true ↔ (r < 55296 ∨ (57344 ≤ r ∧ r ≤ 1114111)) := by unfold Utf8.valid; simp; omega
  by_cases h : Utf8.valid (r : Int) = true
  · rw [if_pos h]
    have h' := hv.1 h
    simp only [Int.toNat_natCast]
    by_cases h1 : r < 128
    · rw [if_pos h1, Lib.encodeRuneZ, if_pos (by omega)]
      simp
    rw [if_neg h1]
    by_cases h2 : r < 2048
    · rw [if_pos h2, Lib.encodeRuneZ, if_neg (by omega), if_pos (by omega)]
      simp only [List.map_cons, List.map_nil]
      rw [tn (192 + r / 64) _ (by omega), tn (128 + r % 64) _ (by omega)]
    rw [if_neg h2]
    by_cases h3 : r < 65536
    · rw [if_pos h3, Lib.encodeRuneZ, if_neg (by omega), if_neg (by omega), if_pos (by omega)]
      simp only [List.map_cons, List.map_nil]
      rw [tn (224 + r / 4096) _ (by omega), tn (128 + r / 64 % 64) _ (by omega), tn (128 + r % 64) _ (by omega)]
    rw [if_neg h3, Lib.encodeRuneZ, if_neg (by omega), if_neg (by omega), if_neg (by omega), if_pos (by omega)]
    simp only [List.map_cons, List.map_nil]
    rw [tn (240 + r / 262144) _ (by omega), tn (128 + r / 4096 % 64) _ (by omega), tn (128 + r / 64 % 64) _ (by omega), tn (128 + r % 64) _ (by omega)]
  · have h' := (not_congr hv).1 h
    have e : Lib.encodeRuneZ (r : Int) = [239, 191, 189] := by
      rw [Lib.encodeRuneZ, if_neg (by omega), if_neg (by omega), if_neg (by omega), if_neg (by omega)]
    rw [if_neg h, e]
    decide
theorem runesBytes_eq (rs : List Nat) : runesBytes (rs.map (fun r : Nat => (r : Int))) = strR rs := by
  have key : ∀ (rs : List Nat) (b : ByteArray), ((rs.map (fun r : Nat => (r : Int))).foldl (fun r n => r ++ Utf8.encode n) b) = ⟨(b.data.toList ++ rs.flatMap enc).toArray⟩ := by
    intro rs
    induction rs with
    | nil => intro b; simp
    | cons r t ih =>
      intro b
      rw [List.map_cons, List.foldl_cons, ih]
      have e : (b ++ Utf8.encode (r : Int)).data.toList = b.data.toList ++ enc r := by
        rw [ByteArray.data_append, Array.toList_append, encode_enc]
      rw [e]; simp [List.flatMap_cons]
  have h := key rs ByteArray.empty
  unfold runesBytes strR
  rw [h]; simp
set_option maxRecDepth 1000000 in
/-- 'line[i:j]', and 'string(line[i:j])' -/
theorem str_of_runes {w : World} {R n c : Nat} {A : Option Addr} {rs : List Nat} {k bad err : Int} (h : Rd w R A n c rs k bad err) {i j : Nat} (hij : i ≤ j) (hj : j ≤ n) :
    ∃ A' c', (∀ v : World, (Instr.slice 87 (.slice A n c) (some (.int .i64 (i : Int))) (some (.int .i64 (j : Int))) none).run Tryd.prog v = .ok (.slice A' (j - i) c') v) ∧
      (∀ v : World, (Instr.sliceAt 87 (.slice A n c) (some (.int .i64 (i : Int))) (some (.int .i64 (j : Int))) none).run Tryd.prog v = .ok (.slice A' (j - i) c') v) ∧
      ∀ v : World, (∀ p : Addr, p.block ≠ R → p.block < w.heap.size → v.cell? p = w.cell? p) → (convert 87 9 (.slice A' (j - i) c')).run Tryd.prog v = .ok (.string (strR ((rs.drop i).take (j - i)))) v := by
  have hcap := h.cap
  have hlen := h.len
  have h1 : ∀ v : World, (Instr.slice 87 (.slice A n c) (some (.int .i64 (i : Int))) (some (.int .i64 (j : Int))) none).run Tryd.prog v = .ok (.slice (if c = i then A else A.map (·.add (i * 1))) (j - i) (c - i)) v := by
    intro v
    rw [run_slice_lh v 87 A n c Tryd.underlying87 .i64 .i64 (i : Int) (j : Int) (by omega) (by omega) (by omega)]
    have e : (sizeOf (Tryd.prog.elem 87)).run Tryd.prog v = .ok 1 v := by
      have ee : Tryd.prog.elem 87 = 21 := by kernel_rfl
      rw [ee]; exact Tryd.sizeOf21 v
    rw [e]
    simp [Result.andThen, sliced]
  refine ⟨_, _, h1, fun v => ?_, fun v hv => ?_⟩
  · rw [run_sliceAt_slice v _ _ _ _ _ Tryd.underlying87]; exact h1 v
  · rcases Nat.eq_or_lt_of_le hij with e | hlt
    · subst e
      simp only [Nat.sub_self, List.take_zero]
      generalize (if c = i then A else A.map (·.add (i * 1))) = A2
      rcases A2 with _ | a
      · exact run_convert_runes_nil v _ _ 21 _ _ Tryd.underlying87 Tryd.underlying21 Tryd.underlying9
      · exact run_convert_runes v _ _ 21 a 0 _ [] (by simp) Tryd.underlying87 Tryd.underlying21 Tryd.underlying9 (by simp)
    · obtain ⟨g, rfl, hg, hl⟩ := h.line (by omega)
      rw [if_neg (by omega)]
      have e0 : (Option.map (·.add (i * 1)) (some (⟨g, 0, none⟩ : Addr))) = some ⟨g, i, none⟩ := by
        simp only [Option.map_some, Nat.mul_one, Option.some.injEq]; unfold Addr.add; split <;> simp_all
      rw [e0]
      have h2 := run_convert_runes (P := Tryd.prog) v 87 9 21 ⟨g, i, none⟩ (j - i) (c - i) ((rs.drop i).map (fun r : Nat => (r : Int))) (by simp; omega) Tryd.underlying87 Tryd.underlying21 Tryd.underlying9 (by
        intro q hq
        simp at hq
        have hq2 : i + q < rs.length := by omega
        have e2 : (Addr.add ⟨g, i, none⟩ q) = ⟨g, i + q, none⟩ := by unfold Addr.add; split <;> simp_all
        rw [e2, hv ⟨g, i + q, none⟩ hg (cell_lt (hl (i + q) _ (List.getElem?_eq_getElem hq2))), hl (i + q) _ (List.getElem?_eq_getElem hq2)]
        simp [List.getD, List.getElem?_drop, List.getElem?_eq_getElem hq2])
      rw [h2, ← List.map_take, runesBytes_eq]
end Go.Proofs.YtenonfoocjcdmaaDoor
