/- Contracts of layer 6: units, Show. Contracts of layer 6: Parse. Contracts of layer 6: Normal, awake; the document's Show. The document's Show of layer 6, walked. -/
import Derived.Test.YtmkmmggimokagaaGreatDoorK2
import Derived.Test.YtmkmmggimokagaaGreatDoorK1
import Derived.Test.YtmkmmggimokagaaGreatDoorK3
import Derived.Deep.DeepCutAuto
import Derived.Deep.CutBlock
import Derived.Deep.Cut
import Derived.Deep.LoopGhost
import Derived.WalkMore
import Derived.Lib.AtoiErrMem
import Derived.Deep.RegionWith
import Derived.LoopTactic
namespace Go.Proofs.YtmkmmggimokagaaGreatDoor
set_option linter.unusedVariables false
open Go.RowKit
def unitsV : Value := .agg #[.int .u8 100, .int .i64 86400, .int .u8 104, .int .i64 3600, .int .u8 109, .int .i64 60, .int .u8 115, .int .i64 1]
theorem bc_app (a b : List UInt8) : Lib.byteCells (a ++ b) = Lib.byteCells a ++ Lib.byteCells b := by simp [Lib.byteCells]
theorem sc_bc (l : List UInt8) : Lib.strCells ⟨l.toArray⟩ = Lib.byteCells l := by simp [Lib.strCells, Lib.byteCells]
theorem bld_below {T e : TypeId} {B b : Nat} {bs : List Value} {w w' : World} (h : Lib.IsBuilderF T e B b bs w) (hb : Below w.heap.size w w') : Lib.IsBuilderF T e B b bs w' := by
  have key : ∀ {p : Value}, Lib.BuilderAtF T e B b p bs w → Lib.BuilderAtF T e B b p bs w' := by
    intro p hp
    have hlt := hp.lt
    obtain ⟨h1, v, h2, h3, h4⟩ := hp
    refine ⟨h1, v, (hb.block b hlt).trans h2, ⟨h3.1, ?_⟩, h4⟩
    rcases h3.2 with h5 | ⟨g, cap, cur, fz, hv, hbg, hg, rest⟩
    · exact .inl h5
    · have hgl : g < w.heap.size := by
        rcases Nat.lt_or_ge g w.heap.size with h' | h'
        · exact h'
        · rw [Array.getElem?_eq_none h'] at hg; cases hg
      exact .inr ⟨g, cap, cur, fz, hv, hbg, (hb.block g hgl).trans hg, rest⟩
  exact h.elim (fun x => .inl (key x)) (fun x => .inr (key x))
theorem sum_le {l : List Nat} {B : Nat} (h : ∀ p ∈ l, p ≤ B) : l.sum ≤ B * l.length := by
  induction l with
  | nil => simp
  | cons a t ih =>
    have h1 := h a (by simp)
    have h2 := ih (fun p hp => h p (by simp [hp]))
    simp only [List.sum_cons, List.length_cons, Nat.mul_succ]; omega
theorem sum_take_le (l : List Nat) (k : Nat) : (l.take k).sum ≤ l.sum := by
  conv => rhs; rw [← List.take_append_drop k l, List.sum_append]
  omega
theorem head_at {t : ByteArray} (h : 0 < t.size) : t.data.toList.head? = some t[0] := by
  rw [List.head?_eq_getElem?, List.getElem?_eq_getElem (by simpa using h)]; rfl
theorem atoi_pref {t : ByteArray} {d : Nat} (hd : dgs t.data.toList = d) (q0 : d ≠ 0) : Lib.atoi (t.extract 0 d).data.toList = some ((valD (t.data.toList.take d) : Nat) : Int) := by
  have e : (t.extract 0 d).data.toList = t.data.toList.take d := by simp [ByteArray.data_extract]
  rw [e]
  have h1 : t.data.toList.take d = t.data.toList.takeWhile isD := by rw [← hd]; exact dgs_take _
  refine atoi_all ?_ ?_
  · intro b hb; rw [h1] at hb; exact (List.all_eq_true.1 (List.all_takeWhile)) b hb
  · intro hn
    have := congrArg List.length hn
    rw [h1] at this
    have h2 : (t.data.toList.takeWhile isD).length = d := hd
    rw [h2] at this
    exact q0 (by simpa using this)
theorem findU_skip {k : Nat} {b : UInt8} (hk : k < 4) (h : ¬ sg k = b) : findU 4 k b = findU 4 (k + 1) b := by
  have h' : (sg k == b) = false := by simpa using h
  rcases k with _ | _ | _ | _ | k
  · simp [findU, h']
  · simp [findU, h']
  · simp [findU, h']
  · simp [findU, h']
  · omega
theorem get_at {t : ByteArray} {d : Nat} (h : d < t.size) : t.data.toList.getD d 0 = t[d] := by
  rw [List.getD_eq_getElem?_getD, List.getElem?_eq_getElem (by simpa using h)]; rfl
theorem Reads.made_one {w : World} {x : Value} {t : TypeId} {b : Nat} (h : b = w.heap.size) : Reads (w.alloc (.cells #[x] t)) (b + 1) 1 (some ⟨b, 0, none⟩) 1 [x] := by
  subst h; exact Reads.made w [x] t
theorem parse_step {nx u d V : Nat} {s : List UInt8} {t : ByteArray} {parts : List Nat} (hn : nx ≤ 4) (hne : t.data.toList ≠ []) (hb : badP t.data.toList = false) (hd : dgs t.data.toList = d) (hV : valD (t.data.toList.take d) = V)
    (hf : findU 4 nx (t.data.toList.getD d 0) = some u) (hsp : parseQ 0 s = (parseQ nx t.data.toList).map (parts.sum + ·)) :
    parseQ 0 s = (parseQ (u + 1) (t.extract (d + 1) t.size).data.toList).map ((parts ++ [V * tk u]).sum + ·) := by
  have e : (t.extract (d + 1) t.size).data.toList = t.data.toList.drop (d + 1) := by
    rw [ByteArray.data_extract, Array.toList_extract, List.extract_eq_take_drop, List.take_of_length_le (by simp)]
  rw [hsp, e, parseQ_yes hn hne hb (by rw [hd]; exact hf), hd, hV, Option.map_map]
  congr 1
  funext x
  simp [List.sum_append]; omega
theorem ints_snoc {parts : List Nat} {V k : Nat} : ints ((parts ++ [V * k]).map (fun (x : Nat) => (x : Int))) = ints (parts.map (fun (x : Nat) => (x : Int))) ++ ints [(V : Int) * (k : Int)] := by
  simp [ints]
def strLen : Value → Nat | .string s => s.size | _ => 0
theorem hrs_cases (l : List UInt8) : (∃ n : Nat, n ≤ 1000000 ∧ hrsN l = n ∧ hrsE l = 0 ∧ hrsV l = some n) ∨ (hrsN l = 0 ∧ hrsE l = 60) ∨ (hrsN l = 0 ∧ hrsE l = 153) := by
  unfold hrsN hrsE
  cases h : hrsV l with
  | none => exact .inr (.inl ⟨rfl, rfl⟩)
  | some t =>
    by_cases ht : t ≤ 1000000
    · exact .inl ⟨t, ht, by simp [ht], by simp [ht], rfl⟩
    · exact .inr (.inr ⟨by simp [ht], by simp [ht]⟩)
theorem show_5400 : showL 5400 = [49, 104, 51, 48, 109] := by
  have h1 : ct 0 5400 = 0 := by decide
  have h2 : ct 1 5400 = 1 := by decide
  have h3 : ct 2 5400 = 30 := by decide
  have h4 : ct 3 5400 = 0 := by decide
  simp only [showL, pts, pt, h1, h2, h3, h4]
  simp [dd_lt, dd_ge, sg]
theorem conv_one (w : World) (x : Int) (n : UInt8) (b cap : Nat) (hb : b = w.heap.size) (h : x = (n.toNat : Int)) : (convert 165 9 (.slice (some ⟨b, 0, none⟩) 1 cap)).run Tryz.prog (w.alloc (.cells #[.int .u8 x] 5)) = .ok (.string ⟨#[n]⟩) (w.alloc (.cells #[.int .u8 x] 5)) := by
  subst hb h
  exact str_of_reads (l := [n]) (Reads.made_one rfl)
theorem conv_cell {w : World} {x : Int} {n : UInt8} {b cap : Nat} (h : x = (n.toNat : Int)) (hc : w.cell? ⟨b, 0, none⟩ = some (.int .u8 x)) : (convert 165 9 (.slice (some ⟨b, 0, none⟩) 1 cap)).run Tryz.prog w = .ok (.string ⟨#[n]⟩) w := by
  subst h
  refine str_of_reads (B := b + 1) (l := [n]) ⟨rfl, fun _ => ⟨_, rfl, by simp, fun j u hu => ?_⟩⟩
  rcases j with _ | j
  · obtain rfl : Value.int .u8 n.toNat = u := by simpa [Lib.byteCells] using hu
    exact hc
  · simp [Lib.byteCells] at hu
theorem byte_of {n : Nat} (h : n < 256) : ∃ b : UInt8, Hid (UInt8.ofNat n = b) ∧ b.toNat = n := ⟨_, rfl, by rw [UInt8.toNat_ofNat', Nat.mod_eq_of_lt h]⟩
theorem ba_of (l : List UInt8) : ∃ b : ByteArray, Hid (b.data.toList = l) ∧ Hid (⟨l.toArray⟩ = b) ∧ b.size = l.length := ⟨⟨l.toArray⟩, (by show _ = _; simp), rfl, by simp [ByteArray.size]⟩
theorem ba_ext6 {a b : ByteArray} (h : a.data.toList = b.data.toList) : a = b := by
  cases a; cases b; simp only [ByteArray.mk.injEq]; exact Array.toList_inj.1 h
theorem out_step {O D T : ByteArray} {k N c : Nat} (h1 : O.data.toList = pts k N) (h2 : D.data.toList = Lib.decDigits c) (h3 : T.data.toList = [sg k]) (hc : ct k N = c) (hp : 0 < c) : (O ++ D ++ T).data.toList = pts (k + 1) N := by
  have e : (O ++ D ++ T).data.toList = O.data.toList ++ D.data.toList ++ T.data.toList := by simp
  rw [e, h1, h2, h3]
  simp only [pts, pt]
  rw [hc, if_pos hp]; simp
theorem div_of {R t c r : Nat} (ht : 0 < t) (h : c * t + r = R) (hr : r < t) : R / t = c ∧ R % t = r := by
  refine (Nat.div_mod_unique ht).2 ⟨?_, hr⟩
  rw [← h, Nat.mul_comm]; omega
theorem step_of {R t c r : Nat} (h : c * t + r = R) (hr : t ≤ r) : (c + 1) * t + (r - t) = R := by
  rw [Nat.succ_mul]; omega
theorem cnt_le {R t c r : Nat} (ht : 0 < t) (h : c * t + r = R) : c ≤ R := by
  have := Nat.le_mul_of_pos_right c ht; omega
theorem out_same {k N : Nat} (hc : ct k N = 0) : pts (k + 1) N = pts k N := by
  simp only [pts, pt]; rw [hc]; simp
def Sh06 (w : World) (N : Nat) (a b c : Value) (wr : World) : Prop := ∃ (k R : Nat) (O : ByteArray), k ≤ 4 ∧ a = .int .i64 R ∧ R ≤ 1000000 ∧ b = .string O ∧ c = .int .i64 k ∧ Hid (rm k N = R) ∧ Hid (O.data.toList = pts k N) ∧ O.size ≤ 3 * k ∧ Below w.heap.size w wr
end Go.Proofs.YtmkmmggimokagaaGreatDoor
