/- Layer 8: names; a command as a value. -/
import Derived.Test.YtfnmmbfngniheaaGreatDoorCdW2
import Derived.Test.YtfnmmbfngniheaaGreatDoorShW5
import Derived.Test.YtfnmmbfngniheaaGreatDoorK3
namespace Go.Proofs.YtfnmmbfngniheaaGreatDoor
set_option linter.unusedVariables false
open Go.RowKit
def nameB (s : ByteArray) : Bool := (checkE (bl s) == 0) && inB (checkN (bl s)) 1 16
set_option maxRecDepth 100000 in
theorem name_any (s : ByteArray) (w : World) (hs : s.size ≤ 1000000) : Calls Tryz.prog 179 #[.string s] w fun e w' => e = .returned (.bool (nameB s)) ∧ Below w.heap.size w w' := by
  have hc := Lib.hid (check_any s w (by unfold maxLen; omega))
  have hw := Lib.hid (fun v => within8_any (checkN (bl s)) 1 16 v)
  have HB : Hid (nameB s = ((checkE (bl s) == 0) && inB (checkN (bl s)) 1 16)) := rfl
  obtain ⟨er, he⟩ : ∃ n, checkE (bl s) = n := ⟨_, rfl⟩
  obtain ⟨n, hn⟩ : ∃ n : Int, checkN (bl s) = n := ⟨_, rfl⟩
  rw [he] at hc HB
  rw [hn] at hc hw HB
  obtain ⟨q, hq⟩ : ∃ q, inB n 1 16 = q := ⟨_, rfl⟩
  rw [hq] at hw HB
  clear hq he hn
  rw [HB.out]
  by_cases h0 : er = 0
  · subst h0
    go_enter Tryz.func179, Tryz.ntmps179
    go_wp2_with (fail)
    refine hc.out.mono ?_; rintro e w1 ⟨rfl, hb1⟩
    go_wp2_with (fail)
    refine (hw.out _).mono ?_; rintro e w2 ⟨rfl, rfl⟩
    go_wp2
    go_ret
    exact ⟨by cases q <;> rfl, hb1⟩
  · have t0 : (er == 0) = false := by simpa using h0
    rw [t0]
    clear h0
    go_enter Tryz.func179, Tryz.ntmps179
    go_wp2_with (fail)
    refine hc.out.mono ?_; rintro e w1 ⟨rfl, hb1⟩
    go_wp2
    go_ret
    exact ⟨rfl, hb1⟩
/-- a command -/
structure Cm where
  kind : Int
  job : Int
  name : ByteArray
  user : ByteArray
  account : ByteArray
  shape : Sh
  prio : Int
  hasPrio : Bool
  time : Int
  hasTime : Bool
  after : List Pr
  node : Int
  nodes : Int
  frm : Int
def cmV (x : Cm) (A : Option Addr) (c : Nat) (A2 : Option Addr) (c2 : Nat) : Value :=
  .agg #[.int .i64 x.kind, .int .i64 x.job, .string x.name, .string x.user, .string x.account, .int .i64 x.shape.kind, .slice A x.shape.alts.length c, .int .i64 x.shape.mn, .int .i64 x.shape.mx, .int .i64 x.shape.wall,
    .int .i64 x.prio, .bool x.hasPrio, .int .i64 x.time, .bool x.hasTime, .slice A2 x.after.length c2, .int .i64 x.node, .int .i64 x.nodes, .int .i64 x.frm]
/-- a command's lists lie in a world -/
def CmAt (w : World) (B : Nat) (x : Cm) (A : Option Addr) (c : Nat) (A2 : Option Addr) (c2 : Nat) : Prop :=
  Reads w B 2 A x.shape.alts.length (recs prC x.shape.alts) ∧ Reads w B 2 A2 x.after.length (recs prC x.after) ∧ x.shape.alts.length ≤ 100000 ∧ x.after.length ≤ 100000 ∧ x.shape.alts.length ≤ c ∧ x.after.length ≤ c2
theorem CmAt.below {w w' : World} {B : Nat} {x : Cm} {A A2 : Option Addr} {c c2 : Nat} (h : CmAt w B x A c A2 c2) (hb : Below B w w') : CmAt w' B x A c A2 c2 :=
  ⟨h.1.below hb, h.2.1.below hb, h.2.2⟩
end Go.Proofs.YtfnmmbfngniheaaGreatDoor
