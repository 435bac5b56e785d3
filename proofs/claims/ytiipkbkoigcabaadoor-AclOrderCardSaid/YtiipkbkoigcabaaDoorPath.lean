/- Package path: names, patterns. No condition. -/
import Derived.Test.YtiipkbkoigcabaaDoorStr
import Derived.Test.YtiipkbkoigcabaaDoorShelfA
import Derived.Test.YtiipkbkoigcabaaDoorShw
namespace Go.Proofs.YtiipkbkoigcabaaDoor
open Go Go.AW Go.RowKit Go.Proofs Go.Lib
set_option linter.unusedVariables false
set_option linter.unusedSimpArgs false

/-- strings.TrimLeft: function 267. -/
def c_trim : ACode := .seq (.ops [⟨some 4, .mv (.c (.str [])), none⟩]) (.seq (.seq (.ops [⟨some 7, .mv (.t 0), none⟩, ⟨some 8, .cmp .eql (.t 7) (.c (.str [])), none⟩, ⟨some 9, .mv (.t 8), none⟩, ⟨some 10, .mv (.t 1), some (9, false)⟩, ⟨some 11, .cmp .eql (.t 10) (.c (.str [])), some (9, false)⟩, ⟨some 12, .pick (.t 9) (.c (.bool true)) (.t 11), none⟩]) (.cond (.t 12) (.seq (.ops [⟨some 13, .mv (.t 0), none⟩, ⟨some 4, .mv (.t 13), none⟩]) .ret) .skip)) (.seq (.seq (.ops [⟨some 14, .mv (.t 1), none⟩, ⟨some 15, .lenS (.t 14), none⟩, ⟨some 16, .cmp .eql (.t 15) (.c (.int .i64 1)), none⟩, ⟨some 17, .mv (.t 16), none⟩, ⟨some 18, .mv (.t 1), some (17, true)⟩, ⟨some 19, .idxS (.t 18) (.c (.int .i64 0)), some (17, true)⟩, ⟨some 20, .cmp .lss (.t 19) (.c (.int .u8 128)), some (17, true)⟩, ⟨some 21, .pick (.t 17) (.t 20) (.c (.bool false)), none⟩]) (.cond (.t 21) (.seq (.ops [⟨some 22, .mv (.t 0), none⟩, ⟨some 23, .mv (.t 1), none⟩, ⟨some 24, .idxS (.t 23) (.c (.int .i64 0)), none⟩, ⟨some 25, .call (.f 279) [.t 22, .t 24], none⟩, ⟨some 4, .mv (.t 25), none⟩]) .ret) .skip)) (.seq (.seq (.ops [⟨some 27, .mv (.t 1), none⟩, ⟨some 28, .call (.f 280) [.t 27], none⟩, ⟨some 26, .mv (.t 28), none⟩, ⟨some 29, .ext (.t 26) 0, none⟩, ⟨some 30, .ext (.t 26) 1, none⟩, ⟨some 5, .alloc [.bool false, .bool false, .bool false, .bool false, .bool false, .bool false, .bool false, .bool false, .bool false, .bool false, .bool false, .bool false, .bool false, .bool false, .bool false, .bool false, .bool false, .bool false, .bool false, .bool false, .bool false, .bool false, .bool false, .bool false, .bool false, .bool false, .bool false, .bool false, .bool false, .bool false, .bool false, .bool false, .bool false, .bool false, .bool false, .bool false, .bool false, .bool false, .bool false, .bool false, .bool false, .bool false, .bool false, .bool false, .bool false, .bool false, .bool false, .bool false, .bool false, .bool false, .bool false, .bool false, .bool false, .bool false, .bool false, .bool false, .bool false, .bool false, .bool false, .bool false, .bool false, .bool false, .bool false, .bool false, .bool false, .bool false, .bool false, .bool false, .bool false, .bool false, .bool false, .bool false, .bool false, .bool false, .bool false, .bool false, .bool false, .bool false, .bool false, .bool false, .bool false, .bool false, .bool false, .bool false, .bool false, .bool false, .bool false, .bool false, .bool false, .bool false, .bool false, .bool false, .bool false, .bool false, .bool false, .bool false, .bool false, .bool false, .bool false, .bool false, .bool false, .bool false, .bool false, .bool false, .bool false, .bool false, .bool false, .bool false, .bool false, .bool false, .bool false, .bool false, .bool false, .bool false, .bool false, .bool false, .bool false, .bool false, .bool false, .bool false, .bool false, .bool false, .bool false, .bool false, .bool false, .bool false, .bool false, .bool false, .bool false, .bool false, .bool false, .bool false, .bool false, .bool false, .bool false, .bool false, .bool false, .bool false, .bool false, .bool false, .bool false, .bool false, .bool false, .bool false, .bool false, .bool false, .bool false, .bool false, .bool false, .bool false, .bool false, .bool false, .bool false, .bool false, .bool false, .bool false, .bool false, .bool false, .bool false, .bool false, .bool false, .bool false, .bool false, .bool false, .bool false, .bool false, .bool false, .bool false, .bool false, .bool false, .bool false, .bool false, .bool false, .bool false, .bool false, .bool false, .bool false, .bool false, .bool false, .bool false, .bool false, .bool false, .bool false, .bool false, .bool false, .bool false, .bool false, .bool false, .bool false, .bool false, .bool false, .bool false, .bool false, .bool false, .bool false, .bool false, .bool false, .bool false, .bool false, .bool false, .bool false, .bool false, .bool false, .bool false, .bool false, .bool false, .bool false, .bool false, .bool false, .bool false, .bool false, .bool false, .bool false, .bool false, .bool false, .bool false, .bool false, .bool false, .bool false, .bool false, .bool false, .bool false, .bool false, .bool false, .bool false, .bool false, .bool false, .bool false, .bool false, .bool false, .bool false, .bool false, .bool false, .bool false, .bool false, .bool false, .bool false, .bool false, .bool false, .bool false, .bool false, .bool false, .bool false, .bool false, .bool false, .bool false, .bool false, .bool false, .bool false, .bool false, .bool false, .bool false, .bool false, .bool false, .bool false, .bool false], none⟩, ⟨none, .store 256 (.t 5) (.t 29), none⟩, ⟨some 6, .mv (.t 30), none⟩]) (.seq (.ops [⟨some 31, .mv (.t 6), none⟩]) (.cond (.t 31) (.seq (.ops [⟨some 32, .mv (.t 0), none⟩, ⟨some 33, .call (.f 281) [.t 32, .t 5], none⟩, ⟨some 4, .mv (.t 33), none⟩]) .ret) .skip))) (.seq (.ops [⟨some 34, .mv (.t 0), none⟩, ⟨some 35, .mv (.t 1), none⟩, ⟨some 36, .call (.f 282) [.t 34, .t 35], none⟩, ⟨some 4, .mv (.t 36), none⟩]) .ret))))
theorem is_trim (w0 : World) : fnComp (cx w0).P 267 = some (erase c_trim, [.t 4], 37) := by kernel_rfl
/-- strings.Split: function 245. -/
def c_split : ACode := .seq (.ops [⟨some 4, .mv (.c (.sl .nil [])), none⟩]) (.seq (.ops [⟨some 5, .mv (.t 0), none⟩, ⟨some 6, .mv (.t 1), none⟩, ⟨some 7, .call (.f 265) [.t 5, .t 6, .c (.int .i64 0), .c (.int .i64 (-1))], none⟩, ⟨some 4, .mv (.t 7), none⟩]) .ret)
theorem is_split (w0 : World) : fnComp (cx w0).P 245 = some (erase c_split, [.t 4], 8) := by kernel_rfl
/-- bursary/path.name: function 247. -/
def c_name : ACode := .seq (.ops [⟨some 2, .mv (.c (.bool false)), none⟩]) (.seq (.ops [⟨some 3, .mv (.t 0), none⟩, ⟨some 4, .cmp .neq (.t 3) (.c (.str [])), none⟩, ⟨some 5, .mv (.t 4), none⟩, ⟨some 6, .mv (.t 0), some (5, true)⟩, ⟨some 7, .lenS (.t 6), some (5, true)⟩, ⟨some 8, .cmp .leq (.t 7) (.c (.int .i64 16)), some (5, true)⟩, ⟨some 9, .pick (.t 5) (.t 8) (.c (.bool false)), none⟩, ⟨some 10, .mv (.t 9), none⟩, ⟨some 11, .mv (.t 0), some (10, true)⟩, ⟨some 12, .call (.f 267) [.t 11, .c (.str [97, 98, 99, 100, 101, 102, 103, 104, 105, 106, 107, 108, 109, 110, 111, 112, 113, 114, 115, 116, 117, 118, 119, 120, 121, 122, 48, 49, 50, 51, 52, 53, 54, 55, 56, 57, 95, 45])], some (10, true)⟩, ⟨some 13, .cmp .eql (.t 12) (.c (.str [])), some (10, true)⟩, ⟨some 14, .pick (.t 10) (.t 13) (.c (.bool false)), none⟩, ⟨some 2, .mv (.t 14), none⟩]) .ret)
theorem is_name (w0 : World) : fnComp (cx w0).P 247 = some (erase c_name, [.t 2], 15) := by kernel_rfl
/-- bursary/path.of: function 246. -/
def c_of : ACode := .seq (.ops [⟨some 4, .alloc [.int .i64 0, .str []], none⟩, ⟨some 5, .mv (.c (.bool false)), none⟩]) (.seq (.seq (.ops [⟨some 8, .mv (.t 0), none⟩, ⟨some 9, .cmp .eql (.t 8) (.c (.str [43])), none⟩]) (.cond (.t 9) (.seq (.ops [⟨some 10, .build [.int .i64 0, .str []] [(0, (1, .c (.int .i64 2))), (1, (1, .c (.str [])))], none⟩, ⟨none, .store 2 (.t 4) (.t 10), none⟩, ⟨some 5, .mv (.c (.bool true)), none⟩]) .ret) .skip)) (.seq (.seq (.ops [⟨some 12, .mv (.t 0), none⟩, ⟨some 13, .call (.f 266) [.t 12, .c (.str [42])], none⟩, ⟨some 11, .mv (.t 13), none⟩, ⟨some 14, .ext (.t 11) 0, none⟩, ⟨some 15, .ext (.t 11) 1, none⟩, ⟨some 6, .mv (.t 14), none⟩, ⟨some 7, .mv (.t 15), none⟩]) (.seq (.ops [⟨some 16, .mv (.t 7), none⟩]) (.cond (.t 16) (.seq (.ops [⟨some 17, .mv (.t 6), none⟩, ⟨some 18, .build [.int .i64 0, .str []] [(0, (1, .c (.int .i64 1))), (1, (1, .t 17))], none⟩, ⟨some 19, .mv (.t 1), none⟩, ⟨some 20, .mv (.t 19), none⟩, ⟨some 21, .mv (.t 6), some (20, true)⟩, ⟨some 22, .cmp .eql (.t 21) (.c (.str [])), some (20, true)⟩, ⟨some 23, .mv (.t 22), some (20, true)⟩, ⟨some 24, .mv (.t 6), some (23, false)⟩, ⟨some 25, .call (.f 247) [.t 24], some (23, false)⟩, ⟨some 26, .pick (.t 23) (.c (.bool true)) (.t 25), some (20, true)⟩, ⟨some 27, .pick (.t 20) (.t 26) (.c (.bool false)), none⟩, ⟨none, .store 2 (.t 4) (.t 18), none⟩, ⟨some 5, .mv (.t 27), none⟩]) .ret) .skip))) (.seq (.ops [⟨some 28, .mv (.t 0), none⟩, ⟨some 29, .build [.int .i64 0, .str []] [(0, (1, .c (.int .i64 3))), (1, (1, .t 28))], none⟩, ⟨some 30, .mv (.t 0), none⟩, ⟨some 31, .call (.f 247) [.t 30], none⟩, ⟨none, .store 2 (.t 4) (.t 29), none⟩, ⟨some 5, .mv (.t 31), none⟩]) .ret)))
theorem is_of (w0 : World) : fnComp (cx w0).P 246 = some (erase c_of, [.cell 4 true 2, .t 5], 32) := by kernel_rfl
/-- bursary/path.parts: function 211. -/
def c_parts_L0 : ACode := .seq (.ops [⟨some 27, .cmp .lss (.t 26) (.t 25), none⟩]) (.seq (.cond (.t 27) .skip (.exit 0)) (.seq (.block 1 (.seq (.ops [⟨some 28, .mv (.t 26), none⟩, ⟨some 29, .iaddr 1 (.t 24) (.t 26), none⟩, ⟨some 30, .load false 1 (.t 29), none⟩, ⟨some 6, .mv (.t 28), none⟩, ⟨some 7, .mv (.t 30), none⟩]) (.seq (.ops [⟨some 32, .mv (.t 7), none⟩, ⟨some 33, .mv (.t 6), none⟩, ⟨some 34, .mv (.t 4), none⟩, ⟨some 35, .len (.t 34), none⟩, ⟨some 36, .arith .sub (.t 35) (.c (.int .i64 1)), none⟩, ⟨some 37, .cmp .eql (.t 33) (.t 36), none⟩, ⟨some 38, .call (.f 246) [.t 32, .t 37], none⟩, ⟨some 31, .mv (.t 38), none⟩, ⟨some 39, .ext (.t 31) 0, none⟩, ⟨some 40, .ext (.t 31) 1, none⟩, ⟨some 8, .alloc [.int .i64 0, .str []], none⟩, ⟨none, .store 2 (.t 8) (.t 39), none⟩, ⟨some 9, .mv (.t 40), none⟩]) (.seq (.seq (.ops [⟨some 41, .mv (.t 9), none⟩, ⟨some 42, .un .not (.t 41), none⟩]) (.cond (.t 42) (.seq (.ops [⟨some 43, .mkif 167 (.c (.int .i64 4)), none⟩, ⟨some 2, .mv (.c (.sl .nil [])), none⟩, ⟨some 3, .mv (.t 43), none⟩]) .ret) .skip)) (.ops [⟨some 44, .mv (.t 5), none⟩, ⟨some 45, .load true 2 (.t 8), none⟩, ⟨some 46, .mk (.agg [.int .i64 0, .str []]) 1 [(0, .t 45)], none⟩, ⟨some 47, .app 2 24 (.t 44) (.t 46), none⟩, ⟨some 5, .mv (.t 47), none⟩]))))) (.ops [⟨some 48, .arith .add (.t 26) (.c (.int .i64 1)), none⟩, ⟨some 26, .mv (.t 48), none⟩])))
def c_parts_S0 : ACode := .seq (.ops [⟨some 49, .mv (.t 5), none⟩, ⟨some 2, .mv (.t 49), none⟩, ⟨some 3, .mv (.c .niliface), none⟩]) .ret
def c_parts : ACode := .seq (.ops [⟨some 2, .mv (.c (.sl .nil [])), none⟩, ⟨some 3, .mv (.c .niliface), none⟩]) (.seq (.ops [⟨some 10, .mv (.t 0), none⟩, ⟨some 11, .call (.f 245) [.t 10, .c (.str [47])], none⟩, ⟨some 4, .mv (.t 11), none⟩]) (.seq (.seq (.ops [⟨some 12, .mv (.t 4), none⟩, ⟨some 13, .len (.t 12), none⟩, ⟨some 14, .cmp .gtr (.t 13) (.c (.int .i64 6)), none⟩, ⟨some 15, .mv (.t 14), none⟩, ⟨some 16, .mv (.t 0), some (15, false)⟩, ⟨some 17, .lenS (.t 16), some (15, false)⟩, ⟨some 18, .cmp .gtr (.t 17) (.c (.int .i64 64)), some (15, false)⟩, ⟨some 19, .pick (.t 15) (.c (.bool true)) (.t 18), none⟩]) (.cond (.t 19) (.seq (.ops [⟨some 20, .mkif 167 (.c (.int .i64 4)), none⟩, ⟨some 2, .mv (.c (.sl .nil [])), none⟩, ⟨some 3, .mv (.t 20), none⟩]) .ret) .skip)) (.seq (.ops [⟨some 21, .mv (.t 4), none⟩, ⟨some 22, .len (.t 21), none⟩, ⟨some 23, .mksl (.agg [.int .i64 0, .str []]) 24 (.c (.int .i64 0)) (.t 22), none⟩, ⟨some 5, .mv (.t 23), none⟩]) (.seq (.seq (.ops [⟨some 24, .mv (.t 4), none⟩, ⟨some 25, .len (.t 24), none⟩, ⟨some 26, .mv (.c (.int .i64 0)), none⟩]) (.block 0 (.loop c_parts_L0))) c_parts_S0))))
theorem is_parts (w0 : World) : fnComp (cx w0).P 211 = some (erase c_parts, [.t 2, .t 3], 50) := by kernel_rfl
/-- bursary/path.CheckPattern: function 173. -/
def c_chk : ACode := .seq (.ops [⟨some 2, .mv (.c .niliface), none⟩]) (.seq (.ops [⟨some 6, .mv (.t 0), none⟩, ⟨some 7, .call (.f 211) [.t 6], none⟩, ⟨some 5, .mv (.t 7), none⟩, ⟨some 8, .ext (.t 5) 0, none⟩, ⟨some 9, .ext (.t 5) 1, none⟩, ⟨some 3, .mv (.t 8), none⟩, ⟨some 4, .mv (.t 9), none⟩]) (.seq (.ops [⟨some 10, .mv (.t 4), none⟩, ⟨some 2, .mv (.t 10), none⟩]) .ret))
theorem is_chk (w0 : World) : fnComp (cx w0).P 173 = some (erase c_chk, [.t 2], 11) := by kernel_rfl
/-- bursary/path.Split: function 212. -/
def c_psplit_L0 : ACode := .seq (.ops [⟨some 21, .cmp .lss (.t 20) (.t 19), none⟩]) (.seq (.cond (.t 21) .skip (.exit 0)) (.seq (.block 1 (.seq (.ops [⟨some 22, .iaddr 1 (.t 18) (.t 20), none⟩, ⟨some 23, .load false 1 (.t 22), none⟩, ⟨some 6, .mv (.t 23), none⟩]) (.seq (.ops [⟨some 24, .mv (.t 6), none⟩, ⟨some 25, .call (.f 247) [.t 24], none⟩, ⟨some 26, .un .not (.t 25), none⟩]) (.cond (.t 26) (.seq (.ops [⟨some 27, .mkif 167 (.c (.int .i64 4)), none⟩, ⟨some 2, .mv (.c (.sl .nil [])), none⟩, ⟨some 3, .mv (.t 27), none⟩]) .ret) .skip)))) (.ops [⟨some 28, .arith .add (.t 20) (.c (.int .i64 1)), none⟩, ⟨some 20, .mv (.t 28), none⟩])))
def c_psplit_S0 : ACode := .seq (.ops [⟨some 29, .mv (.t 4), none⟩, ⟨some 2, .mv (.t 29), none⟩, ⟨some 3, .mv (.c .niliface), none⟩]) .ret
def c_psplit : ACode := .seq (.ops [⟨some 2, .mv (.c (.sl .nil [])), none⟩, ⟨some 3, .mv (.c .niliface), none⟩]) (.seq (.ops [⟨some 7, .mv (.t 0), none⟩, ⟨some 8, .call (.f 245) [.t 7, .c (.str [47])], none⟩, ⟨some 4, .mv (.t 8), none⟩]) (.seq (.seq (.ops [⟨some 9, .mv (.t 4), none⟩, ⟨some 10, .len (.t 9), none⟩, ⟨some 11, .cmp .gtr (.t 10) (.c (.int .i64 6)), none⟩, ⟨some 12, .mv (.t 11), none⟩, ⟨some 13, .mv (.t 0), some (12, false)⟩, ⟨some 14, .lenS (.t 13), some (12, false)⟩, ⟨some 15, .cmp .gtr (.t 14) (.c (.int .i64 64)), some (12, false)⟩, ⟨some 16, .pick (.t 12) (.c (.bool true)) (.t 15), none⟩]) (.cond (.t 16) (.seq (.ops [⟨some 17, .mkif 167 (.c (.int .i64 4)), none⟩, ⟨some 2, .mv (.c (.sl .nil [])), none⟩, ⟨some 3, .mv (.t 17), none⟩]) .ret) .skip)) (.seq (.seq (.ops [⟨some 18, .mv (.t 4), none⟩, ⟨some 19, .len (.t 18), none⟩, ⟨some 20, .mv (.c (.int .i64 0)), none⟩]) (.block 0 (.loop c_psplit_L0))) c_psplit_S0)))
theorem is_psplit (w0 : World) : fnComp (cx w0).P 212 = some (erase c_psplit, [.t 2, .t 3], 30) := by kernel_rfl

def errAV (n : Int) : AV := .iface 167 (.int .i64 n)
def strsAV (l : List Bs) : List AV := l.map .str
def partAV (p : Part) : AV := .agg [.int .i64 p.1, .str p.2]

theorem trim_ok (w0 : World) (s : Bs) (st : St) : ACalls (cx w0) 267 [.str s, .str fine] st fun v st' => v = .str (s.dropWhile (fine.contains ·)) ∧ st' = st := by
  refine ACalls.str2 (is_trim w0) fun w => ?_
  have h := Tryd.strings_TrimLeft_laid ⟨s.toArray⟩ ⟨fine.toArray⟩ w (by kernel_rfl) (by decide) (ascii_of_all (by decide))
  simpa [trimLeftS] using h

/-- The library's longest number of bytes is a number. -/
def Mx (w0 : World) : Prop := ∃ m : Int, w0.cell? ⟨1, 0, none⟩ = some (.int .i64 m)

theorem split_ok (w0 : World) (hM : Mx w0) (s : Bs) (hs : s.length < 4294967281) : PC w0 245 [.str s, .str [47]] (.sl .sh (strsAV (cut 47 s))) := by
  intro st
  obtain ⟨m, hm⟩ := hM
  have hlen := splitB_len ⟨#[47]⟩ 0 47 ⟨s.toArray⟩
  have hcut := splitB_cut 47 _ ⟨s.toArray⟩ rfl
  have hl2 : (splitB ⟨#[47]⟩ 0 (countB ⟨s.toArray⟩ ⟨#[47]⟩) ⟨s.toArray⟩).length ≤ maxLen := by
    have h1 := congrArg List.length hcut
    have h2 := cut_length_le 47 s
    simp at h1
    rw [h1]
    unfold maxLen
    omega
  refine (ACalls.strs2 (is_split w0) (y := [47]) (T := 9) hl2 fun σ w hR => ?_).mono ?_
  · have hc : w.cell? ⟨1, 0, none⟩ = some (.int .i64 m) := by
      have hlt : 1 < w0.heap.size := by
        simp only [World.cell?] at hm
        cases h1 : w0.heap[1]? with
        | none => simp [h1] at hm
        | some o => exact (Array.getElem?_eq_some_iff.1 h1).1
      rw [hR.below.cell (p := ⟨1, 0, none⟩) hlt]
      exact hm
    have h := Tryd.strings_Split ⟨s.toArray⟩ ⟨#[47]⟩ m w (by simpa [ByteArray.size] using hs) hc (by simp [ByteArray.size])
    rw [hlen]
    exact h
  · rintro r st1 ⟨rfl, hle⟩
    refine ⟨?_, hle⟩
    have : (splitB ⟨#[47]⟩ 0 (countB ⟨s.toArray⟩ ⟨#[47]⟩) ⟨s.toArray⟩).map (fun b => AV.str b.data.toList) = strsAV (cut 47 s) := by
      rw [strsAV, ← hcut, List.map_map]; rfl
    rw [this]

theorem name_ok (w0 : World) (s : Bs) : PC w0 247 [.str s] (.bool (isName s)) := by
  intro st
  refine ACalls.of_vc (A := c_name) (is_name w0) (by simp) ?_
  unfold c_name
  simp only [VC, VX, VV, SU, RC, VQ, VQ2, opW, ne_eq, not_false_eq_true, not_true_eq_false, Nat.le_refl, false_implies, reduceIte, Nat.reduceEqDiff, Nat.reduceAdd, Nat.reduceSub, Nat.reduceLeDiff, Nat.reduceLT, Nat.reduceMul, Nat.reduceBEq, reduceCtorEq, Int.natCast_nonneg, Int.toNat_natCast, true_implies, implies_true, List.length_cons, List.length_nil, List.drop_succ_cons, List.drop_zero, List.take_succ_cons, List.take_zero, List.map_cons, List.map_nil, List.getD_cons_zero, List.getD_cons_succ, List.all_cons, List.all_nil, Bool.and_true, Bool.and_self, decide_true, decide_false, Bool.not_true, Bool.not_false, Bool.true_or, Bool.false_or, Bool.or_true, Bool.or_false, Bool.true_and, Bool.false_and, Bool.and_false, bytesAV_length, beq_self_eq_true, and_self, List.append_assoc, List.cons_append, List.nil_append]
  refine VG.of (fun h => ?_) (fun h => ?_)
  · simp only [VC, VX, VV, SU, RC, VQ, VQ2, opW, ne_eq, not_false_eq_true, not_true_eq_false, Nat.le_refl, false_implies, reduceIte, Nat.reduceEqDiff, Nat.reduceAdd, Nat.reduceSub, Nat.reduceLeDiff, Nat.reduceLT, Nat.reduceMul, Nat.reduceBEq, reduceCtorEq, Int.natCast_nonneg, Int.toNat_natCast, true_implies, implies_true, List.length_cons, List.length_nil, List.drop_succ_cons, List.drop_zero, List.take_succ_cons, List.take_zero, List.map_cons, List.map_nil, List.getD_cons_zero, List.getD_cons_succ, List.all_cons, List.all_nil, Bool.and_true, Bool.and_self, decide_true, decide_false, Bool.not_true, Bool.not_false, Bool.true_or, Bool.false_or, Bool.or_true, Bool.or_false, Bool.true_and, Bool.false_and, Bool.and_false, bytesAV_length, beq_self_eq_true, and_self, List.append_assoc, List.cons_append, List.nil_append, h]
    refine VG.of (fun h2 => ?_) (fun h2 => ?_)
    · simp only [VC, VX, VV, SU, RC, VQ, VQ2, opW, ne_eq, not_false_eq_true, not_true_eq_false, Nat.le_refl, false_implies, reduceIte, Nat.reduceEqDiff, Nat.reduceAdd, Nat.reduceSub, Nat.reduceLeDiff, Nat.reduceLT, Nat.reduceMul, Nat.reduceBEq, reduceCtorEq, Int.natCast_nonneg, Int.toNat_natCast, true_implies, implies_true, List.length_cons, List.length_nil, List.drop_succ_cons, List.drop_zero, List.take_succ_cons, List.take_zero, List.map_cons, List.map_nil, List.getD_cons_zero, List.getD_cons_succ, List.all_cons, List.all_nil, Bool.and_true, Bool.and_self, decide_true, decide_false, Bool.not_true, Bool.not_false, Bool.true_or, Bool.false_or, Bool.or_true, Bool.or_false, Bool.true_and, Bool.false_and, Bool.and_false, bytesAV_length, beq_self_eq_true, and_self, List.append_assoc, List.cons_append, List.nil_append, h2]
      refine (trim_ok w0 s st).mono ?_
      rintro r st1 ⟨rfl, rfl⟩
      simp only [VC, VX, VV, SU, RC, VQ, VQ2, opW, ne_eq, not_false_eq_true, not_true_eq_false, Nat.le_refl, false_implies, reduceIte, Nat.reduceEqDiff, Nat.reduceAdd, Nat.reduceSub, Nat.reduceLeDiff, Nat.reduceLT, Nat.reduceMul, Nat.reduceBEq, reduceCtorEq, Int.natCast_nonneg, Int.toNat_natCast, true_implies, implies_true, List.length_cons, List.length_nil, List.drop_succ_cons, List.drop_zero, List.take_succ_cons, List.take_zero, List.map_cons, List.map_nil, List.getD_cons_zero, List.getD_cons_succ, List.all_cons, List.all_nil, Bool.and_true, Bool.and_self, decide_true, decide_false, Bool.not_true, Bool.not_false, Bool.true_or, Bool.false_or, Bool.or_true, Bool.or_false, Bool.true_and, Bool.false_and, Bool.and_false, bytesAV_length, beq_self_eq_true, and_self, List.append_assoc, List.cons_append, List.nil_append]
      refine ⟨?_, St.le_refl _⟩
      simp only [Bool.not_eq_true'] at h
      simp [isName, h, h2]
    · have h2 : decide ((s.length : Int) ≤ 16) = false := by simpa using h2
      simp only [VC, VX, VV, SU, RC, VQ, VQ2, opW, ne_eq, not_false_eq_true, not_true_eq_false, Nat.le_refl, false_implies, reduceIte, Nat.reduceEqDiff, Nat.reduceAdd, Nat.reduceSub, Nat.reduceLeDiff, Nat.reduceLT, Nat.reduceMul, Nat.reduceBEq, reduceCtorEq, Int.natCast_nonneg, Int.toNat_natCast, true_implies, implies_true, List.length_cons, List.length_nil, List.drop_succ_cons, List.drop_zero, List.take_succ_cons, List.take_zero, List.map_cons, List.map_nil, List.getD_cons_zero, List.getD_cons_succ, List.all_cons, List.all_nil, Bool.and_true, Bool.and_self, decide_true, decide_false, Bool.not_true, Bool.not_false, Bool.true_or, Bool.false_or, Bool.or_true, Bool.or_false, Bool.true_and, Bool.false_and, Bool.and_false, bytesAV_length, beq_self_eq_true, and_self, List.append_assoc, List.cons_append, List.nil_append, h2]
      refine ⟨?_, St.le_refl _⟩
      simp [isName, h, h2]
  · have h' : (s == []) = true := by simpa using h
    simp only [VC, VX, VV, SU, RC, VQ, VQ2, opW, ne_eq, not_false_eq_true, not_true_eq_false, Nat.le_refl, false_implies, reduceIte, Nat.reduceEqDiff, Nat.reduceAdd, Nat.reduceSub, Nat.reduceLeDiff, Nat.reduceLT, Nat.reduceMul, Nat.reduceBEq, reduceCtorEq, Int.natCast_nonneg, Int.toNat_natCast, true_implies, implies_true, List.length_cons, List.length_nil, List.drop_succ_cons, List.drop_zero, List.take_succ_cons, List.take_zero, List.map_cons, List.map_nil, List.getD_cons_zero, List.getD_cons_succ, List.all_cons, List.all_nil, Bool.and_true, Bool.and_self, decide_true, decide_false, Bool.not_true, Bool.not_false, Bool.true_or, Bool.false_or, Bool.or_true, Bool.or_false, Bool.true_and, Bool.false_and, Bool.and_false, bytesAV_length, beq_self_eq_true, and_self, List.append_assoc, List.cons_append, List.nil_append, h']
    refine ⟨?_, St.le_refl _⟩
    simp [isName, h']

theorem sfx_one (s : Bs) (c : UInt8) : hasSfx s [c] = decide (s.getLast? = some c) ∧ s.take (s.length - 1) = s.dropLast := by
  refine ⟨?_, (List.dropLast_eq_take).symm⟩
  rcases List.eq_nil_or_concat s with rfl | ⟨l, b, rfl⟩
  · simp [hasSfx]
  · simp [hasSfx]
    by_cases h : b = c <;> simp [h]

theorem of_ok (w0 : World) (s : Bs) (last : Bool) (hs : s.length ≤ 9223372036854775807) : PC w0 246 [.str s, .bool last] (.tup [partAV (ofP s last).1, .bool (ofP s last).2]) := by
  intro st
  refine ACalls.of_vc (A := c_of) (is_of w0) (by simp) ?_
  unfold c_of
  simp only [VC, VX, VV, SU, RC, VQ, VQ2, opW, ne_eq, not_false_eq_true, not_true_eq_false, Nat.le_refl, false_implies, reduceIte, Nat.reduceEqDiff, Nat.reduceAdd, Nat.reduceSub, Nat.reduceLeDiff, Nat.reduceLT, Nat.reduceMul, Nat.reduceBEq, reduceCtorEq, Int.natCast_nonneg, Int.toNat_natCast, true_implies, implies_true, List.length_cons, List.length_nil, List.drop_succ_cons, List.drop_zero, List.take_succ_cons, List.take_zero, List.map_cons, List.map_nil, List.getD_cons_zero, List.getD_cons_succ, List.all_cons, List.all_nil, Bool.and_true, Bool.and_self, decide_true, decide_false, Bool.not_true, Bool.not_false, Bool.true_or, Bool.false_or, Bool.or_true, Bool.or_false, Bool.true_and, Bool.false_and, Bool.and_false, bytesAV_length, beq_self_eq_true, and_self, List.append_assoc, List.cons_append, List.nil_append]
  intro id hid
  by_cases h1 : s = [43]
  · subst h1
    simp only [VC, VX, VV, SU, RC, VQ, VQ2, opW, ne_eq, not_false_eq_true, not_true_eq_false, Nat.le_refl, false_implies, reduceIte, Nat.reduceEqDiff, Nat.reduceAdd, Nat.reduceSub, Nat.reduceLeDiff, Nat.reduceLT, Nat.reduceMul, Nat.reduceBEq, reduceCtorEq, Int.natCast_nonneg, Int.toNat_natCast, true_implies, implies_true, List.length_cons, List.length_nil, List.drop_succ_cons, List.drop_zero, List.take_succ_cons, List.take_zero, List.map_cons, List.map_nil, List.getD_cons_zero, List.getD_cons_succ, List.all_cons, List.all_nil, Bool.and_true, Bool.and_self, decide_true, decide_false, Bool.not_true, Bool.not_false, Bool.true_or, Bool.false_or, Bool.or_true, Bool.or_false, Bool.true_and, Bool.false_and, Bool.and_false, bytesAV_length, beq_self_eq_true, and_self, List.append_assoc, List.cons_append, List.nil_append, hid]
    exact ⟨rfl, St.le_upd0 _ (St.le_upd _ _ _ hid) hid⟩
  · have h1' : (s == [43]) = false := by simpa using h1
    simp only [VC, VX, VV, SU, RC, VQ, VQ2, opW, ne_eq, not_false_eq_true, not_true_eq_false, Nat.le_refl, false_implies, reduceIte, Nat.reduceEqDiff, Nat.reduceAdd, Nat.reduceSub, Nat.reduceLeDiff, Nat.reduceLT, Nat.reduceMul, Nat.reduceBEq, reduceCtorEq, Int.natCast_nonneg, Int.toNat_natCast, true_implies, implies_true, List.length_cons, List.length_nil, List.drop_succ_cons, List.drop_zero, List.take_succ_cons, List.take_zero, List.map_cons, List.map_nil, List.getD_cons_zero, List.getD_cons_succ, List.all_cons, List.all_nil, Bool.and_true, Bool.and_self, decide_true, decide_false, Bool.not_true, Bool.not_false, Bool.true_or, Bool.false_or, Bool.or_true, Bool.or_false, Bool.true_and, Bool.false_and, Bool.and_false, bytesAV_length, beq_self_eq_true, and_self, List.append_assoc, List.cons_append, List.nil_append, h1']
    refine (cs_ok w0 s [42] hs _).mono ?_
    rintro r st1 ⟨rfl, hle⟩
    obtain ⟨e1, e2⟩ := sfx_one s 42
    have hle0 : st.le st1 := St.le_trans (St.le_upd _ _ _ hid) hle
    have hobj := hle id _ (St.upd_same _ _ _)
    by_cases h2 : s.getLast? = some 42
    · have e3 : hasSfx s [42] = true := by rw [e1]; simpa using h2
      have e4 : ofP s last = ((1, s.dropLast), last && (s.dropLast == [] || isName s.dropLast)) := by simp [ofP, h1, h2]
      rw [e4]
      cases last with
      | false =>
        simp only [VC, VX, VV, SU, RC, VQ, VQ2, opW, ne_eq, not_false_eq_true, not_true_eq_false, Nat.le_refl, false_implies, reduceIte, Nat.reduceEqDiff, Nat.reduceAdd, Nat.reduceSub, Nat.reduceLeDiff, Nat.reduceLT, Nat.reduceMul, Nat.reduceBEq, reduceCtorEq, Int.natCast_nonneg, Int.toNat_natCast, true_implies, implies_true, List.length_cons, List.length_nil, List.drop_succ_cons, List.drop_zero, List.take_succ_cons, List.take_zero, List.map_cons, List.map_nil, List.getD_cons_zero, List.getD_cons_succ, List.all_cons, List.all_nil, Bool.and_true, Bool.and_self, decide_true, decide_false, Bool.not_true, Bool.not_false, Bool.true_or, Bool.false_or, Bool.or_true, Bool.or_false, Bool.true_and, Bool.false_and, Bool.and_false, bytesAV_length, beq_self_eq_true, and_self, List.append_assoc, List.cons_append, List.nil_append, e3, if_true, e2, hobj]
        exact ⟨rfl, St.le_upd0 _ hle0 hid⟩
      | true =>
        simp only [VC, VX, VV, SU, RC, VQ, VQ2, opW, ne_eq, not_false_eq_true, not_true_eq_false, Nat.le_refl, false_implies, reduceIte, Nat.reduceEqDiff, Nat.reduceAdd, Nat.reduceSub, Nat.reduceLeDiff, Nat.reduceLT, Nat.reduceMul, Nat.reduceBEq, reduceCtorEq, Int.natCast_nonneg, Int.toNat_natCast, true_implies, implies_true, List.length_cons, List.length_nil, List.drop_succ_cons, List.drop_zero, List.take_succ_cons, List.take_zero, List.map_cons, List.map_nil, List.getD_cons_zero, List.getD_cons_succ, List.all_cons, List.all_nil, Bool.and_true, Bool.and_self, decide_true, decide_false, Bool.not_true, Bool.not_false, Bool.true_or, Bool.false_or, Bool.or_true, Bool.or_false, Bool.true_and, Bool.false_and, Bool.and_false, bytesAV_length, beq_self_eq_true, and_self, List.append_assoc, List.cons_append, List.nil_append, e3, if_true, e2, hobj]
        by_cases h3 : (s.dropLast == []) = true
        · simp only [VC, VX, VV, SU, RC, VQ, VQ2, opW, ne_eq, not_false_eq_true, not_true_eq_false, Nat.le_refl, false_implies, reduceIte, Nat.reduceEqDiff, Nat.reduceAdd, Nat.reduceSub, Nat.reduceLeDiff, Nat.reduceLT, Nat.reduceMul, Nat.reduceBEq, reduceCtorEq, Int.natCast_nonneg, Int.toNat_natCast, true_implies, implies_true, List.length_cons, List.length_nil, List.drop_succ_cons, List.drop_zero, List.take_succ_cons, List.take_zero, List.map_cons, List.map_nil, List.getD_cons_zero, List.getD_cons_succ, List.all_cons, List.all_nil, Bool.and_true, Bool.and_self, decide_true, decide_false, Bool.not_true, Bool.not_false, Bool.true_or, Bool.false_or, Bool.or_true, Bool.or_false, Bool.true_and, Bool.false_and, Bool.and_false, bytesAV_length, beq_self_eq_true, and_self, List.append_assoc, List.cons_append, List.nil_append, h3, hobj]
          exact ⟨rfl, St.le_upd0 _ hle0 hid⟩
        · have h3 : (s.dropLast == []) = false := by simpa using h3
          simp only [VC, VX, VV, SU, RC, VQ, VQ2, opW, ne_eq, not_false_eq_true, not_true_eq_false, Nat.le_refl, false_implies, reduceIte, Nat.reduceEqDiff, Nat.reduceAdd, Nat.reduceSub, Nat.reduceLeDiff, Nat.reduceLT, Nat.reduceMul, Nat.reduceBEq, reduceCtorEq, Int.natCast_nonneg, Int.toNat_natCast, true_implies, implies_true, List.length_cons, List.length_nil, List.drop_succ_cons, List.drop_zero, List.take_succ_cons, List.take_zero, List.map_cons, List.map_nil, List.getD_cons_zero, List.getD_cons_succ, List.all_cons, List.all_nil, Bool.and_true, Bool.and_self, decide_true, decide_false, Bool.not_true, Bool.not_false, Bool.true_or, Bool.false_or, Bool.or_true, Bool.or_false, Bool.true_and, Bool.false_and, Bool.and_false, bytesAV_length, beq_self_eq_true, and_self, List.append_assoc, List.cons_append, List.nil_append, h3]
          refine (name_ok w0 _ st1).mono ?_
          rintro r st2 ⟨rfl, hle2⟩
          have hobj2 := hle2 id _ hobj
          simp only [VC, VX, VV, SU, RC, VQ, VQ2, opW, ne_eq, not_false_eq_true, not_true_eq_false, Nat.le_refl, false_implies, reduceIte, Nat.reduceEqDiff, Nat.reduceAdd, Nat.reduceSub, Nat.reduceLeDiff, Nat.reduceLT, Nat.reduceMul, Nat.reduceBEq, reduceCtorEq, Int.natCast_nonneg, Int.toNat_natCast, true_implies, implies_true, List.length_cons, List.length_nil, List.drop_succ_cons, List.drop_zero, List.take_succ_cons, List.take_zero, List.map_cons, List.map_nil, List.getD_cons_zero, List.getD_cons_succ, List.all_cons, List.all_nil, Bool.and_true, Bool.and_self, decide_true, decide_false, Bool.not_true, Bool.not_false, Bool.true_or, Bool.false_or, Bool.or_true, Bool.or_false, Bool.true_and, Bool.false_and, Bool.and_false, bytesAV_length, beq_self_eq_true, and_self, List.append_assoc, List.cons_append, List.nil_append, hobj2]
          exact ⟨rfl, St.le_upd0 _ (St.le_trans hle0 hle2) hid⟩
    · have e3 : hasSfx s [42] = false := by rw [e1]; simpa using h2
      have e4 : ofP s last = ((3, s), isName s) := by simp [ofP, h1, h2]
      rw [e4]
      simp only [VC, VX, VV, SU, RC, VQ, VQ2, opW, ne_eq, not_false_eq_true, not_true_eq_false, Nat.le_refl, false_implies, reduceIte, Nat.reduceEqDiff, Nat.reduceAdd, Nat.reduceSub, Nat.reduceLeDiff, Nat.reduceLT, Nat.reduceMul, Nat.reduceBEq, reduceCtorEq, Int.natCast_nonneg, Int.toNat_natCast, true_implies, implies_true, List.length_cons, List.length_nil, List.drop_succ_cons, List.drop_zero, List.take_succ_cons, List.take_zero, List.map_cons, List.map_nil, List.getD_cons_zero, List.getD_cons_succ, List.all_cons, List.all_nil, Bool.and_true, Bool.and_self, decide_true, decide_false, Bool.not_true, Bool.not_false, Bool.true_or, Bool.false_or, Bool.or_true, Bool.or_false, Bool.true_and, Bool.false_and, Bool.and_false, bytesAV_length, beq_self_eq_true, and_self, List.append_assoc, List.cons_append, List.nil_append, e3, if_false]
      refine (name_ok w0 _ st1).mono ?_
      rintro r st2 ⟨rfl, hle2⟩
      have hobj2 := hle2 id _ hobj
      simp only [VC, VX, VV, SU, RC, VQ, VQ2, opW, ne_eq, not_false_eq_true, not_true_eq_false, Nat.le_refl, false_implies, reduceIte, Nat.reduceEqDiff, Nat.reduceAdd, Nat.reduceSub, Nat.reduceLeDiff, Nat.reduceLT, Nat.reduceMul, Nat.reduceBEq, reduceCtorEq, Int.natCast_nonneg, Int.toNat_natCast, true_implies, implies_true, List.length_cons, List.length_nil, List.drop_succ_cons, List.drop_zero, List.take_succ_cons, List.take_zero, List.map_cons, List.map_nil, List.getD_cons_zero, List.getD_cons_succ, List.all_cons, List.all_nil, Bool.and_true, Bool.and_self, decide_true, decide_false, Bool.not_true, Bool.not_false, Bool.true_or, Bool.false_or, Bool.or_true, Bool.or_false, Bool.true_and, Bool.false_and, Bool.and_false, bytesAV_length, beq_self_eq_true, and_self, List.append_assoc, List.cons_append, List.nil_append, hobj2]
      exact ⟨rfl, St.le_upd0 _ (St.le_trans hle0 hle2) hid⟩

theorem psplit_ok (w0 : World) (hM : Mx w0) (s : Bs) (hs : s.length < 4294967281) : PC w0 212 [.str s] (match splitP s with | some l => .tup [.sl .sh (strsAV l), .niliface] | none => .tup [.sl .nil [], errAV 4]) := by
  intro st
  refine ACalls.of_vc (A := c_psplit) (is_psplit w0) (by simp) ?_
  unfold c_psplit
  simp only [VC, VX, VV, SU, RC, VQ, VQ2, opW, ne_eq, not_false_eq_true, not_true_eq_false, Nat.le_refl, false_implies, reduceIte, Nat.reduceEqDiff, Nat.reduceAdd, Nat.reduceSub, Nat.reduceLeDiff, Nat.reduceLT, Nat.reduceMul, Nat.reduceBEq, reduceCtorEq, Int.natCast_nonneg, Int.toNat_natCast, true_implies, implies_true, List.length_cons, List.length_nil, List.drop_succ_cons, List.drop_zero, List.take_succ_cons, List.take_zero, List.map_cons, List.map_nil, List.getD_cons_zero, List.getD_cons_succ, List.all_cons, List.all_nil, Bool.and_true, Bool.and_self, decide_true, decide_false, Bool.not_true, Bool.not_false, Bool.true_or, Bool.false_or, Bool.or_true, Bool.or_false, Bool.true_and, Bool.false_and, Bool.and_false, bytesAV_length, beq_self_eq_true, and_self, List.append_assoc, List.cons_append, List.nil_append]
  refine (split_ok w0 hM s hs st).mono ?_
  rintro r st1 ⟨rfl, hle⟩
  have hcl := cut_length_le 47 s
  have hl : (strsAV (cut 47 s)).length = (cut 47 s).length := by simp [strsAV]
  have big : ¬ ((cut 47 s).length ≤ 6 ∧ s.length ≤ 64) → splitP s = none := fun h => by
    unfold splitP; rw [if_neg]; rintro ⟨h1, h2, _⟩; exact h ⟨h1, h2⟩
  have bad : (cut 47 s).all isName = false → splitP s = none := fun h => by
    unfold splitP; rw [if_neg]; rintro ⟨_, _, h2⟩; rw [h] at h2; cases h2
  by_cases h1 : ((cut 47 s).length : Int) > 6
  · simp only [VC, VX, VV, SU, RC, VQ, VQ2, opW, ne_eq, not_false_eq_true, not_true_eq_false, Nat.le_refl, false_implies, reduceIte, Nat.reduceEqDiff, Nat.reduceAdd, Nat.reduceSub, Nat.reduceLeDiff, Nat.reduceLT, Nat.reduceMul, Nat.reduceBEq, reduceCtorEq, Int.natCast_nonneg, Int.toNat_natCast, true_implies, implies_true, List.length_cons, List.length_nil, List.drop_succ_cons, List.drop_zero, List.take_succ_cons, List.take_zero, List.map_cons, List.map_nil, List.getD_cons_zero, List.getD_cons_succ, List.all_cons, List.all_nil, Bool.and_true, Bool.and_self, decide_true, decide_false, Bool.not_true, Bool.not_false, Bool.true_or, Bool.false_or, Bool.or_true, Bool.or_false, Bool.true_and, Bool.false_and, Bool.and_false, bytesAV_length, beq_self_eq_true, and_self, List.append_assoc, List.cons_append, List.nil_append, hl, h1]
    rw [big (fun h => by omega)]
    exact ⟨rfl, hle⟩
  · by_cases h2 : (s.length : Int) > 64
    · simp only [VC, VX, VV, SU, RC, VQ, VQ2, opW, ne_eq, not_false_eq_true, not_true_eq_false, Nat.le_refl, false_implies, reduceIte, Nat.reduceEqDiff, Nat.reduceAdd, Nat.reduceSub, Nat.reduceLeDiff, Nat.reduceLT, Nat.reduceMul, Nat.reduceBEq, reduceCtorEq, Int.natCast_nonneg, Int.toNat_natCast, true_implies, implies_true, List.length_cons, List.length_nil, List.drop_succ_cons, List.drop_zero, List.take_succ_cons, List.take_zero, List.map_cons, List.map_nil, List.getD_cons_zero, List.getD_cons_succ, List.all_cons, List.all_nil, Bool.and_true, Bool.and_self, decide_true, decide_false, Bool.not_true, Bool.not_false, Bool.true_or, Bool.false_or, Bool.or_true, Bool.or_false, Bool.true_and, Bool.false_and, Bool.and_false, bytesAV_length, beq_self_eq_true, and_self, List.append_assoc, List.cons_append, List.nil_append, hl, h1, h2]
      rw [big (fun h => by omega)]
      exact ⟨rfl, hle⟩
    · simp only [VC, VX, VV, SU, RC, VQ, VQ2, opW, ne_eq, not_false_eq_true, not_true_eq_false, Nat.le_refl, false_implies, reduceIte, Nat.reduceEqDiff, Nat.reduceAdd, Nat.reduceSub, Nat.reduceLeDiff, Nat.reduceLT, Nat.reduceMul, Nat.reduceBEq, reduceCtorEq, Int.natCast_nonneg, Int.toNat_natCast, true_implies, implies_true, List.length_cons, List.length_nil, List.drop_succ_cons, List.drop_zero, List.take_succ_cons, List.take_zero, List.map_cons, List.map_nil, List.getD_cons_zero, List.getD_cons_succ, List.all_cons, List.all_nil, Bool.and_true, Bool.and_self, decide_true, decide_false, Bool.not_true, Bool.not_false, Bool.true_or, Bool.false_or, Bool.or_true, Bool.or_false, Bool.true_and, Bool.false_and, Bool.and_false, bytesAV_length, beq_self_eq_true, and_self, List.append_assoc, List.cons_append, List.nil_append, hl, h1, h2]
      refine VLoop.up (cut 47 s).length (fun k e st' => e.get 4 = .sl .sh (strsAV (cut 47 s)) ∧ e.get 18 = .sl .sh (strsAV (cut 47 s)) ∧ e.get 19 = .int .i64 (cut 47 s).length ∧ e.get 20 = .int .i64 k ∧ k ≤ (cut 47 s).length ∧ ((cut 47 s).take k).all isName = true ∧ st.le st') ?_ ?_
      · simp only [VC, VX, VV, SU, RC, VQ, VQ2, opW, ne_eq, not_false_eq_true, not_true_eq_false, Nat.le_refl, false_implies, reduceIte, Nat.reduceEqDiff, Nat.reduceAdd, Nat.reduceSub, Nat.reduceLeDiff, Nat.reduceLT, Nat.reduceMul, Nat.reduceBEq, reduceCtorEq, Int.natCast_nonneg, Int.toNat_natCast, true_implies, implies_true, List.length_cons, List.length_nil, List.drop_succ_cons, List.drop_zero, List.take_succ_cons, List.take_zero, List.map_cons, List.map_nil, List.getD_cons_zero, List.getD_cons_succ, List.all_cons, List.all_nil, Bool.and_true, Bool.and_self, decide_true, decide_false, Bool.not_true, Bool.not_false, Bool.true_or, Bool.false_or, Bool.or_true, Bool.or_false, Bool.true_and, Bool.false_and, Bool.and_false, bytesAV_length, beq_self_eq_true, and_self, List.append_assoc, List.cons_append, List.nil_append, hl]
        exact ⟨rfl, Nat.zero_le _, hle⟩
      · rintro k e st' ⟨h4, h18, h19, h20, hk, hall, hle2⟩
        unfold c_psplit_L0
        simp only [VC, VX, VV, SU, RC, VQ, VQ2, opW, ne_eq, not_false_eq_true, not_true_eq_false, Nat.le_refl, false_implies, reduceIte, Nat.reduceEqDiff, Nat.reduceAdd, Nat.reduceSub, Nat.reduceLeDiff, Nat.reduceLT, Nat.reduceMul, Nat.reduceBEq, reduceCtorEq, Int.natCast_nonneg, Int.toNat_natCast, true_implies, implies_true, List.length_cons, List.length_nil, List.drop_succ_cons, List.drop_zero, List.take_succ_cons, List.take_zero, List.map_cons, List.map_nil, List.getD_cons_zero, List.getD_cons_succ, List.all_cons, List.all_nil, Bool.and_true, Bool.and_self, decide_true, decide_false, Bool.not_true, Bool.not_false, Bool.true_or, Bool.false_or, Bool.or_true, Bool.or_false, Bool.true_and, Bool.false_and, Bool.and_false, bytesAV_length, beq_self_eq_true, and_self, List.append_assoc, List.cons_append, List.nil_append, h4, h18, h19, h20]
        refine VCond.dec (fun hlt => ?_) (fun hge => ?_)
        · have hlt' : k < (cut 47 s).length := by omega
          have hg : (strsAV (cut 47 s)).getD k .undef = .str (cut 47 s)[k] := by simp [strsAV, List.getD_eq_getElem?_getD, hlt']
          simp only [VC, VX, VV, SU, RC, VQ, VQ2, opW, ne_eq, not_false_eq_true, not_true_eq_false, Nat.le_refl, false_implies, reduceIte, Nat.reduceEqDiff, Nat.reduceAdd, Nat.reduceSub, Nat.reduceLeDiff, Nat.reduceLT, Nat.reduceMul, Nat.reduceBEq, reduceCtorEq, Int.natCast_nonneg, Int.toNat_natCast, true_implies, implies_true, List.length_cons, List.length_nil, List.drop_succ_cons, List.drop_zero, List.take_succ_cons, List.take_zero, List.map_cons, List.map_nil, List.getD_cons_zero, List.getD_cons_succ, List.all_cons, List.all_nil, Bool.and_true, Bool.and_self, decide_true, decide_false, Bool.not_true, Bool.not_false, Bool.true_or, Bool.false_or, Bool.or_true, Bool.or_false, Bool.true_and, Bool.false_and, Bool.and_false, bytesAV_length, beq_self_eq_true, and_self, List.append_assoc, List.cons_append, List.nil_append, h4, h18, h19, h20, hlt, hg, hl]
          refine (name_ok w0 _ st').mono ?_
          rintro r st2 ⟨rfl, hle3⟩
          by_cases hn : isName (cut 47 s)[k] = true
          · simp only [VC, VX, VV, SU, RC, VQ, VQ2, opW, ne_eq, not_false_eq_true, not_true_eq_false, Nat.le_refl, false_implies, reduceIte, Nat.reduceEqDiff, Nat.reduceAdd, Nat.reduceSub, Nat.reduceLeDiff, Nat.reduceLT, Nat.reduceMul, Nat.reduceBEq, reduceCtorEq, Int.natCast_nonneg, Int.toNat_natCast, true_implies, implies_true, List.length_cons, List.length_nil, List.drop_succ_cons, List.drop_zero, List.take_succ_cons, List.take_zero, List.map_cons, List.map_nil, List.getD_cons_zero, List.getD_cons_succ, List.all_cons, List.all_nil, Bool.and_true, Bool.and_self, decide_true, decide_false, Bool.not_true, Bool.not_false, Bool.true_or, Bool.false_or, Bool.or_true, Bool.or_false, Bool.true_and, Bool.false_and, Bool.and_false, bytesAV_length, beq_self_eq_true, and_self, List.append_assoc, List.cons_append, List.nil_append, hn, h4, h18, h19, h20]
            refine ⟨hlt', ?_, by omega, ?_, St.le_trans hle2 hle3⟩
            · rw [wrap_nat (by omega)]
            · rw [List.take_succ_eq_append_getElem hlt', List.all_append, hall]
              simp [hn]
          · have hn : isName (cut 47 s)[k] = false := by simpa using hn
            simp only [VC, VX, VV, SU, RC, VQ, VQ2, opW, ne_eq, not_false_eq_true, not_true_eq_false, Nat.le_refl, false_implies, reduceIte, Nat.reduceEqDiff, Nat.reduceAdd, Nat.reduceSub, Nat.reduceLeDiff, Nat.reduceLT, Nat.reduceMul, Nat.reduceBEq, reduceCtorEq, Int.natCast_nonneg, Int.toNat_natCast, true_implies, implies_true, List.length_cons, List.length_nil, List.drop_succ_cons, List.drop_zero, List.take_succ_cons, List.take_zero, List.map_cons, List.map_nil, List.getD_cons_zero, List.getD_cons_succ, List.all_cons, List.all_nil, Bool.and_true, Bool.and_self, decide_true, decide_false, Bool.not_true, Bool.not_false, Bool.true_or, Bool.false_or, Bool.or_true, Bool.or_false, Bool.true_and, Bool.false_and, Bool.and_false, bytesAV_length, beq_self_eq_true, and_self, List.append_assoc, List.cons_append, List.nil_append, hn]
            rw [bad (List.all_eq_false.2 ⟨_, List.getElem_mem hlt', by simp [hn]⟩)]
            exact ⟨rfl, St.le_trans hle2 hle3⟩
        · have hk' : k = (cut 47 s).length := by omega
          subst hk'
          rw [List.take_length] at hall
          unfold c_psplit_S0
          simp only [VC, VX, VV, SU, RC, VQ, VQ2, opW, ne_eq, not_false_eq_true, not_true_eq_false, Nat.le_refl, false_implies, reduceIte, Nat.reduceEqDiff, Nat.reduceAdd, Nat.reduceSub, Nat.reduceLeDiff, Nat.reduceLT, Nat.reduceMul, Nat.reduceBEq, reduceCtorEq, Int.natCast_nonneg, Int.toNat_natCast, true_implies, implies_true, List.length_cons, List.length_nil, List.drop_succ_cons, List.drop_zero, List.take_succ_cons, List.take_zero, List.map_cons, List.map_nil, List.getD_cons_zero, List.getD_cons_succ, List.all_cons, List.all_nil, Bool.and_true, Bool.and_self, decide_true, decide_false, Bool.not_true, Bool.not_false, Bool.true_or, Bool.false_or, Bool.or_true, Bool.or_false, Bool.true_and, Bool.false_and, Bool.and_false, bytesAV_length, beq_self_eq_true, and_self, List.append_assoc, List.cons_append, List.nil_append, h4, h18, h19, h20, hge]
          have e1 : splitP s = some (cut 47 s) := by
            unfold splitP; rw [if_pos ⟨by omega, by omega, hall⟩]
          rw [e1]
          exact ⟨rfl, hle2⟩

/-- Each part and whether it can be, from a place on. -/
theorem partsL_drop (L : List Bs) (k : Nat) (hk : k < L.length) : partsL (L.drop k) = if (ofP L[k] (decide (k + 1 = L.length))).2 = true then (partsL (L.drop (k + 1))).map fun l => (ofP L[k] (decide (k + 1 = L.length))).1 :: l else none := by
  rw [List.drop_eq_getElem_cons hk, partsL]
  have : (L.drop (k + 1)).isEmpty = decide (k + 1 = L.length) := by
    by_cases h : k + 1 = L.length
    · simp [h]
    · have : (L.drop (k + 1)) ≠ [] := by simp; omega
      simp [h, this]
  rw [this]

theorem parts_ok (w0 : World) (hM : Mx w0) (s : Bs) (hs : s.length < 4294967281) (st : St) : ACalls (cx w0) 211 [.str s] st fun r st' => st.le st' ∧ match parts s with
    | some l => ∃ tk, r = .tup [.sl tk (l.map partAV), .niliface]
    | none => r = .tup [.sl .nil [], errAV 4] := by
  refine ACalls.of_vc (A := c_parts) (is_parts w0) (by simp) ?_
  unfold c_parts
  simp only [VC, VX, VV, SU, RC, VQ, VQ2, opW, ne_eq, not_false_eq_true, not_true_eq_false, Nat.le_refl, false_implies, reduceIte, Nat.reduceEqDiff, Nat.reduceAdd, Nat.reduceSub, Nat.reduceLeDiff, Nat.reduceLT, Nat.reduceMul, Nat.reduceBEq, reduceCtorEq, Int.natCast_nonneg, Int.toNat_natCast, true_implies, implies_true, List.length_cons, List.length_nil, List.drop_succ_cons, List.drop_zero, List.take_succ_cons, List.take_zero, List.map_cons, List.map_nil, List.getD_cons_zero, List.getD_cons_succ, List.all_cons, List.all_nil, Bool.and_true, Bool.and_self, decide_true, decide_false, Bool.not_true, Bool.not_false, Bool.true_or, Bool.false_or, Bool.or_true, Bool.or_false, Bool.true_and, Bool.false_and, Bool.and_false, bytesAV_length, beq_self_eq_true, and_self, List.append_assoc, List.cons_append, List.nil_append]
  refine (split_ok w0 hM s hs st).mono ?_
  rintro r st1 ⟨rfl, hle⟩
  have hcl := cut_length_le 47 s
  have hl : (strsAV (cut 47 s)).length = (cut 47 s).length := by simp [strsAV]
  have big : ¬ ((cut 47 s).length ≤ 6 ∧ s.length ≤ 64) → parts s = none := fun h => by
    unfold parts; rw [if_neg h]
  by_cases h1 : ((cut 47 s).length : Int) > 6
  · simp only [VC, VX, VV, SU, RC, VQ, VQ2, opW, ne_eq, not_false_eq_true, not_true_eq_false, Nat.le_refl, false_implies, reduceIte, Nat.reduceEqDiff, Nat.reduceAdd, Nat.reduceSub, Nat.reduceLeDiff, Nat.reduceLT, Nat.reduceMul, Nat.reduceBEq, reduceCtorEq, Int.natCast_nonneg, Int.toNat_natCast, true_implies, implies_true, List.length_cons, List.length_nil, List.drop_succ_cons, List.drop_zero, List.take_succ_cons, List.take_zero, List.map_cons, List.map_nil, List.getD_cons_zero, List.getD_cons_succ, List.all_cons, List.all_nil, Bool.and_true, Bool.and_self, decide_true, decide_false, Bool.not_true, Bool.not_false, Bool.true_or, Bool.false_or, Bool.or_true, Bool.or_false, Bool.true_and, Bool.false_and, Bool.and_false, bytesAV_length, beq_self_eq_true, and_self, List.append_assoc, List.cons_append, List.nil_append, hl, h1]
    rw [big (fun h => by omega)]
    exact ⟨hle, rfl⟩
  · by_cases h2 : (s.length : Int) > 64
    · simp only [VC, VX, VV, SU, RC, VQ, VQ2, opW, ne_eq, not_false_eq_true, not_true_eq_false, Nat.le_refl, false_implies, reduceIte, Nat.reduceEqDiff, Nat.reduceAdd, Nat.reduceSub, Nat.reduceLeDiff, Nat.reduceLT, Nat.reduceMul, Nat.reduceBEq, reduceCtorEq, Int.natCast_nonneg, Int.toNat_natCast, true_implies, implies_true, List.length_cons, List.length_nil, List.drop_succ_cons, List.drop_zero, List.take_succ_cons, List.take_zero, List.map_cons, List.map_nil, List.getD_cons_zero, List.getD_cons_succ, List.all_cons, List.all_nil, Bool.and_true, Bool.and_self, decide_true, decide_false, Bool.not_true, Bool.not_false, Bool.true_or, Bool.false_or, Bool.or_true, Bool.or_false, Bool.true_and, Bool.false_and, Bool.and_false, bytesAV_length, beq_self_eq_true, and_self, List.append_assoc, List.cons_append, List.nil_append, hl, h1, h2]
      rw [big (fun h => by omega)]
      exact ⟨hle, rfl⟩
    · have ep : parts s = partsL (cut 47 s) := by unfold parts; rw [if_pos ⟨by omega, by omega⟩]
      have hne := cut_ne 47 s
      have hl1 : 1 ≤ (cut 47 s).length := by
        cases h : cut 47 s with
        | nil => exact absurd h hne
        | cons a b => simp
      simp only [VC, VX, VV, SU, RC, VQ, VQ2, opW, ne_eq, not_false_eq_true, not_true_eq_false, Nat.le_refl, false_implies, reduceIte, Nat.reduceEqDiff, Nat.reduceAdd, Nat.reduceSub, Nat.reduceLeDiff, Nat.reduceLT, Nat.reduceMul, Nat.reduceBEq, reduceCtorEq, Int.natCast_nonneg, Int.toNat_natCast, true_implies, implies_true, List.length_cons, List.length_nil, List.drop_succ_cons, List.drop_zero, List.take_succ_cons, List.take_zero, List.map_cons, List.map_nil, List.getD_cons_zero, List.getD_cons_succ, List.all_cons, List.all_nil, Bool.and_true, Bool.and_self, decide_true, decide_false, Bool.not_true, Bool.not_false, Bool.true_or, Bool.false_or, Bool.or_true, Bool.or_false, Bool.true_and, Bool.false_and, Bool.and_false, bytesAV_length, beq_self_eq_true, and_self, List.append_assoc, List.cons_append, List.nil_append, hl, h1, h2]
      refine ⟨⟨by omega, by omega⟩, fun t ht => ?_⟩
      refine VLoop.up (cut 47 s).length (fun k e st' => e.get 4 = .sl .sh (strsAV (cut 47 s)) ∧ e.get 24 = .sl .sh (strsAV (cut 47 s)) ∧ e.get 25 = .int .i64 (cut 47 s).length ∧ e.get 26 = .int .i64 k ∧ k ≤ (cut 47 s).length ∧
        ∃ tk done, e.get 5 = .sl tk (done.map partAV) ∧ done.length = k ∧ (partsL (cut 47 s) = (partsL ((cut 47 s).drop k)).map (done ++ ·)) ∧ Acc 2 st tk st') ?_ ?_
      · simp only [VC, VX, VV, SU, RC, VQ, VQ2, opW, ne_eq, not_false_eq_true, not_true_eq_false, Nat.le_refl, false_implies, reduceIte, Nat.reduceEqDiff, Nat.reduceAdd, Nat.reduceSub, Nat.reduceLeDiff, Nat.reduceLT, Nat.reduceMul, Nat.reduceBEq, reduceCtorEq, Int.natCast_nonneg, Int.toNat_natCast, true_implies, implies_true, List.length_cons, List.length_nil, List.drop_succ_cons, List.drop_zero, List.take_succ_cons, List.take_zero, List.map_cons, List.map_nil, List.getD_cons_zero, List.getD_cons_succ, List.all_cons, List.all_nil, Bool.and_true, Bool.and_self, decide_true, decide_false, Bool.not_true, Bool.not_false, Bool.true_or, Bool.false_or, Bool.or_true, Bool.or_false, Bool.true_and, Bool.false_and, Bool.and_false, bytesAV_length, beq_self_eq_true, and_self, List.append_assoc, List.cons_append, List.nil_append, hl]
        exact ⟨rfl, Nat.zero_le _, .tip t 2, [], rfl, rfl, by simp, Acc.tip hle ht⟩
      · rintro k e st' ⟨h4, h24, h25, h26, hk, tk, done, h5, hd, hp, hacc⟩
        unfold c_parts_L0
        simp only [VC, VX, VV, SU, RC, VQ, VQ2, opW, ne_eq, not_false_eq_true, not_true_eq_false, Nat.le_refl, false_implies, reduceIte, Nat.reduceEqDiff, Nat.reduceAdd, Nat.reduceSub, Nat.reduceLeDiff, Nat.reduceLT, Nat.reduceMul, Nat.reduceBEq, reduceCtorEq, Int.natCast_nonneg, Int.toNat_natCast, true_implies, implies_true, List.length_cons, List.length_nil, List.drop_succ_cons, List.drop_zero, List.take_succ_cons, List.take_zero, List.map_cons, List.map_nil, List.getD_cons_zero, List.getD_cons_succ, List.all_cons, List.all_nil, Bool.and_true, Bool.and_self, decide_true, decide_false, Bool.not_true, Bool.not_false, Bool.true_or, Bool.false_or, Bool.or_true, Bool.or_false, Bool.true_and, Bool.false_and, Bool.and_false, bytesAV_length, beq_self_eq_true, and_self, List.append_assoc, List.cons_append, List.nil_append, h4, h24, h25, h26]
        refine VCond.dec (fun hlt => ?_) (fun hge => ?_)
        · have hlt' : k < (cut 47 s).length := by omega
          have hg : (strsAV (cut 47 s)).getD k .undef = .str (cut 47 s)[k] := by simp [strsAV, List.getD_eq_getElem?_getD, hlt']
          have hw : IntKind.i64.wrap (((cut 47 s).length : Int) - 1) = ((cut 47 s).length : Int) - 1 := wrap_id (by omega) (by omega)
          have hlast : ((k : Int) == ((cut 47 s).length : Int) - 1) = decide (k + 1 = (cut 47 s).length) := by
            by_cases h : k + 1 = (cut 47 s).length
            · simp [h]; omega
            · simp [h]; omega
          have hpd := partsL_drop _ _ hlt'
          simp only [VC, VX, VV, SU, RC, VQ, VQ2, opW, ne_eq, not_false_eq_true, not_true_eq_false, Nat.le_refl, false_implies, reduceIte, Nat.reduceEqDiff, Nat.reduceAdd, Nat.reduceSub, Nat.reduceLeDiff, Nat.reduceLT, Nat.reduceMul, Nat.reduceBEq, reduceCtorEq, Int.natCast_nonneg, Int.toNat_natCast, true_implies, implies_true, List.length_cons, List.length_nil, List.drop_succ_cons, List.drop_zero, List.take_succ_cons, List.take_zero, List.map_cons, List.map_nil, List.getD_cons_zero, List.getD_cons_succ, List.all_cons, List.all_nil, Bool.and_true, Bool.and_self, decide_true, decide_false, Bool.not_true, Bool.not_false, Bool.true_or, Bool.false_or, Bool.or_true, Bool.or_false, Bool.true_and, Bool.false_and, Bool.and_false, bytesAV_length, beq_self_eq_true, and_self, List.append_assoc, List.cons_append, List.nil_append, h4, h24, h25, h26, hlt, hg, hl, hw, hlast]
          refine (of_ok w0 _ _ (by have := cut_mem_le 47 s _ (List.getElem_mem hlt'); omega) st').mono ?_
          rintro r st2 ⟨rfl, hle2⟩
          have hacc := hacc.le hle2
          generalize ofP (cut 47 s)[k] (decide (k + 1 = (cut 47 s).length)) = q at hpd ⊢
          obtain ⟨q, b⟩ := q
          simp only [partAV]
          simp only [VC, VX, VV, SU, RC, VQ, VQ2, opW, ne_eq, not_false_eq_true, not_true_eq_false, Nat.le_refl, false_implies, reduceIte, Nat.reduceEqDiff, Nat.reduceAdd, Nat.reduceSub, Nat.reduceLeDiff, Nat.reduceLT, Nat.reduceMul, Nat.reduceBEq, reduceCtorEq, Int.natCast_nonneg, Int.toNat_natCast, true_implies, implies_true, List.length_cons, List.length_nil, List.drop_succ_cons, List.drop_zero, List.take_succ_cons, List.take_zero, List.map_cons, List.map_nil, List.getD_cons_zero, List.getD_cons_succ, List.all_cons, List.all_nil, Bool.and_true, Bool.and_self, decide_true, decide_false, Bool.not_true, Bool.not_false, Bool.true_or, Bool.false_or, Bool.or_true, Bool.or_false, Bool.true_and, Bool.false_and, Bool.and_false, bytesAV_length, beq_self_eq_true, and_self, List.append_assoc, List.cons_append, List.nil_append]
          intro id hid
          have hacc := (hacc.new (.obj [.int .i64 0, .str []]) hid).upd (.obj [.int .i64 q.1, .str q.2]) (St.le_none hacc.2.1 hid) (hacc.ne hid)
          cases b with
          | false =>
            simp only [VC, VX, VV, SU, RC, VQ, VQ2, opW, ne_eq, not_false_eq_true, not_true_eq_false, Nat.le_refl, false_implies, reduceIte, Nat.reduceEqDiff, Nat.reduceAdd, Nat.reduceSub, Nat.reduceLeDiff, Nat.reduceLT, Nat.reduceMul, Nat.reduceBEq, reduceCtorEq, Int.natCast_nonneg, Int.toNat_natCast, true_implies, implies_true, List.length_cons, List.length_nil, List.drop_succ_cons, List.drop_zero, List.take_succ_cons, List.take_zero, List.map_cons, List.map_nil, List.getD_cons_zero, List.getD_cons_succ, List.all_cons, List.all_nil, Bool.and_true, Bool.and_self, decide_true, decide_false, Bool.not_true, Bool.not_false, Bool.true_or, Bool.false_or, Bool.or_true, Bool.or_false, Bool.true_and, Bool.false_and, Bool.and_false, bytesAV_length, beq_self_eq_true, and_self, List.append_assoc, List.cons_append, List.nil_append]
            have : parts s = none := by rw [ep, hp, hpd]; simp
            rw [this]
            exact ⟨hacc.2.1, rfl⟩
          | true =>
            simp only [VC, VX, VV, SU, RC, VQ, VQ2, opW, ne_eq, not_false_eq_true, not_true_eq_false, Nat.le_refl, false_implies, reduceIte, Nat.reduceEqDiff, Nat.reduceAdd, Nat.reduceSub, Nat.reduceLeDiff, Nat.reduceLT, Nat.reduceMul, Nat.reduceBEq, reduceCtorEq, Int.natCast_nonneg, Int.toNat_natCast, true_implies, implies_true, List.length_cons, List.length_nil, List.drop_succ_cons, List.drop_zero, List.take_succ_cons, List.take_zero, List.map_cons, List.map_nil, List.getD_cons_zero, List.getD_cons_succ, List.all_cons, List.all_nil, Bool.and_true, Bool.and_self, decide_true, decide_false, Bool.not_true, Bool.not_false, Bool.true_or, Bool.false_or, Bool.or_true, Bool.or_false, Bool.true_and, Bool.false_and, Bool.and_false, bytesAV_length, beq_self_eq_true, and_self, List.append_assoc, List.cons_append, List.nil_append, h4, h24, h25, h26, h5]
            intro t2 ht2
            have hacc := hacc.new .tok ht2
            refine ⟨hacc.1, by simp [partAV, AV.csize, AV.cells], ⟨by simp; omega, by simp [maxLen]; omega⟩, fun tk' st4 a1 a2 a3 => ⟨hlt', by rw [wrap_nat (by omega)], by omega, tk', done ++ [q], by simp [partAV], by simp [hd], ?_, hacc.app a1 a2 a3⟩⟩
            rw [hp, hpd]
            cases partsL ((cut 47 s).drop (k + 1)) <;> simp
        · have hk' : k = (cut 47 s).length := by omega
          subst hk'
          unfold c_parts_S0
          simp only [VC, VX, VV, SU, RC, VQ, VQ2, opW, ne_eq, not_false_eq_true, not_true_eq_false, Nat.le_refl, false_implies, reduceIte, Nat.reduceEqDiff, Nat.reduceAdd, Nat.reduceSub, Nat.reduceLeDiff, Nat.reduceLT, Nat.reduceMul, Nat.reduceBEq, reduceCtorEq, Int.natCast_nonneg, Int.toNat_natCast, true_implies, implies_true, List.length_cons, List.length_nil, List.drop_succ_cons, List.drop_zero, List.take_succ_cons, List.take_zero, List.map_cons, List.map_nil, List.getD_cons_zero, List.getD_cons_succ, List.all_cons, List.all_nil, Bool.and_true, Bool.and_self, decide_true, decide_false, Bool.not_true, Bool.not_false, Bool.true_or, Bool.false_or, Bool.or_true, Bool.or_false, Bool.true_and, Bool.false_and, Bool.and_false, bytesAV_length, beq_self_eq_true, and_self, List.append_assoc, List.cons_append, List.nil_append, h4, h24, h25, h26, h5, hge]
          have : parts s = some done := by rw [ep, hp]; simp [partsL]
          rw [this]
          exact ⟨hacc.2.1, tk, rfl⟩

theorem chk_ok (w0 : World) (hM : Mx w0) (s : Bs) (hs : s.length < 4294967281) : PC w0 173 [.str s] (if (parts s).isSome then .niliface else errAV 4) := by
  intro st
  refine ACalls.of_vc (A := c_chk) (is_chk w0) (by simp) ?_
  unfold c_chk
  simp only [VC, VX, VV, SU, RC, VQ, VQ2, opW, ne_eq, not_false_eq_true, not_true_eq_false, Nat.le_refl, false_implies, reduceIte, Nat.reduceEqDiff, Nat.reduceAdd, Nat.reduceSub, Nat.reduceLeDiff, Nat.reduceLT, Nat.reduceMul, Nat.reduceBEq, reduceCtorEq, Int.natCast_nonneg, Int.toNat_natCast, true_implies, implies_true, List.length_cons, List.length_nil, List.drop_succ_cons, List.drop_zero, List.take_succ_cons, List.take_zero, List.map_cons, List.map_nil, List.getD_cons_zero, List.getD_cons_succ, List.all_cons, List.all_nil, Bool.and_true, Bool.and_self, decide_true, decide_false, Bool.not_true, Bool.not_false, Bool.true_or, Bool.false_or, Bool.or_true, Bool.or_false, Bool.true_and, Bool.false_and, Bool.and_false, bytesAV_length, beq_self_eq_true, and_self, List.append_assoc, List.cons_append, List.nil_append]
  refine (parts_ok w0 hM s hs st).mono ?_
  rintro r st1 ⟨hle, h⟩
  cases hp : parts s with
  | some l =>
    rw [hp] at h
    obtain ⟨tk, rfl⟩ := h
    simp only [VC, VX, VV, SU, RC, VQ, VQ2, opW, ne_eq, not_false_eq_true, not_true_eq_false, Nat.le_refl, false_implies, reduceIte, Nat.reduceEqDiff, Nat.reduceAdd, Nat.reduceSub, Nat.reduceLeDiff, Nat.reduceLT, Nat.reduceMul, Nat.reduceBEq, reduceCtorEq, Int.natCast_nonneg, Int.toNat_natCast, true_implies, implies_true, List.length_cons, List.length_nil, List.drop_succ_cons, List.drop_zero, List.take_succ_cons, List.take_zero, List.map_cons, List.map_nil, List.getD_cons_zero, List.getD_cons_succ, List.all_cons, List.all_nil, Bool.and_true, Bool.and_self, decide_true, decide_false, Bool.not_true, Bool.not_false, Bool.true_or, Bool.false_or, Bool.or_true, Bool.or_false, Bool.true_and, Bool.false_and, Bool.and_false, bytesAV_length, beq_self_eq_true, and_self, List.append_assoc, List.cons_append, List.nil_append]
    first | exact hle | exact ⟨rfl, hle⟩ | exact ⟨by simp, hle⟩
  | none =>
    rw [hp] at h
    subst h
    simp only [VC, VX, VV, SU, RC, VQ, VQ2, opW, ne_eq, not_false_eq_true, not_true_eq_false, Nat.le_refl, false_implies, reduceIte, Nat.reduceEqDiff, Nat.reduceAdd, Nat.reduceSub, Nat.reduceLeDiff, Nat.reduceLT, Nat.reduceMul, Nat.reduceBEq, reduceCtorEq, Int.natCast_nonneg, Int.toNat_natCast, true_implies, implies_true, List.length_cons, List.length_nil, List.drop_succ_cons, List.drop_zero, List.take_succ_cons, List.take_zero, List.map_cons, List.map_nil, List.getD_cons_zero, List.getD_cons_succ, List.all_cons, List.all_nil, Bool.and_true, Bool.and_self, decide_true, decide_false, Bool.not_true, Bool.not_false, Bool.true_or, Bool.false_or, Bool.or_true, Bool.or_false, Bool.true_and, Bool.false_and, Bool.and_false, bytesAV_length, beq_self_eq_true, and_self, List.append_assoc, List.cons_append, List.nil_append]
    first | exact hle | exact ⟨rfl, hle⟩ | exact ⟨by simp, hle⟩
end Go.Proofs.YtiipkbkoigcabaaDoor
