/- All tracks of a set: what bits.All and its reference answer. No conditions. -/
import Derived.Test.YtaflhojighiooaaProg
import Derived.KernelRfl
import Derived.Test.YtaflhojighiooaaCfg
namespace Go.Proofs.Ytaflhojighiooaa.VM
open Go Go.RowKit
set_option linter.unusedVariables false
set_option linter.unusedSimpArgs false
set_option maxRecDepth 100000
noncomputable section
def pow2 (n : Int) : Int := ((2 ^ n.toNat : Nat) : Int)
def allB (n : Int) : List Int := if n ≤ 8 then [pow2 n - 1] else [255, pow2 (n - 8) - 1]
def allR (n : Int) : SV := .slI true (bytesC (allB n)) (.sym (allB n).length) false
theorem vc_all1  : (scallI sx0 Try.prog cf0 (sexec sx0 Try.prog cf0 1000) 15 0 [.int .i64 (.lit 1)] (post (.tup [allR 1, .int .i64 (.lit 0)]))) = (((1 : Nat) = (1 : Nat) ∧ ROK eB (1 : Nat) (1 : Nat) true ∧ (1 : Int) = (1 : Int) ∧ True) ∧ (0 : Int) = (0 : Int) ∧ True) := by kernel_rfl
theorem vc_full1  : (scallI sx0 Try.prog cf0 (sexec sx0 Try.prog cf0 1000) 11 0 [.int .i64 (.lit 1)] (post (allR 1))) = ((1 : Nat) = (1 : Nat) ∧ ROK eB (1 : Nat) (1 : Nat) true ∧ (1 : Int) = (1 : Int) ∧ True) := by kernel_rfl
theorem vc_all2  : (scallI sx0 Try.prog cf0 (sexec sx0 Try.prog cf0 1000) 15 0 [.int .i64 (.lit 2)] (post (.tup [allR 2, .int .i64 (.lit 0)]))) = (((1 : Nat) = (1 : Nat) ∧ ROK eB (1 : Nat) (1 : Nat) true ∧ (3 : Int) = (3 : Int) ∧ True) ∧ (0 : Int) = (0 : Int) ∧ True) := by kernel_rfl
theorem vc_full2  : (scallI sx0 Try.prog cf0 (sexec sx0 Try.prog cf0 1000) 11 0 [.int .i64 (.lit 2)] (post (allR 2))) = ((1 : Nat) = (1 : Nat) ∧ ROK eB (1 : Nat) (1 : Nat) true ∧ (3 : Int) = (3 : Int) ∧ True) := by kernel_rfl
theorem vc_all3  : (scallI sx0 Try.prog cf0 (sexec sx0 Try.prog cf0 1000) 15 0 [.int .i64 (.lit 3)] (post (.tup [allR 3, .int .i64 (.lit 0)]))) = (((1 : Nat) = (1 : Nat) ∧ ROK eB (1 : Nat) (1 : Nat) true ∧ (7 : Int) = (7 : Int) ∧ True) ∧ (0 : Int) = (0 : Int) ∧ True) := by kernel_rfl
theorem vc_full3  : (scallI sx0 Try.prog cf0 (sexec sx0 Try.prog cf0 1000) 11 0 [.int .i64 (.lit 3)] (post (allR 3))) = ((1 : Nat) = (1 : Nat) ∧ ROK eB (1 : Nat) (1 : Nat) true ∧ (7 : Int) = (7 : Int) ∧ True) := by kernel_rfl
theorem vc_all4  : (scallI sx0 Try.prog cf0 (sexec sx0 Try.prog cf0 1000) 15 0 [.int .i64 (.lit 4)] (post (.tup [allR 4, .int .i64 (.lit 0)]))) = (((1 : Nat) = (1 : Nat) ∧ ROK eB (1 : Nat) (1 : Nat) true ∧ (15 : Int) = (15 : Int) ∧ True) ∧
  (0 : Int) = (0 : Int) ∧ True) := by kernel_rfl
theorem vc_full4  : (scallI sx0 Try.prog cf0 (sexec sx0 Try.prog cf0 1000) 11 0 [.int .i64 (.lit 4)] (post (allR 4))) = ((1 : Nat) = (1 : Nat) ∧ ROK eB (1 : Nat) (1 : Nat) true ∧ (15 : Int) = (15 : Int) ∧ True) := by kernel_rfl
theorem vc_all5  : (scallI sx0 Try.prog cf0 (sexec sx0 Try.prog cf0 1000) 15 0 [.int .i64 (.lit 5)] (post (.tup [allR 5, .int .i64 (.lit 0)]))) = (((1 : Nat) = (1 : Nat) ∧ ROK eB (1 : Nat) (1 : Nat) true ∧ (31 : Int) = (31 : Int) ∧ True) ∧
  (0 : Int) = (0 : Int) ∧ True) := by kernel_rfl
theorem vc_full5  : (scallI sx0 Try.prog cf0 (sexec sx0 Try.prog cf0 1000) 11 0 [.int .i64 (.lit 5)] (post (allR 5))) = ((1 : Nat) = (1 : Nat) ∧ ROK eB (1 : Nat) (1 : Nat) true ∧ (31 : Int) = (31 : Int) ∧ True) := by kernel_rfl
theorem vc_all6  : (scallI sx0 Try.prog cf0 (sexec sx0 Try.prog cf0 1000) 15 0 [.int .i64 (.lit 6)] (post (.tup [allR 6, .int .i64 (.lit 0)]))) = (((1 : Nat) = (1 : Nat) ∧ ROK eB (1 : Nat) (1 : Nat) true ∧ (63 : Int) = (63 : Int) ∧ True) ∧
  (0 : Int) = (0 : Int) ∧ True) := by kernel_rfl
theorem vc_full6  : (scallI sx0 Try.prog cf0 (sexec sx0 Try.prog cf0 1000) 11 0 [.int .i64 (.lit 6)] (post (allR 6))) = ((1 : Nat) = (1 : Nat) ∧ ROK eB (1 : Nat) (1 : Nat) true ∧ (63 : Int) = (63 : Int) ∧ True) := by kernel_rfl
theorem vc_all7  : (scallI sx0 Try.prog cf0 (sexec sx0 Try.prog cf0 1000) 15 0 [.int .i64 (.lit 7)] (post (.tup [allR 7, .int .i64 (.lit 0)]))) = (((1 : Nat) = (1 : Nat) ∧ ROK eB (1 : Nat) (1 : Nat) true ∧ (127 : Int) = (127 : Int) ∧ True) ∧
  (0 : Int) = (0 : Int) ∧ True) := by kernel_rfl
theorem vc_full7  : (scallI sx0 Try.prog cf0 (sexec sx0 Try.prog cf0 1000) 11 0 [.int .i64 (.lit 7)] (post (allR 7))) = ((1 : Nat) = (1 : Nat) ∧ ROK eB (1 : Nat) (1 : Nat) true ∧ (127 : Int) = (127 : Int) ∧ True) := by kernel_rfl
theorem vc_all8  : (scallI sx0 Try.prog cf0 (sexec sx0 Try.prog cf0 1000) 15 0 [.int .i64 (.lit 8)] (post (.tup [allR 8, .int .i64 (.lit 0)]))) = (((1 : Nat) = (1 : Nat) ∧ ROK eB (1 : Nat) (1 : Nat) true ∧ (255 : Int) = (255 : Int) ∧ True) ∧
  (0 : Int) = (0 : Int) ∧ True) := by kernel_rfl
theorem vc_full8  : (scallI sx0 Try.prog cf0 (sexec sx0 Try.prog cf0 1000) 11 0 [.int .i64 (.lit 8)] (post (allR 8))) = ((1 : Nat) = (1 : Nat) ∧ ROK eB (1 : Nat) (1 : Nat) true ∧ (255 : Int) = (255 : Int) ∧ True) := by kernel_rfl
theorem vc_all9  : (scallI sx0 Try.prog cf0 (sexec sx0 Try.prog cf0 1000) 15 0 [.int .i64 (.lit 9)] (post (.tup [allR 9, .int .i64 (.lit 0)]))) = (((2 : Nat) = (2 : Nat) ∧ ROK eB (1 : Nat) (1 : Nat) true ∧ (255 : Int) = (255 : Int) ∧ (1 : Int) = (1 : Int) ∧ True) ∧
  (0 : Int) = (0 : Int) ∧ True) := by kernel_rfl
theorem vc_full9  : (scallI sx0 Try.prog cf0 (sexec sx0 Try.prog cf0 1000) 11 0 [.int .i64 (.lit 9)] (post (allR 9))) = ((2 : Nat) = (2 : Nat) ∧ ROK eB (1 : Nat) (1 : Nat) true ∧ (255 : Int) = (255 : Int) ∧ (1 : Int) = (1 : Int) ∧ True) := by kernel_rfl
theorem vc_all10  : (scallI sx0 Try.prog cf0 (sexec sx0 Try.prog cf0 1000) 15 0 [.int .i64 (.lit 10)] (post (.tup [allR 10, .int .i64 (.lit 0)]))) = (((2 : Nat) = (2 : Nat) ∧ ROK eB (1 : Nat) (1 : Nat) true ∧ (255 : Int) = (255 : Int) ∧ (3 : Int) = (3 : Int) ∧ True) ∧
  (0 : Int) = (0 : Int) ∧ True) := by kernel_rfl
theorem vc_full10  : (scallI sx0 Try.prog cf0 (sexec sx0 Try.prog cf0 1000) 11 0 [.int .i64 (.lit 10)] (post (allR 10))) = ((2 : Nat) = (2 : Nat) ∧ ROK eB (1 : Nat) (1 : Nat) true ∧ (255 : Int) = (255 : Int) ∧ (3 : Int) = (3 : Int) ∧ True) := by kernel_rfl
theorem vc_all11  : (scallI sx0 Try.prog cf0 (sexec sx0 Try.prog cf0 1000) 15 0 [.int .i64 (.lit 11)] (post (.tup [allR 11, .int .i64 (.lit 0)]))) = (((2 : Nat) = (2 : Nat) ∧ ROK eB (1 : Nat) (1 : Nat) true ∧ (255 : Int) = (255 : Int) ∧ (7 : Int) = (7 : Int) ∧ True) ∧
  (0 : Int) = (0 : Int) ∧ True) := by kernel_rfl
theorem vc_full11  : (scallI sx0 Try.prog cf0 (sexec sx0 Try.prog cf0 1000) 11 0 [.int .i64 (.lit 11)] (post (allR 11))) = ((2 : Nat) = (2 : Nat) ∧ ROK eB (1 : Nat) (1 : Nat) true ∧ (255 : Int) = (255 : Int) ∧ (7 : Int) = (7 : Int) ∧ True) := by kernel_rfl
theorem vc_all12  : (scallI sx0 Try.prog cf0 (sexec sx0 Try.prog cf0 1000) 15 0 [.int .i64 (.lit 12)] (post (.tup [allR 12, .int .i64 (.lit 0)]))) = (((2 : Nat) = (2 : Nat) ∧ ROK eB (1 : Nat) (1 : Nat) true ∧ (255 : Int) = (255 : Int) ∧ (15 : Int) = (15 : Int) ∧ True) ∧
  (0 : Int) = (0 : Int) ∧ True) := by kernel_rfl
theorem vc_full12  : (scallI sx0 Try.prog cf0 (sexec sx0 Try.prog cf0 1000) 11 0 [.int .i64 (.lit 12)] (post (allR 12))) = ((2 : Nat) = (2 : Nat) ∧ ROK eB (1 : Nat) (1 : Nat) true ∧ (255 : Int) = (255 : Int) ∧ (15 : Int) = (15 : Int) ∧ True) := by kernel_rfl
theorem vc_all13  : (scallI sx0 Try.prog cf0 (sexec sx0 Try.prog cf0 1000) 15 0 [.int .i64 (.lit 13)] (post (.tup [allR 13, .int .i64 (.lit 0)]))) = (((2 : Nat) = (2 : Nat) ∧ ROK eB (1 : Nat) (1 : Nat) true ∧ (255 : Int) = (255 : Int) ∧ (31 : Int) = (31 : Int) ∧ True) ∧
  (0 : Int) = (0 : Int) ∧ True) := by kernel_rfl
theorem vc_full13  : (scallI sx0 Try.prog cf0 (sexec sx0 Try.prog cf0 1000) 11 0 [.int .i64 (.lit 13)] (post (allR 13))) = ((2 : Nat) = (2 : Nat) ∧ ROK eB (1 : Nat) (1 : Nat) true ∧ (255 : Int) = (255 : Int) ∧ (31 : Int) = (31 : Int) ∧ True) := by kernel_rfl
theorem vc_all14  : (scallI sx0 Try.prog cf0 (sexec sx0 Try.prog cf0 1000) 15 0 [.int .i64 (.lit 14)] (post (.tup [allR 14, .int .i64 (.lit 0)]))) = (((2 : Nat) = (2 : Nat) ∧ ROK eB (1 : Nat) (1 : Nat) true ∧ (255 : Int) = (255 : Int) ∧ (63 : Int) = (63 : Int) ∧ True) ∧
  (0 : Int) = (0 : Int) ∧ True) := by kernel_rfl
theorem vc_full14  : (scallI sx0 Try.prog cf0 (sexec sx0 Try.prog cf0 1000) 11 0 [.int .i64 (.lit 14)] (post (allR 14))) = ((2 : Nat) = (2 : Nat) ∧ ROK eB (1 : Nat) (1 : Nat) true ∧ (255 : Int) = (255 : Int) ∧ (63 : Int) = (63 : Int) ∧ True) := by kernel_rfl
theorem vc_all15  : (scallI sx0 Try.prog cf0 (sexec sx0 Try.prog cf0 1000) 15 0 [.int .i64 (.lit 15)] (post (.tup [allR 15, .int .i64 (.lit 0)]))) = (((2 : Nat) = (2 : Nat) ∧
    ROK eB (1 : Nat) (1 : Nat) true ∧ (255 : Int) = (255 : Int) ∧ (127 : Int) = (127 : Int) ∧ True) ∧
  (0 : Int) = (0 : Int) ∧ True) := by kernel_rfl
theorem vc_full15  : (scallI sx0 Try.prog cf0 (sexec sx0 Try.prog cf0 1000) 11 0 [.int .i64 (.lit 15)] (post (allR 15))) = ((2 : Nat) = (2 : Nat) ∧ ROK eB (1 : Nat) (1 : Nat) true ∧ (255 : Int) = (255 : Int) ∧ (127 : Int) = (127 : Int) ∧ True) := by kernel_rfl
theorem vc_all16  : (scallI sx0 Try.prog cf0 (sexec sx0 Try.prog cf0 1000) 15 0 [.int .i64 (.lit 16)] (post (.tup [allR 16, .int .i64 (.lit 0)]))) = (((2 : Nat) = (2 : Nat) ∧
    ROK eB (1 : Nat) (1 : Nat) true ∧ (255 : Int) = (255 : Int) ∧ (255 : Int) = (255 : Int) ∧ True) ∧
  (0 : Int) = (0 : Int) ∧ True) := by kernel_rfl
theorem vc_full16  : (scallI sx0 Try.prog cf0 (sexec sx0 Try.prog cf0 1000) 11 0 [.int .i64 (.lit 16)] (post (allR 16))) = ((2 : Nat) = (2 : Nat) ∧ ROK eB (1 : Nat) (1 : Nat) true ∧ (255 : Int) = (255 : Int) ∧ (255 : Int) = (255 : Int) ∧ True) := by kernel_rfl
theorem rok_eB : ROK eB 1 1 true := fun x => ⟨rfl, fun v hv => by rw [List.mem_singleton.1 hv]; exact ⟨trivial, rfl⟩, fun _ v hv => by rw [List.mem_singleton.1 hv]; trivial⟩
theorem all_cases {n : Int} (h1 : 1 ≤ n) (h2 : n ≤ 16) : n = 1 ∨ n = 2 ∨ n = 3 ∨ n = 4 ∨ n = 5 ∨ n = 6 ∨ n = 7 ∨ n = 8 ∨ n = 9 ∨ n = 10 ∨ n = 11 ∨ n = 12 ∨ n = 13 ∨ n = 14 ∨ n = 15 ∨ n = 16 := by omega
theorem sx0_ok : SXOK Try.prog cf0 sx0 := sxok_of all_nil all_nil
theorem all_ct : CtOK Try.prog cf0 15 (Ct (fun n : Int => [i64 n]) (fun n => 1 ≤ n ∧ n ≤ 16) (fun n => .tup [allR n, .int .i64 (.lit 0)])) := by
  refine ct_vc' (m := 1000) sx0_ok fun n hn => ?_
  rcases all_cases hn.1 hn.2 with h | h | h | h | h | h | h | h | h | h | h | h | h | h | h | h <;> subst h
  · exact ⟨[.int .i64 (.lit 1)], ⟨rfl, trivial⟩, by rw [vc_all1]; exact (by first | exact ⟨⟨rfl, rok_eB, rfl, trivial⟩, rfl, trivial⟩ | exact ⟨⟨rfl, rok_eB, rfl, rfl, trivial⟩, rfl, trivial⟩)⟩
  · exact ⟨[.int .i64 (.lit 2)], ⟨rfl, trivial⟩, by rw [vc_all2]; exact (by first | exact ⟨⟨rfl, rok_eB, rfl, trivial⟩, rfl, trivial⟩ | exact ⟨⟨rfl, rok_eB, rfl, rfl, trivial⟩, rfl, trivial⟩)⟩
  · exact ⟨[.int .i64 (.lit 3)], ⟨rfl, trivial⟩, by rw [vc_all3]; exact (by first | exact ⟨⟨rfl, rok_eB, rfl, trivial⟩, rfl, trivial⟩ | exact ⟨⟨rfl, rok_eB, rfl, rfl, trivial⟩, rfl, trivial⟩)⟩
  · exact ⟨[.int .i64 (.lit 4)], ⟨rfl, trivial⟩, by rw [vc_all4]; exact (by first | exact ⟨⟨rfl, rok_eB, rfl, trivial⟩, rfl, trivial⟩ | exact ⟨⟨rfl, rok_eB, rfl, rfl, trivial⟩, rfl, trivial⟩)⟩
  · exact ⟨[.int .i64 (.lit 5)], ⟨rfl, trivial⟩, by rw [vc_all5]; exact (by first | exact ⟨⟨rfl, rok_eB, rfl, trivial⟩, rfl, trivial⟩ | exact ⟨⟨rfl, rok_eB, rfl, rfl, trivial⟩, rfl, trivial⟩)⟩
  · exact ⟨[.int .i64 (.lit 6)], ⟨rfl, trivial⟩, by rw [vc_all6]; exact (by first | exact ⟨⟨rfl, rok_eB, rfl, trivial⟩, rfl, trivial⟩ | exact ⟨⟨rfl, rok_eB, rfl, rfl, trivial⟩, rfl, trivial⟩)⟩
  · exact ⟨[.int .i64 (.lit 7)], ⟨rfl, trivial⟩, by rw [vc_all7]; exact (by first | exact ⟨⟨rfl, rok_eB, rfl, trivial⟩, rfl, trivial⟩ | exact ⟨⟨rfl, rok_eB, rfl, rfl, trivial⟩, rfl, trivial⟩)⟩
  · exact ⟨[.int .i64 (.lit 8)], ⟨rfl, trivial⟩, by rw [vc_all8]; exact (by first | exact ⟨⟨rfl, rok_eB, rfl, trivial⟩, rfl, trivial⟩ | exact ⟨⟨rfl, rok_eB, rfl, rfl, trivial⟩, rfl, trivial⟩)⟩
  · exact ⟨[.int .i64 (.lit 9)], ⟨rfl, trivial⟩, by rw [vc_all9]; exact (by first | exact ⟨⟨rfl, rok_eB, rfl, trivial⟩, rfl, trivial⟩ | exact ⟨⟨rfl, rok_eB, rfl, rfl, trivial⟩, rfl, trivial⟩)⟩
  · exact ⟨[.int .i64 (.lit 10)], ⟨rfl, trivial⟩, by rw [vc_all10]; exact (by first | exact ⟨⟨rfl, rok_eB, rfl, trivial⟩, rfl, trivial⟩ | exact ⟨⟨rfl, rok_eB, rfl, rfl, trivial⟩, rfl, trivial⟩)⟩
  · exact ⟨[.int .i64 (.lit 11)], ⟨rfl, trivial⟩, by rw [vc_all11]; exact (by first | exact ⟨⟨rfl, rok_eB, rfl, trivial⟩, rfl, trivial⟩ | exact ⟨⟨rfl, rok_eB, rfl, rfl, trivial⟩, rfl, trivial⟩)⟩
  · exact ⟨[.int .i64 (.lit 12)], ⟨rfl, trivial⟩, by rw [vc_all12]; exact (by first | exact ⟨⟨rfl, rok_eB, rfl, trivial⟩, rfl, trivial⟩ | exact ⟨⟨rfl, rok_eB, rfl, rfl, trivial⟩, rfl, trivial⟩)⟩
  · exact ⟨[.int .i64 (.lit 13)], ⟨rfl, trivial⟩, by rw [vc_all13]; exact (by first | exact ⟨⟨rfl, rok_eB, rfl, trivial⟩, rfl, trivial⟩ | exact ⟨⟨rfl, rok_eB, rfl, rfl, trivial⟩, rfl, trivial⟩)⟩
  · exact ⟨[.int .i64 (.lit 14)], ⟨rfl, trivial⟩, by rw [vc_all14]; exact (by first | exact ⟨⟨rfl, rok_eB, rfl, trivial⟩, rfl, trivial⟩ | exact ⟨⟨rfl, rok_eB, rfl, rfl, trivial⟩, rfl, trivial⟩)⟩
  · exact ⟨[.int .i64 (.lit 15)], ⟨rfl, trivial⟩, by rw [vc_all15]; exact (by first | exact ⟨⟨rfl, rok_eB, rfl, trivial⟩, rfl, trivial⟩ | exact ⟨⟨rfl, rok_eB, rfl, rfl, trivial⟩, rfl, trivial⟩)⟩
  · exact ⟨[.int .i64 (.lit 16)], ⟨rfl, trivial⟩, by rw [vc_all16]; exact (by first | exact ⟨⟨rfl, rok_eB, rfl, trivial⟩, rfl, trivial⟩ | exact ⟨⟨rfl, rok_eB, rfl, rfl, trivial⟩, rfl, trivial⟩)⟩
theorem full_ct : CtOK Try.prog cf0 11 (Ct (fun n : Int => [i64 n]) (fun n => 1 ≤ n ∧ n ≤ 16) (fun n => allR n)) := by
  refine ct_vc' (m := 1000) sx0_ok fun n hn => ?_
  rcases all_cases hn.1 hn.2 with h | h | h | h | h | h | h | h | h | h | h | h | h | h | h | h <;> subst h
  · exact ⟨[.int .i64 (.lit 1)], ⟨rfl, trivial⟩, by rw [vc_full1]; exact (by first | exact ⟨rfl, rok_eB, rfl, trivial⟩ | exact ⟨rfl, rok_eB, rfl, rfl, trivial⟩)⟩
  · exact ⟨[.int .i64 (.lit 2)], ⟨rfl, trivial⟩, by rw [vc_full2]; exact (by first | exact ⟨rfl, rok_eB, rfl, trivial⟩ | exact ⟨rfl, rok_eB, rfl, rfl, trivial⟩)⟩
  · exact ⟨[.int .i64 (.lit 3)], ⟨rfl, trivial⟩, by rw [vc_full3]; exact (by first | exact ⟨rfl, rok_eB, rfl, trivial⟩ | exact ⟨rfl, rok_eB, rfl, rfl, trivial⟩)⟩
  · exact ⟨[.int .i64 (.lit 4)], ⟨rfl, trivial⟩, by rw [vc_full4]; exact (by first | exact ⟨rfl, rok_eB, rfl, trivial⟩ | exact ⟨rfl, rok_eB, rfl, rfl, trivial⟩)⟩
  · exact ⟨[.int .i64 (.lit 5)], ⟨rfl, trivial⟩, by rw [vc_full5]; exact (by first | exact ⟨rfl, rok_eB, rfl, trivial⟩ | exact ⟨rfl, rok_eB, rfl, rfl, trivial⟩)⟩
  · exact ⟨[.int .i64 (.lit 6)], ⟨rfl, trivial⟩, by rw [vc_full6]; exact (by first | exact ⟨rfl, rok_eB, rfl, trivial⟩ | exact ⟨rfl, rok_eB, rfl, rfl, trivial⟩)⟩
  · exact ⟨[.int .i64 (.lit 7)], ⟨rfl, trivial⟩, by rw [vc_full7]; exact (by first | exact ⟨rfl, rok_eB, rfl, trivial⟩ | exact ⟨rfl, rok_eB, rfl, rfl, trivial⟩)⟩
  · exact ⟨[.int .i64 (.lit 8)], ⟨rfl, trivial⟩, by rw [vc_full8]; exact (by first | exact ⟨rfl, rok_eB, rfl, trivial⟩ | exact ⟨rfl, rok_eB, rfl, rfl, trivial⟩)⟩
  · exact ⟨[.int .i64 (.lit 9)], ⟨rfl, trivial⟩, by rw [vc_full9]; exact (by first | exact ⟨rfl, rok_eB, rfl, trivial⟩ | exact ⟨rfl, rok_eB, rfl, rfl, trivial⟩)⟩
  · exact ⟨[.int .i64 (.lit 10)], ⟨rfl, trivial⟩, by rw [vc_full10]; exact (by first | exact ⟨rfl, rok_eB, rfl, trivial⟩ | exact ⟨rfl, rok_eB, rfl, rfl, trivial⟩)⟩
  · exact ⟨[.int .i64 (.lit 11)], ⟨rfl, trivial⟩, by rw [vc_full11]; exact (by first | exact ⟨rfl, rok_eB, rfl, trivial⟩ | exact ⟨rfl, rok_eB, rfl, rfl, trivial⟩)⟩
  · exact ⟨[.int .i64 (.lit 12)], ⟨rfl, trivial⟩, by rw [vc_full12]; exact (by first | exact ⟨rfl, rok_eB, rfl, trivial⟩ | exact ⟨rfl, rok_eB, rfl, rfl, trivial⟩)⟩
  · exact ⟨[.int .i64 (.lit 13)], ⟨rfl, trivial⟩, by rw [vc_full13]; exact (by first | exact ⟨rfl, rok_eB, rfl, trivial⟩ | exact ⟨rfl, rok_eB, rfl, rfl, trivial⟩)⟩
  · exact ⟨[.int .i64 (.lit 14)], ⟨rfl, trivial⟩, by rw [vc_full14]; exact (by first | exact ⟨rfl, rok_eB, rfl, trivial⟩ | exact ⟨rfl, rok_eB, rfl, rfl, trivial⟩)⟩
  · exact ⟨[.int .i64 (.lit 15)], ⟨rfl, trivial⟩, by rw [vc_full15]; exact (by first | exact ⟨rfl, rok_eB, rfl, trivial⟩ | exact ⟨rfl, rok_eB, rfl, rfl, trivial⟩)⟩
  · exact ⟨[.int .i64 (.lit 16)], ⟨rfl, trivial⟩, by rw [vc_full16]; exact (by first | exact ⟨rfl, rok_eB, rfl, trivial⟩ | exact ⟨rfl, rok_eB, rfl, rfl, trivial⟩)⟩

end
end Go.Proofs.Ytaflhojighiooaa.VM
