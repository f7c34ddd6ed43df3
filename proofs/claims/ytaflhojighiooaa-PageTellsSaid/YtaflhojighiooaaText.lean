/- Pages' texts, in modes. No conditions. -/
import Derived.Test.YtaflhojighiooaaProg
import Derived.KernelRfl
import Derived.Test.YtaflhojighiooaaModes
namespace Go.Proofs.Ytaflhojighiooaa.VM
open Go Go.RowKit
set_option linter.unusedVariables false
set_option linter.unusedSimpArgs false
set_option maxRecDepth 100000
noncomputable section
theorem vg_text (a : PArg) : (scallI sxG Try.prog cf0 (sexec sxG Try.prog cf0 1000) 4 0 a.l (post (.tup [txtL a.pair a.n a.bits, .int .i64 (.lit 0)]))) = (∃ (y1 : Conf),
  ((Conf.pairs (PArg.c a) = Conf.pairs y1 ∧
        Conf.tracks (PArg.c a) = Conf.tracks y1 ∧
          Conf.area (PArg.c a) = Conf.area y1 ∧
            Conf.most (PArg.c a) = Conf.most y1 ∧
              Conf.window (PArg.c a) = Conf.window y1 ∧ Conf.quiet (PArg.c a) = Conf.quiet y1 ∧ True) ∧
      True) ∧
    ((1 : Int) ≤ Conf.pairs y1 ∧
        Conf.pairs y1 ≤ (3 : Int) ∧
          (1 : Int) ≤ Conf.tracks y1 ∧
            Conf.tracks y1 ≤ (16 : Int) ∧
              Conf.pairs y1 + (2 : Int) ≤ Conf.area y1 ∧
                Conf.area y1 ≤ (32 : Int) ∧
                  (1 : Int) ≤ Conf.most y1 ∧
                    Conf.most y1 ≤ Conf.pairs y1 ∧
                      (1 : Int) ≤ Conf.window y1 ∧
                        Conf.window y1 ≤ (4 : Int) ∧ (4 : Int) ≤ Conf.quiet y1 ∧ Conf.quiet y1 ≤ (64 : Int)) ∧
      (PArg.pair a < (0 : Int) → ((32 : Nat) = (0 : Nat) ∧ True) ∧ (2 : Int) = (0 : Int) ∧ True) ∧
        (¬PArg.pair a < (0 : Int) →
          (IntKind.wrap IntKind.i64 (Conf.pairs (PArg.c a) - (1 : Int)) < PArg.pair a →
              ((32 : Nat) = (0 : Nat) ∧ True) ∧ (2 : Int) = (0 : Int) ∧ True) ∧
            (¬IntKind.wrap IntKind.i64 (Conf.pairs (PArg.c a) - (1 : Int)) < PArg.pair a →
              (PArg.n a < (0 : Int) → ((32 : Nat) = (0 : Nat) ∧ True) ∧ (2 : Int) = (0 : Int) ∧ True) ∧
                (¬PArg.n a < (0 : Int) →
                  (IntKind.wrap IntKind.i64
                          (IntKind.wrap IntKind.i64
                              (Int.tdiv
                                (IntKind.wrap IntKind.i64
                                  (IntKind.wrap IntKind.i64 (Conf.tracks (PArg.c a) + (8 : Int)) - (1 : Int)))
                                (8 : Int)) -
                            (1 : Int)) <
                        PArg.n a →
                      ((32 : Nat) = (0 : Nat) ∧ True) ∧ (2 : Int) = (0 : Int) ∧ True) ∧
                    (¬IntKind.wrap IntKind.i64
                            (IntKind.wrap IntKind.i64
                                (Int.tdiv
                                  (IntKind.wrap IntKind.i64
                                    (IntKind.wrap IntKind.i64 (Conf.tracks (PArg.c a) + (8 : Int)) - (1 : Int)))
                                  (8 : Int)) -
                              (1 : Int)) <
                          PArg.n a →
                      ∃ (y2 : Int),
                        (Conf.tracks (PArg.c a) = y2 ∧ True) ∧
                          ((1 : Int) ≤ y2 ∧ y2 ≤ (16 : Int)) ∧
                            (0 : Int) ≤ PArg.n a ∧
                              PArg.n a < ↑(List.length (allB y2)) ∧
                                Int.toNat (PArg.n a) < List.length (allB y2) ∧
                                  ∀ (y3 : Int),
                                    (allB y2)[Int.toNat (PArg.n a)]? = some y3 →
                                      (¬IntKind.wrap IntKind.u8
                                                ↑(BitVec.toNat
                                                    (BitVec.ofInt (8 : Nat) (PArg.bits a) &&&
                                                      ~~~BitVec.ofInt (8 : Nat) y3)) =
                                              (0 : Int) →
                                          ((32 : Nat) = (0 : Nat) ∧ True) ∧ (2 : Int) = (0 : Int) ∧ True) ∧
                                        (¬¬IntKind.wrap IntKind.u8
                                                  ↑(BitVec.toNat
                                                      (BitVec.ofInt (8 : Nat) (PArg.bits a) &&&
                                                        ~~~BitVec.ofInt (8 : Nat) y3)) =
                                                (0 : Int) →
                                          ((32 : Nat) = (32 : Nat) ∧
                                              (1 : Int) = (1 : Int) ∧
                                                IntKind.wrap IntKind.u8 (PArg.pair a) =
                                                    IntKind.wrap IntKind.u8 (PArg.pair a) ∧
                                                  IntKind.wrap IntKind.u8 (PArg.n a) =
                                                      IntKind.wrap IntKind.u8 (PArg.n a) ∧
                                                    PArg.bits a = PArg.bits a ∧
                                                      (0 : Int) = (0 : Int) ∧
                                                        (0 : Int) = (0 : Int) ∧
                                                          (0 : Int) = (0 : Int) ∧
                                                            (0 : Int) = (0 : Int) ∧
                                                              (0 : Int) = (0 : Int) ∧
                                                                (0 : Int) = (0 : Int) ∧
                                                                  (0 : Int) = (0 : Int) ∧
                                                                    (0 : Int) = (0 : Int) ∧
                                                                      (0 : Int) = (0 : Int) ∧
                                                                        (0 : Int) = (0 : Int) ∧
                                                                          (0 : Int) = (0 : Int) ∧
                                                                            (0 : Int) = (0 : Int) ∧
                                                                              (0 : Int) = (0 : Int) ∧
                                                                                (0 : Int) = (0 : Int) ∧
                                                                                  (0 : Int) = (0 : Int) ∧
                                                                                    (0 : Int) = (0 : Int) ∧
                                                                                      (0 : Int) = (0 : Int) ∧
                                                                                        (0 : Int) = (0 : Int) ∧
                                                                                          (0 : Int) = (0 : Int) ∧
                                                                                            (0 : Int) = (0 : Int) ∧
                                                                                              (0 : Int) = (0 : Int) ∧
                                                                                                (0 : Int) = (0 : Int) ∧
                                                                                                  (0 : Int) =
                                                                                                      (0 : Int) ∧
                                                                                                    (0 : Int) =
                                                                                                        (0 : Int) ∧
                                                                                                      (0 : Int) =
                                                                                                          (0 : Int) ∧
                                                                                                        (0 : Int) =
                                                                                                            (0 : Int) ∧
                                                                                                          (0 : Int) =
                                                                                                              (0 :
                                                                                                                Int) ∧
                                                                                                            (0 : Int) =
                                                                                                                (0 :
                                                                                                                  Int) ∧
                                                                                                              True) ∧
                                            (0 : Int) = (0 : Int) ∧ True)))))) := by kernel_rfl
theorem vp_text (a : PArg) : (scallI sxG Try.prog cf0 (sexec sxG Try.prog cf0 1000) 4 0 a.l (post (.tup [.nilSl, .int .i64 (.lit 2)]))) = (∃ (y1 : Conf),
  ((Conf.pairs (PArg.c a) = Conf.pairs y1 ∧
        Conf.tracks (PArg.c a) = Conf.tracks y1 ∧
          Conf.area (PArg.c a) = Conf.area y1 ∧
            Conf.most (PArg.c a) = Conf.most y1 ∧
              Conf.window (PArg.c a) = Conf.window y1 ∧ Conf.quiet (PArg.c a) = Conf.quiet y1 ∧ True) ∧
      True) ∧
    ((1 : Int) ≤ Conf.pairs y1 ∧
        Conf.pairs y1 ≤ (3 : Int) ∧
          (1 : Int) ≤ Conf.tracks y1 ∧
            Conf.tracks y1 ≤ (16 : Int) ∧
              Conf.pairs y1 + (2 : Int) ≤ Conf.area y1 ∧
                Conf.area y1 ≤ (32 : Int) ∧
                  (1 : Int) ≤ Conf.most y1 ∧
                    Conf.most y1 ≤ Conf.pairs y1 ∧
                      (1 : Int) ≤ Conf.window y1 ∧
                        Conf.window y1 ≤ (4 : Int) ∧ (4 : Int) ≤ Conf.quiet y1 ∧ Conf.quiet y1 ≤ (64 : Int)) ∧
      (PArg.pair a < (0 : Int) → True ∧ (2 : Int) = (2 : Int) ∧ True) ∧
        (¬PArg.pair a < (0 : Int) →
          (IntKind.wrap IntKind.i64 (Conf.pairs (PArg.c a) - (1 : Int)) < PArg.pair a →
              True ∧ (2 : Int) = (2 : Int) ∧ True) ∧
            (¬IntKind.wrap IntKind.i64 (Conf.pairs (PArg.c a) - (1 : Int)) < PArg.pair a →
              (PArg.n a < (0 : Int) → True ∧ (2 : Int) = (2 : Int) ∧ True) ∧
                (¬PArg.n a < (0 : Int) →
                  (IntKind.wrap IntKind.i64
                          (IntKind.wrap IntKind.i64
                              (Int.tdiv
                                (IntKind.wrap IntKind.i64
                                  (IntKind.wrap IntKind.i64 (Conf.tracks (PArg.c a) + (8 : Int)) - (1 : Int)))
                                (8 : Int)) -
                            (1 : Int)) <
                        PArg.n a →
                      True ∧ (2 : Int) = (2 : Int) ∧ True) ∧
                    (¬IntKind.wrap IntKind.i64
                            (IntKind.wrap IntKind.i64
                                (Int.tdiv
                                  (IntKind.wrap IntKind.i64
                                    (IntKind.wrap IntKind.i64 (Conf.tracks (PArg.c a) + (8 : Int)) - (1 : Int)))
                                  (8 : Int)) -
                              (1 : Int)) <
                          PArg.n a →
                      ∃ (y2 : Int),
                        (Conf.tracks (PArg.c a) = y2 ∧ True) ∧
                          ((1 : Int) ≤ y2 ∧ y2 ≤ (16 : Int)) ∧
                            (0 : Int) ≤ PArg.n a ∧
                              PArg.n a < ↑(List.length (allB y2)) ∧
                                Int.toNat (PArg.n a) < List.length (allB y2) ∧
                                  ∀ (y3 : Int),
                                    (allB y2)[Int.toNat (PArg.n a)]? = some y3 →
                                      (¬IntKind.wrap IntKind.u8
                                                ↑(BitVec.toNat
                                                    (BitVec.ofInt (8 : Nat) (PArg.bits a) &&&
                                                      ~~~BitVec.ofInt (8 : Nat) y3)) =
                                              (0 : Int) →
                                          True ∧ (2 : Int) = (2 : Int) ∧ True) ∧
                                        (¬¬IntKind.wrap IntKind.u8
                                                  ↑(BitVec.toNat
                                                      (BitVec.ofInt (8 : Nat) (PArg.bits a) &&&
                                                        ~~~BitVec.ofInt (8 : Nat) y3)) =
                                                (0 : Int) →
                                          Stuck (11 : Nat) ∧ (0 : Int) = (2 : Int) ∧ True)))))) := by kernel_rfl
theorem vb_text (a : PArg) : (scallI sxB Try.prog cf0 (sexec sxB Try.prog cf0 1000) 4 0 a.l (post (.tup [.nilSl, .int .i64 (.lit 8)]))) = (∃ (y1 : Conf),
  ((Conf.pairs (PArg.c a) = Conf.pairs y1 ∧
        Conf.tracks (PArg.c a) = Conf.tracks y1 ∧
          Conf.area (PArg.c a) = Conf.area y1 ∧
            Conf.most (PArg.c a) = Conf.most y1 ∧
              Conf.window (PArg.c a) = Conf.window y1 ∧ Conf.quiet (PArg.c a) = Conf.quiet y1 ∧ True) ∧
      True) ∧
    ¬Conf.ok y1 ∧ True ∧ (8 : Int) = (8 : Int) ∧ True) := by kernel_rfl
theorem vg_rtext (a : PArg) : (scallI sxG Try.prog cf0 (sexec sxG Try.prog cf0 1000) 5 0 a.l (post (.tup [txtL a.pair a.n a.bits, .int .i64 (.lit 0)]))) = (∃ (y1 : Conf),
  ((Conf.pairs (PArg.c a) = Conf.pairs y1 ∧
        Conf.tracks (PArg.c a) = Conf.tracks y1 ∧
          Conf.area (PArg.c a) = Conf.area y1 ∧
            Conf.most (PArg.c a) = Conf.most y1 ∧
              Conf.window (PArg.c a) = Conf.window y1 ∧ Conf.quiet (PArg.c a) = Conf.quiet y1 ∧ True) ∧
      True) ∧
    ((1 : Int) ≤ Conf.pairs y1 ∧
        Conf.pairs y1 ≤ (3 : Int) ∧
          (1 : Int) ≤ Conf.tracks y1 ∧
            Conf.tracks y1 ≤ (16 : Int) ∧
              Conf.pairs y1 + (2 : Int) ≤ Conf.area y1 ∧
                Conf.area y1 ≤ (32 : Int) ∧
                  (1 : Int) ≤ Conf.most y1 ∧
                    Conf.most y1 ≤ Conf.pairs y1 ∧
                      (1 : Int) ≤ Conf.window y1 ∧
                        Conf.window y1 ≤ (4 : Int) ∧ (4 : Int) ≤ Conf.quiet y1 ∧ Conf.quiet y1 ≤ (64 : Int)) ∧
      ((0 : Int) ≤ PArg.pair a →
          (¬PArg.pair a ≤ IntKind.wrap IntKind.i64 (Conf.pairs (PArg.c a) - (1 : Int)) →
              ((32 : Nat) = (0 : Nat) ∧ True) ∧ (2 : Int) = (0 : Int) ∧ True) ∧
            (¬¬PArg.pair a ≤ IntKind.wrap IntKind.i64 (Conf.pairs (PArg.c a) - (1 : Int)) →
              ((8 : Int) < Conf.tracks (PArg.c a) →
                  ((0 : Int) ≤ PArg.n a →
                      (¬PArg.n a ≤ (1 : Int) → ((32 : Nat) = (0 : Nat) ∧ True) ∧ (2 : Int) = (0 : Int) ∧ True) ∧
                        (¬¬PArg.n a ≤ (1 : Int) →
                          ((8 : Int) < Conf.tracks (PArg.c a) →
                              ((8 : Int) < Conf.tracks (PArg.c a) →
                                  ∃ (y2 : Int),
                                    (Conf.tracks (PArg.c a) = y2 ∧ True) ∧
                                      ((1 : Int) ≤ y2 ∧ y2 ≤ (16 : Int)) ∧
                                        (0 : Int) ≤ PArg.n a ∧
                                          PArg.n a < ↑(List.length (allB y2)) ∧
                                            Int.toNat (PArg.n a) < List.length (allB y2) ∧
                                              ∀ (y3 : Int),
                                                (allB y2)[Int.toNat (PArg.n a)]? = some y3 →
                                                  (¬IntKind.wrap IntKind.u8
                                                            ↑(Int.toNat (PArg.bits a % (256 : Int)) &&&
                                                                Int.toNat (y3 % (256 : Int))) =
                                                          PArg.bits a →
                                                      ((32 : Nat) = (0 : Nat) ∧ True) ∧ (2 : Int) = (0 : Int) ∧ True) ∧
                                                    (¬¬IntKind.wrap IntKind.u8
                                                              ↑(Int.toNat (PArg.bits a % (256 : Int)) &&&
                                                                  Int.toNat (y3 % (256 : Int))) =
                                                            PArg.bits a →
                                                      ((32 : Nat) = (32 : Nat) ∧
                                                          (1 : Int) = (1 : Int) ∧
                                                            IntKind.wrap IntKind.u8 (PArg.pair a) =
                                                                IntKind.wrap IntKind.u8 (PArg.pair a) ∧
                                                              IntKind.wrap IntKind.u8 (PArg.n a) =
                                                                  IntKind.wrap IntKind.u8 (PArg.n a) ∧
                                                                PArg.bits a = PArg.bits a ∧
                                                                  (0 : Int) = (0 : Int) ∧
                                                                    (0 : Int) = (0 : Int) ∧
                                                                      (0 : Int) = (0 : Int) ∧
                                                                        (0 : Int) = (0 : Int) ∧
                                                                          (0 : Int) = (0 : Int) ∧
                                                                            (0 : Int) = (0 : Int) ∧
                                                                              (0 : Int) = (0 : Int) ∧
                                                                                (0 : Int) = (0 : Int) ∧
                                                                                  (0 : Int) = (0 : Int) ∧
                                                                                    (0 : Int) = (0 : Int) ∧
                                                                                      (0 : Int) = (0 : Int) ∧
                                                                                        (0 : Int) = (0 : Int) ∧
                                                                                          (0 : Int) = (0 : Int) ∧
                                                                                            (0 : Int) = (0 : Int) ∧
                                                                                              (0 : Int) = (0 : Int) ∧
                                                                                                (0 : Int) = (0 : Int) ∧
                                                                                                  (0 : Int) =
                                                                                                      (0 : Int) ∧
                                                                                                    (0 : Int) =
                                                                                                        (0 : Int) ∧
                                                                                                      (0 : Int) =
                                                                                                          (0 : Int) ∧
                                                                                                        (0 : Int) =
                                                                                                            (0 : Int) ∧
                                                                                                          (0 : Int) =
                                                                                                              (0 :
                                                                                                                Int) ∧
                                                                                                            (0 : Int) =
                                                                                                                (0 :
                                                                                                                  Int) ∧
                                                                                                              (0 :
                                                                                                                    Int) =
                                                                                                                  (0 :
                                                                                                                    Int) ∧
                                                                                                                (0 :
                                                                                                                      Int) =
                                                                                                                    (0 :
                                                                                                                      Int) ∧
                                                                                                                  (0 :
                                                                                                                        Int) =
                                                                                                                      (0 :
                                                                                                                        Int) ∧
                                                                                                                    (0 :
                                                                                                                          Int) =
                                                                                                                        (0 :
                                                                                                                          Int) ∧
                                                                                                                      (0 :
                                                                                                                            Int) =
                                                                                                                          (0 :
                                                                                                                            Int) ∧
                                                                                                                        (0 :
                                                                                                                              Int) =
                                                                                                                            (0 :
                                                                                                                              Int) ∧
                                                                                                                          True) ∧
                                                        (0 : Int) = (0 : Int) ∧ True)) ∧
                                (¬(8 : Int) < Conf.tracks (PArg.c a) →
                                  ∃ (y2 : Int),
                                    (Conf.tracks (PArg.c a) = y2 ∧ True) ∧
                                      ((1 : Int) ≤ y2 ∧ y2 ≤ (16 : Int)) ∧
                                        (0 : Int) ≤ PArg.n a ∧
                                          PArg.n a < ↑(List.length (allB y2)) ∧
                                            Int.toNat (PArg.n a) < List.length (allB y2) ∧
                                              ∀ (y3 : Int),
                                                (allB y2)[Int.toNat (PArg.n a)]? = some y3 →
                                                  (¬IntKind.wrap IntKind.u8
                                                            ↑(Int.toNat (PArg.bits a % (256 : Int)) &&&
                                                                Int.toNat (y3 % (256 : Int))) =
                                                          PArg.bits a →
                                                      ((32 : Nat) = (0 : Nat) ∧ True) ∧ (2 : Int) = (0 : Int) ∧ True) ∧
                                                    (¬¬IntKind.wrap IntKind.u8
                                                              ↑(Int.toNat (PArg.bits a % (256 : Int)) &&&
                                                                  Int.toNat (y3 % (256 : Int))) =
                                                            PArg.bits a →
                                                      ((32 : Nat) = (32 : Nat) ∧
                                                          (1 : Int) = (1 : Int) ∧
                                                            IntKind.wrap IntKind.u8 (PArg.pair a) =
                                                                IntKind.wrap IntKind.u8 (PArg.pair a) ∧
                                                              IntKind.wrap IntKind.u8 (PArg.n a) =
                                                                  IntKind.wrap IntKind.u8 (PArg.n a) ∧
                                                                PArg.bits a = PArg.bits a ∧
                                                                  (0 : Int) = (0 : Int) ∧
                                                                    (0 : Int) = (0 : Int) ∧
                                                                      (0 : Int) = (0 : Int) ∧
                                                                        (0 : Int) = (0 : Int) ∧
                                                                          (0 : Int) = (0 : Int) ∧
                                                                            (0 : Int) = (0 : Int) ∧
                                                                              (0 : Int) = (0 : Int) ∧
                                                                                (0 : Int) = (0 : Int) ∧
                                                                                  (0 : Int) = (0 : Int) ∧
                                                                                    (0 : Int) = (0 : Int) ∧
                                                                                      (0 : Int) = (0 : Int) ∧
                                                                                        (0 : Int) = (0 : Int) ∧
                                                                                          (0 : Int) = (0 : Int) ∧
                                                                                            (0 : Int) = (0 : Int) ∧
                                                                                              (0 : Int) = (0 : Int) ∧
                                                                                                (0 : Int) = (0 : Int) ∧
                                                                                                  (0 : Int) =
                                                                                                      (0 : Int) ∧
                                                                                                    (0 : Int) =
                                                                                                        (0 : Int) ∧
                                                                                                      (0 : Int) =
                                                                                                          (0 : Int) ∧
                                                                                                        (0 : Int) =
                                                                                                            (0 : Int) ∧
                                                                                                          (0 : Int) =
                                                                                                              (0 :
                                                                                                                Int) ∧
                                                                                                            (0 : Int) =
                                                                                                                (0 :
                                                                                                                  Int) ∧
                                                                                                              (0 :
                                                                                                                    Int) =
                                                                                                                  (0 :
                                                                                                                    Int) ∧
                                                                                                                (0 :
                                                                                                                      Int) =
                                                                                                                    (0 :
                                                                                                                      Int) ∧
                                                                                                                  (0 :
                                                                                                                        Int) =
                                                                                                                      (0 :
                                                                                                                        Int) ∧
                                                                                                                    (0 :
                                                                                                                          Int) =
                                                                                                                        (0 :
                                                                                                                          Int) ∧
                                                                                                                      (0 :
                                                                                                                            Int) =
                                                                                                                          (0 :
                                                                                                                            Int) ∧
                                                                                                                        (0 :
                                                                                                                              Int) =
                                                                                                                            (0 :
                                                                                                                              Int) ∧
                                                                                                                          True) ∧
                                                        (0 : Int) = (0 : Int) ∧ True))) ∧
                            (¬(8 : Int) < Conf.tracks (PArg.c a) →
                              ((8 : Int) < Conf.tracks (PArg.c a) →
                                  ∃ (y2 : Int),
                                    (Conf.tracks (PArg.c a) = y2 ∧ True) ∧
                                      ((1 : Int) ≤ y2 ∧ y2 ≤ (16 : Int)) ∧
                                        (0 : Int) ≤ PArg.n a ∧
                                          PArg.n a < ↑(List.length (allB y2)) ∧
                                            Int.toNat (PArg.n a) < List.length (allB y2) ∧
                                              ∀ (y3 : Int),
                                                (allB y2)[Int.toNat (PArg.n a)]? = some y3 →
                                                  (¬IntKind.wrap IntKind.u8
                                                            ↑(Int.toNat (PArg.bits a % (256 : Int)) &&&
                                                                Int.toNat (y3 % (256 : Int))) =
                                                          PArg.bits a →
                                                      ((32 : Nat) = (0 : Nat) ∧ True) ∧ (2 : Int) = (0 : Int) ∧ True) ∧
                                                    (¬¬IntKind.wrap IntKind.u8
                                                              ↑(Int.toNat (PArg.bits a % (256 : Int)) &&&
                                                                  Int.toNat (y3 % (256 : Int))) =
                                                            PArg.bits a →
                                                      ((32 : Nat) = (32 : Nat) ∧
                                                          (1 : Int) = (1 : Int) ∧
                                                            IntKind.wrap IntKind.u8 (PArg.pair a) =
                                                                IntKind.wrap IntKind.u8 (PArg.pair a) ∧
                                                              IntKind.wrap IntKind.u8 (PArg.n a) =
                                                                  IntKind.wrap IntKind.u8 (PArg.n a) ∧
                                                                PArg.bits a = PArg.bits a ∧
                                                                  (0 : Int) = (0 : Int) ∧
                                                                    (0 : Int) = (0 : Int) ∧
                                                                      (0 : Int) = (0 : Int) ∧
                                                                        (0 : Int) = (0 : Int) ∧
                                                                          (0 : Int) = (0 : Int) ∧
                                                                            (0 : Int) = (0 : Int) ∧
                                                                              (0 : Int) = (0 : Int) ∧
                                                                                (0 : Int) = (0 : Int) ∧
                                                                                  (0 : Int) = (0 : Int) ∧
                                                                                    (0 : Int) = (0 : Int) ∧
                                                                                      (0 : Int) = (0 : Int) ∧
                                                                                        (0 : Int) = (0 : Int) ∧
                                                                                          (0 : Int) = (0 : Int) ∧
                                                                                            (0 : Int) = (0 : Int) ∧
                                                                                              (0 : Int) = (0 : Int) ∧
                                                                                                (0 : Int) = (0 : Int) ∧
                                                                                                  (0 : Int) =
                                                                                                      (0 : Int) ∧
                                                                                                    (0 : Int) =
                                                                                                        (0 : Int) ∧
                                                                                                      (0 : Int) =
                                                                                                          (0 : Int) ∧
                                                                                                        (0 : Int) =
                                                                                                            (0 : Int) ∧
                                                                                                          (0 : Int) =
                                                                                                              (0 :
                                                                                                                Int) ∧
                                                                                                            (0 : Int) =
                                                                                                                (0 :
                                                                                                                  Int) ∧
                                                                                                              (0 :
                                                                                                                    Int) =
                                                                                                                  (0 :
                                                                                                                    Int) ∧
                                                                                                                (0 :
                                                                                                                      Int) =
                                                                                                                    (0 :
                                                                                                                      Int) ∧
                                                                                                                  (0 :
                                                                                                                        Int) =
                                                                                                                      (0 :
                                                                                                                        Int) ∧
                                                                                                                    (0 :
                                                                                                                          Int) =
                                                                                                                        (0 :
                                                                                                                          Int) ∧
                                                                                                                      (0 :
                                                                                                                            Int) =
                                                                                                                          (0 :
                                                                                                                            Int) ∧
                                                                                                                        (0 :
                                                                                                                              Int) =
                                                                                                                            (0 :
                                                                                                                              Int) ∧
                                                                                                                          True) ∧
                                                        (0 : Int) = (0 : Int) ∧ True)) ∧
                                (¬(8 : Int) < Conf.tracks (PArg.c a) →
                                  ∃ (y2 : Int),
                                    (Conf.tracks (PArg.c a) = y2 ∧ True) ∧
                                      ((1 : Int) ≤ y2 ∧ y2 ≤ (16 : Int)) ∧
                                        (0 : Int) ≤ PArg.n a ∧
                                          PArg.n a < ↑(List.length (allB y2)) ∧
                                            Int.toNat (PArg.n a) < List.length (allB y2) ∧
                                              ∀ (y3 : Int),
                                                (allB y2)[Int.toNat (PArg.n a)]? = some y3 →
                                                  (¬IntKind.wrap IntKind.u8
                                                            ↑(Int.toNat (PArg.bits a % (256 : Int)) &&&
                                                                Int.toNat (y3 % (256 : Int))) =
                                                          PArg.bits a →
                                                      ((32 : Nat) = (0 : Nat) ∧ True) ∧ (2 : Int) = (0 : Int) ∧ True) ∧
                                                    (¬¬IntKind.wrap IntKind.u8
                                                              ↑(Int.toNat (PArg.bits a % (256 : Int)) &&&
                                                                  Int.toNat (y3 % (256 : Int))) =
                                                            PArg.bits a →
                                                      ((32 : Nat) = (32 : Nat) ∧
                                                          (1 : Int) = (1 : Int) ∧
                                                            IntKind.wrap IntKind.u8 (PArg.pair a) =
                                                                IntKind.wrap IntKind.u8 (PArg.pair a) ∧
                                                              IntKind.wrap IntKind.u8 (PArg.n a) =
                                                                  IntKind.wrap IntKind.u8 (PArg.n a) ∧
                                                                PArg.bits a = PArg.bits a ∧
                                                                  (0 : Int) = (0 : Int) ∧
                                                                    (0 : Int) = (0 : Int) ∧
                                                                      (0 : Int) = (0 : Int) ∧
                                                                        (0 : Int) = (0 : Int) ∧
                                                                          (0 : Int) = (0 : Int) ∧
                                                                            (0 : Int) = (0 : Int) ∧
                                                                              (0 : Int) = (0 : Int) ∧
                                                                                (0 : Int) = (0 : Int) ∧
                                                                                  (0 : Int) = (0 : Int) ∧
                                                                                    (0 : Int) = (0 : Int) ∧
                                                                                      (0 : Int) = (0 : Int) ∧
                                                                                        (0 : Int) = (0 : Int) ∧
                                                                                          (0 : Int) = (0 : Int) ∧
                                                                                            (0 : Int) = (0 : Int) ∧
                                                                                              (0 : Int) = (0 : Int) ∧
                                                                                                (0 : Int) = (0 : Int) ∧
                                                                                                  (0 : Int) =
                                                                                                      (0 : Int) ∧
                                                                                                    (0 : Int) =
                                                                                                        (0 : Int) ∧
                                                                                                      (0 : Int) =
                                                                                                          (0 : Int) ∧
                                                                                                        (0 : Int) =
                                                                                                            (0 : Int) ∧
                                                                                                          (0 : Int) =
                                                                                                              (0 :
                                                                                                                Int) ∧
                                                                                                            (0 : Int) =
                                                                                                                (0 :
                                                                                                                  Int) ∧
                                                                                                              (0 :
                                                                                                                    Int) =
                                                                                                                  (0 :
                                                                                                                    Int) ∧
                                                                                                                (0 :
                                                                                                                      Int) =
                                                                                                                    (0 :
                                                                                                                      Int) ∧
                                                                                                                  (0 :
                                                                                                                        Int) =
                                                                                                                      (0 :
                                                                                                                        Int) ∧
                                                                                                                    (0 :
                                                                                                                          Int) =
                                                                                                                        (0 :
                                                                                                                          Int) ∧
                                                                                                                      (0 :
                                                                                                                            Int) =
                                                                                                                          (0 :
                                                                                                                            Int) ∧
                                                                                                                        (0 :
                                                                                                                              Int) =
                                                                                                                            (0 :
                                                                                                                              Int) ∧
                                                                                                                          True) ∧
                                                        (0 : Int) = (0 : Int) ∧ True))))) ∧
                    (¬(0 : Int) ≤ PArg.n a → ((32 : Nat) = (0 : Nat) ∧ True) ∧ (2 : Int) = (0 : Int) ∧ True)) ∧
                (¬(8 : Int) < Conf.tracks (PArg.c a) →
                  ((0 : Int) ≤ PArg.n a →
                      (¬PArg.n a ≤ (0 : Int) → ((32 : Nat) = (0 : Nat) ∧ True) ∧ (2 : Int) = (0 : Int) ∧ True) ∧
                        (¬¬PArg.n a ≤ (0 : Int) →
                          ((8 : Int) < Conf.tracks (PArg.c a) →
                              ((8 : Int) < Conf.tracks (PArg.c a) →
                                  ∃ (y2 : Int),
                                    (Conf.tracks (PArg.c a) = y2 ∧ True) ∧
                                      ((1 : Int) ≤ y2 ∧ y2 ≤ (16 : Int)) ∧
                                        (0 : Int) ≤ PArg.n a ∧
                                          PArg.n a < ↑(List.length (allB y2)) ∧
                                            Int.toNat (PArg.n a) < List.length (allB y2) ∧
                                              ∀ (y3 : Int),
                                                (allB y2)[Int.toNat (PArg.n a)]? = some y3 →
                                                  (¬IntKind.wrap IntKind.u8
                                                            ↑(Int.toNat (PArg.bits a % (256 : Int)) &&&
                                                                Int.toNat (y3 % (256 : Int))) =
                                                          PArg.bits a →
                                                      ((32 : Nat) = (0 : Nat) ∧ True) ∧ (2 : Int) = (0 : Int) ∧ True) ∧
                                                    (¬¬IntKind.wrap IntKind.u8
                                                              ↑(Int.toNat (PArg.bits a % (256 : Int)) &&&
                                                                  Int.toNat (y3 % (256 : Int))) =
                                                            PArg.bits a →
                                                      ((32 : Nat) = (32 : Nat) ∧
                                                          (1 : Int) = (1 : Int) ∧
                                                            IntKind.wrap IntKind.u8 (PArg.pair a) =
                                                                IntKind.wrap IntKind.u8 (PArg.pair a) ∧
                                                              IntKind.wrap IntKind.u8 (PArg.n a) =
                                                                  IntKind.wrap IntKind.u8 (PArg.n a) ∧
                                                                PArg.bits a = PArg.bits a ∧
                                                                  (0 : Int) = (0 : Int) ∧
                                                                    (0 : Int) = (0 : Int) ∧
                                                                      (0 : Int) = (0 : Int) ∧
                                                                        (0 : Int) = (0 : Int) ∧
                                                                          (0 : Int) = (0 : Int) ∧
                                                                            (0 : Int) = (0 : Int) ∧
                                                                              (0 : Int) = (0 : Int) ∧
                                                                                (0 : Int) = (0 : Int) ∧
                                                                                  (0 : Int) = (0 : Int) ∧
                                                                                    (0 : Int) = (0 : Int) ∧
                                                                                      (0 : Int) = (0 : Int) ∧
                                                                                        (0 : Int) = (0 : Int) ∧
                                                                                          (0 : Int) = (0 : Int) ∧
                                                                                            (0 : Int) = (0 : Int) ∧
                                                                                              (0 : Int) = (0 : Int) ∧
                                                                                                (0 : Int) = (0 : Int) ∧
                                                                                                  (0 : Int) =
                                                                                                      (0 : Int) ∧
                                                                                                    (0 : Int) =
                                                                                                        (0 : Int) ∧
                                                                                                      (0 : Int) =
                                                                                                          (0 : Int) ∧
                                                                                                        (0 : Int) =
                                                                                                            (0 : Int) ∧
                                                                                                          (0 : Int) =
                                                                                                              (0 :
                                                                                                                Int) ∧
                                                                                                            (0 : Int) =
                                                                                                                (0 :
                                                                                                                  Int) ∧
                                                                                                              (0 :
                                                                                                                    Int) =
                                                                                                                  (0 :
                                                                                                                    Int) ∧
                                                                                                                (0 :
                                                                                                                      Int) =
                                                                                                                    (0 :
                                                                                                                      Int) ∧
                                                                                                                  (0 :
                                                                                                                        Int) =
                                                                                                                      (0 :
                                                                                                                        Int) ∧
                                                                                                                    (0 :
                                                                                                                          Int) =
                                                                                                                        (0 :
                                                                                                                          Int) ∧
                                                                                                                      (0 :
                                                                                                                            Int) =
                                                                                                                          (0 :
                                                                                                                            Int) ∧
                                                                                                                        (0 :
                                                                                                                              Int) =
                                                                                                                            (0 :
                                                                                                                              Int) ∧
                                                                                                                          True) ∧
                                                        (0 : Int) = (0 : Int) ∧ True)) ∧
                                (¬(8 : Int) < Conf.tracks (PArg.c a) →
                                  ∃ (y2 : Int),
                                    (Conf.tracks (PArg.c a) = y2 ∧ True) ∧
                                      ((1 : Int) ≤ y2 ∧ y2 ≤ (16 : Int)) ∧
                                        (0 : Int) ≤ PArg.n a ∧
                                          PArg.n a < ↑(List.length (allB y2)) ∧
                                            Int.toNat (PArg.n a) < List.length (allB y2) ∧
                                              ∀ (y3 : Int),
                                                (allB y2)[Int.toNat (PArg.n a)]? = some y3 →
                                                  (¬IntKind.wrap IntKind.u8
                                                            ↑(Int.toNat (PArg.bits a % (256 : Int)) &&&
                                                                Int.toNat (y3 % (256 : Int))) =
                                                          PArg.bits a →
                                                      ((32 : Nat) = (0 : Nat) ∧ True) ∧ (2 : Int) = (0 : Int) ∧ True) ∧
                                                    (¬¬IntKind.wrap IntKind.u8
                                                              ↑(Int.toNat (PArg.bits a % (256 : Int)) &&&
                                                                  Int.toNat (y3 % (256 : Int))) =
                                                            PArg.bits a →
                                                      ((32 : Nat) = (32 : Nat) ∧
                                                          (1 : Int) = (1 : Int) ∧
                                                            IntKind.wrap IntKind.u8 (PArg.pair a) =
                                                                IntKind.wrap IntKind.u8 (PArg.pair a) ∧
                                                              IntKind.wrap IntKind.u8 (PArg.n a) =
                                                                  IntKind.wrap IntKind.u8 (PArg.n a) ∧
                                                                PArg.bits a = PArg.bits a ∧
                                                                  (0 : Int) = (0 : Int) ∧
                                                                    (0 : Int) = (0 : Int) ∧
                                                                      (0 : Int) = (0 : Int) ∧
                                                                        (0 : Int) = (0 : Int) ∧
                                                                          (0 : Int) = (0 : Int) ∧
                                                                            (0 : Int) = (0 : Int) ∧
                                                                              (0 : Int) = (0 : Int) ∧
                                                                                (0 : Int) = (0 : Int) ∧
                                                                                  (0 : Int) = (0 : Int) ∧
                                                                                    (0 : Int) = (0 : Int) ∧
                                                                                      (0 : Int) = (0 : Int) ∧
                                                                                        (0 : Int) = (0 : Int) ∧
                                                                                          (0 : Int) = (0 : Int) ∧
                                                                                            (0 : Int) = (0 : Int) ∧
                                                                                              (0 : Int) = (0 : Int) ∧
                                                                                                (0 : Int) = (0 : Int) ∧
                                                                                                  (0 : Int) =
                                                                                                      (0 : Int) ∧
                                                                                                    (0 : Int) =
                                                                                                        (0 : Int) ∧
                                                                                                      (0 : Int) =
                                                                                                          (0 : Int) ∧
                                                                                                        (0 : Int) =
                                                                                                            (0 : Int) ∧
                                                                                                          (0 : Int) =
                                                                                                              (0 :
                                                                                                                Int) ∧
                                                                                                            (0 : Int) =
                                                                                                                (0 :
                                                                                                                  Int) ∧
                                                                                                              (0 :
                                                                                                                    Int) =
                                                                                                                  (0 :
                                                                                                                    Int) ∧
                                                                                                                (0 :
                                                                                                                      Int) =
                                                                                                                    (0 :
                                                                                                                      Int) ∧
                                                                                                                  (0 :
                                                                                                                        Int) =
                                                                                                                      (0 :
                                                                                                                        Int) ∧
                                                                                                                    (0 :
                                                                                                                          Int) =
                                                                                                                        (0 :
                                                                                                                          Int) ∧
                                                                                                                      (0 :
                                                                                                                            Int) =
                                                                                                                          (0 :
                                                                                                                            Int) ∧
                                                                                                                        (0 :
                                                                                                                              Int) =
                                                                                                                            (0 :
                                                                                                                              Int) ∧
                                                                                                                          True) ∧
                                                        (0 : Int) = (0 : Int) ∧ True))) ∧
                            (¬(8 : Int) < Conf.tracks (PArg.c a) →
                              ((8 : Int) < Conf.tracks (PArg.c a) →
                                  ∃ (y2 : Int),
                                    (Conf.tracks (PArg.c a) = y2 ∧ True) ∧
                                      ((1 : Int) ≤ y2 ∧ y2 ≤ (16 : Int)) ∧
                                        (0 : Int) ≤ PArg.n a ∧
                                          PArg.n a < ↑(List.length (allB y2)) ∧
                                            Int.toNat (PArg.n a) < List.length (allB y2) ∧
                                              ∀ (y3 : Int),
                                                (allB y2)[Int.toNat (PArg.n a)]? = some y3 →
                                                  (¬IntKind.wrap IntKind.u8
                                                            ↑(Int.toNat (PArg.bits a % (256 : Int)) &&&
                                                                Int.toNat (y3 % (256 : Int))) =
                                                          PArg.bits a →
                                                      ((32 : Nat) = (0 : Nat) ∧ True) ∧ (2 : Int) = (0 : Int) ∧ True) ∧
                                                    (¬¬IntKind.wrap IntKind.u8
                                                              ↑(Int.toNat (PArg.bits a % (256 : Int)) &&&
                                                                  Int.toNat (y3 % (256 : Int))) =
                                                            PArg.bits a →
                                                      ((32 : Nat) = (32 : Nat) ∧
                                                          (1 : Int) = (1 : Int) ∧
                                                            IntKind.wrap IntKind.u8 (PArg.pair a) =
                                                                IntKind.wrap IntKind.u8 (PArg.pair a) ∧
                                                              IntKind.wrap IntKind.u8 (PArg.n a) =
                                                                  IntKind.wrap IntKind.u8 (PArg.n a) ∧
                                                                PArg.bits a = PArg.bits a ∧
                                                                  (0 : Int) = (0 : Int) ∧
                                                                    (0 : Int) = (0 : Int) ∧
                                                                      (0 : Int) = (0 : Int) ∧
                                                                        (0 : Int) = (0 : Int) ∧
                                                                          (0 : Int) = (0 : Int) ∧
                                                                            (0 : Int) = (0 : Int) ∧
                                                                              (0 : Int) = (0 : Int) ∧
                                                                                (0 : Int) = (0 : Int) ∧
                                                                                  (0 : Int) = (0 : Int) ∧
                                                                                    (0 : Int) = (0 : Int) ∧
                                                                                      (0 : Int) = (0 : Int) ∧
                                                                                        (0 : Int) = (0 : Int) ∧
                                                                                          (0 : Int) = (0 : Int) ∧
                                                                                            (0 : Int) = (0 : Int) ∧
                                                                                              (0 : Int) = (0 : Int) ∧
                                                                                                (0 : Int) = (0 : Int) ∧
                                                                                                  (0 : Int) =
                                                                                                      (0 : Int) ∧
                                                                                                    (0 : Int) =
                                                                                                        (0 : Int) ∧
                                                                                                      (0 : Int) =
                                                                                                          (0 : Int) ∧
                                                                                                        (0 : Int) =
                                                                                                            (0 : Int) ∧
                                                                                                          (0 : Int) =
                                                                                                              (0 :
                                                                                                                Int) ∧
                                                                                                            (0 : Int) =
                                                                                                                (0 :
                                                                                                                  Int) ∧
                                                                                                              (0 :
                                                                                                                    Int) =
                                                                                                                  (0 :
                                                                                                                    Int) ∧
                                                                                                                (0 :
                                                                                                                      Int) =
                                                                                                                    (0 :
                                                                                                                      Int) ∧
                                                                                                                  (0 :
                                                                                                                        Int) =
                                                                                                                      (0 :
                                                                                                                        Int) ∧
                                                                                                                    (0 :
                                                                                                                          Int) =
                                                                                                                        (0 :
                                                                                                                          Int) ∧
                                                                                                                      (0 :
                                                                                                                            Int) =
                                                                                                                          (0 :
                                                                                                                            Int) ∧
                                                                                                                        (0 :
                                                                                                                              Int) =
                                                                                                                            (0 :
                                                                                                                              Int) ∧
                                                                                                                          True) ∧
                                                        (0 : Int) = (0 : Int) ∧ True)) ∧
                                (¬(8 : Int) < Conf.tracks (PArg.c a) →
                                  ∃ (y2 : Int),
                                    (Conf.tracks (PArg.c a) = y2 ∧ True) ∧
                                      ((1 : Int) ≤ y2 ∧ y2 ≤ (16 : Int)) ∧
                                        (0 : Int) ≤ PArg.n a ∧
                                          PArg.n a < ↑(List.length (allB y2)) ∧
                                            Int.toNat (PArg.n a) < List.length (allB y2) ∧
                                              ∀ (y3 : Int),
                                                (allB y2)[Int.toNat (PArg.n a)]? = some y3 →
                                                  (¬IntKind.wrap IntKind.u8
                                                            ↑(Int.toNat (PArg.bits a % (256 : Int)) &&&
                                                                Int.toNat (y3 % (256 : Int))) =
                                                          PArg.bits a →
                                                      ((32 : Nat) = (0 : Nat) ∧ True) ∧ (2 : Int) = (0 : Int) ∧ True) ∧
                                                    (¬¬IntKind.wrap IntKind.u8
                                                              ↑(Int.toNat (PArg.bits a % (256 : Int)) &&&
                                                                  Int.toNat (y3 % (256 : Int))) =
                                                            PArg.bits a →
                                                      ((32 : Nat) = (32 : Nat) ∧
                                                          (1 : Int) = (1 : Int) ∧
                                                            IntKind.wrap IntKind.u8 (PArg.pair a) =
                                                                IntKind.wrap IntKind.u8 (PArg.pair a) ∧
                                                              IntKind.wrap IntKind.u8 (PArg.n a) =
                                                                  IntKind.wrap IntKind.u8 (PArg.n a) ∧
                                                                PArg.bits a = PArg.bits a ∧
                                                                  (0 : Int) = (0 : Int) ∧
                                                                    (0 : Int) = (0 : Int) ∧
                                                                      (0 : Int) = (0 : Int) ∧
                                                                        (0 : Int) = (0 : Int) ∧
                                                                          (0 : Int) = (0 : Int) ∧
                                                                            (0 : Int) = (0 : Int) ∧
                                                                              (0 : Int) = (0 : Int) ∧
                                                                                (0 : Int) = (0 : Int) ∧
                                                                                  (0 : Int) = (0 : Int) ∧
                                                                                    (0 : Int) = (0 : Int) ∧
                                                                                      (0 : Int) = (0 : Int) ∧
                                                                                        (0 : Int) = (0 : Int) ∧
                                                                                          (0 : Int) = (0 : Int) ∧
                                                                                            (0 : Int) = (0 : Int) ∧
                                                                                              (0 : Int) = (0 : Int) ∧
                                                                                                (0 : Int) = (0 : Int) ∧
                                                                                                  (0 : Int) =
                                                                                                      (0 : Int) ∧
                                                                                                    (0 : Int) =
                                                                                                        (0 : Int) ∧
                                                                                                      (0 : Int) =
                                                                                                          (0 : Int) ∧
                                                                                                        (0 : Int) =
                                                                                                            (0 : Int) ∧
                                                                                                          (0 : Int) =
                                                                                                              (0 :
                                                                                                                Int) ∧
                                                                                                            (0 : Int) =
                                                                                                                (0 :
                                                                                                                  Int) ∧
                                                                                                              (0 :
                                                                                                                    Int) =
                                                                                                                  (0 :
                                                                                                                    Int) ∧
                                                                                                                (0 :
                                                                                                                      Int) =
                                                                                                                    (0 :
                                                                                                                      Int) ∧
                                                                                                                  (0 :
                                                                                                                        Int) =
                                                                                                                      (0 :
                                                                                                                        Int) ∧
                                                                                                                    (0 :
                                                                                                                          Int) =
                                                                                                                        (0 :
                                                                                                                          Int) ∧
                                                                                                                      (0 :
                                                                                                                            Int) =
                                                                                                                          (0 :
                                                                                                                            Int) ∧
                                                                                                                        (0 :
                                                                                                                              Int) =
                                                                                                                            (0 :
                                                                                                                              Int) ∧
                                                                                                                          True) ∧
                                                        (0 : Int) = (0 : Int) ∧ True))))) ∧
                    (¬(0 : Int) ≤ PArg.n a → ((32 : Nat) = (0 : Nat) ∧ True) ∧ (2 : Int) = (0 : Int) ∧ True)))) ∧
        (¬(0 : Int) ≤ PArg.pair a → ((32 : Nat) = (0 : Nat) ∧ True) ∧ (2 : Int) = (0 : Int) ∧ True)) := by kernel_rfl
theorem vp_rtext (a : PArg) : (scallI sxG Try.prog cf0 (sexec sxG Try.prog cf0 1000) 5 0 a.l (post (.tup [.nilSl, .int .i64 (.lit 2)]))) = (∃ (y1 : Conf),
  ((Conf.pairs (PArg.c a) = Conf.pairs y1 ∧
        Conf.tracks (PArg.c a) = Conf.tracks y1 ∧
          Conf.area (PArg.c a) = Conf.area y1 ∧
            Conf.most (PArg.c a) = Conf.most y1 ∧
              Conf.window (PArg.c a) = Conf.window y1 ∧ Conf.quiet (PArg.c a) = Conf.quiet y1 ∧ True) ∧
      True) ∧
    ((1 : Int) ≤ Conf.pairs y1 ∧
        Conf.pairs y1 ≤ (3 : Int) ∧
          (1 : Int) ≤ Conf.tracks y1 ∧
            Conf.tracks y1 ≤ (16 : Int) ∧
              Conf.pairs y1 + (2 : Int) ≤ Conf.area y1 ∧
                Conf.area y1 ≤ (32 : Int) ∧
                  (1 : Int) ≤ Conf.most y1 ∧
                    Conf.most y1 ≤ Conf.pairs y1 ∧
                      (1 : Int) ≤ Conf.window y1 ∧
                        Conf.window y1 ≤ (4 : Int) ∧ (4 : Int) ≤ Conf.quiet y1 ∧ Conf.quiet y1 ≤ (64 : Int)) ∧
      ((0 : Int) ≤ PArg.pair a →
          (¬PArg.pair a ≤ IntKind.wrap IntKind.i64 (Conf.pairs (PArg.c a) - (1 : Int)) →
              True ∧ (2 : Int) = (2 : Int) ∧ True) ∧
            (¬¬PArg.pair a ≤ IntKind.wrap IntKind.i64 (Conf.pairs (PArg.c a) - (1 : Int)) →
              ((8 : Int) < Conf.tracks (PArg.c a) →
                  ((0 : Int) ≤ PArg.n a →
                      (¬PArg.n a ≤ (1 : Int) → True ∧ (2 : Int) = (2 : Int) ∧ True) ∧
                        (¬¬PArg.n a ≤ (1 : Int) →
                          ((8 : Int) < Conf.tracks (PArg.c a) →
                              ((8 : Int) < Conf.tracks (PArg.c a) →
                                  ∃ (y2 : Int),
                                    (Conf.tracks (PArg.c a) = y2 ∧ True) ∧
                                      ((1 : Int) ≤ y2 ∧ y2 ≤ (16 : Int)) ∧
                                        (0 : Int) ≤ PArg.n a ∧
                                          PArg.n a < ↑(List.length (allB y2)) ∧
                                            Int.toNat (PArg.n a) < List.length (allB y2) ∧
                                              ∀ (y3 : Int),
                                                (allB y2)[Int.toNat (PArg.n a)]? = some y3 →
                                                  (¬IntKind.wrap IntKind.u8
                                                            ↑(Int.toNat (PArg.bits a % (256 : Int)) &&&
                                                                Int.toNat (y3 % (256 : Int))) =
                                                          PArg.bits a →
                                                      True ∧ (2 : Int) = (2 : Int) ∧ True) ∧
                                                    (¬¬IntKind.wrap IntKind.u8
                                                              ↑(Int.toNat (PArg.bits a % (256 : Int)) &&&
                                                                  Int.toNat (y3 % (256 : Int))) =
                                                            PArg.bits a →
                                                      Stuck (11 : Nat) ∧ (0 : Int) = (2 : Int) ∧ True)) ∧
                                (¬(8 : Int) < Conf.tracks (PArg.c a) →
                                  ∃ (y2 : Int),
                                    (Conf.tracks (PArg.c a) = y2 ∧ True) ∧
                                      ((1 : Int) ≤ y2 ∧ y2 ≤ (16 : Int)) ∧
                                        (0 : Int) ≤ PArg.n a ∧
                                          PArg.n a < ↑(List.length (allB y2)) ∧
                                            Int.toNat (PArg.n a) < List.length (allB y2) ∧
                                              ∀ (y3 : Int),
                                                (allB y2)[Int.toNat (PArg.n a)]? = some y3 →
                                                  (¬IntKind.wrap IntKind.u8
                                                            ↑(Int.toNat (PArg.bits a % (256 : Int)) &&&
                                                                Int.toNat (y3 % (256 : Int))) =
                                                          PArg.bits a →
                                                      True ∧ (2 : Int) = (2 : Int) ∧ True) ∧
                                                    (¬¬IntKind.wrap IntKind.u8
                                                              ↑(Int.toNat (PArg.bits a % (256 : Int)) &&&
                                                                  Int.toNat (y3 % (256 : Int))) =
                                                            PArg.bits a →
                                                      Stuck (11 : Nat) ∧ (0 : Int) = (2 : Int) ∧ True))) ∧
                            (¬(8 : Int) < Conf.tracks (PArg.c a) →
                              ((8 : Int) < Conf.tracks (PArg.c a) →
                                  ∃ (y2 : Int),
                                    (Conf.tracks (PArg.c a) = y2 ∧ True) ∧
                                      ((1 : Int) ≤ y2 ∧ y2 ≤ (16 : Int)) ∧
                                        (0 : Int) ≤ PArg.n a ∧
                                          PArg.n a < ↑(List.length (allB y2)) ∧
                                            Int.toNat (PArg.n a) < List.length (allB y2) ∧
                                              ∀ (y3 : Int),
                                                (allB y2)[Int.toNat (PArg.n a)]? = some y3 →
                                                  (¬IntKind.wrap IntKind.u8
                                                            ↑(Int.toNat (PArg.bits a % (256 : Int)) &&&
                                                                Int.toNat (y3 % (256 : Int))) =
                                                          PArg.bits a →
                                                      True ∧ (2 : Int) = (2 : Int) ∧ True) ∧
                                                    (¬¬IntKind.wrap IntKind.u8
                                                              ↑(Int.toNat (PArg.bits a % (256 : Int)) &&&
                                                                  Int.toNat (y3 % (256 : Int))) =
                                                            PArg.bits a →
                                                      Stuck (11 : Nat) ∧ (0 : Int) = (2 : Int) ∧ True)) ∧
                                (¬(8 : Int) < Conf.tracks (PArg.c a) →
                                  ∃ (y2 : Int),
                                    (Conf.tracks (PArg.c a) = y2 ∧ True) ∧
                                      ((1 : Int) ≤ y2 ∧ y2 ≤ (16 : Int)) ∧
                                        (0 : Int) ≤ PArg.n a ∧
                                          PArg.n a < ↑(List.length (allB y2)) ∧
                                            Int.toNat (PArg.n a) < List.length (allB y2) ∧
                                              ∀ (y3 : Int),
                                                (allB y2)[Int.toNat (PArg.n a)]? = some y3 →
                                                  (¬IntKind.wrap IntKind.u8
                                                            ↑(Int.toNat (PArg.bits a % (256 : Int)) &&&
                                                                Int.toNat (y3 % (256 : Int))) =
                                                          PArg.bits a →
                                                      True ∧ (2 : Int) = (2 : Int) ∧ True) ∧
                                                    (¬¬IntKind.wrap IntKind.u8
                                                              ↑(Int.toNat (PArg.bits a % (256 : Int)) &&&
                                                                  Int.toNat (y3 % (256 : Int))) =
                                                            PArg.bits a →
                                                      Stuck (11 : Nat) ∧ (0 : Int) = (2 : Int) ∧ True))))) ∧
                    (¬(0 : Int) ≤ PArg.n a → True ∧ (2 : Int) = (2 : Int) ∧ True)) ∧
                (¬(8 : Int) < Conf.tracks (PArg.c a) →
                  ((0 : Int) ≤ PArg.n a →
                      (¬PArg.n a ≤ (0 : Int) → True ∧ (2 : Int) = (2 : Int) ∧ True) ∧
                        (¬¬PArg.n a ≤ (0 : Int) →
                          ((8 : Int) < Conf.tracks (PArg.c a) →
                              ((8 : Int) < Conf.tracks (PArg.c a) →
                                  ∃ (y2 : Int),
                                    (Conf.tracks (PArg.c a) = y2 ∧ True) ∧
                                      ((1 : Int) ≤ y2 ∧ y2 ≤ (16 : Int)) ∧
                                        (0 : Int) ≤ PArg.n a ∧
                                          PArg.n a < ↑(List.length (allB y2)) ∧
                                            Int.toNat (PArg.n a) < List.length (allB y2) ∧
                                              ∀ (y3 : Int),
                                                (allB y2)[Int.toNat (PArg.n a)]? = some y3 →
                                                  (¬IntKind.wrap IntKind.u8
                                                            ↑(Int.toNat (PArg.bits a % (256 : Int)) &&&
                                                                Int.toNat (y3 % (256 : Int))) =
                                                          PArg.bits a →
                                                      True ∧ (2 : Int) = (2 : Int) ∧ True) ∧
                                                    (¬¬IntKind.wrap IntKind.u8
                                                              ↑(Int.toNat (PArg.bits a % (256 : Int)) &&&
                                                                  Int.toNat (y3 % (256 : Int))) =
                                                            PArg.bits a →
                                                      Stuck (11 : Nat) ∧ (0 : Int) = (2 : Int) ∧ True)) ∧
                                (¬(8 : Int) < Conf.tracks (PArg.c a) →
                                  ∃ (y2 : Int),
                                    (Conf.tracks (PArg.c a) = y2 ∧ True) ∧
                                      ((1 : Int) ≤ y2 ∧ y2 ≤ (16 : Int)) ∧
                                        (0 : Int) ≤ PArg.n a ∧
                                          PArg.n a < ↑(List.length (allB y2)) ∧
                                            Int.toNat (PArg.n a) < List.length (allB y2) ∧
                                              ∀ (y3 : Int),
                                                (allB y2)[Int.toNat (PArg.n a)]? = some y3 →
                                                  (¬IntKind.wrap IntKind.u8
                                                            ↑(Int.toNat (PArg.bits a % (256 : Int)) &&&
                                                                Int.toNat (y3 % (256 : Int))) =
                                                          PArg.bits a →
                                                      True ∧ (2 : Int) = (2 : Int) ∧ True) ∧
                                                    (¬¬IntKind.wrap IntKind.u8
                                                              ↑(Int.toNat (PArg.bits a % (256 : Int)) &&&
                                                                  Int.toNat (y3 % (256 : Int))) =
                                                            PArg.bits a →
                                                      Stuck (11 : Nat) ∧ (0 : Int) = (2 : Int) ∧ True))) ∧
                            (¬(8 : Int) < Conf.tracks (PArg.c a) →
                              ((8 : Int) < Conf.tracks (PArg.c a) →
                                  ∃ (y2 : Int),
                                    (Conf.tracks (PArg.c a) = y2 ∧ True) ∧
                                      ((1 : Int) ≤ y2 ∧ y2 ≤ (16 : Int)) ∧
                                        (0 : Int) ≤ PArg.n a ∧
                                          PArg.n a < ↑(List.length (allB y2)) ∧
                                            Int.toNat (PArg.n a) < List.length (allB y2) ∧
                                              ∀ (y3 : Int),
                                                (allB y2)[Int.toNat (PArg.n a)]? = some y3 →
                                                  (¬IntKind.wrap IntKind.u8
                                                            ↑(Int.toNat (PArg.bits a % (256 : Int)) &&&
                                                                Int.toNat (y3 % (256 : Int))) =
                                                          PArg.bits a →
                                                      True ∧ (2 : Int) = (2 : Int) ∧ True) ∧
                                                    (¬¬IntKind.wrap IntKind.u8
                                                              ↑(Int.toNat (PArg.bits a % (256 : Int)) &&&
                                                                  Int.toNat (y3 % (256 : Int))) =
                                                            PArg.bits a →
                                                      Stuck (11 : Nat) ∧ (0 : Int) = (2 : Int) ∧ True)) ∧
                                (¬(8 : Int) < Conf.tracks (PArg.c a) →
                                  ∃ (y2 : Int),
                                    (Conf.tracks (PArg.c a) = y2 ∧ True) ∧
                                      ((1 : Int) ≤ y2 ∧ y2 ≤ (16 : Int)) ∧
                                        (0 : Int) ≤ PArg.n a ∧
                                          PArg.n a < ↑(List.length (allB y2)) ∧
                                            Int.toNat (PArg.n a) < List.length (allB y2) ∧
                                              ∀ (y3 : Int),
                                                (allB y2)[Int.toNat (PArg.n a)]? = some y3 →
                                                  (¬IntKind.wrap IntKind.u8
                                                            ↑(Int.toNat (PArg.bits a % (256 : Int)) &&&
                                                                Int.toNat (y3 % (256 : Int))) =
                                                          PArg.bits a →
                                                      True ∧ (2 : Int) = (2 : Int) ∧ True) ∧
                                                    (¬¬IntKind.wrap IntKind.u8
                                                              ↑(Int.toNat (PArg.bits a % (256 : Int)) &&&
                                                                  Int.toNat (y3 % (256 : Int))) =
                                                            PArg.bits a →
                                                      Stuck (11 : Nat) ∧ (0 : Int) = (2 : Int) ∧ True))))) ∧
                    (¬(0 : Int) ≤ PArg.n a → True ∧ (2 : Int) = (2 : Int) ∧ True)))) ∧
        (¬(0 : Int) ≤ PArg.pair a → True ∧ (2 : Int) = (2 : Int) ∧ True)) := by kernel_rfl
theorem vb_rtext (a : PArg) : (scallI sxB Try.prog cf0 (sexec sxB Try.prog cf0 1000) 5 0 a.l (post (.tup [.nilSl, .int .i64 (.lit 8)]))) = (∃ (y1 : Conf),
  ((Conf.pairs (PArg.c a) = Conf.pairs y1 ∧
        Conf.tracks (PArg.c a) = Conf.tracks y1 ∧
          Conf.area (PArg.c a) = Conf.area y1 ∧
            Conf.most (PArg.c a) = Conf.most y1 ∧
              Conf.window (PArg.c a) = Conf.window y1 ∧ Conf.quiet (PArg.c a) = Conf.quiet y1 ∧ True) ∧
      True) ∧
    ¬Conf.ok y1 ∧ True ∧ (8 : Int) = (8 : Int) ∧ True) := by kernel_rfl
theorem vg_at (a : PArg) : (scallI sxG Try.prog cf0 (sexec sxG Try.prog cf0 1000) 8 0 a.l3 (post (.tup [i64 a.sec, u8 a.msk, .int .i64 (.lit 0)]))) = (∃ (y1 : Conf),
  ((Conf.pairs (PArg.c a) = Conf.pairs y1 ∧
        Conf.tracks (PArg.c a) = Conf.tracks y1 ∧
          Conf.area (PArg.c a) = Conf.area y1 ∧
            Conf.most (PArg.c a) = Conf.most y1 ∧
              Conf.window (PArg.c a) = Conf.window y1 ∧ Conf.quiet (PArg.c a) = Conf.quiet y1 ∧ True) ∧
      True) ∧
    ((1 : Int) ≤ Conf.pairs y1 ∧
        Conf.pairs y1 ≤ (3 : Int) ∧
          (1 : Int) ≤ Conf.tracks y1 ∧
            Conf.tracks y1 ≤ (16 : Int) ∧
              Conf.pairs y1 + (2 : Int) ≤ Conf.area y1 ∧
                Conf.area y1 ≤ (32 : Int) ∧
                  (1 : Int) ≤ Conf.most y1 ∧
                    Conf.most y1 ≤ Conf.pairs y1 ∧
                      (1 : Int) ≤ Conf.window y1 ∧
                        Conf.window y1 ≤ (4 : Int) ∧ (4 : Int) ≤ Conf.quiet y1 ∧ Conf.quiet y1 ≤ (64 : Int)) ∧
      (PArg.pair a < (0 : Int) → (0 : Int) = PArg.sec a ∧ (0 : Int) = PArg.msk a ∧ (2 : Int) = (0 : Int) ∧ True) ∧
        (¬PArg.pair a < (0 : Int) →
          (IntKind.wrap IntKind.i64 (Conf.pairs (PArg.c a) - (1 : Int)) < PArg.pair a →
              (0 : Int) = PArg.sec a ∧ (0 : Int) = PArg.msk a ∧ (2 : Int) = (0 : Int) ∧ True) ∧
            (¬IntKind.wrap IntKind.i64 (Conf.pairs (PArg.c a) - (1 : Int)) < PArg.pair a →
              (PArg.n a < (0 : Int) → (0 : Int) = PArg.sec a ∧ (0 : Int) = PArg.msk a ∧ (2 : Int) = (0 : Int) ∧ True) ∧
                (¬PArg.n a < (0 : Int) →
                  (IntKind.wrap IntKind.i64
                          (IntKind.wrap IntKind.i64
                              (Int.tdiv
                                (IntKind.wrap IntKind.i64
                                  (IntKind.wrap IntKind.i64 (Conf.tracks (PArg.c a) + (8 : Int)) - (1 : Int)))
                                (8 : Int)) -
                            (1 : Int)) <
                        PArg.n a →
                      (0 : Int) = PArg.sec a ∧ (0 : Int) = PArg.msk a ∧ (2 : Int) = (0 : Int) ∧ True) ∧
                    (¬IntKind.wrap IntKind.i64
                            (IntKind.wrap IntKind.i64
                                (Int.tdiv
                                  (IntKind.wrap IntKind.i64
                                    (IntKind.wrap IntKind.i64 (Conf.tracks (PArg.c a) + (8 : Int)) - (1 : Int)))
                                  (8 : Int)) -
                              (1 : Int)) <
                          PArg.n a →
                      ∃ (y2 : Int),
                        (Conf.tracks (PArg.c a) = y2 ∧ True) ∧
                          ((1 : Int) ≤ y2 ∧ y2 ≤ (16 : Int)) ∧
                            (0 : Int) ≤ PArg.n a ∧
                              PArg.n a < ↑(List.length (allB y2)) ∧
                                Int.toNat (PArg.n a) < List.length (allB y2) ∧
                                  ∀ (y3 : Int),
                                    (allB y2)[Int.toNat (PArg.n a)]? = some y3 →
                                      IntKind.wrap IntKind.i64
                                            (IntKind.wrap IntKind.i64
                                                ((2 : Int) +
                                                  IntKind.wrap IntKind.i64
                                                    (IntKind.wrap IntKind.i64 ((2 : Int) * Conf.area (PArg.c a)) *
                                                      (1 : Int))) +
                                              IntKind.wrap IntKind.i64
                                                (IntKind.wrap IntKind.i64
                                                    (IntKind.wrap IntKind.i64
                                                        (PArg.pair a *
                                                          IntKind.wrap IntKind.i64
                                                            (Int.tdiv
                                                              (IntKind.wrap IntKind.i64
                                                                (IntKind.wrap IntKind.i64
                                                                    (Conf.tracks (PArg.c a) + (8 : Int)) -
                                                                  (1 : Int)))
                                                              (8 : Int))) +
                                                      PArg.n a) *
                                                  (1 : Int))) =
                                          PArg.sec a ∧
                                        y3 = PArg.msk a ∧ (0 : Int) = (0 : Int) ∧ True))))) := by kernel_rfl
theorem vg_ofp (a : PArg) : (scallI sxG Try.prog cf0 (sexec sxG Try.prog cf0 1000) 13 0 a.l3 (post (i64 a.sec))) = (((8 : Int) < Conf.tracks (PArg.c a) →
    ((8 : Int) < Conf.tracks (PArg.c a) →
        IntKind.wrap IntKind.i64
            (IntKind.wrap IntKind.i64
                (IntKind.wrap IntKind.i64 ((2 : Int) + IntKind.wrap IntKind.i64 ((2 : Int) * Conf.area (PArg.c a))) +
                  IntKind.wrap IntKind.i64 (PArg.pair a * (2 : Int))) +
              PArg.n a) =
          PArg.sec a) ∧
      (¬(8 : Int) < Conf.tracks (PArg.c a) →
        IntKind.wrap IntKind.i64
            (IntKind.wrap IntKind.i64
                (IntKind.wrap IntKind.i64 ((2 : Int) + IntKind.wrap IntKind.i64 ((2 : Int) * Conf.area (PArg.c a))) +
                  IntKind.wrap IntKind.i64 (PArg.pair a * (1 : Int))) +
              PArg.n a) =
          PArg.sec a)) ∧
  (¬(8 : Int) < Conf.tracks (PArg.c a) →
    ((8 : Int) < Conf.tracks (PArg.c a) →
        IntKind.wrap IntKind.i64
            (IntKind.wrap IntKind.i64
                (IntKind.wrap IntKind.i64 ((2 : Int) + IntKind.wrap IntKind.i64 ((2 : Int) * Conf.area (PArg.c a))) +
                  IntKind.wrap IntKind.i64 (PArg.pair a * (2 : Int))) +
              PArg.n a) =
          PArg.sec a) ∧
      (¬(8 : Int) < Conf.tracks (PArg.c a) →
        IntKind.wrap IntKind.i64
            (IntKind.wrap IntKind.i64
                (IntKind.wrap IntKind.i64 ((2 : Int) + IntKind.wrap IntKind.i64 ((2 : Int) * Conf.area (PArg.c a))) +
                  IntKind.wrap IntKind.i64 (PArg.pair a * (1 : Int))) +
              PArg.n a) =
          PArg.sec a))) := by kernel_rfl
theorem allB_len {t : Int} (h1 : 1 ≤ t) (h2 : t ≤ 16) : ((allB t).length : Int) = (t + 7) / 8 := by
  rcases all_cases h1 h2 with h | h | h | h | h | h | h | h | h | h | h | h | h | h | h | h <;> subst h <;> rfl
theorem allB_in {t : Int} (h1 : 1 ≤ t) (h2 : t ≤ 16) : ∀ y ∈ allB t, 0 ≤ y ∧ y ≤ 255 := by
  rcases all_cases h1 h2 with h | h | h | h | h | h | h | h | h | h | h | h | h | h | h | h <;> subst h <;> decide
theorem and_mask : ∀ b y : BitVec 8, (b &&& ~~~y = 0#8) ↔ (b &&& y = b) := by
  intro b y
  constructor <;> intro h
  · apply BitVec.eq_of_getLsbD_eq; intro i hi
    have := congrArg (fun v : BitVec 8 => v.getLsbD i) h
    simp only [BitVec.getLsbD_and, BitVec.getLsbD_not, BitVec.getLsbD_zero, hi, decide_true, Bool.true_and] at this ⊢
    revert this; cases b.getLsbD i <;> cases y.getLsbD i <;> simp
  · apply BitVec.eq_of_getLsbD_eq; intro i hi
    have := congrArg (fun v : BitVec 8 => v.getLsbD i) h
    simp only [BitVec.getLsbD_and, BitVec.getLsbD_not, BitVec.getLsbD_zero, hi, decide_true, Bool.true_and] at this ⊢
    revert this; cases b.getLsbD i <;> cases y.getLsbD i <;> simp
theorem mask_ref {b y : Int} (h1 : 0 ≤ b) (h2 : b ≤ 255) (h3 : 0 ≤ y) (h4 : y ≤ 255) : IntKind.wrap IntKind.u8 ↑(Int.toNat (b % (256 : Int)) &&& Int.toNat (y % (256 : Int))) = b ↔ mask b y := by
  obtain ⟨b, rfl⟩ := Int.eq_ofNat_of_zero_le h1
  obtain ⟨y, rfl⟩ := Int.eq_ofNat_of_zero_le h3
  have hb : b < 256 := by omega
  have hy : y < 256 := by omega
  have e1 : Int.toNat ((b : Int) % 256) = b := by omega
  have e2 : Int.toNat ((y : Int) % 256) = y := by omega
  have k1 : b &&& y < 256 := Nat.lt_of_le_of_lt Nat.and_le_left hb
  unfold mask
  rw [e1, e2, wr_u8 (by omega) (by omega), wr_u8 (by omega) (by have := (BitVec.ofInt 8 (b : Int) &&& ~~~BitVec.ofInt 8 (y : Int)).isLt; omega)]
  rw [BitVec.ofInt_natCast, BitVec.ofInt_natCast]
  have q := and_mask (BitVec.ofNat 8 b) (BitVec.ofNat 8 y)
  have f1 : ((BitVec.ofNat 8 b &&& ~~~BitVec.ofNat 8 y).toNat : Int) = 0 ↔ BitVec.ofNat 8 b &&& ~~~BitVec.ofNat 8 y = 0#8 := by
    rw [← BitVec.toNat_inj]; simp only [BitVec.toNat_ofNat]; omega
  have f2 : BitVec.ofNat 8 b &&& BitVec.ofNat 8 y = BitVec.ofNat 8 b ↔ ((b &&& y : Nat) : Int) = (b : Int) := by
    rw [← BitVec.toNat_inj, BitVec.toNat_and, BitVec.toNat_ofNat, BitVec.toNat_ofNat, Nat.mod_eq_of_lt (by omega), Nat.mod_eq_of_lt (by omega)]; omega
  rw [f1, q, f2]
theorem many_eq {t : Int} (h1 : 1 ≤ t) (h2 : t ≤ 16) : IntKind.wrap IntKind.i64 (Int.tdiv (IntKind.wrap IntKind.i64 (IntKind.wrap IntKind.i64 (t + (8 : Int)) - (1 : Int))) (8 : Int)) = (t + 7) / 8 := by
  rw [wr_i64 (n := t + 8) (by omega) (by omega), wr_i64 (n := t + 8 - 1) (by omega) (by omega), Int.tdiv_eq_ediv_of_nonneg (by omega), wr_i64 (by omega) (by omega)]; omega
theorem ok_unf {c : Conf} (h : c.ok) : 1 ≤ c.pairs ∧ c.pairs ≤ 3 ∧ 1 ≤ c.tracks ∧ c.tracks ≤ 16 ∧ c.pairs + 2 ≤ c.area ∧ c.area ≤ 32 := by unfold Conf.ok at h; omega
theorem good_text (a : PArg) (h : a.good) : scallI sxG Try.prog cf0 (sexec sxG Try.prog cf0 1000) 4 0 a.l (post (.tup [txtL a.pair a.n a.bits, .int .i64 (.lit 0)])) := by
  obtain ⟨⟨hc, hb1, hb2⟩, hat, hm⟩ := h
  rw [vg_text]
  obtain ⟨o1, o2, o3, o4, o5, o6⟩ := ok_unf hc
  unfold PArg.at at hat
  have hl := allB_len o3 o4
  rw [many_eq o3 o4, wr_i64 (n := a.c.pairs - 1) (by omega) (by omega), wr_i64 (n := (a.c.tracks + 7) / 8 - 1) (by omega) (by omega)]
  refine ⟨a.c, ⟨⟨rfl, rfl, rfl, rfl, rfl, rfl, trivial⟩, trivial⟩, hc, ?_⟩
  repeat' first | (intro _) | (refine And.intro ?_ ?_) | (refine Exists.intro a.c.tracks ?_)
  all_goals first | rfl | trivial | omega | (exfalso; omega) | (rename_i y hy hn; exact absurd (hm y hy) hn)
theorem poor_text (a : PArg) (h : a.poor) : scallI sxG Try.prog cf0 (sexec sxG Try.prog cf0 1000) 4 0 a.l (post (.tup [.nilSl, .int .i64 (.lit 2)])) := by
  obtain ⟨⟨hc, hb1, hb2⟩, hm⟩ := h
  rw [vp_text]
  obtain ⟨o1, o2, o3, o4, o5, o6⟩ := ok_unf hc
  unfold PArg.at at hm
  have hl := allB_len o3 o4
  rw [many_eq o3 o4, wr_i64 (n := a.c.pairs - 1) (by omega) (by omega), wr_i64 (n := (a.c.tracks + 7) / 8 - 1) (by omega) (by omega)]
  refine ⟨a.c, ⟨⟨rfl, rfl, rfl, rfl, rfl, rfl, trivial⟩, trivial⟩, hc, ?_⟩
  repeat' first | (intro _) | (refine And.intro ?_ ?_) | (refine Exists.intro a.c.tracks ?_)
  all_goals first | rfl | trivial | omega | (exfalso; omega) | (exfalso; rename_i y hy hn; exact hn (hm (by omega) y hy))
theorem bad_text (a : PArg) (h : ¬ a.c.ok) : scallI sxB Try.prog cf0 (sexec sxB Try.prog cf0 1000) 4 0 a.l (post (.tup [.nilSl, .int .i64 (.lit 8)])) := by
  rw [vb_text]; exact ⟨a.c, ⟨⟨rfl, rfl, rfl, rfl, rfl, rfl, trivial⟩, trivial⟩, h, trivial, rfl, trivial⟩
theorem good_rtext (a : PArg) (h : a.good) : scallI sxG Try.prog cf0 (sexec sxG Try.prog cf0 1000) 5 0 a.l (post (.tup [txtL a.pair a.n a.bits, .int .i64 (.lit 0)])) := by
  obtain ⟨⟨hc, hb1, hb2⟩, hat, hm⟩ := h
  rw [vg_rtext]
  obtain ⟨o1, o2, o3, o4, o5, o6⟩ := ok_unf hc
  unfold PArg.at at hat
  have hl := allB_len o3 o4
  have hin := allB_in o3 o4
  rw [wr_i64 (n := a.c.pairs - 1) (by omega) (by omega)]
  refine ⟨a.c, ⟨⟨rfl, rfl, rfl, rfl, rfl, rfl, trivial⟩, trivial⟩, hc, ?_⟩
  repeat' first | (intro _) | (refine And.intro ?_ ?_) | (refine Exists.intro a.c.tracks ?_)
  all_goals first | rfl | trivial | omega | (exfalso; omega) | (exfalso; rename_i y hy hn; exact hn ((mask_ref hb1 hb2 (hin y (List.mem_of_getElem? hy)).1 (hin y (List.mem_of_getElem? hy)).2).2 (hm y hy)))
theorem poor_rtext (a : PArg) (h : a.poor) : scallI sxG Try.prog cf0 (sexec sxG Try.prog cf0 1000) 5 0 a.l (post (.tup [.nilSl, .int .i64 (.lit 2)])) := by
  obtain ⟨⟨hc, hb1, hb2⟩, hm⟩ := h
  rw [vp_rtext]
  obtain ⟨o1, o2, o3, o4, o5, o6⟩ := ok_unf hc
  unfold PArg.at at hm
  have hl := allB_len o3 o4
  have hin := allB_in o3 o4
  rw [wr_i64 (n := a.c.pairs - 1) (by omega) (by omega)]
  refine ⟨a.c, ⟨⟨rfl, rfl, rfl, rfl, rfl, rfl, trivial⟩, trivial⟩, hc, ?_⟩
  repeat' first | (intro _) | (refine And.intro ?_ ?_) | (refine Exists.intro a.c.tracks ?_)
  all_goals first | rfl | trivial | omega | (exfalso; omega) | (exfalso; rename_i y hy hn; exact hn (fun e => hm (by omega) y hy ((mask_ref hb1 hb2 (hin y (List.mem_of_getElem? hy)).1 (hin y (List.mem_of_getElem? hy)).2).1 e)))
theorem bad_rtext (a : PArg) (h : ¬ a.c.ok) : scallI sxB Try.prog cf0 (sexec sxB Try.prog cf0 1000) 5 0 a.l (post (.tup [.nilSl, .int .i64 (.lit 8)])) := by
  rw [vb_rtext]; exact ⟨a.c, ⟨⟨rfl, rfl, rfl, rfl, rfl, rfl, trivial⟩, trivial⟩, h, trivial, rfl, trivial⟩
theorem good_at (a : PArg) (h : a.good) : scallI sxG Try.prog cf0 (sexec sxG Try.prog cf0 1000) 8 0 a.l3 (post (.tup [i64 a.sec, u8 a.msk, .int .i64 (.lit 0)])) := by
  obtain ⟨⟨hc, hb1, hb2⟩, hat, hm⟩ := h
  rw [vg_at]
  obtain ⟨o1, o2, o3, o4, o5, o6⟩ := ok_unf hc
  unfold PArg.at at hat
  have hl := allB_len o3 o4
  have hp : a.pair = 0 ∨ a.pair = 1 ∨ a.pair = 2 := by omega
  have ht : (a.c.tracks + 7) / 8 = 1 ∨ (a.c.tracks + 7) / 8 = 2 := by omega
  rw [many_eq o3 o4, wr_i64 (n := a.c.pairs - 1) (by omega) (by omega), wr_i64 (n := (a.c.tracks + 7) / 8 - 1) (by omega) (by omega)]
  refine ⟨a.c, ⟨⟨rfl, rfl, rfl, rfl, rfl, rfl, trivial⟩, trivial⟩, hc, ?_⟩
  repeat' first | (intro _) | (refine And.intro ?_ ?_) | (refine Exists.intro a.c.tracks ?_)
  all_goals first | rfl | trivial | omega | (exfalso; omega) | skip
  · unfold PArg.sec
    rcases hp with hp | hp | hp <;> rcases ht with ht | ht <;> rw [hp, ht] <;> simp (disch := omega) only [wr_i64] <;> omega
  · rename_i y hy
    unfold PArg.msk; rw [List.getD_eq_getElem?_getD, hy]; rfl
theorem good_ofp (a : PArg) (h : a.good) : scallI sxG Try.prog cf0 (sexec sxG Try.prog cf0 1000) 13 0 a.l3 (post (i64 a.sec)) := by
  obtain ⟨⟨hc, hb1, hb2⟩, hat, hm⟩ := h
  rw [vg_ofp]
  obtain ⟨o1, o2, o3, o4, o5, o6⟩ := ok_unf hc
  unfold PArg.at at hat
  have hp : a.pair = 0 ∨ a.pair = 1 ∨ a.pair = 2 := by omega
  unfold PArg.sec
  repeat' first | (intro _) | (refine And.intro ?_ ?_)
  all_goals first | (exfalso; omega) | skip
  · rw [show (a.c.tracks + 7) / 8 = 2 by omega]
    rcases hp with hp | hp | hp <;> rw [hp] <;> simp (disch := omega) only [wr_i64] <;> omega
  · rw [show (a.c.tracks + 7) / 8 = 1 by omega]
    rcases hp with hp | hp | hp <;> rw [hp] <;> simp (disch := omega) only [wr_i64] <;> omega

end
end Go.Proofs.Ytaflhojighiooaa.VM
