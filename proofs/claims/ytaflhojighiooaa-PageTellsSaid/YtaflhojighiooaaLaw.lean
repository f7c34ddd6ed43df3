/- Pages: the law, in modes. No conditions. -/
import Derived.Test.YtaflhojighiooaaProg
import Derived.KernelRfl
import Derived.Test.YtaflhojighiooaaModes
import Derived.Test.YtaflhojighiooaaText
namespace Go.Proofs.Ytaflhojighiooaa.VM
open Go Go.RowKit
set_option linter.unusedVariables false
set_option linter.unusedSimpArgs false
set_option maxRecDepth 100000
noncomputable section
theorem vl_poor (a : PArg) : (scallI (sxLN a 2) Try.prog cf0 (sexec (sxLN a 2) Try.prog cf0 1000) 3 0 a.l (post (.bool (.lit true)))) = (∃ (y1 : Unit),
  ((Conf.pairs (PArg.c a) = Conf.pairs (PArg.c a) ∧
        Conf.tracks (PArg.c a) = Conf.tracks (PArg.c a) ∧
          Conf.area (PArg.c a) = Conf.area (PArg.c a) ∧
            Conf.most (PArg.c a) = Conf.most (PArg.c a) ∧
              Conf.window (PArg.c a) = Conf.window (PArg.c a) ∧ Conf.quiet (PArg.c a) = Conf.quiet (PArg.c a) ∧ True) ∧
      PArg.pair a = PArg.pair a ∧ PArg.n a = PArg.n a ∧ PArg.bits a = PArg.bits a ∧ True) ∧
    True ∧
      ∃ (y2 : Unit),
        ((Conf.pairs (PArg.c a) = Conf.pairs (PArg.c a) ∧
              Conf.tracks (PArg.c a) = Conf.tracks (PArg.c a) ∧
                Conf.area (PArg.c a) = Conf.area (PArg.c a) ∧
                  Conf.most (PArg.c a) = Conf.most (PArg.c a) ∧
                    Conf.window (PArg.c a) = Conf.window (PArg.c a) ∧
                      Conf.quiet (PArg.c a) = Conf.quiet (PArg.c a) ∧ True) ∧
            PArg.pair a = PArg.pair a ∧ PArg.n a = PArg.n a ∧ PArg.bits a = PArg.bits a ∧ True) ∧
          True ∧
            ∃ (y3 : Unit),
              ((Conf.pairs (PArg.c a) = Conf.pairs (PArg.c a) ∧
                    Conf.tracks (PArg.c a) = Conf.tracks (PArg.c a) ∧
                      Conf.area (PArg.c a) = Conf.area (PArg.c a) ∧
                        Conf.most (PArg.c a) = Conf.most (PArg.c a) ∧
                          Conf.window (PArg.c a) = Conf.window (PArg.c a) ∧
                            Conf.quiet (PArg.c a) = Conf.quiet (PArg.c a) ∧ True) ∧
                  PArg.pair a = PArg.pair a ∧ PArg.n a = PArg.n a ∧ PArg.bits a = PArg.bits a ∧ True) ∧
                True ∧
                  ∃ (y4 : Unit),
                    ((Conf.pairs (PArg.c a) = Conf.pairs (PArg.c a) ∧
                          Conf.tracks (PArg.c a) = Conf.tracks (PArg.c a) ∧
                            Conf.area (PArg.c a) = Conf.area (PArg.c a) ∧
                              Conf.most (PArg.c a) = Conf.most (PArg.c a) ∧
                                Conf.window (PArg.c a) = Conf.window (PArg.c a) ∧
                                  Conf.quiet (PArg.c a) = Conf.quiet (PArg.c a) ∧ True) ∧
                        PArg.pair a = PArg.pair a ∧ PArg.n a = PArg.n a ∧ PArg.bits a = PArg.bits a ∧ True) ∧
                      True ∧ true = true) := by kernel_rfl
theorem vl_bad (a : PArg) : (scallI (sxLN a 8) Try.prog cf0 (sexec (sxLN a 8) Try.prog cf0 1000) 3 0 a.l (post (.bool (.lit true)))) = (∃ (y1 : Unit),
  ((Conf.pairs (PArg.c a) = Conf.pairs (PArg.c a) ∧
        Conf.tracks (PArg.c a) = Conf.tracks (PArg.c a) ∧
          Conf.area (PArg.c a) = Conf.area (PArg.c a) ∧
            Conf.most (PArg.c a) = Conf.most (PArg.c a) ∧
              Conf.window (PArg.c a) = Conf.window (PArg.c a) ∧ Conf.quiet (PArg.c a) = Conf.quiet (PArg.c a) ∧ True) ∧
      PArg.pair a = PArg.pair a ∧ PArg.n a = PArg.n a ∧ PArg.bits a = PArg.bits a ∧ True) ∧
    True ∧
      ∃ (y2 : Unit),
        ((Conf.pairs (PArg.c a) = Conf.pairs (PArg.c a) ∧
              Conf.tracks (PArg.c a) = Conf.tracks (PArg.c a) ∧
                Conf.area (PArg.c a) = Conf.area (PArg.c a) ∧
                  Conf.most (PArg.c a) = Conf.most (PArg.c a) ∧
                    Conf.window (PArg.c a) = Conf.window (PArg.c a) ∧
                      Conf.quiet (PArg.c a) = Conf.quiet (PArg.c a) ∧ True) ∧
            PArg.pair a = PArg.pair a ∧ PArg.n a = PArg.n a ∧ PArg.bits a = PArg.bits a ∧ True) ∧
          True ∧
            ∃ (y3 : Unit),
              ((Conf.pairs (PArg.c a) = Conf.pairs (PArg.c a) ∧
                    Conf.tracks (PArg.c a) = Conf.tracks (PArg.c a) ∧
                      Conf.area (PArg.c a) = Conf.area (PArg.c a) ∧
                        Conf.most (PArg.c a) = Conf.most (PArg.c a) ∧
                          Conf.window (PArg.c a) = Conf.window (PArg.c a) ∧
                            Conf.quiet (PArg.c a) = Conf.quiet (PArg.c a) ∧ True) ∧
                  PArg.pair a = PArg.pair a ∧ PArg.n a = PArg.n a ∧ PArg.bits a = PArg.bits a ∧ True) ∧
                True ∧
                  ∃ (y4 : Unit),
                    ((Conf.pairs (PArg.c a) = Conf.pairs (PArg.c a) ∧
                          Conf.tracks (PArg.c a) = Conf.tracks (PArg.c a) ∧
                            Conf.area (PArg.c a) = Conf.area (PArg.c a) ∧
                              Conf.most (PArg.c a) = Conf.most (PArg.c a) ∧
                                Conf.window (PArg.c a) = Conf.window (PArg.c a) ∧
                                  Conf.quiet (PArg.c a) = Conf.quiet (PArg.c a) ∧ True) ∧
                        PArg.pair a = PArg.pair a ∧ PArg.n a = PArg.n a ∧ PArg.bits a = PArg.bits a ∧ True) ∧
                      True ∧ true = true) := by kernel_rfl
theorem vl_plan (a : PArg) : (scallI (sxPl a) Try.prog cf0 (sexec (sxPl a) Try.prog cf0 1000) 6 0 a.l (post a.pl)) = (∃ (y1 : Unit),
  ((Conf.pairs (PArg.c a) = Conf.pairs (PArg.c a) ∧
        Conf.tracks (PArg.c a) = Conf.tracks (PArg.c a) ∧
          Conf.area (PArg.c a) = Conf.area (PArg.c a) ∧
            Conf.most (PArg.c a) = Conf.most (PArg.c a) ∧
              Conf.window (PArg.c a) = Conf.window (PArg.c a) ∧ Conf.quiet (PArg.c a) = Conf.quiet (PArg.c a) ∧ True) ∧
      PArg.pair a = PArg.pair a ∧ PArg.n a = PArg.n a ∧ PArg.bits a = PArg.bits a ∧ True) ∧
    True ∧
      ∃ (y2 : Unit),
        ((Conf.pairs (PArg.c a) = Conf.pairs (PArg.c a) ∧
              Conf.tracks (PArg.c a) = Conf.tracks (PArg.c a) ∧
                Conf.area (PArg.c a) = Conf.area (PArg.c a) ∧
                  Conf.most (PArg.c a) = Conf.most (PArg.c a) ∧
                    Conf.window (PArg.c a) = Conf.window (PArg.c a) ∧
                      Conf.quiet (PArg.c a) = Conf.quiet (PArg.c a) ∧ True) ∧
            PArg.pair a = PArg.pair a ∧ PArg.n a = PArg.n a ∧ True) ∧
          True ∧
            (PArg.sec a = PArg.sec a ∧
                ((32 : Nat) = (32 : Nat) ∧
                    (1 : Int) = (1 : Int) ∧
                      IntKind.wrap IntKind.u8 (PArg.pair a) = IntKind.wrap IntKind.u8 (PArg.pair a) ∧
                        IntKind.wrap IntKind.u8 (PArg.n a) = IntKind.wrap IntKind.u8 (PArg.n a) ∧
                          PArg.bits a = PArg.bits a ∧
                            (0 : Int) = (0 : Int) ∧
                              (0 : Int) = (0 : Int) ∧
                                (0 : Int) = (0 : Int) ∧
                                  (0 : Int) = (0 : Int) ∧
                                    (0 : Int) = (0 : Int) ∧
                                      (0 : Int) = (0 : Int) ∧
                                        (0 : Int) = (0 : Int) ∧
                                          (0 : Int) = (0 : Int) ∧
                                            (0 : Int) = (0 : Int) ∧
                                              (0 : Int) = (0 : Int) ∧
                                                (0 : Int) = (0 : Int) ∧
                                                  (0 : Int) = (0 : Int) ∧
                                                    (0 : Int) = (0 : Int) ∧
                                                      (0 : Int) = (0 : Int) ∧
                                                        (0 : Int) = (0 : Int) ∧
                                                          (0 : Int) = (0 : Int) ∧
                                                            (0 : Int) = (0 : Int) ∧
                                                              (0 : Int) = (0 : Int) ∧
                                                                (0 : Int) = (0 : Int) ∧
                                                                  (0 : Int) = (0 : Int) ∧
                                                                    (0 : Int) = (0 : Int) ∧
                                                                      (0 : Int) = (0 : Int) ∧
                                                                        (0 : Int) = (0 : Int) ∧
                                                                          (0 : Int) = (0 : Int) ∧
                                                                            (0 : Int) = (0 : Int) ∧
                                                                              (0 : Int) = (0 : Int) ∧
                                                                                (0 : Int) = (0 : Int) ∧
                                                                                  (0 : Int) = (0 : Int) ∧ True) ∧
                  True) ∧
              (0 : Int) = (0 : Int) ∧ True) := by kernel_rfl
theorem vl_rplan (a : PArg) : (scallI (sxPl a) Try.prog cf0 (sexec (sxPl a) Try.prog cf0 1000) 7 0 a.l (post a.pl)) = (∃ (y1 : Unit),
  ((Conf.pairs (PArg.c a) = Conf.pairs (PArg.c a) ∧
        Conf.tracks (PArg.c a) = Conf.tracks (PArg.c a) ∧
          Conf.area (PArg.c a) = Conf.area (PArg.c a) ∧
            Conf.most (PArg.c a) = Conf.most (PArg.c a) ∧
              Conf.window (PArg.c a) = Conf.window (PArg.c a) ∧ Conf.quiet (PArg.c a) = Conf.quiet (PArg.c a) ∧ True) ∧
      PArg.pair a = PArg.pair a ∧ PArg.n a = PArg.n a ∧ PArg.bits a = PArg.bits a ∧ True) ∧
    True ∧
      ∃ (y2 : Unit),
        ((Conf.pairs (PArg.c a) = Conf.pairs (PArg.c a) ∧
              Conf.tracks (PArg.c a) = Conf.tracks (PArg.c a) ∧
                Conf.area (PArg.c a) = Conf.area (PArg.c a) ∧
                  Conf.most (PArg.c a) = Conf.most (PArg.c a) ∧
                    Conf.window (PArg.c a) = Conf.window (PArg.c a) ∧
                      Conf.quiet (PArg.c a) = Conf.quiet (PArg.c a) ∧ True) ∧
            PArg.pair a = PArg.pair a ∧ PArg.n a = PArg.n a ∧ True) ∧
          True ∧
            (PArg.sec a = PArg.sec a ∧
                ((32 : Nat) = (32 : Nat) ∧
                    (1 : Int) = (1 : Int) ∧
                      IntKind.wrap IntKind.u8 (PArg.pair a) = IntKind.wrap IntKind.u8 (PArg.pair a) ∧
                        IntKind.wrap IntKind.u8 (PArg.n a) = IntKind.wrap IntKind.u8 (PArg.n a) ∧
                          PArg.bits a = PArg.bits a ∧
                            (0 : Int) = (0 : Int) ∧
                              (0 : Int) = (0 : Int) ∧
                                (0 : Int) = (0 : Int) ∧
                                  (0 : Int) = (0 : Int) ∧
                                    (0 : Int) = (0 : Int) ∧
                                      (0 : Int) = (0 : Int) ∧
                                        (0 : Int) = (0 : Int) ∧
                                          (0 : Int) = (0 : Int) ∧
                                            (0 : Int) = (0 : Int) ∧
                                              (0 : Int) = (0 : Int) ∧
                                                (0 : Int) = (0 : Int) ∧
                                                  (0 : Int) = (0 : Int) ∧
                                                    (0 : Int) = (0 : Int) ∧
                                                      (0 : Int) = (0 : Int) ∧
                                                        (0 : Int) = (0 : Int) ∧
                                                          (0 : Int) = (0 : Int) ∧
                                                            (0 : Int) = (0 : Int) ∧
                                                              (0 : Int) = (0 : Int) ∧
                                                                (0 : Int) = (0 : Int) ∧
                                                                  (0 : Int) = (0 : Int) ∧
                                                                    (0 : Int) = (0 : Int) ∧
                                                                      (0 : Int) = (0 : Int) ∧
                                                                        (0 : Int) = (0 : Int) ∧
                                                                          (0 : Int) = (0 : Int) ∧
                                                                            (0 : Int) = (0 : Int) ∧
                                                                              (0 : Int) = (0 : Int) ∧
                                                                                (0 : Int) = (0 : Int) ∧
                                                                                  (0 : Int) = (0 : Int) ∧ True) ∧
                  True) ∧
              (0 : Int) = (0 : Int) ∧ True) := by kernel_rfl
theorem vl_good (a : PArg) : (scallI (sxLG a) Try.prog cf0 (sexec (sxLG a) Try.prog cf0 1000) 3 0 a.l (post (.bool (.lit true)))) = (∃ (y1 : Unit),
  ((Conf.pairs (PArg.c a) = Conf.pairs (PArg.c a) ∧
        Conf.tracks (PArg.c a) = Conf.tracks (PArg.c a) ∧
          Conf.area (PArg.c a) = Conf.area (PArg.c a) ∧
            Conf.most (PArg.c a) = Conf.most (PArg.c a) ∧
              Conf.window (PArg.c a) = Conf.window (PArg.c a) ∧ Conf.quiet (PArg.c a) = Conf.quiet (PArg.c a) ∧ True) ∧
      PArg.pair a = PArg.pair a ∧ PArg.n a = PArg.n a ∧ PArg.bits a = PArg.bits a ∧ True) ∧
    True ∧
      ∃ (y2 : Unit),
        ((Conf.pairs (PArg.c a) = Conf.pairs (PArg.c a) ∧
              Conf.tracks (PArg.c a) = Conf.tracks (PArg.c a) ∧
                Conf.area (PArg.c a) = Conf.area (PArg.c a) ∧
                  Conf.most (PArg.c a) = Conf.most (PArg.c a) ∧
                    Conf.window (PArg.c a) = Conf.window (PArg.c a) ∧
                      Conf.quiet (PArg.c a) = Conf.quiet (PArg.c a) ∧ True) ∧
            PArg.pair a = PArg.pair a ∧ PArg.n a = PArg.n a ∧ PArg.bits a = PArg.bits a ∧ True) ∧
          True ∧
            ∃ (y3 : Unit),
              ((Conf.pairs (PArg.c a) = Conf.pairs (PArg.c a) ∧
                    Conf.tracks (PArg.c a) = Conf.tracks (PArg.c a) ∧
                      Conf.area (PArg.c a) = Conf.area (PArg.c a) ∧
                        Conf.most (PArg.c a) = Conf.most (PArg.c a) ∧
                          Conf.window (PArg.c a) = Conf.window (PArg.c a) ∧
                            Conf.quiet (PArg.c a) = Conf.quiet (PArg.c a) ∧ True) ∧
                  PArg.pair a = PArg.pair a ∧ PArg.n a = PArg.n a ∧ PArg.bits a = PArg.bits a ∧ True) ∧
                True ∧
                  ∃ (y4 : Unit),
                    ((Conf.pairs (PArg.c a) = Conf.pairs (PArg.c a) ∧
                          Conf.tracks (PArg.c a) = Conf.tracks (PArg.c a) ∧
                            Conf.area (PArg.c a) = Conf.area (PArg.c a) ∧
                              Conf.most (PArg.c a) = Conf.most (PArg.c a) ∧
                                Conf.window (PArg.c a) = Conf.window (PArg.c a) ∧
                                  Conf.quiet (PArg.c a) = Conf.quiet (PArg.c a) ∧ True) ∧
                        PArg.pair a = PArg.pair a ∧ PArg.n a = PArg.n a ∧ PArg.bits a = PArg.bits a ∧ True) ∧
                      True ∧
                        isBytes
                            [(1 : Int), IntKind.wrap IntKind.u8 (PArg.pair a), IntKind.wrap IntKind.u8 (PArg.n a),
                              PArg.bits a, (0 : Int), (0 : Int), (0 : Int), (0 : Int), (0 : Int), (0 : Int), (0 : Int),
                              (0 : Int), (0 : Int), (0 : Int), (0 : Int), (0 : Int), (0 : Int), (0 : Int), (0 : Int),
                              (0 : Int), (0 : Int), (0 : Int), (0 : Int), (0 : Int), (0 : Int), (0 : Int), (0 : Int),
                              (0 : Int), (0 : Int), (0 : Int), (0 : Int), (0 : Int)] ∧
                          isBytes
                              [(1 : Int), IntKind.wrap IntKind.u8 (PArg.pair a), IntKind.wrap IntKind.u8 (PArg.n a),
                                PArg.bits a, (0 : Int), (0 : Int), (0 : Int), (0 : Int), (0 : Int), (0 : Int),
                                (0 : Int), (0 : Int), (0 : Int), (0 : Int), (0 : Int), (0 : Int), (0 : Int), (0 : Int),
                                (0 : Int), (0 : Int), (0 : Int), (0 : Int), (0 : Int), (0 : Int), (0 : Int), (0 : Int),
                                (0 : Int), (0 : Int), (0 : Int), (0 : Int), (0 : Int), (0 : Int)] ∧
                            ([(1 : Int), IntKind.wrap IntKind.u8 (PArg.pair a), IntKind.wrap IntKind.u8 (PArg.n a),
                                    PArg.bits a, (0 : Int), (0 : Int), (0 : Int), (0 : Int), (0 : Int), (0 : Int),
                                    (0 : Int), (0 : Int), (0 : Int), (0 : Int), (0 : Int), (0 : Int), (0 : Int),
                                    (0 : Int), (0 : Int), (0 : Int), (0 : Int), (0 : Int), (0 : Int), (0 : Int),
                                    (0 : Int), (0 : Int), (0 : Int), (0 : Int), (0 : Int), (0 : Int), (0 : Int),
                                    (0 : Int)] =
                                  [(1 : Int), IntKind.wrap IntKind.u8 (PArg.pair a), IntKind.wrap IntKind.u8 (PArg.n a),
                                    PArg.bits a, (0 : Int), (0 : Int), (0 : Int), (0 : Int), (0 : Int), (0 : Int),
                                    (0 : Int), (0 : Int), (0 : Int), (0 : Int), (0 : Int), (0 : Int), (0 : Int),
                                    (0 : Int), (0 : Int), (0 : Int), (0 : Int), (0 : Int), (0 : Int), (0 : Int),
                                    (0 : Int), (0 : Int), (0 : Int), (0 : Int), (0 : Int), (0 : Int), (0 : Int),
                                    (0 : Int)] →
                                (PArg.sec a = PArg.sec a →
                                    isBytes
                                        [(1 : Int), IntKind.wrap IntKind.u8 (PArg.pair a),
                                          IntKind.wrap IntKind.u8 (PArg.n a), PArg.bits a, (0 : Int), (0 : Int),
                                          (0 : Int), (0 : Int), (0 : Int), (0 : Int), (0 : Int), (0 : Int), (0 : Int),
                                          (0 : Int), (0 : Int), (0 : Int), (0 : Int), (0 : Int), (0 : Int), (0 : Int),
                                          (0 : Int), (0 : Int), (0 : Int), (0 : Int), (0 : Int), (0 : Int), (0 : Int),
                                          (0 : Int), (0 : Int), (0 : Int), (0 : Int), (0 : Int)] ∧
                                      isBytes
                                          [(1 : Int), IntKind.wrap IntKind.u8 (PArg.pair a),
                                            IntKind.wrap IntKind.u8 (PArg.n a), PArg.bits a, (0 : Int), (0 : Int),
                                            (0 : Int), (0 : Int), (0 : Int), (0 : Int), (0 : Int), (0 : Int), (0 : Int),
                                            (0 : Int), (0 : Int), (0 : Int), (0 : Int), (0 : Int), (0 : Int), (0 : Int),
                                            (0 : Int), (0 : Int), (0 : Int), (0 : Int), (0 : Int), (0 : Int), (0 : Int),
                                            (0 : Int), (0 : Int), (0 : Int), (0 : Int), (0 : Int)] ∧
                                        ([(1 : Int), IntKind.wrap IntKind.u8 (PArg.pair a),
                                                IntKind.wrap IntKind.u8 (PArg.n a), PArg.bits a, (0 : Int), (0 : Int),
                                                (0 : Int), (0 : Int), (0 : Int), (0 : Int), (0 : Int), (0 : Int),
                                                (0 : Int), (0 : Int), (0 : Int), (0 : Int), (0 : Int), (0 : Int),
                                                (0 : Int), (0 : Int), (0 : Int), (0 : Int), (0 : Int), (0 : Int),
                                                (0 : Int), (0 : Int), (0 : Int), (0 : Int), (0 : Int), (0 : Int),
                                                (0 : Int), (0 : Int)] =
                                              [(1 : Int), IntKind.wrap IntKind.u8 (PArg.pair a),
                                                IntKind.wrap IntKind.u8 (PArg.n a), PArg.bits a, (0 : Int), (0 : Int),
                                                (0 : Int), (0 : Int), (0 : Int), (0 : Int), (0 : Int), (0 : Int),
                                                (0 : Int), (0 : Int), (0 : Int), (0 : Int), (0 : Int), (0 : Int),
                                                (0 : Int), (0 : Int), (0 : Int), (0 : Int), (0 : Int), (0 : Int),
                                                (0 : Int), (0 : Int), (0 : Int), (0 : Int), (0 : Int), (0 : Int),
                                                (0 : Int), (0 : Int)] →
                                            true = true) ∧
                                          (¬[(1 : Int), IntKind.wrap IntKind.u8 (PArg.pair a),
                                                  IntKind.wrap IntKind.u8 (PArg.n a), PArg.bits a, (0 : Int), (0 : Int),
                                                  (0 : Int), (0 : Int), (0 : Int), (0 : Int), (0 : Int), (0 : Int),
                                                  (0 : Int), (0 : Int), (0 : Int), (0 : Int), (0 : Int), (0 : Int),
                                                  (0 : Int), (0 : Int), (0 : Int), (0 : Int), (0 : Int), (0 : Int),
                                                  (0 : Int), (0 : Int), (0 : Int), (0 : Int), (0 : Int), (0 : Int),
                                                  (0 : Int), (0 : Int)] =
                                                [(1 : Int), IntKind.wrap IntKind.u8 (PArg.pair a),
                                                  IntKind.wrap IntKind.u8 (PArg.n a), PArg.bits a, (0 : Int), (0 : Int),
                                                  (0 : Int), (0 : Int), (0 : Int), (0 : Int), (0 : Int), (0 : Int),
                                                  (0 : Int), (0 : Int), (0 : Int), (0 : Int), (0 : Int), (0 : Int),
                                                  (0 : Int), (0 : Int), (0 : Int), (0 : Int), (0 : Int), (0 : Int),
                                                  (0 : Int), (0 : Int), (0 : Int), (0 : Int), (0 : Int), (0 : Int),
                                                  (0 : Int), (0 : Int)] →
                                            false = true)) ∧
                                  (¬PArg.sec a = PArg.sec a → false = true)) ∧
                              (¬[(1 : Int), IntKind.wrap IntKind.u8 (PArg.pair a), IntKind.wrap IntKind.u8 (PArg.n a),
                                      PArg.bits a, (0 : Int), (0 : Int), (0 : Int), (0 : Int), (0 : Int), (0 : Int),
                                      (0 : Int), (0 : Int), (0 : Int), (0 : Int), (0 : Int), (0 : Int), (0 : Int),
                                      (0 : Int), (0 : Int), (0 : Int), (0 : Int), (0 : Int), (0 : Int), (0 : Int),
                                      (0 : Int), (0 : Int), (0 : Int), (0 : Int), (0 : Int), (0 : Int), (0 : Int),
                                      (0 : Int)] =
                                    [(1 : Int), IntKind.wrap IntKind.u8 (PArg.pair a),
                                      IntKind.wrap IntKind.u8 (PArg.n a), PArg.bits a, (0 : Int), (0 : Int), (0 : Int),
                                      (0 : Int), (0 : Int), (0 : Int), (0 : Int), (0 : Int), (0 : Int), (0 : Int),
                                      (0 : Int), (0 : Int), (0 : Int), (0 : Int), (0 : Int), (0 : Int), (0 : Int),
                                      (0 : Int), (0 : Int), (0 : Int), (0 : Int), (0 : Int), (0 : Int), (0 : Int),
                                      (0 : Int), (0 : Int), (0 : Int), (0 : Int)] →
                                false = true)) := by kernel_rfl
theorem isb {x y z : Int} (hx : 0 ≤ x ∧ x < 256) (hy : 0 ≤ y ∧ y < 256) (hz : 0 ≤ z ∧ z < 256) : isBytes [1, x, y, z, 0, 0, 0, 0, 0, 0, 0, 0, 0, 0, 0, 0, 0, 0, 0, 0, 0, 0, 0, 0, 0, 0, 0, 0, 0, 0, 0, 0] := by
  have k0 : (0 : Int) ≤ 0 ∧ (0 : Int) < 256 := by omega
  have k1 : (0 : Int) ≤ 1 ∧ (1 : Int) < 256 := by omega
  have key : ∀ {a : Int} {l : List Int}, (0 ≤ a ∧ a < 256) → isBytes l → isBytes (a :: l) := fun ha hl v hv => by
    rcases List.mem_cons.1 hv with rfl | hv
    · exact ha
    · exact hl v hv
  refine key k1 (key hx (key hy (key hz ?_)))
  have kn : isBytes [] := fun v hv => by cases hv
  repeat' first | exact kn | refine key k0 ?_
theorem wr8 (n : Int) : 0 ≤ IntKind.wrap IntKind.u8 n ∧ IntKind.wrap IntKind.u8 n < 256 := by
  have : IntKind.u8.wrap n = n % 256 := by simp [IntKind.wrap, IntKind.bits, IntKind.signed]
  rw [this]; omega
theorem sxG_ok : SXOK Try.prog cf0 sxG := sxok_of (all_cons (ct_vc (m := 1000) sx0_ok fun c h => check_ok c h) (all_cons (ct_vc (m := 1000) sx0_ok fun c h => may_ok c h) (all_cons all_ct (all_cons full_ct all_nil)))) all_nil
theorem sxB_ok : SXOK Try.prog cf0 sxB := sxok_of (all_cons (ct_vc (m := 1000) sx0_ok fun c h => check_bad c h) (all_cons (ct_vc (m := 1000) sx0_ok fun c h => may_bad c h) all_nil)) all_nil
theorem sxPl_ok (a : PArg) (h : a.good) : SXOK Try.prog cf0 (sxPl a) := sxok_of (all_cons (ct_vc (m := 1000) sxG_ok fun _ _ => good_text a h) (all_cons (ct_vc (m := 1000) sxG_ok fun _ _ => good_rtext a h) (all_cons (ct_vc (m := 1000) sxG_ok fun _ _ => good_at a h) (all_cons (ct_vc (m := 1000) sxG_ok fun _ _ => good_ofp a h) all_nil)))) all_nil
theorem plan_ok (a : PArg) : scallI (sxPl a) Try.prog cf0 (sexec (sxPl a) Try.prog cf0 1000) 6 0 a.l (post a.pl) := by
  rw [vl_plan]
  repeat' first | (refine Exists.intro () ?_) | (refine And.intro ?_ ?_)
  all_goals first | rfl | trivial
theorem rplan_ok (a : PArg) : scallI (sxPl a) Try.prog cf0 (sexec (sxPl a) Try.prog cf0 1000) 7 0 a.l (post a.pl) := by
  rw [vl_rplan]
  repeat' first | (refine Exists.intro () ?_) | (refine And.intro ?_ ?_)
  all_goals first | rfl | trivial
theorem sxLG_ok (a : PArg) (h : a.good) : SXOK Try.prog cf0 (sxLG a) := sxok_of (all_cons (ct_vc (m := 1000) sxG_ok fun _ _ => good_text a h) (all_cons (ct_vc (m := 1000) sxG_ok fun _ _ => good_rtext a h) (all_cons (ct_vc (m := 1000) (sxPl_ok a h) fun _ _ => plan_ok a) (all_cons (ct_vc (m := 1000) (sxPl_ok a h) fun _ _ => rplan_ok a) all_nil)))) all_nil
theorem sxLP_ok (a : PArg) (h : a.poor) : SXOK Try.prog cf0 (sxLN a 2) := sxok_of (all_cons (ct_vc (m := 1000) sxG_ok fun _ _ => poor_text a h) (all_cons (ct_vc (m := 1000) sxG_ok fun _ _ => poor_rtext a h) all_nil)) all_nil
theorem sxLB_ok (a : PArg) (h : ¬ a.c.ok) : SXOK Try.prog cf0 (sxLN a 8) := sxok_of (all_cons (ct_vc (m := 1000) sxB_ok fun _ _ => bad_text a h) (all_cons (ct_vc (m := 1000) sxB_ok fun _ _ => bad_rtext a h) all_nil)) all_nil
/-- The law, whatever its arguments. -/
theorem page_tells (a : PArg) (hb1 : 0 ≤ a.bits) (hb2 : a.bits ≤ 255) : ∃ sx : SX, SXOK Try.prog cf0 sx ∧ scallI sx Try.prog cf0 (sexec sx Try.prog cf0 1000) 3 0 a.l (post (.bool (.lit true))) := by
  by_cases hc : a.c.ok
  · by_cases hg : a.at ∧ ∀ y, (allB a.c.tracks)[a.n.toNat]? = some y → mask a.bits y
    · refine ⟨_, sxLG_ok a ⟨⟨hc, hb1, hb2⟩, hg⟩, ?_⟩
      have hs := isb (wr8 a.pair) (wr8 a.n) (show 0 ≤ a.bits ∧ a.bits < 256 by omega)
      rw [vl_good]
      repeat' first | (exact hs) | (refine Exists.intro () ?_) | (refine And.intro ?_ ?_) | (intro _)
      all_goals first | rfl | trivial | exact hs | (rename_i hx; exact absurd rfl hx)
    · refine ⟨_, sxLP_ok a ⟨⟨hc, hb1, hb2⟩, fun h1 y hy hm => hg ⟨h1, fun z hz => by rw [hy] at hz; cases hz; exact hm⟩⟩, ?_⟩
      rw [vl_poor]
      repeat' first | (refine Exists.intro () ?_) | (refine And.intro ?_ ?_)
      all_goals first | rfl | trivial
  · refine ⟨_, sxLB_ok a hc, ?_⟩
    rw [vl_bad]
    repeat' first | (refine Exists.intro () ?_) | (refine And.intro ?_ ?_)
    all_goals first | rfl | trivial

end
end Go.Proofs.Ytaflhojighiooaa.VM
