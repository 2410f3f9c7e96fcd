-- written by the kit's print, driven by this session's wip/tools/pdrive.py
import Derived.Test.YtihfmphaajdhnaaP0
import Derived.Test.YtihfmphaajdhnaaP1
import Derived.Test.YtihfmphaajdhnaaP2
import Derived.Test.YtihfmphaajdhnaaP3
namespace Go.Proofs.Ytihfmphaajdhnaa.P
open Go.RowKit Go.Proofs.YtihfmphaajdhnaaW.PrintWords Go.Proofs.YtihfmphaajdhnaaW.PrintLast Go.Proofs.YtihfmphaajdhnaaW.PrintMore
attribute [local go_sem] max2_int min2_int max_two min_two max_three min_three max_four min_four   -- for this text's walks alone
set_option linter.unusedVariables false
set_option linter.unusedSimpArgs false

end Go.Proofs.Ytihfmphaajdhnaa.P
