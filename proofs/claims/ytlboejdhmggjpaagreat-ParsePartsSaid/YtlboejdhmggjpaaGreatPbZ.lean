/- Plain: the parser ends. -/
import Derived.Test.YtlboejdhmggjpaaGreatPbB
import Derived.Test.YtlboejdhmggjpaaGreatPbC
import Derived.Test.YtlboejdhmggjpaaGreatPbD
import Derived.Test.YtlboejdhmggjpaaGreatPbE
import Derived.Test.YtlboejdhmggjpaaGreatPbF
import Derived.Test.YtlboejdhmggjpaaGreatPbG
import Derived.Test.YtlboejdhmggjpaaGreatPbH
set_option linter.all false
namespace Go.Proofs.YtlboejdhmggjpaaGreat.Pp
theorem good (l : List Ct) (base : Bs → Bool) : ∀ n, Ih l base n
 | 0 => fun tg sh s _ _ _ hp => absurd hp.2.2.2.2.2.2 (Nat.not_lt_zero _)
 | n + 1 => fun tg sh s h1 h2 hT hp => by
  cases tg <;> first
   | exact goodB (good l base n) _ rfl sh s h1 h2 hT hp
   | exact goodC (good l base n) _ rfl sh s h1 h2 hT hp
   | exact goodD (good l base n) _ rfl sh s h1 h2 hT hp
   | exact goodE (good l base n) _ rfl sh s h1 h2 hT hp
   | exact goodF (good l base n) _ rfl sh s h1 h2 hT hp
   | exact goodG (good l base n) _ rfl sh s h1 h2 hT hp
   | exact goodH (good l base n) _ rfl sh s h1 h2 hT hp
   | exact good_assign (good l base n) sh s h1 h2 hT hp
   | exact good_size (good l base n) _ sh s h1 h2 hT hp
   | exact good_item (good l base n) sh s h1 h2 hT hp
   | exact good_itemR (good l base n) sh s h1 h2 hT hp
   | exact good_declarator (good l base n) _ sh s h1 h2 hT hp
   | exact good_starsR (good l base n) _ sh s h1 h2 hT hp
   | exact good_suffixes (good l base n) _ _ sh s h1 h2 hT hp
   | exact good_array (good l base n) sh s h1 h2 hT hp
   | exact good_param (good l base n) sh s h1 h2 hT hp
   | exact good_external (good l base n) sh s h1 h2 hT hp
   | exact good_body (good l base n) _ sh s h1 h2 hT hp
   | exact good_itemsR (good l base n) sh s h1 h2 hT hp
   | exact good_statement (good l base n) sh s h1 h2 hT hp
   | exact good_specsR (good l base n) _ _ _ _ sh s h1 h2 hT hp
   | exact good_typeName (good l base n) sh s h1 h2 hT hp
   | exact good_unit (good l base n) sh s h1 h2 hT hp
end Go.Proofs.YtlboejdhmggjpaaGreat.Pp
